/- More kinds of values of which laws speak: slices of bytes in slices. -/
import Derived.Test.YtffedfdhhglmkaaGreatV7
namespace Go.Proofs.YtffedfdhhglmkaaGreat
open Go.Sx Go.RowKit
open Go.ChangeShapes Go.WideShapes Go.ChangeAt Go.Deep

structure SR where
  d : Sl
  data : List Int
instance : Inhabited SR := ⟨⟨⟨none, 0, 0⟩, []⟩⟩
def SR.cells (r : SR) : List Value := [.slice r.d.a r.d.n r.d.c]
theorem scells_len (r : SR) : r.cells.length = 1 := rfl
theorem scells_one (r : SR) : ∀ v ∈ r.cells, oneC v = true := by simp [SR.cells, oneC]
structure SsR (w : World) (s : Sl) (rs : List SR) : Prop where
  of : SlOf w s 1 SR.cells rs
  ok : ∀ r ∈ rs, BSl w r.d r.data
theorem SsR.at {w w' : World} {ls : List Blk} {s : Sl} {rs : List SR} (h : SsR w s rs) (hA : At w w' ls) : SsR w' s rs := ⟨h.of.below hA.below, fun r hr => (h.ok r hr).at hA⟩
theorem SsR.n {w : World} {s : Sl} {rs : List SR} (h : SsR w s rs) : s.n = rs.length := h.of.n
theorem SsR.get {w : World} {s : Sl} {rs : List SR} (h : SsR w s rs) {i : Nat} (hi : i < rs.length) : ∃ r p, rs[i]? = some r ∧ r ∈ rs ∧ s.a = some p ∧ BSl w r.d r.data ∧ ldOk w 1 (p.add (i * 1)) .slice r.d := by
  have hk : rs[i]? = some rs[i] := List.getElem?_eq_getElem hi
  obtain ⟨p, hp, _⟩ := h.of.cell hk
  refine ⟨_, p, hk, List.getElem_mem hi, hp, h.ok _ (List.getElem_mem hi), ?_⟩
  have := h.of.fld hk hp (n := 1) 0 (sh := .slice) (y := rs[i].d) rfl (by simp [Sh.emb])
  rwa [Nat.add_zero] at this

/-- Data that are one's own. -/
inductive OwnSD : List SR → List Blk → Prop where
  | nil : OwnSD [] []
  | cons {b : SR} {r : List SR} {L1 L2 : List Blk} : OwnS ty_uint8 1 b.d (u8s b.data) L1 → OwnSD r L2 → OwnSD (b :: r) (L1 ++ L2)
theorem OwnSD.append {r t : List SR} {L M : List Blk} (h : OwnSD r L) (k : OwnSD t M) : OwnSD (r ++ t) (L ++ M) := by
  induction h with
  | nil => exact k
  | cons h1 _ ih => rw [List.append_assoc]; exact .cons h1 ih
theorem OwnSD.snoc {r : List SR} {b : SR} {L M : List Blk} (h : OwnSD r L) (k : OwnS ty_uint8 1 b.d (u8s b.data) M) : OwnSD (r ++ [b]) (L ++ M) := by
  have := h.append (OwnSD.cons k .nil)
  simpa using this
theorem OwnSD.ok {w0 w : World} {ls L : List Blk} {rs : List SR} (h : OwnSD rs L) (hA : At w0 w ls) (hs : L.Sublist ls) (hb : ∀ x ∈ rs.map SR.data, bytesOk x) : ∀ r ∈ rs, BSl w r.d r.data := by
  induction h with
  | nil => simp
  | @cons b r L1 L2 h1 h2 ih =>
    intro x hx
    cases hx with
    | head => exact ownS_bytes h1 hA ((List.sublist_append_left _ _).trans hs) (hb b.data (by simp))
    | tail _ hx => exact ih ((List.sublist_append_right _ _).trans hs) (fun b hx => hb b (by simp only [List.map_cons, List.mem_cons]; exact .inr hx)) x hx
def OwnSs (s : Sl) (rs : List SR) (L : List Blk) : Prop := ∃ Lb Ld, L = Lb ++ Ld ∧ OwnS ty_sl_uint8 1 s (rs.flatMap SR.cells) Lb ∧ OwnSD rs Ld
theorem OwnSs.rd {w0 w : World} {ls L : List Blk} {s : Sl} {rs : List SR} (h : OwnSs s rs L) (hA : At w0 w (L ++ ls)) (hb : ∀ x ∈ rs.map SR.data, bytesOk x) : SsR w s rs := by
  obtain ⟨Lb, Ld, rfl, h1, h2⟩ := h
  rw [List.append_assoc] at hA
  exact ⟨h1.of hA (List.sublist_append_left _ _) (fun b _ => scells_len b) (by omega), h2.ok hA ((List.sublist_append_left _ _).trans (List.sublist_append_right _ _)) hb⟩
theorem T_sl_slu8 : SlT Tryz.prog ty_sl_sl_uint8 ty_sl_uint8 1 24 := slT_of (by kernel_rfl)

def RdByteSS (w : World) (s : Sl) (X : List (List Int)) : Prop := ∃ rs, rs.map SR.data = X ∧ SsR w s rs
theorem RdByteSS.at {w w' : World} {ls : List Blk} {s : Sl} {X : List (List Int)} (h : RdByteSS w s X) (hA : At w w' ls) : RdByteSS w' s X := let ⟨rs, h1, h2⟩ := h; ⟨rs, h1, h2.at hA⟩
def OwnByteSS (s : Sl) (X : List (List Int)) (L : List Blk) : Prop := ∃ rs, rs.map SR.data = X ∧ OwnSs s rs L ∧ ∀ x ∈ X, bytesOk x
theorem OwnByteSS.rd {w0 w : World} {s : Sl} {X : List (List Int)} {L ls : List Blk} (h : OwnByteSS s X L) (hA : At w0 w (L ++ ls)) : RdByteSS w s X := let ⟨rs, h1, h2, h3⟩ := h; ⟨rs, h1, h2.rd hA (h1 ▸ h3)⟩
theorem OwnByteSS.none : OwnByteSS ⟨none, 0, 0⟩ [] [] := ⟨[], rfl, ⟨[], [], rfl, OwnS.nil _ _, .nil⟩, by simp⟩
def RawByteSS (w : World) (s : Sl) (X : List (List Int)) : Prop := ∃ rs, rs.map SR.data = X ∧ SsR w s rs ∧ s.c ≤ maxLen ∧ ∀ r ∈ rs, r.d.c ≤ maxLen
theorem RawByteSS.rd {w : World} {s : Sl} {X : List (List Int)} (h : RawByteSS w s X) : RdByteSS w s X := let ⟨rs, h1, h2, _⟩ := h; ⟨rs, h1, h2⟩
def sumL (X : List (List Int)) : Nat := (X.map List.length).sum
theorem sumL_cons (x : List Int) (X : List (List Int)) : sumL (x :: X) = x.length + sumL X := by simp [sumL]
theorem sumL_append (X Y : List (List Int)) : sumL (X ++ Y) = sumL X + sumL Y := by simp [sumL]
theorem sumL_take {X : List (List Int)} {j : Nat} {x : List Int} (h : X[j]? = some x) : sumL (X.take (j + 1)) = sumL (X.take j) + x.length := by rw [take_succ_get h, sumL_append]; simp [sumL]
theorem sumL_le (X : List (List Int)) (j : Nat) : sumL (X.take j) ≤ sumL X := by
  have := congrArg sumL (List.take_append_drop j X)
  rw [sumL_append] at this
  omega
def sizeByteSS (X : List (List Int)) : Nat := X.length + sumL X
def msizeByteSS (X : List (List Int)) : Nat := sumL X
def markByteSS : Int → List (List Int) → List (List Int)
  | _, [] => []
  | k, x :: r => marks k x.length :: markByteSS (k + x.length) r
theorem markByteSS_len (k : Int) (X : List (List Int)) : (markByteSS k X).length = X.length := by
  induction X generalizing k with
  | nil => rfl
  | cons x r ih => simp [markByteSS, ih]
theorem markByteSS_append (k : Int) (X Y : List (List Int)) : markByteSS k (X ++ Y) = markByteSS k X ++ markByteSS (k + sumL X) Y := by
  induction X generalizing k with
  | nil => simp [markByteSS, sumL]
  | cons x r ih =>
    rw [List.cons_append]
    show marks k x.length :: markByteSS (k + x.length) (r ++ Y) = (marks k x.length :: markByteSS (k + x.length) r) ++ _
    rw [ih, List.cons_append, sumL_cons]
    congr 3
    omega
theorem markByteSS_ok (k : Int) (X : List (List Int)) : ∀ x ∈ markByteSS k X, bytesOk x := by
  induction X generalizing k with
  | nil => intro x hx; cases hx
  | cons y r ih =>
    intro x hx
    rcases List.mem_cons.1 hx with rfl | hx
    · exact marks_ok _ _
    · exact ih _ x hx
theorem smap_get {rs : List SR} {X : List (List Int)} (h : rs.map SR.data = X) {i : Nat} {r : SR} (hr : rs[i]? = some r) : X[i]? = some r.data := by rw [← h, List.getElem?_map, hr]; rfl

theorem c_szByteSSV {w : World} {s : Sl} {X : List (List Int)} (h : RawByteSS w s X) {w1 : World} (hb : Below w.heap.size w w1) (m : Int) (hm : 0 ≤ m ∧ m ≤ 1073741824) : Ret Tryz.prog n_laws_szByteSS [.slice s.a s.n s.c, .int .i64 m] w1 [.int .i64] (fun x _ => x = if (sizeByteSS X : Int) ≤ m then m - sizeByteSS X else -1) := laws_szByteSS_calls s m (by
  unfold laws_szByteSS
  obtain ⟨rs, hX, hs, hc, hd⟩ := h
  have hn := hs.n
  have hXl : X.length = rs.length := by rw [← hX]; simp
  have hcap := hs.of.cap
  have hsz : sizeByteSS X = X.length + sumL X := rfl
  unfold maxLen at hc hd
  rw [w64 (by omega) (by omega)]
  refine r_if (m - (s.n : Int) < 0) rfl (fun h1 => ?_) (fun h1 => ?_)
  · exact r_ret (At.refl w1) (-1 : Int) rfl (by rw [if_neg (by omega)])
  have hs1 : SsR w1 s rs := ⟨hs.of.below hb, fun r hr => (hs.ok r hr).below hb⟩
  refine r_loop (σ := Int × Int) (fun i w' => ∃ j : Nat, i = (m - s.n - (sumL (X.take j) : Nat), (j : Int)) ∧ j ≤ rs.length ∧ 0 ≤ i.1 ∧ At w1 w' []) (fun i _ => (s.n - i.2).toNat) (m - s.n, 0) rfl ⟨0, by simp [sumL], by omega, by dsimp only; omega, At.refl w1⟩ ?_
  rintro i w2 ⟨j, rfl, hj, h0, h⟩
  refine r_any fun _ => ?_
  dsimp only at h0 ⊢
  refine r_if ((j : Int) < (s.n : Int)) rfl (fun hlt => ?_) (fun hge => ?_)
  · obtain ⟨r, p, hr, hrm, hp, hok, hld⟩ := (hs1.at h).get (i := j) (by omega)
    have hx := smap_get hX hr
    have hrn := hok.n
    have hrc := hok.cap
    have hrd := hd r hrm
    refine r_ix p hp (by omega) (by omega) ?_
    refine r_ldN r.d (by simp only [Int.toNat_natCast]; exact hld) ?_
    refine r_callp (c_szByteS r.d _ ⟨h0, by omega⟩ (by omega)) ?_
    have hst := sumL_take hx
    have hle := sumL_le X (j + 1)
    by_cases hc1 : (r.d.n : Int) ≤ m - s.n - (sumL (X.take j) : Nat)
    · rw [if_pos hc1]
      refine r_if (m - (s.n : Int) - (sumL (X.take j) : Nat) - r.d.n < 0) rfl (fun hh => by omega) (fun _ => ?_)
      refine ⟨(m - s.n - (sumL (X.take (j + 1)) : Nat), ((j + 1 : Nat) : Int)), by rw [w64 (by omega) (by omega), hst]; simp only [embL, Sh.emb]; congr 2; omega, ⟨j + 1, rfl, by omega, by dsimp only; rw [hst]; omega, h⟩, by dsimp only; omega⟩
    · rw [if_neg hc1]
      refine r_true rfl ?_
      exact r_ret h (-1 : Int) rfl (by rw [if_neg (by omega)])
  · have : j = rs.length := by omega
    subst this
    have : X.take rs.length = X := List.take_of_length_le (by omega)
    rw [this] at h0 ⊢
    refine r_ret h _ rfl ?_
    rw [if_pos (by omega), hsz]
    show (m - (s.n : Int) - (sumL X : Nat) : Int) = m - ((X.length + sumL X : Nat) : Int)
    omega)

theorem c_toByteSSV {w : World} {s : Sl} {X : List (List Int)} (h : RdByteSS w s X) (hz : sizeByteSS X ≤ 1073741824) : Ret Tryz.prog n_laws_toByteSS [.slice s.a s.n s.c] w [.slice] (fun r w' => ∃ L, At w w' L ∧ OwnByteSS r X L) := laws_toByteSS_calls s (by
  unfold laws_toByteSS
  obtain ⟨rs, hX, hs⟩ := h
  have hn := hs.n
  have hXl : X.length = rs.length := by rw [← hX]; simp
  unfold sizeByteSS at hz
  refine r_mkO T_sl_slu8 (At.refl w) (by omega) (by omega) fun y xs L w1 h hO hyn ⟨p, hp⟩ => ?_
  refine r_loop (σ := Int) (fun i w' => ∃ (k : Nat) (xs : List Value) (ts : List SR) (L Ld : List Blk), i = k ∧ k ≤ rs.length ∧ At w w' (L ++ Ld) ∧ OwnS ty_sl_uint8 1 y xs L ∧ OwnSD ts Ld ∧ ts.map SR.data = X.take k ∧ xs.take k = ts.flatMap SR.cells) (fun i _ => (s.n - i).toNat) 0 rfl
    ⟨0, xs, [], L, [], rfl, by omega, h, hO, .nil, by simp, by simp⟩ ?_
  rintro i w4 ⟨k, xs, ts, L, Ld, rfl, hk, h, hO, hD, hpb, htk⟩
  refine r_any fun _ => ?_
  have hxl := hO.1
  refine r_if ((k : Int) < (s.n : Int)) rfl (fun hlt => ?_) (fun hge => ?_)
  · obtain ⟨r, q, hr, hrm, hq, hok, hld⟩ := (hs.at h.nil).get (i := k) (by omega)
    have hx := smap_get hX hr
    have hlen := sumL_take hx
    have hle := sumL_le X (k + 1)
    refine r_ix q hq (by omega) (by omega) ?_
    refine r_ldN r.d (by simp only [Int.toNat_natCast]; exact hld) ?_
    refine r_call h (c_toByteS hok (by omega)) fun t w5 _ _ ⟨L', hL', hO'⟩ => ?_
    have h := (h.join hL').swap
    rw [List.append_assoc] at h
    refine r_ix p hp (by omega) (by omega) ?_
    refine r_stO h hO hp k (by simp) (by simp [Value.cells]) (by omega) (by simp [Value.cells, oneC]) fun w6 L6 h6 hO6 => ?_
    refine ⟨((k + 1 : Nat) : Int), by rw [w64 (by omega) (by omega)]; rfl, ⟨k + 1, _, ts ++ [⟨t, r.data⟩], L6, Ld ++ L', rfl, by omega, h6, hO6, hD.snoc hO', ?_, ?_⟩, by omega⟩
    · rw [List.map_append, hpb, take_succ_get hx]
      rfl
    · rw [seg_take (by omega) (by simp [Value.cells]), htk, List.flatMap_append]
      simp [Value.cells, SR.cells]
  · have hkl : k = rs.length := by omega
    subst hkl
    rw [List.take_of_length_le (by rw [hxl, hyn]; omega)] at htk
    rw [List.take_of_length_le (by omega)] at hpb
    subst htk
    refine r_ret h.nil y rfl ⟨_, h, ts, hpb, ⟨L, Ld, rfl, hO, hD⟩, fun x hx => ?_⟩
    rw [← hX] at hx
    obtain ⟨r, hr, rfl⟩ := List.mem_map.1 hx
    exact (hs.ok r hr).ok)

theorem c_eqByteSSV {w : World} {s t : Sl} {X : List (List Int)} (h : RdByteSS w s X) (h' : RdByteSS w t X) (hz : sizeByteSS X ≤ 1073741824) : Ret Tryz.prog n_laws_eqByteSS [.slice s.a s.n s.c, .slice t.a t.n t.c] w [.bool] (fun x _ => x = true) := laws_eqByteSS_calls _ _ (by
  unfold laws_eqByteSS
  obtain ⟨rs, hX, hs⟩ := h
  obtain ⟨ts, hX', ht⟩ := h'
  have h1 := hs.n
  have h2 := ht.n
  have hXl : X.length = rs.length := by rw [← hX]; simp
  have hXl' : X.length = ts.length := by rw [← hX']; simp
  unfold sizeByteSS at hz
  refine r_ne (fun hh => by omega) fun _ => ?_
  refine r_loop (σ := Int) (fun i w' => ∃ j : Nat, i = j ∧ j ≤ rs.length ∧ At w w' []) (fun i _ => (s.n - i).toNat) 0 rfl ⟨0, rfl, by omega, At.refl w⟩ ?_
  rintro i w8 ⟨j, rfl, hj, h⟩
  refine r_any fun _ => ?_
  refine r_if ((j : Int) < (s.n : Int)) rfl (fun hlt => ?_) (fun hge => ?_)
  · refine r_draw h fun w3 h => ?_
    obtain ⟨r, p, hr, hrm, hp, hok, hld⟩ := (hs.at h).get (i := j) (by omega)
    obtain ⟨r2, q, hr2, _, hq, hok2, hld2⟩ := (ht.at h).get (i := j) (by omega)
    have hx := smap_get hX hr
    have hx2 := smap_get hX' hr2
    rw [hx] at hx2
    have hd := Option.some.inj hx2
    have hlen := sumL_take hx
    have hle := sumL_le X (j + 1)
    refine r_ix p hp (by omega) (by omega) ?_
    refine r_ldN r.d (by simp only [Int.toNat_natCast]; exact hld) ?_
    refine r_ix q hq (by omega) (by omega) ?_
    refine r_ldN r2.d (by simp only [Int.toNat_natCast]; exact hld2) ?_
    refine r_call h (c_eqByteS hok (by rw [hd]; exact hok2) (by omega)) fun x w4 h _ hx => ?_
    subst hx
    refine r_false rfl ?_
    exact ⟨((j + 1 : Nat) : Int), by rw [w64 (by omega) (by omega)]; rfl, ⟨j + 1, rfl, by omega, h⟩, by omega⟩
  · exact r_ret h _ rfl rfl)

theorem c_markByteSSV {w0 w : World} {ls L : List Blk} {s : Sl} {X : List (List Int)} (hA : At w0 w (L ++ ls)) (hO : OwnByteSS s X L) (k : Int) (h0 : 0 ≤ k) (hmax : k + msizeByteSS X ≤ 4611686018427387904) (hlen : sizeByteSS X ≤ 1073741824) :
    Calls Tryz.prog n_laws_markByteSS [.slice s.a s.n s.c, .int .i64 k].toArray w fun e w' => ∃ v, e = .returned v ∧ v = .int .i64 (k + msizeByteSS X) ∧ ∃ L', At w0 w' (L' ++ ls) ∧ OwnByteSS s (markByteSS k X) L' := laws_markByteSS_calls s k (by
  unfold laws_markByteSS
  obtain ⟨rs, hX, ⟨Lb, Ld, rfl, hOb, hD⟩, hXo⟩ := hO
  have hn : s.n = rs.length := by
    have := hOb.1
    rw [flatMap_length (fun b _ => scells_len b)] at this
    omega
  have hXl : X.length = rs.length := by rw [← hX]; simp
  unfold msizeByteSS at hmax ⊢
  unfold sizeByteSS at hlen
  refine r_loop (σ := Int × Int) (fun i w' => ∃ (r1 r2 : List SR) (L1 L2 : List Blk) (X1 : List (List Int)), i = (k + sumL X1, (r1.length : Int)) ∧ X1 ++ r2.map SR.data = X ∧ r1.map SR.data = markByteSS k X1 ∧ (r1 ++ r2).flatMap SR.cells = rs.flatMap SR.cells ∧ At w0 w' (Lb ++ (L1 ++ (L2 ++ ls))) ∧ OwnSD r1 L1 ∧ OwnSD r2 L2) (fun i _ => (s.n - i.2).toNat) (k, 0) rfl
    ⟨[], rs, [], Ld, [], by simp [sumL], by simpa using hX, by simp [markByteSS], rfl, by simpa [List.append_assoc] using hA, .nil, hD⟩ ?_
  rintro i w4 ⟨r1, r2, L1, L2, X1, rfl, hX2, hm, hcells, h, hD1, hD2⟩
  refine r_any fun _ => ?_
  dsimp only
  have hl1 : X1.length = r1.length := by have := congrArg List.length hm; rw [markByteSS_len] at this; simpa using this.symm
  have hl : r1.length + r2.length = rs.length := by
    have := congrArg List.length hX2
    rw [List.length_append, List.length_map] at this
    omega
  have hsz : sumL X1 + sumL (r2.map SR.data) = sumL X := by rw [← hX2, sumL_append]
  refine r_if ((r1.length : Int) < (s.n : Int)) rfl (fun hlt => ?_) (fun hge => ?_)
  · cases r2 with
    | nil => simp at hl; omega
    | cons b r2 =>
      rw [List.map_cons, sumL_cons] at hsz
      obtain ⟨p, hp⟩ := hOb.addr (by omega)
      refine r_ix p hp (by omega) (by omega) ?_
      have hOb' : OwnS ty_sl_uint8 1 s ((r1 ++ b :: r2).flatMap SR.cells) Lb := by rw [hcells]; exact hOb
      have hrd := hOb'.of h (List.sublist_append_left _ _) (fun b _ => scells_len b) (by omega)
      have hx : (r1 ++ b :: r2)[r1.length]? = some b := by simp
      refine r_ldN b.d (by
        have := hrd.fld hx hp (n := 1) 0 (sh := .slice) (y := b.d) rfl (by simp [Sh.emb])
        rw [Nat.add_zero] at this
        simp only [Int.toNat_natCast]
        exact this) ?_
      cases hD2 with
      | @cons _ _ M1 M2 hM1 hM2 =>
      have h : At w0 w4 (Lb ++ (L1 ++ (M1 ++ (M2 ++ ls)))) := by simpa [List.append_assoc] using h
      refine r_callR (c_markByteS h.pl2 hM1 (k + sumL X1) (by omega) (by omega)) ?_
      rintro v w5 ⟨rfl, M1', h, hM1'⟩
      refine ⟨_, rfl, ?_⟩
      have h := h.ps2
      refine ⟨(k + sumL (X1 ++ [b.data]), (((r1 ++ [(⟨b.d, marks (k + sumL X1) b.data.length⟩ : SR)]).length : Nat) : Int)), ?_, ⟨r1 ++ [⟨b.d, marks (k + sumL X1) b.data.length⟩], r2, L1 ++ M1', M2, X1 ++ [b.data], rfl, ?_, ?_, ?_, ?_, hD1.snoc hM1', hM2⟩, by simp; omega⟩
      · rw [w64 (by omega) (by omega), sumL_append]
        simp only [embL, Sh.emb, List.length_append, List.length_cons, List.length_nil, sumL, List.map_cons, List.map_nil, List.sum_cons, List.sum_nil]
        congr 2
        omega
      · rw [← hX2]; simp
      · rw [List.map_append, hm, markByteSS_append]
        rfl
      · rw [← hcells]; simp [SR.cells]
      · rw [List.append_assoc]; exact h
  · have : r2 = [] := List.eq_nil_of_length_eq_zero (by omega)
    subst this
    rw [List.map_nil, List.append_nil] at hX2
    subst hX2
    rw [List.append_nil] at hcells
    cases hD2
    exact r_retR ⟨rfl, Lb ++ L1, by simpa [List.append_assoc] using h, r1, hm, ⟨Lb, L1, rfl, by rw [hcells]; exact hOb, hD1⟩, markByteSS_ok _ _⟩)

theorem c_heldByteSSV {w : World} {s : Sl} {X : List (List Int)} (k : Int) (h : RdByteSS w s (markByteSS k X)) (h0 : 0 ≤ k) (hmax : k + msizeByteSS X ≤ 4611686018427387904) (hlen : sizeByteSS X ≤ 1073741824) : Ret Tryz.prog n_laws_heldByteSS [.slice s.a s.n s.c, .int .i64 k] w [.int .i64] (fun x _ => x = k + msizeByteSS X) := laws_heldByteSS_calls s k (by
  unfold laws_heldByteSS
  obtain ⟨rs, hX, hs⟩ := h
  have hn := hs.n
  have hXl : X.length = rs.length := by have := congrArg List.length hX; rw [markByteSS_len, List.length_map] at this; omega
  unfold msizeByteSS at hmax ⊢
  unfold sizeByteSS at hlen
  refine r_loop (σ := Int × Int) (fun i w' => ∃ (X1 X2 : List (List Int)), i = (k + sumL X1, (X1.length : Int)) ∧ X = X1 ++ X2 ∧ At w w' []) (fun i _ => (s.n - i.2).toNat) (k, 0) rfl ⟨[], X, by simp [sumL], rfl, At.refl w⟩ ?_
  rintro i w4 ⟨X1, X2, rfl, rfl, h⟩
  refine r_any fun _ => ?_
  dsimp only
  rw [List.length_append] at hXl hlen
  rw [sumL_append] at hmax
  refine r_if ((X1.length : Int) < (s.n : Int)) rfl (fun hlt => ?_) (fun hge => ?_)
  · cases X2 with
    | nil => simp at hXl; omega
    | cons c X2 =>
      rw [sumL_cons] at hmax
      obtain ⟨r, p, hr, hrm, hp, hok, hld⟩ := (hs.at h).get (i := X1.length) (by omega)
      have hx := smap_get hX hr
      have hrd : r.data = marks (k + sumL X1) c.length := by
        rw [markByteSS_append] at hx
        rw [List.getElem?_append_right (by rw [markByteSS_len]; omega), markByteSS_len, Nat.sub_self] at hx
        simpa [markByteSS] using hx.symm
      refine r_ix p hp (by omega) (by omega) ?_
      refine r_ldN r.d (by simp only [Int.toNat_natCast]; exact hld) ?_
      refine r_call h (c_heldByteS (n := c.length) _ (by rw [← hrd]; exact hok) (by omega) (by omega)) fun x w5 h _ hx => ?_
      subst hx
      refine r_if (k + (sumL X1 : Int) + (c.length : Int) < 0) rfl (fun hh => by omega) (fun _ => ?_)
      refine ⟨(k + sumL (X1 ++ [c]), (((X1 ++ [c]).length : Nat) : Int)), ?_, ⟨X1 ++ [c], X2, rfl, by simp, h⟩, by simp; omega⟩
      rw [w64 (by omega) (by omega), sumL_append]
      simp only [embL, Sh.emb, List.length_append, List.length_cons, List.length_nil, sumL, List.map_cons, List.map_nil, List.sum_cons, List.sum_nil]
      congr 2
      omega
  · have : X2 = [] := List.eq_nil_of_length_eq_zero (by omega)
    subst this
    exact r_ret h _ rfl (by rw [List.append_nil]))

set_option maxRecDepth 100000 in
theorem open_ByteSS {H : Type} {enc : TypeId × Value → H} {w : World} {base : Nat} {spare : Nat → Bool} {held : Bool} {r : Reach} {b0 : Nat} {v : Value} {d : DataW H} {ps : List MemPlace} (hval : Value.okWide Tryz.prog w r b0 ty_sl_sl_uint8 v) (hd : DataW.Trod enc Tryz.prog w base spare held ty_sl_sl_uint8 v d ps) : ∃ (s : Sl) (X : List (List Int)), v = .slice s.a s.n s.c ∧ RawByteSS w s X := by
  obtain ⟨a, len, cap, rfl⟩ := okWide_slice (e := ty_sl_uint8) (by kernel_rfl) hval
  obtain ⟨fuel, hf⟩ := hd
  obtain ⟨s, rs, h1, h2, h3, h4⟩ := trod_sl (α := SR) (u := ty_sl_uint8) (z := 1) (cells := SR.cells) (ok := fun r => BSl w r.d r.data ∧ r.d.c ≤ maxLen) (by kernel_rfl) (by kernel_rfl) (by omega) (fun r _ => scells_len r) (fun fuel cs x h => by
    obtain ⟨d, l, hd, k1, k2, k3, k4⟩ := trod_u8s (e := ty_uint8) (by kernel_rfl) (by kernel_rfl) (by kernel_rfl) h
    exact ⟨⟨d, l⟩, hd, ⟨k1, k2, k3⟩, k4⟩) hf
  have e : (Value.slice a len cap).cells.toList = [.slice a len cap] := rfl
  rw [e] at h1
  simp at h1
  obtain ⟨rfl, rfl, rfl⟩ := h1
  exact ⟨s, rs.map SR.data, rfl, rs, rfl, ⟨h2, fun r hr => (h4 r hr).1⟩, h3, fun r hr => (h4 r hr).2⟩
end Go.Proofs.YtffedfdhhglmkaaGreat
