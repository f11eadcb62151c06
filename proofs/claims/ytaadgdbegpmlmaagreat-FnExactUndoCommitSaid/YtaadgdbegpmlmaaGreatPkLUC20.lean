/- More kinds of values of which laws speak: slices of commits, books. -/
import Derived.Test.YtaadgdbegpmlmaaGreatPkLUC17
import Derived.Test.YtaadgdbegpmlmaaGreatPkLUC19
namespace Go.Proofs.YtaadgdbegpmlmaaGreat
open Go.Sx Go.RowKit
open Go.ChangeShapes Go.WideShapes Go.ChangeAt Go.Deep

structure PC where
  root : List Int
  ps : List (List Int)
  num : Int
  note : ByteArray
structure CR where
  root : List Int
  d : Sl
  ps : List (List Int)
  num : Int
  note : ByteArray
instance : Inhabited CR := ⟨⟨zero32, ⟨none, 0, 0⟩, [], 0, ⟨#[]⟩⟩⟩
def CR.pc (r : CR) : PC := ⟨r.root, r.ps, r.num, r.note⟩
def cmT (d : Sl) (num : Int) (note : ByteArray) : List Value := [.slice d.a d.n d.c, .int .i64 num, .string note]
def cmC (root : List Int) (d : Sl) (num : Int) (note : ByteArray) : List Value := u8s root ++ cmT d num note
def CR.cells (r : CR) : List Value := cmC r.root r.d r.num r.note
def PC.ok (c : PC) : Prop := keyOk c.root ∧ ∀ k ∈ c.ps, keyOk k
theorem cmC_len {root : List Int} (h : keyOk root) (d : Sl) (num : Int) (note : ByteArray) : (cmC root d num note).length = 35 := by unfold cmC; rw [List.length_append, u8s_len, h.1]; rfl
theorem cmC_one (root : List Int) (d : Sl) (num : Int) (note : ByteArray) : ∀ v ∈ cmC root d num note, oneC v = true := by
  intro v hv
  unfold cmC cmT at hv
  rcases List.mem_append.1 hv with h | h
  · exact u8s_one v h
  · simp only [List.mem_cons, List.not_mem_nil, or_false] at h
    rcases h with rfl | rfl | rfl <;> rfl
theorem crcells_len {r : CR} (h : keyOk r.root) : r.cells.length = 35 := cmC_len h ..
theorem cm_key {root : List Int} (h : keyOk root) (d : Sl) (num : Int) (note : ByteArray) : (cmC root d num note).toArray.extract 0 (0 + 32) = (u8s root).toArray := by
  apply Array.ext'
  rw [List.extract_toArray]
  show ((cmC root d num note).drop 0).take (0 + 32 - 0) = _
  have e : (u8s root).length = 32 := by rw [u8s_len]; exact h.1
  unfold cmC
  rw [List.drop_zero, List.take_append_of_le_length (by omega), List.take_of_length_le (by omega)]
theorem cm_at {root : List Int} (h : keyOk root) (d : Sl) (num : Int) (note : ByteArray) (j : Nat) : (cmC root d num note)[32 + j]? = (cmT d num note)[j]? := by
  unfold cmC
  have e : (u8s root).length = 32 := by rw [u8s_len]; exact h.1
  rw [List.getElem?_append_right (by omega), e, Nat.add_sub_cancel_left]
theorem cm_d {root : List Int} (h : keyOk root) (d : Sl) (num : Int) (note : ByteArray) : (cmC root d num note).toArray[32]? = some (.slice d.a d.n d.c) := by rw [List.getElem?_toArray]; exact cm_at h d num note 0
theorem cm_num {root : List Int} (h : keyOk root) (d : Sl) (num : Int) (note : ByteArray) : (cmC root d num note).toArray[33]? = some (.int .i64 num) := by rw [List.getElem?_toArray]; exact cm_at h d num note 1
theorem cm_note {root : List Int} (h : keyOk root) (d : Sl) (num : Int) (note : ByteArray) : (cmC root d num note).toArray[34]? = some (.string note) := by rw [List.getElem?_toArray]; exact cm_at h d num note 2
theorem cm_setK (k : List Int) (d : Sl) (num : Int) (note : ByteArray) : ((cmC zero32 d num note).toArray.toList.take 0 ++ (u8s k).toArray.toList ++ (cmC zero32 d num note).toArray.toList.drop (0 + 32)).toArray = (cmC k d num note).toArray := rfl
theorem cm_set {root : List Int} (h : keyOk root) (d : Sl) (num : Int) (note : ByteArray) (j : Nat) (v : Value) : (cmC root d num note).toArray.setIfInBounds (32 + j) v = (u8s root ++ (cmT d num note).set j v).toArray := by
  apply Array.ext'
  rw [Array.toList_setIfInBounds]
  show (u8s root ++ cmT d num note).set (32 + j) _ = _
  have e : (u8s root).length = 32 := by rw [u8s_len]; exact h.1
  rw [List.set_append_right _ _ (by omega), e, Nat.add_sub_cancel_left]

structure CsR (w : World) (s : Sl) (rs : List CR) : Prop where
  of : SlOf w s 35 CR.cells rs
  ok : ∀ r ∈ rs, keyOk r.root ∧ KsR w r.d r.ps
theorem CsR.below {w w' : World} {s : Sl} {rs : List CR} (h : CsR w s rs) (hb : Below w.heap.size w w') : CsR w' s rs := ⟨h.of.below hb, fun r hr => ⟨(h.ok r hr).1, (h.ok r hr).2.below hb⟩⟩
theorem CsR.at {w w' : World} {bl : List Blk} {s : Sl} {rs : List CR} (h : CsR w s rs) (hA : At w w' bl) : CsR w' s rs := h.below hA.below
theorem CsR.n {w : World} {s : Sl} {rs : List CR} (h : CsR w s rs) : s.n = rs.length := h.of.n
structure CmAt (w : World) (p : Addr) (r : CR) : Prop where
  all : ldOk w 35 p .agg r.cells.toArray
  key : ldOk w 32 (p.add 0) .agg (u8s r.root).toArray
  d : ldOk w 1 (p.add 32) .slice r.d
  num : ldOk w 1 (p.add 33) (.int .i64) r.num
  note : ldOk w 1 (p.add 34) .str r.note
theorem cmAt_of {w : World} {p : Addr} {r : CR} (hko : keyOk r.root) (ha : ldOk w 35 p .agg r.cells.toArray) : CmAt w p r := by
  refine ⟨ha, ⟨by simp [hko.1], fun j v hv => ?_⟩, ha.2 32 _ (cm_d hko ..), ha.2 33 _ (cm_num hko ..), ha.2 34 _ (cm_note hko ..)⟩
  rw [Go.Deep.add_add, Nat.zero_add]
  refine ha.2 j v ?_
  rw [List.getElem?_toArray] at hv ⊢
  show (u8s r.root ++ _)[j]? = _
  rw [List.getElem?_append_left (List.getElem?_eq_some_iff.1 hv).1]
  exact hv
theorem CmAt.below {w w' : World} {p : Addr} {r : CR} (h : CmAt w p r) (hb : Below w.heap.size w w') : CmAt w' p r := ⟨ldOk_below hb h.all, ldOk_below hb h.key, ldOk_below hb h.d, ldOk_below hb h.num, ldOk_below hb h.note⟩
theorem CmAt.at {w w' : World} {bl : List Blk} {p : Addr} {r : CR} (h : CmAt w p r) (hA : At w w' bl) : CmAt w' p r := h.below hA.below
theorem CsR.get {w : World} {s : Sl} {rs : List CR} (h : CsR w s rs) {i : Nat} (hi : i < rs.length) : ∃ r p, rs[i]? = some r ∧ r ∈ rs ∧ s.a = some p ∧ keyOk r.root ∧ KsR w r.d r.ps ∧ CmAt w (p.add (i * 35)) r := by
  have hk : rs[i]? = some rs[i] := List.getElem?_eq_getElem hi
  obtain ⟨p, hp, _⟩ := h.of.cell hk
  have ho := h.ok _ (List.getElem_mem hi)
  exact ⟨_, p, hk, List.getElem_mem hi, hp, ho.1, ho.2, cmAt_of ho.1 (h.of.agg hk hp)⟩

inductive OwnCD : List CR → List Blk → Prop where
  | nil : OwnCD [] []
  | cons {b : CR} {r : List CR} {L1 L2 : List Blk} : OwnKeyS b.d b.ps L1 → OwnCD r L2 → OwnCD (b :: r) (L1 ++ L2)
theorem OwnCD.append {r t : List CR} {L M : List Blk} (h : OwnCD r L) (k : OwnCD t M) : OwnCD (r ++ t) (L ++ M) := by
  induction h with
  | nil => exact k
  | cons h1 _ ih => rw [List.append_assoc]; exact .cons h1 ih
theorem OwnCD.snoc {r : List CR} {b : CR} {L M : List Blk} (h : OwnCD r L) (k : OwnKeyS b.d b.ps M) : OwnCD (r ++ [b]) (L ++ M) := by
  have := h.append (OwnCD.cons k .nil)
  simpa using this
theorem OwnCD.ok {w0 w : World} {ls L : List Blk} {rs : List CR} (h : OwnCD rs L) (hA : At w0 w ls) (hs : L.Sublist ls) : ∀ r ∈ rs, KsR w r.d r.ps := by
  induction h with
  | nil => simp
  | @cons b r L1 L2 h1 h2 ih =>
    intro x hx
    cases hx with
    | head => exact ownS_ks h1.1 hA ((List.sublist_append_left _ _).trans hs) h1.2
    | tail _ hx => exact ih ((List.sublist_append_right _ _).trans hs) x hx
def OwnCms (s : Sl) (rs : List CR) (L : List Blk) : Prop := ∃ Lb Ld, L = Lb ++ Ld ∧ OwnS ty_impl_Commit 35 s (rs.flatMap CR.cells) Lb ∧ OwnCD rs Ld ∧ ∀ r ∈ rs, keyOk r.root
theorem OwnCms.rd {w0 w : World} {ls L : List Blk} {s : Sl} {rs : List CR} (h : OwnCms s rs L) (hA : At w0 w ls) (hs : L.Sublist ls) : CsR w s rs := by
  obtain ⟨Lb, Ld, rfl, h1, h2, h3⟩ := h
  exact ⟨h1.of hA ((List.sublist_append_left _ _).trans hs) (fun b hb => cmC_len (h3 b hb) ..) (by omega), fun r hr => ⟨h3 r hr, h2.ok hA ((List.sublist_append_right _ _).trans hs) r hr⟩⟩
theorem OwnCms.n {s : Sl} {rs : List CR} {L : List Blk} (h : OwnCms s rs L) : s.n = rs.length := by
  obtain ⟨Lb, Ld, rfl, h1, h2, h3⟩ := h
  have := h1.1
  rw [flatMap_length (z := 35) (fun b hb => crcells_len (h3 b hb))] at this
  omega
theorem T_sl_Commit : SlT Tryz.prog ty_sl_impl_Commit ty_impl_Commit 35 80 := slT_of (by kernel_rfl)

def RdCommitS (w : World) (s : Sl) (X : List PC) : Prop := ∃ rs, rs.map CR.pc = X ∧ CsR w s rs
theorem RdCommitS.at {w w' : World} {ls : List Blk} {s : Sl} {X : List PC} (h : RdCommitS w s X) (hA : At w w' ls) : RdCommitS w' s X := let ⟨rs, h1, h2⟩ := h; ⟨rs, h1, h2.at hA⟩
def OwnCommitS (s : Sl) (X : List PC) (L : List Blk) : Prop := ∃ rs, rs.map CR.pc = X ∧ OwnCms s rs L
theorem OwnCommitS.rd {w0 w : World} {s : Sl} {X : List PC} {L ls : List Blk} (h : OwnCommitS s X L) (hA : At w0 w ls) (hs : L.Sublist ls) : RdCommitS w s X := let ⟨rs, h1, h2⟩ := h; ⟨rs, h1, h2.rd hA hs⟩
theorem OwnCommitS.none : OwnCommitS ⟨none, 0, 0⟩ [] [] := ⟨[], rfl, [], [], rfl, OwnS.nil _ _, .nil, by simp⟩
def RawCommitS (w : World) (s : Sl) (X : List PC) : Prop := ∃ rs, rs.map CR.pc = X ∧ CsR w s rs ∧ s.c ≤ maxLen ∧ ∀ r ∈ rs, RawKeyS w r.d r.ps ∧ r.note.size ≤ maxLen
theorem RawCommitS.rd {w : World} {s : Sl} {X : List PC} (h : RawCommitS w s X) : RdCommitS w s X := let ⟨rs, h1, h2, _⟩ := h; ⟨rs, h1, h2⟩
def szC (c : PC) : Nat := c.ps.length + c.note.size
def mzC (c : PC) : Nat := 34 + 32 * c.ps.length
def sizeCommitS (X : List PC) : Nat := X.length + sumF szC X
def msizeCommitS (X : List PC) : Nat := sumF mzC X
def markC (k : Int) (c : PC) : PC := ⟨marks k 32, markKeyS (k + 32) c.ps, k + 32 + msizeKeyS c.ps, markT (k + 32 + msizeKeyS c.ps + 1)⟩
def markCommitS : Int → List PC → List PC
  | _, [] => []
  | k, x :: r => markC k x :: markCommitS (k + mzC x) r
theorem markCommitS_len (k : Int) (X : List PC) : (markCommitS k X).length = X.length := by
  induction X generalizing k with
  | nil => rfl
  | cons x r ih => simp [markCommitS, ih]
theorem markCommitS_append (k : Int) (X Y : List PC) : markCommitS k (X ++ Y) = markCommitS k X ++ markCommitS (k + sumF mzC X) Y := by
  induction X generalizing k with
  | nil => simp [markCommitS, sumF]
  | cons x r ih =>
    rw [List.cons_append]
    show markC k x :: markCommitS (k + mzC x) (r ++ Y) = (markC k x :: markCommitS (k + mzC x) r) ++ _
    rw [ih, List.cons_append, sumF_cons]
    congr 3
    omega
theorem crmap_get {rs : List CR} {X : List PC} (h : rs.map CR.pc = X) {i : Nat} {r : CR} (hr : rs[i]? = some r) : X[i]? = some r.pc := by rw [← h, List.getElem?_map, hr]; rfl
theorem msize_sizeC (X : List PC) : msizeCommitS X ≤ 34 * sizeCommitS X := by
  have : sumF mzC X ≤ 34 * X.length + 34 * sumF szC X := by
    induction X with
    | nil => simp [sumF]
    | cons x r ih =>
      rw [sumF_cons, sumF_cons, List.length_cons]
      have h1 : mzC x = 34 + 32 * x.ps.length := rfl
      have h2 : szC x = x.ps.length + x.note.size := rfl
      omega
  unfold msizeCommitS sizeCommitS
  omega

theorem c_szCommit {w : World} {r : CR} (hk : keyOk r.root) (hr : RawKeyS w r.d r.ps) (hn : r.note.size ≤ maxLen) {w1 : World} (hb : Below w.heap.size w w1) (m : Int) (hm : 0 ≤ m ∧ m ≤ 1073741824) : Ret Tryz.prog n_laws_szCommit [.agg r.cells.toArray, .int .i64 m] w1 [.int .i64] (fun x _ => x = if (szC r.pc : Int) ≤ m then m - szC r.pc else -1) := laws_szCommit_calls _ m (by
  unfold laws_szCommit
  have hmx : maxLen = 9223372036854775807 := rfl
  rw [hmx] at hn
  have hsz : szC r.pc = r.ps.length + r.note.size := rfl
  have hkz : sizeKeyS r.ps = r.ps.length := rfl
  refine r_new (At.refl w1) fun b2 w2 h => ?_
  have h : At w1 w2 [(b2, r.cells.toArray, ty_laws_Commit)] := h
  refine r_ld h 0 rfl (add_lit _ _ _) r.d (by simp [Sh.emb]) (by rw [Nat.zero_add]; exact cm_d hk ..) ?_
  refine r_call h (c_szKeySV hr (hb.trans (h.below.mono hb.size)) m hm) fun x w3 h _ hx => ?_
  subst hx
  by_cases hc1 : (sizeKeyS r.ps : Int) ≤ m
  · rw [if_pos hc1]
    refine r_if (m - (sizeKeyS r.ps : Int) < 0) rfl (fun hh => by omega) (fun _ => ?_)
    refine r_ld h 0 rfl (add_lit _ _ _) r.note (by simp [Sh.emb]) (by rw [Nat.zero_add]; exact cm_note hk ..) ?_
    rw [w64 (n := m - (sizeKeyS r.ps : Int) - (r.note.size : Int)) (by omega) (by omega)]
    refine r_if (m - (sizeKeyS r.ps : Int) - (r.note.size : Int) < 0) rfl (fun hlt => ?_) (fun hge => ?_)
    · exact r_ret h.nil (-1 : Int) rfl (by rw [if_neg (by omega)])
    · exact r_ret h.nil (m - (sizeKeyS r.ps : Int) - (r.note.size : Int)) rfl (by rw [if_pos (by omega)]; show (m - (sizeKeyS r.ps : Int) - (r.note.size : Int) : Int) = m - (szC r.pc : Int); omega)
  · rw [if_neg hc1]
    refine r_true rfl ?_
    exact r_ret h.nil (-1 : Int) rfl (by rw [if_neg (by omega)]))

theorem c_szCommitSV {w : World} {s : Sl} {X : List PC} (h : RawCommitS w s X) {w1 : World} (hb : Below w.heap.size w w1) (m : Int) (hm : 0 ≤ m ∧ m ≤ 1073741824) : Ret Tryz.prog n_laws_szCommitS [.slice s.a s.n s.c, .int .i64 m] w1 [.int .i64] (fun x _ => x = if (sizeCommitS X : Int) ≤ m then m - sizeCommitS X else -1) := laws_szCommitS_calls s m (by
  unfold laws_szCommitS
  obtain ⟨rs, hX, hs, hc, hd⟩ := h
  have hn := hs.n
  have hXl : X.length = rs.length := by rw [← hX]; simp
  have hcap := hs.of.cap
  have hsz : sizeCommitS X = X.length + sumF szC X := rfl
  unfold maxLen at hc
  rw [w64 (by omega) (by omega)]
  refine r_if (m - (s.n : Int) < 0) rfl (fun h1 => ?_) (fun h1 => ?_)
  · exact r_ret (At.refl w1) (-1 : Int) rfl (by rw [if_neg (by omega)])
  have hs1 : CsR w1 s rs := hs.below hb
  refine r_loop (σ := Int × Int) (fun i w' => ∃ j : Nat, i = (m - s.n - (sumF szC (X.take j) : Nat), (j : Int)) ∧ j ≤ rs.length ∧ 0 ≤ i.1 ∧ At w1 w' []) (fun i _ => (s.n - i.2).toNat) (m - s.n, 0) rfl ⟨0, by simp [sumF], by omega, by dsimp only; omega, At.refl w1⟩ ?_
  rintro i w2 ⟨j, rfl, hj, h0, h⟩
  refine r_any fun _ => ?_
  dsimp only at h0 ⊢
  refine r_if ((j : Int) < (s.n : Int)) rfl (fun hlt => ?_) (fun hge => ?_)
  · obtain ⟨r, p, hr, hrm, hp, hko, hok, hcm⟩ := (hs1.at h).get (i := j) (by omega)
    have hx := crmap_get hX hr
    have hst := sumF_take szC hx
    have hle := sumF_le szC X (j + 1)
    refine r_ix p hp (by omega) (by omega) ?_
    refine r_ldN r.cells.toArray (by simp only [Int.toNat_natCast]; exact hcm.all) ?_
    refine r_call h (c_szCommit hko (hd r hrm).1 (hd r hrm).2 (hb.trans (h.below.mono hb.size)) _ ⟨h0, by omega⟩) fun x w3 h _ hx => ?_
    subst hx
    by_cases hc1 : (szC r.pc : Int) ≤ m - s.n - (sumF szC (X.take j) : Nat)
    · rw [if_pos hc1]
      refine r_if (m - (s.n : Int) - (sumF szC (X.take j) : Nat) - (szC r.pc : Int) < 0) rfl (fun hh => by omega) (fun _ => ?_)
      refine ⟨(m - s.n - (sumF szC (X.take (j + 1)) : Nat), ((j + 1 : Nat) : Int)), by rw [w64 (by omega) (by omega), hst]; simp only [embL, Sh.emb]; congr 2; omega, ⟨j + 1, rfl, by omega, by dsimp only; rw [hst]; omega, h⟩, by dsimp only; omega⟩
    · rw [if_neg hc1]
      refine r_true rfl ?_
      exact r_ret h (-1 : Int) rfl (by rw [if_neg (by omega)])
  · have : j = rs.length := by omega
    subst this
    have : X.take rs.length = X := List.take_of_length_le (by omega)
    rw [this] at h0 ⊢
    refine r_ret h _ rfl ?_
    rw [if_pos (by omega), hsz]
    show (m - (s.n : Int) - (sumF szC X : Nat) : Int) = m - ((X.length + sumF szC X : Nat) : Int)
    omega)

theorem c_toCommit {w : World} {r : CR} (hk : keyOk r.root) (hr : KsR w r.d r.ps) (hz : r.ps.length ≤ 1073741824) : Ret Tryz.prog n_laws_toCommit [.agg r.cells.toArray] w [.agg] (fun x w' => ∃ (t : Sl) (L : List Blk), x = (cmC r.root t r.num r.note).toArray ∧ At w w' L ∧ OwnKeyS t r.ps L) := laws_toCommit_calls _ (by
  unfold laws_toCommit
  have hl : r.cells.length = 35 := cmC_len hk ..
  refine r_new (At.refl w) fun b1 w1 h => ?_
  refine r_new h fun b2 w2 h => ?_
  refine r_new h fun b3 w3 h => ?_
  have hzl : (cmC zero32 ⟨none, 0, 0⟩ 0 ⟨#[]⟩).length = 35 := cmC_len zero32_ok ..
  have h : At w w3 [(b3, (cmC zero32 ⟨none, 0, 0⟩ 0 ⟨#[]⟩).toArray, ty_impl_Commit), (b2, (cmC zero32 ⟨none, 0, 0⟩ 0 ⟨#[]⟩).toArray, ty_impl_Commit), (b1, r.cells.toArray, ty_laws_Commit)] := h
  refine r_ldP h 2 rfl (add_lit _ _ _) (by simp [hl]) ?_
  rw [show (0 + 0 : Nat) = 0 from rfl, show r.cells.toArray.extract 0 (0 + 32) = (u8s r.root).toArray from cm_key hk ..]
  refine r_call h (c_toKey hk.1 _) fun x w4 h _ hx => ?_
  subst hx
  refine r_stP h 0 (o := 0) rfl (by rw [add_lit]) (by simp [hk.1]) (by simp [hzl]) (by simpa using u8s_one) fun w5 h => ?_
  rw [cm_setK] at h
  have hl2 : (cmC r.root ⟨none, 0, 0⟩ 0 ⟨#[]⟩).length = 35 := cmC_len hk ..
  refine r_ld h 2 rfl (add_lit _ _ _) r.d (by simp [Sh.emb]) (by rw [Nat.zero_add]; exact cm_d hk ..) ?_
  refine r_call h (c_toKeySV (KsR.at hr h) hz) fun t w6 _ _ ⟨L, hL, hO⟩ => ?_
  have h := (h.join hL).swap
  have h : At w w6 ([(b3, (cmC r.root ⟨none, 0, 0⟩ 0 ⟨#[]⟩).toArray, ty_impl_Commit), (b2, (cmC zero32 ⟨none, 0, 0⟩ 0 ⟨#[]⟩).toArray, ty_impl_Commit), (b1, r.cells.toArray, ty_laws_Commit)] ++ L) := h
  refine r_st h 0 (o := 32) rfl (by rw [add_lit, Nat.zero_add]) (by simp [hl2]) rfl fun w7 h => ?_
  rw [show (cmC r.root ⟨none, 0, 0⟩ 0 ⟨#[]⟩).toArray.setIfInBounds 32 (.slice t.a t.n t.c) = (cmC r.root t 0 ⟨#[]⟩).toArray from cm_set hk _ _ _ 0 _] at h
  have hl3 : (cmC r.root t 0 ⟨#[]⟩).length = 35 := cmC_len hk ..
  have h : At w w7 ([(b3, (cmC r.root t 0 ⟨#[]⟩).toArray, ty_impl_Commit), (b2, (cmC zero32 ⟨none, 0, 0⟩ 0 ⟨#[]⟩).toArray, ty_impl_Commit), (b1, r.cells.toArray, ty_laws_Commit)] ++ L) := h
  refine r_ld h 2 rfl (add_lit _ _ _) r.num (by simp [Sh.emb]) (by rw [Nat.zero_add]; exact cm_num hk ..) ?_
  refine r_st h 0 (o := 33) rfl (by rw [add_lit, Nat.zero_add]) (by simp [hl3]) rfl fun w8 h => ?_
  rw [show (cmC r.root t 0 ⟨#[]⟩).toArray.setIfInBounds 33 (.int .i64 r.num) = (cmC r.root t r.num ⟨#[]⟩).toArray from cm_set hk _ _ _ 1 _] at h
  have hl4 : (cmC r.root t r.num ⟨#[]⟩).length = 35 := cmC_len hk ..
  have h : At w w8 ([(b3, (cmC r.root t r.num ⟨#[]⟩).toArray, ty_impl_Commit), (b2, (cmC zero32 ⟨none, 0, 0⟩ 0 ⟨#[]⟩).toArray, ty_impl_Commit), (b1, r.cells.toArray, ty_laws_Commit)] ++ L) := h
  refine r_ld h 2 rfl (add_lit _ _ _) r.note (by simp [Sh.emb]) (by rw [Nat.zero_add]; exact cm_note hk ..) ?_
  refine r_st h 0 (o := 34) rfl (by rw [add_lit, Nat.zero_add]) (by simp [hl4]) rfl fun w9 h => ?_
  rw [show (cmC r.root t r.num ⟨#[]⟩).toArray.setIfInBounds 34 (.string r.note) = (cmC r.root t r.num r.note).toArray from cm_set hk _ _ _ 2 _] at h
  have hl5 : (cmC r.root t r.num r.note).length = 35 := cmC_len hk ..
  have h : At w w9 ([(b3, (cmC r.root t r.num r.note).toArray, ty_impl_Commit), (b2, (cmC zero32 ⟨none, 0, 0⟩ 0 ⟨#[]⟩).toArray, ty_impl_Commit), (b1, r.cells.toArray, ty_laws_Commit)] ++ L) := h
  refine r_ldA h 0 rfl rfl (by simp [hl5]) ?_
  refine r_stA h 1 rfl rfl (by simp [hl5]) (by simp [hzl]) (by simpa using cmC_one _ _ _ _) fun w10 h => ?_
  refine r_ldA h 1 rfl rfl (by simp [hl5]) ?_
  exact r_ret h.nil (cmC r.root t r.num r.note).toArray rfl ⟨t, L, rfl, h.right (A := [_, _, _]), hO⟩)

theorem c_toCommitSV {w : World} {s : Sl} {X : List PC} (h : RdCommitS w s X) (hz : sizeCommitS X ≤ 1073741824) : Ret Tryz.prog n_laws_toCommitS [.slice s.a s.n s.c] w [.slice] (fun r w' => ∃ L, At w w' L ∧ OwnCommitS r X L) := laws_toCommitS_calls s (by
  unfold laws_toCommitS
  obtain ⟨rs, hX, hs⟩ := h
  have hn := hs.n
  have hXl : X.length = rs.length := by rw [← hX]; simp
  unfold sizeCommitS at hz
  refine r_mkO T_sl_Commit (At.refl w) (by omega) (by omega) fun y xs L w1 h hO hyn ⟨p, hp⟩ => ?_
  refine r_loop (σ := Int) (fun i w' => ∃ (k : Nat) (xs : List Value) (ts : List CR) (L Ld : List Blk), i = k ∧ k ≤ rs.length ∧ At w w' (L ++ Ld) ∧ OwnS ty_impl_Commit 35 y xs L ∧ OwnCD ts Ld ∧ (∀ t ∈ ts, keyOk t.root) ∧ ts.map CR.pc = X.take k ∧ xs.take (k * 35) = ts.flatMap CR.cells) (fun i _ => (s.n - i).toNat) 0 rfl
    ⟨0, xs, [], L, [], rfl, by omega, h, hO, .nil, by simp, by simp, by simp⟩ ?_
  rintro i w4 ⟨k, xs, ts, L, Ld, rfl, hk, h, hO, hD, hkt, hpb, htk⟩
  refine r_any fun _ => ?_
  have hxl := hO.1
  refine r_if ((k : Int) < (s.n : Int)) rfl (fun hlt => ?_) (fun hge => ?_)
  · obtain ⟨r, q, hr, hrm, hq, hko, hok, hcm⟩ := (hs.at h.nil).get (i := k) (by omega)
    have hx := crmap_get hX hr
    have hgt := sumF_get szC hx
    have hsz : szC r.pc = r.ps.length + r.note.size := rfl
    refine r_ix q hq (by omega) (by omega) ?_
    refine r_ldN r.cells.toArray (by simp only [Int.toNat_natCast]; exact hcm.all) ?_
    refine r_call h (c_toCommit hko hok (by omega)) fun v w5 _ _ ⟨t, L', hv, hL', hO'⟩ => ?_
    subst hv
    have h := (h.join hL').swap
    rw [List.append_assoc] at h
    have hcl : (cmC r.root t r.num r.note).length = 35 := cmC_len hko ..
    refine r_ix p hp (by omega) (by omega) ?_
    refine r_stO h hO hp (k * 35) (by simp) (by simp [Value.cells, hcl]) (by omega) (by simpa [Value.cells] using cmC_one _ _ _ _) fun w6 L6 h6 hO6 => ?_
    refine ⟨((k + 1 : Nat) : Int), by rw [w64 (by omega) (by omega)]; rfl, ⟨k + 1, _, ts ++ [⟨r.root, t, r.ps, r.num, r.note⟩], L6, Ld ++ L', rfl, by omega, h6, hO6, hD.snoc (b := ⟨r.root, t, r.ps, r.num, r.note⟩) hO', ?_, ?_, ?_⟩, by omega⟩
    · intro x hx
      rcases List.mem_append.1 hx with hx | hx
      · exact hkt x hx
      · rw [List.mem_singleton.1 hx]; exact hko
    · rw [List.map_append, hpb, take_succ_get hx]
      rfl
    · have hvl : (Value.agg (cmC r.root t r.num r.note).toArray).cells.toList.length = 35 := by simp [Value.cells, hcl]
      rw [Nat.add_mul, Nat.one_mul, seg_take (by omega) hvl, htk, List.flatMap_append]
      simp [Value.cells, CR.cells]
  · have hkl : k = rs.length := by omega
    subst hkl
    rw [List.take_of_length_le (by rw [hxl, hyn]; omega)] at htk
    rw [List.take_of_length_le (by omega)] at hpb
    subst htk
    exact r_ret h.nil y rfl ⟨_, h, ts, hpb, L, Ld, rfl, hO, hD, hkt⟩)

theorem c_eqCommit {w : World} {r t : CR} (hk : keyOk r.root) (hr : KsR w r.d r.ps) (ht : KsR w t.d t.ps) (he : r.pc = t.pc) (hz : r.ps.length ≤ 1073741824) : Ret Tryz.prog n_laws_eqCommit [.agg r.cells.toArray, .agg t.cells.toArray] w [.bool] (fun x _ => x = true) := laws_eqCommit_calls _ _ (by
  unfold laws_eqCommit
  obtain ⟨root, d, ps, num, note⟩ := r
  obtain ⟨root2, d2, ps2, num2, note2⟩ := t
  have e1 : root = root2 := congrArg PC.root he
  have e2 : ps = ps2 := congrArg PC.ps he
  have e3 : num = num2 := congrArg PC.num he
  have e4 : note = note2 := congrArg PC.note he
  subst e1 e2 e3 e4
  dsimp only at hk hr ht hz
  have hl1 : (cmC root d num note).length = 35 := cmC_len hk ..
  have hl2 : (cmC root d2 num note).length = 35 := cmC_len hk ..
  refine r_new (At.refl w) fun b2 w1 h => ?_
  refine r_new h fun b3 w2 h => ?_
  have h : At w w2 [(b3, (cmC root d2 num note).toArray, ty_impl_Commit), (b2, (cmC root d num note).toArray, ty_impl_Commit)] := h
  refine r_ldP h 1 rfl (add_lit _ _ _) (by simp [hl1]) ?_
  rw [show (0 + 0 : Nat) = 0 from rfl, cm_key hk]
  refine r_ldP h 0 rfl (add_lit _ _ _) (by simp [hl2]) ?_
  rw [show (0 + 0 : Nat) = 0 from rfl, cm_key hk]
  refine r_call h (c_eqKey_same hk.1 _) fun x w4 h _ hx => ?_
  subst hx
  refine r_false rfl ?_
  refine r_ld h 1 rfl (add_lit _ _ _) d (by simp [Sh.emb]) (by rw [Nat.zero_add]; exact cm_d hk ..) ?_
  refine r_ld h 0 rfl (add_lit _ _ _) d2 (by simp [Sh.emb]) (by rw [Nat.zero_add]; exact cm_d hk ..) ?_
  refine r_call h (c_eqKeySV (KsR.at hr h) (KsR.at ht h) hz) fun x w5 h _ hx => ?_
  subst hx
  refine r_false rfl ?_
  refine r_ld h 1 rfl (add_lit _ _ _) num (by simp [Sh.emb]) (by rw [Nat.zero_add]; exact cm_num hk ..) ?_
  refine r_ld h 0 rfl (add_lit _ _ _) num (by simp [Sh.emb]) (by rw [Nat.zero_add]; exact cm_num hk ..) ?_
  refine r_ne (fun hh => absurd rfl hh) fun _ => ?_
  refine r_ld h 1 rfl (add_lit _ _ _) note (by simp [Sh.emb]) (by rw [Nat.zero_add]; exact cm_note hk ..) ?_
  refine r_ld h 0 rfl (add_lit _ _ _) note (by simp [Sh.emb]) (by rw [Nat.zero_add]; exact cm_note hk ..) ?_
  refine r_pur _ (fun w' => run_neq_str _ _ _ _ _ w') ?_
  refine r_false (by simp) ?_
  exact r_ret h.nil _ rfl rfl)

theorem c_eqCommitSV {w : World} {s t : Sl} {X : List PC} (h : RdCommitS w s X) (h' : RdCommitS w t X) (hz : sizeCommitS X ≤ 1073741824) : Ret Tryz.prog n_laws_eqCommitS [.slice s.a s.n s.c, .slice t.a t.n t.c] w [.bool] (fun x _ => x = true) := laws_eqCommitS_calls _ _ (by
  unfold laws_eqCommitS
  obtain ⟨rs, hX, hs⟩ := h
  obtain ⟨ts, hX', ht⟩ := h'
  have h1 := hs.n
  have h2 := ht.n
  have hXl : X.length = rs.length := by rw [← hX]; simp
  have hXl' : X.length = ts.length := by rw [← hX']; simp
  unfold sizeCommitS at hz
  refine r_ne (fun hh => by omega) fun _ => ?_
  refine r_loop (σ := Int) (fun i w' => ∃ j : Nat, i = j ∧ j ≤ rs.length ∧ At w w' []) (fun i _ => (s.n - i).toNat) 0 rfl ⟨0, rfl, by omega, At.refl w⟩ ?_
  rintro i w8 ⟨j, rfl, hj, h⟩
  refine r_any fun _ => ?_
  refine r_if ((j : Int) < (s.n : Int)) rfl (fun hlt => ?_) (fun hge => ?_)
  · refine r_draw h fun w3 h => ?_
    obtain ⟨r, p, hr, hrm, hp, hko, hok, hcm⟩ := (hs.at h).get (i := j) (by omega)
    obtain ⟨r2, q, hr2, _, hq, _, hok2, hcm2⟩ := (ht.at h).get (i := j) (by omega)
    have hx := crmap_get hX hr
    have hx2 := crmap_get hX' hr2
    rw [hx] at hx2
    have hd := Option.some.inj hx2
    have hgt := sumF_get szC hx
    have hsz : szC r.pc = r.ps.length + r.note.size := rfl
    refine r_ix p hp (by omega) (by omega) ?_
    refine r_ldN r.cells.toArray (by simp only [Int.toNat_natCast]; exact hcm.all) ?_
    refine r_ix q hq (by omega) (by omega) ?_
    refine r_ldN r2.cells.toArray (by simp only [Int.toNat_natCast]; exact hcm2.all) ?_
    refine r_call h (c_eqCommit hko hok hok2 hd (by omega)) fun x w4 h _ hx => ?_
    subst hx
    refine r_false rfl ?_
    exact ⟨((j + 1 : Nat) : Int), by rw [w64 (by omega) (by omega)]; rfl, ⟨j + 1, rfl, by omega, h⟩, by omega⟩
  · exact r_ret h _ rfl rfl)

theorem set_one {A B C : List Value} {n m : Nat} {v : Value} (hA : A.length = n) (hm : m < B.length) : (A ++ (B ++ C)).take (n + m) ++ [v] ++ (A ++ (B ++ C)).drop (n + m + 1) = A ++ (B.set m v ++ C) := set_key hA hm

theorem c_markCommitSV {w0 w : World} {bl L : List Blk} {s : Sl} {X : List PC} (hA : At w0 w (L ++ bl)) (hO : OwnCommitS s X L) (k : Int) (h0 : 0 ≤ k) (hmax : k + msizeCommitS X ≤ 4611686018427387904) (hlen : sizeCommitS X ≤ 1073741824) :
    Calls Tryz.prog n_laws_markCommitS [.slice s.a s.n s.c, .int .i64 k].toArray w fun e w' => ∃ v, e = .returned v ∧ v = .int .i64 (k + msizeCommitS X) ∧ ∃ L', At w0 w' (L' ++ bl) ∧ OwnCommitS s (markCommitS k X) L' := laws_markCommitS_calls s k (by
  unfold laws_markCommitS
  obtain ⟨rs, hX, hO⟩ := hO
  have hn := hO.n
  obtain ⟨Lb, Ld, rfl, hOb, hD, hkr⟩ := hO
  have hXl : X.length = rs.length := by rw [← hX]; simp
  unfold msizeCommitS at hmax ⊢
  unfold sizeCommitS at hlen
  refine r_loop (σ := Int × Int) (fun i w' => ∃ (r1 r2 : List CR) (Lb L1 L2 : List Blk) (X1 : List PC), i = (k + sumF mzC X1, (r1.length : Int)) ∧ X1 ++ r2.map CR.pc = X ∧ r1.map CR.pc = markCommitS k X1 ∧ (∀ r ∈ r1, keyOk r.root) ∧ (∀ r ∈ r2, keyOk r.root) ∧ At w0 w' (Lb ++ (L1 ++ (L2 ++ bl))) ∧ OwnS ty_impl_Commit 35 s ((r1 ++ r2).flatMap CR.cells) Lb ∧ OwnCD r1 L1 ∧ OwnCD r2 L2) (fun i _ => (s.n - i.2).toNat) (k, 0) rfl
    ⟨[], rs, Lb, [], Ld, [], by simp [sumF], by simpa using hX, by simp [markCommitS], by simp, hkr, by simpa [List.append_assoc] using hA, hOb, .nil, hD⟩ ?_
  clear hOb hD hA
  rintro i w4 ⟨r1, r2, Lb, L1, L2, X1, rfl, hX2, hm, hk1, hk2, h, hOb, hD1, hD2⟩
  refine r_any fun _ => ?_
  dsimp only
  have hl1 : X1.length = r1.length := by have := congrArg List.length hm; rw [markCommitS_len] at this; simpa using this.symm
  have hl : r1.length + r2.length = rs.length := by
    have := congrArg List.length hX2
    rw [List.length_append, List.length_map] at this
    omega
  have hsz : sumF mzC X1 + sumF mzC (r2.map CR.pc) = sumF mzC X := by rw [← hX2, sumF_append]
  have hsz2 : sumF szC X1 + sumF szC (r2.map CR.pc) = sumF szC X := by rw [← hX2, sumF_append]
  refine r_if ((r1.length : Int) < (s.n : Int)) rfl (fun hlt => ?_) (fun hge => ?_)
  · cases r2 with
    | nil => simp at hl; omega
    | cons b r2 =>
    rw [List.map_cons, sumF_cons] at hsz hsz2
    have hmz : mzC b.pc = 34 + 32 * b.ps.length := rfl
    have hmk : msizeKeyS b.ps = 32 * b.ps.length := rfl
    have hszb : szC b.pc = b.ps.length + b.note.size := rfl
    have hko := hk2 b (by simp)
    have hkr2 : ∀ r ∈ r2, keyOk r.root := fun r hr => hk2 r (by simp [hr])
    obtain ⟨p, hp⟩ := hOb.addr (by omega)
    have hpl : (r1.flatMap CR.cells).length = 35 * r1.length := by
      rw [flatMap_length (z := 35) (fun b hb => crcells_len (hk1 b hb))]
      omega
    have hrl : (r2.flatMap CR.cells).length = 35 * r2.length := by
      rw [flatMap_length (z := 35) (fun b hb => crcells_len (hkr2 b hb))]
      omega
    have hd : (r1 ++ b :: r2).flatMap CR.cells = r1.flatMap CR.cells ++ (u8s b.root ++ (cmT b.d b.num b.note ++ r2.flatMap CR.cells)) := by
      rw [List.flatMap_append, List.flatMap_cons]
      show _ ++ ((u8s b.root ++ cmT b.d b.num b.note) ++ _) = _
      rw [List.append_assoc]
    rw [hd] at hOb
    obtain ⟨rest, hrest⟩ : ∃ rest, rest = r2.flatMap CR.cells := ⟨_, rfl⟩
    obtain ⟨pre, hpre⟩ : ∃ pre, pre = r1.flatMap CR.cells := ⟨_, rfl⟩
    rw [← hrest, ← hpre] at hOb
    rw [← hrest] at hrl
    rw [← hpre] at hpl
    obtain ⟨k0, hk0⟩ : ∃ k0 : Int, k0 = k + sumF mzC X1 := ⟨_, rfl⟩
    rw [← hk0]
    refine r_loop (σ := Int × Int) (fun i w' => ∃ (m : Nat) (Lb : List Blk), i = (k0 + (m : Int), (m : Int)) ∧ m ≤ 32 ∧ At w0 w' (Lb ++ (L1 ++ (L2 ++ bl))) ∧ OwnS ty_impl_Commit 35 s (pre ++ (u8s (marks k0 m ++ b.root.drop m) ++ (cmT b.d b.num b.note ++ rest))) Lb) (fun i _ => (32 - i.2).toNat) (k0, 0) rfl
      ⟨0, Lb, by simp, by omega, h, by simpa [marks] using hOb⟩ ?_
    clear h hOb
    rintro i w5 ⟨m, Lb, rfl, hm32, h, hOb⟩
    refine r_any fun _ => ?_
    dsimp only
    have hkl : (marks k0 m ++ b.root.drop m).length = 32 := by rw [List.length_append, marks_len, List.length_drop, hko.1]; omega
    have hct : (cmT b.d b.num b.note).length = 3 := rfl
    refine r_if ((m : Int) < 32) rfl (fun hlt2 => ?_) (fun hge2 => ?_)
    · refine r_ix p hp (by omega) (by omega) ?_
      refine r_ix _ rfl (by omega) (by omega) ?_
      refine r_stO h hOb hp (35 * r1.length + m) (by rw [Go.Deep.add_add, Go.Deep.add_add]; simp only [Int.toNat_natCast]; congr 1; omega) (by simp [Value.cells]) (by simp only [List.length_append, hpl, u8s_len, hkl, hrl, hct]; omega) (by simp [Value.cells, oneC]) fun w6 L6 h6 hO6 => ?_
      refine ⟨(k0 + ((m + 1 : Nat) : Int), ((m + 1 : Nat) : Int)), ?_, ⟨m + 1, L6, rfl, by omega, h6, ?_⟩, by dsimp only; omega⟩
      · rw [w64 (by omega) (by omega), w64 (by omega) (by omega)]
        simp only [embL, Sh.emb]
        congr 2
        omega
      · rw [wrapu8] at hO6
        have e : (Value.int .u8 ((k0 + (m : Int)) % 256)).cells.toList = [.int .u8 ((k0 + (m : Int)) % 256)] := rfl
        rw [e, set_key hpl (by rw [u8s_len, hkl]; omega), marks_set hko.1 (by omega)] at hO6
        exact hO6
    · have hm : m = 32 := by omega
      subst hm
      rw [List.drop_of_length_le (by have := hko.1; omega), List.append_nil] at hOb hkl
      cases hD2 with
      | @cons _ _ M1 M2 hM1 hM2 =>
      have h : At w0 w5 (Lb ++ (L1 ++ (M1 ++ (M2 ++ bl)))) := by simpa [List.append_assoc] using h
      have hcell : ∀ j v, (cmT b.d b.num b.note)[j]? = some v → w5.cell? (p.add (35 * r1.length + 32 + j)) = some v := by
        intro j v hv
        have hx : (pre ++ (u8s (marks k0 32) ++ (cmT b.d b.num b.note ++ rest)))[35 * r1.length + 32 + j]? = some v := by
          rw [List.getElem?_append_right (by omega), List.getElem?_append_right (by rw [u8s_len]; omega), u8s_len, hkl, hpl, show 35 * r1.length + 32 + j - 35 * r1.length - 32 = j by omega, List.getElem?_append_left (List.getElem?_eq_some_iff.1 hv).1]
          exact hv
        obtain ⟨q, hq, hc⟩ := (hOb.sl h (List.sublist_append_left _ _)).cell _ _ hx
        rw [hp] at hq
        cases hq
        exact hc
      refine r_ix p hp (by omega) (by omega) ?_
      refine r_ldN (sh := .slice) b.d (by
        have := hcell 0 _ rfl
        rw [Go.Deep.add_add]
        simp only [Int.toNat_natCast]
        rw [show r1.length * 35 + 32 = 35 * r1.length + 32 + 0 by omega]
        exact this) ?_
      refine r_callR (c_markKeySV h.pl2 hM1 (k0 + 32) (by omega) (by omega)) ?_
      rintro v w6 ⟨rfl, M1', h, hM1'⟩
      refine ⟨_, rfl, ?_⟩
      have h := h.ps2
      have eA : pre ++ (u8s (marks k0 32) ++ (cmT b.d b.num b.note ++ rest)) = (pre ++ u8s (marks k0 32)) ++ (cmT b.d b.num b.note ++ rest) := by rw [List.append_assoc]
      rw [eA] at hOb
      have hAl : (pre ++ u8s (marks k0 32)).length = 35 * r1.length + 32 := by rw [List.length_append, u8s_len, hkl, hpl]
      refine r_ix p hp (by omega) (by omega) ?_
      refine r_stO h hOb hp (35 * r1.length + 32 + 1) (by rw [Go.Deep.add_add]; simp only [Int.toNat_natCast]; congr 1; omega) (by simp [Value.cells]) (by rw [List.length_append, hAl, List.length_append, hct, hrl]; omega) (by simp [Value.cells, oneC]) fun w7 L7 h hO7 => ?_
      rw [show ∀ x : Int, (Value.int .i64 x).cells.toList = [.int .i64 x] from fun _ => rfl, set_one hAl (by rw [hct]; omega)] at hO7
      rw [show ∀ x : Int, (cmT b.d b.num b.note).set 1 (.int .i64 x) = cmT b.d x b.note from fun _ => rfl] at hO7
      rw [w64 (n := k0 + 32 + (msizeKeyS b.ps : Int) + 1) (by omega) (by omega)]
      refine r_call h (c_markText _ (by omega) _) fun r23 w8 h _ hr => ?_
      subst hr
      refine r_ix p hp (by omega) (by omega) ?_
      have hct2 : ∀ x : Int, (cmT b.d x b.note).length = 3 := fun _ => rfl
      refine r_stO h hO7 hp (35 * r1.length + 32 + 2) (by rw [Go.Deep.add_add]; simp only [Int.toNat_natCast]; congr 1; omega) (by simp [Value.cells]) (by rw [List.length_append, hAl, List.length_append, hct2, hrl]; omega) (by simp [Value.cells, oneC]) fun w9 L9 h hO9 => ?_
      rw [show ∀ x : ByteArray, (Value.string x).cells.toList = [.string x] from fun _ => rfl, set_one hAl (by rw [hct2]; omega)] at hO9
      rw [show ∀ (x : Int) (y : ByteArray), (cmT b.d x b.note).set 2 (.string y) = cmT b.d x y from fun _ _ => rfl] at hO9
      rw [w64 (n := k0 + 32 + (msizeKeyS b.ps : Int) + 1 + 1) (by omega) (by omega), w64 (n := (r1.length : Int) + 1) (by omega) (by omega)]
      obtain ⟨nb, hnb⟩ : ∃ nb : CR, nb = ⟨marks k0 32, b.d, markKeyS (k0 + 32) b.ps, k0 + 32 + msizeKeyS b.ps, markT (k0 + 32 + msizeKeyS b.ps + 1)⟩ := ⟨_, rfl⟩
      have hnc : nb.cells = u8s (marks k0 32) ++ cmT b.d (k0 + 32 + msizeKeyS b.ps) (markT (k0 + 32 + msizeKeyS b.ps + 1)) := by rw [hnb]; rfl
      have hnp : nb.pc = markC k0 b.pc := by rw [hnb]; rfl
      have hnd : OwnKeyS nb.d nb.ps M1' := by rw [hnb]; exact hM1'
      have hnk : keyOk nb.root := by rw [hnb]; exact ⟨marks_len _ _, marks_ok _ _⟩
      clear hnb
      refine ⟨(k + sumF mzC (X1 ++ [b.pc]), (((r1 ++ [nb]).length : Nat) : Int)), ?_, ⟨r1 ++ [nb], r2, L9, L1 ++ M1', M2, X1 ++ [b.pc], rfl, ?_, ?_, ?_, hkr2, ?_, ?_, hD1.snoc hnd, hM2⟩, by simp; omega⟩
      · rw [sumF_append, sumF_one]
        simp only [embL, Sh.emb, List.length_append, List.length_cons, List.length_nil]
        congr 2
        omega
      · rw [← hX2]; simp
      · rw [List.map_append, hm, markCommitS_append, ← hk0]
        simp [markCommitS, hnp]
      · intro x hx
        rcases List.mem_append.1 hx with hx | hx
        · exact hk1 x hx
        · rw [List.mem_singleton.1 hx]; exact hnk
      · rw [List.append_assoc]; exact h
      · have e : ((r1 ++ [nb]) ++ r2).flatMap CR.cells = (pre ++ u8s (marks k0 32)) ++ (cmT b.d (k0 + 32 + msizeKeyS b.ps) (markT (k0 + 32 + msizeKeyS b.ps + 1)) ++ rest) := by
          rw [List.flatMap_append, List.flatMap_append, List.flatMap_singleton, hnc, ← hrest, ← hpre]
          simp [List.append_assoc]
        rw [e]
        exact hO9
  · have : r2 = [] := List.eq_nil_of_length_eq_zero (by omega)
    subst this
    rw [List.map_nil, List.append_nil] at hX2
    subst hX2
    rw [List.append_nil] at hOb
    cases hD2
    exact r_retR ⟨rfl, Lb ++ L1, by simpa [List.append_assoc] using h, r1, hm, ⟨Lb, L1, rfl, hOb, hD1, hk1⟩⟩)

theorem cm_byte {root : List Int} (h : keyOk root) (d : Sl) (num : Int) (note : ByteArray) {m : Nat} (hm : m < 32) : (cmC root d num note).toArray[m]? = some (.int .u8 (root.getD m 0)) := by
  have e : (u8s root).length = 32 := by rw [u8s_len]; exact h.1
  unfold cmC
  rw [List.getElem?_toArray, List.getElem?_append_left (by omega)]
  exact u8s_get (by rw [h.1]; exact hm)

theorem c_heldCommitSV {w : World} {s : Sl} {X : List PC} (k : Int) (h : RdCommitS w s (markCommitS k X)) (h0 : 0 ≤ k) (hmax : k + msizeCommitS X ≤ 4611686018427387904) (hlen : sizeCommitS X ≤ 1073741824) : Ret Tryz.prog n_laws_heldCommitS [.slice s.a s.n s.c, .int .i64 k] w [.int .i64] (fun x _ => x = k + msizeCommitS X) := laws_heldCommitS_calls s k (by
  unfold laws_heldCommitS
  obtain ⟨rs, hX, hs⟩ := h
  have hn := hs.n
  have hXl : X.length = rs.length := by have := congrArg List.length hX; rw [markCommitS_len, List.length_map] at this; omega
  unfold msizeCommitS at hmax ⊢
  unfold sizeCommitS at hlen
  refine r_loop (σ := Int × Int) (fun i w' => ∃ (X1 X2 : List PC), i = (k + sumF mzC X1, (X1.length : Int)) ∧ X = X1 ++ X2 ∧ At w w' []) (fun i _ => (s.n - i.2).toNat) (k, 0) rfl ⟨[], X, by simp [sumF], rfl, At.refl w⟩ ?_
  rintro i w4 ⟨X1, X2, rfl, rfl, h⟩
  refine r_any fun _ => ?_
  dsimp only
  rw [List.length_append] at hXl hlen
  rw [sumF_append] at hmax hlen
  refine r_if ((X1.length : Int) < (s.n : Int)) rfl (fun hlt => ?_) (fun hge => ?_)
  · cases X2 with
    | nil => simp at hXl; omega
    | cons c X2 =>
    rw [sumF_cons] at hmax hlen
    obtain ⟨r, p, hr, hrm, hp, hko, hok, hcm⟩ := hs.get (i := X1.length) (by omega)
    have hx := crmap_get hX hr
    obtain ⟨k0, hk0⟩ : ∃ k0 : Int, k0 = k + sumF mzC X1 := ⟨_, rfl⟩
    have hrd : r.pc = markC k0 c := by
      rw [markCommitS_append] at hx
      rw [List.getElem?_append_right (by rw [markCommitS_len]; omega), markCommitS_len, Nat.sub_self, ← hk0] at hx
      simpa [markCommitS] using hx.symm
    have hmz : mzC c = 34 + 32 * c.ps.length := rfl
    have hmk : msizeKeyS c.ps = 32 * c.ps.length := rfl
    rw [← hk0]
    have e1 : r.root = marks k0 32 := congrArg PC.root hrd
    have e2 : r.ps = markKeyS (k0 + 32) c.ps := congrArg PC.ps hrd
    have e3 : r.num = k0 + 32 + msizeKeyS c.ps := congrArg PC.num hrd
    have e4 : r.note = markT (k0 + 32 + msizeKeyS c.ps + 1) := congrArg PC.note hrd
    refine r_loop (σ := Int × Int) (fun i w' => ∃ (m : Nat), i = (k0 + (m : Int), (m : Int)) ∧ m ≤ 32 ∧ At w w' []) (fun i _ => (32 - i.2).toNat) (k0, 0) rfl
      ⟨0, by simp, by omega, h⟩ ?_
    clear h
    rintro i w5 ⟨m, rfl, hm, h⟩
    refine r_any fun _ => ?_
    dsimp only
    have hcm5 := hcm.at h
    refine r_if ((m : Int) < 32) rfl (fun hlt2 => ?_) (fun hge2 => ?_)
    · refine r_ix p hp (by omega) (by omega) ?_
      refine r_ix _ rfl (by omega) (by omega) ?_
      refine r_ldN (sh := .int .u8) ((k0 + (m : Int)) % 256) (by
        have hb := hcm5.all.2 m _ (cm_byte hko r.d r.num r.note (m := m) (by omega))
        rw [e1, marks_get k0 (by omega)] at hb
        rw [Go.Deep.add_add]
        simp only [Int.toNat_natCast, Nat.mul_one, Nat.zero_add]
        exact hb) ?_
      rw [wrapu8]
      refine r_ne (fun hh => absurd rfl hh) fun _ => ?_
      refine ⟨(k0 + ((m + 1 : Nat) : Int), ((m + 1 : Nat) : Int)), ?_, ⟨m + 1, rfl, by omega, h⟩, by dsimp only; omega⟩
      rw [w64 (by omega) (by omega), w64 (by omega) (by omega)]
      simp only [embL, Sh.emb]
      congr 2
      omega
    · have hm32 : m = 32 := by omega
      subst hm32
      refine r_ix p hp (by omega) (by omega) ?_
      simp only [Int.toNat_natCast]
      refine r_ldN r.d hcm5.d ?_
      refine r_call h (c_heldKeySV (ks := c.ps) (k0 + 32) (by rw [← e2]; exact KsR.at hok h) (by omega) (by omega)) fun x w6 h _ hx => ?_
      subst hx
      have hcm6 := hcm.at h
      refine r_if (k0 + 32 + (msizeKeyS c.ps : Int) < 0) rfl (fun hh => by omega) (fun _ => ?_)
      refine r_ix p hp (by omega) (by omega) ?_
      simp only [Int.toNat_natCast]
      refine r_ldN (sh := .int .i64) r.num hcm6.num ?_
      rw [e3]
      refine r_ne (fun hh => absurd rfl hh) fun _ => ?_
      refine r_draw h fun w7 h => ?_
      refine r_ix p hp (by omega) (by omega) ?_
      simp only [Int.toNat_natCast]
      refine r_ldN (sh := .str) r.note (hcm.at h).note ?_
      rw [w64 (n := k0 + 32 + (msizeKeyS c.ps : Int) + 1) (by omega) (by omega)]
      refine r_call h (c_markText _ (by omega) _) fun r28 w8 h _ hr => ?_
      subst hr
      refine r_chk1 (hcm.at h).note ?_
      refine r_pur _ (fun w' => run_neq_str _ _ _ _ _ w') ?_
      refine r_false (by rw [e4]; simp) ?_
      refine ⟨(k + sumF mzC (X1 ++ [c]), (((X1 ++ [c]).length : Nat) : Int)), ?_, ⟨X1 ++ [c], X2, rfl, by simp, h⟩, by simp; omega⟩
      rw [w64 (n := k0 + 32 + (msizeKeyS c.ps : Int) + 1 + 1) (by omega) (by omega), w64 (n := (X1.length : Int) + 1) (by omega) (by omega), sumF_append, sumF_one]
      simp only [embL, Sh.emb, List.length_append, List.length_cons, List.length_nil]
      congr 2
      omega
  · have : X2 = [] := List.eq_nil_of_length_eq_zero (by omega)
    subst this
    exact r_ret h _ rfl (by rw [List.append_nil]))

structure PBk where
  cms : List PC
  maps : List (List PE)
def bkC (s t : Sl) : Array Value := #[.slice s.a s.n s.c, .slice t.a t.n t.c]
theorem bkC_one (s t : Sl) : ∀ v ∈ (bkC s t).toList, oneC v = true := by simp [bkC, oneC]
def RdBook (w : World) (r : Array Value) (b : PBk) : Prop := ∃ s t, r = bkC s t ∧ RdCommitS w s b.cms ∧ RdEntrySS w t b.maps
theorem RdBook.at {w w' : World} {ls : List Blk} {r : Array Value} {b : PBk} (h : RdBook w r b) (hA : At w w' ls) : RdBook w' r b := let ⟨s, t, h1, h2, h3⟩ := h; ⟨s, t, h1, h2.at hA, h3.at hA⟩
def OwnBook (r : Array Value) (b : PBk) (L : List Blk) : Prop := ∃ s t L1 L2, r = bkC s t ∧ L = L1 ++ L2 ∧ OwnCommitS s b.cms L1 ∧ OwnEntrySS t b.maps L2
theorem OwnBook.rd {w0 w : World} {r : Array Value} {b : PBk} {L ls : List Blk} (h : OwnBook r b L) (hA : At w0 w (L ++ ls)) : RdBook w r b := by
  obtain ⟨s, t, L1, L2, h1, rfl, h2, rs, h3, h4⟩ := h
  exact ⟨s, t, h1, h2.rd hA ((List.sublist_append_left _ _).trans (List.sublist_append_left _ _)), rs, h3, h4.rd hA ((List.sublist_append_right _ _).trans (List.sublist_append_left _ _))⟩
theorem OwnBook.none : OwnBook (bkC ⟨.none, 0, 0⟩ ⟨.none, 0, 0⟩) ⟨[], []⟩ [] := ⟨_, _, [], [], rfl, rfl, OwnCommitS.none, OwnEntrySS.none⟩
def RawBook (w : World) (r : Array Value) (b : PBk) : Prop := ∃ s t, r = bkC s t ∧ RawCommitS w s b.cms ∧ RawEntrySS w t b.maps
theorem RawBook.rd {w : World} {r : Array Value} {b : PBk} (h : RawBook w r b) : RdBook w r b := let ⟨s, t, h1, h2, h3⟩ := h; ⟨s, t, h1, h2.rd, h3.rd⟩
theorem RawBook.sz {w : World} {r : Array Value} {b : PBk} (h : RawBook w r b) : r.size = 2 := by obtain ⟨s, t, rfl, _⟩ := h; rfl
theorem RawBook.one {w : World} {r : Array Value} {b : PBk} (h : RawBook w r b) : ∀ v ∈ r.toList, oneC v = true := by obtain ⟨s, t, rfl, _⟩ := h; exact bkC_one s t
theorem OwnBook.sz {r : Array Value} {b : PBk} {L : List Blk} (h : OwnBook r b L) : r.size = 2 := by obtain ⟨s, t, _, _, rfl, _⟩ := h; rfl
theorem OwnBook.one {r : Array Value} {b : PBk} {L : List Blk} (h : OwnBook r b L) : ∀ v ∈ r.toList, oneC v = true := by obtain ⟨s, t, _, _, rfl, _⟩ := h; exact bkC_one s t
def sizeBook (b : PBk) : Nat := sizeCommitS b.cms + sizeEntrySS b.maps
def msizeBook (b : PBk) : Nat := msizeCommitS b.cms + msizeEntrySS b.maps
def markBook (k : Int) (b : PBk) : PBk := ⟨markCommitS k b.cms, markEntrySS (k + msizeCommitS b.cms) b.maps⟩
theorem msizeBook_le (b : PBk) : msizeBook b ≤ 34 * sizeBook b := by
  have h1 := msize_sizeC b.cms
  have h2 := msize_sizeESS b.maps
  unfold msizeBook sizeBook
  omega

theorem c_szBookV {w : World} {r : Array Value} {b : PBk} (h : RawBook w r b) {w1 : World} (hb : Below w.heap.size w w1) (m : Int) (hm : 0 ≤ m ∧ m ≤ 1073741824) : Ret Tryz.prog n_laws_szBook [.agg r, .int .i64 m] w1 [.int .i64] (fun x _ => x = if (sizeBook b : Int) ≤ m then m - sizeBook b else -1) := laws_szBook_calls _ m (by
  unfold laws_szBook
  obtain ⟨s, t, rfl, h1, h2⟩ := h
  have hsz : sizeBook b = sizeCommitS b.cms + sizeEntrySS b.maps := rfl
  refine r_new (At.refl w1) fun b2 w2 h => ?_
  have h : At w1 w2 [(b2, bkC s t, ty_laws_Book)] := h
  refine r_ld h 0 rfl (add_lit _ _ _) s (by simp [Sh.emb]) rfl ?_
  refine r_call h (c_szCommitSV h1 (hb.trans (h.below.mono hb.size)) m hm) fun x w3 h _ hx => ?_
  subst hx
  by_cases hc1 : (sizeCommitS b.cms : Int) ≤ m
  · rw [if_pos hc1]
    refine r_if (m - (sizeCommitS b.cms : Int) < 0) rfl (fun hh => by omega) (fun _ => ?_)
    refine r_ld h 0 rfl (add_lit _ _ _) t (by simp [Sh.emb]) rfl ?_
    refine r_call h (c_szEntrySSV h2 (hb.trans (h.below.mono hb.size)) _ ⟨by omega, by omega⟩) fun x w4 h _ hx => ?_
    subst hx
    by_cases hc2 : (sizeEntrySS b.maps : Int) ≤ m - (sizeCommitS b.cms : Int)
    · rw [if_pos hc2]
      refine r_if (m - (sizeCommitS b.cms : Int) - (sizeEntrySS b.maps : Int) < 0) rfl (fun hh => by omega) (fun _ => ?_)
      exact r_ret h.nil (m - (sizeCommitS b.cms : Int) - (sizeEntrySS b.maps : Int)) rfl (by rw [if_pos (by omega)]; show (m - (sizeCommitS b.cms : Int) - (sizeEntrySS b.maps : Int) : Int) = m - (sizeBook b : Int); omega)
    · rw [if_neg hc2]
      refine r_true rfl ?_
      exact r_ret h.nil (-1 : Int) rfl (by rw [if_neg (by omega)])
  · rw [if_neg hc1]
    refine r_true rfl ?_
    exact r_ret h.nil (-1 : Int) rfl (by rw [if_neg (by omega)]))

theorem c_toBookV {w : World} {r : Array Value} {b : PBk} (h : RdBook w r b) (hz : sizeBook b ≤ 1073741824) : Ret Tryz.prog n_laws_toBook [.agg r] w [.agg] (fun r' w' => ∃ L, At w w' L ∧ OwnBook r' b L) := laws_toBook_calls _ (by
  unfold laws_toBook
  obtain ⟨s, t, rfl, h1, h2⟩ := h
  unfold sizeBook at hz
  refine r_new (At.refl w) fun b1 w1 h => ?_
  refine r_new h fun b2 w2 h => ?_
  refine r_new h fun b3 w3 h => ?_
  have h : At w w3 [(b3, bkC ⟨none, 0, 0⟩ ⟨none, 0, 0⟩, ty_impl_Book), (b2, bkC ⟨none, 0, 0⟩ ⟨none, 0, 0⟩, ty_impl_Book), (b1, bkC s t, ty_laws_Book)] := h
  refine r_ld h 2 rfl (add_lit _ _ _) s (by simp [Sh.emb]) rfl ?_
  refine r_call h (c_toCommitSV (h1.at h) (by omega)) fun x w4 _ _ ⟨L1, hL1, hO1⟩ => ?_
  have h := (h.join hL1).swap
  have h : At w w4 ([(b3, bkC ⟨none, 0, 0⟩ ⟨none, 0, 0⟩, ty_impl_Book), (b2, bkC ⟨none, 0, 0⟩ ⟨none, 0, 0⟩, ty_impl_Book), (b1, bkC s t, ty_laws_Book)] ++ L1) := h
  refine r_st h 0 (o := 0) rfl (by rw [add_lit]) (by simp [bkC]) rfl fun w5 h => ?_
  have h : At w w5 ([(b3, bkC x ⟨none, 0, 0⟩, ty_impl_Book), (b2, bkC ⟨none, 0, 0⟩ ⟨none, 0, 0⟩, ty_impl_Book), (b1, bkC s t, ty_laws_Book)] ++ L1) := h
  refine r_ld h 2 rfl (add_lit _ _ _) t (by simp [Sh.emb]) rfl ?_
  refine r_call h (c_toEntrySSV (h2.at h) (by omega)) fun y w6 _ _ ⟨L2, hL2, hO2⟩ => ?_
  have h := (h.join hL2).swap
  rw [List.append_assoc] at h
  have h : At w w6 ([(b3, bkC x ⟨none, 0, 0⟩, ty_impl_Book), (b2, bkC ⟨none, 0, 0⟩ ⟨none, 0, 0⟩, ty_impl_Book), (b1, bkC s t, ty_laws_Book)] ++ (L1 ++ L2)) := h
  refine r_st h 0 (o := 1) rfl (by rw [add_lit]) (by simp [bkC]) rfl fun w7 h => ?_
  have h : At w w7 ([(b3, bkC x y, ty_impl_Book), (b2, bkC ⟨none, 0, 0⟩ ⟨none, 0, 0⟩, ty_impl_Book), (b1, bkC s t, ty_laws_Book)] ++ (L1 ++ L2)) := h
  refine r_ldA h 0 rfl rfl rfl ?_
  refine r_stA h 1 rfl rfl rfl rfl (bkC_one x y) fun w8 h => ?_
  refine r_ldA h 1 rfl rfl rfl ?_
  exact r_ret h.nil (bkC x y) rfl ⟨L1 ++ L2, h.right (A := [_, _, _]), x, y, L1, L2, rfl, rfl, hO1, hO2⟩)

theorem c_eqBookV {w : World} {r r' : Array Value} {b : PBk} (h : RdBook w r b) (h' : RdBook w r' b) (hz : sizeBook b ≤ 1073741824) : Ret Tryz.prog n_laws_eqBook [.agg r, .agg r'] w [.bool] (fun x _ => x = true) := laws_eqBook_calls _ _ (by
  unfold laws_eqBook
  obtain ⟨s, t, rfl, h1, h2⟩ := h
  obtain ⟨s', t', rfl, h1', h2'⟩ := h'
  unfold sizeBook at hz
  refine r_new (At.refl w) fun b2 w1 h => ?_
  refine r_new h fun b3 w2 h => ?_
  have h : At w w2 [(b3, bkC s' t', ty_impl_Book), (b2, bkC s t, ty_impl_Book)] := h
  refine r_ld h 1 rfl (add_lit _ _ _) s (by simp [Sh.emb]) rfl ?_
  refine r_ld h 0 rfl (add_lit _ _ _) s' (by simp [Sh.emb]) rfl ?_
  refine r_call h (c_eqCommitSV (h1.at h) (h1'.at h) (by omega)) fun x w4 h _ hx => ?_
  subst hx
  refine r_false rfl ?_
  refine r_ld h 1 rfl (add_lit _ _ _) t (by simp [Sh.emb]) rfl ?_
  refine r_ld h 0 rfl (add_lit _ _ _) t' (by simp [Sh.emb]) rfl ?_
  refine r_call h (c_eqEntrySSV (h2.at h) (h2'.at h) (by omega)) fun x w5 h _ hx => ?_
  subst hx
  refine r_false rfl ?_
  exact r_ret h.nil _ rfl rfl)

theorem c_markBookV {w0 w : World} {ls L : List Blk} {r : Array Value} {b : PBk} (hA : At w0 w (L ++ ls)) (hO : OwnBook r b L) (k : Int) (h0 : 0 ≤ k) (hmax : k + msizeBook b ≤ 4611686018427387904) (hlen : sizeBook b ≤ 1073741824) :
    Calls Tryz.prog n_laws_markBook [.agg r, .int .i64 k].toArray w fun e w' => ∃ v, e = .returned v ∧ v = .int .i64 (k + msizeBook b) ∧ ∃ L', At w0 w' (L' ++ ls) ∧ OwnBook r (markBook k b) L' := laws_markBook_calls _ k (by
  unfold laws_markBook
  obtain ⟨s, t, L1, L2, rfl, rfl, hO1, hO2⟩ := hO
  unfold msizeBook at hmax ⊢
  unfold sizeBook at hlen
  rw [List.append_assoc] at hA
  refine r_new hA fun b2 w1 h => ?_
  have h : At w0 w1 ([(b2, bkC s t, ty_impl_Book)] ++ (L1 ++ (L2 ++ ls))) := h
  refine r_ld h 0 rfl (add_lit _ _ _) s (by simp [Sh.emb]) rfl ?_
  refine r_callR (c_markCommitSV h.pl1 hO1 k h0 (by omega) (by omega)) ?_
  rintro v w2 ⟨rfl, L1', h, hO1'⟩
  refine ⟨_, rfl, ?_⟩
  have h : At w0 w2 ([(b2, bkC s t, ty_impl_Book)] ++ (L1' ++ (L2 ++ ls))) := h.ps1
  refine r_ld h 0 rfl (add_lit _ _ _) t (by simp [Sh.emb]) rfl ?_
  refine r_callR (c_markEntrySSV h.pl2 hO2 (k + msizeCommitS b.cms) (by omega) (by omega) (by omega)) ?_
  rintro v w3 ⟨rfl, L2', h, hO2'⟩
  refine ⟨_, rfl, ?_⟩
  have h : At w0 w3 ([(b2, bkC s t, ty_impl_Book)] ++ (L1' ++ (L2' ++ ls))) := h.ps2
  refine r_retR ⟨?_, L1' ++ L2', by rw [List.append_assoc]; exact h.right, s, t, L1', L2', rfl, rfl, hO1', hO2'⟩
  show Value.int .i64 _ = Value.int .i64 _
  congr 1
  omega)

theorem c_heldBookV {w : World} {r : Array Value} {b : PBk} (k : Int) (h : RdBook w r (markBook k b)) (h0 : 0 ≤ k) (hmax : k + msizeBook b ≤ 4611686018427387904) (hlen : sizeBook b ≤ 1073741824) : Ret Tryz.prog n_laws_heldBook [.agg r, .int .i64 k] w [.int .i64] (fun x _ => x = k + msizeBook b) := laws_heldBook_calls _ k (by
  unfold laws_heldBook
  obtain ⟨s, t, rfl, h1, h2⟩ := h
  unfold msizeBook at hmax ⊢
  unfold sizeBook at hlen
  refine r_new (At.refl w) fun b2 w1 h => ?_
  have h : At w w1 [(b2, bkC s t, ty_impl_Book)] := h
  refine r_ld h 0 rfl (add_lit _ _ _) s (by simp [Sh.emb]) rfl ?_
  refine r_call h (c_heldCommitSV k (h1.at h) h0 (by omega) (by omega)) fun x w2 h _ hx => ?_
  subst hx
  refine r_if (k + (msizeCommitS b.cms : Int) < 0) rfl (fun hh => by omega) (fun _ => ?_)
  refine r_ld h 0 rfl (add_lit _ _ _) t (by simp [Sh.emb]) rfl ?_
  refine r_call h (c_heldEntrySSV (k + msizeCommitS b.cms) (h2.at h) (by omega) (by omega) (by omega)) fun x w3 h _ hx => ?_
  subst hx
  refine r_if (k + (msizeCommitS b.cms : Int) + (msizeEntrySS b.maps : Int) < 0) rfl (fun hh => by omega) (fun _ => ?_)
  refine r_ret h.nil _ rfl ?_
  show (k + (msizeCommitS b.cms : Int) + (msizeEntrySS b.maps : Int) : Int) = k + ((msizeCommitS b.cms + msizeEntrySS b.maps : Nat) : Int)
  omega)

theorem trod_keys {H : Type} {enc : TypeId × Value → H} {w : World} {base : Nat} {spare : Nat → Bool} {held : Bool} {fuel : Nat} {cs : List Value} {x : DataW H × List MemPlace} (h : DataW.trod enc Tryz.prog w base spare held fuel ty_sl_arr32_uint8 cs = some x) : ∃ (s : Sl) (ks : List (List Int)), cs = [.slice s.a s.n s.c] ∧ RawKeyS w s ks := by
  obtain ⟨s, ks, h1, h2, h3, h4⟩ := trod_sl (α := List Int) (u := ty_arr32_uint8) (z := 32) (cells := u8s) (ok := keyOk) (by kernel_rfl) (by kernel_rfl) (by omega) (fun k hk => by rw [u8s_len]; exact hk.1) (fun fuel cs x h => by
    obtain ⟨hl, hall⟩ := trod_bytes (n := 32) (e := ty_uint8) (by kernel_rfl) (by kernel_rfl) (by kernel_rfl) (by kernel_rfl) h
    obtain ⟨g, hg⟩ := choose_lt (α := Int) (n := 32) (p := fun j b => cs[j]? = some (.int .u8 b) ∧ 0 ≤ b ∧ b < 256) (fun j hj => by
      obtain ⟨b, hb, hb2⟩ := hall j hj
      exact ⟨b, hb, hb2⟩)
    refine ⟨(List.range 32).map g, ?_, by simp, fun b hb => ?_⟩
    · apply List.ext_getElem?
      intro j
      rcases Nat.lt_or_ge j 32 with hj | hj
      · rw [(hg j hj).1]
        simp [u8s, hj]
      · rw [List.getElem?_eq_none (by omega), List.getElem?_eq_none (by simp [u8s]; omega)]
    · obtain ⟨j, hj, rfl⟩ := List.mem_map.1 hb
      exact (hg j (List.mem_range.1 hj)).2) h
  exact ⟨s, ks, h1, ⟨h2, h4⟩, h2.cap, h3⟩
theorem trod_CommitS {H : Type} {enc : TypeId × Value → H} {w : World} {base : Nat} {spare : Nat → Bool} {held : Bool} {fuel : Nat} {cs : List Value} {x : DataW H × List MemPlace} (h : DataW.trod enc Tryz.prog w base spare held fuel ty_sl_laws_Commit cs = some x) : ∃ (s : Sl) (X : List PC), cs = [.slice s.a s.n s.c] ∧ RawCommitS w s X := by
  obtain ⟨s, rs, h1, h2, h3, h4⟩ := trod_sl (α := CR) (u := ty_laws_Commit) (z := 35) (cells := CR.cells) (ok := fun r => keyOk r.root ∧ RawKeyS w r.d r.ps ∧ r.note.size ≤ maxLen) (by kernel_rfl) (by kernel_rfl) (by omega) (fun r hr => cmC_len hr.1 ..) (fun fuel cs x h => by
    obtain ⟨hl, hf⟩ := trod_fields (l := [(ty_arr32_uint8, 0), (ty_sl_arr32_uint8, 32), (ty_int64, 33), (ty_string, 34)]) (by kernel_rfl) h
    obtain ⟨_, _, t0⟩ := hf 0 _ _ rfl
    obtain ⟨_, _, t1⟩ := hf 1 _ _ rfl
    obtain ⟨_, _, t2⟩ := hf 2 _ _ rfl
    obtain ⟨_, _, t3⟩ := hf 3 _ _ rfl
    have e0 : Tryz.prog.cellsOf ty_arr32_uint8 = 32 := by kernel_rfl
    have e1 : Tryz.prog.cellsOf ty_sl_arr32_uint8 = 1 := by kernel_rfl
    have e2 : Tryz.prog.cellsOf ty_int64 = 1 := by kernel_rfl
    have e3 : Tryz.prog.cellsOf ty_string = 1 := by kernel_rfl
    have e4 : Tryz.prog.cellsOf ty_laws_Commit = 35 := by kernel_rfl
    rw [e0] at t0
    rw [e1] at t1
    rw [e2] at t2
    rw [e3] at t3
    rw [e4] at hl
    rw [List.drop_zero] at t0
    obtain ⟨_, hall⟩ := trod_bytes (n := 32) (e := ty_uint8) (by kernel_rfl) (by kernel_rfl) (by kernel_rfl) (by kernel_rfl) t0
    obtain ⟨d, ks, hd, hks⟩ := trod_keys t1
    obtain ⟨c, hc, _, hw⟩ := DataW.trod_int (k := .i64) (by kernel_rfl) t2
    obtain ⟨n, hn, _, hnw⟩ := DataW.trod_string (by kernel_rfl) t3
    obtain ⟨g, hg⟩ := choose_lt (α := Int) (n := 32) (p := fun j b => (cs.take 32)[j]? = some (.int .u8 b) ∧ 0 ≤ b ∧ b < 256) (fun j hj => by
      obtain ⟨b, hb, hb2⟩ := hall j hj
      exact ⟨b, hb, hb2⟩)
    refine ⟨⟨(List.range 32).map g, d, ks, c, n⟩, ?_, ⟨by simp, fun b hb => ?_⟩, hks, hnw⟩
    · have ht : cs.take 32 = u8s ((List.range 32).map g) := by
        apply List.ext_getElem?
        intro j
        rcases Nat.lt_or_ge j 32 with hj | hj
        · rw [(hg j hj).1]
          simp [u8s, hj]
        · rw [List.getElem?_eq_none (by simp; omega), List.getElem?_eq_none (by simp [u8s]; omega)]
      have hdr : cs.drop 32 = [.slice d.a d.n d.c, .int .i64 c, .string n] := by
        rw [← List.take_append_drop 1 (cs.drop 32), hd, List.drop_drop, ← List.take_append_drop 1 (cs.drop (32 + 1)), hc, List.drop_drop, show 32 + 1 + 1 = 34 from rfl]
        have : cs.drop 34 = [.string n] := by rw [← hn, List.take_of_length_le (by simp; omega)]
        rw [this]
        rfl
      show cs = u8s _ ++ _
      rw [← List.take_append_drop 32 cs, ht, hdr]
      rfl
    · obtain ⟨j, hj, rfl⟩ := List.mem_map.1 hb
      exact (hg j (List.mem_range.1 hj)).2) h
  exact ⟨s, rs.map CR.pc, h1, rs, rfl, ⟨h2, fun r hr => ⟨(h4 r hr).1, (h4 r hr).2.1.rd⟩⟩, h3, fun r hr => (h4 r hr).2⟩

set_option maxRecDepth 100000 in
theorem open_Book {H : Type} {enc : TypeId × Value → H} {w : World} {base : Nat} {spare : Nat → Bool} {held : Bool} {r : Reach} {b0 : Nat} {v : Value} {d : DataW H} {ps : List MemPlace} (hval : Value.okWide Tryz.prog w r b0 ty_laws_Book v) (hd : DataW.Trod enc Tryz.prog w base spare held ty_laws_Book v d ps) : ∃ (x : Array Value) (b : PBk), v = .agg x ∧ RawBook w x b := by
  have hb : structB Tryz.prog ty_laws_Book [(ty_sl_laws_Commit, 0), (ty_sl_sl_laws_Entry, 1)] = true := by kernel_rfl
  obtain ⟨cs, rfl⟩ := okWide_structB hb hval
  obtain ⟨fuel, hf⟩ := hd
  obtain ⟨hl, hf⟩ := trod_fields hb hf
  obtain ⟨_, _, t0⟩ := hf 0 _ _ rfl
  obtain ⟨_, _, t1⟩ := hf 1 _ _ rfl
  have e3 : Tryz.prog.cellsOf ty_sl_laws_Commit = 1 := by kernel_rfl
  have e4 : Tryz.prog.cellsOf ty_sl_sl_laws_Entry = 1 := by kernel_rfl
  have e5 : Tryz.prog.cellsOf ty_laws_Book = 2 := by kernel_rfl
  rw [e3] at t0
  rw [e4] at t1
  rw [e5] at hl
  have hl' : (Value.agg cs).cells.toList = cs.toList := rfl
  rw [hl'] at t0 t1 hl
  rw [List.drop_zero] at t0
  obtain ⟨s, X, h1, h2⟩ := trod_CommitS t0
  obtain ⟨t, Y, h3, h4⟩ := trod_EntrySS t1
  have hcs : cs = bkC s t := by
    rw [← Array.toArray_toList (xs := cs), ← List.take_append_drop 1 cs.toList, h1]
    have : cs.toList.drop 1 = [.slice t.a t.n t.c] := by rw [← h3, List.take_of_length_le (by simp at hl ⊢; omega)]
    rw [this]
    rfl
  subst hcs
  exact ⟨_, ⟨X, Y⟩, rfl, s, t, rfl, h2, h4⟩
end Go.Proofs.YtaadgdbegpmlmaaGreat
