/- Contract of the hash (program): the key of some data. What laws do with bytes, blobs and stores: told, copied, compared, marked, held. Blobs and stores: what they read as; told, copied, compared, marked, held. Plain: lists of bytes in order, lists of keys in ascending order, each once. The program: keys are compared, copied, sorted, each once; a key is found. The program: sorted keys, each once; whether keys are sorted; a key is found. -/
import Derived.Shelf.SlSortCmp.WholeK
import Derived.Test.YtkifkdkjljcclaaGreatProg
import Derived.Shelf.SlSortCmp.NoneTotal
import Derived.Test.YtkifkdkjljcclaaGreatPkLTor13
import Derived.Test.YtkifkdkjljcclaaGreatPkLTor05
namespace Go.Proofs.YtkifkdkjljcclaaGreat
open Go.Sx Go.RowKit

theorem padT_bound (m : Nat) (len : Int) : (padT m len).length ≤ 40 := by rw [padT_len]; unfold padZ; omega

theorem c_hash (tag : Int) {s : Sl} {d : List Int} {w : World} (hs : SlAt w s 1 (u8s d)) (hb : bytesOk d) (hmax : d.length ≤ 35184372088832) :
    Ret Tryz.prog n_impl_hash [.int .u8 tag, .slice s.a s.n s.c] w [.agg] (fun cs _ => cs = (u8s (hashL tag d)).toArray) := impl_hash_calls tag s (by
  unfold impl_hash
  have hn := sl_len hs
  refine r_new (At.refl w) fun b4 w1 h => ?_
  refine r_callp (c_size_byte s) ?_
  rw [hn]
  refine r_callS h (c_padding d.length (by omega) w1) fun p w2 hp hpn => ?_
  have hpb := padT_bound d.length d.length
  obtain ⟨g, cur, hpa, h2, hpc, htk⟩ := hp.entry (by rw [hpn, padT_len]; omega)
  refine r_bs2 T_sl_sl_uint8 h2 rfl rfl (by omega) fun x w3 hx hxn => ?_
  have hsx : SlAt w3 ⟨s.a, d.length, s.c⟩ 1 (u8s d) := by
    have := hs.at hx.at_
    rw [← hn]; exact this
  have hpx : SlAt w3 p 1 (u8s (padT d.length d.length)) := hx.at_.sl 0 rfl hpa hp.len (by simpa using htk)
  refine r_callS hx.at_ (c_Concat2 (y1 := ⟨s.a, d.length, s.c⟩) (y2 := p) (by simpa [Value.cells] using hx.sl) hsx hpx (by omega) (by omega)) fun y w4 hy hyn => ?_
  have hyl : (d ++ padT d.length d.length).length = d.length + (padT d.length d.length).length := List.length_append
  have hy0 : 0 < y.n := by rw [hyn, hyl, padT_len]; omega
  obtain ⟨g2, cur2, hya, h4, hyc, htk2⟩ := hy.entry hy0
  have hm32 : (d ++ padT d.length d.length).length % 32 = 0 := by rw [hyl]; exact padT_mod _ _
  have hlb : bytesOk (d ++ padT d.length d.length) := hb.append (padT_ok _ _)
  refine r_call h4 (c_blocks (hy.sl) hyc (by omega)) fun r w5 h5 hb5 ⟨hr1, hr1n, _, _⟩ => ?_
  have e1 : (d ++ padT d.length d.length).take (32 * ((d ++ padT d.length d.length).length / 32)) = d ++ padT d.length d.length := List.take_of_length_le (by omega)
  rw [e1] at hr1
  refine r_call h5 (c_StartState tag w5) fun st w6 h6 hb6 hst => ?_
  subst hst
  refine r_call h6 (c_mixed (startL_ok tag) (hr1.sl.below hb6) hlb (by omega)) fun ms w7 h7 _ hms => ?_
  subst hms
  rw [hr1n] 
  refine r_call h7 (c_keyOf (mixAll_ok (startL_ok tag) _) w7) fun k w8 h8 _ hk => ?_
  subst hk
  refine r_stA h8 2 rfl rfl (by simp [keyB_len]) (by simp [Value.cells]) (by simpa using u8s_one) fun w9 h9 => ?_
  refine r_ldA h9 2 rfl rfl (by simp [keyB_len]) ?_
  exact r_ret h9 _ rfl rfl)

end Go.Proofs.YtkifkdkjljcclaaGreat

namespace Go.Proofs.YtkifkdkjljcclaaGreat
open Go.Sx Go.RowKit

structure BSl (w : World) (s : Sl) (l : List Int) : Prop where
  sl : SlAt w s 1 (u8s l)
  ok : bytesOk l
  cap : s.n ≤ s.c
theorem BSl.n {w : World} {s : Sl} {l : List Int} (h : BSl w s l) : s.n = l.length := by have := h.sl.len; simp at this; omega
theorem BSl.below {w w' : World} {s : Sl} {l : List Int} (h : BSl w s l) (hb : Below w.heap.size w w') : BSl w' s l := ⟨h.sl.below hb, h.ok, h.cap⟩
theorem BSl.at {w w' : World} {ls : List Blk} {s : Sl} {l : List Int} (h : BSl w s l) (hA : At w w' ls) : BSl w' s l := h.below hA.below
theorem BSl.byte {w : World} {s : Sl} {l : List Int} (h : BSl w s l) {i : Nat} (hi : i < l.length) : ∃ p, s.a = some p ∧ ∀ n, ldOk w n (p.add (i * 1)) (.int .u8) (l.getD i 0) := by
  obtain ⟨p, hp, hc⟩ := h.sl.cell i _ (u8s_get hi)
  exact ⟨p, hp, fun n => by rw [Nat.mul_one]; exact hc⟩
theorem ownS_bytes {w0 w : World} {ls L : List Blk} {s : Sl} {l : List Int} (h : OwnS ty_uint8 1 s (u8s l) L) (hA : At w0 w ls) (hs : L.Sublist ls) (hb : bytesOk l) : BSl w s l := ⟨h.sl hA hs, hb, h.cap⟩

def marks (k : Int) (n : Nat) : List Int := (List.range n).map fun (i : Nat) => (k + (i : Int)) % 256
@[simp] theorem marks_len (k : Int) (n : Nat) : (marks k n).length = n := by simp [marks]
theorem T_sl_uint8' : SlT Tryz.prog ty_sl_uint8 ty_uint8 1 1 := slT_of (by kernel_rfl)

end Go.Proofs.YtkifkdkjljcclaaGreat

namespace Go.Proofs.YtkifkdkjljcclaaGreat
open Go.Sx Go.RowKit

structure PB where
  tag : Int
  data : List Int
instance : DecidableEq PB := fun a b => decidable_of_iff (a.tag = b.tag ∧ a.data = b.data) (by cases a; cases b; simp)
structure BR where
  tag : Int
  d : Sl
  data : List Int
def BR.pb (b : BR) : PB := ⟨b.tag, b.data⟩
def BR.cells (b : BR) : List Value := [.int .u8 b.tag, .slice b.d.a b.d.n b.d.c]
def PB.ok (b : PB) : Prop := bytesOk b.data ∧ 0 ≤ b.tag ∧ b.tag < 256
structure BR.Ok (w : World) (b : BR) : Prop where
  bytes : BSl w b.d b.data
  t0 : 0 ≤ b.tag
  t1 : b.tag < 256
theorem BR.Ok.below {w w' : World} {b : BR} (h : b.Ok w) (hb : Below w.heap.size w w') : b.Ok w' := ⟨h.bytes.below hb, h.t0, h.t1⟩
theorem BR.Ok.pb {w : World} {b : BR} (h : b.Ok w) : b.pb.ok := ⟨h.bytes.ok, h.t0, h.t1⟩
theorem cells_one (b : BR) : ∀ v ∈ b.cells, oneC v = true := by simp [BR.cells, oneC]
theorem cells_len (b : BR) : b.cells.length = 2 := rfl

structure BsR (w : World) (s : Sl) (bs : List BR) : Prop where
  of : SlOf w s 2 BR.cells bs
  ok : ∀ b ∈ bs, b.Ok w
theorem BsR.below {w w' : World} {s : Sl} {bs : List BR} (h : BsR w s bs) (hb : Below w.heap.size w w') : BsR w' s bs := ⟨h.of.below hb, fun b hx => (h.ok b hx).below hb⟩
theorem BsR.at {w w' : World} {ls : List Blk} {s : Sl} {bs : List BR} (h : BsR w s bs) (hA : At w w' ls) : BsR w' s bs := h.below hA.below
theorem BsR.n {w : World} {s : Sl} {bs : List BR} (h : BsR w s bs) : s.n = bs.length := h.of.n
theorem BsR.pbs {w : World} {s : Sl} {bs : List BR} (h : BsR w s bs) : ∀ b ∈ bs.map BR.pb, b.ok := by
  intro b hb
  obtain ⟨x, hx, rfl⟩ := List.mem_map.1 hb
  exact (h.ok x hx).pb

inductive OwnData : List BR → List Blk → Prop where
  | nil : OwnData [] []
  | cons {b : BR} {r : List BR} {L1 L2 : List Blk} : OwnS ty_uint8 1 b.d (u8s b.data) L1 → OwnData r L2 → OwnData (b :: r) (L1 ++ L2)
theorem OwnData.append {r t : List BR} {L M : List Blk} (h : OwnData r L) (k : OwnData t M) : OwnData (r ++ t) (L ++ M) := by
  induction h with
  | nil => exact k
  | cons h1 _ ih => rw [List.append_assoc]; exact .cons h1 ih
theorem OwnData.snoc {r : List BR} {b : BR} {L M : List Blk} (h : OwnData r L) (k : OwnS ty_uint8 1 b.d (u8s b.data) M) : OwnData (r ++ [b]) (L ++ M) := by
  have := h.append (OwnData.cons k .nil)
  simpa using this
theorem OwnData.split {r t : List BR} {L : List Blk} (h : OwnData (r ++ t) L) : ∃ L1 L2, L = L1 ++ L2 ∧ OwnData r L1 ∧ OwnData t L2 := by
  induction r generalizing L with
  | nil => exact ⟨[], L, rfl, .nil, h⟩
  | cons b r ih =>
    cases h with
    | cons h1 h2 =>
      obtain ⟨M1, M2, rfl, k1, k2⟩ := ih h2
      exact ⟨_, M2, by rw [List.append_assoc], .cons h1 k1, k2⟩
theorem OwnData.ok {w0 w : World} {ls L : List Blk} {bs : List BR} (h : OwnData bs L) (hA : At w0 w ls) (hs : L.Sublist ls) (hb : ∀ b ∈ bs.map BR.pb, b.ok) : ∀ b ∈ bs, b.Ok w := by
  induction h with
  | nil => simp
  | @cons b r L1 L2 h1 h2 ih =>
    intro x hx
    cases hx with
    | head =>
      have hk := hb b.pb (by simp)
      exact ⟨ownS_bytes h1 hA ((List.sublist_append_left _ _).trans hs) hk.1, hk.2.1, hk.2.2⟩
    | tail _ hx => exact ih ((List.sublist_append_right _ _).trans hs) (fun b hx => hb b (by simp only [List.map_cons, List.mem_cons]; exact .inr hx)) x hx

def OwnBs (s : Sl) (bs : List BR) (L : List Blk) : Prop := ∃ Lb Ld, L = Lb ++ Ld ∧ OwnS ty_impl_Blob 2 s (bs.flatMap BR.cells) Lb ∧ OwnData bs Ld
theorem OwnBs.rd {w0 w : World} {ls L : List Blk} {s : Sl} {bs : List BR} (h : OwnBs s bs L) (hA : At w0 w (L ++ ls)) (hb : ∀ b ∈ bs.map BR.pb, b.ok) : BsR w s bs := by
  obtain ⟨Lb, Ld, rfl, h1, h2⟩ := h
  rw [List.append_assoc] at hA
  exact ⟨h1.of hA (List.sublist_append_left _ _) (fun b _ => cells_len b) (by omega), h2.ok hA ((List.sublist_append_left _ _).trans (List.sublist_append_right _ _)) hb⟩

theorem T_sl_Blob : SlT Tryz.prog ty_sl_impl_Blob ty_impl_Blob 2 32 := slT_of (by kernel_rfl)

def sizeBs (bs : List PB) : Nat := bs.length + (bs.map fun b => b.data.length).sum

theorem BsR.get {w : World} {s : Sl} {bs : List BR} (hs : BsR w s bs) {i : Nat} (hi : i < bs.length) : ∃ b p, bs[i]? = some b ∧ b ∈ bs ∧ s.a = some p ∧ b.Ok w ∧ ldOk w 2 (p.add (i * 2)) .agg b.cells.toArray ∧ (∀ n, ldOk w n (p.add (i * 2 + 0)) (.int .u8) b.tag) ∧ ∀ n, ldOk w n (p.add (i * 2 + 1)) .slice b.d := by
  have hb : bs[i]? = some bs[i] := List.getElem?_eq_getElem hi
  obtain ⟨p, hp, _⟩ := hs.of.cell hb
  exact ⟨_, p, hb, List.getElem_mem hi, hp, hs.ok _ (List.getElem_mem hi), hs.of.agg hb hp, fun n => hs.of.fld hb hp 0 rfl (by simp [Sh.emb]), fun n => hs.of.fld hb hp 1 rfl (by simp [Sh.emb])⟩

theorem le_sizeBs (r : List PB) : r.length ≤ sizeBs r := Nat.le_add_right _ _
end Go.Proofs.YtkifkdkjljcclaaGreat

namespace Go.Proofs.YtkifkdkjljcclaaGreat

def cmpL : List Int → List Int → Int
  | [], [] => 0
  | [], _ :: _ => -1
  | _ :: _, [] => 1
  | a :: x, b :: y => if a < b then -1 else if b < a then 1 else cmpL x y

theorem cmpL_range (a b : List Int) : cmpL a b = -1 ∨ cmpL a b = 0 ∨ cmpL a b = 1 := by
  induction a generalizing b with
  | nil => cases b <;> simp [cmpL]
  | cons x a ih =>
    cases b with
    | nil => simp [cmpL]
    | cons y b =>
      simp only [cmpL]
      split
      · simp
      · split
        · simp
        · exact ih b
theorem cmpL_self (a : List Int) : cmpL a a = 0 := by
  induction a with
  | nil => rfl
  | cons x a ih => simp [cmpL, ih]
theorem cmpL_eq {a b : List Int} : cmpL a b = 0 ↔ a = b := by
  constructor
  · induction a generalizing b with
    | nil => cases b <;> simp [cmpL]
    | cons x a ih =>
      cases b with
      | nil => simp [cmpL]
      | cons y b =>
        simp only [cmpL]
        split
        · simp
        · split
          · simp
          · intro h
            rw [ih h, show x = y by omega]
  · rintro rfl
    exact cmpL_self a
theorem cmpL_neg (a b : List Int) : cmpL b a = - cmpL a b := by
  induction a generalizing b with
  | nil => cases b <;> simp [cmpL]
  | cons x a ih =>
    cases b with
    | nil => simp [cmpL]
    | cons y b =>
      simp only [cmpL, ih b]
      split <;> split <;> first | rfl | omega | skip
theorem cmpL_trans {a b c : List Int} (h1 : cmpL a b < 0) (h2 : cmpL b c < 0) : cmpL a c < 0 := by
  induction a generalizing b c with
  | nil =>
    cases b with
    | nil => simp [cmpL] at h1
    | cons y b =>
      cases c with
      | nil => simp [cmpL] at h2
      | cons z c => simp [cmpL]
  | cons x a ih =>
    cases b with
    | nil => simp [cmpL] at h1
    | cons y b =>
      cases c with
      | nil => simp [cmpL] at h2
      | cons z c =>
        simp only [cmpL] at h1 h2 ⊢
        by_cases hxy : x < y
        · by_cases hyz : z < y
          · have : ¬ y < z := by omega
            simp [hyz, this] at h2
          · simp [show x < z by omega]
        · by_cases hyx : y < x
          · simp [hxy, hyx] at h1
          · have : x = y := by omega
            subst this
            simp at h1
            by_cases hxz : x < z
            · simp [hxz]
            · by_cases hzx : z < x
              · simp [hxz, hzx] at h2
              · simp [hxz, hzx] at h2 ⊢
                exact ih h1 h2

def ltL (a b : List Int) : Prop := cmpL a b < 0
instance (a b : List Int) : Decidable (ltL a b) := inferInstanceAs (Decidable (cmpL a b < 0))
theorem ltL_irrefl (a : List Int) : ¬ ltL a a := by unfold ltL; rw [cmpL_self]; omega
theorem ltL_trans {a b c : List Int} (h1 : ltL a b) (h2 : ltL b c) : ltL a c := cmpL_trans h1 h2
theorem ltL_ne {a b : List Int} (h : ltL a b) : a ≠ b := fun k => ltL_irrefl a (k ▸ h)
def Asc (l : List (List Int)) : Prop := l.Pairwise ltL
theorem Asc.nodup {l : List (List Int)} (h : Asc l) : l.Nodup := List.Pairwise.imp ltL_ne h
def posK (ks : List (List Int)) (k : List Int) : Nat := (ks.takeWhile fun x => decide (ltL x k)).length
theorem posK_le (ks : List (List Int)) (k : List Int) : posK ks k ≤ ks.length := (List.takeWhile_sublist _).length_le
theorem posK_cons (x : List Int) (ks : List (List Int)) (k : List Int) : posK (x :: ks) k = if ltL x k then posK ks k + 1 else 0 := by
  unfold posK
  by_cases h : ltL x k <;> simp [List.takeWhile_cons, h]
theorem posK_lt {ks : List (List Int)} (h : Asc ks) {k : List Int} {i : Nat} {x : List Int} (hx : ks[i]? = some x) : i < posK ks k ↔ ltL x k := by
  induction ks generalizing i with
  | nil => simp at hx
  | cons a ks ih =>
    obtain ⟨ha, hk⟩ := List.pairwise_cons.1 h
    rw [posK_cons]
    cases i with
    | zero =>
      simp at hx
      subst hx
      by_cases hl : ltL a k <;> simp [hl]
    | succ i =>
      have hx' : ks[i]? = some x := by simpa using hx
      by_cases hl : ltL a k
      · rw [if_pos hl, Nat.succ_lt_succ_iff]
        exact ih hk hx'
      · rw [if_neg hl]
        constructor
        · omega
        · intro hxk
          exact absurd (ltL_trans (ha x (List.mem_of_getElem? hx')) hxk) hl
theorem posK_mem {ks : List (List Int)} (h : Asc ks) {k : List Int} : k ∈ ks ↔ ks[posK ks k]? = some k := by
  constructor
  · intro hk
    obtain ⟨i, hi⟩ := List.mem_iff_getElem?.1 hk
    have h1 : ¬ i < posK ks k := fun hh => ltL_irrefl k ((posK_lt h hi).1 hh)
    have hile : i < ks.length := (List.getElem?_eq_some_iff.1 hi).1
    have hp : ∃ y, ks[posK ks k]? = some y := ⟨_, List.getElem?_eq_getElem (show posK ks k < ks.length by omega)⟩
    obtain ⟨y, hy⟩ := hp
    have h2 : ¬ ltL y k := fun hh => by have := (posK_lt h hy).2 hh; omega
    by_cases hip : posK ks k = i
    · rw [hip]; exact hi
    · have hlt : posK ks k < i := by omega
      have := List.pairwise_iff_getElem.1 h (posK ks k) i (by omega) hile hlt
      rw [(List.getElem?_eq_some_iff.1 hy).2, (List.getElem?_eq_some_iff.1 hi).2] at this
      exact absurd this h2
  · exact List.mem_of_getElem?
theorem asc_inj {ks : List (List Int)} (h : Asc ks) {i j : Nat} {k : List Int} (hi : ks[i]? = some k) (hj : ks[j]? = some k) : i = j := by
  obtain ⟨i1, i2⟩ := List.getElem?_eq_some_iff.1 hi
  obtain ⟨j1, j2⟩ := List.getElem?_eq_some_iff.1 hj
  have hp := List.pairwise_iff_getElem.1 h
  rcases Nat.lt_trichotomy i j with hij | hij | hij
  · have := hp i j i1 j1 hij
    rw [i2, j2] at this
    exact absurd this (ltL_irrefl k)
  · exact hij
  · have := hp j i j1 i1 hij
    rw [i2, j2] at this
    exact absurd this (ltL_irrefl k)

end Go.Proofs.YtkifkdkjljcclaaGreat

namespace Go.Proofs.YtkifkdkjljcclaaGreat
open Go.Sx Go.RowKit

theorem c_isNaN (x : Int) : RetP Tryz.prog n_cmp_isNaN_byte [.int .u8 x] [.bool] false := fun w => cmp_isNaN_byte_calls x (by
  unfold cmp_isNaN_byte
  exact r_retP (by simp [valL, embL, Sh.emb]))
theorem c_cmpByte (x y : Int) : RetP Tryz.prog n_cmp_Compare_byte [.int .u8 x, .int .u8 y] [.int .i64] (if x < y then -1 else if y < x then 1 else 0) := fun w => cmp_Compare_byte_calls x y (by
  unfold cmp_Compare_byte
  refine r_callp (c_isNaN x) ?_
  refine r_callp (c_isNaN y) ?_
  refine r_false rfl (r_false rfl ?_)
  by_cases h1 : x < y
  · rw [if_pos h1]
    exact r_true (decide_eq_true h1) (r_retP rfl)
  · rw [if_neg h1]
    refine r_false (decide_eq_false h1) ?_
    by_cases h2 : y < x
    · rw [if_pos h2]
      exact r_true (decide_eq_true h2) (r_retP rfl)
    · rw [if_neg h2]
      exact r_false (decide_eq_false h2) (r_retP rfl))

theorem cmpL_drop {a b : List Int} {j : Nat} (ha : j < a.length) (hb : j < b.length) : cmpL (a.drop j) (b.drop j) = if a.getD j 0 < b.getD j 0 then -1 else if b.getD j 0 < a.getD j 0 then 1 else cmpL (a.drop (j + 1)) (b.drop (j + 1)) := by
  rw [List.drop_eq_getElem_cons ha, List.drop_eq_getElem_cons hb, cmpL]
  simp [List.getD, ha, hb]

theorem r_callQ' {P : Program} {R : Value → World → Prop} {w : World} {f : FuncId} {args : List Value} {l : List Sh} {x : TL l} {k : TL l → World → Prop} (hc : Calls P f args.toArray w fun e w' => ∃ v, e = .returned v ∧ RP l x w v w') (h : k x w) : ((real P R).callQ f args l k : World → Prop) w :=
  ⟨x, hc.mono fun _ _ ⟨_, he, hv, hw⟩ => ⟨by rw [he, hv], hw⟩, h⟩

theorem c_slCompare {w : World} {s t : Sl} {a b : List Int} (hs : SlAt w s 1 (u8s a)) (ht : SlAt w t 1 (u8s b)) (hab : a.length = b.length) (hmax : a.length ≤ 1073741824) :
    Calls Tryz.prog n_slices_Compare_sl_byte_byte [.slice s.a s.n s.c, .slice t.a t.n t.c].toArray w fun e w' => ∃ v, e = .returned v ∧ RP [.int .i64] (cmpL a b) w v w' := slices_Compare_sl_byte_byte_calls s t (by
  unfold slices_Compare_sl_byte_byte
  have hsn : s.n = a.length := by have := hs.len; simp at this; omega
  have htn : t.n = b.length := by have := ht.len; simp at this; omega
  refine r_loop (σ := Int) (fun i w' => w' = w ∧ ∃ j : Nat, i = j ∧ j ≤ a.length ∧ cmpL a b = cmpL (a.drop j) (b.drop j)) (fun i _ => (s.n - i).toNat) 0 rfl ⟨rfl, 0, rfl, by omega, by simp⟩ ?_
  rintro i w1 ⟨rfl, j, rfl, hj, he⟩
  refine r_any fun _ => ?_
  refine r_if ((j : Int) < (s.n : Int)) rfl (fun hlt => ?_) (fun hge => ?_)
  · obtain ⟨p, hp, hc⟩ := hs.cell j _ (u8s_get (show j < a.length by omega))
    obtain ⟨q, hq, hd⟩ := ht.cell j _ (u8s_get (show j < b.length by omega))
    refine r_ix p hp (by omega) (by omega) ?_
    refine r_ldN (a.getD j 0) (by simp only [Int.toNat_natCast, Nat.mul_one]; exact hc) ?_
    refine r_if ((j : Int) ≥ (t.n : Int)) rfl (fun hh => by omega) (fun _ => ?_)
    refine r_ix q hq (by omega) (by omega) ?_
    refine r_ldN (b.getD j 0) (by simp only [Int.toNat_natCast, Nat.mul_one]; exact hd) ?_
    refine r_callp (c_cmpByte _ _) ?_
    rw [cmpL_drop (by omega) (by omega)] at he
    by_cases h1 : a.getD j 0 < b.getD j 0
    · rw [if_pos h1] at he ⊢
      rw [he]
      exact r_true rfl (r_retP rfl)
    · rw [if_neg h1] at he ⊢
      by_cases h2 : b.getD j 0 < a.getD j 0
      · rw [if_pos h2] at he ⊢
        rw [he]
        exact r_true rfl (r_retP rfl)
      · rw [if_neg h2] at he ⊢
        refine r_false rfl ?_
        exact ⟨((j + 1 : Nat) : Int), by rw [w64 (by omega) (by omega)]; rfl, ⟨rfl, j + 1, rfl, by omega, he⟩, by omega⟩
  · refine r_if ((s.n : Int) < (t.n : Int)) rfl (fun hh => by omega) (fun _ => ?_)
    rw [he, List.drop_eq_nil_of_le (by omega), List.drop_eq_nil_of_le (by omega)]
    exact r_retP rfl)

theorem alloc2_grow (w : World) (o1 o2 : Obj) : ((w.alloc o1).alloc o2).drew = Go.Sort.grow (w.drewN 1) #[o1, o2] := by
  have h : (w.heap.push o1).push o2 = w.heap ++ #[o1, o2] := by apply Array.ext'; simp
  exact congrArg (fun hp => ({ w with heap := hp, drawn := w.drawn + 1 } : World)) h
open Go.Sort (grow) in
theorem c_compareKeysG {a b : List Int} (ha : a.length = 32) (hb : b.length = 32) (w : World) :
    Calls Tryz.prog n_impl_compareKeys #[.agg (u8s a).toArray, .agg (u8s b).toArray] w fun e w' => e = .returned (.int .i64 (cmpL a b)) ∧ ∃ q os', w' = grow (w.drewN q) os' := by
  refine (impl_compareKeys_calls (R := fun v w' => v = .int .i64 (cmpL a b) ∧ ∃ q os', w' = grow (w.drewN q) os') (u8s a).toArray (u8s b).toArray ?_).mono (by rintro e w' ⟨v, he, hv, hw⟩; exact ⟨by rw [he, hv], hw⟩)
  unfold impl_compareKeys
  have h1 : At w (w.alloc (.cells (u8s a).toArray ty_impl_Key)) [(w.heap.size, (u8s a).toArray, ty_impl_Key)] := ((At.refl w).trans (below_alloc w _)).add (heap_alloc_self w _) (Nat.le_refl _) (by simp)
  generalize hw1 : w.alloc (.cells (u8s a).toArray ty_impl_Key) = w1 at h1
  have h2 : At w (w1.alloc (.cells (u8s b).toArray ty_impl_Key)) [(w1.heap.size, (u8s b).toArray, ty_impl_Key), (w.heap.size, (u8s a).toArray, ty_impl_Key)] := (h1.trans (below_alloc w1 _)).add (heap_alloc_self w1 _) h1.size (h1.fresh (Nat.le_refl _))
  generalize hw2 : w1.alloc (.cells (u8s b).toArray ty_impl_Key) = w2 at h2
  have h3 := h2.drew
  have hsa : SlAt w2.drew ⟨some ⟨w.heap.size, 0, none⟩, 32, 32⟩ 1 (u8s a) := h3.sl 1 rfl rfl (by simp [ha]) (by rw [List.drop_zero]; exact List.take_of_length_le (by simp))
  have hsb : SlAt w2.drew ⟨some ⟨w1.heap.size, 0, none⟩, 32, 32⟩ 1 (u8s b) := h3.sl 0 rfl rfl (by simp [hb]) (by rw [List.drop_zero]; exact List.take_of_length_le (by simp))
  have key : ((real Tryz.prog fun v w' => v = .int .i64 (cmpL a b) ∧ ∃ q os', w' = grow (w.drewN q) os').sl (some (Addr.mk w.heap.size 0 none)) 32 32 1 none none none fun y5 =>
      (real Tryz.prog fun v w' => v = .int .i64 (cmpL a b) ∧ ∃ q os', w' = grow (w.drewN q) os').sl (some (Addr.mk w1.heap.size 0 none)) 32 32 1 none none none fun y6 =>
      (real Tryz.prog fun v w' => v = .int .i64 (cmpL a b) ∧ ∃ q os', w' = grow (w.drewN q) os').callQ n_slices_Compare_sl_byte_byte [(.slice y5.a y5.n y5.c), (.slice y6.a y6.n y6.c)] [(.int .i64)] fun r7 =>
      (real Tryz.prog fun v w' => v = .int .i64 (cmpL a b) ∧ ∃ q os', w' = grow (w.drewN q) os').ret (.int .i64 r7) : World → Prop) w2.drew := by
    refine r_sl 0 32 rfl rfl (by omega) (by omega) ?_
    refine r_sl 0 32 rfl rfl (by omega) (by omega) ?_
    refine r_callQ' (c_slCompare (s := ⟨some ⟨w.heap.size, 0, none⟩, 32, 32⟩) (t := ⟨some ⟨w1.heap.size, 0, none⟩, 32, 32⟩) hsa hsb (by omega) (by omega)) ?_
    refine r_retR ⟨rfl, 1, #[.cells (u8s a).toArray ty_impl_Key, .cells (u8s b).toArray ty_impl_Key], ?_⟩
    subst hw2
    subst hw1
    exact alloc2_grow _ _ _
  subst hw2
  subst hw1
  exact key

theorem below_grow (w : World) (q : Nat) (os : Array Obj) : Below w.heap.size w (Go.Sort.grow (w.drewN q) os) :=
  ⟨rfl, rfl, rfl, by simp [Go.Sort.grow, World.drewN], fun k hk => by
    show (w.heap ++ os)[k]? = _
    rw [Array.getElem?_append_left hk]⟩
theorem c_compareKeys {a b : List Int} (ha : a.length = 32) (hb : b.length = 32) (w : World) : Ret Tryz.prog n_impl_compareKeys [.agg (u8s a).toArray, .agg (u8s b).toArray] w [.int .i64] (fun r _ => r = cmpL a b) :=
  (c_compareKeysG ha hb w).mono fun _ _ ⟨he, q, os, hw⟩ => ⟨_, he, cmpL a b, rfl, by rw [hw]; exact below_grow _ _ _, rfl⟩

def keyOk (k : List Int) : Prop := k.length = 32 ∧ bytesOk k
structure KsR (w : World) (s : Sl) (ks : List (List Int)) : Prop where
  of : SlOf w s 32 u8s ks
  ok : ∀ k ∈ ks, keyOk k
theorem KsR.below {w w' : World} {s : Sl} {ks : List (List Int)} (h : KsR w s ks) (hb : Below w.heap.size w w') : KsR w' s ks := ⟨h.of.below hb, h.ok⟩
theorem KsR.at {w w' : World} {ls : List Blk} {s : Sl} {ks : List (List Int)} (h : KsR w s ks) (hA : At w w' ls) : KsR w' s ks := h.below hA.below
theorem KsR.n {w : World} {s : Sl} {ks : List (List Int)} (h : KsR w s ks) : s.n = ks.length := h.of.n
theorem KsR.get {w : World} {s : Sl} {ks : List (List Int)} (h : KsR w s ks) {i : Nat} (hi : i < ks.length) : ∃ k p, ks[i]? = some k ∧ k ∈ ks ∧ s.a = some p ∧ keyOk k ∧ ldOk w 32 (p.add (i * 32)) .agg (u8s k).toArray := by
  have hk : ks[i]? = some ks[i] := List.getElem?_eq_getElem hi
  obtain ⟨p, hp, _⟩ := h.of.cell hk
  exact ⟨_, p, hk, List.getElem_mem hi, hp, h.ok _ (List.getElem_mem hi), h.of.agg hk hp⟩
theorem u8s_klen {ks : List (List Int)} (h : ∀ k ∈ ks, keyOk k) : ∀ k ∈ ks, (u8s k).length = 32 := fun k hk => by rw [u8s_len]; exact (h k hk).1
theorem ownS_ks {w0 w : World} {ls L : List Blk} {s : Sl} {ks : List (List Int)} (h : OwnS ty_impl_Key 32 s (ks.flatMap u8s) L) (hA : At w0 w ls) (hs : L.Sublist ls) (hk : ∀ k ∈ ks, keyOk k) : KsR w s ks := ⟨h.of hA hs (u8s_klen hk) (by omega), hk⟩
theorem slO_ks {w0 w : World} {ls : List Blk} {s : Sl} {ks : List (List Int)} (h : SlO w0 w ls ty_impl_Key 32 s (ks.flatMap u8s)) (hk : ∀ k ∈ ks, keyOk k) : KsR w s ks := ⟨h.of (u8s_klen hk) (by omega), hk⟩
theorem T_sl_Key : SlT Tryz.prog ty_sl_impl_Key ty_impl_Key 32 32 := slT_of (by kernel_rfl)
theorem flatU8 (ks : List (List Int)) : ks.flatMap u8s = u8s ks.flatten := by
  induction ks with
  | nil => rfl
  | cons k ks ih => simp [ih, u8s]

abbrev K32 := {l : List Int // l.length = 32}
instance : Inhabited K32 := ⟨⟨List.replicate 32 0, by simp⟩⟩
end Go.Proofs.YtkifkdkjljcclaaGreat

namespace Go.Proofs.YtkifkdkjljcclaaGreat
open Go.Sx Go.RowKit

theorem run_eql_key (x y : Operand) {a b : List Int} (ha : a.length = 32) (hb : b.length = 32) (w : World) : (eqB .eql ty_impl_Key x y (.agg (u8s a).toArray) (.agg (u8s b).toArray)).run Tryz.prog w = .ok (.bool (decide (a = b))) w :=
  run_eql_u8 (n := 32) (e := ty_uint8) (by kernel_rfl) (by kernel_rfl) (by kernel_rfl) x y ha hb w
theorem run_neq_key (x y : Operand) {a b : List Int} (ha : a.length = 32) (hb : b.length = 32) (w : World) : (eqB .neq ty_impl_Key x y (.agg (u8s a).toArray) (.agg (u8s b).toArray)).run Tryz.prog w = .ok (.bool (!decide (a = b))) w :=
  run_neq_u8 (n := 32) (e := ty_uint8) (by kernel_rfl) (by kernel_rfl) (by kernel_rfl) x y ha hb w

theorem take_succ_get {α : Type} {l : List α} {i : Nat} {x : α} (h : l[i]? = some x) : l.take (i + 1) = l.take i ++ [x] := by rw [List.take_add_one, h]; rfl
theorem getLast_take {α : Type} {l : List α} {i : Nat} {x : α} (h : l[i]? = some x) : (l.take (i + 1)).getLast? = some x := by rw [take_succ_get h]; simp

theorem getLast_take' {α : Type} {l : List α} {i : Nat} {x : α} (h1 : 1 ≤ i) (h : l[i - 1]? = some x) : (l.take i).getLast? = some x := by
  have := getLast_take h
  rwa [Nat.sub_add_cancel h1] at this

end Go.Proofs.YtkifkdkjljcclaaGreat
