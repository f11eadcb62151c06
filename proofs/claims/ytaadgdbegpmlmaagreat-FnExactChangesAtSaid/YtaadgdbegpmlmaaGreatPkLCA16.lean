/- Blobs and stores: what they read as; told, copied, compared, marked, held. Plain: lists of bytes in order, lists of keys in ascending order, each once. The program: keys are compared, copied, sorted, each once; a key is found. The program: sorted keys, each once; whether keys are sorted; a key is found. The program: whether keys are sorted; a key is found; blobs compared, copied; a store's keys. The program: a store's keys, whether a store is valid, a store with its keys, what is found in it, a store in new memory, some of the blobs. The program: a store with its keys, what is found in it, a store in new memory, some of the blobs. -/
import Derived.Shelf.SlSortCmp.WholeK
import Derived.Test.YtaadgdbegpmlmaaGreatProg
import Derived.Shelf.SlSortCmp.NoneTotal
import Derived.Lib.SlicesS
import Derived.Test.YtaadgdbegpmlmaaGreatPkLCA15
import Derived.Test.YtaadgdbegpmlmaaGreatPkLCA06
namespace Go.Proofs.YtaadgdbegpmlmaaGreat
open Go.Sx Go.RowKit

structure PB where
  tag : Int
  data : List Int
instance : DecidableEq PB := fun a b => decidable_of_iff (a.tag = b.tag ∧ a.data = b.data) (by cases a; cases b; simp)
structure BR where
  tag : Int
  d : Sl
  data : List Int
def BR.pb (b : BR) : PB := ⟨b.tag, b.data⟩
def BR.cells (b : BR) : List Value := [.int .u8 b.tag, .slice b.d.a b.d.n b.d.c]
def PB.ok (b : PB) : Prop := bytesOk b.data ∧ 0 ≤ b.tag ∧ b.tag < 256
structure BR.Ok (w : World) (b : BR) : Prop where
  bytes : BSl w b.d b.data
  t0 : 0 ≤ b.tag
  t1 : b.tag < 256
theorem BR.Ok.below {w w' : World} {b : BR} (h : b.Ok w) (hb : Below w.heap.size w w') : b.Ok w' := ⟨h.bytes.below hb, h.t0, h.t1⟩
theorem BR.Ok.pb {w : World} {b : BR} (h : b.Ok w) : b.pb.ok := ⟨h.bytes.ok, h.t0, h.t1⟩
theorem cells_one (b : BR) : ∀ v ∈ b.cells, oneC v = true := by simp [BR.cells, oneC]
theorem cells_len (b : BR) : b.cells.length = 2 := rfl

structure BsR (w : World) (s : Sl) (bs : List BR) : Prop where
  of : SlOf w s 2 BR.cells bs
  ok : ∀ b ∈ bs, b.Ok w
theorem BsR.below {w w' : World} {s : Sl} {bs : List BR} (h : BsR w s bs) (hb : Below w.heap.size w w') : BsR w' s bs := ⟨h.of.below hb, fun b hx => (h.ok b hx).below hb⟩
theorem BsR.at {w w' : World} {ls : List Blk} {s : Sl} {bs : List BR} (h : BsR w s bs) (hA : At w w' ls) : BsR w' s bs := h.below hA.below
theorem BsR.n {w : World} {s : Sl} {bs : List BR} (h : BsR w s bs) : s.n = bs.length := h.of.n
theorem BsR.pbs {w : World} {s : Sl} {bs : List BR} (h : BsR w s bs) : ∀ b ∈ bs.map BR.pb, b.ok := by
  intro b hb
  obtain ⟨x, hx, rfl⟩ := List.mem_map.1 hb
  exact (h.ok x hx).pb

/-- Data of blobs that are one's own. -/
inductive OwnData : List BR → List Blk → Prop where
  | nil : OwnData [] []
  | cons {b : BR} {r : List BR} {L1 L2 : List Blk} : OwnS ty_uint8 1 b.d (u8s b.data) L1 → OwnData r L2 → OwnData (b :: r) (L1 ++ L2)
theorem OwnData.append {r t : List BR} {L M : List Blk} (h : OwnData r L) (k : OwnData t M) : OwnData (r ++ t) (L ++ M) := by
  induction h with
  | nil => exact k
  | cons h1 _ ih => rw [List.append_assoc]; exact .cons h1 ih
theorem OwnData.snoc {r : List BR} {b : BR} {L M : List Blk} (h : OwnData r L) (k : OwnS ty_uint8 1 b.d (u8s b.data) M) : OwnData (r ++ [b]) (L ++ M) := by
  have := h.append (OwnData.cons k .nil)
  simpa using this
theorem OwnData.split {r t : List BR} {L : List Blk} (h : OwnData (r ++ t) L) : ∃ L1 L2, L = L1 ++ L2 ∧ OwnData r L1 ∧ OwnData t L2 := by
  induction r generalizing L with
  | nil => exact ⟨[], L, rfl, .nil, h⟩
  | cons b r ih =>
    cases h with
    | cons h1 h2 =>
      obtain ⟨M1, M2, rfl, k1, k2⟩ := ih h2
      exact ⟨_, M2, by rw [List.append_assoc], .cons h1 k1, k2⟩
theorem OwnData.ok {w0 w : World} {ls L : List Blk} {bs : List BR} (h : OwnData bs L) (hA : At w0 w ls) (hs : L.Sublist ls) (hb : ∀ b ∈ bs.map BR.pb, b.ok) : ∀ b ∈ bs, b.Ok w := by
  induction h with
  | nil => simp
  | @cons b r L1 L2 h1 h2 ih =>
    intro x hx
    cases hx with
    | head =>
      have hk := hb b.pb (by simp)
      exact ⟨ownS_bytes h1 hA ((List.sublist_append_left _ _).trans hs) hk.1, hk.2.1, hk.2.2⟩
    | tail _ hx => exact ih ((List.sublist_append_right _ _).trans hs) (fun b hx => hb b (by simp only [List.map_cons, List.mem_cons]; exact .inr hx)) x hx

/-- Blobs that are one's own, with their data. -/
def OwnBs (s : Sl) (bs : List BR) (L : List Blk) : Prop := ∃ Lb Ld, L = Lb ++ Ld ∧ OwnS ty_impl_Blob 2 s (bs.flatMap BR.cells) Lb ∧ OwnData bs Ld
theorem OwnBs.rd {w0 w : World} {ls L : List Blk} {s : Sl} {bs : List BR} (h : OwnBs s bs L) (hA : At w0 w (L ++ ls)) (hb : ∀ b ∈ bs.map BR.pb, b.ok) : BsR w s bs := by
  obtain ⟨Lb, Ld, rfl, h1, h2⟩ := h
  rw [List.append_assoc] at hA
  exact ⟨h1.of hA (List.sublist_append_left _ _) (fun b _ => cells_len b) (by omega), h2.ok hA ((List.sublist_append_left _ _).trans (List.sublist_append_right _ _)) hb⟩

/-- A readable thing read out of a list of such. -/
theorem BsR.get {w : World} {s : Sl} {bs : List BR} (hs : BsR w s bs) {i : Nat} (hi : i < bs.length) : ∃ b p, bs[i]? = some b ∧ b ∈ bs ∧ s.a = some p ∧ b.Ok w ∧ ldOk w 2 (p.add (i * 2)) .agg b.cells.toArray ∧ (∀ n, ldOk w n (p.add (i * 2 + 0)) (.int .u8) b.tag) ∧ ∀ n, ldOk w n (p.add (i * 2 + 1)) .slice b.d := by
  have hb : bs[i]? = some bs[i] := List.getElem?_eq_getElem hi
  obtain ⟨p, hp, _⟩ := hs.of.cell hb
  exact ⟨_, p, hb, List.getElem_mem hi, hp, hs.ok _ (List.getElem_mem hi), hs.of.agg hb hp, fun n => hs.of.fld hb hp 0 rfl (by simp [Sh.emb]), fun n => hs.of.fld hb hp 1 rfl (by simp [Sh.emb])⟩

end Go.Proofs.YtaadgdbegpmlmaaGreat

namespace Go.Proofs.YtaadgdbegpmlmaaGreat

def cmpL : List Int → List Int → Int
  | [], [] => 0
  | [], _ :: _ => -1
  | _ :: _, [] => 1
  | a :: x, b :: y => if a < b then -1 else if b < a then 1 else cmpL x y

theorem cmpL_self (a : List Int) : cmpL a a = 0 := by
  induction a with
  | nil => rfl
  | cons x a ih => simp [cmpL, ih]
def ltL (a b : List Int) : Prop := cmpL a b < 0
instance (a b : List Int) : Decidable (ltL a b) := inferInstanceAs (Decidable (cmpL a b < 0))
theorem ltL_irrefl (a : List Int) : ¬ ltL a a := by unfold ltL; rw [cmpL_self]; omega
theorem ltL_ne {a b : List Int} (h : ltL a b) : a ≠ b := fun k => ltL_irrefl a (k ▸ h)
/-- In ascending order, each once. -/
def Asc (l : List (List Int)) : Prop := l.Pairwise ltL
theorem Asc.nodup {l : List (List Int)} (h : Asc l) : l.Nodup := List.Pairwise.imp ltL_ne h
/-- Behind how many keys a key stands. -/
def posK (ks : List (List Int)) (k : List Int) : Nat := (ks.takeWhile fun x => decide (ltL x k)).length
end Go.Proofs.YtaadgdbegpmlmaaGreat

namespace Go.Proofs.YtaadgdbegpmlmaaGreat
open Go.Sx Go.RowKit

theorem c_isNaN (x : Int) : RetP Tryz.prog n_cmp_isNaN_byte [.int .u8 x] [.bool] false := fun w => cmp_isNaN_byte_calls x (by
  unfold cmp_isNaN_byte
  exact r_retP (by simp [valL, embL, Sh.emb]))
theorem c_cmpByte (x y : Int) : RetP Tryz.prog n_cmp_Compare_byte [.int .u8 x, .int .u8 y] [.int .i64] (if x < y then -1 else if y < x then 1 else 0) := fun w => cmp_Compare_byte_calls x y (by
  unfold cmp_Compare_byte
  refine r_callp (c_isNaN x) ?_
  refine r_callp (c_isNaN y) ?_
  refine r_false rfl (r_false rfl ?_)
  by_cases h1 : x < y
  · rw [if_pos h1]
    exact r_true (decide_eq_true h1) (r_retP rfl)
  · rw [if_neg h1]
    refine r_false (decide_eq_false h1) ?_
    by_cases h2 : y < x
    · rw [if_pos h2]
      exact r_true (decide_eq_true h2) (r_retP rfl)
    · rw [if_neg h2]
      exact r_false (decide_eq_false h2) (r_retP rfl))

theorem cmpL_drop {a b : List Int} {j : Nat} (ha : j < a.length) (hb : j < b.length) : cmpL (a.drop j) (b.drop j) = if a.getD j 0 < b.getD j 0 then -1 else if b.getD j 0 < a.getD j 0 then 1 else cmpL (a.drop (j + 1)) (b.drop (j + 1)) := by
  rw [List.drop_eq_getElem_cons ha, List.drop_eq_getElem_cons hb, cmpL]
  simp [List.getD, ha, hb]

/-- A callee that leaves the world alone, in a world. -/
theorem r_callQ' {P : Program} {R : Value → World → Prop} {w : World} {f : FuncId} {args : List Value} {l : List Sh} {x : TL l} {k : TL l → World → Prop} (hc : Calls P f args.toArray w fun e w' => ∃ v, e = .returned v ∧ RP l x w v w') (h : k x w) : ((real P R).callQ f args l k : World → Prop) w :=
  ⟨x, hc.mono fun _ _ ⟨_, he, hv, hw⟩ => ⟨by rw [he, hv], hw⟩, h⟩

theorem c_slCompare {w : World} {s t : Sl} {a b : List Int} (hs : SlAt w s 1 (u8s a)) (ht : SlAt w t 1 (u8s b)) (hab : a.length = b.length) (hmax : a.length ≤ 1073741824) :
    Calls Tryz.prog n_slices_Compare_sl_byte_byte [.slice s.a s.n s.c, .slice t.a t.n t.c].toArray w fun e w' => ∃ v, e = .returned v ∧ RP [.int .i64] (cmpL a b) w v w' := slices_Compare_sl_byte_byte_calls s t (by
  unfold slices_Compare_sl_byte_byte
  have hsn : s.n = a.length := by have := hs.len; simp at this; omega
  have htn : t.n = b.length := by have := ht.len; simp at this; omega
  refine r_loop (σ := Int) (fun i w' => w' = w ∧ ∃ j : Nat, i = j ∧ j ≤ a.length ∧ cmpL a b = cmpL (a.drop j) (b.drop j)) (fun i _ => (s.n - i).toNat) 0 rfl ⟨rfl, 0, rfl, by omega, by simp⟩ ?_
  rintro i w1 ⟨rfl, j, rfl, hj, he⟩
  refine r_any fun _ => ?_
  refine r_if ((j : Int) < (s.n : Int)) rfl (fun hlt => ?_) (fun hge => ?_)
  · obtain ⟨p, hp, hc⟩ := hs.cell j _ (u8s_get (show j < a.length by omega))
    obtain ⟨q, hq, hd⟩ := ht.cell j _ (u8s_get (show j < b.length by omega))
    refine r_ix p hp (by omega) (by omega) ?_
    refine r_ldN (a.getD j 0) (by simp only [Int.toNat_natCast, Nat.mul_one]; exact hc) ?_
    refine r_if ((j : Int) ≥ (t.n : Int)) rfl (fun hh => by omega) (fun _ => ?_)
    refine r_ix q hq (by omega) (by omega) ?_
    refine r_ldN (b.getD j 0) (by simp only [Int.toNat_natCast, Nat.mul_one]; exact hd) ?_
    refine r_callp (c_cmpByte _ _) ?_
    rw [cmpL_drop (by omega) (by omega)] at he
    by_cases h1 : a.getD j 0 < b.getD j 0
    · rw [if_pos h1] at he ⊢
      rw [he]
      exact r_true rfl (r_retP rfl)
    · rw [if_neg h1] at he ⊢
      by_cases h2 : b.getD j 0 < a.getD j 0
      · rw [if_pos h2] at he ⊢
        rw [he]
        exact r_true rfl (r_retP rfl)
      · rw [if_neg h2] at he ⊢
        refine r_false rfl ?_
        exact ⟨((j + 1 : Nat) : Int), by rw [w64 (by omega) (by omega)]; rfl, ⟨rfl, j + 1, rfl, by omega, he⟩, by omega⟩
  · refine r_if ((s.n : Int) < (t.n : Int)) rfl (fun hh => by omega) (fun _ => ?_)
    rw [he, List.drop_eq_nil_of_le (by omega), List.drop_eq_nil_of_le (by omega)]
    exact r_retP rfl)

theorem alloc2_grow (w : World) (o1 o2 : Obj) : ((w.alloc o1).alloc o2).drew = Go.Sort.grow (w.drewN 1) #[o1, o2] := by
  have h : (w.heap.push o1).push o2 = w.heap ++ #[o1, o2] := by apply Array.ext'; simp
  exact congrArg (fun hp => ({ w with heap := hp, drawn := w.drawn + 1 } : World)) h
open Go.Sort (grow) in
/-- compareKeys lays its two variables, and draws once. -/
theorem c_compareKeysG {a b : List Int} (ha : a.length = 32) (hb : b.length = 32) (w : World) :
    Calls Tryz.prog n_impl_compareKeys #[.agg (u8s a).toArray, .agg (u8s b).toArray] w fun e w' => e = .returned (.int .i64 (cmpL a b)) ∧ ∃ q os', w' = grow (w.drewN q) os' := by
  refine (impl_compareKeys_calls (R := fun v w' => v = .int .i64 (cmpL a b) ∧ ∃ q os', w' = grow (w.drewN q) os') (u8s a).toArray (u8s b).toArray ?_).mono (by rintro e w' ⟨v, he, hv, hw⟩; exact ⟨by rw [he, hv], hw⟩)
  unfold impl_compareKeys
  have h1 : At w (w.alloc (.cells (u8s a).toArray ty_impl_Key)) [(w.heap.size, (u8s a).toArray, ty_impl_Key)] := ((At.refl w).trans (below_alloc w _)).add (heap_alloc_self w _) (Nat.le_refl _) (by simp)
  generalize hw1 : w.alloc (.cells (u8s a).toArray ty_impl_Key) = w1 at h1
  have h2 : At w (w1.alloc (.cells (u8s b).toArray ty_impl_Key)) [(w1.heap.size, (u8s b).toArray, ty_impl_Key), (w.heap.size, (u8s a).toArray, ty_impl_Key)] := (h1.trans (below_alloc w1 _)).add (heap_alloc_self w1 _) h1.size (h1.fresh (Nat.le_refl _))
  generalize hw2 : w1.alloc (.cells (u8s b).toArray ty_impl_Key) = w2 at h2
  have h3 := h2.drew
  have hsa : SlAt w2.drew ⟨some ⟨w.heap.size, 0, none⟩, 32, 32⟩ 1 (u8s a) := h3.sl 1 rfl rfl (by simp [ha]) (by rw [List.drop_zero]; exact List.take_of_length_le (by simp))
  have hsb : SlAt w2.drew ⟨some ⟨w1.heap.size, 0, none⟩, 32, 32⟩ 1 (u8s b) := h3.sl 0 rfl rfl (by simp [hb]) (by rw [List.drop_zero]; exact List.take_of_length_le (by simp))
  have key : ((real Tryz.prog fun v w' => v = .int .i64 (cmpL a b) ∧ ∃ q os', w' = grow (w.drewN q) os').sl (some (Addr.mk w.heap.size 0 none)) 32 32 1 none none none fun y5 =>
      (real Tryz.prog fun v w' => v = .int .i64 (cmpL a b) ∧ ∃ q os', w' = grow (w.drewN q) os').sl (some (Addr.mk w1.heap.size 0 none)) 32 32 1 none none none fun y6 =>
      (real Tryz.prog fun v w' => v = .int .i64 (cmpL a b) ∧ ∃ q os', w' = grow (w.drewN q) os').callQ n_slices_Compare_sl_byte_byte [(.slice y5.a y5.n y5.c), (.slice y6.a y6.n y6.c)] [(.int .i64)] fun r7 =>
      (real Tryz.prog fun v w' => v = .int .i64 (cmpL a b) ∧ ∃ q os', w' = grow (w.drewN q) os').ret (.int .i64 r7) : World → Prop) w2.drew := by
    refine r_sl 0 32 rfl rfl (by omega) (by omega) ?_
    refine r_sl 0 32 rfl rfl (by omega) (by omega) ?_
    refine r_callQ' (c_slCompare (s := ⟨some ⟨w.heap.size, 0, none⟩, 32, 32⟩) (t := ⟨some ⟨w1.heap.size, 0, none⟩, 32, 32⟩) hsa hsb (by omega) (by omega)) ?_
    refine r_retR ⟨rfl, 1, #[.cells (u8s a).toArray ty_impl_Key, .cells (u8s b).toArray ty_impl_Key], ?_⟩
    subst hw2
    subst hw1
    exact alloc2_grow _ _ _
  subst hw2
  subst hw1
  exact key

theorem below_grow (w : World) (q : Nat) (os : Array Obj) : Below w.heap.size w (Go.Sort.grow (w.drewN q) os) :=
  ⟨rfl, rfl, rfl, by simp [Go.Sort.grow, World.drewN], fun k hk => by
    show (w.heap ++ os)[k]? = _
    rw [Array.getElem?_append_left hk]⟩
theorem c_compareKeys {a b : List Int} (ha : a.length = 32) (hb : b.length = 32) (w : World) : Ret Tryz.prog n_impl_compareKeys [.agg (u8s a).toArray, .agg (u8s b).toArray] w [.int .i64] (fun r _ => r = cmpL a b) :=
  (c_compareKeysG ha hb w).mono fun _ _ ⟨he, q, os, hw⟩ => ⟨_, he, cmpL a b, rfl, by rw [hw]; exact below_grow _ _ _, rfl⟩

def keyOk (k : List Int) : Prop := k.length = 32 ∧ bytesOk k
/-- A slice of keys. -/
structure KsR (w : World) (s : Sl) (ks : List (List Int)) : Prop where
  of : SlOf w s 32 u8s ks
  ok : ∀ k ∈ ks, keyOk k
theorem KsR.below {w w' : World} {s : Sl} {ks : List (List Int)} (h : KsR w s ks) (hb : Below w.heap.size w w') : KsR w' s ks := ⟨h.of.below hb, h.ok⟩
theorem KsR.at {w w' : World} {ls : List Blk} {s : Sl} {ks : List (List Int)} (h : KsR w s ks) (hA : At w w' ls) : KsR w' s ks := h.below hA.below
theorem KsR.n {w : World} {s : Sl} {ks : List (List Int)} (h : KsR w s ks) : s.n = ks.length := h.of.n
theorem KsR.get {w : World} {s : Sl} {ks : List (List Int)} (h : KsR w s ks) {i : Nat} (hi : i < ks.length) : ∃ k p, ks[i]? = some k ∧ k ∈ ks ∧ s.a = some p ∧ keyOk k ∧ ldOk w 32 (p.add (i * 32)) .agg (u8s k).toArray := by
  have hk : ks[i]? = some ks[i] := List.getElem?_eq_getElem hi
  obtain ⟨p, hp, _⟩ := h.of.cell hk
  exact ⟨_, p, hk, List.getElem_mem hi, hp, h.ok _ (List.getElem_mem hi), h.of.agg hk hp⟩
theorem u8s_klen {ks : List (List Int)} (h : ∀ k ∈ ks, keyOk k) : ∀ k ∈ ks, (u8s k).length = 32 := fun k hk => by rw [u8s_len]; exact (h k hk).1
theorem ownS_ks {w0 w : World} {ls L : List Blk} {s : Sl} {ks : List (List Int)} (h : OwnS ty_impl_Key 32 s (ks.flatMap u8s) L) (hA : At w0 w ls) (hs : L.Sublist ls) (hk : ∀ k ∈ ks, keyOk k) : KsR w s ks := ⟨h.of hA hs (u8s_klen hk) (by omega), hk⟩
theorem slO_ks {w0 w : World} {ls : List Blk} {s : Sl} {ks : List (List Int)} (h : SlO w0 w ls ty_impl_Key 32 s (ks.flatMap u8s)) (hk : ∀ k ∈ ks, keyOk k) : KsR w s ks := ⟨h.of (u8s_klen hk) (by omega), hk⟩
theorem T_sl_Key : SlT Tryz.prog ty_sl_impl_Key ty_impl_Key 32 32 := slT_of (by kernel_rfl)
theorem flatU8 (ks : List (List Int)) : ks.flatMap u8s = u8s ks.flatten := by
  induction ks with
  | nil => rfl
  | cons k ks ih => simp [ih, u8s]

abbrev K32 := {l : List Int // l.length = 32}
instance : Inhabited K32 := ⟨⟨List.replicate 32 0, by simp⟩⟩
end Go.Proofs.YtaadgdbegpmlmaaGreat

namespace Go.Proofs.YtaadgdbegpmlmaaGreat
open Go.Sx Go.RowKit

theorem run_eql_key (x y : Operand) {a b : List Int} (ha : a.length = 32) (hb : b.length = 32) (w : World) : (eqB .eql ty_impl_Key x y (.agg (u8s a).toArray) (.agg (u8s b).toArray)).run Tryz.prog w = .ok (.bool (decide (a = b))) w :=
  run_eql_u8 (n := 32) (e := ty_uint8) (by kernel_rfl) (by kernel_rfl) (by kernel_rfl) x y ha hb w
theorem run_neq_key (x y : Operand) {a b : List Int} (ha : a.length = 32) (hb : b.length = 32) (w : World) : (eqB .neq ty_impl_Key x y (.agg (u8s a).toArray) (.agg (u8s b).toArray)).run Tryz.prog w = .ok (.bool (!decide (a = b))) w :=
  run_neq_u8 (n := 32) (e := ty_uint8) (by kernel_rfl) (by kernel_rfl) (by kernel_rfl) x y ha hb w

theorem take_succ_get {α : Type} {l : List α} {i : Nat} {x : α} (h : l[i]? = some x) : l.take (i + 1) = l.take i ++ [x] := by rw [List.take_add_one, h]; rfl
end Go.Proofs.YtaadgdbegpmlmaaGreat

namespace Go.Proofs.YtaadgdbegpmlmaaGreat
open Go.Sx Go.RowKit

def PB.key (b : PB) : List Int := hashL b.tag b.data
theorem PB.key_ok (b : PB) : keyOk b.key := ⟨hashL_len _ _, hashL_ok _ _⟩

end Go.Proofs.YtaadgdbegpmlmaaGreat

namespace Go.Proofs.YtaadgdbegpmlmaaGreat
open Go.Sx Go.RowKit

def keysOf (B : List PB) : List (List Int) := B.map PB.key
def validS (B : List PB) : Prop := B.length ≤ 128 ∧ (∀ b ∈ B, b.data.length ≤ 1024) ∧ Asc (keysOf B)
instance (B : List PB) : Decidable (validS B) := inferInstanceAs (Decidable (_ ∧ _ ∧ List.Pairwise _ _))
theorem keysOf_len (B : List PB) : (keysOf B).length = B.length := by simp [keysOf]

end Go.Proofs.YtaadgdbegpmlmaaGreat

namespace Go.Proofs.YtaadgdbegpmlmaaGreat
open Go.Sx Go.RowKit

/-- A store with its keys, read. -/
structure ShopR (w : World) (p : Addr) (ks : List (List Int)) (bs : List BR) : Prop where
  ex : ∃ sk sb, (∀ n, ldOk w n (p.add 0) .slice sk) ∧ (∀ n, ldOk w n (p.add 1) .slice sb) ∧ KsR w sk ks ∧ BsR w sb bs
theorem ShopR.below {w w' : World} {p : Addr} {ks : List (List Int)} {bs : List BR} (h : ShopR w p ks bs) (hb : Below w.heap.size w w') : ShopR w' p ks bs :=
  let ⟨sk, sb, h1, h2, h3, h4⟩ := h.ex
  ⟨sk, sb, fun n => ldOk_below hb (h1 n), fun n => ldOk_below hb (h2 n), h3.below hb, h4.below hb⟩
theorem ShopR.at {w w' : World} {ls : List Blk} {p : Addr} {ks : List (List Int)} {bs : List BR} (h : ShopR w p ks bs) (hA : At w w' ls) : ShopR w' p ks bs := h.below hA.below

/-- A store with its keys that is one's own. -/
def ShopO (b : Nat) (ks : List (List Int)) (bs : List BR) (L : List Blk) : Prop := ∃ sk sb Lk Lb, L = (b, #[.slice sk.a sk.n sk.c, .slice sb.a sb.n sb.c], ty_impl_shop) :: (Lk ++ Lb) ∧ OwnS ty_impl_Key 32 sk (ks.flatMap u8s) Lk ∧ OwnS ty_impl_Blob 2 sb (bs.flatMap BR.cells) Lb
theorem ShopO.rd {w0 w : World} {b : Nat} {ks : List (List Int)} {bs : List BR} {L ls : List Blk} (h : ShopO b ks bs L) (hA : At w0 w (L ++ ls)) (hk : ∀ k ∈ ks, keyOk k) (hb : ∀ b ∈ bs, b.Ok w) : ShopR w ⟨b, 0, none⟩ ks bs := by
  obtain ⟨sk, sb, Lk, Lb, rfl, h1, h2⟩ := h
  refine ⟨sk, sb, fun n => ldOk_own hA 0 rfl 0 rfl (by simp [Sh.emb]), fun n => ldOk_own hA 0 rfl 1 rfl (by simp [Sh.emb]), ownS_ks h1 hA ?_ hk, ⟨h2.of hA ?_ (fun b _ => cells_len b) (by omega), hb⟩⟩
  · exact ((List.sublist_append_left _ _).trans (List.sublist_cons_self _ _)).trans (List.sublist_append_left _ _)
  · exact ((List.sublist_append_right _ _).trans (List.sublist_cons_self _ _)).trans (List.sublist_append_left _ _)

end Go.Proofs.YtaadgdbegpmlmaaGreat
