/- The program: keys are compared, copied, sorted, each once; a key is found. The program: a list of keys is sorted; each once; a key is found. -/
import Derived.Shelf.SlSortCmp.NoneTotal
import Derived.Test.YtkifkdkjljcclaaPkLPS15
namespace Go.Proofs.Ytkifkdkjljcclaa
open Go.Sx Go.RowKit

theorem c_isNaN (x : Int) : RetP Try.prog n_cmp_isNaN_byte [.int .u8 x] [.bool] false := fun w => cmp_isNaN_byte_calls x (by
  unfold cmp_isNaN_byte
  exact r_retP (by simp [valL, embL, Sh.emb]))
theorem c_cmpByte (x y : Int) : RetP Try.prog n_cmp_Compare_byte [.int .u8 x, .int .u8 y] [.int .i64] (if x < y then -1 else if y < x then 1 else 0) := fun w => cmp_Compare_byte_calls x y (by
  unfold cmp_Compare_byte
  refine r_callp (c_isNaN x) ?_
  refine r_callp (c_isNaN y) ?_
  refine r_false rfl (r_false rfl ?_)
  by_cases h1 : x < y
  · rw [if_pos h1]
    exact r_true (decide_eq_true h1) (r_retP rfl)
  · rw [if_neg h1]
    refine r_false (decide_eq_false h1) ?_
    by_cases h2 : y < x
    · rw [if_pos h2]
      exact r_true (decide_eq_true h2) (r_retP rfl)
    · rw [if_neg h2]
      exact r_false (decide_eq_false h2) (r_retP rfl))

theorem cmpL_drop {a b : List Int} {j : Nat} (ha : j < a.length) (hb : j < b.length) : cmpL (a.drop j) (b.drop j) = if a.getD j 0 < b.getD j 0 then -1 else if b.getD j 0 < a.getD j 0 then 1 else cmpL (a.drop (j + 1)) (b.drop (j + 1)) := by
  rw [List.drop_eq_getElem_cons ha, List.drop_eq_getElem_cons hb, cmpL]
  simp [List.getD, ha, hb]

theorem r_callQ' {P : Program} {R : Value → World → Prop} {w : World} {f : FuncId} {args : List Value} {l : List Sh} {x : TL l} {k : TL l → World → Prop} (hc : Calls P f args.toArray w fun e w' => ∃ v, e = .returned v ∧ RP l x w v w') (h : k x w) : ((real P R).callQ f args l k : World → Prop) w :=
  ⟨x, hc.mono fun _ _ ⟨_, he, hv, hw⟩ => ⟨by rw [he, hv], hw⟩, h⟩

theorem c_slCompare {w : World} {s t : Sl} {a b : List Int} (hs : SlAt w s 1 (u8s a)) (ht : SlAt w t 1 (u8s b)) (hab : a.length = b.length) (hmax : a.length ≤ 1073741824) :
    Calls Try.prog n_slices_Compare_sl_byte_byte [.slice s.a s.n s.c, .slice t.a t.n t.c].toArray w fun e w' => ∃ v, e = .returned v ∧ RP [.int .i64] (cmpL a b) w v w' := slices_Compare_sl_byte_byte_calls s t (by
  unfold slices_Compare_sl_byte_byte
  have hsn : s.n = a.length := by have := hs.len; simp at this; omega
  have htn : t.n = b.length := by have := ht.len; simp at this; omega
  refine r_loop (σ := Int) (fun i w' => w' = w ∧ ∃ j : Nat, i = j ∧ j ≤ a.length ∧ cmpL a b = cmpL (a.drop j) (b.drop j)) (fun i _ => (s.n - i).toNat) 0 rfl ⟨rfl, 0, rfl, by omega, by simp⟩ ?_
  rintro i w1 ⟨rfl, j, rfl, hj, he⟩
  refine r_any fun _ => ?_
  refine r_if ((j : Int) < (s.n : Int)) rfl (fun hlt => ?_) (fun hge => ?_)
  · obtain ⟨p, hp, hc⟩ := hs.cell j _ (u8s_get (show j < a.length by omega))
    obtain ⟨q, hq, hd⟩ := ht.cell j _ (u8s_get (show j < b.length by omega))
    refine r_ix p hp (by omega) (by omega) ?_
    refine r_ldN (a.getD j 0) (by simp only [Int.toNat_natCast, Nat.mul_one]; exact hc) ?_
    refine r_if ((j : Int) ≥ (t.n : Int)) rfl (fun hh => by omega) (fun _ => ?_)
    refine r_ix q hq (by omega) (by omega) ?_
    refine r_ldN (b.getD j 0) (by simp only [Int.toNat_natCast, Nat.mul_one]; exact hd) ?_
    refine r_callp (c_cmpByte _ _) ?_
    rw [cmpL_drop (by omega) (by omega)] at he
    by_cases h1 : a.getD j 0 < b.getD j 0
    · rw [if_pos h1] at he ⊢
      rw [he]
      exact r_true rfl (r_retP rfl)
    · rw [if_neg h1] at he ⊢
      by_cases h2 : b.getD j 0 < a.getD j 0
      · rw [if_pos h2] at he ⊢
        rw [he]
        exact r_true rfl (r_retP rfl)
      · rw [if_neg h2] at he ⊢
        refine r_false rfl ?_
        exact ⟨((j + 1 : Nat) : Int), by rw [w64 (by omega) (by omega)]; rfl, ⟨rfl, j + 1, rfl, by omega, he⟩, by omega⟩
  · refine r_if ((s.n : Int) < (t.n : Int)) rfl (fun hh => by omega) (fun _ => ?_)
    rw [he, List.drop_eq_nil_of_le (by omega), List.drop_eq_nil_of_le (by omega)]
    exact r_retP rfl)

theorem alloc2_grow (w : World) (o1 o2 : Obj) : ((w.alloc o1).alloc o2).drew = Go.Sort.grow (w.drewN 1) #[o1, o2] := by
  have h : (w.heap.push o1).push o2 = w.heap ++ #[o1, o2] := by apply Array.ext'; simp
  exact congrArg (fun hp => ({ w with heap := hp, drawn := w.drawn + 1 } : World)) h
open Go.Sort (grow) in
theorem c_compareKeysG {a b : List Int} (ha : a.length = 32) (hb : b.length = 32) (w : World) :
    Calls Try.prog n_impl_compareKeys #[.agg (u8s a).toArray, .agg (u8s b).toArray] w fun e w' => e = .returned (.int .i64 (cmpL a b)) ∧ ∃ q os', w' = grow (w.drewN q) os' := by
  refine (impl_compareKeys_calls (R := fun v w' => v = .int .i64 (cmpL a b) ∧ ∃ q os', w' = grow (w.drewN q) os') (u8s a).toArray (u8s b).toArray ?_).mono (by rintro e w' ⟨v, he, hv, hw⟩; exact ⟨by rw [he, hv], hw⟩)
  unfold impl_compareKeys
  have h1 : At w (w.alloc (.cells (u8s a).toArray ty_impl_Key)) [(w.heap.size, (u8s a).toArray, ty_impl_Key)] := ((At.refl w).trans (below_alloc w _)).add (heap_alloc_self w _) (Nat.le_refl _) (by simp)
  generalize hw1 : w.alloc (.cells (u8s a).toArray ty_impl_Key) = w1 at h1
  have h2 : At w (w1.alloc (.cells (u8s b).toArray ty_impl_Key)) [(w1.heap.size, (u8s b).toArray, ty_impl_Key), (w.heap.size, (u8s a).toArray, ty_impl_Key)] := (h1.trans (below_alloc w1 _)).add (heap_alloc_self w1 _) h1.size (h1.fresh (Nat.le_refl _))
  generalize hw2 : w1.alloc (.cells (u8s b).toArray ty_impl_Key) = w2 at h2
  have h3 := h2.drew
  have hsa : SlAt w2.drew ⟨some ⟨w.heap.size, 0, none⟩, 32, 32⟩ 1 (u8s a) := h3.sl 1 rfl rfl (by simp [ha]) (by rw [List.drop_zero]; exact List.take_of_length_le (by simp))
  have hsb : SlAt w2.drew ⟨some ⟨w1.heap.size, 0, none⟩, 32, 32⟩ 1 (u8s b) := h3.sl 0 rfl rfl (by simp [hb]) (by rw [List.drop_zero]; exact List.take_of_length_le (by simp))
  have key : ((real Try.prog fun v w' => v = .int .i64 (cmpL a b) ∧ ∃ q os', w' = grow (w.drewN q) os').sl (some (Addr.mk w.heap.size 0 none)) 32 32 1 none none none fun y5 =>
      (real Try.prog fun v w' => v = .int .i64 (cmpL a b) ∧ ∃ q os', w' = grow (w.drewN q) os').sl (some (Addr.mk w1.heap.size 0 none)) 32 32 1 none none none fun y6 =>
      (real Try.prog fun v w' => v = .int .i64 (cmpL a b) ∧ ∃ q os', w' = grow (w.drewN q) os').callQ n_slices_Compare_sl_byte_byte [(.slice y5.a y5.n y5.c), (.slice y6.a y6.n y6.c)] [(.int .i64)] fun r7 =>
      (real Try.prog fun v w' => v = .int .i64 (cmpL a b) ∧ ∃ q os', w' = grow (w.drewN q) os').ret (.int .i64 r7) : World → Prop) w2.drew := by
    refine r_sl 0 32 rfl rfl (by omega) (by omega) ?_
    refine r_sl 0 32 rfl rfl (by omega) (by omega) ?_
    refine r_callQ' (c_slCompare (s := ⟨some ⟨w.heap.size, 0, none⟩, 32, 32⟩) (t := ⟨some ⟨w1.heap.size, 0, none⟩, 32, 32⟩) hsa hsb (by omega) (by omega)) ?_
    refine r_retR ⟨rfl, 1, #[.cells (u8s a).toArray ty_impl_Key, .cells (u8s b).toArray ty_impl_Key], ?_⟩
    subst hw2
    subst hw1
    exact alloc2_grow _ _ _
  subst hw2
  subst hw1
  exact key

theorem below_grow (w : World) (q : Nat) (os : Array Obj) : Below w.heap.size w (Go.Sort.grow (w.drewN q) os) :=
  ⟨rfl, rfl, rfl, by simp [Go.Sort.grow, World.drewN], fun k hk => by
    show (w.heap ++ os)[k]? = _
    rw [Array.getElem?_append_left hk]⟩
theorem c_compareKeys {a b : List Int} (ha : a.length = 32) (hb : b.length = 32) (w : World) : Ret Try.prog n_impl_compareKeys [.agg (u8s a).toArray, .agg (u8s b).toArray] w [.int .i64] (fun r _ => r = cmpL a b) :=
  (c_compareKeysG ha hb w).mono fun _ _ ⟨he, q, os, hw⟩ => ⟨_, he, cmpL a b, rfl, by rw [hw]; exact below_grow _ _ _, rfl⟩

def keyOk (k : List Int) : Prop := k.length = 32 ∧ bytesOk k
structure KsR (w : World) (s : Sl) (ks : List (List Int)) : Prop where
  of : SlOf w s 32 u8s ks
  ok : ∀ k ∈ ks, keyOk k
theorem KsR.below {w w' : World} {s : Sl} {ks : List (List Int)} (h : KsR w s ks) (hb : Below w.heap.size w w') : KsR w' s ks := ⟨h.of.below hb, h.ok⟩
theorem KsR.at {w w' : World} {ls : List Blk} {s : Sl} {ks : List (List Int)} (h : KsR w s ks) (hA : At w w' ls) : KsR w' s ks := h.below hA.below
theorem KsR.n {w : World} {s : Sl} {ks : List (List Int)} (h : KsR w s ks) : s.n = ks.length := h.of.n
theorem KsR.get {w : World} {s : Sl} {ks : List (List Int)} (h : KsR w s ks) {i : Nat} (hi : i < ks.length) : ∃ k p, ks[i]? = some k ∧ k ∈ ks ∧ s.a = some p ∧ keyOk k ∧ ldOk w 32 (p.add (i * 32)) .agg (u8s k).toArray := by
  have hk : ks[i]? = some ks[i] := List.getElem?_eq_getElem hi
  obtain ⟨p, hp, _⟩ := h.of.cell hk
  exact ⟨_, p, hk, List.getElem_mem hi, hp, h.ok _ (List.getElem_mem hi), h.of.agg hk hp⟩
theorem u8s_klen {ks : List (List Int)} (h : ∀ k ∈ ks, keyOk k) : ∀ k ∈ ks, (u8s k).length = 32 := fun k hk => by rw [u8s_len]; exact (h k hk).1
theorem ownS_ks {w0 w : World} {ls L : List Blk} {s : Sl} {ks : List (List Int)} (h : OwnS ty_impl_Key 32 s (ks.flatMap u8s) L) (hA : At w0 w ls) (hs : L.Sublist ls) (hk : ∀ k ∈ ks, keyOk k) : KsR w s ks := ⟨h.of hA hs (u8s_klen hk) (by omega), hk⟩
theorem slO_ks {w0 w : World} {ls : List Blk} {s : Sl} {ks : List (List Int)} (h : SlO w0 w ls ty_impl_Key 32 s (ks.flatMap u8s)) (hk : ∀ k ∈ ks, keyOk k) : KsR w s ks := ⟨h.of (u8s_klen hk) (by omega), hk⟩
theorem T_sl_Key : SlT Try.prog ty_sl_impl_Key ty_impl_Key 32 32 := slT_of (by kernel_rfl)
theorem flatU8 (ks : List (List Int)) : ks.flatMap u8s = u8s ks.flatten := by
  induction ks with
  | nil => rfl
  | cons k ks ih => simp [ih, u8s]

theorem c_CloneKeys {w : World} {s : Sl} {ks : List (List Int)} (hs : KsR w s ks) (hmax : ks.length ≤ 1073741824) : Ret Try.prog n_slices_Clone_sl_impl_Key_impl_Key [.slice s.a s.n s.c] w [.slice] (fun r w' => SlO w w' [] ty_impl_Key 32 r (ks.flatMap u8s) ∧ r.n = ks.length) := slices_Clone_sl_impl_Key_impl_Key_calls s (by
  unfold slices_Clone_sl_impl_Key_impl_Key
  have hn := hs.n
  refine r_pur _ (fun w' => run_eql_sl (e := ty_impl_Key) (by kernel_rfl) _ _ _ _ _ w') ?_
  cases ha : s.a with
  | none =>
    refine r_true rfl ?_
    have : ks = [] := by
      cases ks with
      | nil => rfl
      | cons k r => obtain ⟨p, hp, _⟩ := hs.of.cell (i := 0) rfl; rw [ha] at hp; cases hp
    subst this
    exact r_ret (At.refl w) ⟨none, 0, 0⟩ rfl ⟨SlO.nil (At.refl w) _ _, rfl⟩
  | some p =>
    refine r_false (by simp) ?_
    refine r_bs0 T_sl_Key (At.refl w) fun y w1 hy hyn => ?_
    have hs1 : SlAt w1 ⟨some p, s.n, s.c⟩ 32 (ks.flatMap u8s) := by have := (hs.at hy.at_).of.sl; rw [← ha]; exact this
    refine r_append T_sl_Key hy (y := ⟨some p, s.n, s.c⟩) hs1 (by rw [flatU8]; exact u8s_one) (by dsimp only; omega) (by dsimp only; omega) fun y' w2 hy' hyn' => ?_
    dsimp only at hyn'
    exact r_ret hy'.at_ y' rfl ⟨by simpa using hy', by omega⟩)

abbrev K32 := {l : List Int // l.length = 32}
instance : Inhabited K32 := ⟨⟨List.replicate 32 0, by simp⟩⟩
def encK (k : K32) : List Value := u8s k.1
def cfK (a b : K32) : Int := cmpL a.1 b.1
theorem swoK : Go.Sort.SWO (ltOf cfK) where
  irrefl := fun x => decide_eq_false (by unfold cfK; rw [cmpL_self]; omega)
  trans := fun x y z h1 h2 => decide_eq_true (cmpL_trans (of_decide_eq_true h1) (of_decide_eq_true h2))
  ntrans := fun x y z h1 h2 => decide_eq_false fun h3 => by
    have h1 := of_decide_eq_false h1
    have h2 := of_decide_eq_false h2
    rcases not_ltL (a := x.1) (b := y.1) h1 with e | h1
    · unfold cfK at h3 h2
      rw [← e] at h3
      exact h2 h3
    · exact h2 (ltL_trans (a := y.1) (b := x.1) h1 h3)

theorem cmpLaysK (blk off size : Nat) (w : World) : CmpLays Try.prog n_impl_compareKeys #[] encK 32 cfK blk off size w := fun m os dk _ x y => by
  have := c_compareKeysG x.2 y.2 (sortWorldK encK 32 w blk off m dk os)
  simpa [encK, cfK] using this

end Go.Proofs.Ytkifkdkjljcclaa

namespace Go.Proofs.Ytkifkdkjljcclaa
open Go.Sx Go.RowKit
open Go.Sort (Holds grow putRow mapBlock onCells putCells flatK HoldsK putRowK SortedIn PermIn)

theorem flatK_toList {α : Type} [Inhabited α] (enc : α → List Value) (k : Nat) (hk : ∀ x, (enc x).length = k) (d : Array α) : (flatK enc k d).toList = d.toList.flatMap enc := by
  have hlen : (d.toList.flatMap enc).length = d.size * k := by rw [flatMap_length (z := k) (fun x _ => hk x)]; simp
  apply List.ext_getElem?
  intro t
  rcases Nat.lt_or_ge t (d.size * k) with ht | ht
  · have k0 : 0 < k := by
      rcases Nat.eq_zero_or_pos k with h | h
      · subst h; simp at ht
      · exact h
    have hi : t / k < d.size := (Nat.div_lt_iff_lt_mul k0).2 ht
    have hj : t % k < k := Nat.mod_lt _ k0
    have h1 : (enc d[t / k]!)[t % k]? = some ((enc d[t / k]!)[t % k]!) := by
      rw [List.getElem!_eq_getElem?_getD, List.getElem?_eq_getElem (by rw [hk]; exact hj)]
      rfl
    have h2 := flatMap_get (z := k) (cs := enc) (xs := d.toList) (i := t / k) (x := d[t / k]!) (fun x _ => hk x) (by simp [hi]) h1
    rw [Nat.div_add_mod'] at h2
    rw [h2]
    simp [flatK, ht]
  · rw [List.getElem?_eq_none (by simpa using ht), List.getElem?_eq_none (by omega)]

def toK32 (ks : List (List Int)) (h : ∀ k ∈ ks, k.length = 32) : List K32 := ks.attach.map fun x => ⟨x.1, h x.1 x.2⟩
theorem toK32_val (ks : List (List Int)) (h : ∀ k ∈ ks, k.length = 32) : (toK32 ks h).map (·.1) = ks := by simp [toK32]
theorem flat_enc (l : List K32) : l.flatMap encK = (l.map (·.1)).flatMap u8s := by simp [List.flatMap_map, encK]

theorem at_sorted {w0 w : World} {ls : List Blk} {g : Nat} {cur : Array Value} {e : TypeId} {d d' : Array K32} (hA : At w0 w ((g, cur, e) :: ls)) (hd : cur.toList.take (d.size * 32) = d.toList.flatMap encK) (hs : d'.size = d.size) (hc : d.size * 32 ≤ cur.size) (n : Nat) (os : Array Obj) :
    HoldsK encK 32 w g 0 d ∧ ∃ cur', At w0 (sortWorldK encK 32 w g 0 n d' os) ((g, cur', e) :: ls) ∧ cur'.size = cur.size ∧ cur'.toList.take (d'.size * 32) = d'.toList.flatMap encK := by
  have hk : ∀ x : K32, (encK x).length = 32 := fun x => by simp [encK, x.2]
  have hb : w.heap[g]? = some (.cells cur e (0, 0)) := hA.get (i := 0) rfl
  constructor
  · intro j hj
    have hj' : j < d.size * 32 := by simpa using hj
    constructor
    · have : cur[0 + j]? = (d.toList.flatMap encK)[j]? := by rw [← hd, List.getElem?_take, if_pos hj']; simp
      simp only [World.cell?, hb, Option.isSome_none, Bool.false_eq_true, if_false, this, ← flatK_toList encK 32 hk d]
      simp only [Array.getElem?_toList, id]
      rw [getElem!_pos _ j (by simpa using hj), Array.getElem?_eq_getElem (by simpa using hj)]
    · simp [World.frozen?, hb]
  · refine ⟨putCells id 0 (flatK encK 32 d') cur, ?_, by simp [putCells], ?_⟩
    · have h1 : (putRowK encK 32 (Go.Sort.ahead w n) g 0 d').heap[g]? = some (.cells (putCells id 0 (flatK encK 32 d') cur) e (0, 0)) := by
        show (w.heap.modify g (onCells (putCells id 0 (flatK encK 32 d'))))[g]? = _
        rw [Array.getElem?_modify, if_pos rfl, hb]
        rfl
      have h2 := hA.write (i := 0) (w' := putRowK encK 32 (Go.Sort.ahead w n) g 0 d') rfl h1 (fun k hk => by
        show (w.heap.modify g _)[k]? = _
        rw [Array.getElem?_modify, if_neg (Ne.symm hk)]) (by show (w.heap.modify g _).size = _; simp) rfl rfl rfl
      exact h2.trans (Below.mono ⟨rfl, rfl, rfl, by show _ ≤ (_ ++ os).size; rw [Array.size_append]; exact Nat.le_add_right _ _, fun k hk => by show (_ ++ os)[k]? = _; rw [Array.getElem?_append_left hk]⟩ (Nat.le_refl _))
    · rw [← flatK_toList encK 32 hk d']
      apply List.ext_getElem?
      intro j
      rcases Nat.lt_or_ge j (d'.size * 32) with hj | hj
      · rw [List.getElem?_take, if_pos hj]
        have hjc : j < cur.size := by omega
        simp [putCells, hjc, hj]
      · rw [List.getElem?_take, if_neg (by omega), List.getElem?_eq_none (by simpa using hj)]

theorem kSize (w : World) : (Go.sizeOf (Try.sortL_ren.t 24)).run Try.prog w = .ok 32 w := Go.Sx.run_sizeOf (sh := .agg) (by kernel_rfl) w
theorem kAgg (w : World) : (isAgg (Try.sortL_ren.t 24)).run Try.prog w = .ok true w := Go.Sx.run_isAgg (sh := .agg) (n := 32) (by kernel_rfl) w

theorem c_SortKeys {w0 w : World} {ls : List Blk} {s : Sl} {ks : List (List Int)} (hS : SlO w0 w ls ty_impl_Key 32 s (ks.flatMap u8s)) (hk : ∀ k ∈ ks, k.length = 32) (hn : s.n = ks.length) (hmax : ks.length ≤ 1073741824) :
    Calls Try.prog n_slices_SortFunc_sl_impl_Key_impl_Key [.slice s.a s.n s.c, .func (.func n_impl_compareKeys) #[] #[]].toArray w fun e w' => ∃ v, e = .returned v ∧ v = .tuple #[] ∧ ∃ ks' : List (List Int), ks'.Perm ks ∧ ks'.Pairwise (fun a b => ¬ ltL b a) ∧ SlO w0 w' ls ty_impl_Key 32 s (ks'.flatMap u8s) := by
  have hlen := hS.len
  rcases hS.own with ⟨ha, h0, h1⟩ | ⟨g, cur, ha, hA, hnc, hcm, hcs, htk⟩
  · have hks : ks = [] := List.eq_nil_of_length_eq_zero (by omega)
    subst hks
    have := AnyF.slices_SortFunc_none Try.sortL none 0 (.func (.func n_impl_compareKeys) #[] #[]) w
    rw [ha, h0, h1]
    refine Calls.mono this fun e w' ⟨he, hw⟩ => ⟨_, he, rfl, [], .nil, .nil, by rw [hw]; exact hS⟩
  · obtain ⟨d, hd⟩ : ∃ d : Array K32, d = (toK32 ks hk).toArray := ⟨_, rfl⟩
    have hdl : d.toList.map (·.1) = ks := by rw [hd]; exact toK32_val ks hk
    have hds : d.size = ks.length := by rw [← hdl]; simp
    have hflat : d.toList.flatMap encK = ks.flatMap u8s := by rw [flat_enc, hdl]
    have hcur : cur.toList.take (d.size * 32) = d.toList.flatMap encK := by rw [hflat, ← htk, hlen, hn, hds]
    have hfit : d.size * 32 ≤ cur.size := by rw [hcs, hds, ← hn]; exact Nat.mul_le_mul_right _ hnc
    have hH := (at_sorted hA hcur rfl hfit 0 #[]).1
    have hb : w.heap[g]? = some (.cells cur ty_impl_Key (0, 0)) := hA.get (i := 0) rfl
    have := AnyQ.slices_SortFunc Try.sortL 32 kAgg kSize encK (fun x => by simp [encK, x.2]) (fun x => oneC_cells.1 u8s_one) cfK swoK n_impl_compareKeys #[] g 0 s.c d w (fun args w => isGo_spec (by kernel_rfl) args w) (cmpLaysK _ _ _ _) hH (lt_of_some hb) (by omega)
    rw [ha, hn, ← hds]
    refine Calls.mono this ?_
    rintro e w' ⟨he, d', n, os, ⟨hs', _, hperm⟩, hsort, rfl⟩
    obtain ⟨cur', hA', hcs', htk'⟩ := (at_sorted (d' := d') hA hcur hs' hfit n os).2
    have hp : (d'.toList.map (·.1)).Perm ks := by
      rw [← hdl]
      have e1 : (d'.extract 0 d.size).toList = d'.toList := by rw [← hs']; simp
      have e2 : (d.extract 0 d.size).toList = d.toList := by simp
      rw [e1, e2] at hperm
      exact hperm.map (·.1)
    have hpl : (d'.toList.map (·.1)).length = ks.length := hp.length_eq
    refine ⟨_, he, rfl, d'.toList.map (·.1), hp, ?_, ⟨hA'.tail, ?_, .inr ⟨g, cur', ha, hA', hnc, hcm, by rw [hcs', hcs], ?_⟩⟩⟩
    · rw [List.pairwise_map]
      refine List.pairwise_iff_getElem.2 fun i j hi hj hij => ?_
      have := hsort i j (Nat.zero_le _) hij (by simpa [hs'] using hj)
      have h' := of_decide_eq_false this
      have e1 : d'[j]! = d'.toList[j] := by rw [getElem!_pos d' j (by simpa using hj)]; simp
      have e2 : d'[i]! = d'.toList[i] := by rw [getElem!_pos d' i (by simpa using hi)]; simp
      rw [e1, e2] at h'
      exact h'
    · rw [← flat_enc, flatMap_length (z := 32) (fun x _ => by simp [encK, x.2]), hn, ← hpl]
      simp
    · rw [← flat_enc, flatMap_length (z := 32) (fun x _ => by simp [encK, x.2]), ← htk']
      simp

end Go.Proofs.Ytkifkdkjljcclaa
