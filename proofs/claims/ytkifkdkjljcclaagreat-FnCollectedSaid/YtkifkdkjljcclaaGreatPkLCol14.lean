/- The program: a list of keys is sorted; each once; a key is found. The program: a sorted list's keys each once; is it sorted; a key is found; blobs compared, copied; a store's keys, is it valid. The program: sorted keys, each once; whether keys are sorted; a key is found. -/
import Derived.Shelf.SlSortCmp.NoneTotal
import Derived.Test.YtkifkdkjljcclaaGreatPkLCol13
import Derived.Test.YtkifkdkjljcclaaGreatPkLCol05
namespace Go.Proofs.YtkifkdkjljcclaaGreat
open Go.Sx Go.RowKit
open Go.Sort (Holds grow putRow mapBlock onCells putCells flatK HoldsK putRowK SortedIn PermIn)

theorem flatK_toList {α : Type} [Inhabited α] (enc : α → List Value) (k : Nat) (hk : ∀ x, (enc x).length = k) (d : Array α) : (flatK enc k d).toList = d.toList.flatMap enc := by
  have hlen : (d.toList.flatMap enc).length = d.size * k := by rw [flatMap_length (z := k) (fun x _ => hk x)]; simp
  apply List.ext_getElem?
  intro t
  rcases Nat.lt_or_ge t (d.size * k) with ht | ht
  · have k0 : 0 < k := by
      rcases Nat.eq_zero_or_pos k with h | h
      · subst h; simp at ht
      · exact h
    have hi : t / k < d.size := (Nat.div_lt_iff_lt_mul k0).2 ht
    have hj : t % k < k := Nat.mod_lt _ k0
    have h1 : (enc d[t / k]!)[t % k]? = some ((enc d[t / k]!)[t % k]!) := by
      rw [List.getElem!_eq_getElem?_getD, List.getElem?_eq_getElem (by rw [hk]; exact hj)]
      rfl
    have h2 := flatMap_get (z := k) (cs := enc) (xs := d.toList) (i := t / k) (x := d[t / k]!) (fun x _ => hk x) (by simp [hi]) h1
    rw [Nat.div_add_mod'] at h2
    rw [h2]
    simp [flatK, ht]
  · rw [List.getElem?_eq_none (by simpa using ht), List.getElem?_eq_none (by omega)]

def toK32 (ks : List (List Int)) (h : ∀ k ∈ ks, k.length = 32) : List K32 := ks.attach.map fun x => ⟨x.1, h x.1 x.2⟩
theorem toK32_val (ks : List (List Int)) (h : ∀ k ∈ ks, k.length = 32) : (toK32 ks h).map (·.1) = ks := by simp [toK32]
theorem flat_enc (l : List K32) : l.flatMap encK = (l.map (·.1)).flatMap u8s := by simp [List.flatMap_map, encK]

theorem at_sorted {w0 w : World} {ls : List Blk} {g : Nat} {cur : Array Value} {e : TypeId} {d d' : Array K32} (hA : At w0 w ((g, cur, e) :: ls)) (hd : cur.toList.take (d.size * 32) = d.toList.flatMap encK) (hs : d'.size = d.size) (hc : d.size * 32 ≤ cur.size) (n : Nat) (os : Array Obj) :
    HoldsK encK 32 w g 0 d ∧ ∃ cur', At w0 (sortWorldK encK 32 w g 0 n d' os) ((g, cur', e) :: ls) ∧ cur'.size = cur.size ∧ cur'.toList.take (d'.size * 32) = d'.toList.flatMap encK := by
  have hk : ∀ x : K32, (encK x).length = 32 := fun x => by simp [encK, x.2]
  have hb : w.heap[g]? = some (.cells cur e (0, 0)) := hA.get (i := 0) rfl
  constructor
  · intro j hj
    have hj' : j < d.size * 32 := by simpa using hj
    constructor
    · have : cur[0 + j]? = (d.toList.flatMap encK)[j]? := by rw [← hd, List.getElem?_take, if_pos hj']; simp
      simp only [World.cell?, hb, Option.isSome_none, Bool.false_eq_true, if_false, this, ← flatK_toList encK 32 hk d]
      simp only [Array.getElem?_toList, id]
      rw [getElem!_pos _ j (by simpa using hj), Array.getElem?_eq_getElem (by simpa using hj)]
    · simp [World.frozen?, hb]
  · refine ⟨putCells id 0 (flatK encK 32 d') cur, ?_, by simp [putCells], ?_⟩
    · have h1 : (putRowK encK 32 (Go.Sort.ahead w n) g 0 d').heap[g]? = some (.cells (putCells id 0 (flatK encK 32 d') cur) e (0, 0)) := by
        show (w.heap.modify g (onCells (putCells id 0 (flatK encK 32 d'))))[g]? = _
        rw [Array.getElem?_modify, if_pos rfl, hb]
        rfl
      have h2 := hA.write (i := 0) (w' := putRowK encK 32 (Go.Sort.ahead w n) g 0 d') rfl h1 (fun k hk => by
        show (w.heap.modify g _)[k]? = _
        rw [Array.getElem?_modify, if_neg (Ne.symm hk)]) (by show (w.heap.modify g _).size = _; simp) rfl rfl rfl
      exact h2.trans (Below.mono ⟨rfl, rfl, rfl, by show _ ≤ (_ ++ os).size; rw [Array.size_append]; exact Nat.le_add_right _ _, fun k hk => by show (_ ++ os)[k]? = _; rw [Array.getElem?_append_left hk]⟩ (Nat.le_refl _))
    · rw [← flatK_toList encK 32 hk d']
      apply List.ext_getElem?
      intro j
      rcases Nat.lt_or_ge j (d'.size * 32) with hj | hj
      · rw [List.getElem?_take, if_pos hj]
        have hjc : j < cur.size := by omega
        simp [putCells, hjc, hj]
      · rw [List.getElem?_take, if_neg (by omega), List.getElem?_eq_none (by simpa using hj)]

theorem kSize (w : World) : (Go.sizeOf (Tryz.sortL_ren.t 24)).run Tryz.prog w = .ok 32 w := Go.Sx.run_sizeOf (sh := .agg) (by kernel_rfl) w
theorem kAgg (w : World) : (isAgg (Tryz.sortL_ren.t 24)).run Tryz.prog w = .ok true w := Go.Sx.run_isAgg (sh := .agg) (n := 32) (by kernel_rfl) w

theorem c_SortKeys {w0 w : World} {ls : List Blk} {s : Sl} {ks : List (List Int)} (hS : SlO w0 w ls ty_impl_Key 32 s (ks.flatMap u8s)) (hk : ∀ k ∈ ks, k.length = 32) (hn : s.n = ks.length) (hmax : ks.length ≤ 1073741824) :
    Calls Tryz.prog n_slices_SortFunc_sl_impl_Key_impl_Key [.slice s.a s.n s.c, .func (.func n_impl_compareKeys) #[] #[]].toArray w fun e w' => ∃ v, e = .returned v ∧ v = .tuple #[] ∧ ∃ ks' : List (List Int), ks'.Perm ks ∧ ks'.Pairwise (fun a b => ¬ ltL b a) ∧ SlO w0 w' ls ty_impl_Key 32 s (ks'.flatMap u8s) := by
  have hlen := hS.len
  rcases hS.own with ⟨ha, h0, h1⟩ | ⟨g, cur, ha, hA, hnc, hcm, hcs, htk⟩
  · have hks : ks = [] := List.eq_nil_of_length_eq_zero (by omega)
    subst hks
    have := AnyF.slices_SortFunc_none Tryz.sortL none 0 (.func (.func n_impl_compareKeys) #[] #[]) w
    rw [ha, h0, h1]
    refine Calls.mono this fun e w' ⟨he, hw⟩ => ⟨_, he, rfl, [], .nil, .nil, by rw [hw]; exact hS⟩
  · obtain ⟨d, hd⟩ : ∃ d : Array K32, d = (toK32 ks hk).toArray := ⟨_, rfl⟩
    have hdl : d.toList.map (·.1) = ks := by rw [hd]; exact toK32_val ks hk
    have hds : d.size = ks.length := by rw [← hdl]; simp
    have hflat : d.toList.flatMap encK = ks.flatMap u8s := by rw [flat_enc, hdl]
    have hcur : cur.toList.take (d.size * 32) = d.toList.flatMap encK := by rw [hflat, ← htk, hlen, hn, hds]
    have hfit : d.size * 32 ≤ cur.size := by rw [hcs, hds, ← hn]; exact Nat.mul_le_mul_right _ hnc
    have hH := (at_sorted hA hcur rfl hfit 0 #[]).1
    have hb : w.heap[g]? = some (.cells cur ty_impl_Key (0, 0)) := hA.get (i := 0) rfl
    have := AnyQ.slices_SortFunc Tryz.sortL 32 kAgg kSize encK (fun x => by simp [encK, x.2]) (fun x => oneC_cells.1 u8s_one) cfK swoK n_impl_compareKeys #[] g 0 s.c d w (fun args w => isGo_spec (by kernel_rfl) args w) (cmpLaysK _ _ _ _) hH (lt_of_some hb) (by omega)
    rw [ha, hn, ← hds]
    refine Calls.mono this ?_
    rintro e w' ⟨he, d', n, os, ⟨hs', _, hperm⟩, hsort, rfl⟩
    obtain ⟨cur', hA', hcs', htk'⟩ := (at_sorted (d' := d') hA hcur hs' hfit n os).2
    have hp : (d'.toList.map (·.1)).Perm ks := by
      rw [← hdl]
      have e1 : (d'.extract 0 d.size).toList = d'.toList := by rw [← hs']; simp
      have e2 : (d.extract 0 d.size).toList = d.toList := by simp
      rw [e1, e2] at hperm
      exact hperm.map (·.1)
    have hpl : (d'.toList.map (·.1)).length = ks.length := hp.length_eq
    refine ⟨_, he, rfl, d'.toList.map (·.1), hp, ?_, ⟨hA'.tail, ?_, .inr ⟨g, cur', ha, hA', hnc, hcm, by rw [hcs', hcs], ?_⟩⟩⟩
    · rw [List.pairwise_map]
      refine List.pairwise_iff_getElem.2 fun i j hi hj hij => ?_
      have := hsort i j (Nat.zero_le _) hij (by simpa [hs'] using hj)
      have h' := of_decide_eq_false this
      have e1 : d'[j]! = d'.toList[j] := by rw [getElem!_pos d' j (by simpa using hj)]; simp
      have e2 : d'[i]! = d'.toList[i] := by rw [getElem!_pos d' i (by simpa using hi)]; simp
      rw [e1, e2] at h'
      exact h'
    · rw [← flat_enc, flatMap_length (z := 32) (fun x _ => by simp [encK, x.2]), hn, ← hpl]
      simp
    · rw [← flat_enc, flatMap_length (z := 32) (fun x _ => by simp [encK, x.2]), ← htk']
      simp

end Go.Proofs.YtkifkdkjljcclaaGreat

namespace Go.Proofs.YtkifkdkjljcclaaGreat
open Go.Sx Go.RowKit

theorem snocInd {α : Type} {motive : List α → Prop} (nil : motive []) (snoc : ∀ l x, motive l → motive (l ++ [x])) (l : List α) : motive l := by
  have h : ∀ r : List α, motive r.reverse := by
    intro r
    induction r with
    | nil => exact nil
    | cons x r ih => rw [List.reverse_cons]; exact snoc _ _ ih
  have := h l.reverse
  rwa [List.reverse_reverse] at this
def cmpct (l : List (List Int)) : List (List Int) := (l.foldl (fun (s : List (List Int) × Option (List Int)) x => (if s.2 = some x then s.1 else s.1 ++ [x], some x)) ([], none)).1
theorem cmpct_last (l : List (List Int)) (s : List (List Int) × Option (List Int)) : (l.foldl (fun (s : List (List Int) × Option (List Int)) x => (if s.2 = some x then s.1 else s.1 ++ [x], some x)) s).2 = (l.getLast?).or s.2 := by
  induction l generalizing s with
  | nil => simp
  | cons x l ih =>
    rw [List.foldl_cons, ih]
    cases l with
    | nil => simp
    | cons y l => simp [List.getLast?_cons_cons, List.getLast?_eq_some_getLast]
theorem cmpct_snoc (l : List (List Int)) (x : List Int) : cmpct (l ++ [x]) = if l.getLast? = some x then cmpct l else cmpct l ++ [x] := by
  unfold cmpct
  rw [List.foldl_append]
  simp only [List.foldl_cons, List.foldl_nil, cmpct_last, Option.or_none]
theorem cmpct_nil : cmpct [] = [] := rfl
theorem cmpct_mem (l : List (List Int)) (x : List Int) : x ∈ cmpct l ↔ x ∈ l := by
  induction l using snocInd with
  | nil => simp [cmpct_nil]
  | snoc l y ih =>
    rw [cmpct_snoc]
    split
    · rename_i h
      rw [ih]
      have : y ∈ l := List.mem_of_getLast? h
      constructor
      · intro hx; simp [hx]
      · intro hx
        rcases List.mem_append.1 hx with hx | hx
        · exact hx
        · simp at hx; subst hx; exact this
    · simp [ih]
theorem cmpct_asc {l : List (List Int)} (h : l.Pairwise fun a b => ¬ ltL b a) : Asc (cmpct l) := by
  induction l using snocInd with
  | nil => exact .nil
  | snoc l y ih =>
    obtain ⟨h1, _, h2⟩ := List.pairwise_append.1 h
    rw [cmpct_snoc]
    split
    · exact ih h1
    · rename_i hne
      refine List.pairwise_append.2 ⟨ih h1, by simp, fun a ha b hb => ?_⟩
      simp only [List.mem_singleton] at hb
      subst hb
      have hal := (cmpct_mem l a).1 ha
      rcases not_ltL (h2 a hal b (by simp)) with e | hlt
      · exfalso
        subst e
        -- a is the last one of l, for what stands behind it is not less, and a is not less than that
        obtain ⟨i, hi⟩ := List.mem_iff_getElem?.1 hal
        obtain ⟨hil, hia⟩ := List.getElem?_eq_some_iff.1 hi
        have hl0 : l ≠ [] := by intro h0; subst h0; simp at hal
        have hlast : l.getLast? = some (l[l.length - 1]'(by omega)) := by
          rw [List.getLast?_eq_getElem?, List.getElem?_eq_getElem]
        have hla : l[l.length - 1]'(by omega) = a := by
          by_cases hii : i = l.length - 1
          · subst hii; exact hia
          · have h3 := List.pairwise_iff_getElem.1 h1 i (l.length - 1) hil (by omega) (by omega)
            rw [hia] at h3
            have h4 := h2 (l[l.length - 1]'(by omega)) (List.getElem_mem _) a (by simp)
            rcases not_ltL h3 with e | e
            · exact e.symm ▸ rfl
            · exact absurd e h4
        rw [hla] at hlast
        exact hne hlast
      · exact hlt
theorem cmpct_len (l : List (List Int)) : (cmpct l).length ≤ l.length := by
  induction l using snocInd with
  | nil => simp [cmpct_nil]
  | snoc l y ih =>
    rw [cmpct_snoc]
    split <;> simp <;> omega
theorem cmpct_same {l : List (List Int)} (h : (cmpct l).length = l.length) : cmpct l = l := by
  induction l using snocInd with
  | nil => rfl
  | snoc l y ih =>
    rw [cmpct_snoc] at h ⊢
    have := cmpct_len l
    split at h
    · simp at h; omega
    · rename_i hne
      rw [if_neg hne, ih (by simpa using h)]

end Go.Proofs.YtkifkdkjljcclaaGreat

namespace Go.Proofs.YtkifkdkjljcclaaGreat
open Go.Sx Go.RowKit

theorem r_dr {P : Program} {R : Value → World → Prop} {w : World} {s : World → Prop} (h : s w.drew) : ((real P R).draw s : World → Prop) w := h

theorem run_eql_key (x y : Operand) {a b : List Int} (ha : a.length = 32) (hb : b.length = 32) (w : World) : (eqB .eql ty_impl_Key x y (.agg (u8s a).toArray) (.agg (u8s b).toArray)).run Tryz.prog w = .ok (.bool (decide (a = b))) w :=
  run_eql_u8 (n := 32) (e := ty_uint8) (by kernel_rfl) (by kernel_rfl) (by kernel_rfl) x y ha hb w
theorem run_neq_key (x y : Operand) {a b : List Int} (ha : a.length = 32) (hb : b.length = 32) (w : World) : (eqB .neq ty_impl_Key x y (.agg (u8s a).toArray) (.agg (u8s b).toArray)).run Tryz.prog w = .ok (.bool (!decide (a = b))) w :=
  run_neq_u8 (n := 32) (e := ty_uint8) (by kernel_rfl) (by kernel_rfl) (by kernel_rfl) x y ha hb w

theorem take_succ_get {α : Type} {l : List α} {i : Nat} {x : α} (h : l[i]? = some x) : l.take (i + 1) = l.take i ++ [x] := by rw [List.take_add_one, h]; rfl
theorem getLast_take {α : Type} {l : List α} {i : Nat} {x : α} (h : l[i]? = some x) : (l.take (i + 1)).getLast? = some x := by rw [take_succ_get h]; simp

theorem getLast_take' {α : Type} {l : List α} {i : Nat} {x : α} (h1 : 1 ≤ i) (h : l[i - 1]? = some x) : (l.take i).getLast? = some x := by
  have := getLast_take h
  rwa [Nat.sub_add_cancel h1] at this

theorem c_Compact {w0 w : World} {ls : List Blk} {s : Sl} {ks : List (List Int)} (hS : SlO w0 w ls ty_impl_Key 32 s (ks.flatMap u8s)) (hk : ∀ k ∈ ks, k.length = 32) (hn : s.n = ks.length) (hmax : ks.length ≤ 1073741824) :
    Calls Tryz.prog n_slices_Compact_sl_impl_Key_impl_Key [.slice s.a s.n s.c].toArray w fun e w' => ∃ v, e = .returned v ∧ ∃ r : Sl, v = .slice r.a r.n r.c ∧ SlO w0 w' ls ty_impl_Key 32 r ((cmpct ks).flatMap u8s) ∧ r.n = (cmpct ks).length := slices_Compact_sl_impl_Key_impl_Key_calls s (by
  unfold slices_Compact_sl_impl_Key_impl_Key
  have hz : ∀ k ∈ ks, (u8s k).length = 32 := fun k h => by simp [hk k h]
  refine r_if ((s.n : Int) < 2) rfl (fun hlt => ?_) (fun hge => ?_)
  · have : cmpct ks = ks := by
      match ks, hn with
      | [], _ => rfl
      | [a], _ => rfl
      | a :: b :: r, h => simp at h; omega
    refine r_retR ⟨s, rfl, by rw [this]; exact hS, by rw [this]; exact hn⟩
  refine r_loop (σ := Int) (fun i w' => ∃ k : Nat, i = k ∧ 1 ≤ k ∧ k ≤ ks.length ∧ cmpct (ks.take k) = ks.take k ∧ SlO w0 w' ls ty_impl_Key 32 s (ks.flatMap u8s)) (fun i _ => (s.n - i).toNat) 1 rfl ⟨1, rfl, by omega, by omega, by
    match ks, hn with
    | [], h => simp at h; omega
    | a :: r, _ => rfl, hS⟩ ?_
  rintro i w1 ⟨k, rfl, hk1, hkn, hpre, hS⟩
  refine r_any fun _ => ?_
  refine r_if ((k : Int) < (s.n : Int)) rfl (fun hlt => ?_) (fun hge => ?_)
  · refine r_dr ?_
    have hS := hS.trans (drew_below w1)
    have rd := hS.of hz (by omega)
    have hx : ks[k]? = some ks[k] := List.getElem?_eq_getElem (by omega)
    have hy : ks[k - 1]? = some ks[k - 1] := List.getElem?_eq_getElem (by omega)
    obtain ⟨p, hp, _⟩ := rd.cell hx
    have e1 : IntKind.wrap .i64 ((k : Int) - 1) = ((k - 1 : Nat) : Int) := by rw [w64 (by omega) (by omega)]; omega
    refine r_ix p hp (by omega) (by omega) ?_
    refine r_ldN (u8s ks[k]).toArray (by simp only [Int.toNat_natCast]; exact rd.agg hx hp) ?_
    rw [e1]
    refine r_ix p hp (by omega) (by omega) ?_
    refine r_ldN (u8s ks[k - 1]).toArray (by simp only [Int.toNat_natCast]; exact rd.agg hy hp) ?_
    refine r_pur _ (fun w' => run_eql_key _ _ (hk _ (List.getElem_mem _)) (hk _ (List.getElem_mem _)) w') ?_
    by_cases heq : ks[k] = ks[k - 1]
    · refine r_true (decide_eq_true heq) ?_
      refine r_slSuf k rfl rfl (by omega) (by have := hS.cap; omega) fun y hyn hyc hya => ?_
      have hya := hya (by omega)
      obtain ⟨L, hO, hA⟩ := hS.split
      refine r_loop (σ := Int × Int) (fun i w' => ∃ (kk k2 : Nat) (out tl : List (List Int)) (L : List Blk), i = ((kk : Int), (k2 : Int)) ∧ 1 ≤ k2 ∧ k + k2 ≤ ks.length ∧ out.length = kk ∧ kk ≤ k + k2 - 1 ∧ tl.length = ks.length - kk ∧ tl.drop (k + k2 - 1 - kk) = ks.drop (k + k2 - 1) ∧
        out = cmpct (ks.take (k + k2)) ∧ (∀ x ∈ out ++ tl, x.length = 32) ∧ OwnS ty_impl_Key 32 s ((out ++ tl).flatMap u8s) L ∧ At w0 w' (L ++ ls)) (fun i _ => (s.n - i.2).toNat) ((k : Int), 1) rfl
        ⟨k, 1, ks.take k, ks.drop k, L, rfl, by omega, by omega, by simp; omega, by omega, by simp, by simp, ?_, by simpa using hk, by simpa using hO, hA⟩ ?_
      · rw [take_succ_get hx, cmpct_snoc, if_pos, hpre]
        rw [getLast_take' hk1 hy, heq]
      rintro i w2 ⟨kk, k2, out, tl, L, rfl, h1, h2, hol, hkk, htl, hdrop, hout, hlen, hO, hA⟩
      refine r_any fun _ => ?_
      dsimp only
      have hzz : ∀ x ∈ out ++ tl, (u8s x).length = 32 := fun x hx => by simp [hlen x hx]
      refine r_if ((k2 : Int) < (y.n : Int)) rfl (fun hlt2 => ?_) (fun hge2 => ?_)
      · refine r_dr ?_
        have hA := hA.drew
        have rd := hO.of hA (List.sublist_append_left _ _) hzz (by omega)
        have hx2 : ks[k + k2]? = some ks[k + k2] := List.getElem?_eq_getElem (by omega)
        have hy2 : ks[k + k2 - 1]? = some ks[k + k2 - 1] := List.getElem?_eq_getElem (by omega)
        have hcur : ∀ j v, k + k2 - 1 ≤ j → ks[j]? = some v → (out ++ tl)[j]? = some v := fun j v hj hv => by
          rw [List.getElem?_append_right (by omega), hol]
          have := congrArg (·[j - (k + k2 - 1)]?) hdrop
          simp only [List.getElem?_drop] at this
          rw [show k + k2 - 1 - kk + (j - (k + k2 - 1)) = j - kk by omega, show k + k2 - 1 + (j - (k + k2 - 1)) = j by omega] at this
          rw [this, hv]
        have hya' : y.a = some (p.add (k * 32)) := by rw [hya, hp]; rfl
        have e2 : IntKind.wrap .i64 ((k2 : Int) - 1) = ((k2 - 1 : Nat) : Int) := by rw [w64 (by omega) (by omega)]; omega
        refine r_ix _ hya' (by omega) (by omega) ?_
        refine r_ldN (u8s ks[k + k2]).toArray (by
          rw [Go.Deep.add_add, show k * 32 + (k2 : Int).toNat * 32 = (k + k2) * 32 by rw [Int.toNat_natCast]; omega]
          exact rd.agg (hcur _ _ (by omega) hx2) hp) ?_
        rw [e2]
        refine r_ix _ hya' (by omega) (by omega) ?_
        refine r_ldN (u8s ks[k + k2 - 1]).toArray (by
          rw [Go.Deep.add_add, show k * 32 + ((k2 - 1 : Nat) : Int).toNat * 32 = (k + k2 - 1) * 32 by rw [Int.toNat_natCast]; omega]
          exact rd.agg (hcur _ _ (by omega) hy2) hp) ?_
        refine r_pur _ (fun w' => run_neq_key _ _ (hk _ (List.getElem_mem _)) (hk _ (List.getElem_mem _)) w') ?_
        have hsn : cmpct (ks.take (k + k2 + 1)) = if ks[k + k2 - 1] = ks[k + k2] then out else out ++ [ks[k + k2]] := by
          rw [take_succ_get hx2, cmpct_snoc, ← hout, getLast_take' (by omega) hy2]
          simp
        have htl2 : tl.drop (k + k2 - kk) = ks.drop (k + k2) := by
          have := congrArg (·.drop 1) hdrop
          simp only [List.drop_drop] at this
          rw [show k + k2 - 1 - kk + 1 = k + k2 - kk by omega, show k + k2 - 1 + 1 = k + k2 by omega] at this
          exact this
        by_cases hne : ks[k + k2] = ks[k + k2 - 1]
        · refine r_false (by simp [hne]) ?_
          refine ⟨((kk : Int), ((k2 + 1 : Nat) : Int)), by rw [w64 (by omega) (by omega)]; rfl, ⟨kk, k2 + 1, out, tl, L, rfl, by omega, by omega, hol, by omega, htl, by rw [show k + (k2 + 1) - 1 - kk = k + k2 - kk by omega, show k + (k2 + 1) - 1 = k + k2 by omega]; exact htl2, ?_, hlen, hO, hA⟩, by dsimp only; omega⟩
          rw [show k + (k2 + 1) = k + k2 + 1 by omega, hsn, if_pos hne.symm]
        · refine r_true (by simp [hne]) ?_
          refine r_ix _ hya' (by omega) (by omega) ?_
          refine r_ldN (u8s ks[k + k2]).toArray (by
            rw [Go.Deep.add_add, show k * 32 + (k2 : Int).toNat * 32 = (k + k2) * 32 by rw [Int.toNat_natCast]; omega]
            exact rd.agg (hcur _ _ (by omega) hx2) hp) ?_
          refine r_ix p hp (by omega) (by omega) ?_
          have hx32 : ks[k + k2].length = 32 := hk _ (List.getElem_mem _)
          have hol32 : (out.flatMap u8s).length = kk * 32 := by rw [flatMap_length (z := 32) (fun x hx => hzz x (by simp [hx])), hol]
          refine r_stO hA hO hp (kk * 32) (by simp) (by simp [Value.cells, hx32]) (by rw [flatMap_length hzz]; simp; omega) (by simpa [Value.cells] using u8s_one) fun w3 L3 hA3 hO3 => ?_
          refine ⟨(((kk + 1 : Nat) : Int), ((k2 + 1 : Nat) : Int)), by rw [w64 (by omega) (by omega), w64 (by omega) (by omega)]; rfl, ⟨kk + 1, k2 + 1, out ++ [ks[k + k2]], tl.drop 1, L3, rfl, by omega, by omega, by simp [hol], by omega, by simp; omega, ?_, ?_, ?_, ?_, hA3⟩, by dsimp only; omega⟩
          · rw [List.drop_drop, show 1 + (k + (k2 + 1) - 1 - (kk + 1)) = k + k2 - kk by omega, show k + (k2 + 1) - 1 = k + k2 by omega]
            exact htl2
          · rw [show k + (k2 + 1) = k + k2 + 1 by omega, hsn, if_neg (Ne.symm hne)]
          · intro x hx
            simp only [List.mem_append, List.mem_singleton] at hx
            rcases hx with (hx | hx) | hx
            · exact hlen x (by simp [hx])
            · subst hx; exact hx32
            · exact hlen x (by simp [List.mem_of_mem_drop hx])
          · have e3 : ((out ++ tl).flatMap u8s).take (kk * 32) = out.flatMap u8s := by rw [List.flatMap_append, ← hol32, List.take_left]
            have e4 : ((out ++ tl).flatMap u8s).drop (kk * 32 + 32) = (tl.drop 1).flatMap u8s := by
              rw [List.flatMap_append, ← hol32, List.drop_append]
              cases tl with
              | nil => simp
              | cons t tl =>
                have ht : (u8s t).length = 32 := hzz t (by simp)
                rw [List.flatMap_cons, List.drop_eq_nil_of_le (by omega), List.nil_append, Nat.add_sub_cancel_left, ← ht, List.drop_left]
                rfl
            rw [e3, e4] at hO3
            simpa [Value.cells, List.flatMap_append] using hO3
      · have hkk2 : k + k2 = ks.length := by omega
        rw [hkk2, List.take_of_length_le (Nat.le_refl _)] at hout
        have hcap := hO.cap
        refine r_slSuf kk rfl rfl (by omega) hcap fun y2 hy2n hy2c hy2a => ?_
        refine r_clearO T_sl_Key (by kernel_rfl) hA hO kk (by omega) (fun _ => hy2a (by omega)) fun v w3 L3 xs3 hA3 hO3 htk => ?_
        refine r_slPre kk rfl rfl (by omega) ?_
        have hO4 := hO3.shrink kk (by omega)
        have hol32 : (out.flatMap u8s).length = kk * 32 := by rw [flatMap_length (z := 32) (fun x hx => hzz x (by simp [hx])), hol]
        rw [htk, List.flatMap_append, ← hol32, List.take_left] at hO4
        refine r_retR ⟨⟨s.a, kk, s.c⟩, rfl, ?_, by rw [← hout, hol]⟩
        rw [← hout]
        exact hO4.slo hA3
    · refine r_false (decide_eq_false heq) ?_
      refine ⟨((k + 1 : Nat) : Int), by rw [w64 (by omega) (by omega)]; rfl, ⟨k + 1, rfl, by omega, by omega, ?_, hS⟩, by omega⟩
      rw [take_succ_get hx, cmpct_snoc, if_neg, hpre]
      rw [getLast_take' hk1 hy]
      intro hh
      exact heq (Option.some.inj hh).symm
  · have : k = ks.length := by omega
    subst this
    rw [List.take_of_length_le (Nat.le_refl _)] at hpre
    exact r_retR ⟨s, rfl, by rw [hpre]; exact hS, by rw [hpre]; exact hn⟩)

theorem c_sorted {w : World} {s : Sl} {ks : List (List Int)} (hs : KsR w s ks) (hmax : ks.length ≤ 1073741824) :
    Ret Tryz.prog n_impl_sorted [.slice s.a s.n s.c] w [.slice] (fun r w' => ∃ out : List (List Int), Asc out ∧ (∀ x, x ∈ out ↔ x ∈ ks) ∧ out.length ≤ ks.length ∧ (out.length = ks.length → ks.Nodup) ∧ SlO w w' [] ty_impl_Key 32 r (out.flatMap u8s) ∧ r.n = out.length) := impl_sorted_calls s (by
  unfold impl_sorted
  refine r_call (At.refl w) (c_CloneKeys hs hmax) fun r w1 h1 _ ⟨hr, hrn⟩ => ?_
  refine r_callR (c_SortKeys hr (fun k hk => (hs.ok k hk).1) hrn hmax) ?_
  rintro v w2 ⟨rfl, ks', hp, hsort, hS⟩
  refine ⟨(), rfl, ?_⟩
  have hlen := hp.length_eq
  refine r_callR (c_Compact hS (fun k hk => (hs.ok k (hp.mem_iff.1 hk)).1) (by omega) (by omega)) ?_
  rintro v w3 ⟨q, rfl, hq, hqn⟩
  refine ⟨q, rfl, ?_⟩
  refine r_ret hq.at_ q rfl ⟨cmpct ks', cmpct_asc hsort, fun x => (cmpct_mem ks' x).trans hp.mem_iff, by have := cmpct_len ks'; omega, fun hl => ?_, hq, hqn⟩
  have e := cmpct_same (l := ks') (by omega)
  have ha := cmpct_asc hsort
  rw [e] at ha
  exact hp.nodup_iff.1 ha.nodup)

end Go.Proofs.YtkifkdkjljcclaaGreat
