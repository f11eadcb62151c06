/- The program: a sorted list's keys each once; is it sorted; a key is found; blobs compared, copied; a store's keys, is it valid. The program: sorted keys, each once; whether keys are sorted; a key is found. The program: whether keys are sorted; a key is found; blobs compared, copied; a store's keys. The program: a store's keys, whether a store is valid, a store with its keys, what is found in it, a store in new memory, some of the blobs. The program: a store with its keys, what is found in it, a store in new memory, some of the blobs. The reference: blobs, keys, a store with its keys. The kinds of values of which laws speak: read, own. Stores, blobs, keys. What the walks of the exact laws need: groups of blocks pulled to the front and put back, sizes. Printed in part. -/
import Derived.Lib.SlicesS
import Derived.Test.YtaadgdbegpmlmaaGreatPkLUC13
import Derived.Test.YtaadgdbegpmlmaaGreatPkLUC05
namespace Go.Proofs.YtaadgdbegpmlmaaGreat
open Go.Sx Go.RowKit

theorem snocInd {α : Type} {motive : List α → Prop} (nil : motive []) (snoc : ∀ l x, motive l → motive (l ++ [x])) (l : List α) : motive l := by
  have h : ∀ r : List α, motive r.reverse := by
    intro r
    induction r with
    | nil => exact nil
    | cons x r ih => rw [List.reverse_cons]; exact snoc _ _ ih
  have := h l.reverse
  rwa [List.reverse_reverse] at this
def cmpct (l : List (List Int)) : List (List Int) := (l.foldl (fun (s : List (List Int) × Option (List Int)) x => (if s.2 = some x then s.1 else s.1 ++ [x], some x)) ([], none)).1
theorem cmpct_last (l : List (List Int)) (s : List (List Int) × Option (List Int)) : (l.foldl (fun (s : List (List Int) × Option (List Int)) x => (if s.2 = some x then s.1 else s.1 ++ [x], some x)) s).2 = (l.getLast?).or s.2 := by
  induction l generalizing s with
  | nil => simp
  | cons x l ih =>
    rw [List.foldl_cons, ih]
    cases l with
    | nil => simp
    | cons y l => simp [List.getLast?_cons_cons, List.getLast?_eq_some_getLast]
theorem cmpct_snoc (l : List (List Int)) (x : List Int) : cmpct (l ++ [x]) = if l.getLast? = some x then cmpct l else cmpct l ++ [x] := by
  unfold cmpct
  rw [List.foldl_append]
  simp only [List.foldl_cons, List.foldl_nil, cmpct_last, Option.or_none]
theorem cmpct_nil : cmpct [] = [] := rfl
theorem cmpct_mem (l : List (List Int)) (x : List Int) : x ∈ cmpct l ↔ x ∈ l := by
  induction l using snocInd with
  | nil => simp [cmpct_nil]
  | snoc l y ih =>
    rw [cmpct_snoc]
    split
    · rename_i h
      rw [ih]
      have : y ∈ l := List.mem_of_getLast? h
      constructor
      · intro hx; simp [hx]
      · intro hx
        rcases List.mem_append.1 hx with hx | hx
        · exact hx
        · simp at hx; subst hx; exact this
    · simp [ih]
theorem cmpct_asc {l : List (List Int)} (h : l.Pairwise fun a b => ¬ ltL b a) : Asc (cmpct l) := by
  induction l using snocInd with
  | nil => exact .nil
  | snoc l y ih =>
    obtain ⟨h1, _, h2⟩ := List.pairwise_append.1 h
    rw [cmpct_snoc]
    split
    · exact ih h1
    · rename_i hne
      refine List.pairwise_append.2 ⟨ih h1, by simp, fun a ha b hb => ?_⟩
      simp only [List.mem_singleton] at hb
      subst hb
      have hal := (cmpct_mem l a).1 ha
      rcases not_ltL (h2 a hal b (by simp)) with e | hlt
      · exfalso
        subst e
        -- a is the last one of l, for what stands behind it is not less, and a is not less than that
        obtain ⟨i, hi⟩ := List.mem_iff_getElem?.1 hal
        obtain ⟨hil, hia⟩ := List.getElem?_eq_some_iff.1 hi
        have hl0 : l ≠ [] := by intro h0; subst h0; simp at hal
        have hlast : l.getLast? = some (l[l.length - 1]'(by omega)) := by
          rw [List.getLast?_eq_getElem?, List.getElem?_eq_getElem]
        have hla : l[l.length - 1]'(by omega) = a := by
          by_cases hii : i = l.length - 1
          · subst hii; exact hia
          · have h3 := List.pairwise_iff_getElem.1 h1 i (l.length - 1) hil (by omega) (by omega)
            rw [hia] at h3
            have h4 := h2 (l[l.length - 1]'(by omega)) (List.getElem_mem _) a (by simp)
            rcases not_ltL h3 with e | e
            · exact e.symm ▸ rfl
            · exact absurd e h4
        rw [hla] at hlast
        exact hne hlast
      · exact hlt
theorem cmpct_len (l : List (List Int)) : (cmpct l).length ≤ l.length := by
  induction l using snocInd with
  | nil => simp [cmpct_nil]
  | snoc l y ih =>
    rw [cmpct_snoc]
    split <;> simp <;> omega
theorem cmpct_same {l : List (List Int)} (h : (cmpct l).length = l.length) : cmpct l = l := by
  induction l using snocInd with
  | nil => rfl
  | snoc l y ih =>
    rw [cmpct_snoc] at h ⊢
    have := cmpct_len l
    split at h
    · simp at h; omega
    · rename_i hne
      rw [if_neg hne, ih (by simpa using h)]

end Go.Proofs.YtaadgdbegpmlmaaGreat

namespace Go.Proofs.YtaadgdbegpmlmaaGreat
open Go.Sx Go.RowKit

theorem r_dr {P : Program} {R : Value → World → Prop} {w : World} {s : World → Prop} (h : s w.drew) : ((real P R).draw s : World → Prop) w := h

theorem run_eql_key (x y : Operand) {a b : List Int} (ha : a.length = 32) (hb : b.length = 32) (w : World) : (eqB .eql ty_impl_Key x y (.agg (u8s a).toArray) (.agg (u8s b).toArray)).run Tryz.prog w = .ok (.bool (decide (a = b))) w :=
  run_eql_u8 (n := 32) (e := ty_uint8) (by kernel_rfl) (by kernel_rfl) (by kernel_rfl) x y ha hb w
theorem run_neq_key (x y : Operand) {a b : List Int} (ha : a.length = 32) (hb : b.length = 32) (w : World) : (eqB .neq ty_impl_Key x y (.agg (u8s a).toArray) (.agg (u8s b).toArray)).run Tryz.prog w = .ok (.bool (!decide (a = b))) w :=
  run_neq_u8 (n := 32) (e := ty_uint8) (by kernel_rfl) (by kernel_rfl) (by kernel_rfl) x y ha hb w

theorem take_succ_get {α : Type} {l : List α} {i : Nat} {x : α} (h : l[i]? = some x) : l.take (i + 1) = l.take i ++ [x] := by rw [List.take_add_one, h]; rfl
theorem getLast_take {α : Type} {l : List α} {i : Nat} {x : α} (h : l[i]? = some x) : (l.take (i + 1)).getLast? = some x := by rw [take_succ_get h]; simp

theorem getLast_take' {α : Type} {l : List α} {i : Nat} {x : α} (h1 : 1 ≤ i) (h : l[i - 1]? = some x) : (l.take i).getLast? = some x := by
  have := getLast_take h
  rwa [Nat.sub_add_cancel h1] at this

theorem c_Compact {w0 w : World} {ls : List Blk} {s : Sl} {ks : List (List Int)} (hS : SlO w0 w ls ty_impl_Key 32 s (ks.flatMap u8s)) (hk : ∀ k ∈ ks, k.length = 32) (hn : s.n = ks.length) (hmax : ks.length ≤ 1073741824) :
    Calls Tryz.prog n_slices_Compact_sl_impl_Key_impl_Key [.slice s.a s.n s.c].toArray w fun e w' => ∃ v, e = .returned v ∧ ∃ r : Sl, v = .slice r.a r.n r.c ∧ SlO w0 w' ls ty_impl_Key 32 r ((cmpct ks).flatMap u8s) ∧ r.n = (cmpct ks).length := slices_Compact_sl_impl_Key_impl_Key_calls s (by
  unfold slices_Compact_sl_impl_Key_impl_Key
  have hz : ∀ k ∈ ks, (u8s k).length = 32 := fun k h => by simp [hk k h]
  refine r_if ((s.n : Int) < 2) rfl (fun hlt => ?_) (fun hge => ?_)
  · have : cmpct ks = ks := by
      match ks, hn with
      | [], _ => rfl
      | [a], _ => rfl
      | a :: b :: r, h => simp at h; omega
    refine r_retR ⟨s, rfl, by rw [this]; exact hS, by rw [this]; exact hn⟩
  refine r_loop (σ := Int) (fun i w' => ∃ k : Nat, i = k ∧ 1 ≤ k ∧ k ≤ ks.length ∧ cmpct (ks.take k) = ks.take k ∧ SlO w0 w' ls ty_impl_Key 32 s (ks.flatMap u8s)) (fun i _ => (s.n - i).toNat) 1 rfl ⟨1, rfl, by omega, by omega, by
    match ks, hn with
    | [], h => simp at h; omega
    | a :: r, _ => rfl, hS⟩ ?_
  rintro i w1 ⟨k, rfl, hk1, hkn, hpre, hS⟩
  refine r_any fun _ => ?_
  refine r_if ((k : Int) < (s.n : Int)) rfl (fun hlt => ?_) (fun hge => ?_)
  · refine r_dr ?_
    have hS := hS.trans (drew_below w1)
    have rd := hS.of hz (by omega)
    have hx : ks[k]? = some ks[k] := List.getElem?_eq_getElem (by omega)
    have hy : ks[k - 1]? = some ks[k - 1] := List.getElem?_eq_getElem (by omega)
    obtain ⟨p, hp, _⟩ := rd.cell hx
    have e1 : IntKind.wrap .i64 ((k : Int) - 1) = ((k - 1 : Nat) : Int) := by rw [w64 (by omega) (by omega)]; omega
    refine r_ix p hp (by omega) (by omega) ?_
    refine r_ldN (u8s ks[k]).toArray (by simp only [Int.toNat_natCast]; exact rd.agg hx hp) ?_
    rw [e1]
    refine r_ix p hp (by omega) (by omega) ?_
    refine r_ldN (u8s ks[k - 1]).toArray (by simp only [Int.toNat_natCast]; exact rd.agg hy hp) ?_
    refine r_pur _ (fun w' => run_eql_key _ _ (hk _ (List.getElem_mem _)) (hk _ (List.getElem_mem _)) w') ?_
    by_cases heq : ks[k] = ks[k - 1]
    · refine r_true (decide_eq_true heq) ?_
      refine r_slSuf k rfl rfl (by omega) (by have := hS.cap; omega) fun y hyn hyc hya => ?_
      have hya := hya (by omega)
      obtain ⟨L, hO, hA⟩ := hS.split
      refine r_loop (σ := Int × Int) (fun i w' => ∃ (kk k2 : Nat) (out tl : List (List Int)) (L : List Blk), i = ((kk : Int), (k2 : Int)) ∧ 1 ≤ k2 ∧ k + k2 ≤ ks.length ∧ out.length = kk ∧ kk ≤ k + k2 - 1 ∧ tl.length = ks.length - kk ∧ tl.drop (k + k2 - 1 - kk) = ks.drop (k + k2 - 1) ∧
        out = cmpct (ks.take (k + k2)) ∧ (∀ x ∈ out ++ tl, x.length = 32) ∧ OwnS ty_impl_Key 32 s ((out ++ tl).flatMap u8s) L ∧ At w0 w' (L ++ ls)) (fun i _ => (s.n - i.2).toNat) ((k : Int), 1) rfl
        ⟨k, 1, ks.take k, ks.drop k, L, rfl, by omega, by omega, by simp; omega, by omega, by simp, by simp, ?_, by simpa using hk, by simpa using hO, hA⟩ ?_
      · rw [take_succ_get hx, cmpct_snoc, if_pos, hpre]
        rw [getLast_take' hk1 hy, heq]
      rintro i w2 ⟨kk, k2, out, tl, L, rfl, h1, h2, hol, hkk, htl, hdrop, hout, hlen, hO, hA⟩
      refine r_any fun _ => ?_
      dsimp only
      have hzz : ∀ x ∈ out ++ tl, (u8s x).length = 32 := fun x hx => by simp [hlen x hx]
      refine r_if ((k2 : Int) < (y.n : Int)) rfl (fun hlt2 => ?_) (fun hge2 => ?_)
      · refine r_dr ?_
        have hA := hA.drew
        have rd := hO.of hA (List.sublist_append_left _ _) hzz (by omega)
        have hx2 : ks[k + k2]? = some ks[k + k2] := List.getElem?_eq_getElem (by omega)
        have hy2 : ks[k + k2 - 1]? = some ks[k + k2 - 1] := List.getElem?_eq_getElem (by omega)
        have hcur : ∀ j v, k + k2 - 1 ≤ j → ks[j]? = some v → (out ++ tl)[j]? = some v := fun j v hj hv => by
          rw [List.getElem?_append_right (by omega), hol]
          have := congrArg (·[j - (k + k2 - 1)]?) hdrop
          simp only [List.getElem?_drop] at this
          rw [show k + k2 - 1 - kk + (j - (k + k2 - 1)) = j - kk by omega, show k + k2 - 1 + (j - (k + k2 - 1)) = j by omega] at this
          rw [this, hv]
        have hya' : y.a = some (p.add (k * 32)) := by rw [hya, hp]; rfl
        have e2 : IntKind.wrap .i64 ((k2 : Int) - 1) = ((k2 - 1 : Nat) : Int) := by rw [w64 (by omega) (by omega)]; omega
        refine r_ix _ hya' (by omega) (by omega) ?_
        refine r_ldN (u8s ks[k + k2]).toArray (by
          rw [Go.Deep.add_add, show k * 32 + (k2 : Int).toNat * 32 = (k + k2) * 32 by rw [Int.toNat_natCast]; omega]
          exact rd.agg (hcur _ _ (by omega) hx2) hp) ?_
        rw [e2]
        refine r_ix _ hya' (by omega) (by omega) ?_
        refine r_ldN (u8s ks[k + k2 - 1]).toArray (by
          rw [Go.Deep.add_add, show k * 32 + ((k2 - 1 : Nat) : Int).toNat * 32 = (k + k2 - 1) * 32 by rw [Int.toNat_natCast]; omega]
          exact rd.agg (hcur _ _ (by omega) hy2) hp) ?_
        refine r_pur _ (fun w' => run_neq_key _ _ (hk _ (List.getElem_mem _)) (hk _ (List.getElem_mem _)) w') ?_
        have hsn : cmpct (ks.take (k + k2 + 1)) = if ks[k + k2 - 1] = ks[k + k2] then out else out ++ [ks[k + k2]] := by
          rw [take_succ_get hx2, cmpct_snoc, ← hout, getLast_take' (by omega) hy2]
          simp
        have htl2 : tl.drop (k + k2 - kk) = ks.drop (k + k2) := by
          have := congrArg (·.drop 1) hdrop
          simp only [List.drop_drop] at this
          rw [show k + k2 - 1 - kk + 1 = k + k2 - kk by omega, show k + k2 - 1 + 1 = k + k2 by omega] at this
          exact this
        by_cases hne : ks[k + k2] = ks[k + k2 - 1]
        · refine r_false (by simp [hne]) ?_
          refine ⟨((kk : Int), ((k2 + 1 : Nat) : Int)), by rw [w64 (by omega) (by omega)]; rfl, ⟨kk, k2 + 1, out, tl, L, rfl, by omega, by omega, hol, by omega, htl, by rw [show k + (k2 + 1) - 1 - kk = k + k2 - kk by omega, show k + (k2 + 1) - 1 = k + k2 by omega]; exact htl2, ?_, hlen, hO, hA⟩, by dsimp only; omega⟩
          rw [show k + (k2 + 1) = k + k2 + 1 by omega, hsn, if_pos hne.symm]
        · refine r_true (by simp [hne]) ?_
          refine r_ix _ hya' (by omega) (by omega) ?_
          refine r_ldN (u8s ks[k + k2]).toArray (by
            rw [Go.Deep.add_add, show k * 32 + (k2 : Int).toNat * 32 = (k + k2) * 32 by rw [Int.toNat_natCast]; omega]
            exact rd.agg (hcur _ _ (by omega) hx2) hp) ?_
          refine r_ix p hp (by omega) (by omega) ?_
          have hx32 : ks[k + k2].length = 32 := hk _ (List.getElem_mem _)
          have hol32 : (out.flatMap u8s).length = kk * 32 := by rw [flatMap_length (z := 32) (fun x hx => hzz x (by simp [hx])), hol]
          refine r_stO hA hO hp (kk * 32) (by simp) (by simp [Value.cells, hx32]) (by rw [flatMap_length hzz]; simp; omega) (by simpa [Value.cells] using u8s_one) fun w3 L3 hA3 hO3 => ?_
          refine ⟨(((kk + 1 : Nat) : Int), ((k2 + 1 : Nat) : Int)), by rw [w64 (by omega) (by omega), w64 (by omega) (by omega)]; rfl, ⟨kk + 1, k2 + 1, out ++ [ks[k + k2]], tl.drop 1, L3, rfl, by omega, by omega, by simp [hol], by omega, by simp; omega, ?_, ?_, ?_, ?_, hA3⟩, by dsimp only; omega⟩
          · rw [List.drop_drop, show 1 + (k + (k2 + 1) - 1 - (kk + 1)) = k + k2 - kk by omega, show k + (k2 + 1) - 1 = k + k2 by omega]
            exact htl2
          · rw [show k + (k2 + 1) = k + k2 + 1 by omega, hsn, if_neg (Ne.symm hne)]
          · intro x hx
            simp only [List.mem_append, List.mem_singleton] at hx
            rcases hx with (hx | hx) | hx
            · exact hlen x (by simp [hx])
            · subst hx; exact hx32
            · exact hlen x (by simp [List.mem_of_mem_drop hx])
          · have e3 : ((out ++ tl).flatMap u8s).take (kk * 32) = out.flatMap u8s := by rw [List.flatMap_append, ← hol32, List.take_left]
            have e4 : ((out ++ tl).flatMap u8s).drop (kk * 32 + 32) = (tl.drop 1).flatMap u8s := by
              rw [List.flatMap_append, ← hol32, List.drop_append]
              cases tl with
              | nil => simp
              | cons t tl =>
                have ht : (u8s t).length = 32 := hzz t (by simp)
                rw [List.flatMap_cons, List.drop_eq_nil_of_le (by omega), List.nil_append, Nat.add_sub_cancel_left, ← ht, List.drop_left]
                rfl
            rw [e3, e4] at hO3
            simpa [Value.cells, List.flatMap_append] using hO3
      · have hkk2 : k + k2 = ks.length := by omega
        rw [hkk2, List.take_of_length_le (Nat.le_refl _)] at hout
        have hcap := hO.cap
        refine r_slSuf kk rfl rfl (by omega) hcap fun y2 hy2n hy2c hy2a => ?_
        refine r_clearO T_sl_Key (by kernel_rfl) hA hO kk (by omega) (fun _ => hy2a (by omega)) fun v w3 L3 xs3 hA3 hO3 htk => ?_
        refine r_slPre kk rfl rfl (by omega) ?_
        have hO4 := hO3.shrink kk (by omega)
        have hol32 : (out.flatMap u8s).length = kk * 32 := by rw [flatMap_length (z := 32) (fun x hx => hzz x (by simp [hx])), hol]
        rw [htk, List.flatMap_append, ← hol32, List.take_left] at hO4
        refine r_retR ⟨⟨s.a, kk, s.c⟩, rfl, ?_, by rw [← hout, hol]⟩
        rw [← hout]
        exact hO4.slo hA3
    · refine r_false (decide_eq_false heq) ?_
      refine ⟨((k + 1 : Nat) : Int), by rw [w64 (by omega) (by omega)]; rfl, ⟨k + 1, rfl, by omega, by omega, ?_, hS⟩, by omega⟩
      rw [take_succ_get hx, cmpct_snoc, if_neg, hpre]
      rw [getLast_take' hk1 hy]
      intro hh
      exact heq (Option.some.inj hh).symm
  · have : k = ks.length := by omega
    subst this
    rw [List.take_of_length_le (Nat.le_refl _)] at hpre
    exact r_retR ⟨s, rfl, by rw [hpre]; exact hS, by rw [hpre]; exact hn⟩)

theorem c_sorted {w : World} {s : Sl} {ks : List (List Int)} (hs : KsR w s ks) (hmax : ks.length ≤ 1073741824) :
    Ret Tryz.prog n_impl_sorted [.slice s.a s.n s.c] w [.slice] (fun r w' => ∃ out : List (List Int), Asc out ∧ (∀ x, x ∈ out ↔ x ∈ ks) ∧ out.length ≤ ks.length ∧ (out.length = ks.length → ks.Nodup) ∧ SlO w w' [] ty_impl_Key 32 r (out.flatMap u8s) ∧ r.n = out.length) := impl_sorted_calls s (by
  unfold impl_sorted
  refine r_call (At.refl w) (c_CloneKeys hs hmax) fun r w1 h1 _ ⟨hr, hrn⟩ => ?_
  refine r_callR (c_SortKeys hr (fun k hk => (hs.ok k hk).1) hrn hmax) ?_
  rintro v w2 ⟨rfl, ks', hp, hsort, hS⟩
  refine ⟨(), rfl, ?_⟩
  have hlen := hp.length_eq
  refine r_callR (c_Compact hS (fun k hk => (hs.ok k (hp.mem_iff.1 hk)).1) (by omega) (by omega)) ?_
  rintro v w3 ⟨q, rfl, hq, hqn⟩
  refine ⟨q, rfl, ?_⟩
  refine r_ret hq.at_ q rfl ⟨cmpct ks', cmpct_asc hsort, fun x => (cmpct_mem ks' x).trans hp.mem_iff, by have := cmpct_len ks'; omega, fun hl => ?_, hq, hqn⟩
  have e := cmpct_same (l := ks') (by omega)
  have ha := cmpct_asc hsort
  rw [e] at ha
  exact hp.nodup_iff.1 ha.nodup)

end Go.Proofs.YtaadgdbegpmlmaaGreat

namespace Go.Proofs.YtaadgdbegpmlmaaGreat
open Go.Sx Go.RowKit

def PB.key (b : PB) : List Int := hashL b.tag b.data
theorem PB.key_ok (b : PB) : keyOk b.key := ⟨hashL_len _ _, hashL_ok _ _⟩

end Go.Proofs.YtaadgdbegpmlmaaGreat

namespace Go.Proofs.YtaadgdbegpmlmaaGreat
open Go.Sx Go.RowKit

def keysOf (B : List PB) : List (List Int) := B.map PB.key
def validS (B : List PB) : Prop := B.length ≤ 128 ∧ (∀ b ∈ B, b.data.length ≤ 1024) ∧ Asc (keysOf B)
instance (B : List PB) : Decidable (validS B) := inferInstanceAs (Decidable (_ ∧ _ ∧ List.Pairwise _ _))
theorem keysOf_len (B : List PB) : (keysOf B).length = B.length := by simp [keysOf]

end Go.Proofs.YtaadgdbegpmlmaaGreat

namespace Go.Proofs.YtaadgdbegpmlmaaGreat
open Go.Sx Go.RowKit

structure ShopR (w : World) (p : Addr) (ks : List (List Int)) (bs : List BR) : Prop where
  ex : ∃ sk sb, (∀ n, ldOk w n (p.add 0) .slice sk) ∧ (∀ n, ldOk w n (p.add 1) .slice sb) ∧ KsR w sk ks ∧ BsR w sb bs
theorem ShopR.below {w w' : World} {p : Addr} {ks : List (List Int)} {bs : List BR} (h : ShopR w p ks bs) (hb : Below w.heap.size w w') : ShopR w' p ks bs :=
  let ⟨sk, sb, h1, h2, h3, h4⟩ := h.ex
  ⟨sk, sb, fun n => ldOk_below hb (h1 n), fun n => ldOk_below hb (h2 n), h3.below hb, h4.below hb⟩
theorem ShopR.at {w w' : World} {ls : List Blk} {p : Addr} {ks : List (List Int)} {bs : List BR} (h : ShopR w p ks bs) (hA : At w w' ls) : ShopR w' p ks bs := h.below hA.below

def ShopO (b : Nat) (ks : List (List Int)) (bs : List BR) (L : List Blk) : Prop := ∃ sk sb Lk Lb, L = (b, #[.slice sk.a sk.n sk.c, .slice sb.a sb.n sb.c], ty_impl_shop) :: (Lk ++ Lb) ∧ OwnS ty_impl_Key 32 sk (ks.flatMap u8s) Lk ∧ OwnS ty_impl_Blob 2 sb (bs.flatMap BR.cells) Lb
theorem ShopO.rd {w0 w : World} {b : Nat} {ks : List (List Int)} {bs : List BR} {L ls : List Blk} (h : ShopO b ks bs L) (hA : At w0 w (L ++ ls)) (hk : ∀ k ∈ ks, keyOk k) (hb : ∀ b ∈ bs, b.Ok w) : ShopR w ⟨b, 0, none⟩ ks bs := by
  obtain ⟨sk, sb, Lk, Lb, rfl, h1, h2⟩ := h
  refine ⟨sk, sb, fun n => ldOk_own hA 0 rfl 0 rfl (by simp [Sh.emb]), fun n => ldOk_own hA 0 rfl 1 rfl (by simp [Sh.emb]), ownS_ks h1 hA ?_ hk, ⟨h2.of hA ?_ (fun b _ => cells_len b) (by omega), hb⟩⟩
  · exact ((List.sublist_append_left _ _).trans (List.sublist_cons_self _ _)).trans (List.sublist_append_left _ _)
  · exact ((List.sublist_append_right _ _).trans (List.sublist_cons_self _ _)).trans (List.sublist_append_left _ _)

end Go.Proofs.YtaadgdbegpmlmaaGreat

namespace Go.Proofs.YtaadgdbegpmlmaaGreat
open Go.Sx Go.RowKit

structure BAt (w : World) (p : Addr) (b : BR) : Prop where
  tag : ∀ n, ldOk w n (p.add 0) (.int .u8) b.tag
  d : ∀ n, ldOk w n (p.add 1) .slice b.d
  ok : b.Ok w
theorem BAt.below {w w' : World} {p : Addr} {b : BR} (h : BAt w p b) (hb : Below w.heap.size w w') : BAt w' p b := ⟨fun n => ldOk_below hb (h.tag n), fun n => ldOk_below hb (h.d n), h.ok.below hb⟩
theorem c_l01Compare {a b : List Int} (ha : a.length = 32) (hb : b.length = 32) (w : World) : Ret Tryz.prog n_spec_l01Compare [.agg (u8s a).toArray, .agg (u8s b).toArray] w [.int .i64] (fun r _ => r = cmpL a b) := spec_l01Compare_calls _ _ (by
  unfold spec_l01Compare
  refine r_new (At.refl w) fun b2 w1 h => ?_
  refine r_new h fun b3 w2 h => ?_
  refine r_loop (σ := Int) (fun i w' => ∃ j : Nat, i = j ∧ j ≤ 32 ∧ cmpL a b = cmpL (a.drop j) (b.drop j) ∧ At w w' [(b3, (u8s b).toArray, ty_impl_Key), (b2, (u8s a).toArray, ty_impl_Key)]) (fun i _ => (32 - i).toNat) 0 rfl ⟨0, rfl, by omega, by simp, h⟩ ?_
  rintro i w3 ⟨j, rfl, hj, he, h⟩
  refine r_any fun _ => ?_
  refine r_if ((j : Int) < 32) rfl (fun hlt => ?_) (fun hge => ?_)
  · refine r_draw h fun w4 h => ?_
    rw [cmpL_drop (by omega) (by omega)] at he
    refine r_ix ⟨b2, 0, none⟩ rfl (by omega) (by omega) ?_
    refine r_ld h 1 rfl (add_lit _ _ _) (a.getD j 0) (by simp [Sh.emb]) (by simp only [Int.toNat_natCast, Nat.zero_add, Nat.mul_one]; exact u8s_arr (by omega)) ?_
    refine r_ix ⟨b3, 0, none⟩ rfl (by omega) (by omega) ?_
    refine r_ld h 0 rfl (add_lit _ _ _) (b.getD j 0) (by simp [Sh.emb]) (by simp only [Int.toNat_natCast, Nat.zero_add, Nat.mul_one]; exact u8s_arr (by omega)) ?_
    refine r_ne (fun hne => ?_) (fun heq => ?_)
    · refine r_draw h fun w5 h => ?_
      refine r_ix ⟨b2, 0, none⟩ rfl (by omega) (by omega) ?_
      refine r_ld h 1 rfl (add_lit _ _ _) (a.getD j 0) (by simp [Sh.emb]) (by simp only [Int.toNat_natCast, Nat.zero_add, Nat.mul_one]; exact u8s_arr (by omega)) ?_
      refine r_ix ⟨b3, 0, none⟩ rfl (by omega) (by omega) ?_
      refine r_ld h 0 rfl (add_lit _ _ _) (b.getD j 0) (by simp [Sh.emb]) (by simp only [Int.toNat_natCast, Nat.zero_add, Nat.mul_one]; exact u8s_arr (by omega)) ?_
      refine r_if (a.getD j 0 < b.getD j 0) rfl (fun hl => ?_) (fun hl => ?_)
      · rw [if_pos hl] at he
        exact r_ret h.nil (-1 : Int) rfl he.symm
      · rw [if_neg hl, if_pos (by omega)] at he
        exact r_ret h.nil (1 : Int) rfl he.symm
    · rw [heq, if_neg (by omega), if_neg (by omega)] at he
      exact ⟨((j + 1 : Nat) : Int), by rw [w64 (by omega) (by omega)]; rfl, ⟨j + 1, rfl, by omega, he, h⟩, by omega⟩
  · rw [List.drop_eq_nil_of_le (by omega), List.drop_eq_nil_of_le (by omega)] at he
    exact r_ret h.nil (0 : Int) rfl he.symm)

structure SpecR (w : World) (p : Addr) (ks : List (List Int)) (bs : List BR) : Prop where
  ex : ∃ sk sb, (∀ n, ldOk w n (p.add 1) .slice sk) ∧ (∀ n, ldOk w n (p.add 0) .slice sb) ∧ KsR w sk ks ∧ BsR w sb bs
theorem SpecR.below {w w' : World} {p : Addr} {ks : List (List Int)} {bs : List BR} (h : SpecR w p ks bs) (hb : Below w.heap.size w w') : SpecR w' p ks bs :=
  let ⟨sk, sb, h1, h2, h3, h4⟩ := h.ex
  ⟨sk, sb, fun n => ldOk_below hb (h1 n), fun n => ldOk_below hb (h2 n), h3.below hb, h4.below hb⟩
theorem SpecR.at {w w' : World} {ls : List Blk} {p : Addr} {ks : List (List Int)} {bs : List BR} (h : SpecR w p ks bs) (hA : At w w' ls) : SpecR w' p ks bs := h.below hA.below
def SpecO (b : Nat) (ks : List (List Int)) (bs : List BR) (L : List Blk) : Prop := ∃ sk sb Lk Lb, L = [(b, #[.slice sb.a sb.n sb.c, .slice sk.a sk.n sk.c], ty_spec_l05Store)] ++ (Lb ++ Lk) ∧ OwnS ty_impl_Key 32 sk (ks.flatMap u8s) Lk ∧ OwnS ty_impl_Blob 2 sb (bs.flatMap BR.cells) Lb
theorem SpecO.rd {w0 w : World} {b : Nat} {ks : List (List Int)} {bs : List BR} {L ls : List Blk} (h : SpecO b ks bs L) (hA : At w0 w (L ++ ls)) (hk : ∀ k ∈ ks, keyOk k) (hb : ∀ b ∈ bs, b.Ok w) : SpecR w ⟨b, 0, none⟩ ks bs := by
  obtain ⟨sk, sb, Lk, Lb, rfl, h1, h2⟩ := h
  refine ⟨sk, sb, fun n => ldOk_own hA 0 rfl 1 rfl (by simp [Sh.emb]), fun n => ldOk_own hA 0 rfl 0 rfl (by simp [Sh.emb]), ownS_ks h1 hA ?_ hk, ⟨h2.of hA ?_ (fun b _ => cells_len b) (by omega), hb⟩⟩
  · exact ((List.sublist_append_right _ _).trans (List.sublist_append_right _ _)).trans (List.sublist_append_left _ _)
  · exact ((List.sublist_append_left _ _).trans (List.sublist_append_right _ _)).trans (List.sublist_append_left _ _)

end Go.Proofs.YtaadgdbegpmlmaaGreat

namespace Go.Proofs.YtaadgdbegpmlmaaGreat
open Go.Sx Go.RowKit

theorem c_toKey {a : List Int} (ha : a.length = 32) (w : World) : Ret Tryz.prog n_laws_toKey [.agg (u8s a).toArray] w [.agg] (fun cs _ => cs = (u8s a).toArray) := laws_toKey_calls _ (by
  unfold laws_toKey
  refine r_new (At.refl w) fun b1 w1 h => ?_
  refine r_new h fun b2 w2 h => ?_
  refine r_new h fun b3 w3 h => ?_
  obtain ⟨B, hB⟩ : ∃ B, B = List.replicate 32 (Value.int .u8 0) := ⟨_, rfl⟩
  have hB8 : B.length = 32 := by rw [hB, List.length_replicate]
  have hBA : B.toArray = Array.replicate 32 (Value.int .u8 0) := by rw [hB]; rfl
  have hlen : (u8s a).length = B.length := by rw [u8s_len, ha, hB8]
  refine r_loop (σ := Int) (fun i w' => ∃ j : Nat, i = j ∧ j ≤ 32 ∧ At w w' [(b3, mix (u8s a) B j, ty_impl_Key), (b2, Array.replicate 32 (.int .u8 0), ty_impl_Key), (b1, (u8s a).toArray, ty_arr32_uint8)]) (fun i _ => (32 - i).toNat) 0 rfl
    ⟨0, rfl, by omega, by rw [mix_zero, hBA]; exact h⟩ ?_
  rintro i w8 ⟨j, rfl, hj, h⟩
  refine r_any fun _ => ?_
  refine r_if ((j : Int) < 32) rfl (fun hlt => ?_) (fun hge => ?_)
  · refine r_ix ⟨b1, 0, none⟩ rfl (by omega) (by omega) ?_
    refine r_ld h 2 rfl (add_lit _ _ _) (a.getD j 0) (by simp [Sh.emb]) (by simp only [Int.toNat_natCast, Nat.zero_add, Nat.mul_one]; exact u8s_arr (by omega)) ?_
    refine r_ix ⟨b3, 0, none⟩ rfl (by omega) (by omega) ?_
    refine r_st h 0 rfl (add_lit _ _ _) (by rw [mix_size hlen (by simp; omega)]; simp only [Int.toNat_natCast, u8s_len]; omega) rfl fun w9 h => ?_
    refine ⟨((j + 1 : Nat) : Int), by rw [w64 (by omega) (by omega)]; rfl, ⟨j + 1, rfl, by omega, ?_⟩, by omega⟩
    have hset := mix_set (A := u8s a) (B := B) hlen (k := j) (v := .int .u8 (a.getD j 0)) (u8s_get (by omega))
    rw [← hset]
    simp only [Int.toNat_natCast, Nat.zero_add, Nat.mul_one, List.set_cons_zero] at h
    exact h
  · have : j = 32 := by omega
    subst this
    have e8 : mix (u8s a) B 32 = (u8s a).toArray := by
      have := mix_all (A := u8s a) (B := B) (by omega)
      rwa [u8s_len, ha] at this
    rw [e8] at h
    refine r_ldA h 0 rfl rfl (by simp [ha]) ?_
    refine r_stA h 1 rfl rfl (by simp [ha]) (by simp) (by simpa using u8s_one) fun w6 h => ?_
    refine r_ldA h 1 rfl rfl (by simp [ha]) ?_
    exact r_ret h _ rfl rfl)

def RdKey (_ : World) (r : Array Value) (k : List Int) : Prop := r = (u8s k).toArray ∧ keyOk k
theorem RdKey.below {w w' : World} {r : Array Value} {k : List Int} (h : RdKey w r k) (_ : Below w.heap.size w w') : RdKey w' r k := h
theorem RdKey.at {w w' : World} {ls : List Blk} {r : Array Value} {k : List Int} (h : RdKey w r k) (_ : At w w' ls) : RdKey w' r k := h
def OwnKey (r : Array Value) (k : List Int) (L : List Blk) : Prop := r = (u8s k).toArray ∧ keyOk k ∧ L = []
theorem OwnKey.rd {w0 w : World} {r : Array Value} {k : List Int} {L ls : List Blk} (h : OwnKey r k L) (_ : At w0 w (L ++ ls)) : RdKey w r k := ⟨h.1, h.2.1⟩
theorem c_toKeyV {w : World} {r : Array Value} {k : List Int} (h : RdKey w r k) : Ret Tryz.prog n_laws_toKey [.agg r] w [.agg] (fun r' w' => ∃ L, At w w' L ∧ OwnKey r' k L) := by
  obtain ⟨rfl, hk⟩ := h
  refine (c_toKey hk.1 w).mono fun x w' hb hx => ⟨[], ⟨hb, by simp, by simp, by simp⟩, hx, hk, rfl⟩

def RdStore (w : World) (r : Array Value) (B : List PB) : Prop := ∃ (s : Sl) (bs : List BR), r = #[.slice s.a s.n s.c] ∧ bs.map BR.pb = B ∧ BsR w s bs
theorem RdStore.below {w w' : World} {r : Array Value} {B : List PB} (h : RdStore w r B) (hb : Below w.heap.size w w') : RdStore w' r B := let ⟨s, bs, h1, h2, h3⟩ := h; ⟨s, bs, h1, h2, h3.below hb⟩
theorem RdStore.at {w w' : World} {ls : List Blk} {r : Array Value} {B : List PB} (h : RdStore w r B) (hA : At w w' ls) : RdStore w' r B := h.below hA.below
def OwnStore (r : Array Value) (B : List PB) (L : List Blk) : Prop := ∃ (s : Sl) (bs : List BR), r = #[.slice s.a s.n s.c] ∧ bs.map BR.pb = B ∧ OwnBs s bs L ∧ ∀ b ∈ B, b.ok
theorem OwnStore.rd {w0 w : World} {r : Array Value} {B : List PB} {L ls : List Blk} (h : OwnStore r B L) (hA : At w0 w (L ++ ls)) : RdStore w r B := by
  obtain ⟨s, bs, h1, h2, h3, h4⟩ := h
  exact ⟨s, bs, h1, h2, h3.rd hA (by rw [h2]; exact h4)⟩
theorem OwnStore.nil : OwnStore #[.slice none 0 0] [] [] := ⟨⟨none, 0, 0⟩, [], rfl, rfl, ⟨[], [], rfl, OwnS.nil _ _, .nil⟩, by simp⟩
theorem RdStore.ok {w : World} {r : Array Value} {B : List PB} (h : RdStore w r B) : ∀ b ∈ B, b.ok := by
  obtain ⟨s, bs, _, rfl, h3⟩ := h
  exact h3.pbs
def RawStore (w : World) (r : Array Value) (B : List PB) : Prop := ∃ (s : Sl) (bs : List BR), r = #[.slice s.a s.n s.c] ∧ bs.map BR.pb = B ∧ BsR w s bs ∧ s.c ≤ maxLen ∧ ∀ b ∈ bs, b.d.c ≤ maxLen
theorem RawStore.rd {w : World} {r : Array Value} {B : List PB} (h : RawStore w r B) : RdStore w r B := let ⟨s, bs, h1, h2, h3, _⟩ := h; ⟨s, bs, h1, h2, h3⟩

def RdBlob (w : World) (r : Array Value) (B : PB) : Prop := ∃ b : BR, r = b.cells.toArray ∧ b.pb = B ∧ b.Ok w
theorem RdBlob.below {w w' : World} {r : Array Value} {B : PB} (h : RdBlob w r B) (hb : Below w.heap.size w w') : RdBlob w' r B := let ⟨b, h1, h2, h3⟩ := h; ⟨b, h1, h2, h3.below hb⟩
theorem RdBlob.at {w w' : World} {ls : List Blk} {r : Array Value} {B : PB} (h : RdBlob w r B) (hA : At w w' ls) : RdBlob w' r B := h.below hA.below
def OwnBlob (r : Array Value) (B : PB) (L : List Blk) : Prop := ∃ b : BR, r = b.cells.toArray ∧ b.pb = B ∧ OwnS ty_uint8 1 b.d (u8s b.data) L ∧ B.ok
theorem OwnBlob.rd {w0 w : World} {r : Array Value} {B : PB} {L ls : List Blk} (h : OwnBlob r B L) (hA : At w0 w (L ++ ls)) : RdBlob w r B := by
  obtain ⟨b, h1, rfl, h3, h4⟩ := h
  exact ⟨b, h1, rfl, ownS_bytes h3 hA (List.sublist_append_left _ _) h4.1, h4.2.1, h4.2.2⟩
theorem OwnBlob.nil : OwnBlob #[.int .u8 0, .slice none 0 0] ⟨0, []⟩ [] := ⟨⟨0, ⟨none, 0, 0⟩, []⟩, rfl, rfl, OwnS.nil _ _, (fun b hb => absurd hb (by simp)), by decide, by decide⟩
end Go.Proofs.YtaadgdbegpmlmaaGreat

namespace Go.Sx
open Go.RowKit (Below)
variable {P : Program} {R : Value → World → Prop} {w0 w : World}

theorem r_joinI {σ : Type} {emb : σ → List Value} {rest : σ → World → Prop} {body : (List Value → World → Prop) → World → Prop} (hb : body (fun vs w' => ∃ s', emb s' = vs ∧ rest s' w') w) : ((real P R).join σ emb rest body : World → Prop) w := ⟨rest, fun _ _ h => h, hb⟩
theorem At.pl1 {V G1 X : List Blk} (h : At w0 w (V ++ (G1 ++ X))) : At w0 w (G1 ++ (V ++ X)) := h.rot
theorem At.ps1 {V G1 X : List Blk} (h : At w0 w (G1 ++ (V ++ X))) : At w0 w (V ++ (G1 ++ X)) := h.rot
theorem At.dr1 {V G1 X : List Blk} (h : At w0 w (V ++ (G1 ++ X))) : At w0 w (V ++ X) := h.pl1.right
theorem At.pl2 {V G1 G2 X : List Blk} (h : At w0 w (V ++ (G1 ++ (G2 ++ X)))) : At w0 w (G2 ++ (V ++ (G1 ++ X))) := by
  rw [← List.append_assoc V G1] at h
  have h := At.pl1 h
  rwa [List.append_assoc V G1] at h
theorem At.ps2 {V G1 G2 X : List Blk} (h : At w0 w (G2 ++ (V ++ (G1 ++ X)))) : At w0 w (V ++ (G1 ++ (G2 ++ X))) := by
  rw [← List.append_assoc V G1] at h
  have h := At.ps1 h
  rwa [List.append_assoc V G1] at h
theorem At.dr2 {V G1 G2 X : List Blk} (h : At w0 w (V ++ (G1 ++ (G2 ++ X)))) : At w0 w (V ++ (G1 ++ X)) := h.pl2.right
theorem At.pl3 {V G1 G2 G3 X : List Blk} (h : At w0 w (V ++ (G1 ++ (G2 ++ (G3 ++ X))))) : At w0 w (G3 ++ (V ++ (G1 ++ (G2 ++ X)))) := by
  rw [← List.append_assoc V G1] at h
  have h := At.pl2 h
  rwa [List.append_assoc V G1] at h
theorem At.ps3 {V G1 G2 G3 X : List Blk} (h : At w0 w (G3 ++ (V ++ (G1 ++ (G2 ++ X))))) : At w0 w (V ++ (G1 ++ (G2 ++ (G3 ++ X)))) := by
  rw [← List.append_assoc V G1] at h
  have h := At.ps2 h
  rwa [List.append_assoc V G1] at h
theorem At.pl4 {V G1 G2 G3 G4 X : List Blk} (h : At w0 w (V ++ (G1 ++ (G2 ++ (G3 ++ (G4 ++ X)))))) : At w0 w (G4 ++ (V ++ (G1 ++ (G2 ++ (G3 ++ X))))) := by
  rw [← List.append_assoc V G1] at h
  have h := At.pl3 h
  rwa [List.append_assoc V G1] at h
theorem At.pl5 {V G1 G2 G3 G4 G5 X : List Blk} (h : At w0 w (V ++ (G1 ++ (G2 ++ (G3 ++ (G4 ++ (G5 ++ X))))))) : At w0 w (G5 ++ (V ++ (G1 ++ (G2 ++ (G3 ++ (G4 ++ X)))))) := by
  rw [← List.append_assoc V G1] at h
  have h := At.pl4 h
  rwa [List.append_assoc V G1] at h
theorem At.pl6 {V G1 G2 G3 G4 G5 G6 X : List Blk} (h : At w0 w (V ++ (G1 ++ (G2 ++ (G3 ++ (G4 ++ (G5 ++ (G6 ++ X)))))))) : At w0 w (G6 ++ (V ++ (G1 ++ (G2 ++ (G3 ++ (G4 ++ (G5 ++ X))))))) := by
  rw [← List.append_assoc V G1] at h
  have h := At.pl5 h
  rwa [List.append_assoc V G1] at h
theorem At.pl7 {V G1 G2 G3 G4 G5 G6 G7 X : List Blk} (h : At w0 w (V ++ (G1 ++ (G2 ++ (G3 ++ (G4 ++ (G5 ++ (G6 ++ (G7 ++ X))))))))) : At w0 w (G7 ++ (V ++ (G1 ++ (G2 ++ (G3 ++ (G4 ++ (G5 ++ (G6 ++ X)))))))) := by
  rw [← List.append_assoc V G1] at h
  have h := At.pl6 h
  rwa [List.append_assoc V G1] at h
theorem At.pl8 {V G1 G2 G3 G4 G5 G6 G7 G8 X : List Blk} (h : At w0 w (V ++ (G1 ++ (G2 ++ (G3 ++ (G4 ++ (G5 ++ (G6 ++ (G7 ++ (G8 ++ X)))))))))) : At w0 w (G8 ++ (V ++ (G1 ++ (G2 ++ (G3 ++ (G4 ++ (G5 ++ (G6 ++ (G7 ++ X))))))))) := by
  rw [← List.append_assoc V G1] at h
  have h := At.pl7 h
  rwa [List.append_assoc V G1] at h
end Go.Sx
namespace Go.Proofs.YtaadgdbegpmlmaaGreat
open Go.Sx Go.RowKit
theorem RdKey.sz {w : World} {r : Array Value} {k : List Int} (h : RdKey w r k) : r.size = 32 := by rw [h.1]; simp [h.2.1]
theorem RdKey.one {w : World} {r : Array Value} {k : List Int} (h : RdKey w r k) : ∀ v ∈ r.toList, oneC v = true := by rw [h.1]; simpa using u8s_one
theorem OwnKey.sz {r : Array Value} {k : List Int} {L : List Blk} (h : OwnKey r k L) : r.size = 32 := by rw [h.1]; simp [h.2.1.1]
theorem OwnKey.one {r : Array Value} {k : List Int} {L : List Blk} (h : OwnKey r k L) : ∀ v ∈ r.toList, oneC v = true := by rw [h.1]; simpa using u8s_one
theorem RawStore.sz {w : World} {r : Array Value} {B : List PB} (h : RawStore w r B) : r.size = 1 := by obtain ⟨s, bs, rfl, _⟩ := h; rfl
theorem RawStore.one {w : World} {r : Array Value} {B : List PB} (h : RawStore w r B) : ∀ v ∈ r.toList, oneC v = true := by obtain ⟨s, bs, rfl, _⟩ := h; simp [oneC]
theorem OwnStore.sz {r : Array Value} {B : List PB} {L : List Blk} (h : OwnStore r B L) : r.size = 1 := by obtain ⟨s, bs, rfl, _⟩ := h; rfl
theorem OwnStore.one {r : Array Value} {B : List PB} {L : List Blk} (h : OwnStore r B L) : ∀ v ∈ r.toList, oneC v = true := by obtain ⟨s, bs, rfl, _⟩ := h; simp [oneC]
theorem OwnBlob.sz {r : Array Value} {B : PB} {L : List Blk} (h : OwnBlob r B L) : r.size = 2 := by obtain ⟨b, rfl, _⟩ := h; rfl
theorem OwnBlob.one {r : Array Value} {B : PB} {L : List Blk} (h : OwnBlob r B L) : ∀ v ∈ r.toList, oneC v = true := by obtain ⟨b, rfl, _⟩ := h; simpa using cells_one b
end Go.Proofs.YtaadgdbegpmlmaaGreat
