/- The program: a sorted list's keys each once; is it sorted; a key is found; blobs compared, copied; a store's keys, is it valid. The program: sorted keys, each once; whether keys are sorted; a key is found. The program: whether keys are sorted; a key is found; blobs compared, copied; a store's keys. The program: a store's keys, whether a store is valid, a store with its keys, what is found in it, a store in new memory, some of the blobs. The program: a store with its keys, what is found in it, a store in new memory, some of the blobs. -/
import Derived.Lib.SlicesS
import Derived.Test.YtaadgdbegpmlmaaGreatPkLHO16
import Derived.Test.YtaadgdbegpmlmaaGreatPkLHO06
namespace Go.Proofs.YtaadgdbegpmlmaaGreat
open Go.Sx Go.RowKit

theorem snocInd {α : Type} {motive : List α → Prop} (nil : motive []) (snoc : ∀ l x, motive l → motive (l ++ [x])) (l : List α) : motive l := by
  have h : ∀ r : List α, motive r.reverse := by
    intro r
    induction r with
    | nil => exact nil
    | cons x r ih => rw [List.reverse_cons]; exact snoc _ _ ih
  have := h l.reverse
  rwa [List.reverse_reverse] at this
def cmpct (l : List (List Int)) : List (List Int) := (l.foldl (fun (s : List (List Int) × Option (List Int)) x => (if s.2 = some x then s.1 else s.1 ++ [x], some x)) ([], none)).1
theorem cmpct_last (l : List (List Int)) (s : List (List Int) × Option (List Int)) : (l.foldl (fun (s : List (List Int) × Option (List Int)) x => (if s.2 = some x then s.1 else s.1 ++ [x], some x)) s).2 = (l.getLast?).or s.2 := by
  induction l generalizing s with
  | nil => simp
  | cons x l ih =>
    rw [List.foldl_cons, ih]
    cases l with
    | nil => simp
    | cons y l => simp [List.getLast?_cons_cons, List.getLast?_eq_some_getLast]
theorem cmpct_snoc (l : List (List Int)) (x : List Int) : cmpct (l ++ [x]) = if l.getLast? = some x then cmpct l else cmpct l ++ [x] := by
  unfold cmpct
  rw [List.foldl_append]
  simp only [List.foldl_cons, List.foldl_nil, cmpct_last, Option.or_none]
theorem cmpct_nil : cmpct [] = [] := rfl
theorem cmpct_mem (l : List (List Int)) (x : List Int) : x ∈ cmpct l ↔ x ∈ l := by
  induction l using snocInd with
  | nil => simp [cmpct_nil]
  | snoc l y ih =>
    rw [cmpct_snoc]
    split
    · rename_i h
      rw [ih]
      have : y ∈ l := List.mem_of_getLast? h
      constructor
      · intro hx; simp [hx]
      · intro hx
        rcases List.mem_append.1 hx with hx | hx
        · exact hx
        · simp at hx; subst hx; exact this
    · simp [ih]
theorem cmpct_asc {l : List (List Int)} (h : l.Pairwise fun a b => ¬ ltL b a) : Asc (cmpct l) := by
  induction l using snocInd with
  | nil => exact .nil
  | snoc l y ih =>
    obtain ⟨h1, _, h2⟩ := List.pairwise_append.1 h
    rw [cmpct_snoc]
    split
    · exact ih h1
    · rename_i hne
      refine List.pairwise_append.2 ⟨ih h1, by simp, fun a ha b hb => ?_⟩
      simp only [List.mem_singleton] at hb
      subst hb
      have hal := (cmpct_mem l a).1 ha
      rcases not_ltL (h2 a hal b (by simp)) with e | hlt
      · exfalso
        subst e
        -- a is the last one of l, for what stands behind it is not less, and a is not less than that
        obtain ⟨i, hi⟩ := List.mem_iff_getElem?.1 hal
        obtain ⟨hil, hia⟩ := List.getElem?_eq_some_iff.1 hi
        have hl0 : l ≠ [] := by intro h0; subst h0; simp at hal
        have hlast : l.getLast? = some (l[l.length - 1]'(by omega)) := by
          rw [List.getLast?_eq_getElem?, List.getElem?_eq_getElem]
        have hla : l[l.length - 1]'(by omega) = a := by
          by_cases hii : i = l.length - 1
          · subst hii; exact hia
          · have h3 := List.pairwise_iff_getElem.1 h1 i (l.length - 1) hil (by omega) (by omega)
            rw [hia] at h3
            have h4 := h2 (l[l.length - 1]'(by omega)) (List.getElem_mem _) a (by simp)
            rcases not_ltL h3 with e | e
            · exact e.symm ▸ rfl
            · exact absurd e h4
        rw [hla] at hlast
        exact hne hlast
      · exact hlt
theorem cmpct_len (l : List (List Int)) : (cmpct l).length ≤ l.length := by
  induction l using snocInd with
  | nil => simp [cmpct_nil]
  | snoc l y ih =>
    rw [cmpct_snoc]
    split <;> simp <;> omega
theorem cmpct_same {l : List (List Int)} (h : (cmpct l).length = l.length) : cmpct l = l := by
  induction l using snocInd with
  | nil => rfl
  | snoc l y ih =>
    rw [cmpct_snoc] at h ⊢
    have := cmpct_len l
    split at h
    · simp at h; omega
    · rename_i hne
      rw [if_neg hne, ih (by simpa using h)]

end Go.Proofs.YtaadgdbegpmlmaaGreat

namespace Go.Proofs.YtaadgdbegpmlmaaGreat
open Go.Sx Go.RowKit

theorem r_dr {P : Program} {R : Value → World → Prop} {w : World} {s : World → Prop} (h : s w.drew) : ((real P R).draw s : World → Prop) w := h

theorem run_eql_key (x y : Operand) {a b : List Int} (ha : a.length = 32) (hb : b.length = 32) (w : World) : (eqB .eql ty_impl_Key x y (.agg (u8s a).toArray) (.agg (u8s b).toArray)).run Tryz.prog w = .ok (.bool (decide (a = b))) w :=
  run_eql_u8 (n := 32) (e := ty_uint8) (by kernel_rfl) (by kernel_rfl) (by kernel_rfl) x y ha hb w
theorem run_neq_key (x y : Operand) {a b : List Int} (ha : a.length = 32) (hb : b.length = 32) (w : World) : (eqB .neq ty_impl_Key x y (.agg (u8s a).toArray) (.agg (u8s b).toArray)).run Tryz.prog w = .ok (.bool (!decide (a = b))) w :=
  run_neq_u8 (n := 32) (e := ty_uint8) (by kernel_rfl) (by kernel_rfl) (by kernel_rfl) x y ha hb w

theorem take_succ_get {α : Type} {l : List α} {i : Nat} {x : α} (h : l[i]? = some x) : l.take (i + 1) = l.take i ++ [x] := by rw [List.take_add_one, h]; rfl
theorem getLast_take {α : Type} {l : List α} {i : Nat} {x : α} (h : l[i]? = some x) : (l.take (i + 1)).getLast? = some x := by rw [take_succ_get h]; simp

theorem getLast_take' {α : Type} {l : List α} {i : Nat} {x : α} (h1 : 1 ≤ i) (h : l[i - 1]? = some x) : (l.take i).getLast? = some x := by
  have := getLast_take h
  rwa [Nat.sub_add_cancel h1] at this

theorem c_Compact {w0 w : World} {ls : List Blk} {s : Sl} {ks : List (List Int)} (hS : SlO w0 w ls ty_impl_Key 32 s (ks.flatMap u8s)) (hk : ∀ k ∈ ks, k.length = 32) (hn : s.n = ks.length) (hmax : ks.length ≤ 1073741824) :
    Calls Tryz.prog n_slices_Compact_sl_impl_Key_impl_Key [.slice s.a s.n s.c].toArray w fun e w' => ∃ v, e = .returned v ∧ ∃ r : Sl, v = .slice r.a r.n r.c ∧ SlO w0 w' ls ty_impl_Key 32 r ((cmpct ks).flatMap u8s) ∧ r.n = (cmpct ks).length := slices_Compact_sl_impl_Key_impl_Key_calls s (by
  unfold slices_Compact_sl_impl_Key_impl_Key
  have hz : ∀ k ∈ ks, (u8s k).length = 32 := fun k h => by simp [hk k h]
  refine r_if ((s.n : Int) < 2) rfl (fun hlt => ?_) (fun hge => ?_)
  · have : cmpct ks = ks := by
      match ks, hn with
      | [], _ => rfl
      | [a], _ => rfl
      | a :: b :: r, h => simp at h; omega
    refine r_retR ⟨s, rfl, by rw [this]; exact hS, by rw [this]; exact hn⟩
  refine r_loop (σ := Int) (fun i w' => ∃ k : Nat, i = k ∧ 1 ≤ k ∧ k ≤ ks.length ∧ cmpct (ks.take k) = ks.take k ∧ SlO w0 w' ls ty_impl_Key 32 s (ks.flatMap u8s)) (fun i _ => (s.n - i).toNat) 1 rfl ⟨1, rfl, by omega, by omega, by
    match ks, hn with
    | [], h => simp at h; omega
    | a :: r, _ => rfl, hS⟩ ?_
  rintro i w1 ⟨k, rfl, hk1, hkn, hpre, hS⟩
  refine r_any fun _ => ?_
  refine r_if ((k : Int) < (s.n : Int)) rfl (fun hlt => ?_) (fun hge => ?_)
  · refine r_dr ?_
    have hS := hS.trans (drew_below w1)
    have rd := hS.of hz (by omega)
    have hx : ks[k]? = some ks[k] := List.getElem?_eq_getElem (by omega)
    have hy : ks[k - 1]? = some ks[k - 1] := List.getElem?_eq_getElem (by omega)
    obtain ⟨p, hp, _⟩ := rd.cell hx
    have e1 : IntKind.wrap .i64 ((k : Int) - 1) = ((k - 1 : Nat) : Int) := by rw [w64 (by omega) (by omega)]; omega
    refine r_ix p hp (by omega) (by omega) ?_
    refine r_ldN (u8s ks[k]).toArray (by simp only [Int.toNat_natCast]; exact rd.agg hx hp) ?_
    rw [e1]
    refine r_ix p hp (by omega) (by omega) ?_
    refine r_ldN (u8s ks[k - 1]).toArray (by simp only [Int.toNat_natCast]; exact rd.agg hy hp) ?_
    refine r_pur _ (fun w' => run_eql_key _ _ (hk _ (List.getElem_mem _)) (hk _ (List.getElem_mem _)) w') ?_
    by_cases heq : ks[k] = ks[k - 1]
    · refine r_true (decide_eq_true heq) ?_
      refine r_slSuf k rfl rfl (by omega) (by have := hS.cap; omega) fun y hyn hyc hya => ?_
      have hya := hya (by omega)
      obtain ⟨L, hO, hA⟩ := hS.split
      refine r_loop (σ := Int × Int) (fun i w' => ∃ (kk k2 : Nat) (out tl : List (List Int)) (L : List Blk), i = ((kk : Int), (k2 : Int)) ∧ 1 ≤ k2 ∧ k + k2 ≤ ks.length ∧ out.length = kk ∧ kk ≤ k + k2 - 1 ∧ tl.length = ks.length - kk ∧ tl.drop (k + k2 - 1 - kk) = ks.drop (k + k2 - 1) ∧
        out = cmpct (ks.take (k + k2)) ∧ (∀ x ∈ out ++ tl, x.length = 32) ∧ OwnS ty_impl_Key 32 s ((out ++ tl).flatMap u8s) L ∧ At w0 w' (L ++ ls)) (fun i _ => (s.n - i.2).toNat) ((k : Int), 1) rfl
        ⟨k, 1, ks.take k, ks.drop k, L, rfl, by omega, by omega, by simp; omega, by omega, by simp, by simp, ?_, by simpa using hk, by simpa using hO, hA⟩ ?_
      · rw [take_succ_get hx, cmpct_snoc, if_pos, hpre]
        rw [getLast_take' hk1 hy, heq]
      rintro i w2 ⟨kk, k2, out, tl, L, rfl, h1, h2, hol, hkk, htl, hdrop, hout, hlen, hO, hA⟩
      refine r_any fun _ => ?_
      dsimp only
      have hzz : ∀ x ∈ out ++ tl, (u8s x).length = 32 := fun x hx => by simp [hlen x hx]
      refine r_if ((k2 : Int) < (y.n : Int)) rfl (fun hlt2 => ?_) (fun hge2 => ?_)
      · refine r_dr ?_
        have hA := hA.drew
        have rd := hO.of hA (List.sublist_append_left _ _) hzz (by omega)
        have hx2 : ks[k + k2]? = some ks[k + k2] := List.getElem?_eq_getElem (by omega)
        have hy2 : ks[k + k2 - 1]? = some ks[k + k2 - 1] := List.getElem?_eq_getElem (by omega)
        have hcur : ∀ j v, k + k2 - 1 ≤ j → ks[j]? = some v → (out ++ tl)[j]? = some v := fun j v hj hv => by
          rw [List.getElem?_append_right (by omega), hol]
          have := congrArg (·[j - (k + k2 - 1)]?) hdrop
          simp only [List.getElem?_drop] at this
          rw [show k + k2 - 1 - kk + (j - (k + k2 - 1)) = j - kk by omega, show k + k2 - 1 + (j - (k + k2 - 1)) = j by omega] at this
          rw [this, hv]
        have hya' : y.a = some (p.add (k * 32)) := by rw [hya, hp]; rfl
        have e2 : IntKind.wrap .i64 ((k2 : Int) - 1) = ((k2 - 1 : Nat) : Int) := by rw [w64 (by omega) (by omega)]; omega
        refine r_ix _ hya' (by omega) (by omega) ?_
        refine r_ldN (u8s ks[k + k2]).toArray (by
          rw [Go.Deep.add_add, show k * 32 + (k2 : Int).toNat * 32 = (k + k2) * 32 by rw [Int.toNat_natCast]; omega]
          exact rd.agg (hcur _ _ (by omega) hx2) hp) ?_
        rw [e2]
        refine r_ix _ hya' (by omega) (by omega) ?_
        refine r_ldN (u8s ks[k + k2 - 1]).toArray (by
          rw [Go.Deep.add_add, show k * 32 + ((k2 - 1 : Nat) : Int).toNat * 32 = (k + k2 - 1) * 32 by rw [Int.toNat_natCast]; omega]
          exact rd.agg (hcur _ _ (by omega) hy2) hp) ?_
        refine r_pur _ (fun w' => run_neq_key _ _ (hk _ (List.getElem_mem _)) (hk _ (List.getElem_mem _)) w') ?_
        have hsn : cmpct (ks.take (k + k2 + 1)) = if ks[k + k2 - 1] = ks[k + k2] then out else out ++ [ks[k + k2]] := by
          rw [take_succ_get hx2, cmpct_snoc, ← hout, getLast_take' (by omega) hy2]
          simp
        have htl2 : tl.drop (k + k2 - kk) = ks.drop (k + k2) := by
          have := congrArg (·.drop 1) hdrop
          simp only [List.drop_drop] at this
          rw [show k + k2 - 1 - kk + 1 = k + k2 - kk by omega, show k + k2 - 1 + 1 = k + k2 by omega] at this
          exact this
        by_cases hne : ks[k + k2] = ks[k + k2 - 1]
        · refine r_false (by simp [hne]) ?_
          refine ⟨((kk : Int), ((k2 + 1 : Nat) : Int)), by rw [w64 (by omega) (by omega)]; rfl, ⟨kk, k2 + 1, out, tl, L, rfl, by omega, by omega, hol, by omega, htl, by rw [show k + (k2 + 1) - 1 - kk = k + k2 - kk by omega, show k + (k2 + 1) - 1 = k + k2 by omega]; exact htl2, ?_, hlen, hO, hA⟩, by dsimp only; omega⟩
          rw [show k + (k2 + 1) = k + k2 + 1 by omega, hsn, if_pos hne.symm]
        · refine r_true (by simp [hne]) ?_
          refine r_ix _ hya' (by omega) (by omega) ?_
          refine r_ldN (u8s ks[k + k2]).toArray (by
            rw [Go.Deep.add_add, show k * 32 + (k2 : Int).toNat * 32 = (k + k2) * 32 by rw [Int.toNat_natCast]; omega]
            exact rd.agg (hcur _ _ (by omega) hx2) hp) ?_
          refine r_ix p hp (by omega) (by omega) ?_
          have hx32 : ks[k + k2].length = 32 := hk _ (List.getElem_mem _)
          have hol32 : (out.flatMap u8s).length = kk * 32 := by rw [flatMap_length (z := 32) (fun x hx => hzz x (by simp [hx])), hol]
          refine r_stO hA hO hp (kk * 32) (by simp) (by simp [Value.cells, hx32]) (by rw [flatMap_length hzz]; simp; omega) (by simpa [Value.cells] using u8s_one) fun w3 L3 hA3 hO3 => ?_
          refine ⟨(((kk + 1 : Nat) : Int), ((k2 + 1 : Nat) : Int)), by rw [w64 (by omega) (by omega), w64 (by omega) (by omega)]; rfl, ⟨kk + 1, k2 + 1, out ++ [ks[k + k2]], tl.drop 1, L3, rfl, by omega, by omega, by simp [hol], by omega, by simp; omega, ?_, ?_, ?_, ?_, hA3⟩, by dsimp only; omega⟩
          · rw [List.drop_drop, show 1 + (k + (k2 + 1) - 1 - (kk + 1)) = k + k2 - kk by omega, show k + (k2 + 1) - 1 = k + k2 by omega]
            exact htl2
          · rw [show k + (k2 + 1) = k + k2 + 1 by omega, hsn, if_neg (Ne.symm hne)]
          · intro x hx
            simp only [List.mem_append, List.mem_singleton] at hx
            rcases hx with (hx | hx) | hx
            · exact hlen x (by simp [hx])
            · subst hx; exact hx32
            · exact hlen x (by simp [List.mem_of_mem_drop hx])
          · have e3 : ((out ++ tl).flatMap u8s).take (kk * 32) = out.flatMap u8s := by rw [List.flatMap_append, ← hol32, List.take_left]
            have e4 : ((out ++ tl).flatMap u8s).drop (kk * 32 + 32) = (tl.drop 1).flatMap u8s := by
              rw [List.flatMap_append, ← hol32, List.drop_append]
              cases tl with
              | nil => simp
              | cons t tl =>
                have ht : (u8s t).length = 32 := hzz t (by simp)
                rw [List.flatMap_cons, List.drop_eq_nil_of_le (by omega), List.nil_append, Nat.add_sub_cancel_left, ← ht, List.drop_left]
                rfl
            rw [e3, e4] at hO3
            simpa [Value.cells, List.flatMap_append] using hO3
      · have hkk2 : k + k2 = ks.length := by omega
        rw [hkk2, List.take_of_length_le (Nat.le_refl _)] at hout
        have hcap := hO.cap
        refine r_slSuf kk rfl rfl (by omega) hcap fun y2 hy2n hy2c hy2a => ?_
        refine r_clearO T_sl_Key (by kernel_rfl) hA hO kk (by omega) (fun _ => hy2a (by omega)) fun v w3 L3 xs3 hA3 hO3 htk => ?_
        refine r_slPre kk rfl rfl (by omega) ?_
        have hO4 := hO3.shrink kk (by omega)
        have hol32 : (out.flatMap u8s).length = kk * 32 := by rw [flatMap_length (z := 32) (fun x hx => hzz x (by simp [hx])), hol]
        rw [htk, List.flatMap_append, ← hol32, List.take_left] at hO4
        refine r_retR ⟨⟨s.a, kk, s.c⟩, rfl, ?_, by rw [← hout, hol]⟩
        rw [← hout]
        exact hO4.slo hA3
    · refine r_false (decide_eq_false heq) ?_
      refine ⟨((k + 1 : Nat) : Int), by rw [w64 (by omega) (by omega)]; rfl, ⟨k + 1, rfl, by omega, by omega, ?_, hS⟩, by omega⟩
      rw [take_succ_get hx, cmpct_snoc, if_neg, hpre]
      rw [getLast_take' hk1 hy]
      intro hh
      exact heq (Option.some.inj hh).symm
  · have : k = ks.length := by omega
    subst this
    rw [List.take_of_length_le (Nat.le_refl _)] at hpre
    exact r_retR ⟨s, rfl, by rw [hpre]; exact hS, by rw [hpre]; exact hn⟩)

/-- sorted: in ascending order, each once. -/
theorem c_sorted {w : World} {s : Sl} {ks : List (List Int)} (hs : KsR w s ks) (hmax : ks.length ≤ 1073741824) :
    Ret Tryz.prog n_impl_sorted [.slice s.a s.n s.c] w [.slice] (fun r w' => ∃ out : List (List Int), Asc out ∧ (∀ x, x ∈ out ↔ x ∈ ks) ∧ out.length ≤ ks.length ∧ (out.length = ks.length → ks.Nodup) ∧ SlO w w' [] ty_impl_Key 32 r (out.flatMap u8s) ∧ r.n = out.length) := impl_sorted_calls s (by
  unfold impl_sorted
  refine r_call (At.refl w) (c_CloneKeys hs hmax) fun r w1 h1 _ ⟨hr, hrn⟩ => ?_
  refine r_callR (c_SortKeys hr (fun k hk => (hs.ok k hk).1) hrn hmax) ?_
  rintro v w2 ⟨rfl, ks', hp, hsort, hS⟩
  refine ⟨(), rfl, ?_⟩
  have hlen := hp.length_eq
  refine r_callR (c_Compact hS (fun k hk => (hs.ok k (hp.mem_iff.1 hk)).1) (by omega) (by omega)) ?_
  rintro v w3 ⟨q, rfl, hq, hqn⟩
  refine ⟨q, rfl, ?_⟩
  refine r_ret hq.at_ q rfl ⟨cmpct ks', cmpct_asc hsort, fun x => (cmpct_mem ks' x).trans hp.mem_iff, by have := cmpct_len ks'; omega, fun hl => ?_, hq, hqn⟩
  have e := cmpct_same (l := ks') (by omega)
  have ha := cmpct_asc hsort
  rw [e] at ha
  exact hp.nodup_iff.1 ha.nodup)

end Go.Proofs.YtaadgdbegpmlmaaGreat

namespace Go.Proofs.YtaadgdbegpmlmaaGreat
open Go.Sx Go.RowKit

def PB.key (b : PB) : List Int := hashL b.tag b.data
theorem PB.key_ok (b : PB) : keyOk b.key := ⟨hashL_len _ _, hashL_ok _ _⟩

end Go.Proofs.YtaadgdbegpmlmaaGreat

namespace Go.Proofs.YtaadgdbegpmlmaaGreat
open Go.Sx Go.RowKit

def keysOf (B : List PB) : List (List Int) := B.map PB.key
def validS (B : List PB) : Prop := B.length ≤ 128 ∧ (∀ b ∈ B, b.data.length ≤ 1024) ∧ Asc (keysOf B)
instance (B : List PB) : Decidable (validS B) := inferInstanceAs (Decidable (_ ∧ _ ∧ List.Pairwise _ _))
theorem keysOf_len (B : List PB) : (keysOf B).length = B.length := by simp [keysOf]

end Go.Proofs.YtaadgdbegpmlmaaGreat

namespace Go.Proofs.YtaadgdbegpmlmaaGreat
open Go.Sx Go.RowKit

/-- A store with its keys, read. -/
structure ShopR (w : World) (p : Addr) (ks : List (List Int)) (bs : List BR) : Prop where
  ex : ∃ sk sb, (∀ n, ldOk w n (p.add 0) .slice sk) ∧ (∀ n, ldOk w n (p.add 1) .slice sb) ∧ KsR w sk ks ∧ BsR w sb bs
theorem ShopR.below {w w' : World} {p : Addr} {ks : List (List Int)} {bs : List BR} (h : ShopR w p ks bs) (hb : Below w.heap.size w w') : ShopR w' p ks bs :=
  let ⟨sk, sb, h1, h2, h3, h4⟩ := h.ex
  ⟨sk, sb, fun n => ldOk_below hb (h1 n), fun n => ldOk_below hb (h2 n), h3.below hb, h4.below hb⟩
theorem ShopR.at {w w' : World} {ls : List Blk} {p : Addr} {ks : List (List Int)} {bs : List BR} (h : ShopR w p ks bs) (hA : At w w' ls) : ShopR w' p ks bs := h.below hA.below

/-- A store with its keys that is one's own. -/
def ShopO (b : Nat) (ks : List (List Int)) (bs : List BR) (L : List Blk) : Prop := ∃ sk sb Lk Lb, L = (b, #[.slice sk.a sk.n sk.c, .slice sb.a sb.n sb.c], ty_impl_shop) :: (Lk ++ Lb) ∧ OwnS ty_impl_Key 32 sk (ks.flatMap u8s) Lk ∧ OwnS ty_impl_Blob 2 sb (bs.flatMap BR.cells) Lb
theorem ShopO.rd {w0 w : World} {b : Nat} {ks : List (List Int)} {bs : List BR} {L ls : List Blk} (h : ShopO b ks bs L) (hA : At w0 w (L ++ ls)) (hk : ∀ k ∈ ks, keyOk k) (hb : ∀ b ∈ bs, b.Ok w) : ShopR w ⟨b, 0, none⟩ ks bs := by
  obtain ⟨sk, sb, Lk, Lb, rfl, h1, h2⟩ := h
  refine ⟨sk, sb, fun n => ldOk_own hA 0 rfl 0 rfl (by simp [Sh.emb]), fun n => ldOk_own hA 0 rfl 1 rfl (by simp [Sh.emb]), ownS_ks h1 hA ?_ hk, ⟨h2.of hA ?_ (fun b _ => cells_len b) (by omega), hb⟩⟩
  · exact ((List.sublist_append_left _ _).trans (List.sublist_cons_self _ _)).trans (List.sublist_append_left _ _)
  · exact ((List.sublist_append_right _ _).trans (List.sublist_cons_self _ _)).trans (List.sublist_append_left _ _)

end Go.Proofs.YtaadgdbegpmlmaaGreat
