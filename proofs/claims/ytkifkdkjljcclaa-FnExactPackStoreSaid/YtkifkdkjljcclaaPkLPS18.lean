/- The program: sorted keys, each once; whether keys are sorted; a key is found. The program: whether keys are sorted; a key is found; blobs compared, copied; a store's keys. -/
import Derived.Lib.SlicesS
import Derived.Test.YtkifkdkjljcclaaPkLPS17
namespace Go.Proofs.Ytkifkdkjljcclaa
open Go.Sx Go.RowKit

theorem r_dr {P : Program} {R : Value → World → Prop} {w : World} {s : World → Prop} (h : s w.drew) : ((real P R).draw s : World → Prop) w := h

theorem run_eql_key (x y : Operand) {a b : List Int} (ha : a.length = 32) (hb : b.length = 32) (w : World) : (eqB .eql ty_impl_Key x y (.agg (u8s a).toArray) (.agg (u8s b).toArray)).run Try.prog w = .ok (.bool (decide (a = b))) w :=
  run_eql_u8 (n := 32) (e := ty_uint8) (by kernel_rfl) (by kernel_rfl) (by kernel_rfl) x y ha hb w
theorem run_neq_key (x y : Operand) {a b : List Int} (ha : a.length = 32) (hb : b.length = 32) (w : World) : (eqB .neq ty_impl_Key x y (.agg (u8s a).toArray) (.agg (u8s b).toArray)).run Try.prog w = .ok (.bool (!decide (a = b))) w :=
  run_neq_u8 (n := 32) (e := ty_uint8) (by kernel_rfl) (by kernel_rfl) (by kernel_rfl) x y ha hb w

theorem take_succ_get {α : Type} {l : List α} {i : Nat} {x : α} (h : l[i]? = some x) : l.take (i + 1) = l.take i ++ [x] := by rw [List.take_add_one, h]; rfl
theorem getLast_take {α : Type} {l : List α} {i : Nat} {x : α} (h : l[i]? = some x) : (l.take (i + 1)).getLast? = some x := by rw [take_succ_get h]; simp

theorem getLast_take' {α : Type} {l : List α} {i : Nat} {x : α} (h1 : 1 ≤ i) (h : l[i - 1]? = some x) : (l.take i).getLast? = some x := by
  have := getLast_take h
  rwa [Nat.sub_add_cancel h1] at this

theorem c_Compact {w0 w : World} {ls : List Blk} {s : Sl} {ks : List (List Int)} (hS : SlO w0 w ls ty_impl_Key 32 s (ks.flatMap u8s)) (hk : ∀ k ∈ ks, k.length = 32) (hn : s.n = ks.length) (hmax : ks.length ≤ 1073741824) :
    Calls Try.prog n_slices_Compact_sl_impl_Key_impl_Key [.slice s.a s.n s.c].toArray w fun e w' => ∃ v, e = .returned v ∧ ∃ r : Sl, v = .slice r.a r.n r.c ∧ SlO w0 w' ls ty_impl_Key 32 r ((cmpct ks).flatMap u8s) ∧ r.n = (cmpct ks).length := slices_Compact_sl_impl_Key_impl_Key_calls s (by
  unfold slices_Compact_sl_impl_Key_impl_Key
  have hz : ∀ k ∈ ks, (u8s k).length = 32 := fun k h => by simp [hk k h]
  refine r_if ((s.n : Int) < 2) rfl (fun hlt => ?_) (fun hge => ?_)
  · have : cmpct ks = ks := by
      match ks, hn with
      | [], _ => rfl
      | [a], _ => rfl
      | a :: b :: r, h => simp at h; omega
    refine r_retR ⟨s, rfl, by rw [this]; exact hS, by rw [this]; exact hn⟩
  refine r_loop (σ := Int) (fun i w' => ∃ k : Nat, i = k ∧ 1 ≤ k ∧ k ≤ ks.length ∧ cmpct (ks.take k) = ks.take k ∧ SlO w0 w' ls ty_impl_Key 32 s (ks.flatMap u8s)) (fun i _ => (s.n - i).toNat) 1 rfl ⟨1, rfl, by omega, by omega, by
    match ks, hn with
    | [], h => simp at h; omega
    | a :: r, _ => rfl, hS⟩ ?_
  rintro i w1 ⟨k, rfl, hk1, hkn, hpre, hS⟩
  refine r_any fun _ => ?_
  refine r_if ((k : Int) < (s.n : Int)) rfl (fun hlt => ?_) (fun hge => ?_)
  · refine r_dr ?_
    have hS := hS.trans (drew_below w1)
    have rd := hS.of hz (by omega)
    have hx : ks[k]? = some ks[k] := List.getElem?_eq_getElem (by omega)
    have hy : ks[k - 1]? = some ks[k - 1] := List.getElem?_eq_getElem (by omega)
    obtain ⟨p, hp, _⟩ := rd.cell hx
    have e1 : IntKind.wrap .i64 ((k : Int) - 1) = ((k - 1 : Nat) : Int) := by rw [w64 (by omega) (by omega)]; omega
    refine r_ix p hp (by omega) (by omega) ?_
    refine r_ldN (u8s ks[k]).toArray (by simp only [Int.toNat_natCast]; exact rd.agg hx hp) ?_
    rw [e1]
    refine r_ix p hp (by omega) (by omega) ?_
    refine r_ldN (u8s ks[k - 1]).toArray (by simp only [Int.toNat_natCast]; exact rd.agg hy hp) ?_
    refine r_pur _ (fun w' => run_eql_key _ _ (hk _ (List.getElem_mem _)) (hk _ (List.getElem_mem _)) w') ?_
    by_cases heq : ks[k] = ks[k - 1]
    · refine r_true (decide_eq_true heq) ?_
      refine r_slSuf k rfl rfl (by omega) (by have := hS.cap; omega) fun y hyn hyc hya => ?_
      have hya := hya (by omega)
      obtain ⟨L, hO, hA⟩ := hS.split
      refine r_loop (σ := Int × Int) (fun i w' => ∃ (kk k2 : Nat) (out tl : List (List Int)) (L : List Blk), i = ((kk : Int), (k2 : Int)) ∧ 1 ≤ k2 ∧ k + k2 ≤ ks.length ∧ out.length = kk ∧ kk ≤ k + k2 - 1 ∧ tl.length = ks.length - kk ∧ tl.drop (k + k2 - 1 - kk) = ks.drop (k + k2 - 1) ∧
        out = cmpct (ks.take (k + k2)) ∧ (∀ x ∈ out ++ tl, x.length = 32) ∧ OwnS ty_impl_Key 32 s ((out ++ tl).flatMap u8s) L ∧ At w0 w' (L ++ ls)) (fun i _ => (s.n - i.2).toNat) ((k : Int), 1) rfl
        ⟨k, 1, ks.take k, ks.drop k, L, rfl, by omega, by omega, by simp; omega, by omega, by simp, by simp, ?_, by simpa using hk, by simpa using hO, hA⟩ ?_
      · rw [take_succ_get hx, cmpct_snoc, if_pos, hpre]
        rw [getLast_take' hk1 hy, heq]
      rintro i w2 ⟨kk, k2, out, tl, L, rfl, h1, h2, hol, hkk, htl, hdrop, hout, hlen, hO, hA⟩
      refine r_any fun _ => ?_
      dsimp only
      have hzz : ∀ x ∈ out ++ tl, (u8s x).length = 32 := fun x hx => by simp [hlen x hx]
      refine r_if ((k2 : Int) < (y.n : Int)) rfl (fun hlt2 => ?_) (fun hge2 => ?_)
      · refine r_dr ?_
        have hA := hA.drew
        have rd := hO.of hA (List.sublist_append_left _ _) hzz (by omega)
        have hx2 : ks[k + k2]? = some ks[k + k2] := List.getElem?_eq_getElem (by omega)
        have hy2 : ks[k + k2 - 1]? = some ks[k + k2 - 1] := List.getElem?_eq_getElem (by omega)
        have hcur : ∀ j v, k + k2 - 1 ≤ j → ks[j]? = some v → (out ++ tl)[j]? = some v := fun j v hj hv => by
          rw [List.getElem?_append_right (by omega), hol]
          have := congrArg (·[j - (k + k2 - 1)]?) hdrop
          simp only [List.getElem?_drop] at this
          rw [show k + k2 - 1 - kk + (j - (k + k2 - 1)) = j - kk by omega, show k + k2 - 1 + (j - (k + k2 - 1)) = j by omega] at this
          rw [this, hv]
        have hya' : y.a = some (p.add (k * 32)) := by rw [hya, hp]; rfl
        have e2 : IntKind.wrap .i64 ((k2 : Int) - 1) = ((k2 - 1 : Nat) : Int) := by rw [w64 (by omega) (by omega)]; omega
        refine r_ix _ hya' (by omega) (by omega) ?_
        refine r_ldN (u8s ks[k + k2]).toArray (by
          rw [Go.Deep.add_add, show k * 32 + (k2 : Int).toNat * 32 = (k + k2) * 32 by rw [Int.toNat_natCast]; omega]
          exact rd.agg (hcur _ _ (by omega) hx2) hp) ?_
        rw [e2]
        refine r_ix _ hya' (by omega) (by omega) ?_
        refine r_ldN (u8s ks[k + k2 - 1]).toArray (by
          rw [Go.Deep.add_add, show k * 32 + ((k2 - 1 : Nat) : Int).toNat * 32 = (k + k2 - 1) * 32 by rw [Int.toNat_natCast]; omega]
          exact rd.agg (hcur _ _ (by omega) hy2) hp) ?_
        refine r_pur _ (fun w' => run_neq_key _ _ (hk _ (List.getElem_mem _)) (hk _ (List.getElem_mem _)) w') ?_
        have hsn : cmpct (ks.take (k + k2 + 1)) = if ks[k + k2 - 1] = ks[k + k2] then out else out ++ [ks[k + k2]] := by
          rw [take_succ_get hx2, cmpct_snoc, ← hout, getLast_take' (by omega) hy2]
          simp
        have htl2 : tl.drop (k + k2 - kk) = ks.drop (k + k2) := by
          have := congrArg (·.drop 1) hdrop
          simp only [List.drop_drop] at this
          rw [show k + k2 - 1 - kk + 1 = k + k2 - kk by omega, show k + k2 - 1 + 1 = k + k2 by omega] at this
          exact this
        by_cases hne : ks[k + k2] = ks[k + k2 - 1]
        · refine r_false (by simp [hne]) ?_
          refine ⟨((kk : Int), ((k2 + 1 : Nat) : Int)), by rw [w64 (by omega) (by omega)]; rfl, ⟨kk, k2 + 1, out, tl, L, rfl, by omega, by omega, hol, by omega, htl, by rw [show k + (k2 + 1) - 1 - kk = k + k2 - kk by omega, show k + (k2 + 1) - 1 = k + k2 by omega]; exact htl2, ?_, hlen, hO, hA⟩, by dsimp only; omega⟩
          rw [show k + (k2 + 1) = k + k2 + 1 by omega, hsn, if_pos hne.symm]
        · refine r_true (by simp [hne]) ?_
          refine r_ix _ hya' (by omega) (by omega) ?_
          refine r_ldN (u8s ks[k + k2]).toArray (by
            rw [Go.Deep.add_add, show k * 32 + (k2 : Int).toNat * 32 = (k + k2) * 32 by rw [Int.toNat_natCast]; omega]
            exact rd.agg (hcur _ _ (by omega) hx2) hp) ?_
          refine r_ix p hp (by omega) (by omega) ?_
          have hx32 : ks[k + k2].length = 32 := hk _ (List.getElem_mem _)
          have hol32 : (out.flatMap u8s).length = kk * 32 := by rw [flatMap_length (z := 32) (fun x hx => hzz x (by simp [hx])), hol]
          refine r_stO hA hO hp (kk * 32) (by simp) (by simp [Value.cells, hx32]) (by rw [flatMap_length hzz]; simp; omega) (by simpa [Value.cells] using u8s_one) fun w3 L3 hA3 hO3 => ?_
          refine ⟨(((kk + 1 : Nat) : Int), ((k2 + 1 : Nat) : Int)), by rw [w64 (by omega) (by omega), w64 (by omega) (by omega)]; rfl, ⟨kk + 1, k2 + 1, out ++ [ks[k + k2]], tl.drop 1, L3, rfl, by omega, by omega, by simp [hol], by omega, by simp; omega, ?_, ?_, ?_, ?_, hA3⟩, by dsimp only; omega⟩
          · rw [List.drop_drop, show 1 + (k + (k2 + 1) - 1 - (kk + 1)) = k + k2 - kk by omega, show k + (k2 + 1) - 1 = k + k2 by omega]
            exact htl2
          · rw [show k + (k2 + 1) = k + k2 + 1 by omega, hsn, if_neg (Ne.symm hne)]
          · intro x hx
            simp only [List.mem_append, List.mem_singleton] at hx
            rcases hx with (hx | hx) | hx
            · exact hlen x (by simp [hx])
            · subst hx; exact hx32
            · exact hlen x (by simp [List.mem_of_mem_drop hx])
          · have e3 : ((out ++ tl).flatMap u8s).take (kk * 32) = out.flatMap u8s := by rw [List.flatMap_append, ← hol32, List.take_left]
            have e4 : ((out ++ tl).flatMap u8s).drop (kk * 32 + 32) = (tl.drop 1).flatMap u8s := by
              rw [List.flatMap_append, ← hol32, List.drop_append]
              cases tl with
              | nil => simp
              | cons t tl =>
                have ht : (u8s t).length = 32 := hzz t (by simp)
                rw [List.flatMap_cons, List.drop_eq_nil_of_le (by omega), List.nil_append, Nat.add_sub_cancel_left, ← ht, List.drop_left]
                rfl
            rw [e3, e4] at hO3
            simpa [Value.cells, List.flatMap_append] using hO3
      · have hkk2 : k + k2 = ks.length := by omega
        rw [hkk2, List.take_of_length_le (Nat.le_refl _)] at hout
        have hcap := hO.cap
        refine r_slSuf kk rfl rfl (by omega) hcap fun y2 hy2n hy2c hy2a => ?_
        refine r_clearO T_sl_Key (by kernel_rfl) hA hO kk (by omega) (fun _ => hy2a (by omega)) fun v w3 L3 xs3 hA3 hO3 htk => ?_
        refine r_slPre kk rfl rfl (by omega) ?_
        have hO4 := hO3.shrink kk (by omega)
        have hol32 : (out.flatMap u8s).length = kk * 32 := by rw [flatMap_length (z := 32) (fun x hx => hzz x (by simp [hx])), hol]
        rw [htk, List.flatMap_append, ← hol32, List.take_left] at hO4
        refine r_retR ⟨⟨s.a, kk, s.c⟩, rfl, ?_, by rw [← hout, hol]⟩
        rw [← hout]
        exact hO4.slo hA3
    · refine r_false (decide_eq_false heq) ?_
      refine ⟨((k + 1 : Nat) : Int), by rw [w64 (by omega) (by omega)]; rfl, ⟨k + 1, rfl, by omega, by omega, ?_, hS⟩, by omega⟩
      rw [take_succ_get hx, cmpct_snoc, if_neg, hpre]
      rw [getLast_take' hk1 hy]
      intro hh
      exact heq (Option.some.inj hh).symm
  · have : k = ks.length := by omega
    subst this
    rw [List.take_of_length_le (Nat.le_refl _)] at hpre
    exact r_retR ⟨s, rfl, by rw [hpre]; exact hS, by rw [hpre]; exact hn⟩)

theorem c_sorted {w : World} {s : Sl} {ks : List (List Int)} (hs : KsR w s ks) (hmax : ks.length ≤ 1073741824) :
    Ret Try.prog n_impl_sorted [.slice s.a s.n s.c] w [.slice] (fun r w' => ∃ out : List (List Int), Asc out ∧ (∀ x, x ∈ out ↔ x ∈ ks) ∧ out.length ≤ ks.length ∧ (out.length = ks.length → ks.Nodup) ∧ SlO w w' [] ty_impl_Key 32 r (out.flatMap u8s) ∧ r.n = out.length) := impl_sorted_calls s (by
  unfold impl_sorted
  refine r_call (At.refl w) (c_CloneKeys hs hmax) fun r w1 h1 _ ⟨hr, hrn⟩ => ?_
  refine r_callR (c_SortKeys hr (fun k hk => (hs.ok k hk).1) hrn hmax) ?_
  rintro v w2 ⟨rfl, ks', hp, hsort, hS⟩
  refine ⟨(), rfl, ?_⟩
  have hlen := hp.length_eq
  refine r_callR (c_Compact hS (fun k hk => (hs.ok k (hp.mem_iff.1 hk)).1) (by omega) (by omega)) ?_
  rintro v w3 ⟨q, rfl, hq, hqn⟩
  refine ⟨q, rfl, ?_⟩
  refine r_ret hq.at_ q rfl ⟨cmpct ks', cmpct_asc hsort, fun x => (cmpct_mem ks' x).trans hp.mem_iff, by have := cmpct_len ks'; omega, fun hl => ?_, hq, hqn⟩
  have e := cmpct_same (l := ks') (by omega)
  have ha := cmpct_asc hsort
  rw [e] at ha
  exact hp.nodup_iff.1 ha.nodup)

end Go.Proofs.Ytkifkdkjljcclaa

namespace Go.Proofs.Ytkifkdkjljcclaa
open Go.Sx Go.RowKit

theorem c_cmpV {P : Program} {R : Value → World → Prop} {w0 w : World} {ls : List Blk} {f : FuncId} {args : List Value} {l : List Sh} {Q : TL l → World → Prop} {k : TL l → World → Prop} (hA : At w0 w ls) (hg : isGo P f = true) (hc : Ret P f args w l Q)
    (h : ∀ x w', At w0 w' ls → Below w.heap.size w w' → Q x w' → k x w') : ((real P R).callV (.func (.func f) #[] #[]) args l k : World → Prop) w :=
  r_callV (fs := #[]) (cs := #[]) hA hg (by simpa using hc) h

theorem go_compareKeys : isGo Try.prog n_impl_compareKeys = true := by kernel_rfl

theorem c_IsSorted {w : World} {s : Sl} {ks : List (List Int)} (hs : KsR w s ks) (hmax : ks.length ≤ 1073741824) :
    Ret Try.prog n_slices_IsSortedFunc_sl_impl_Key_impl_Key [.slice s.a s.n s.c, .func (.func n_impl_compareKeys) #[] #[]] w [.bool] (fun r _ => r = true ↔ ∀ (i : Nat) x y, ks[i]? = some x → ks[i + 1]? = some y → ¬ ltL y x) := slices_IsSortedFunc_sl_impl_Key_impl_Key_calls s _ (by
  unfold slices_IsSortedFunc_sl_impl_Key_impl_Key
  have hn := hs.n
  refine r_loop (σ := Int) (fun i w' => (∃ k : Nat, (i = k ∨ (ks = [] ∧ i = -1 ∧ k = 0)) ∧ k ≤ ks.length - 1 ∧ ∀ (j : Nat) x y, k ≤ j → ks[j]? = some x → ks[j + 1]? = some y → ¬ ltL y x) ∧ At w w' []) (fun i _ => i.toNat) (IntKind.wrap .i64 ((s.n : Int) - 1)) rfl
    ⟨⟨ks.length - 1, ?_, Nat.le_refl _, fun j x y hj hx hy => by have := (List.getElem?_eq_some_iff.1 hy).1; omega⟩, At.refl w⟩ ?_
  · rw [w64 (by omega) (by omega)]
    cases ks with
    | nil => right; simp at hn; exact ⟨rfl, by rw [hn]; rfl, rfl⟩
    | cons k r => left; simp at hn ⊢; omega
  rintro i w1 ⟨⟨k, hi, hk, hall⟩, h⟩
  refine r_any fun _ => ?_
  refine r_if (i > 0) rfl (fun hlt => ?_) (fun hge => ?_)
  · have hik : i = k := hi.resolve_right (by omega)
    subst hik
    refine r_drawB h fun w2 h hb => ?_
    obtain ⟨x, p, hx, hxm, hp, hxo, hxl⟩ := (hs.at h).get (i := k) (by omega)
    obtain ⟨y, q, hy, hym, hq, hyo, hyl⟩ := (hs.at h).get (i := k - 1) (by omega)
    have e1 : IntKind.wrap .i64 ((k : Int) - 1) = ((k - 1 : Nat) : Int) := by rw [w64 (by omega) (by omega)]; omega
    refine r_ix p hp (by omega) (by omega) ?_
    refine r_ldN (u8s x).toArray (by simp only [Int.toNat_natCast]; exact hxl) ?_
    rw [e1]
    refine r_ix q hq (by omega) (by omega) ?_
    refine r_ldN (u8s y).toArray (by simp only [Int.toNat_natCast]; exact hyl) ?_
    refine c_cmpV h go_compareKeys (c_compareKeys hxo.1 hyo.1 _) fun r w3 h3 _ hr => ?_
    subst hr
    refine r_if (cmpL x y < 0) rfl (fun hc => ?_) (fun hc => ?_)
    · refine r_ret h3 false rfl ⟨fun hh => (by cases hh), fun hh => absurd hc (hh (k - 1) y x hy (by rw [show k - 1 + 1 = k by omega]; exact hx))⟩
    · refine ⟨((k - 1 : Nat) : Int), rfl, ⟨⟨k - 1, .inl rfl, by omega, fun j u v hj hu hv => ?_⟩, h3⟩, by omega⟩
      by_cases hjk : j = k - 1
      · subst hjk
        rw [hy] at hu
        rw [show k - 1 + 1 = k by omega, hx] at hv
        cases hu
        cases hv
        exact hc
      · exact hall j u v (by omega) hu hv
  · refine r_ret h true rfl ⟨fun _ j u v hu hv => hall j u v ?_ hu hv, fun _ => rfl⟩
    rcases hi with hi | ⟨_, _, hi⟩
    · omega
    · omega)

def PB.key (b : PB) : List Int := hashL b.tag b.data
theorem PB.key_ok (b : PB) : keyOk b.key := ⟨hashL_len _ _, hashL_ok _ _⟩

theorem c_Blob_key {w : World} {b : BR} (hb : b.Ok w) (hmax : b.data.length ≤ 35184372088832) : Ret Try.prog n_impl_Blob_key [.agg b.cells.toArray] w [.agg] (fun r _ => r = (u8s b.pb.key).toArray) := impl_Blob_key_calls _ (by
  unfold impl_Blob_key
  refine r_new (At.refl w) fun b1 w1 h => ?_
  refine r_new h fun b2 w2 h => ?_
  refine r_ld h 1 rfl (add_lit _ _ _) b.tag (by simp [Sh.emb]) (by simp [Value.cells, BR.cells, Sh.emb]) ?_
  refine r_ld h 1 rfl (add_lit _ _ _) b.d (by simp [Sh.emb]) (by simp [Value.cells, BR.cells, Sh.emb]) ?_
  refine r_call h (c_hash b.tag (hb.bytes.at h).sl hb.bytes.ok hmax) fun r w3 h3 _ hr => ?_
  subst hr
  refine r_stA h3 0 rfl rfl (by simp [hashL_len]) (by simp [Value.cells]) (by simpa using u8s_one) fun w4 h4 => ?_
  refine r_ldA h4 0 rfl rfl (by simp [hashL_len]) ?_
  exact r_ret h4 _ rfl rfl)

end Go.Proofs.Ytkifkdkjljcclaa
