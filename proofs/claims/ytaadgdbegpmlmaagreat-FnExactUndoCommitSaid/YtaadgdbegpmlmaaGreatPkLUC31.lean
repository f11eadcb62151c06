/- History: the changes that make one map of another one: both sides. -/
import Derived.Test.YtaadgdbegpmlmaaGreatPkLUC27
import Derived.Test.YtaadgdbegpmlmaaGreatPkLUC30
namespace Go.Proofs.YtaadgdbegpmlmaaGreat
open Go.Sx Go.RowKit

def delC (e : PE) : PCh := ⟨e.1, true, e.2, false, ⟨#[]⟩⟩
def addC (e : PE) : PCh := ⟨e.1, false, ⟨#[]⟩, true, e.2⟩
def modC (e f : PE) : PCh := ⟨e.1, true, e.2, true, f.2⟩
def blE (a b : PE) : Bool := Op.bytesLess a.1.toList b.1.toList
def neE (a b : PE) : Bool := !(a.2.toList == b.2.toList)
def chgF : Nat → List PE → List PE → List PCh
  | 0, _, _ => []
  | _ + 1, [], [] => []
  | f + 1, a :: r, [] => delC a :: chgF f r []
  | f + 1, [], b :: s => addC b :: chgF f [] s
  | f + 1, a :: r, b :: s => if blE a b then delC a :: chgF f r (b :: s) else if blE b a then addC b :: chgF f (a :: r) s else (if neE a b then [modC a b] else []) ++ chgF f r s
def chgL (a b : List PE) : List PCh := chgF (a.length + b.length) a b
theorem chgF_len : ∀ (f : Nat) (a b : List PE), (chgF f a b).length ≤ f
  | 0, _, _ => Nat.le_refl _
  | _ + 1, [], [] => Nat.zero_le _
  | f + 1, a :: r, [] => by have := chgF_len f r []; show (_ :: _).length ≤ _; rw [List.length_cons]; omega
  | f + 1, [], b :: s => by have := chgF_len f [] s; show (_ :: _).length ≤ _; rw [List.length_cons]; omega
  | f + 1, a :: r, b :: s => by
    have h1 := chgF_len f r (b :: s)
    have h2 := chgF_len f (a :: r) s
    have h3 := chgF_len f r s
    show (if blE a b then _ else if blE b a then _ else _ : List PCh).length ≤ _
    split
    · rw [List.length_cons]; omega
    · split
      · rw [List.length_cons]; omega
      · rw [List.length_append]
        split <;> simp <;> omega
theorem chgL_len (a b : List PE) : (chgL a b).length ≤ a.length + b.length := chgF_len _ _ _
theorem chgF_a {f : Nat} {a : PE} {r b : List PE} (h : b = [] ∨ ∃ x s, b = x :: s ∧ blE a x = true) : chgF (f + 1) (a :: r) b = delC a :: chgF f r b := by
  rcases h with rfl | ⟨x, s, rfl, h⟩
  · rfl
  · show (if blE a x then _ else _) = _
    rw [if_pos h]
theorem chgF_b {f : Nat} {b : PE} {a s : List PE} (h : a = [] ∨ ∃ x r, a = x :: r ∧ blE x b = false ∧ blE b x = true) : chgF (f + 1) a (b :: s) = addC b :: chgF f a s := by
  rcases h with rfl | ⟨x, s, rfl, h1, h2⟩
  · rfl
  · show (if blE x b then _ else if blE b x then _ else _) = _
    rw [if_neg (by rw [h1]; simp), if_pos h2]
theorem chgF_c {f : Nat} {a b : PE} {r s : List PE} (h1 : blE a b = false) (h2 : blE b a = false) : chgF (f + 1) (a :: r) (b :: s) = (if neE a b then [modC a b] else []) ++ chgF f r s := by
  show (if blE a b then _ else if blE b a then _ else _) = _
  rw [if_neg (by rw [h1]; simp), if_neg (by rw [h2]; simp)]
theorem bl_gtr (x y : PE) : (!(Op.bytesLess x.1.toList y.1.toList || x.1.toList == y.1.toList)) = blE y x := by
  unfold blE
  rw [bl_total, Bool.not_not]

theorem run_del (x y : ByteArray) (w : World) : (Instr.build ty_impl_Change #[(0, (.string x)), (1, (.bool true)), (2, (.string y))]).run Tryz.prog w = .ok (.agg (chC ⟨x, true, y, false, ⟨#[]⟩⟩).toArray) w := by kernel_rfl
theorem run_addc (x y : ByteArray) (w : World) : (Instr.build ty_impl_Change #[(0, (.string x)), (3, (.bool true)), (4, (.string y))]).run Tryz.prog w = .ok (.agg (chC ⟨x, false, ⟨#[]⟩, true, y⟩).toArray) w := by kernel_rfl
theorem run_modc (x y z : ByteArray) (w : World) : (Instr.build ty_impl_Change #[(0, (.string x)), (1, (.bool true)), (2, (.string y)), (3, (.bool true)), (4, (.string z))]).run Tryz.prog w = .ok (.agg (chC ⟨x, true, y, true, z⟩).toArray) w := by kernel_rfl
theorem es_sub1 {w : World} {s : Sl} {a : PE} {r : List PE} (h : EsR w s (a :: r)) : EsR w ⟨if s.c = 1 then s.a else s.a.map (·.add (1 * 2)), s.n - 1, s.c - 1⟩ r := by
  have hn := h.n
  have h2 := EsR.sub h 1 s.n (by rw [hn]; simp) (Nat.le_refl _)
  rw [List.drop_succ_cons, List.drop_zero, List.take_of_length_le (by rw [hn]; simp)] at h2
  exact h2

theorem es_head {w : World} {s : Sl} {x : PE} {r : List PE} (h : EsR w s (x :: r)) : ∃ p, s.a = some p ∧ ∀ v : World, At w v [] → ldOk v 1 ((p.add (((0 : Int)).toNat * 2)).add 0) .str x.1 ∧ ldOk v 1 ((p.add (((0 : Int)).toNat * 2)).add 1) .str x.2 := by
  obtain ⟨e, p, he, _, hp, _, _, _⟩ := EsR.get h (i := 0) (by simp)
  refine ⟨p, hp, fun v hA => ?_⟩
  obtain ⟨e, q, he, _, hq, _, h0, h1⟩ := EsR.get (SlOf.at h hA) (i := 0) (by simp)
  simp at he
  subst he
  rw [hp] at hq
  cases hq
  exact ⟨h0, h1⟩
theorem ch_snoc {w w' : World} {s : Sl} {out : List PCh} {c : PCh} (h : SlO w w' [] ty_impl_Change 5 s (out.flatMap chC ++ (Value.agg (chC c).toArray).cells.toList)) : SlO w w' [] ty_impl_Change 5 s ((out ++ [c]).flatMap chC) := by
  rw [List.flatMap_append, List.flatMap_singleton]
  simpa [Value.cells] using h

theorem c_changes {w : World} {s t : Sl} {A B : List PE} (hs : EsR w s A) (ht : EsR w t B) (hma : A.length ≤ 1000000) (hmb : B.length ≤ 1000000) : Ret Tryz.prog n_impl_changes [.slice s.a s.n s.c, .slice t.a t.n t.c] w [.slice] (fun r w' => SlO w w' [] ty_impl_Change 5 r ((chgL A B).flatMap chC) ∧ r.n = (chgL A B).length) := impl_changes_calls _ _ (by
  unfold impl_changes
  generalize hT : chgL A B = T
  unfold chgL at hT
  refine r_bs0 T_sl_Change (At.refl w) fun y6 w1 hy hyn => ?_
  refine r_loop (σ := Sl × Sl × Sl) (fun st w' => ∃ (f : Nat) (a b : List PE) (out : List PCh), EsR w st.1 a ∧ EsR w st.2.1 b ∧ a.length + b.length ≤ f ∧ a.length + b.length + out.length ≤ 2000000 ∧ out ++ chgF f a b = T ∧ SlO w w' [] ty_impl_Change 5 st.2.2 (out.flatMap chC) ∧ st.2.2.n = out.length) (fun st _ => st.1.n + st.2.1.n) (s, t, y6) rfl
    ⟨A.length + B.length, A, B, [], hs, ht, Nat.le_refl _, by simp; omega, by simpa using hT, by simpa using hy, by simpa using hyn⟩ ?_
  clear hy hyn
  rintro ⟨sa, sb, so⟩ w2 ⟨f, a, b, out, ha, hb, hf, hsum, hans, hS, hsn⟩
  dsimp only at ha hb hS hsn
  have han := ha.n
  have hbn := hb.n
  have hac := ha.cap
  have hbc := hb.cap
  refine r_any fun _ => ?_
  dsimp only
  refine r_join (σ := Unit) (fun _ w' => (a ≠ [] ∨ b ≠ []) ∧ SlO w w' [] ty_impl_Change 5 so (out.flatMap chC)) (fun _ w3 ⟨hne, hS⟩ => ?_) ?_
  · refine r_any fun _ => ?_
    have hf1 : ∃ f', f = f' + 1 := ⟨f - 1, by
      rcases hne with h | h
      · have := List.length_pos_iff.2 h; omega
      · have := List.length_pos_iff.2 h; omega⟩
    obtain ⟨f, rfl⟩ := hf1
    refine r_join (σ := Bool) (fun c w' => (c = true → ∃ x r, a = x :: r ∧ (b = [] ∨ ∃ y s, b = y :: s ∧ blE x y = true)) ∧ (c = false → ∃ y s, b = y :: s ∧ (a = [] ∨ ∃ x r, a = x :: r ∧ blE x y = false)) ∧ SlO w w' [] ty_impl_Change 5 so (out.flatMap chC)) (fun c w4 ⟨hct, hcf, hS⟩ => ?_) ?_
    · refine r_any fun _ => ?_
      cases c with
      | true =>
        obtain ⟨x, r, rfl, hb2⟩ := hct rfl
        rw [chgF_a hb2] at hans
        rw [List.length_cons] at han hf hsum
        obtain ⟨p, hp, hld⟩ := es_head ha
        obtain ⟨L, hO, h⟩ := hS.split
        refine r_true rfl ?_
        refine r_draw h fun w5 h => ?_
        refine r_ix p hp (by omega) (by omega) ?_
        refine r_ldN (sh := .str) x.1 (hld _ h.nil).1 ?_
        refine r_ix p hp (by omega) (by omega) ?_
        refine r_ldN (sh := .str) x.2 (hld _ h.nil).2 ?_
        refine r_pur (sh := .agg) _ (run_del x.1 x.2) ?_
        refine r_bs1 T_sl_Change h rfl (by omega) fun y74 w6 hy hyn => ?_
        obtain ⟨Ly, hOy, h⟩ := hy.split
        have h : At w w6 (Ly ++ (L ++ [])) := h
        refine r_chk2 (hld _ h.nil).2 (hld _ h.nil).1 ?_
        refine r_append T_sl_Change (hO.slo h.pl1) (hOy.sl h (List.sublist_append_left _ _)) (by simpa [Value.cells] using chC_one _) (by omega) (by omega) fun y75 w7 hS7 hn7 => ?_
        refine r_chk2 (hld _ hS7.at_.nil).2 (hld _ hS7.at_.nil).1 ?_
        refine r_sl 1 sa.n rfl rfl (by omega) hac ?_
        refine ⟨(_, sb, y75), rfl, ⟨f, r, b, out ++ [delC x], es_sub1 ha, hb, by omega, by rw [List.length_append]; simp; omega, by rw [← hans]; simp, ch_snoc hS7.base, by dsimp only; rw [List.length_append]; simp; omega⟩, by dsimp only; omega⟩
      | false =>
        obtain ⟨y, s', rfl, ha2⟩ := hcf rfl
        refine r_false rfl ?_
        rw [List.length_cons] at hbn hf hsum
        obtain ⟨q, hq, hldb⟩ := es_head hb
        refine r_join (σ := Bool) (fun c w' => (c = true → a = [] ∨ ∃ x r, a = x :: r ∧ blE x y = false ∧ blE y x = true) ∧ (c = false → ∃ x r, a = x :: r ∧ blE x y = false ∧ blE y x = false) ∧ SlO w w' [] ty_impl_Change 5 so (out.flatMap chC)) (fun c w5 ⟨hdt, hdf, hS⟩ => ?_) ?_
        · refine r_any fun _ => ?_
          obtain ⟨L, hO, h⟩ := hS.split
          cases c with
          | true =>
            rw [chgF_b (hdt rfl)] at hans
            refine r_true rfl ?_
            refine r_draw h fun w6 h => ?_
            refine r_ix q hq (by omega) (by omega) ?_
            refine r_ldN (sh := .str) y.1 (hldb _ h.nil).1 ?_
            refine r_ix q hq (by omega) (by omega) ?_
            refine r_ldN (sh := .str) y.2 (hldb _ h.nil).2 ?_
            refine r_pur (sh := .agg) _ (run_addc y.1 y.2) ?_
            refine r_bs1 T_sl_Change h rfl (by omega) fun y74 w7 hy hyn => ?_
            obtain ⟨Ly, hOy, h⟩ := hy.split
            have h : At w w7 (Ly ++ (L ++ [])) := h
            refine r_chk2 (hldb _ h.nil).2 (hldb _ h.nil).1 ?_
            refine r_append T_sl_Change (hO.slo h.pl1) (hOy.sl h (List.sublist_append_left _ _)) (by simpa [Value.cells] using chC_one _) (by omega) (by omega) fun y75 w8 hS7 hn7 => ?_
            refine r_chk2 (hldb _ hS7.at_.nil).2 (hldb _ hS7.at_.nil).1 ?_
            refine r_sl 1 sb.n rfl rfl (by omega) hbc ?_
            refine ⟨(sa, _, y75), rfl, ⟨f, a, s', out ++ [addC y], ha, es_sub1 hb, by omega, by rw [List.length_append]; simp; omega, by rw [← hans]; simp, ch_snoc hS7.base, by dsimp only; rw [List.length_append]; simp; omega⟩, by dsimp only; omega⟩
          | false =>
            obtain ⟨x, r, rfl, hx1, hx2⟩ := hdf rfl
            rw [chgF_c hx1 hx2] at hans
            rw [List.length_cons] at han hf hsum
            obtain ⟨p, hp, hld⟩ := es_head ha
            refine r_false rfl ?_
            refine r_draw h fun w6 h => ?_
            refine r_ix p hp (by omega) (by omega) ?_
            refine r_ldN (sh := .str) x.2 (hld _ h.nil).2 ?_
            refine r_ix q hq (by omega) (by omega) ?_
            refine r_ldN (sh := .str) y.2 (hldb _ h.nil).2 ?_
            refine r_pur (sh := .bool) (neE x y) (fun w' => run_neq_str _ _ _ _ _ w') ?_
            cases hne2 : neE x y with
            | true =>
              rw [hne2, if_pos rfl] at hans
              refine r_true rfl ?_
              refine r_draw h fun w7 h => ?_
              refine r_ix p hp (by omega) (by omega) ?_
              refine r_ldN (sh := .str) x.1 (hld _ h.nil).1 ?_
              refine r_ix p hp (by omega) (by omega) ?_
              refine r_ldN (sh := .str) x.2 (hld _ h.nil).2 ?_
              refine r_ix q hq (by omega) (by omega) ?_
              refine r_ldN (sh := .str) y.2 (hldb _ h.nil).2 ?_
              refine r_pur (sh := .agg) _ (run_modc x.1 x.2 y.2) ?_
              refine r_bs1 T_sl_Change h rfl (by omega) fun y38 w8 hy hyn => ?_
              obtain ⟨Ly, hOy, h⟩ := hy.split
              have h : At w w8 (Ly ++ (L ++ [])) := h
              refine r_chk3 (hldb _ h.nil).2 (hld _ h.nil).2 (hld _ h.nil).1 ?_
              refine r_append T_sl_Change (hO.slo h.pl1) (hOy.sl h (List.sublist_append_left _ _)) (by simpa [Value.cells] using chC_one _) (by omega) (by omega) fun y39 w9 hS7 hn7 => ?_
              refine r_chk3 (hldb _ hS7.at_.nil).2 (hld _ hS7.at_.nil).2 (hld _ hS7.at_.nil).1 ?_
              refine r_drawB hS7.at_ fun w10 _ hb10 => ?_
              have hS7 := hS7.trans hb10
              refine r_sl 1 sa.n rfl rfl (by omega) hac ?_
              refine r_sl 1 sb.n rfl rfl (by omega) hbc ?_
              refine ⟨(_, _, y39), rfl, ⟨f, r, s', out ++ [modC x y], es_sub1 ha, es_sub1 hb, by omega, by rw [List.length_append]; simp; omega, by rw [← hans]; simp, ch_snoc hS7.base, by dsimp only; rw [List.length_append]; simp; omega⟩, by dsimp only; omega⟩
            | false =>
              rw [hne2, if_neg (by simp), List.nil_append] at hans
              refine r_false rfl ?_
              refine r_draw h fun w7 h => ?_
              refine r_sl 1 sa.n rfl rfl (by omega) hac ?_
              refine r_sl 1 sb.n rfl rfl (by omega) hbc ?_
              refine ⟨(_, _, so), rfl, ⟨f, r, s', out, es_sub1 ha, es_sub1 hb, by omega, by omega, hans, hO.slo h, hsn⟩, by dsimp only; omega⟩
        · refine r_drawB hS.at_ fun w5 _ hb5 => ?_
          have hS := hS.trans hb5
          refine r_eq (fun h0 => ?_) (fun h0 => ?_)
          · have ha0 : a = [] := List.eq_nil_of_length_eq_zero (by omega)
            exact ⟨true, rfl, fun _ => .inl ha0, fun hh => (by cases hh), hS⟩
          · obtain ⟨x, r, hxr, hx1⟩ := ha2.resolve_left (fun hh => by rw [hh] at han; simp at han; omega)
            subst hxr
            rw [List.length_cons] at han
            obtain ⟨p, hp, hld⟩ := es_head ha
            refine r_ix p hp (by omega) (by omega) ?_
            refine r_ldN (sh := .str) x.1 (hld _ hS.at_).1 ?_
            refine r_ix q hq (by omega) (by omega) ?_
            refine r_ldN (sh := .str) y.1 (hldb _ hS.at_).1 ?_
            refine r_pur (sh := .bool) _ (fun w' => run_gtr_str _ _ _ _ _ w') ?_
            rw [bl_gtr x y]
            exact ⟨blE y x, rfl, fun hh => .inr ⟨x, r, rfl, hx1, hh⟩, fun hh => ⟨x, r, rfl, hx1, hh⟩, hS⟩
    · refine r_drawB hS.at_ fun w4 _ hb4 => ?_
      have hS := hS.trans hb4
      refine r_eq (fun h0 => ?_) (fun h0 => ?_)
      · have hb0 : b = [] := List.eq_nil_of_length_eq_zero (by omega)
        subst hb0
        cases a with
        | nil => exact absurd hne (by simp)
        | cons x r => exact ⟨true, rfl, fun _ => ⟨x, r, rfl, .inl rfl⟩, fun hh => (by cases hh), hS⟩
      · cases b with
        | nil => simp at hbn; omega
        | cons y s' =>
        refine r_if ((sa.n : Int) > 0) rfl (fun hpos => ?_) (fun hz => ?_)
        · cases a with
          | nil => simp at han; omega
          | cons x r =>
          rw [List.length_cons] at han hbn
          obtain ⟨p, hp, hld⟩ := es_head ha
          obtain ⟨q, hq, hldb⟩ := es_head hb
          refine r_ix p hp (by omega) (by omega) ?_
          refine r_ldN (sh := .str) x.1 (hld _ hS.at_).1 ?_
          refine r_ix q hq (by omega) (by omega) ?_
          refine r_ldN (sh := .str) y.1 (hldb _ hS.at_).1 ?_
          refine r_pur (sh := .bool) (blE x y) (fun w' => run_lss_str _ _ _ _ _ w') ?_
          exact ⟨blE x y, rfl, fun hh => ⟨x, r, rfl, .inr ⟨y, s', rfl, hh⟩⟩, fun hh => ⟨y, s', rfl, .inr ⟨x, r, rfl, hh⟩⟩, hS⟩
        · have ha0 : a = [] := List.eq_nil_of_length_eq_zero (by omega)
          exact ⟨false, rfl, fun hh => (by cases hh), fun _ => ⟨y, s', rfl, .inl ha0⟩, hS⟩
  · refine r_if ((sa.n : Int) > 0) rfl (fun hpos => ?_) (fun hz => ?_)
    · exact ⟨(), rfl, .inl (fun hh => by subst hh; simp at han; omega), hS⟩
    · refine r_if ((sb.n : Int) > 0) rfl (fun hpos => ?_) (fun hz2 => ?_)
      · exact ⟨(), rfl, .inr (fun hh => by subst hh; simp at hbn; omega), hS⟩
      · have ha0 : a = [] := List.eq_nil_of_length_eq_zero (by omega)
        have hb0 : b = [] := List.eq_nil_of_length_eq_zero (by omega)
        subst ha0 hb0
        have ho : out = T := by
          cases f with
          | zero => simpa [chgF] using hans
          | succ f => simpa [chgF] using hans
        subst ho
        exact r_ret hS.at_ so rfl ⟨hS, hsn⟩)

theorem es_nth {w : World} {s : Sl} {A : List PE} {i : Nat} {x : PE} {r : List PE} (h : EsR w s A) (hd : A.drop i = x :: r) : i < A.length ∧ A.drop (i + 1) = r ∧ ∃ p, s.a = some p ∧ ∀ v : World, At w v [] → ldOk v 1 ((p.add (((i : Nat) : Int).toNat * 2)).add 0) .str x.1 ∧ ldOk v 1 ((p.add (((i : Nat) : Int).toNat * 2)).add 1) .str x.2 := by
  have hi : i < A.length := by
    rcases Nat.lt_or_ge i A.length with h | h
    · exact h
    · rw [List.drop_of_length_le h] at hd; cases hd
  have hx : A[i]? = some x := by
    have := congrArg (·[0]?) hd
    simpa using this
  have hr : A.drop (i + 1) = r := by
    rw [← List.drop_drop, hd]
    rfl
  obtain ⟨e, p, he, _, hp, _, _, _⟩ := EsR.get h hi
  refine ⟨hi, hr, p, hp, fun v hA => ?_⟩
  obtain ⟨e, q, he, _, hq, _, h0, h1⟩ := EsR.get (SlOf.at h hA) hi
  rw [hx] at he
  cases he
  rw [hp] at hq
  cases hq
  exact ⟨h0, h1⟩
theorem c_l04Changes {w : World} {s t : Sl} {A B : List PE} (hs : EsR w s A) (ht : EsR w t B) (hma : A.length ≤ 1000000) (hmb : B.length ≤ 1000000) : Ret Tryz.prog n_spec_l04Changes [.slice s.a s.n s.c, .slice t.a t.n t.c] w [.slice] (fun r w' => SlO w w' [] ty_impl_Change 5 r ((chgL A B).flatMap chC) ∧ r.n = (chgL A B).length) := spec_l04Changes_calls _ _ (by
  unfold spec_l04Changes
  generalize hT : chgL A B = T
  unfold chgL at hT
  have han := hs.n
  have hbn := ht.n
  refine r_bs0 T_sl_Change (At.refl w) fun y8 w1 hy hyn => ?_
  refine r_loop (σ := Sl × Int × Int) (fun st w' => ∃ (f i k : Nat) (out : List PCh), st.2.1 = i ∧ st.2.2 = k ∧ i ≤ A.length ∧ k ≤ B.length ∧ (A.length - i) + (B.length - k) ≤ f ∧ (A.length - i) + (B.length - k) + out.length ≤ 2000000 ∧ out ++ chgF f (A.drop i) (B.drop k) = T ∧ SlO w w' [] ty_impl_Change 5 st.1 (out.flatMap chC) ∧ st.1.n = out.length) (fun st _ => (A.length + B.length - st.2.1 - st.2.2 : Int).toNat) (y8, 0, 0) rfl
    ⟨A.length + B.length, 0, 0, [], rfl, rfl, by omega, by omega, by omega, by simp; omega, by simpa using hT, by simpa using hy, by simpa using hyn⟩ ?_
  clear hy hyn
  rintro ⟨so, i, k⟩ w2 ⟨f, i, k, out, hi0, hk0, hi, hk, hf, hsum, hans, hS, hsn⟩
  dsimp only at hi0 hk0 hS hsn
  subst hi0
  subst hk0
  refine r_any fun _ => ?_
  dsimp only
  obtain ⟨a, ha⟩ : ∃ a, a = A.drop i := ⟨_, rfl⟩
  obtain ⟨b, hb⟩ : ∃ b, b = B.drop k := ⟨_, rfl⟩
  have hal : a.length = A.length - i := by rw [ha, List.length_drop]
  have hbl : b.length = B.length - k := by rw [hb, List.length_drop]
  rw [← ha, ← hb] at hans
  refine r_join (σ := Unit) (fun _ w' => (a ≠ [] ∨ b ≠ []) ∧ SlO w w' [] ty_impl_Change 5 so (out.flatMap chC)) (fun _ w3 ⟨hne, hS⟩ => ?_) ?_
  · refine r_any fun _ => ?_
    have hf1 : ∃ f', f = f' + 1 := ⟨f - 1, by
      rcases hne with h | h
      · have := List.length_pos_iff.2 h; omega
      · have := List.length_pos_iff.2 h; omega⟩
    obtain ⟨f, rfl⟩ := hf1
    refine r_join (σ := Bool) (fun c w' => (c = true → ∃ x r, a = x :: r ∧ (b = [] ∨ ∃ y s, b = y :: s ∧ blE x y = true)) ∧ (c = false → ∃ y s, b = y :: s ∧ (a = [] ∨ ∃ x r, a = x :: r ∧ blE x y = false)) ∧ SlO w w' [] ty_impl_Change 5 so (out.flatMap chC)) (fun c w4 ⟨hct, hcf, hS⟩ => ?_) ?_
    · refine r_any fun _ => ?_
      cases c with
      | true =>
        obtain ⟨x, r, hxr, hb2⟩ := hct rfl
        rw [hxr, chgF_a hb2] at hans
        obtain ⟨hil, hr, p, hp, hld⟩ := es_nth hs (ha.symm.trans hxr)
        obtain ⟨L, hO, h⟩ := hS.split
        refine r_true rfl ?_
        refine r_draw h fun w5 h => ?_
        refine r_ix p hp (by omega) (by omega) ?_
        refine r_ldN (sh := .str) x.1 (hld _ h.nil).1 ?_
        refine r_ix p hp (by omega) (by omega) ?_
        refine r_ldN (sh := .str) x.2 (hld _ h.nil).2 ?_
        refine r_pur (sh := .agg) _ (run_del x.1 x.2) ?_
        refine r_bs1 T_sl_Change h rfl (by omega) fun y74 w6 hy hyn => ?_
        obtain ⟨Ly, hOy, h⟩ := hy.split
        have h : At w w6 (Ly ++ (L ++ [])) := h
        refine r_chk2 (hld _ h.nil).2 (hld _ h.nil).1 ?_
        refine r_append T_sl_Change (hO.slo h.pl1) (hOy.sl h (List.sublist_append_left _ _)) (by simpa [Value.cells] using chC_one _) (by omega) (by omega) fun y75 w7 hS7 hn7 => ?_
        refine r_chk2 (hld _ hS7.at_.nil).2 (hld _ hS7.at_.nil).1 ?_
        refine ⟨(y75, ((i + 1 : Nat) : Int), ((k : Nat) : Int)), by rw [w64 (by omega) (by omega)]; rfl, ⟨f, i + 1, k, out ++ [delC x], rfl, rfl, by omega, hk, by omega, by rw [List.length_append]; simp; omega, by rw [← hans, hr, ← hb]; simp, ch_snoc hS7.base, by dsimp only; rw [List.length_append]; simp; omega⟩, by dsimp only; omega⟩
      | false =>
        obtain ⟨y, s', hys, ha2⟩ := hcf rfl
        refine r_false rfl ?_
        obtain ⟨hkl, hs', q, hq, hldb⟩ := es_nth ht (hb.symm.trans hys)
        refine r_join (σ := Bool) (fun c w' => (c = true → a = [] ∨ ∃ x r, a = x :: r ∧ blE x y = false ∧ blE y x = true) ∧ (c = false → ∃ x r, a = x :: r ∧ blE x y = false ∧ blE y x = false) ∧ SlO w w' [] ty_impl_Change 5 so (out.flatMap chC)) (fun c w5 ⟨hdt, hdf, hS⟩ => ?_) ?_
        · refine r_any fun _ => ?_
          obtain ⟨L, hO, h⟩ := hS.split
          cases c with
          | true =>
            rw [hys, chgF_b (hdt rfl)] at hans
            refine r_true rfl ?_
            refine r_draw h fun w6 h => ?_
            refine r_ix q hq (by omega) (by omega) ?_
            refine r_ldN (sh := .str) y.1 (hldb _ h.nil).1 ?_
            refine r_ix q hq (by omega) (by omega) ?_
            refine r_ldN (sh := .str) y.2 (hldb _ h.nil).2 ?_
            refine r_pur (sh := .agg) _ (run_addc y.1 y.2) ?_
            refine r_bs1 T_sl_Change h rfl (by omega) fun y74 w7 hy hyn => ?_
            obtain ⟨Ly, hOy, h⟩ := hy.split
            have h : At w w7 (Ly ++ (L ++ [])) := h
            refine r_chk2 (hldb _ h.nil).2 (hldb _ h.nil).1 ?_
            refine r_append T_sl_Change (hO.slo h.pl1) (hOy.sl h (List.sublist_append_left _ _)) (by simpa [Value.cells] using chC_one _) (by omega) (by omega) fun y75 w8 hS7 hn7 => ?_
            refine r_chk2 (hldb _ hS7.at_.nil).2 (hldb _ hS7.at_.nil).1 ?_
            refine ⟨(y75, ((i : Nat) : Int), ((k + 1 : Nat) : Int)), by rw [w64 (by omega) (by omega)]; rfl, ⟨f, i, k + 1, out ++ [addC y], rfl, rfl, hi, by omega, by omega, by rw [List.length_append]; simp; omega, by rw [← hans, hs', ← ha]; simp, ch_snoc hS7.base, by dsimp only; rw [List.length_append]; simp; omega⟩, by dsimp only; omega⟩
          | false =>
            obtain ⟨x, r, hxr, hx1, hx2⟩ := hdf rfl
            rw [hys, hxr, chgF_c hx1 hx2] at hans
            obtain ⟨hil, hr, p, hp, hld⟩ := es_nth hs (ha.symm.trans hxr)
            refine r_false rfl ?_
            refine r_draw h fun w6 h => ?_
            refine r_ix p hp (by omega) (by omega) ?_
            refine r_ldN (sh := .str) x.2 (hld _ h.nil).2 ?_
            refine r_ix q hq (by omega) (by omega) ?_
            refine r_ldN (sh := .str) y.2 (hldb _ h.nil).2 ?_
            refine r_pur (sh := .bool) (neE x y) (fun w' => run_neq_str _ _ _ _ _ w') ?_
            cases hne2 : neE x y with
            | true =>
              rw [hne2, if_pos rfl] at hans
              refine r_true rfl ?_
              refine r_draw h fun w7 h => ?_
              refine r_ix p hp (by omega) (by omega) ?_
              refine r_ldN (sh := .str) x.1 (hld _ h.nil).1 ?_
              refine r_ix p hp (by omega) (by omega) ?_
              refine r_ldN (sh := .str) x.2 (hld _ h.nil).2 ?_
              refine r_ix q hq (by omega) (by omega) ?_
              refine r_ldN (sh := .str) y.2 (hldb _ h.nil).2 ?_
              refine r_pur (sh := .agg) _ (run_modc x.1 x.2 y.2) ?_
              refine r_bs1 T_sl_Change h rfl (by omega) fun y38 w8 hy hyn => ?_
              obtain ⟨Ly, hOy, h⟩ := hy.split
              have h : At w w8 (Ly ++ (L ++ [])) := h
              refine r_chk3 (hldb _ h.nil).2 (hld _ h.nil).2 (hld _ h.nil).1 ?_
              refine r_append T_sl_Change (hO.slo h.pl1) (hOy.sl h (List.sublist_append_left _ _)) (by simpa [Value.cells] using chC_one _) (by omega) (by omega) fun y39 w9 hS7 hn7 => ?_
              refine r_chk3 (hldb _ hS7.at_.nil).2 (hld _ hS7.at_.nil).2 (hld _ hS7.at_.nil).1 ?_
              refine ⟨(y39, ((i + 1 : Nat) : Int), ((k + 1 : Nat) : Int)), by rw [w64 (by omega) (by omega), w64 (by omega) (by omega)]; rfl, ⟨f, i + 1, k + 1, out ++ [modC x y], rfl, rfl, by omega, by omega, by omega, by rw [List.length_append]; simp; omega, by rw [← hans, hr, hs']; simp, ch_snoc hS7.base, by dsimp only; rw [List.length_append]; simp; omega⟩, by dsimp only; omega⟩
            | false =>
              rw [hne2, if_neg (by simp), List.nil_append] at hans
              refine r_false rfl ?_
              refine ⟨(so, ((i + 1 : Nat) : Int), ((k + 1 : Nat) : Int)), by rw [w64 (by omega) (by omega), w64 (by omega) (by omega)]; rfl, ⟨f, i + 1, k + 1, out, rfl, rfl, by omega, by omega, by omega, by omega, by rw [hr, hs']; exact hans, hO.slo h, hsn⟩, by dsimp only; omega⟩
        · refine r_drawB hS.at_ fun w5 _ hb5 => ?_
          have hS := hS.trans hb5
          refine r_eq (fun h0 => ?_) (fun h0 => ?_)
          · have ha0 : a = [] := List.eq_nil_of_length_eq_zero (by omega)
            exact ⟨true, rfl, fun _ => .inl ha0, fun hh => (by cases hh), hS⟩
          · obtain ⟨x, r, hxr, hx1⟩ := ha2.resolve_left (fun hh => by rw [hh] at hal; simp at hal; omega)
            obtain ⟨hil, hr, p, hp, hld⟩ := es_nth hs (ha.symm.trans hxr)
            refine r_ix q hq (by omega) (by omega) ?_
            refine r_ldN (sh := .str) y.1 (hldb _ hS.at_).1 ?_
            refine r_ix p hp (by omega) (by omega) ?_
            refine r_ldN (sh := .str) x.1 (hld _ hS.at_).1 ?_
            refine r_pur (sh := .bool) (blE y x) (fun w' => run_lss_str _ _ _ _ _ w') ?_
            exact ⟨blE y x, rfl, fun hh => .inr ⟨x, r, hxr, hx1, hh⟩, fun hh => ⟨x, r, hxr, hx1, hh⟩, hS⟩
    · refine r_drawB hS.at_ fun w4 _ hb4 => ?_
      have hS := hS.trans hb4
      refine r_eq (fun h0 => ?_) (fun h0 => ?_)
      · have hb0 : b = [] := List.eq_nil_of_length_eq_zero (by omega)
        cases hac : a with
        | nil => exact absurd hne (by simp [hac, hb0])
        | cons x r => exact ⟨true, rfl, fun _ => ⟨x, r, rfl, .inl hb0⟩, fun hh => (by cases hh), hS⟩
      · cases hbc : b with
        | nil => rw [hbc] at hbl; simp at hbl; omega
        | cons y s' =>
        obtain ⟨hkl, hs', q, hq, hldb⟩ := es_nth ht (hb.symm.trans hbc)
        refine r_if ((i : Int) < (s.n : Int)) rfl (fun hpos => ?_) (fun hz => ?_)
        · cases hac : a with
          | nil => rw [hac] at hal; simp at hal; omega
          | cons x r =>
          obtain ⟨hil, hr, p, hp, hld⟩ := es_nth hs (ha.symm.trans hac)
          refine r_ix p hp (by omega) (by omega) ?_
          refine r_ldN (sh := .str) x.1 (hld _ hS.at_).1 ?_
          refine r_ix q hq (by omega) (by omega) ?_
          refine r_ldN (sh := .str) y.1 (hldb _ hS.at_).1 ?_
          refine r_pur (sh := .bool) (blE x y) (fun w' => run_lss_str _ _ _ _ _ w') ?_
          exact ⟨blE x y, rfl, fun hh => ⟨x, r, rfl, .inr ⟨y, s', rfl, hh⟩⟩, fun hh => ⟨y, s', rfl, .inr ⟨x, r, rfl, hh⟩⟩, hS⟩
        · have ha0 : a = [] := List.eq_nil_of_length_eq_zero (by omega)
          exact ⟨false, rfl, fun hh => (by cases hh), fun _ => ⟨y, s', rfl, .inl ha0⟩, hS⟩
  · refine r_if ((i : Int) < (s.n : Int)) rfl (fun hpos => ?_) (fun hz => ?_)
    · exact ⟨(), rfl, .inl (fun hh => by rw [hh] at hal; simp at hal; omega), hS⟩
    · refine r_if ((k : Int) < (t.n : Int)) rfl (fun hpos => ?_) (fun hz2 => ?_)
      · exact ⟨(), rfl, .inr (fun hh => by rw [hh] at hbl; simp at hbl; omega), hS⟩
      · have ha0 : a = [] := List.eq_nil_of_length_eq_zero (by omega)
        have hb0 : b = [] := List.eq_nil_of_length_eq_zero (by omega)
        rw [ha0, hb0] at hans
        have ho : out = T := by
          cases f with
          | zero => simpa [chgF] using hans
          | succ f => simpa [chgF] using hans
        subst ho
        exact r_ret hS.at_ so rfl ⟨hS, hsn⟩)
end Go.Proofs.YtaadgdbegpmlmaaGreat
