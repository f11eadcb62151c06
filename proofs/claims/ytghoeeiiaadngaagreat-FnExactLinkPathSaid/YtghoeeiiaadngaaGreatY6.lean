/- Is a key in a slice of keys (reference); a slice of keys turned round (library). -/
import Derived.Test.YtghoeeiiaadngaaGreatY5
namespace Go.Proofs.YtghoeeiiaadngaaGreat
open Go.Sx Go.RowKit

theorem c_l01Has {w : World} {s : Sl} {ks : List (List Int)} {k : List Int} (hs : KsR w s ks) (hk : keyOk k) (hmax : ks.length ≤ 1073741824) : Ret Tryz.prog n_spec_l01Has [.slice s.a s.n s.c, .agg (u8s k).toArray] w [.bool] (fun r _ => r = decide (k ∈ ks)) := spec_l01Has_calls _ _ (by
  unfold spec_l01Has
  have hn := hs.n
  refine r_new (At.refl w) fun b3 w1 h => ?_
  refine r_loop (σ := Int) (fun i w' => ∃ j : Nat, i = j ∧ j ≤ ks.length ∧ k ∉ ks.take j ∧ At w w' [(b3, (u8s k).toArray, ty_impl_Key)]) (fun i _ => (s.n - i).toNat) 0 rfl ⟨0, rfl, by omega, by simp, h⟩ ?_
  rintro i w2 ⟨j, rfl, hj, hnot, h⟩
  refine r_any fun _ => ?_
  refine r_if ((j : Int) < (s.n : Int)) rfl (fun hlt => ?_) (fun hge => ?_)
  · refine r_draw h fun w3 h => ?_
    obtain ⟨x, q, hx, hxm, hq, hxo, hxl⟩ := (hs.at h).get (i := j) (by omega)
    refine r_ix q hq (by omega) (by omega) ?_
    refine r_ldN (u8s x).toArray (by simp only [Int.toNat_natCast]; exact hxl) ?_
    refine r_ldA h 0 rfl rfl (by simp [hk.1]) ?_
    refine r_pur _ (fun w' => run_eql_key _ _ hxo.1 hk.1 w') ?_
    by_cases he : x = k
    · subst he
      refine r_true (decide_eq_true rfl) ?_
      exact r_ret h.nil true rfl (decide_eq_true hxm).symm
    · refine r_false (decide_eq_false he) ?_
      refine ⟨((j + 1 : Nat) : Int), by rw [w64 (by omega) (by omega)]; rfl, ⟨j + 1, rfl, by omega, ?_, h⟩, by omega⟩
      rw [take_succ_get hx, List.mem_append, List.mem_singleton]
      rintro (hh | hh)
      · exact hnot hh
      · exact he hh.symm
  · have : j = ks.length := by omega
    subst this
    rw [List.take_of_length_le (Nat.le_refl _)] at hnot
    exact r_ret h.nil false rfl (decide_eq_false hnot).symm)

theorem flatMap_cut {α : Type} {z : Nat} {f : α → List Value} (n : Nat) : ∀ ys : List α, (∀ x ∈ ys, (f x).length = z) → (ys.flatMap f).take (n * z) = (ys.take n).flatMap f ∧ (ys.flatMap f).drop (n * z) = (ys.drop n).flatMap f := by
  induction n with
  | zero => intro ys _; simp
  | succ n ih =>
    intro ys hy
    cases ys with
    | nil => simp
    | cons y r =>
      have hz := hy y (by simp)
      obtain ⟨i1, i2⟩ := ih r (fun x hx => hy x (by simp [hx]))
      rw [List.flatMap_cons, Nat.add_mul, Nat.one_mul, Nat.add_comm, List.take_succ_cons, List.drop_succ_cons, List.flatMap_cons]
      constructor
      · rw [List.take_append, hz, List.take_of_length_le (by omega), Nat.add_sub_cancel_left, i1]
      · rw [List.drop_append, hz, List.drop_eq_nil_of_le (by omega), Nat.add_sub_cancel_left, i2, List.nil_append]
theorem flatMap_set {α : Type} {z : Nat} {f : α → List Value} {l : List α} (hl : ∀ x ∈ l, (f x).length = z) {i : Nat} (hi : i < l.length) (y : α) : (l.flatMap f).take (i * z) ++ f y ++ (l.flatMap f).drop (i * z + z) = (l.set i y).flatMap f := by
  rw [show i * z + z = (i + 1) * z by rw [Nat.add_mul, Nat.one_mul], (flatMap_cut i l hl).1, (flatMap_cut (i + 1) l hl).2, List.set_eq_take_append_cons_drop, if_pos hi]
  simp

theorem c_Reverse {w0 w : World} {ls L : List Blk} {s : Sl} {ks : List (List Int)} (hA : At w0 w (L ++ ls)) (hO : OwnS ty_impl_Key 32 s (ks.flatMap u8s) L) (hk : ∀ k ∈ ks, keyOk k) (hmax : ks.length ≤ 1073741824) :
    Calls Tryz.prog n_slices_Reverse_sl_impl_Key_impl_Key [.slice s.a s.n s.c].toArray w fun e w' => ∃ v, e = .returned v ∧ v = .tuple #[] ∧ ∃ L', At w0 w' (L' ++ ls) ∧ OwnS ty_impl_Key 32 s (ks.reverse.flatMap u8s) L' := slices_Reverse_sl_impl_Key_impl_Key_calls s (by
  unfold slices_Reverse_sl_impl_Key_impl_Key
  have hn : s.n = ks.length := by have := hO.1; rw [flatMap_length (z := 32) (fun x hx => by rw [u8s_len]; exact (hk x hx).1)] at this; omega
  have e0 : IntKind.wrap .i64 ((s.n : Int) - 1) = (ks.length : Int) - 1 := by rw [w64 (by omega) (by omega), hn]
  rw [e0]
  refine r_loop (σ := Int × Int) (fun i w' => ∃ (j : Nat) (cur : List (List Int)) (L : List Blk), i = ((j : Int), (ks.length : Int) - 1 - j) ∧ 2 * j ≤ ks.length + 1 ∧ cur.length = ks.length ∧ (∀ m, m < ks.length → cur[m]? = if m < j ∨ ks.length - 1 - j < m then ks[ks.length - 1 - m]? else ks[m]?) ∧ (∀ x ∈ cur, keyOk x) ∧ OwnS ty_impl_Key 32 s (cur.flatMap u8s) L ∧ At w0 w' (L ++ ls)) (fun i _ => (i.2 - i.1 + 2).toNat) (0, (ks.length : Int) - 1) rfl
    ⟨0, ks, L, by simp, by omega, rfl, fun m hm => by rw [if_neg (by omega)], hk, hO, hA⟩ ?_
  rintro i w2 ⟨j, cur, L, rfl, hj, hcl, hcur, hck, hO, h⟩
  refine r_any fun _ => ?_
  dsimp only
  have hzz : ∀ x ∈ cur, (u8s x).length = 32 := fun x hx => by rw [u8s_len]; exact (hck x hx).1
  refine r_if ((j : Int) < (ks.length : Int) - 1 - j) rfl (fun hlt => ?_) (fun hge => ?_)
  · obtain ⟨jj, hjj⟩ : ∃ jj : Nat, jj = ks.length - 1 - j := ⟨_, rfl⟩
    have ej : (ks.length : Int) - 1 - j = (jj : Int) := by omega
    rw [ej]
    refine r_draw h fun w3 h => ?_
    have rd := ownS_ks hO h (List.sublist_append_left _ _) hck
    obtain ⟨p, hp⟩ := hO.addr (by omega)
    obtain ⟨b, q, hb, hbm, hq, hbo, hbl⟩ := rd.get (i := jj) (by omega)
    obtain ⟨a, q', ha, ham, hq', hao, hal⟩ := rd.get (i := j) (by omega)
    rw [hp] at hq hq'
    cases hq
    cases hq'
    refine r_ix p hp (by omega) (by omega) ?_
    refine r_ldN (u8s b).toArray (by simp only [Int.toNat_natCast]; exact hbl) ?_
    refine r_ix p hp (by omega) (by omega) ?_
    refine r_ldN (u8s a).toArray (by simp only [Int.toNat_natCast]; exact hal) ?_
    refine r_ix p hp (by omega) (by omega) ?_
    have hfl : (cur.flatMap u8s).length = cur.length * 32 := flatMap_length hzz
    refine r_stO h hO hp (j * 32) (by simp) (by simp [Value.cells, hbo.1]) (by omega) (by simpa [Value.cells] using u8s_one) fun w4 L4 h hO4 => ?_
    have e4 : (cur.flatMap u8s).take (j * 32) ++ (Value.agg (u8s b).toArray).cells.toList ++ (cur.flatMap u8s).drop (j * 32 + 32) = (cur.set j b).flatMap u8s := by
      rw [← flatMap_set hzz (by omega)]
      simp [Value.cells]
    rw [e4] at hO4
    have hzz4 : ∀ x ∈ cur.set j b, (u8s x).length = 32 := fun x hx => by
      rcases List.mem_or_eq_of_mem_set hx with hx | rfl
      · exact hzz x hx
      · rw [u8s_len]; exact hbo.1
    have hfl4 : ((cur.set j b).flatMap u8s).length = cur.length * 32 := by rw [flatMap_length hzz4, List.length_set]
    refine r_ix p hp (by omega) (by omega) ?_
    refine r_stO h hO4 hp (jj * 32) (by simp) (by simp [Value.cells, hao.1]) (by omega) (by simpa [Value.cells] using u8s_one) fun w5 L5 h hO5 => ?_
    have e5 : ((cur.set j b).flatMap u8s).take (jj * 32) ++ (Value.agg (u8s a).toArray).cells.toList ++ ((cur.set j b).flatMap u8s).drop (jj * 32 + 32) = ((cur.set j b).set jj a).flatMap u8s := by
      rw [← flatMap_set hzz4 (by rw [List.length_set]; omega)]
      simp [Value.cells]
    rw [e5] at hO5
    refine ⟨(((j + 1 : Nat) : Int), (ks.length : Int) - 1 - ((j + 1 : Nat) : Int)), ?_, ⟨j + 1, (cur.set j b).set jj a, L5, rfl, by omega, by simp [hcl], ?_, ?_, hO5, h⟩, by dsimp only; omega⟩
    · rw [w64 (by omega) (by omega), w64 (by omega) (by omega)]
      simp only [embL, Sh.emb]
      congr 3
      omega
    · intro m hm
      have hcb := hcur jj (by omega)
      have hca := hcur j (by omega)
      rw [if_neg (by omega)] at hcb hca
      rw [hb] at hcb
      rw [ha] at hca
      simp only [List.getElem?_set, List.length_set]
      by_cases h1 : jj = m
      · subst h1
        rw [if_pos rfl, if_pos (by omega), if_pos (by omega), show ks.length - 1 - jj = j by omega, ← hca]
      · rw [if_neg h1]
        by_cases h2 : j = m
        · subst h2
          rw [if_pos rfl, if_pos (by omega), if_pos (by omega), show ks.length - 1 - j = jj by omega, ← hcb]
        · rw [if_neg h2, hcur m hm]
          by_cases h3 : m < j ∨ ks.length - 1 - j < m
          · rw [if_pos h3, if_pos (by omega)]
          · rw [if_neg h3, if_neg (by omega)]
    · intro x hx
      rcases List.mem_or_eq_of_mem_set hx with hx | rfl
      · rcases List.mem_or_eq_of_mem_set hx with hx | rfl
        · exact hck x hx
        · exact hbo
      · exact hao
  · have : cur = ks.reverse := by
      apply List.ext_getElem?
      intro m
      rcases Nat.lt_or_ge m ks.length with hm | hm
      · rw [hcur m hm, List.getElem?_reverse (by omega)]
        by_cases h3 : m < j ∨ ks.length - 1 - j < m
        · rw [if_pos h3]
        · rw [if_neg h3]
          congr 1
          omega
      · rw [List.getElem?_eq_none (by omega), List.getElem?_eq_none (by simp; omega)]
    subst this
    exact r_retR ⟨rfl, L, h, hO⟩)

end Go.Proofs.YtghoeeiiaadngaaGreat
