/- The program's clash: what it finds is one. -/
import Derived.Test.YtjmncaoddfggnaaP5
namespace Go.Proofs.Ytjmncaoddfggnaa
open Go.Sx Go.RowKit

theorem c_clash {w0 : World} : ∀ (f : Nat) (s t : Sl) (l l' : List Int) (w : World) (ls : List Blk), At w0 w ls → KS w0 s l → KS w0 t l' → s.n = t.n → 2 ≤ s.n → s.n ≤ f → s.n ≤ 1024 → l ≠ l' → lk l = lk l' →
    Ret Try.prog n_impl_clash [.slice s.a s.n s.c, .slice t.a t.n t.c] w [.agg] (fun cs _ => ∃ x, cs = (u8s x).toArray ∧ IsClash x)
  | 0, s, t, l, l', w, ls, hA, hs, ht, hst, h2, hf, hm, hne, heq => by omega
  | f + 1, s, t, l, l', w, ls, hA, hs, ht, hst, h2, hf, hm, hne, heq => impl_clash_calls _ _ (by
    unfold impl_clash
    have hl := hs.len
    have hl' := ht.len
    have hs := hs.at hA
    have ht := ht.at hA
    obtain ⟨hh1, hh2⟩ := half_lt h2
    obtain ⟨p1, p2⟩ := half_lens (l := l) (n := s.n) (by omega) h2
    obtain ⟨q1, q2⟩ := half_lens (l := l') (n := s.n) (by omega) h2
    have heq2 := heq
    rw [lk_two (l := l) (n := s.n) (by omega) h2, lk_two (l := l') (n := s.n) (by omega) h2] at heq2
    have q3 : Try.prog.underlying ty_impl_Key = some (.array 32 ty_uint8) := by kernel_rfl
    have q4 : tyOf Try.prog ty_uint8 = some (.int .u8, 1) := by kernel_rfl
    have q5 : Try.prog.eqGuardType Try.prog.depth ty_impl_Key = false := by kernel_rfl
    have hsplit : l.take (32 * half s.n) = l'.take (32 * half s.n) → l.drop (32 * half s.n) ≠ l'.drop (32 * half s.n) := fun h1 h2 => hne (by rw [← List.take_append_drop (32 * half s.n) l, h1, h2, List.take_append_drop])
    have la := lk_len p1
    have lb := lk_len p2
    have lc := lk_len q1
    have ld := lk_len q2
    refine r_new (At.refl w) fun b4 w1 h => ?_
    refine r_callp (c_size_Key s) ?_
    refine r_callp (c_leftOf s.n h2 (by omega)) ?_
    obtain ⟨x, hx⟩ : ∃ x, x = lk (l.take (32 * half s.n)) ++ lk (l.drop (32 * half s.n)) ++ lk (l'.take (32 * half s.n)) ++ lk (l'.drop (32 * half s.n)) := ⟨_, rfl⟩
    have xlen : x.length = 128 := by rw [hx]; simp [la, lb, lc, ld]
    obtain ⟨f0, f1, f2, f3⟩ := four_keys la lb lc ld
    rw [← hx] at f0 f1 f2 f3
    have xok : bytesOk x := by rw [hx]; exact (((lk_ok (hs.ok.take _)).append (lk_ok (hs.ok.drop _))).append (lk_ok (ht.ok.take _))).append (lk_ok (ht.ok.drop _))
    refine r_join (σ := Addr) (fun a w' => ∃ b6, a = ⟨b6, 0, none⟩ ∧ At w w' [(b6, (u8s x).toArray, ty_impl_Clash), (b4, Array.replicate 128 (.int .u8 0), ty_impl_Clash)]) (fun a w2 ha => ?_) ?_
    · obtain ⟨b6, rfl, h⟩ := ha
      refine r_any fun _ => ?_
      refine r_join (σ := Bool) (fun b w' => b = decide (keyAt x 0 ≠ keyAt x 2 ∨ keyAt x 1 ≠ keyAt x 3) ∧ At w w' [(b6, (u8s x).toArray, ty_impl_Clash), (b4, Array.replicate 128 (.int .u8 0), ty_impl_Clash)]) (fun b w3 hb => ?_) ?_
      · obtain ⟨rfl, h⟩ := hb
        refine r_any fun _ => ?_
        refine r_if (keyAt x 0 ≠ keyAt x 2 ∨ keyAt x 1 ≠ keyAt x 3) rfl (fun hc => ?_) (fun hc => ?_)
        · refine r_ldA h 0 rfl rfl (by simp [xlen]) ?_
          refine r_stA h 1 rfl rfl (by simp [xlen]) (by simp) (by simpa using u8s_one) fun w4 h => ?_
          refine r_ldA h 1 rfl rfl (by simp [xlen]) ?_
          exact r_ret h _ rfl ⟨x, rfl, xlen, xok, hc, by rw [f0, f1, f2, f3]; exact heq2⟩
        · have hc1 : keyAt x 0 = keyAt x 2 := Decidable.not_not.1 fun hh => hc (.inl hh)
          have hc2 : keyAt x 1 = keyAt x 3 := Decidable.not_not.1 fun hh => hc (.inr hh)
          rw [f0, f2] at hc1
          rw [f1, f3] at hc2
          refine r_join (σ := Bool) (fun b w' => b = decide (l.take (32 * half s.n) ≠ l'.take (32 * half s.n)) ∧ At w w' [(b6, (u8s x).toArray, ty_impl_Clash), (b4, Array.replicate 128 (.int .u8 0), ty_impl_Clash)]) (fun b w4 hb => ?_) ?_
          · obtain ⟨rfl, h⟩ := hb
            refine r_any fun _ => ?_
            refine r_if (l.take (32 * half s.n) ≠ l'.take (32 * half s.n)) rfl (fun hd => ?_) (fun hd => ?_)
            · refine r_draw h fun w5 h => ?_
              refine r_heads hs rfl (by omega) fun s1 hs1 hn1 => ?_
              refine r_heads ht rfl (by omega) fun t1 ht1 hm1 => ?_
              have h2' : 2 ≤ s1.n := by
                rcases Nat.lt_or_ge s1.n 2 with hlt | hge
                · exact absurd (by rw [← lk_one (l := l.take (32 * half s.n)) (by omega), ← lk_one (l := l'.take (32 * half s.n)) (by omega)]; exact hc1) hd
                · exact hge
              refine r_call h (c_clash f s1 t1 _ _ w5 _ h hs1 ht1 (by omega) h2' (by omega) (by omega) hd hc1) fun k w6 h _ hk => ?_
              obtain ⟨z, rfl, hz⟩ := hk
              refine r_stA h 1 rfl rfl (by simp [hz.len]) (by simp) (by simpa using u8s_one) fun w4 h => ?_
              refine r_ldA h 1 rfl rfl (by simp [hz.len]) ?_
              exact r_ret h _ rfl ⟨z, rfl, hz⟩
            · have hd' := hsplit (Decidable.not_not.1 hd)
              refine r_draw h fun w5 h => ?_
              refine r_rest hs rfl (by omega) fun s1 hs1 hn1 => ?_
              refine r_rest ht rfl (by omega) fun t1 ht1 hm1 => ?_
              have h2' : 2 ≤ s1.n := by
                rcases Nat.lt_or_ge s1.n 2 with hlt | hge
                · exact absurd (by rw [← lk_one (l := l.drop (32 * half s.n)) (by omega), ← lk_one (l := l'.drop (32 * half s.n)) (by omega)]; exact hc2) hd'
                · exact hge
              refine r_call h (c_clash f s1 t1 _ _ w5 _ h hs1 ht1 (by omega) h2' (by omega) (by omega) hd' hc2) fun k w6 h _ hk => ?_
              obtain ⟨z, rfl, hz⟩ := hk
              refine r_stA h 1 rfl rfl (by simp [hz.len]) (by simp) (by simpa using u8s_one) fun w4 h => ?_
              refine r_ldA h 1 rfl rfl (by simp [hz.len]) ?_
              exact r_ret h _ rfl ⟨z, rfl, hz⟩
          · refine r_draw h fun w5 h => ?_
            refine r_heads hs rfl (by omega) fun s1 hs1 hn1 => ?_
            refine r_heads ht rfl (by omega) fun t1 ht1 hm1 => ?_
            refine r_call h (c_Equal (hs1.at h) (ht1.at h) (by omega)) fun r w6 h _ hr => ?_
            subst hr
            exact ⟨_, rfl, by simp, h⟩
      · refine r_ldK h 0 0 rfl (add_lit _ _ _) (by omega) ?_
        refine r_ldK h 0 2 rfl (add_lit _ _ _) (by omega) ?_
        refine r_neK (n := 32) (e := ty_uint8) q3 q4 q5 (keyAt_len (by omega)) (keyAt_len (by omega)) ?_
        by_cases h02 : keyAt x 0 = keyAt x 2
        · refine r_false (by simp [h02]) ?_
          refine r_ldK h 0 1 rfl (add_lit _ _ _) (by omega) ?_
          refine r_ldK h 0 3 rfl (add_lit _ _ _) (by omega) ?_
          refine r_neK (n := 32) (e := ty_uint8) q3 q4 q5 (keyAt_len (by omega)) (keyAt_len (by omega)) ?_
          exact ⟨_, rfl, by simp [h02], h⟩
        · refine r_true (by simp [h02]) ?_
          exact ⟨true, rfl, by simp [h02], h⟩
    refine r_draw h fun w2 h => ?_
    refine r_heads hs rfl (by omega) fun y12 hs12 hn12 => ?_
    refine r_rest hs rfl (by omega) fun y16 hs16 hn16 => ?_
    refine r_heads ht rfl (by omega) fun y20 hs20 hn20 => ?_
    refine r_rest ht rfl (by omega) fun y24 hs24 hn24 => ?_
    subst hx
    refine r_all2 ?_ ?_
    · refine r_call h (c_listKey _ _ _ _ _ h hs12 (Nat.le_refl _) (by omega)) fun r13 v1 h _ hr => ?_
      subst hr
      refine r_all2 ?_ ?_
      · refine r_call h (c_listKey _ _ _ _ _ h hs16 (Nat.le_refl _) (by omega)) fun r17 v2 h _ hr => ?_
        subst hr
        refine r_all2 ?_ ?_
        · refine r_call h (c_listKey _ _ _ _ _ h hs20 (Nat.le_refl _) (by omega)) fun r21 v3 h _ hr => ?_
          subst hr
          refine r_all2 ?_ ?_
          · refine r_call h (c_listKey _ _ _ _ _ h hs24 (Nat.le_refl _) (by omega)) fun r25 v4 h _ hr => ?_
            subst hr
            refine r_pur _ (fun w'' => run_clash la lb lc ld w'') ?_
            refine r_new h fun b6 v5 h => ?_
            refine r_stA h 0 rfl rfl (by simp [la, lb, lc, ld]) (by simp [Value.cells]) (by simpa using u8s_one) fun v6 h => ?_
            exact ⟨_, rfl, b6, rfl, (At.pick h [0, 1] (by decide))⟩
          · refine r_new h fun b6 v7 h => ?_
            refine r_call h (c_listKey _ _ _ _ _ h hs24 (Nat.le_refl _) (by omega)) fun r25 v8 h _ hr => ?_
            subst hr
            refine r_pur _ (fun w'' => run_clash la lb lc ld w'') ?_
            refine r_stA h 0 rfl rfl (by simp [la, lb, lc, ld]) (by simp [Value.cells]) (by simpa using u8s_one) fun v9 h => ?_
            exact ⟨_, rfl, b6, rfl, (At.pick h [0, 1] (by decide))⟩
        · refine r_new h fun b6 v10 h => ?_
          refine r_call h (c_listKey _ _ _ _ _ h hs20 (Nat.le_refl _) (by omega)) fun r21 v11 h _ hr => ?_
          subst hr
          refine r_call h (c_listKey _ _ _ _ _ h hs24 (Nat.le_refl _) (by omega)) fun r25 v12 h _ hr => ?_
          subst hr
          refine r_pur _ (fun w'' => run_clash la lb lc ld w'') ?_
          refine r_stA h 0 rfl rfl (by simp [la, lb, lc, ld]) (by simp [Value.cells]) (by simpa using u8s_one) fun v13 h => ?_
          exact ⟨_, rfl, b6, rfl, (At.pick h [0, 1] (by decide))⟩
      · refine r_new h fun b6 v14 h => ?_
        refine r_call h (c_listKey _ _ _ _ _ h hs16 (Nat.le_refl _) (by omega)) fun r17 v15 h _ hr => ?_
        subst hr
        refine r_call h (c_listKey _ _ _ _ _ h hs20 (Nat.le_refl _) (by omega)) fun r21 v16 h _ hr => ?_
        subst hr
        refine r_call h (c_listKey _ _ _ _ _ h hs24 (Nat.le_refl _) (by omega)) fun r25 v17 h _ hr => ?_
        subst hr
        refine r_pur _ (fun w'' => run_clash la lb lc ld w'') ?_
        refine r_stA h 0 rfl rfl (by simp [la, lb, lc, ld]) (by simp [Value.cells]) (by simpa using u8s_one) fun v18 h => ?_
        exact ⟨_, rfl, b6, rfl, (At.pick h [0, 1] (by decide))⟩
    · refine r_new h fun b6 v19 h => ?_
      refine r_call h (c_listKey _ _ _ _ _ h hs12 (Nat.le_refl _) (by omega)) fun r13 v20 h _ hr => ?_
      subst hr
      refine r_call h (c_listKey _ _ _ _ _ h hs16 (Nat.le_refl _) (by omega)) fun r17 v21 h _ hr => ?_
      subst hr
      refine r_call h (c_listKey _ _ _ _ _ h hs20 (Nat.le_refl _) (by omega)) fun r21 v22 h _ hr => ?_
      subst hr
      refine r_call h (c_listKey _ _ _ _ _ h hs24 (Nat.le_refl _) (by omega)) fun r25 v23 h _ hr => ?_
      subst hr
      refine r_pur _ (fun w'' => run_clash la lb lc ld w'') ?_
      refine r_stA h 0 rfl rfl (by simp [la, lb, lc, ld]) (by simp [Value.cells]) (by simpa using u8s_one) fun v24 h => ?_
      exact ⟨_, rfl, b6, rfl, (At.pick h [0, 1] (by decide))⟩)

end Go.Proofs.Ytjmncaoddfggnaa
