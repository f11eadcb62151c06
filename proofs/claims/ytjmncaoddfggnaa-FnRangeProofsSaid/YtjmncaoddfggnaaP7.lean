/- ClashOf: its code and its clash. -/
import Derived.Test.YtjmncaoddfggnaaP6
namespace Go.Proofs.Ytjmncaoddfggnaa
open Go.Sx Go.RowKit

def zero128 : List Int := List.replicate 128 0
theorem zero128_ok : bytesOk zero128 := by intro b hb; have := List.eq_of_mem_replicate hb; omega
theorem run_clashZ (w : World) : (Instr.build ty_impl_Clash #[]).run Try.prog w = .ok (.agg (u8s zero128).toArray) w := by kernel_rfl

theorem c_ClashOf {w : World} {s t : Sl} {l l' : List Int} (hs : KS w s l) (ht : KS w t l') (hst : s.n = t.n) (h1 : 1 ≤ s.n) (hm : s.n ≤ 256) :
    Ret Try.prog n_impl_ClashOf [.slice s.a s.n s.c, .slice t.a t.n t.c] w [.agg, .int .i64] (fun r _ => ∃ x, r.1 = (u8s x).toArray ∧ x.length = 128 ∧ bytesOk x ∧ r.2 = (if lk l ≠ lk l' then 4 else if l = l' then 6 else 0) ∧ (lk l = lk l' → l ≠ l' → IsClash x)) := impl_ClashOf_calls _ _ (by
  unfold impl_ClashOf
  have hl := hs.len
  have hl' := ht.len
  have q3 : Try.prog.underlying ty_impl_Key = some (.array 32 ty_uint8) := by kernel_rfl
  have q4 : tyOf Try.prog ty_uint8 = some (.int .u8, 1) := by kernel_rfl
  have q5 : Try.prog.eqGuardType Try.prog.depth ty_impl_Key = false := by kernel_rfl
  refine r_new (At.refl w) fun b4 w1 h => ?_
  have h : At w w1 [(b4, Array.replicate 128 (.int .u8 0), ty_impl_Clash)] := h
  refine r_join (σ := Bool) (fun b w' => b = false ∧ At w w' [(b4, Array.replicate 128 (.int .u8 0), ty_impl_Clash)]) (fun b w2 hb => ?_) ?_
  · obtain ⟨rfl, h⟩ := hb
    refine r_any fun _ => ?_
    refine r_false rfl ?_
    refine r_join (σ := Bool) (fun b w' => b = decide (lk l ≠ lk l') ∧ At w w' [(b4, Array.replicate 128 (.int .u8 0), ty_impl_Clash)]) (fun b w3 hb => ?_) ?_
    · obtain ⟨rfl, h⟩ := hb
      refine r_any fun _ => ?_
      refine r_if (lk l ≠ lk l') rfl (fun hne => ?_) (fun hne => ?_)
      · refine r_pur _ (fun w' => run_clashZ w') ?_
        refine r_stA h 0 rfl rfl (by simp [zero128]) (by simp) (by simpa using u8s_one) fun w4 h => ?_
        refine r_ldA h 0 rfl rfl (by simp [zero128]) ?_
        exact r_ret h (_, 4) rfl ⟨zero128, rfl, rfl, zero128_ok, by rw [if_pos hne], fun he => absurd he hne⟩
      · have heq := Decidable.not_not.1 hne
        refine r_call h (c_Equal (hs.at h) (ht.at h) (by omega)) fun r w4 h _ hr => ?_
        subst hr
        refine r_if (l = l') rfl (fun he => ?_) (fun he => ?_)
        · refine r_pur _ (fun w' => run_clashZ w') ?_
          refine r_stA h 0 rfl rfl (by simp [zero128]) (by simp) (by simpa using u8s_one) fun w4 h => ?_
          refine r_ldA h 0 rfl rfl (by simp [zero128]) ?_
          exact r_ret h (_, 6) rfl ⟨zero128, rfl, rfl, zero128_ok, by rw [if_neg hne, if_pos he], fun _ hh => absurd he hh⟩
        · have h2 : 2 ≤ s.n := by
            rcases Nat.lt_or_ge s.n 2 with hlt | hge
            · exact absurd (by rw [← lk_one (l := l) (by omega), ← lk_one (l := l') (by omega)]; exact heq) he
            · exact hge
          refine r_call h (c_clash s.n s t l l' w4 _ h hs ht hst h2 (Nat.le_refl _) (by omega) he heq) fun k w5 h _ hk => ?_
          obtain ⟨x, rfl, hx⟩ := hk
          refine r_stA h 0 rfl rfl (by simp [hx.len]) (by simp) (by simpa using u8s_one) fun w4 h => ?_
          refine r_ldA h 0 rfl rfl (by simp [hx.len]) ?_
          exact r_ret h (_, 0) rfl ⟨x, rfl, hx.len, hx.ok, by rw [if_neg hne, if_neg he], fun _ _ => hx⟩
    · refine r_ne (fun hh => by omega) fun _ => ?_
      refine r_eq (fun hh => by omega) fun _ => ?_
      refine r_call h (c_listKey s.n s l _ _ h hs (Nat.le_refl _) (by omega)) fun k w3 h _ hk => ?_
      subst hk
      refine r_call h (c_listKey t.n t l' _ _ h ht (Nat.le_refl _) (by omega)) fun k w4 h _ hk => ?_
      subst hk
      refine r_neK (n := 32) (e := ty_uint8) q3 q4 q5 (lk_len (n := s.n) (by omega)) (lk_len (n := t.n) (by omega)) ?_
      exact ⟨_, rfl, by simp, h⟩
  · refine r_if ((s.n : Int) > 256) rfl (fun hh => by omega) (fun _ => ?_)
    exact ⟨_, rfl, decide_eq_false (by omega), h⟩)

end Go.Proofs.Ytjmncaoddfggnaa
