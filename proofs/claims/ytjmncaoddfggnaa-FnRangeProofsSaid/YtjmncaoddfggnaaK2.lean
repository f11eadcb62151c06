/- CheckRange: what both sides compute. -/
import Derived.Test.YtjmncaoddfggnaaK1
namespace Go.Proofs.Ytjmncaoddfggnaa
open Go.Sx Go.RowKit

/-- What a proof of a range tells: the key of the tree and the rest of the proof. -/
def told : Nat → Nat → Int → List Int → List Int → Option (List Int × List Int)
  | 0, _, _, _, _ => none
  | f + 1, n, first, lv, q =>
    if first + (lv.length / 32 : Nat) ≤ 0 ∨ (n : Int) ≤ first then (if q.length < 32 then none else some (q.take 32, q.drop 32))
    else if n = 1 then some (keyAt lv (-first).toNat, q)
    else match told f (half n) first lv q with
      | none => none
      | some (a, q1) => match told f (n - half n) (first - half n) lv q1 with
        | none => none
        | some (b, q2) => some (hashL 2 (a ++ b), q2)

def zeroK : List Int := List.replicate 32 0
theorem zeroK_u8s : (Array.replicate 32 (Value.int .u8 0)) = (u8s zeroK).toArray := rfl
theorem zeroK_len : zeroK.length = 32 := rfl
theorem zeroK_ok : bytesOk zeroK := by intro b hb; simp [zeroK] at hb; omega

/-- What the reference's answer is, by what is told. -/
def ToldR (w : World) (o : Option (List Int × List Int)) (r : Array Value × Sl × Bool) : Prop :=
  ∃ a : List Int, r.1 = (u8s a).toArray ∧ a.length = 32 ∧ bytesOk a ∧ match o with
    | none => r.2.2 = false
    | some (a', q1) => a = a' ∧ r.2.2 = true ∧ KS w r.2.1 q1

theorem KS.head {w : World} {s : Sl} {l : List Int} (h : KS w s l) (hn : 0 < s.n) : ∃ p, s.a = some p ∧ ldOk w 32 p .agg (u8s (l.take 32)).toArray := by
  obtain ⟨p, hp, hl⟩ := h.key hn
  have : p.add (0 * 32) = p := by simp [Addr.add]
  rw [this, keyAt, Nat.mul_zero, List.drop_zero] at hl
  exact ⟨p, hp, hl⟩

theorem r_tail {P : Program} {R : Value → World → Prop} {wr w : World} {s : Sl} {l : List Int} {k : Sl → World → Prop} (h : KS wr s l) (hn : 0 < s.n) (hk : ∀ s' : Sl, KS wr s' (l.drop 32) → s'.n = s.n - 1 → k s' w) :
    ((real P R).sl s.a s.n s.c 32 (some 1) none none k : World → Prop) w :=
  r_slS h.sl (by omega) 1 s.n rfl rfl (by omega) (Nat.le_refl _) h.cap fun s' h1 h2 h3 => by
    have hl := h.len
    refine hk s' ⟨?_, h.ok.drop _, by have := h.cap; omega⟩ h1
    have : ((u8s l).drop (1 * 32)).take ((s.n - 1) * 32) = u8s (l.drop 32) := by
      simp only [u8s, ← List.map_drop, ← List.map_take, Nat.one_mul]
      rw [List.take_of_length_le (by simp; omega)]
    rwa [this] at h3

theorem c_l03Told {w0 : World} {slv : Sl} {lv : List Int} (hlv : KS w0 slv lv) (hlm : slv.n ≤ 65536) : ∀ (f n : Nat) (first : Int) (sq : Sl) (q : List Int) (w : World) (ls : List Blk), At w0 w ls → KS w0 sq q → sq.n ≤ 65536 → 1 ≤ n → n ≤ f → n ≤ 65536 → (n : Int) - 131072 ≤ first → first ≤ 65536 →
    Ret Try.prog n_spec_l03Told [.int .i64 (n : Int), .int .i64 first, .slice slv.a slv.n slv.c, .slice sq.a sq.n sq.c] w [.agg, .slice, .bool] (fun r _ => ToldR w0 (told f n first lv q) r ∧ (told f n first lv q ≠ none → r.2.1.n ≤ sq.n))
  | 0, n, first, sq, q, w, ls, hA, hq, hqm, h1, hf, hn, hlo, hhi => by omega
  | f + 1, n, first, sq, q, w, ls, hA, hq, hqm, h1, hf, hn, hlo, hhi => by
    generalize hT : told (f + 1) n first lv q = T
    rw [told] at hT
    refine spec_l03Told_calls _ _ _ _ ?_
    unfold spec_l03Told
    have hll := hlv.len
    have hql := hq.len
    have hlvn : lv.length / 32 = slv.n := by omega
    have hb0 : At w w [] := At.refl w
    have hR : ∀ {ls' : List Blk} {w' : World}, At w w' ls' → At w0 w' [] := fun h => ⟨hA.below.trans (h.below.mono hA.size), by simp, by simp, by simp⟩
    refine r_new hb0 fun b8 w1 h => ?_
    refine r_join (σ := Bool) (fun s w' => s = decide (first + (lv.length / 32 : Nat) ≤ 0 ∨ (n : Int) ≤ first) ∧ At w w' [(b8, Array.replicate 32 (.int .u8 0), ty_impl_Key)]) (fun s w2 hs => ?_) ?_
    · obtain ⟨rfl, h⟩ := hs
      refine r_any fun _ => ?_
      refine r_if (first + (lv.length / 32 : Nat) ≤ 0 ∨ (n : Int) ≤ first) rfl (fun hout => ?_) (fun hin => ?_)
      · rw [if_pos hout] at hT
        refine r_eq (fun h0 => ?_) (fun h0 => ?_)
        · have hlt : q.length < 32 := by omega
          rw [if_pos hlt] at hT; subst hT
          refine r_stA h 0 rfl rfl (by simp) (by simp) rep_one fun w3 h => ?_
          refine r_ldA h 0 rfl rfl (by simp) ?_
          exact r_ret h (_, sq, false) rfl ⟨⟨zeroK, rfl, rfl, zeroK_ok, rfl⟩, fun hh => absurd rfl hh⟩
        · have hlt : ¬ q.length < 32 := by omega
          rw [if_neg hlt] at hT; subst hT
          refine r_draw h fun w3 h => ?_
          obtain ⟨p, hp, hl⟩ := hq.head (by omega)
          refine r_ix p hp (by omega) (by omega) ?_
          refine r_ldO (hR h) _ (by have : p.add (Int.toNat 0 * 32) = p := by simp [Addr.add]
                                    rw [this]; exact hl) (by simp) ?_
          refine r_tail hq (by omega) fun s' hs' hsn => ?_
          have hk32 : (q.take 32).length = 32 := by simp; omega
          refine r_stA h 0 rfl rfl (by simp [hk32]) (by simp) (by simpa using u8s_one) fun w4 h => ?_
          refine r_ldA h 0 rfl rfl (by simp [hk32]) ?_
          exact r_ret h (_, s', true) rfl ⟨⟨q.take 32, rfl, hk32, hq.ok.take _, rfl, rfl, hs'⟩, fun _ => by dsimp only; omega⟩
      · rw [if_neg hin] at hT
        have hi1 : 0 < first + (lv.length / 32 : Nat) ∧ first < (n : Int) := by omega
        refine r_eq (fun hn1 => ?_) (fun hn1 => ?_)
        · have hn1 : n = 1 := by omega
          rw [if_pos hn1] at hT; subst hT
          have hi : (-first).toNat < slv.n := by omega
          obtain ⟨p, hp, hl⟩ := hlv.key hi
          have e1 : IntKind.wrap .i64 (0 - first) = ((-first).toNat : Int) := by rw [w64 (by omega) (by omega)]; omega
          rw [e1]
          have hk32 : (keyAt lv (-first).toNat).length = 32 := keyAt_len (by omega)
          refine r_ix p hp (by omega) (by omega) ?_
          refine r_ldO (hR h) _ (by simp only [Int.toNat_natCast]; exact hl) (by simp) ?_
          refine r_stA h 0 rfl rfl (by simp [hk32]) (by simp) (by simpa using u8s_one) fun w4 h => ?_
          refine r_ldA h 0 rfl rfl (by simp [hk32]) ?_
          exact r_ret h (_, sq, true) rfl ⟨⟨_, rfl, hk32, keyAt_ok hlv.ok _, rfl, rfl, hq⟩, fun _ => Nat.le_refl _⟩
        · have hn1 : ¬ n = 1 := by omega
          rw [if_neg hn1] at hT
          obtain ⟨hh1, hh2⟩ := half_lt (n := n) (by omega)
          refine r_callp (c_l03Half n (by omega) (by omega)) ?_
          refine r_call h (c_l03Told hlv hlm f (half n) first sq q w2 [] (hR h) hq hqm hh2 (by omega) (by omega) (by omega) hhi) fun r w3 h _ ⟨hr, hrn⟩ => ?_
          obtain ⟨ra, rs, rb⟩ := r
          obtain ⟨a, rfl, ha32, hab, hr⟩ := hr
          dsimp only at hr hrn ⊢
          refine r_new h fun b13 w4 h => ?_
          refine r_stA h 0 rfl rfl (by simp [ha32]) (by simp [Value.cells]) (by simpa using u8s_one) fun w5 h => ?_
          generalize told f (half n) first lv q = o at hT hr hrn
          cases o with
          | none =>
            dsimp only at hr hT ⊢
            subst hr hT
            refine r_true rfl ?_
            refine r_stA h 1 rfl rfl (by simp) (by simp) rep_one fun w6 h => ?_
            refine r_ldA h 1 rfl rfl (by simp) ?_
            exact r_ret h (_, sq, false) rfl ⟨⟨zeroK, rfl, rfl, zeroK_ok, rfl⟩, fun hh => absurd rfl hh⟩
          | some aq =>
            obtain ⟨a', q1⟩ := aq
            dsimp only at hr hrn hT ⊢
            obtain ⟨rfl, rfl, hq1⟩ := hr
            have hrn := hrn (by simp)
            refine r_false rfl ?_
            have e1 : IntKind.wrap .i64 ((n : Int) - (half n : Int)) = ((n - half n : Nat) : Int) := by rw [w64 (by omega) (by omega)]; omega
            have e2 : IntKind.wrap .i64 (first - (half n : Int)) = first - half n := w64 (by omega) (by omega)
            rw [e1, e2]
            refine r_call h (c_l03Told hlv hlm f (n - half n) (first - half n) rs q1 w5 [] (hR h) hq1 (by omega) (by omega) (by omega) (by omega) (by omega) (by omega)) fun r w6 h _ ⟨hr, hrn'⟩ => ?_
            obtain ⟨rc, rs2, rb2⟩ := r
            obtain ⟨b, rfl, hb32, hbb, hr⟩ := hr
            dsimp only at hr hrn' ⊢
            refine r_new h fun b16 w7 h => ?_
            refine r_stA h 0 rfl rfl (by simp [hb32]) (by simp [Value.cells]) (by simpa using u8s_one) fun w8 h => ?_
            refine r_ldA h 1 rfl rfl (by simp [ha32]) ?_
            refine r_ldA h 0 rfl rfl (by simp [hb32]) ?_
            refine r_call h (c_l03Node ha32 hb32 hab hbb w8) fun k w9 h _ hk => ?_
            subst hk
            refine r_stA h 2 rfl rfl (by simp [hashL_len]) (by simp) (by simpa using u8s_one) fun w6 h => ?_
            refine r_ldA h 2 rfl rfl (by simp [hashL_len]) ?_
            generalize told f (n - half n) (first - half n) lv q1 = o2 at hT hr hrn'
            cases o2 with
            | none =>
              dsimp only at hr hT ⊢
              subst hr hT
              exact r_ret h (_, rs2, false) rfl ⟨⟨_, rfl, hashL_len _ _, hashL_ok _ _, rfl⟩, fun hh => absurd rfl hh⟩
            | some aq =>
              obtain ⟨b', q2⟩ := aq
              dsimp only at hr hrn' hT ⊢
              obtain ⟨rfl, rfl, hq2⟩ := hr
              subst hT
              exact r_ret h (_, rs2, true) rfl ⟨⟨_, rfl, hashL_len _ _, hashL_ok _ _, rfl, rfl, hq2⟩, fun _ => by dsimp only; have := hrn' (by simp); omega⟩
    · have e1 : IntKind.wrap .i64 (first + (slv.n : Int)) = first + (lv.length / 32 : Nat) := by rw [w64 (by omega) (by omega)]; omega
      rw [e1]
      refine r_if (first + (lv.length / 32 : Nat) ≤ 0) rfl (fun hout => ?_) (fun hin => ?_)
      · exact ⟨true, rfl, (decide_eq_true (Or.inl hout)).symm, h⟩
      · refine ⟨decide (first ≥ (n : Int)), rfl, ?_, h⟩
        simp only [hin, false_or, ge_iff_le]

end Go.Proofs.Ytjmncaoddfggnaa
