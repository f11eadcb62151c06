/- Packs: programs are applied; a record is read (the program). -/
import Derived.Test.YtkifkdkjljcclaaGreatPkLTor35
namespace Go.Proofs.YtkifkdkjljcclaaGreat
open Go.Sx Go.RowKit

theorem c_littleNumberQ {s : Sl} {l : List Int} {w : World} (hs : SlAt w s 1 (u8s l)) (hb : bytesOk l) (hl : l.length ≤ 8) :
    Calls Tryz.prog n_impl_littleNumber [.slice s.a s.n s.c].toArray w fun e w' => ∃ v, e = .returned v ∧ RP [.int .u64] (vLE l l.length) w v w' := impl_littleNumber_calls s (by
  unfold impl_littleNumber
  have hn := sl_len hs
  refine r_loop (σ := Int × Int) (fun i w' => ∃ k : Nat, i = (vLE l k, (k : Int)) ∧ k ≤ l.length ∧ w' = w) (fun i _ => (l.length - i.2).toNat) (0, 0) rfl ⟨0, rfl, by omega, rfl⟩ ?_
  rintro i w1 ⟨k, rfl, hk, rfl⟩
  refine r_any fun _ => ?_
  refine r_if ((k : Int) < (s.n : Int)) rfl (fun hlt => ?_) (fun hge => ?_)
  · obtain ⟨p, hp, hc⟩ := sl_cell hs (i := k) (by omega)
    refine r_ix p hp (by omega) (by omega) ?_
    refine r_ldN (sh := .int .u8) (l.getD k 0) hc ?_
    have e1 : IntKind.wrap .i64 (8 * (k : Int)) = ((8 * k : Nat) : Int) := by rw [w64 (by omega) (by omega)]; omega
    refine r_pur _ (fun w' => run_shl (by rw [e1]; omega) w') ?_
    refine ⟨(vLE l (k + 1), ((k + 1 : Nat) : Int)), ?_, ⟨k + 1, rfl, by omega, rfl⟩, by simp; omega⟩
    have hb' := hb.get k
    have hv := vLE_bd hb k
    rw [e1, wrapu64 (n := l.getD k 0) (by omega) (by omega), show min ((8 * k : Nat) : Int).toNat (IntKind.bits .u64) = 8 * k by rw [show IntKind.bits .u64 = 64 from rfl]; omega, or_shift hv.1 hv.2 hb' (by omega), w64 (by omega) (by omega)]
    rfl
  · have : k = l.length := by omega
    subst this
    exact r_retP rfl)
theorem vLE2 (a b : Int) : vLE [a, b] 2 = a + 256 * b := by simp [vLE]; omega
theorem take2 {l : List Int} {i : Nat} (h : i + 2 ≤ l.length) : (l.drop i).take 2 = [l.getD i 0, l.getD (i + 1) 0] := by
  rw [dropGD (l := l) (i := i) (by omega), dropGD (l := l) (i := i + 1) (by omega)]
  rfl
theorem applyGo_step {base o p : List Int} (hp : p ≠ []) : applyGo base p.length o p = match stepP base p with
    | some (m, r) => applyGo base r.length (o ++ m) r
    | none => none := by
  obtain ⟨n, hn⟩ : ∃ n, p.length = n + 1 := ⟨p.length - 1, by have : 0 < p.length := by { cases p with | nil => exact absurd rfl hp | cons => simp }; omega⟩
  rw [hn]
  conv => lhs; unfold applyGo
  rw [if_neg hp]
  cases hs : stepP base p with
  | none => rfl
  | some y =>
    have := stepP_len (base := base) (p := p) (m := y.1) (r := y.2) hs
    exact applyGo_fuel base _ _ _ _ (by omega) (Nat.le_refl _)
theorem c_apply {w : World} {s t : Sl} {base prog : List Int} (hs : BSl w s base) (ht : BSl w t prog) (h1 : base.length ≤ 1024) (h2 : prog.length ≤ 65535) :
    Ret Tryz.prog n_impl_apply [.slice s.a s.n s.c, .slice t.a t.n t.c] w [.slice, .int .i64] (fun r w' => (∃ m, applyP base prog = some m ∧ r.2 = 0 ∧ SlO w w' [] ty_uint8 1 r.1 (u8s m) ∧ bytesOk m) ∨ (applyP base prog = none ∧ r.2 ≠ 0)) := impl_apply_calls _ _ (by
  unfold impl_apply
  have hsn := hs.n
  have hsc := hs.cap
  refine r_bs0 T_sl_uint8 (At.refl w) fun y10 w1 hy hyn => ?_
  refine r_loop (σ := Sl × Sl) (fun x w' => ∃ (p o : List Int), BSl w x.1 p ∧ applyGo base p.length o p = applyGo base prog.length [] prog ∧ SlO w w' [] ty_uint8 1 x.2 (u8s o) ∧ bytesOk o ∧ o.length + 255 * p.length ≤ 255 * prog.length ∧ p.length ≤ prog.length) (fun x _ => x.1.n) (t, y10) rfl
    ⟨prog, [], ht, rfl, by simpa [u8s] using hy, (fun b hb => by cases hb), by simp, Nat.le_refl _⟩ ?_
  clear hy hyn
  rintro ⟨sp, so⟩ w2 ⟨p, o, hp, hgo, hS, hob, hlen, hpl⟩
  dsimp only at hp hS
  refine r_any fun _ => ?_
  dsimp only
  have hpn := hp.n
  have hpc := hp.cap
  have hon := slO_n hS
  have fail_ : ∀ {v : World} {c : Int}, At w v [] → applyP base prog = none → c ≠ 0 → ((real Tryz.prog (RR w [.slice, .int .i64] (fun r w' => (∃ m, applyP base prog = some m ∧ r.2 = 0 ∧ SlO w w' [] ty_uint8 1 r.1 (u8s m) ∧ bytesOk m) ∨ (applyP base prog = none ∧ r.2 ≠ 0)))).ret (.tuple #[.slice none 0 0, .int .i64 c]) : World → Prop) v := fun h e hc => r_ret h (⟨none, 0, 0⟩, _) rfl (.inr ⟨e, hc⟩)
  refine r_if ((sp.n : Int) > 0) rfl (fun hpos => ?_) (fun hz => ?_)
  · have hne : p ≠ [] := fun hh => by rw [hh] at hpn; simp at hpn; omega
    rw [applyGo_step hne] at hgo
    obtain ⟨q, hq, hq0⟩ := hp.byte (i := 0) (by omega)
    have b0 := hp.ok.get 0
    have b1 := hp.ok.get 1
    have b2 := hp.ok.get 2
    have b3 := hp.ok.get 3
    have byte : ∀ i, i < p.length → ldOk w 1 (q.add (i * 1)) (.int .u8) (p.getD i 0) := fun i hi => by
      obtain ⟨q', hq', hl⟩ := hp.byte hi
      rw [hq] at hq'
      cases hq'
      exact hl 1
    have hA := hS.at_
    refine r_join (σ := Bool) (fun x w' => x = decide (p.getD 0 0 = 0 ∧ 1 < p.length ∧ 0 < p.getD 1 0 ∧ 2 + (p.getD 1 0).toNat ≤ p.length) ∧ w' = w2) (fun x w3 hJ => ?_) ?_
    rotate_left
    · refine r_ix q hq (by omega) (by omega) ?_
      refine r_ldN (sh := .int .u8) (p.getD 0 0) (ldOk_below hA.below (byte 0 (by omega))) ?_
      refine r_eq (fun c0 => ?_) (fun c0 => ⟨false, rfl, (decide_eq_false fun hh => c0 hh.1).symm, rfl⟩)
      refine r_if ((sp.n : Int) > 1) rfl (fun c1 => ?_) (fun c1 => ⟨false, rfl, (decide_eq_false fun hh => c1 (by omega)).symm, rfl⟩)
      refine r_ix q hq (by omega) (by omega) ?_
      refine r_ldN (sh := .int .u8) (p.getD 1 0) (ldOk_below hA.below (byte 1 (by omega))) ?_
      refine r_if (p.getD 1 0 > 0) rfl (fun c2 => ?_) (fun c2 => ⟨false, rfl, (decide_eq_false fun hh => c2 hh.2.2.1).symm, rfl⟩)
      refine r_ix q hq (by omega) (by omega) ?_
      refine r_ldN (sh := .int .u8) (p.getD 1 0) (ldOk_below hA.below (byte 1 (by omega))) ?_
      rw [w64 (n := p.getD 1 0) (by omega) (by omega), w64 (n := 2 + p.getD 1 0) (by omega) (by omega)]
      exact ⟨_, rfl, decide_eq_decide.2 ⟨fun hh => ⟨c0, by omega, c2, by omega⟩, fun hh => by have := hh.2.2.2; omega⟩, rfl⟩
    obtain ⟨rfl, rfl⟩ := hJ
    refine r_any fun _ => ?_
    refine r_if (p.getD 0 0 = 0 ∧ 1 < p.length ∧ 0 < p.getD 1 0 ∧ 2 + (p.getD 1 0).toNat ≤ p.length) rfl (fun C1 => ?_) (fun C1 => ?_)
    · have hstep : stepP base p = some ((p.drop 2).take (p.getD 1 0).toNat, p.drop (2 + (p.getD 1 0).toNat)) := by unfold stepP; rw [if_pos C1]
      rw [hstep] at hgo
      obtain ⟨c0, c1, c2, c3⟩ := C1
      refine r_ix q hq (by omega) (by omega) ?_
      refine r_ldN (sh := .int .u8) (p.getD 1 0) (ldOk_below hA.below (byte 1 (by omega))) ?_
      rw [w64 (n := p.getD 1 0) (by omega) (by omega), w64 (n := 2 + p.getD 1 0) (by omega) (by omega)]
      rw [show 2 + p.getD 1 0 = ((2 + (p.getD 1 0).toNat : Nat) : Int) by omega]
      obtain ⟨Lo, hOo, h⟩ := hS.split
      refine r_draw h fun w4 h => ?_
      refine r_slG 2 (2 + (p.getD 1 0).toNat) rfl rfl (by omega) (by omega) fun y48 hn48 _ hy48 => ?_
      refine r_slSufG (2 + (p.getD 1 0).toNat) rfl (by omega) hpc fun y53 hn53 _ hy53 => ?_
      have h48 := hy48 hp (by omega)
      rw [show 2 + (p.getD 1 0).toNat - 2 = (p.getD 1 0).toNat by omega] at h48
      refine r_append T_sl_uint8 (hOo.slo h) (h48.at h).sl u8s_one (by omega) (by omega) fun y49 w5 hS hn49 => ?_
      refine ⟨(y53, y49), rfl, ⟨p.drop (2 + (p.getD 1 0).toNat), o ++ (p.drop 2).take (p.getD 1 0).toNat, hy53 hp, hgo, ?_, hob.append h48.ok, ?_, ?_⟩, by dsimp only; omega⟩
      · have e : u8s o ++ u8s ((p.drop 2).take (p.getD 1 0).toNat) = u8s (o ++ (p.drop 2).take (p.getD 1 0).toNat) := by simp [u8s]
        rw [← e]
        exact hS
      · simp only [List.length_append, List.length_take, List.length_drop]
        omega
      · simp only [List.length_drop]
        omega
    · refine r_join (σ := Bool) (fun x w' => x = decide (p.getD 0 0 = 1 ∧ 3 < p.length ∧ 0 < p.getD 3 0) ∧ w' = w3) (fun x w4 hJ => ?_) ?_
      rotate_left
      · refine r_ix q hq (by omega) (by omega) ?_
        refine r_ldN (sh := .int .u8) (p.getD 0 0) (ldOk_below hA.below (byte 0 (by omega))) ?_
        refine r_eq (fun c0 => ?_) (fun c0 => ⟨false, rfl, (decide_eq_false fun hh => c0 hh.1).symm, rfl⟩)
        refine r_if ((sp.n : Int) > 3) rfl (fun c1 => ?_) (fun c1 => ⟨false, rfl, (decide_eq_false fun hh => c1 (by omega)).symm, rfl⟩)
        refine r_ix q hq (by omega) (by omega) ?_
        refine r_ldN (sh := .int .u8) (p.getD 3 0) (ldOk_below hA.below (byte 3 (by omega))) ?_
        exact ⟨_, rfl, decide_eq_decide.2 ⟨fun hh => ⟨c0, by omega, hh⟩, fun hh => hh.2.2⟩, rfl⟩
      obtain ⟨rfl, rfl⟩ := hJ
      refine r_any fun _ => ?_
      have hno : ∀ {f : List Int × List Int → Option (List Int)}, stepP base p = none → applyP base prog = none := fun {f} hst => by
        rw [hst] at hgo
        unfold applyP
        rw [← hgo]
      refine r_if (p.getD 0 0 = 1 ∧ 3 < p.length ∧ 0 < p.getD 3 0) rfl (fun C2 => ?_) (fun C2 => ?_)
      · obtain ⟨c0, c1, c2⟩ := C2
        obtain ⟨Lo, hOo, h⟩ := hS.split
        refine r_draw h fun w5 h => ?_
        refine r_slG 1 3 rfl rfl (by omega) (by omega) fun y71 hn71 _ hy71 => ?_
        have h71 := hy71 hp (by omega)
        rw [show 3 - 1 = 2 from rfl, take2 (by omega)] at h71
        refine r_callQ' (c_littleNumberQ (h71.at h).sl h71.ok (by simp)) ?_
        rw [show ([p.getD 1 0, p.getD (1 + 1) 0] : List Int).length = 2 from rfl, vLE2]
        refine r_ix q hq (by omega) (by omega) ?_
        refine r_ldN (sh := .int .u8) (p.getD 3 0) (ldOk_below h.below (byte 3 (by omega))) ?_
        show ((cond (decide ((IntKind.wrap .i64 ((IntKind.wrap .i64 (p.getD 1 0 + 256 * p.getD 2 0)) + (IntKind.wrap .i64 (p.getD 3 0)))) > (s.n : Int))) _ _ : World → Prop) w5)
        rw [w64 (n := p.getD 1 0 + 256 * p.getD 2 0) (by omega) (by omega), w64 (n := p.getD 3 0) (by omega) (by omega), w64 (n := p.getD 1 0 + 256 * p.getD 2 0 + p.getD 3 0) (by omega) (by omega)]
        refine r_if (p.getD 1 0 + 256 * p.getD 2 0 + p.getD 3 0 > (s.n : Int)) rfl (fun hgt => ?_) (fun hle => ?_)
        · refine fail_ h.nil (hno (f := fun _ => none) ?_) (by decide)
          unfold stepP
          rw [if_neg C1, if_neg (fun hh => by have := hh.2.2.2; omega)]
        · have hstep : stepP base p = some ((base.drop (p.getD 1 0 + 256 * p.getD 2 0).toNat).take (p.getD 3 0).toNat, p.drop 4) := by
            unfold stepP
            rw [if_neg C1, if_pos ⟨c0, c1, c2, by omega⟩]
          rw [hstep] at hgo
          refine r_draw h fun w6 h => ?_
          obtain ⟨pl, hplE⟩ : ∃ pl : Nat, p.getD 1 0 + 256 * p.getD 2 0 = pl := ⟨(p.getD 1 0 + 256 * p.getD 2 0).toNat, by omega⟩
          obtain ⟨m, hmE⟩ : ∃ m : Nat, p.getD 3 0 = m := ⟨(p.getD 3 0).toNat, by omega⟩
          rw [hplE, hmE] at hgo hle ⊢
          rw [show (pl : Int) + (m : Int) = ((pl + m : Nat) : Int) by omega]
          simp only [Int.toNat_natCast] at hgo
          refine r_slG pl (pl + m) rfl rfl (by omega) (by omega) fun y90 hn90 _ hy90 => ?_
          refine r_slSufG 4 rfl (by omega) hpc fun y93 hn93 _ hy93 => ?_
          have h90 := hy90 hs (by omega)
          rw [show pl + m - pl = m by omega] at h90
          refine r_append T_sl_uint8 (hOo.slo h) (h90.at h).sl u8s_one (by omega) (by omega) fun y91 w7 hS hn91 => ?_
          refine ⟨(y93, y91), rfl, ⟨p.drop 4, o ++ (base.drop pl).take m, hy93 hp, hgo, ?_, hob.append h90.ok, ?_, ?_⟩, by dsimp only; omega⟩
          · have e : u8s o ++ u8s ((base.drop pl).take m) = u8s (o ++ (base.drop pl).take m) := by simp [u8s]
            rw [← e]
            exact hS
          · simp only [List.length_append, List.length_take, List.length_drop]
            omega
          · simp only [List.length_drop]
            omega
      · refine fail_ hA.nil (hno (f := fun _ => none) ?_) (by decide)
        unfold stepP
        rw [if_neg C1, if_neg (fun hh => C2 ⟨hh.1, hh.2.1, hh.2.2.1⟩)]
  · have hpe : p = [] := List.eq_nil_of_length_eq_zero (by omega)
    subst hpe
    have hgo : some o = applyGo base prog.length [] prog := hgo
    refine r_if ((so.n : Int) > 1024) rfl (fun hgt => ?_) (fun hle => ?_)
    · refine fail_ hS.at_ ?_ (by decide)
      unfold applyP
      rw [← hgo]
      dsimp only
      rw [if_neg (by omega)]
    · refine r_ret hS.at_.nil (so, (0 : Int)) rfl (.inl ⟨o, ?_, rfl, hS, hob⟩)
      unfold applyP
      rw [← hgo]
      dsimp only
      rw [if_pos (by omega)])
end Go.Proofs.YtkifkdkjljcclaaGreat
