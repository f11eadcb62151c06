/- Packs: literals of bytes; the reference's delta. -/
import Derived.Test.YtkifkdkjljcclaaGreatPkLTor32
import Derived.Test.YtkifkdkjljcclaaGreatPkLTor25
import Derived.Test.YtkifkdkjljcclaaGreatPkLTor21
namespace Go.Sx
open Go.RowKit (Below)
section
variable {P : Program} {R : Value → World → Prop} {w0 w : World} {ls : List Blk}
theorem r_litV {t e by_ : Nat} (hT : SlT P t e 1 by_) (vs : List Value) (hv : ∀ v ∈ vs, v.cells = #[v]) (hn : vs.length ≤ 4096) (hne : vs ≠ []) {k : Sl → World → Prop}
    (h : ∀ y w', Below w.heap.size w w' → SlAt w' y 1 vs → y.n = vs.length → y.n ≤ y.c → k y w') : ((real P R).sem (Instr.buildSlice t vs.length (prsV 0 vs).toArray) .slice k : World → Prop) w := by
  refine ⟨⟨some ⟨w.heap.size, 0, none⟩, vs.length, vs.length⟩, _, run_bsV hT vs hv hn hne w, h _ _ (below_alloc w _) ⟨by simp, fun j u hu => ⟨_, rfl, ?_⟩⟩ rfl (Nat.le_refl _)⟩
  rw [add_lit, cell_of_row _ _ _ _ _ _ (heap_alloc_self w _)]
  simpa using hu
theorem one8 (l : List Int) : ∀ v ∈ l.map (Value.int .u8), v.cells = #[v] := by
  intro v hv
  obtain ⟨x, _, rfl⟩ := List.mem_map.1 hv
  rfl
theorem r_lit1 {t e by_ : Nat} (hT : SlT P t e 1 by_) (a : Int) {k : Sl → World → Prop} (h : ∀ y w', Below w.heap.size w w' → SlAt w' y 1 [.int .u8 a] → y.n = 1 → y.n ≤ y.c → k y w') :
    ((real P R).sem (Instr.buildSlice t 1 #[(0, (.int .u8 a))]) .slice k : World → Prop) w := r_litV hT [.int .u8 a] (one8 [a]) (by simp) (by simp) h
theorem r_lit2 {t e by_ : Nat} (hT : SlT P t e 1 by_) (a b : Int) {k : Sl → World → Prop} (h : ∀ y w', Below w.heap.size w w' → SlAt w' y 1 [.int .u8 a, .int .u8 b] → y.n = 2 → y.n ≤ y.c → k y w') :
    ((real P R).sem (Instr.buildSlice t 2 #[(0, (.int .u8 a)), (1, (.int .u8 b))]) .slice k : World → Prop) w := r_litV hT [.int .u8 a, .int .u8 b] (one8 [a, b]) (by simp) (by simp) h
theorem r_lit3 {t e by_ : Nat} (hT : SlT P t e 1 by_) (a b c : Int) {k : Sl → World → Prop} (h : ∀ y w', Below w.heap.size w w' → SlAt w' y 1 [.int .u8 a, .int .u8 b, .int .u8 c] → y.n = 3 → y.n ≤ y.c → k y w') :
    ((real P R).sem (Instr.buildSlice t 3 #[(0, (.int .u8 a)), (1, (.int .u8 b)), (2, (.int .u8 c))]) .slice k : World → Prop) w := r_litV hT [.int .u8 a, .int .u8 b, .int .u8 c] (one8 [a, b, c]) (by simp) (by simp) h
theorem r_lit4 {t e by_ : Nat} (hT : SlT P t e 1 by_) (a b c d : Int) {k : Sl → World → Prop} (h : ∀ y w', Below w.heap.size w w' → SlAt w' y 1 [.int .u8 a, .int .u8 b, .int .u8 c, .int .u8 d] → y.n = 4 → y.n ≤ y.c → k y w') :
    ((real P R).sem (Instr.buildSlice t 4 #[(0, (.int .u8 a)), (1, (.int .u8 b)), (2, (.int .u8 c)), (3, (.int .u8 d))]) .slice k : World → Prop) w := r_litV hT [.int .u8 a, .int .u8 b, .int .u8 c, .int .u8 d] (one8 [a, b, c, d]) (by simp) (by simp) h
end
end Go.Sx
namespace Go.Proofs.YtkifkdkjljcclaaGreat
open Go.Sx Go.RowKit

theorem bsl_suf {w : World} {s : Sl} {d : List Int} (hs : BSl w s d) (l : Nat) (h : l ≤ d.length) : BSl w ⟨if s.c = l then s.a else s.a.map (·.add (l * 1)), s.n - l, s.c - l⟩ (d.drop l) := by
  have := bsl_part hs l s.n (by rw [hs.n]; exact h) (by rw [hs.n]; exact Nat.le_refl _)
  rwa [List.take_of_length_le (by rw [List.length_drop, hs.n]; exact Nat.le_refl _)] at this
theorem bsl_pre {w : World} {s : Sl} {d : List Int} (hs : BSl w s d) (l : Nat) (h : l ≤ d.length) : BSl w ⟨if s.c = 0 then s.a else s.a.map (·.add (0 * 1)), l - 0, s.c - 0⟩ (d.take l) := by
  have := bsl_part hs 0 l (Nat.zero_le _) h
  simpa using this
theorem r_slG {R : Value → World → Prop} {w : World} {s : Sl} {lo hi : Option Int} {k : Sl → World → Prop} (l h : Nat) (hl : lo.getD 0 = (l : Int)) (hh : hi.getD s.n = (h : Int)) (h1 : l ≤ h) (h2 : h ≤ s.c)
    (hk : ∀ y : Sl, y.n = h - l → y.c = s.c - l → (∀ {v : World} {d : List Int}, BSl v s d → h ≤ d.length → BSl v y ((d.drop l).take (h - l))) → k y w) : ((real Tryz.prog R).sl s.a s.n s.c 1 lo hi none k : World → Prop) w :=
  r_sl l h hl hh h1 h2 (hk _ rfl rfl fun hs h2 => bsl_part hs l h h1 h2)
theorem r_slSufG {R : Value → World → Prop} {w : World} {s : Sl} {lo : Option Int} {k : Sl → World → Prop} (l : Nat) (hl : lo.getD 0 = (l : Int)) (h1 : l ≤ s.n) (h2 : s.n ≤ s.c)
    (hk : ∀ y : Sl, y.n = s.n - l → y.c = s.c - l → (∀ {v : World} {d : List Int}, BSl v s d → BSl v y (d.drop l)) → k y w) : ((real Tryz.prog R).sl s.a s.n s.c 1 lo none none k : World → Prop) w :=
  r_sl l s.n hl rfl h1 h2 (hk _ rfl rfl fun hs => bsl_suf hs l (by rw [← hs.n]; exact h1))
theorem r_slPreG {R : Value → World → Prop} {w : World} {s : Sl} {hi : Option Int} {k : Sl → World → Prop} (h : Nat) (hh : hi.getD s.n = (h : Int)) (h1 : h ≤ s.n) (h2 : s.n ≤ s.c)
    (hk : ∀ y : Sl, y.n = h → y.c = s.c → (∀ {v : World} {d : List Int}, BSl v s d → BSl v y (d.take h)) → k y w) : ((real Tryz.prog R).sl s.a s.n s.c 1 none hi none k : World → Prop) w :=
  r_sl 0 h rfl hh (Nat.zero_le _) (Nat.le_trans h1 h2) (hk _ rfl rfl fun hs => bsl_pre hs h (by rw [← hs.n]; exact h1))
theorem gD {l : List Int} {i : Nat} (h : i < l.length) : l[i]? = some (l.getD i 0) := by simp [List.getD, h]
theorem dropGD {l : List Int} {i : Nat} (h : i < l.length) : l.drop i = l.getD i 0 :: l.drop (i + 1) := by
  rw [List.drop_eq_getElem_cons h]
  simp [List.getD, h]
theorem wu8 {x : Int} (h0 : 0 ≤ x) (h1 : x < 256) : IntKind.wrap .u8 x = x := by rw [wrapu8]; omega
theorem slO_n {w0 w : World} {ls : List Blk} {e : Nat} {s : Sl} {l : List Int} (h : SlO w0 w ls e 1 s (u8s l)) : s.n = l.length := by have := h.len; simp [u8s] at this; omega
theorem ownS_n {e : Nat} {s : Sl} {l : List Int} {L : List Blk} (h : OwnS e 1 s (u8s l) L) : s.n = l.length := by have := h.1; simp [u8s] at this; omega

set_option maxRecDepth 4000 in
theorem c_l06Match {w : World} {s t : Sl} {a b : List Int} (hs : BSl w s a) (ht : BSl w t b) : Ret Tryz.prog n_spec_l06Match [.slice s.a s.n s.c, .slice t.a t.n t.c] w [.int .i64] (fun r _ => r = (matchN 255 a b : Int)) := spec_l06Match_calls _ _ (by
  unfold spec_l06Match
  have hn := hs.n
  have hm := ht.n
  refine r_loop (σ := Int) (fun i w' => ∃ n : Nat, i = n ∧ n ≤ 255 ∧ n ≤ a.length ∧ n ≤ b.length ∧ a.take n = b.take n ∧ At w w' []) (fun i _ => (255 - i).toNat) 0 rfl ⟨0, rfl, by omega, by omega, by omega, by simp, At.refl w⟩ ?_
  rintro i w1 ⟨n, rfl, h1, h2, h3, h4, h⟩
  refine r_any fun _ => ?_
  refine r_draw h fun w2 h => ?_
  have stop : ∀ {w' : World}, At w w' [] → (n = 255 ∨ n = a.length ∨ n = b.length ∨ a[n]? ≠ b[n]?) → ((real Tryz.prog (RR w [.int .i64] (fun r _ => r = (matchN 255 a b : Int)))).ret (.int .i64 (n : Int)) : World → Prop) w' := fun h hc => r_ret h (n : Int) rfl (by rw [matchN_stop n 255 a b h1 h2 h3 h4 hc])
  refine r_if ((n : Int) < (s.n : Int)) rfl (fun c1 => ?_) (fun c1 => stop h (.inr (.inl (by omega))))
  refine r_if ((n : Int) < (t.n : Int)) rfl (fun c2 => ?_) (fun c2 => stop h (.inr (.inr (.inl (by omega)))))
  refine r_if ((n : Int) < 255) rfl (fun c3 => ?_) (fun c3 => stop h (.inl (by omega)))
  obtain ⟨p, hp, hpl⟩ := hs.byte (i := n) (by omega)
  obtain ⟨q, hq, hql⟩ := ht.byte (i := n) (by omega)
  refine r_ix p hp (by omega) (by omega) ?_
  refine r_ldO h _ (by simp only [Int.toNat_natCast]; exact hpl 1) (by simp) ?_
  refine r_ix q hq (by omega) (by omega) ?_
  refine r_ldO h _ (by simp only [Int.toNat_natCast]; exact hql 1) (by simp) ?_
  have ga := gD (l := a) (i := n) (by omega)
  have gb := gD (l := b) (i := n) (by omega)
  refine r_eq (fun he => ?_) (fun hne => stop h (.inr (.inr (.inr ?_))))
  · refine ⟨((n + 1 : Nat) : Int), by rw [w64 (by omega) (by omega)]; rfl, ⟨n + 1, rfl, by omega, by omega, by omega, ?_, h⟩, by omega⟩
    rw [List.take_add_one, List.take_add_one, h4, ga, gb, he]
  · rw [ga, gb]
    exact fun hh => hne (Option.some.inj hh))
theorem c_l06Plain {w0 w : World} {ls : List Blk} {s y : Sl} {o l : List Int} (hS : SlO w0 w ls ty_uint8 1 s (u8s o)) (hy : ∀ {v : World}, At w0 v ls → BSl v y l) (hmax : o.length + 3 * l.length ≤ 1000000) :
    Calls Tryz.prog n_spec_l06Plain [.slice s.a s.n s.c, .slice y.a y.n y.c].toArray w fun e w' => ∃ v, e = .returned v ∧ ∃ r : Sl, v = .slice r.a r.n r.c ∧ SlO w0 w' ls ty_uint8 1 r (u8s (o ++ plainB l)) := spec_l06Plain_calls _ _ (by
  unfold spec_l06Plain
  refine r_loop (σ := Sl × Sl) (fun x w' => ∃ (o' l' : List Int), o' ++ plainB l' = o ++ plainB l ∧ o'.length + 3 * l'.length ≤ 1000000 ∧ SlO w0 w' ls ty_uint8 1 x.1 (u8s o') ∧ (∀ {v : World}, At w0 v ls → BSl v x.2 l')) (fun x _ => x.2.n) (s, y) rfl ⟨o, l, rfl, hmax, hS, hy⟩ ?_
  rintro ⟨s, y⟩ w1 ⟨o', l', he, hm, hS, hy⟩
  dsimp only at hS hy
  refine r_any fun _ => ?_
  dsimp only
  have hb := hy hS.at_
  have hn := hb.n
  have hcp := hb.cap
  have hsn := slO_n hS
  refine r_if ((y.n : Int) > 0) rfl (fun hpos => ?_) (fun hz => ?_)
  · have hne : l' ≠ [] := fun hh => by rw [hh] at hn; simp at hn; omega
    refine r_join (σ := Int) (fun m w' => m = ((min 255 l'.length : Nat) : Int) ∧ w' = w1) (fun m w2 hJ => ?_) ?_
    rotate_left
    · refine r_if ((y.n : Int) > 255) rfl (fun h => ⟨255, rfl, by omega, rfl⟩) (fun h => ⟨(y.n : Int), rfl, by omega, rfl⟩)
    obtain ⟨rfl, rfl⟩ := hJ
    refine r_any fun _ => ?_
    rw [wu8 (x := ((min 255 l'.length : Nat) : Int)) (by omega) (by omega)]
    refine r_lit2 T_sl_uint8 _ _ fun y16 w2 hb2 h16 hn16 _ => ?_
    refine r_append T_sl_uint8 (hS.trans hb2) h16 (by simp [oneC]) (by omega) (by omega) fun y17 w3 hS hn17 => ?_
    refine r_slPreG (min 255 l'.length) rfl (by omega) hcp fun y21 hn21 _ hy21 => ?_
    refine r_append T_sl_uint8 hS (hy21 (hy hS.at_)).sl u8s_one (by omega) (by omega) fun y22 w4 hS hn22 => ?_
    refine r_slSufG (min 255 l'.length) rfl (by omega) hcp fun y25 hn25 _ hy25 => ?_
    refine ⟨(y22, y25), rfl, ⟨o' ++ ([0, ((min 255 l'.length : Nat) : Int)] ++ l'.take 255), l'.drop 255, ?_, ?_, ?_, ?_⟩, by dsimp only; omega⟩
    · rw [List.append_assoc, ← plainB_step hne]
      exact he
    · simp only [List.length_append, List.length_cons, List.length_nil, List.length_take, List.length_drop]
      omega
    · have e : l'.take (min 255 l'.length) = l'.take 255 := by
        rcases Nat.le_total 255 l'.length with h | h
        · rw [Nat.min_eq_left h]
        · rw [Nat.min_eq_right h, List.take_length, List.take_of_length_le h]
      rw [e] at hS
      have e2 : u8s o' ++ [Value.int .u8 0, Value.int .u8 ((min 255 l'.length : Nat) : Int)] ++ u8s (l'.take 255) = u8s (o' ++ ([0, ((min 255 l'.length : Nat) : Int)] ++ l'.take 255)) := by simp [u8s]
      rw [← e2]
      exact hS
    · intro v hv
      have := hy25 (hy hv)
      have e : l'.drop (min 255 l'.length) = l'.drop 255 := by
        rcases Nat.le_total 255 l'.length with h | h
        · rw [Nat.min_eq_left h]
        · rw [Nat.min_eq_right h, List.drop_length, List.drop_eq_nil_of_le h]
      rwa [e] at this
  · have : l' = [] := List.eq_nil_of_length_eq_zero (by omega)
    subst this
    rw [plainB_nil, List.append_nil] at he
    subst he
    exact r_retR ⟨s, rfl, hS⟩)
theorem c_l06Delta {w : World} {s t : Sl} {base data : List Int} (hs : BSl w s base) (ht : BSl w t data) (h1 : base.length ≤ 1024) (h2 : data.length ≤ 1024) :
    Ret Tryz.prog n_spec_l06Delta [.slice s.a s.n s.c, .slice t.a t.n t.c] w [.slice, .bool] (fun r w' => SlO w w' [] ty_uint8 1 r.1 (u8s (deltaB base data)) ∧ r.2 = decide ((deltaB base data).length ≤ 1024)) := spec_l06Delta_calls _ _ (by
  unfold spec_l06Delta
  have hn := hs.n
  have hm := ht.n
  have hsc := hs.cap
  have htc := ht.cap
  refine r_bs0 T_sl_uint8 (At.refl w) fun y13 w1 hy13 hn13 => ?_
  obtain ⟨Lo, hOo, h⟩ := hy13.split
  refine r_bs0 T_sl_uint8 h fun y14 w2 hy14 hn14 => ?_
  obtain ⟨Lh, hOh, h⟩ := hy14.split
  refine r_loop (σ := Sl × Sl × Int) (fun x w' => ∃ (a : Nat) (o hl : List Int) (Lo Lh : List Blk), x.2.2 = a ∧ a ≤ data.length ∧ deltaGo base (data.length - a) o hl (data.drop a) = deltaB base data ∧ o.length + 3 * hl.length ≤ 4 * a ∧ bytesOk hl ∧ OwnS ty_uint8 1 x.1 (u8s o) Lo ∧ OwnS ty_uint8 1 x.2.1 (u8s hl) Lh ∧ At w w' (Lh ++ (Lo ++ []))) (fun x _ => (t.n - x.2.2).toNat) (y13, y14, 0) rfl
    ⟨0, [], [], Lo, Lh, rfl, by omega, by simp [deltaB], by simp, (fun b hb => by cases hb), by simpa [u8s] using hOo, by simpa [u8s] using hOh, h⟩ ?_
  clear h hOo hOh hy13 hy14
  rintro ⟨so, sh, at_⟩ w3 ⟨a, o, hl, Lo, Lh, ha0, ha, hgo, hlen, hhb, hOo, hOh, h⟩
  dsimp only at ha0 hOo hOh
  subst ha0
  refine r_any fun _ => ?_
  dsimp only
  have hon := ownS_n hOo
  have hhn := ownS_n hOh
  refine r_if ((a : Int) < (t.n : Int)) rfl (fun hlt => ?_) (fun hge => ?_)
  · refine r_loop (σ := Int × Int × Int) (fun x w' => ∃ i : Nat, x = (((bestN base (data.drop a) i).1 : Int), ((bestN base (data.drop a) i).2 : Int), (i : Int)) ∧ i ≤ base.length ∧ At w w' (Lh ++ (Lo ++ []))) (fun x _ => (s.n - x.2.2).toNat) (0, 0, 0) rfl ⟨0, rfl, by omega, h⟩ ?_
    clear h
    rintro x w4 ⟨i, rfl, hi, h⟩
    refine r_any fun _ => ?_
    dsimp only
    refine r_if ((i : Int) < (s.n : Int)) rfl (fun hlt2 => ?_) (fun hge2 => ?_)
    · refine r_join (σ := Int) (fun m w' => m = (matchN 255 (base.drop i) (data.drop a) : Int) ∧ At w w' (Lh ++ (Lo ++ []))) (fun m w5 hJ => ?_) ?_
      · obtain ⟨rfl, h⟩ := hJ
        refine r_any fun _ => ?_
        refine r_if ((matchN 255 (base.drop i) (data.drop a) : Int) > ((bestN base (data.drop a) i).1 : Int)) rfl (fun hgt => ?_) (fun hle => ?_)
        · have e : bestN base (data.drop a) (i + 1) = (matchN 255 (base.drop i) (data.drop a), i) := by
            show (if (bestN base (data.drop a) i).1 < matchN 255 (base.drop i) (data.drop a) then (matchN 255 (base.drop i) (data.drop a), i) else bestN base (data.drop a) i) = _
            rw [if_pos (by omega)]
          refine ⟨((matchN 255 (base.drop i) (data.drop a) : Int), (i : Int), ((i + 1 : Nat) : Int)), by rw [w64 (n := (i : Int) + 1) (by omega) (by omega)]; rfl, ⟨i + 1, by rw [e], by omega, h⟩, by dsimp only; omega⟩
        · have e : bestN base (data.drop a) (i + 1) = bestN base (data.drop a) i := by
            show (if (bestN base (data.drop a) i).1 < matchN 255 (base.drop i) (data.drop a) then (matchN 255 (base.drop i) (data.drop a), i) else bestN base (data.drop a) i) = _
            rw [if_neg (by omega)]
          refine ⟨(((bestN base (data.drop a) i).1 : Int), ((bestN base (data.drop a) i).2 : Int), ((i + 1 : Nat) : Int)), by rw [w64 (n := (i : Int) + 1) (by omega) (by omega)]; rfl, ⟨i + 1, by rw [e], by omega, h⟩, by dsimp only; omega⟩
      · refine r_draw h fun w5 h => ?_
        refine r_slSufG i rfl (by omega) hsc fun y27 _ _ hy27 => ?_
        refine r_slSufG a rfl (by omega) htc fun y30 _ _ hy30 => ?_
        refine r_call h (c_l06Match (hy27 (hs.at h)) (hy30 (ht.at h))) fun r31 w6 h _ hr => ?_
        exact ⟨r31, rfl, hr, h⟩
    · have hiB : i = base.length := by omega
      subst hiB
      obtain ⟨b1, b2, b3, b4, b5⟩ := bestN_ok base (data.drop a) base.length (Nat.le_refl _)
      have hdr := dropGD (l := data) (i := a) (by omega)
      have hstep : ∀ F, data.length - a = F + 1 → deltaGo base (data.length - a) o hl (data.drop a) = if (bestN base (data.drop a) base.length).1 < 8 then deltaGo base F o (hl ++ [data.getD a 0]) (data.drop (a + 1))
          else deltaGo base F (o ++ plainB hl ++ [1, ((bestN base (data.drop a) base.length).2 : Int) % 256, ((bestN base (data.drop a) base.length).2 : Int) / 256, ((bestN base (data.drop a) base.length).1 : Int)]) [] ((data.drop a).drop (bestN base (data.drop a) base.length).1) := by
        intro F hF
        rw [hF, hdr]
        rfl
      rw [hstep (data.length - (a + 1)) (by omega)] at hgo
      generalize bestN base (data.drop a) base.length = mp at *
      obtain ⟨m, pl⟩ := mp
      dsimp only at *
      rw [List.length_drop] at b2
      refine r_if ((m : Int) < 8) rfl (fun hsm => ?_) (fun hbig => ?_)
      · rw [if_pos (by omega)] at hgo
        obtain ⟨q, hq, hql⟩ := ht.byte (i := a) (by omega)
        have hbd := ht.ok.get a
        refine r_ix q hq (by omega) (by omega) ?_
        refine r_ldO h _ (by simp only [Int.toNat_natCast]; exact hql 1) (by simp) ?_
        refine r_push T_sl_uint8 (hOh.slo h) rfl (by omega) (by simp [Value.cells, oneC]) (by omega) (by omega) fun y45 w5 hS hn45 => ?_
        obtain ⟨Lh', hOh', h⟩ := hS.split
        exact ⟨(so, y45, ((a + 1 : Nat) : Int)), by rw [w64 (n := (a : Int) + 1) (by omega) (by omega)]; rfl, ⟨a + 1, o, hl ++ [data.getD a 0], Lo, Lh', rfl, by omega, hgo, by simp; omega, hhb.append fun b hb => by rw [List.mem_singleton.1 hb]; exact hbd, hOo, by simpa [u8s, Value.cells] using hOh', h⟩, by dsimp only; omega⟩
      · rw [if_neg (by omega)] at hgo
        have hpl := plainB_len _ hl (Nat.le_refl _)
        refine r_callR (c_l06Plain (hOo.slo h.pl1) (fun hv => ownS_bytes hOh hv (List.sublist_append_left _ _) hhb) (by omega)) ?_
        rintro v w5 ⟨r50, rfl, hS⟩
        refine ⟨r50, rfl, ?_⟩
        obtain ⟨Lp, hOp, h⟩ := hS.split
        refine r_bs0 T_sl_uint8 h fun y51 w6 hy51 hn51 => ?_
        obtain ⟨Ln, hOn, h⟩ := hy51.split
        have e1 : IntKind.wrap .u8 (Int.tmod (pl : Int) 256) = (pl : Int) % 256 := by rw [Int.tmod_eq_emod_of_nonneg (by omega), wu8 (by omega) (by omega)]
        have e2 : IntKind.wrap .u8 (IntKind.wrap .i64 (Int.tdiv (pl : Int) 256)) = (pl : Int) / 256 := by rw [Int.tdiv_eq_ediv_of_nonneg (by omega), w64 (by omega) (by omega), wu8 (by omega) (by omega)]
        have e3 : IntKind.wrap .u8 (m : Int) = (m : Int) := wu8 (by omega) (by omega)
        rw [e1, e2, e3]
        refine r_lit4 T_sl_uint8 _ _ _ _ fun y61 w7 hb7 h61 hn61 _ => ?_
        have h := h.trans hb7
        have hpn := ownS_n hOp
        refine r_append T_sl_uint8 (hOp.slo h.pl1) h61 (by simp [oneC]) (by simp only [List.length_append] at hpn; omega) (by simp only [List.length_append] at hpn; omega) fun y62 w8 hS hn62 => ?_
        obtain ⟨Lq, hOq, h⟩ := hS.split
        have h := h.pl1.dr2
        refine ⟨(y62, y51, ((a + m : Nat) : Int)), by rw [w64 (n := (a : Int) + (m : Int)) (by omega) (by omega)]; rfl, ⟨a + m, o ++ plainB hl ++ [1, (pl : Int) % 256, (pl : Int) / 256, (m : Int)], [], Lq, Ln, rfl, by omega, ?_, ?_, (fun b hb => by cases hb), ?_, ?_, h⟩, by dsimp only; omega⟩
        · rw [← hgo, List.drop_drop]
          exact deltaGo_fuel base _ _ _ _ _ (by rw [List.length_drop]; omega) (by rw [List.length_drop]; omega)
        · simp only [List.length_append, List.length_cons, List.length_nil]
          omega
        · have e4 : u8s (o ++ plainB hl) ++ [Value.int .u8 1, Value.int .u8 ((pl : Int) % 256), Value.int .u8 ((pl : Int) / 256), Value.int .u8 (m : Int)] = u8s (o ++ plainB hl ++ [1, (pl : Int) % 256, (pl : Int) / 256, (m : Int)]) := by simp [u8s]
          rw [← e4]
          exact hOq
        · simpa [u8s] using hOn
  · have haE : a = data.length := by omega
    subst haE
    rw [Nat.sub_self, List.drop_length] at hgo
    have hgo : o ++ plainB hl = deltaB base data := hgo
    refine r_callR (c_l06Plain (hOo.slo h.pl1) (fun hv => ownS_bytes hOh hv (List.sublist_append_left _ _) hhb) (by omega)) ?_
    rintro v w5 ⟨r68, rfl, hS⟩
    refine ⟨r68, rfl, ?_⟩
    rw [hgo] at hS
    have hrn := slO_n hS
    have hA := hS.at_.nil
    have e : decide ((r68.n : Int) ≤ 1024) = decide ((deltaB base data).length ≤ 1024) := decide_eq_decide.2 (by omega)
    rw [e]
    obtain ⟨Lp, hOp, h⟩ := hS.split
    exact r_ret hA (r68, _) rfl ⟨hOp.slo (ls := []) (by rw [List.append_nil]; exact h.left), rfl⟩)
end Go.Proofs.YtkifkdkjljcclaaGreat
