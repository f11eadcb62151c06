/- Packs: own slices that begin within their block; the program's delta. -/
import Derived.Test.YtkifkdkjljcclaaGreatPkLTor33
namespace Go.Sx
open Go.RowKit (Below)
variable {P : Program} {R : Value → World → Prop} {w0 w : World} {ls : List Blk}
def OwnF (e : Nat) (s : Sl) (xs : List Value) (L : List Blk) : Prop :=
  xs.length = s.n ∧ ((s.a = none ∧ s.n = 0 ∧ s.c = 0 ∧ L = []) ∨ ∃ g o cur, L = [(g, cur, e)] ∧ s.a = some ⟨g, o, none⟩ ∧ s.n ≤ s.c ∧ s.c ≤ maxLen ∧ o + s.c ≤ cur.size ∧ (cur.toList.drop o).take xs.length = xs)
theorem OwnS.f {e : Nat} {s : Sl} {xs : List Value} {L : List Blk} (h : OwnS e 1 s xs L) : OwnF e s xs L := by
  obtain ⟨h1, h2⟩ := h
  rw [Nat.mul_one] at h1
  refine ⟨h1, ?_⟩
  rcases h2 with ⟨a, b, c, d⟩ | ⟨g, cur, a, b, c, d, e, f⟩
  · exact .inl ⟨a, b, c, d⟩
  · exact .inr ⟨g, 0, cur, a, b, c, d, by omega, by simpa using f⟩
theorem OwnF.cap {e : Nat} {s : Sl} {xs : List Value} {L : List Blk} (h : OwnF e s xs L) : s.n ≤ s.c := by
  rcases h.2 with ⟨_, h1, h2, _⟩ | ⟨_, _, _, _, _, h1, _⟩ <;> omega
theorem OwnF.sl {e : Nat} {s : Sl} {xs : List Value} {L : List Blk} (h : OwnF e s xs L) (hA : At w0 w ls) (hs : L.Sublist ls) : SlAt w s 1 xs := by
  obtain ⟨hl, h⟩ := h
  rcases h with ⟨ha, hn, hc, rfl⟩ | ⟨g, o, cur, rfl, ha, h1, h2, h3, h4⟩
  · have : xs = [] := List.eq_nil_of_length_eq_zero (by omega)
    subst this
    exact ⟨by rw [hn]; rfl, fun j v hv => by simp at hv⟩
  · exact (hA.take _ hs).sl 0 rfl ha (by omega) h4
theorem OwnF.suf {e : Nat} {s : Sl} {xs : List Value} {L : List Blk} (h : OwnF e s xs L) (i : Nat) (hi : i ≤ s.n) : OwnF e ⟨if s.c = i then s.a else s.a.map (·.add (i * 1)), s.n - i, s.c - i⟩ (xs.drop i) L := by
  have hcap := h.cap
  obtain ⟨hl, h⟩ := h
  refine ⟨by rw [List.length_drop, hl], ?_⟩
  rcases h with ⟨ha, hn, hc, rfl⟩ | ⟨g, o, cur, rfl, ha, h1, h2, h3, h4⟩
  · exact .inl ⟨by dsimp only; rw [ha]; split <;> rfl, by dsimp only; omega, by dsimp only; omega, rfl⟩
  · by_cases hci : s.c = i
    · refine .inr ⟨g, o, cur, rfl, by dsimp only; rw [if_pos hci]; exact ha, by dsimp only; omega, by dsimp only; omega, by dsimp only; omega, ?_⟩
      have : xs.drop i = [] := List.drop_eq_nil_of_le (by omega)
      rw [this]
      rfl
    · refine .inr ⟨g, o + i, cur, rfl, by dsimp only; rw [if_neg hci, ha, Nat.mul_one]; simp only [Option.map_some, add_lit], by dsimp only; omega, by dsimp only; omega, by dsimp only; omega, ?_⟩
      conv => rhs; rw [← h4]
      rw [List.drop_take, List.drop_drop, List.length_drop]
theorem r_slF {lo : Option Int} {s : Sl} {k : Sl → World → Prop} (l : Nat) (hl : lo.getD 0 = (l : Int)) (h1 : l ≤ s.n) (h2 : s.n ≤ s.c)
    (hk : ∀ y : Sl, y.n = s.n - l → (∀ {e : Nat} {xs : List Value} {L : List Blk}, OwnF e s xs L → OwnF e y (xs.drop l) L) → k y w) : ((real P R).sl s.a s.n s.c 1 lo none none k : World → Prop) w :=
  r_sl l s.n hl rfl h1 h2 (hk _ rfl fun hF => hF.suf l h1)
theorem r_appendF {t ty e by_ : Nat} (hT : SlT P t e 1 by_) {s y : Sl} {xs news : List Value} {L : List Blk} {k : Sl → World → Prop} (hA : At w0 w (L ++ ls)) (hF : OwnF e s xs L) (hy : SlAt w y 1 news) (h1 : ∀ v ∈ news, oneC v = true)
    (hbytes : (s.n + y.n) * by_ ≤ 140737488355328) (hmax : s.n + y.n ≤ 140737488355328) (h : ∀ s' w' L', At w0 w' (L' ++ ls) → OwnF e s' (xs ++ news) L' → s'.n = s.n + y.n → k s' w') :
    ((real P R).sem (Builtin.append_ #[t, t] ty #[.slice s.a s.n s.c, .slice y.a y.n y.c]) .slice k : World → Prop) w := by
  obtain ⟨i, zv, hi, hz, hsz, hby, hzs⟩ := hT.ex
  have hmx : s.n + y.n ≤ maxLen := by unfold maxLen; omega
  have hyl : news.length = y.n := by rw [hy.len, Nat.mul_one]
  have hlen : (xs ++ news).length = s.n + y.n := by rw [List.length_append, hF.1, hyl]
  have hfy := run_first (P := P) hy
  have hxS : SlAt w s 1 xs := hF.sl hA (List.sublist_append_left _ _)
  by_cases hroom : s.n + y.n ≤ s.c
  · rcases hF.2 with ⟨ha, hn, hc, rfl⟩ | ⟨g, o, cur, rfl, ha, hnc, hcm, hcs, htk⟩
    · have hy0 : y.n = 0 := by omega
      have hnews : news = [] := List.eq_nil_of_length_eq_zero (by omega)
      subst hnews
      refine ⟨s, w, ?_, h s w [] hA ⟨by simpa using hF.1, .inl ⟨ha, hn, hc, rfl⟩⟩ (by omega)⟩
      simp only [Sh.emb, ha, hn, hc, hy0] at hfy ⊢
      simp [Builtin.append_, run_underlying hT.ut, sizeOf, typeInfo, hi, hsz, Builtin.lenOf, hfy]
    · have hfit : (o + s.n) + news.length ≤ cur.size := by omega
      have hg : w.heap[g]? = some (.cells cur e (0, 0)) := hA.get (i := 0) rfl
      obtain ⟨k1, k2, k3, k4, k5, k6, k7⟩ := stW_heap news (o + s.n) 0 w cur hg (by omega) h1
      have hst := run_storeCells (P := P) ⟨g, o + s.n, none⟩ news 0 w k1
      have hA' := hA.write (i := 0) rfl k2 k3 k4 k5 k6 k7
      refine ⟨⟨s.a, s.n + y.n, s.c⟩, stW w ⟨g, o + s.n, none⟩ news 0, ?_, h _ _ _ hA' ⟨hlen, .inr ⟨g, o, _, rfl, ha, hroom, hcm, ?_, ?_⟩⟩ rfl⟩
      · simp only [Sh.emb]
        simp [Builtin.append_, run_underlying hT.ut, sizeOf, typeInfo, hi, hsz, Builtin.lenOf, hroom, hfy, ha, add_lit, hst]
      · simp only [List.size_toArray, List.length_append, List.length_take, List.length_drop, Array.length_toList]
        omega
      · have e1 : xs.length = s.n := hF.1
        show ((cur.toList.take (o + s.n + 0) ++ news ++ cur.toList.drop (o + s.n + 0 + news.length)).drop o).take (xs ++ news).length = xs ++ news
        have e2 : (cur.toList.take (o + s.n + 0)).drop o = xs := by
          rw [Nat.add_zero, List.drop_take, show o + s.n - o = xs.length by omega]
          exact htk
        rw [List.append_assoc, List.drop_append_of_le_length (by rw [List.length_take, Array.length_toList]; omega), e2, ← List.append_assoc, List.take_left]
  · have hfx := run_first (P := P) hxS.drew'
    have h63' : ¬ (9223372036854775807 < ((s.n : Int) + (y.n : Int))) := by omega
    have hfit := growslice_fits (need := s.n + y.n) (old := s.c) (bytes := by_) (by omega) hbytes
    have h48' : ¬ (281474976710656 < Builtin.nextslicecap (s.n + y.n) s.c * i.bytes) := by rw [hby]; omega
    have hge := grownCap_ge w (s.n + y.n) s.c e
    have hcm := grownCap_le_maxLen w (s.n + y.n) s.c e hmx
    have hfy' := run_first (P := P) hy.drew'
    have hsz' : (xs.toArray ++ news.toArray ++ Builtin.zeroCells zv.cells (grownCap w (s.n + y.n) s.c e - (s.n + y.n))).size = grownCap w (s.n + y.n) s.c e := by
      simp only [Array.size_append, List.size_toArray, size_zeroCells, hzs, hF.1, hyl]
      omega
    have htk : (xs.toArray ++ news.toArray ++ Builtin.zeroCells zv.cells (grownCap w (s.n + y.n) s.c e - (s.n + y.n))).toList.take (xs ++ news).length = xs ++ news := by
      simp only [Array.toList_append]
      exact List.take_left
    have hb : Below w.heap.size w (w.drew.alloc (.cells (xs.toArray ++ news.toArray ++ Builtin.zeroCells zv.cells (grownCap w (s.n + y.n) s.c e - (s.n + y.n))) e)) := (drew_below w).trans ((below_alloc w.drew _).mono (Nat.le_refl _))
    have hA' := (hA.right.trans hb).add (heap_alloc_self w.drew _) hA.size (hA.right.fresh (Nat.le_refl _))
    refine ⟨⟨some ⟨w.heap.size, 0, none⟩, s.n + y.n, grownCap w (s.n + y.n) s.c e⟩, w.drew.alloc (.cells (xs.toArray ++ news.toArray ++ Builtin.zeroCells zv.cells (grownCap w (s.n + y.n) s.c e - (s.n + y.n))) e), ?_,
      h _ _ [(w.heap.size, _, e)] hA' ⟨hlen, .inr ⟨w.heap.size, 0, _, rfl, rfl, hge, hcm, by rw [hsz']; exact Nat.le_of_eq (Nat.zero_add _), by simpa using htk⟩⟩ rfl⟩
    simp only [Sh.emb]
    simp [Builtin.append_, run_underlying hT.ut, sizeOf, typeInfo, zeroValue, hi, hz, hsz, Builtin.lenOf, hroom, h63', h48', Question.forced, hfx, hfy', newRow, grownCap]
    congr 2
    apply Array.ext'
    simp
end Go.Sx
namespace Go.Proofs.YtkifkdkjljcclaaGreat
open Go.Sx Go.RowKit

theorem ownF_bytes {w0 w : World} {ls L : List Blk} {s : Sl} {l : List Int} (h : OwnF ty_uint8 s (u8s l) L) (hA : At w0 w ls) (hs : L.Sublist ls) (hb : bytesOk l) : BSl w s l := ⟨h.sl hA hs, hb, h.cap⟩
theorem run_min (t u : TypeId) (a b : Int) (w : World) : (Builtin.min_ #[t, t] u #[.int .i64 a, .int .i64 b]).run Tryz.prog w = .ok (.int .i64 (min a b)) w := by
  have e : min a b = if b < a then b else a := by
    by_cases h : b < a
    · rw [if_pos h]; omega
    · rw [if_neg h]; omega
  rw [e]
  simp [Builtin.min_, Builtin.min2]
def lenAt (b : Nat) (w : World) : Nat := match w.heap[b]? with
  | some (Obj.cells cs _ _) => (match cs[0]? with
    | some (Value.slice _ n _) => n
    | _ => 0)
  | _ => 0
abbrev slB (b : Nat) (s : Sl) : Blk := (b, #[.slice s.a s.n s.c], ty_sl_uint8)
theorem c_delta_1 {w0 w : World} {bp bo : Nat} {sp so : Sl} {o l : List Int} {Lp Lo ls : List Blk} (h : At w0 w ([slB bp sp, slB bo so] ++ (Lp ++ (Lo ++ ls)))) (hp : OwnF ty_uint8 sp (u8s l) Lp) (ho : OwnS ty_uint8 1 so (u8s o) Lo) (hl : bytesOk l) (hmax : o.length + 3 * l.length ≤ 1000000) :
    Calls Tryz.prog n_impl_delta_1 [.pointer (some ⟨bp, 0, none⟩), .pointer (some ⟨bo, 0, none⟩)].toArray w fun e w' => ∃ v, e = .returned v ∧ v = .tuple #[] ∧ ∃ (sp' so' : Sl) (Lp' Lo' : List Blk), At w0 w' ([slB bp sp', slB bo so'] ++ (Lp' ++ (Lo' ++ ls))) ∧ OwnF ty_uint8 sp' (u8s []) Lp' ∧ OwnS ty_uint8 1 so' (u8s (o ++ plainB l)) Lo' := impl_delta_1_calls _ _ (by
  unfold impl_delta_1
  refine r_loop (σ := Unit) (fun _ w' => ∃ (l' o' : List Int) (sp so : Sl) (Lp Lo : List Blk), o' ++ plainB l' = o ++ plainB l ∧ o'.length + 3 * l'.length ≤ 1000000 ∧ bytesOk l' ∧ OwnF ty_uint8 sp (u8s l') Lp ∧ OwnS ty_uint8 1 so (u8s o') Lo ∧ At w0 w' ([slB bp sp, slB bo so] ++ (Lp ++ (Lo ++ ls))))
    (fun _ w' => lenAt bp w') () rfl ⟨l, o, sp, so, Lp, Lo, rfl, hmax, hl, hp, ho, h⟩ ?_
  clear h hp ho
  rintro _ w1 ⟨l', o', sp, so, Lp, Lo, he, hm, hl', hp, ho, h⟩
  have hmu : ∀ {v : World} {s : Sl} {X : List Blk}, At w0 v (slB bp s :: X) → lenAt bp v = s.n := fun h => by
    unfold lenAt
    rw [h.get (i := 0) rfl]
    rfl
  refine r_any fun _ => ?_
  have hpn : sp.n = l'.length := by have := hp.1; simp [u8s] at this; omega
  have hpc := hp.cap
  have hon := ownS_n ho
  refine r_ld h 0 rfl rfl sp (by simp [Sh.emb]) rfl ?_
  refine r_if ((sp.n : Int) > 0) rfl (fun hpos => ?_) (fun hz => ?_)
  · have hne : l' ≠ [] := fun hh => by rw [hh] at hpn; simp at hpn; omega
    have hdec := hmu (X := slB bo so :: (Lp ++ (Lo ++ ls))) h
    refine r_ld h 0 rfl rfl sp (by simp [Sh.emb]) rfl ?_
    refine r_sem (sh := .int .i64) (((min 255 l'.length : Nat) : Int)) w1 (by rw [run_min]; congr 2; omega) ?_
    refine r_draw h fun w2 h => ?_
    refine r_ld h 1 rfl rfl so (by simp [Sh.emb]) rfl ?_
    refine r_ld h 0 rfl rfl sp (by simp [Sh.emb]) rfl ?_
    refine r_slPreG (min 255 l'.length) rfl (by omega) hpc fun y16 hn16 _ hy16 => ?_
    rw [wu8 (x := ((min 255 l'.length : Nat) : Int)) (by omega) (by omega)]
    refine r_lit2 T_sl_uint8 _ _ fun y12 w3 hb3 h12 hn12 _ => ?_
    have h := h.trans hb3
    have lo_ : ∀ {v : World} {X : List Blk}, At w0 v ([slB bp sp, slB bo so] ++ X) → ldOk v 1 (⟨bo, 0, none⟩ : Addr) .slice so := fun h => ldOk_own (sh := .slice) h 1 rfl 0 rfl (by simp [Sh.emb])
    have lp_ : ∀ {v : World} {X : List Blk}, At w0 v ([slB bp sp, slB bo so] ++ X) → ldOk v 1 (⟨bp, 0, none⟩ : Addr) .slice sp := fun h => ldOk_own (sh := .slice) h 0 rfl 0 rfl (by simp [Sh.emb])
    refine r_chk2 (lp_ h) (lo_ h) ?_
    refine r_append T_sl_uint8 (ho.slo h.pl2) h12 (by simp [oneC]) (by omega) (by omega) fun y13 w4 hS hn13 => ?_
    obtain ⟨L13, hO13, h⟩ := hS.split
    have h := h.pl1
    refine r_chk1 (lp_ h) ?_
    have hpre := hy16 (ownF_bytes hp h.pl2 (List.sublist_append_left _ _) hl')
    refine r_append T_sl_uint8 (hO13.slo h.pl1) hpre.sl u8s_one (by omega) (by omega) fun y17 w5 hS hn17 => ?_
    obtain ⟨L17, hO17, h⟩ := hS.split
    have h := h.pl1
    refine r_chk1 (lp_ h) ?_
    refine r_st h 1 rfl rfl (by simp) rfl fun w6 h => ?_
    have h : At w0 w6 ([slB bp sp, slB bo y17] ++ (L17 ++ (Lp ++ ls))) := h
    refine r_ld h 0 rfl rfl sp (by simp [Sh.emb]) rfl ?_
    refine r_slF (min 255 l'.length) rfl (by omega) hpc fun y20 hyn hsuf => ?_
    have hsuf := hsuf hp
    refine r_st h 0 rfl rfl (by simp) rfl fun w7 h => ?_
    have h : At w0 w7 ([slB bp y20, slB bo y17] ++ (L17 ++ (Lp ++ ls))) := h
    have hdec2 := hmu (X := slB bo y17 :: (L17 ++ (Lp ++ ls))) h
    refine ⟨(), rfl, ⟨l'.drop 255, o' ++ ([0, ((min 255 l'.length : Nat) : Int)] ++ l'.take 255), y20, y17, Lp, L17, ?_, ?_, fun b hb => hl' b (List.mem_of_mem_drop hb), ?_, ?_, h.pl2.ps1⟩, by rw [hdec, hdec2]; omega⟩
    · rw [List.append_assoc, ← plainB_step hne]
      exact he
    · simp only [List.length_append, List.length_cons, List.length_nil, List.length_take, List.length_drop]
      omega
    · have e : (u8s l').drop (min 255 l'.length) = u8s (l'.drop 255) := by
        unfold u8s
        rw [← List.map_drop]
        rcases Nat.le_total 255 l'.length with h | h
        · rw [Nat.min_eq_left h]
        · rw [Nat.min_eq_right h, List.drop_length, List.drop_eq_nil_of_le h]
      rwa [e] at hsuf
    · have e : l'.take (min 255 l'.length) = l'.take 255 := by
        rcases Nat.le_total 255 l'.length with h | h
        · rw [Nat.min_eq_left h]
        · rw [Nat.min_eq_right h, List.take_length, List.take_of_length_le h]
      rw [e] at hO17
      have e2 : u8s o' ++ [Value.int .u8 0, Value.int .u8 ((min 255 l'.length : Nat) : Int)] ++ u8s (l'.take 255) = u8s (o' ++ ([0, ((min 255 l'.length : Nat) : Int)] ++ l'.take 255)) := by simp [u8s]
      rw [← e2]
      exact hO17
  · have : l' = [] := List.eq_nil_of_length_eq_zero (by omega)
    subst this
    rw [plainB_nil, List.append_nil] at he
    subst he
    exact r_retR ⟨rfl, sp, so, Lp, Lo, h, hp, ho⟩)
set_option maxRecDepth 4000 in
theorem c_impl_delta {w : World} {s t : Sl} {base data : List Int} (hs : BSl w s base) (ht : BSl w t data) (h1 : base.length ≤ 1024) (h2 : data.length ≤ 1024) :
    Ret Tryz.prog n_impl_delta [.slice s.a s.n s.c, .slice t.a t.n t.c] w [.slice] (fun r w' => SlO w w' [] ty_uint8 1 r (u8s (deltaB base data))) := impl_delta_calls _ _ (by
  unfold impl_delta
  have hn := hs.n
  have hm := ht.n
  have hsc := hs.cap
  have htc := ht.cap
  refine r_bs0 T_sl_uint8 (At.refl w) fun y13 w1 hy13 hn13 => ?_
  obtain ⟨Lo, hOo, h⟩ := hy13.split
  refine r_bs0 T_sl_uint8 h fun y14 w2 hy14 hn14 => ?_
  obtain ⟨Lh, hOh, h⟩ := hy14.split
  refine r_new h fun b5 w3 h => ?_
  refine r_new h fun b6 w4 h => ?_
  refine r_st h 1 rfl rfl (by simp [Value.cells]) rfl fun w5 h => ?_
  refine r_st h 0 rfl rfl (by simp [Value.cells]) rfl fun w6 h => ?_
  have h : At w w6 ([slB b6 y14, slB b5 y13] ++ (Lh ++ (Lo ++ []))) := h
  refine r_loop (σ := Int) (fun x w' => ∃ (a : Nat) (o hl : List Int) (so sh : Sl) (Lo Lh : List Blk), x = a ∧ a ≤ data.length ∧ deltaGo base (data.length - a) o hl (data.drop a) = deltaB base data ∧ o.length + 3 * hl.length ≤ 4 * a ∧ bytesOk hl ∧ OwnS ty_uint8 1 so (u8s o) Lo ∧ OwnF ty_uint8 sh (u8s hl) Lh ∧ At w w' ([slB b6 sh, slB b5 so] ++ (Lh ++ (Lo ++ [])))) (fun x _ => (t.n - x).toNat) 0 rfl
    ⟨0, [], [], y13, y14, Lo, Lh, rfl, by omega, by simp [deltaB], by simp, (fun b hb => by cases hb), by simpa [u8s] using hOo, by simpa [u8s] using hOh.f, h⟩ ?_
  clear h hOo hOh hy13 hy14
  rintro x w7 ⟨a, o, hl, so, sh, Lo, Lh, rfl, ha, hgo, hlen, hhb, hOo, hOh, h⟩
  refine r_any fun _ => ?_
  have hon := ownS_n hOo
  have hhn : sh.n = hl.length := by have := hOh.1; simp [u8s] at this; omega
  refine r_if ((a : Int) < (t.n : Int)) rfl (fun hlt => ?_) (fun hge => ?_)
  · refine r_loop (σ := Int × Int × Int) (fun x w' => ∃ i : Nat, x = (((bestN base (data.drop a) i).2 : Int), ((bestN base (data.drop a) i).1 : Int), (i : Int)) ∧ i ≤ base.length ∧ At w w' ([slB b6 sh, slB b5 so] ++ (Lh ++ (Lo ++ [])))) (fun x _ => (s.n - x.2.2).toNat) (0, 0, 0) rfl ⟨0, rfl, by omega, h⟩ ?_
    clear h
    rintro x w8 ⟨i, rfl, hi, h⟩
    refine r_any fun _ => ?_
    dsimp only
    refine r_if ((i : Int) < (s.n : Int)) rfl (fun hlt2 => ?_) (fun hge2 => ?_)
    · refine r_join (σ := Int) (fun m w' => m = (matchN 255 (base.drop i) (data.drop a) : Int) ∧ At w w' ([slB b6 sh, slB b5 so] ++ (Lh ++ (Lo ++ [])))) (fun m w9 hJ => ?_) ?_
      · obtain ⟨rfl, h⟩ := hJ
        refine r_any fun _ => ?_
        refine r_if ((matchN 255 (base.drop i) (data.drop a) : Int) > ((bestN base (data.drop a) i).1 : Int)) rfl (fun hgt => ?_) (fun hle => ?_)
        · have e : bestN base (data.drop a) (i + 1) = (matchN 255 (base.drop i) (data.drop a), i) := by
            show (if (bestN base (data.drop a) i).1 < matchN 255 (base.drop i) (data.drop a) then (matchN 255 (base.drop i) (data.drop a), i) else bestN base (data.drop a) i) = _
            rw [if_pos (by omega)]
          refine ⟨((i : Int), (matchN 255 (base.drop i) (data.drop a) : Int), ((i + 1 : Nat) : Int)), by rw [w64 (n := (i : Int) + 1) (by omega) (by omega)]; rfl, ⟨i + 1, by rw [e], by omega, h⟩, by dsimp only; omega⟩
        · have e : bestN base (data.drop a) (i + 1) = bestN base (data.drop a) i := by
            show (if (bestN base (data.drop a) i).1 < matchN 255 (base.drop i) (data.drop a) then (matchN 255 (base.drop i) (data.drop a), i) else bestN base (data.drop a) i) = _
            rw [if_neg (by omega)]
          refine ⟨(((bestN base (data.drop a) i).2 : Int), ((bestN base (data.drop a) i).1 : Int), ((i + 1 : Nat) : Int)), by rw [w64 (n := (i : Int) + 1) (by omega) (by omega)]; rfl, ⟨i + 1, by rw [e], by omega, h⟩, by dsimp only; omega⟩
      · refine r_loop (σ := Int) (fun x w' => ∃ n : Nat, x = n ∧ n ≤ 255 ∧ i + n ≤ base.length ∧ a + n ≤ data.length ∧ (base.drop i).take n = (data.drop a).take n ∧ At w w' ([slB b6 sh, slB b5 so] ++ (Lh ++ (Lo ++ [])))) (fun x _ => (255 - x).toNat) 0 rfl ⟨0, rfl, by omega, by omega, by omega, by simp, h⟩ ?_
        clear h
        rintro x w9 ⟨n, rfl, n1, n2, n3, n4, h⟩
        refine r_any fun _ => ?_
        refine r_draw h fun w10 h => ?_
        have stop : (n = 255 ∨ n = (base.drop i).length ∨ n = (data.drop a).length ∨ (base.drop i)[n]? ≠ (data.drop a)[n]?) → (n : Int) = (matchN 255 (base.drop i) (data.drop a) : Int) := fun hc => by
          rw [matchN_stop n 255 _ _ n1 (by rw [List.length_drop]; omega) (by rw [List.length_drop]; omega) n4 hc]
        refine r_if ((n : Int) < 255) rfl (fun c1 => ?_) (fun c1 => ⟨_, rfl, stop (.inl (by omega)), h⟩)
        rw [w64 (n := (i : Int) + (n : Int)) (by omega) (by omega), w64 (n := (a : Int) + (n : Int)) (by omega) (by omega)]
        refine r_if ((i : Int) + (n : Int) < (s.n : Int)) rfl (fun c2 => ?_) (fun c2 => ⟨_, rfl, stop (.inr (.inl (by rw [List.length_drop]; omega))), h⟩)
        refine r_if ((a : Int) + (n : Int) < (t.n : Int)) rfl (fun c3 => ?_) (fun c3 => ⟨_, rfl, stop (.inr (.inr (.inl (by rw [List.length_drop]; omega)))), h⟩)
        rw [show (i : Int) + (n : Int) = ((i + n : Nat) : Int) by omega, show (a : Int) + (n : Int) = ((a + n : Nat) : Int) by omega]
        obtain ⟨p, hp, hpl⟩ := hs.byte (i := i + n) (by omega)
        obtain ⟨q, hq, hql⟩ := ht.byte (i := a + n) (by omega)
        refine r_ix p hp (by omega) (by omega) ?_
        refine r_ldO h _ (by simp only [Int.toNat_natCast]; exact hpl 1) (by simp) ?_
        refine r_ix q hq (by omega) (by omega) ?_
        refine r_ldO h _ (by simp only [Int.toNat_natCast]; exact hql 1) (by simp) ?_
        have ga := gD (l := base) (i := i + n) (by omega)
        have gb := gD (l := data) (i := a + n) (by omega)
        have ga' : (base.drop i)[n]? = some (base.getD (i + n) 0) := by rw [List.getElem?_drop]; exact ga
        have gb' : (data.drop a)[n]? = some (data.getD (a + n) 0) := by rw [List.getElem?_drop]; exact gb
        refine r_eq (fun he => ?_) (fun hne => ⟨_, rfl, stop (.inr (.inr (.inr ?_))), h⟩)
        · refine ⟨((n + 1 : Nat) : Int), by rw [w64 (by omega) (by omega)]; rfl, ⟨n + 1, rfl, by omega, by omega, by omega, ?_, h⟩, by omega⟩
          rw [List.take_add_one, List.take_add_one, n4, ga', gb', he]
        · rw [ga', gb']
          exact fun hh => hne (Option.some.inj hh)
    · have hiB : i = base.length := by omega
      subst hiB
      obtain ⟨b1, b2, b3, b4, b5'⟩ := bestN_ok base (data.drop a) base.length (Nat.le_refl _)
      have hdr := dropGD (l := data) (i := a) (by omega)
      have hstep : ∀ F, data.length - a = F + 1 → deltaGo base (data.length - a) o hl (data.drop a) = if (bestN base (data.drop a) base.length).1 < 8 then deltaGo base F o (hl ++ [data.getD a 0]) (data.drop (a + 1))
          else deltaGo base F (o ++ plainB hl ++ [1, ((bestN base (data.drop a) base.length).2 : Int) % 256, ((bestN base (data.drop a) base.length).2 : Int) / 256, ((bestN base (data.drop a) base.length).1 : Int)]) [] ((data.drop a).drop (bestN base (data.drop a) base.length).1) := by
        intro F hF
        rw [hF, hdr]
        rfl
      rw [hstep (data.length - (a + 1)) (by omega)] at hgo
      generalize bestN base (data.drop a) base.length = mp at *
      obtain ⟨m, pl⟩ := mp
      dsimp only at *
      rw [List.length_drop] at b2
      refine r_if ((m : Int) < 8) rfl (fun hsm => ?_) (fun hbig => ?_)
      · rw [if_pos (by omega)] at hgo
        obtain ⟨q, hq, hql⟩ := ht.byte (i := a) (by omega)
        have hbd := ht.ok.get a
        refine r_draw h fun w9 h => ?_
        refine r_ld h 0 rfl rfl sh (by simp [Sh.emb]) rfl ?_
        refine r_ix q hq (by omega) (by omega) ?_
        refine r_ldO h _ (by simp only [Int.toNat_natCast]; exact hql 1) (by simp) ?_
        refine r_lit1 T_sl_uint8 _ fun y73 w10 hb10 h73 hn73 _ => ?_
        have h := h.trans hb10
        refine r_chk1 (ldOk_own (sh := .slice) h 0 rfl 0 rfl (by simp [Sh.emb])) ?_
        refine r_appendF T_sl_uint8 h.pl1 hOh h73 (by simp [oneC]) (by omega) (by omega) fun y74 w11 Lh' h hOh' hn74 => ?_
        have h := h.pl1
        refine r_st h 0 rfl rfl (by simp) rfl fun w12 h => ?_
        have h : At w w12 ([slB b6 y74, slB b5 so] ++ (Lh' ++ (Lo ++ []))) := h
        exact ⟨((a + 1 : Nat) : Int), by rw [w64 (n := (a : Int) + 1) (by omega) (by omega)]; rfl, ⟨a + 1, o, hl ++ [data.getD a 0], so, y74, Lo, Lh', rfl, by omega, hgo, by simp; omega, hhb.append fun b hb => by rw [List.mem_singleton.1 hb]; exact hbd, hOo, by simpa [u8s] using hOh', h⟩, by omega⟩
      · rw [if_neg (by omega)] at hgo
        have hpl := plainB_len _ hl (Nat.le_refl _)
        refine r_callVR (by kernel_rfl) (c_delta_1 h hOh hOo hhb (by omega)) ?_
        rintro v w9 ⟨rfl, sh2, so2, Lh2, Lo2, h, hOh2, hOo2⟩
        refine ⟨(), rfl, ?_⟩
        have hpn := ownS_n hOo2
        rw [List.length_append] at hpn
        refine r_ld h 1 rfl rfl so2 (by simp [Sh.emb]) rfl ?_
        refine r_lit1 T_sl_uint8 _ fun y80 w10 hb10 h80 hn80 _ => ?_
        have h := h.trans hb10
        refine r_append T_sl_uint8 (hOo2.slo h.pl2) h80 (by simp [oneC]) (by omega) (by omega) fun y81 w11 hS hn81 => ?_
        have e1 : IntKind.wrap .u64 (IntKind.wrap .u16 (pl : Int)) = (pl : Int) := by
          have : IntKind.wrap .u16 (pl : Int) = (pl : Int) := by simp [IntKind.wrap, IntKind.bits, IntKind.signed]; omega
          rw [this, wrapu64 (by omega) (by omega)]
        rw [e1]
        refine r_callR (c_appendLittle hS (n := (pl : Int)) (by omega) 2 (by omega) (by omega)) ?_
        rintro v w12 ⟨r85, rfl, hS, hn85⟩
        refine ⟨r85, rfl, ?_⟩
        rw [wu8 (x := (m : Int)) (by omega) (by omega)]
        refine r_lit1 T_sl_uint8 _ fun y88 w13 hb13 h88 hn88 _ => ?_
        refine r_append T_sl_uint8 (hS.trans hb13) h88 (by simp [oneC]) (by omega) (by omega) fun y89 w14 hS hn89 => ?_
        obtain ⟨Lo3, hOo3, h⟩ := hS.split
        have h := h.pl1
        refine r_st h 1 rfl rfl (by simp) rfl fun w15 h => ?_
        have h : At w w15 ([slB b6 sh2, slB b5 y89] ++ (Lo3 ++ (Lh2 ++ []))) := h
        refine ⟨((a + m : Nat) : Int), by rw [w64 (n := (a : Int) + (m : Int)) (by omega) (by omega)]; rfl, ⟨a + m, o ++ plainB hl ++ [1, (pl : Int) % 256, (pl : Int) / 256, (m : Int)], [], y89, sh2, Lo3, Lh2, rfl, by omega, ?_, ?_, (fun b hb => by cases hb), ?_, hOh2, h.pl2.ps1⟩, by omega⟩
        · rw [← hgo, List.drop_drop]
          exact deltaGo_fuel base _ _ _ _ _ (by rw [List.length_drop]; omega) (by rw [List.length_drop]; omega)
        · simp only [List.length_append, List.length_cons, List.length_nil]
          omega
        · have e4 : u8s (o ++ plainB hl) ++ [Value.int .u8 1] ++ u8s (leB (pl : Int) 2) ++ [Value.int .u8 (m : Int)] = u8s (o ++ plainB hl ++ [1, (pl : Int) % 256, (pl : Int) / 256, (m : Int)]) := by
            rw [le2 (n := pl) (by omega)]
            simp [u8s]
          rw [← e4]
          exact hOo3
  · have haE : a = data.length := by omega
    subst haE
    rw [Nat.sub_self, List.drop_length] at hgo
    have hgo : o ++ plainB hl = deltaB base data := hgo
    have hpl := plainB_len _ hl (Nat.le_refl _)
    refine r_callVR (by kernel_rfl) (c_delta_1 h hOh hOo hhb (by omega)) ?_
    rintro v w9 ⟨rfl, sh2, so2, Lh2, Lo2, h, hOh2, hOo2⟩
    refine ⟨(), rfl, ?_⟩
    rw [hgo] at hOo2
    refine r_ld h 1 rfl rfl so2 (by simp [Sh.emb]) rfl ?_
    exact r_ret h.nil so2 rfl (hOo2.slo (ls := []) (h.right.right)))
theorem c_impl_DeltaOf {w : World} {s t : Sl} {base data : List Int} (hs : BSl w s base) (ht : BSl w t data) (h1 : base.length ≤ 1024) (h2 : data.length ≤ 1024) :
    Ret Tryz.prog n_impl_DeltaOf [.slice s.a s.n s.c, .slice t.a t.n t.c] w [.slice, .int .i64] (fun r w' => ((deltaB base data).length ≤ 1024 ∧ r.2 = 0 ∧ SlO w w' [] ty_uint8 1 r.1 (u8s (deltaB base data))) ∨ (1024 < (deltaB base data).length ∧ r.2 = 3)) := impl_DeltaOf_calls _ _ (by
  unfold impl_DeltaOf
  have hn := hs.n
  have hm := ht.n
  refine r_join (σ := Unit) (fun _ w' => w' = w) (fun _ w1 hw => ?_) ?_
  rotate_left
  · refine r_if ((s.n : Int) > 1024) rfl (fun hh => absurd hh (by omega)) (fun _ => ?_)
    refine r_if ((t.n : Int) > 1024) rfl (fun hh => absurd hh (by omega)) (fun _ => ?_)
    exact ⟨(), rfl, rfl⟩
  subst hw
  refine r_any fun _ => ?_
  refine r_call (At.refl w1) (c_impl_delta hs ht h1 h2) fun r17 w2 h _ hS => ?_
  have hrn := slO_n hS
  refine r_if ((r17.n : Int) > 1024) rfl (fun hgt => ?_) (fun hle => ?_)
  · exact r_ret h (⟨none, 0, 0⟩, (3 : Int)) rfl (.inr ⟨by omega, rfl⟩)
  · exact r_ret h (r17, (0 : Int)) rfl (.inl ⟨by omega, rfl, hS⟩))
end Go.Proofs.YtkifkdkjljcclaaGreat
