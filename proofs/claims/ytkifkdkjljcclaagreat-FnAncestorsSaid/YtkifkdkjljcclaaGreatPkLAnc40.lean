/- The laws' own source: strings, maps, books. -/
import Derived.Test.YtkifkdkjljcclaaGreatPkLAnc18
import Derived.Test.YtkifkdkjljcclaaGreatPkLAnc39
namespace Go.Sx
open Go.RowKit (Below)
theorem run_bsS2 {P : Program} {t e by_ : Nat} (hT : SlT P t e 1 by_) (a b : ByteArray) (w : World) :
    (Instr.buildSlice t 2 #[(0, (.string a)), (1, (.string b))]).run P w = .ok (.slice (some ⟨w.heap.size, 0, none⟩) 2 2) (w.alloc (.cells #[Value.string a, Value.string b] e)) := by
  obtain ⟨i, zv, hi, hzv, hsz, hby, hzs⟩ := hT.ex
  have hf : ∀ cs : Array Value, cs.size = 2 * 1 → Instr.fill (fun i => some (i * 1, 1)) cs [(0, (.string a)), (1, (.string b))] = some #[Value.string a, Value.string b] := by
    intro cs hcs
    obtain ⟨l⟩ := cs
    match l, hcs with
    | [_, _], _ => rfl
  simp [Instr.buildSlice, run_underlying hT.ut, sizeOf, typeInfo, hi, hsz, zeroValue, hzv, newRow]
  simp only [Nat.mul_one] at hf
  rw [hf _ (by simp [hzs])]
  simp
theorem r_bsS2 {P : Program} {R : Value → World → Prop} {w0 w : World} {ls : List Blk} {t e by_ : Nat} (hT : SlT P t e 1 by_) (hA : At w0 w ls) (a b : ByteArray) {k : Sl → World → Prop} (h : ∀ s L w', At w0 w' (L ++ ls) → OwnS e 1 s (([a, b] : List ByteArray).map Value.string) L → k s w') :
    ((real P R).sem (Instr.buildSlice t 2 #[(0, (.string a)), (1, (.string b))]) .slice k : World → Prop) w := by
  have hS := SlO.made (w0 := w0) hA (below_alloc w _) (heap_alloc_self w (.cells #[Value.string a, Value.string b] e)) (Nat.le_refl _) (xs := ([a, b] : List ByteArray).map Value.string) (z := 1) (n := 2) (c := 2) rfl (Nat.le_refl _) (by decide) rfl rfl
  obtain ⟨L, hO, hA'⟩ := hS.split
  exact ⟨⟨some ⟨w.heap.size, 0, none⟩, 2, 2⟩, _, run_bsS2 hT a b w, h _ _ _ hA' hO⟩
theorem run_bsS3 {P : Program} {t e by_ : Nat} (hT : SlT P t e 1 by_) (a b c : ByteArray) (w : World) :
    (Instr.buildSlice t 3 #[(0, (.string a)), (1, (.string b)), (2, (.string c))]).run P w = .ok (.slice (some ⟨w.heap.size, 0, none⟩) 3 3) (w.alloc (.cells #[Value.string a, Value.string b, Value.string c] e)) := by
  obtain ⟨i, zv, hi, hzv, hsz, hby, hzs⟩ := hT.ex
  have hf : ∀ cs : Array Value, cs.size = 3 * 1 → Instr.fill (fun i => some (i * 1, 1)) cs [(0, (.string a)), (1, (.string b)), (2, (.string c))] = some #[Value.string a, Value.string b, Value.string c] := by
    intro cs hcs
    obtain ⟨l⟩ := cs
    match l, hcs with
    | [_, _, _], _ => rfl
  simp [Instr.buildSlice, run_underlying hT.ut, sizeOf, typeInfo, hi, hsz, zeroValue, hzv, newRow]
  simp only [Nat.mul_one] at hf
  rw [hf _ (by simp [hzs])]
  simp
theorem r_bsS3 {P : Program} {R : Value → World → Prop} {w0 w : World} {ls : List Blk} {t e by_ : Nat} (hT : SlT P t e 1 by_) (hA : At w0 w ls) (a b c : ByteArray) {k : Sl → World → Prop} (h : ∀ s L w', At w0 w' (L ++ ls) → OwnS e 1 s (([a, b, c] : List ByteArray).map Value.string) L → k s w') :
    ((real P R).sem (Instr.buildSlice t 3 #[(0, (.string a)), (1, (.string b)), (2, (.string c))]) .slice k : World → Prop) w := by
  have hS := SlO.made (w0 := w0) hA (below_alloc w _) (heap_alloc_self w (.cells #[Value.string a, Value.string b, Value.string c] e)) (Nat.le_refl _) (xs := ([a, b, c] : List ByteArray).map Value.string) (z := 1) (n := 3) (c := 3) rfl (Nat.le_refl _) (by decide) rfl rfl
  obtain ⟨L, hO, hA'⟩ := hS.split
  exact ⟨⟨some ⟨w.heap.size, 0, none⟩, 3, 3⟩, _, run_bsS3 hT a b c w, h _ _ _ hA' hO⟩
theorem run_bsS4 {P : Program} {t e by_ : Nat} (hT : SlT P t e 1 by_) (a b c d : ByteArray) (w : World) :
    (Instr.buildSlice t 4 #[(0, (.string a)), (1, (.string b)), (2, (.string c)), (3, (.string d))]).run P w = .ok (.slice (some ⟨w.heap.size, 0, none⟩) 4 4) (w.alloc (.cells #[Value.string a, Value.string b, Value.string c, Value.string d] e)) := by
  obtain ⟨i, zv, hi, hzv, hsz, hby, hzs⟩ := hT.ex
  have hf : ∀ cs : Array Value, cs.size = 4 * 1 → Instr.fill (fun i => some (i * 1, 1)) cs [(0, (.string a)), (1, (.string b)), (2, (.string c)), (3, (.string d))] = some #[Value.string a, Value.string b, Value.string c, Value.string d] := by
    intro cs hcs
    obtain ⟨l⟩ := cs
    match l, hcs with
    | [_, _, _, _], _ => rfl
  simp [Instr.buildSlice, run_underlying hT.ut, sizeOf, typeInfo, hi, hsz, zeroValue, hzv, newRow]
  simp only [Nat.mul_one] at hf
  rw [hf _ (by simp [hzs])]
  simp
theorem r_bsS4 {P : Program} {R : Value → World → Prop} {w0 w : World} {ls : List Blk} {t e by_ : Nat} (hT : SlT P t e 1 by_) (hA : At w0 w ls) (a b c d : ByteArray) {k : Sl → World → Prop} (h : ∀ s L w', At w0 w' (L ++ ls) → OwnS e 1 s (([a, b, c, d] : List ByteArray).map Value.string) L → k s w') :
    ((real P R).sem (Instr.buildSlice t 4 #[(0, (.string a)), (1, (.string b)), (2, (.string c)), (3, (.string d))]) .slice k : World → Prop) w := by
  have hS := SlO.made (w0 := w0) hA (below_alloc w _) (heap_alloc_self w (.cells #[Value.string a, Value.string b, Value.string c, Value.string d] e)) (Nat.le_refl _) (xs := ([a, b, c, d] : List ByteArray).map Value.string) (z := 1) (n := 4) (c := 4) rfl (Nat.le_refl _) (by decide) rfl rfl
  obtain ⟨L, hO, hA'⟩ := hS.split
  exact ⟨⟨some ⟨w.heap.size, 0, none⟩, 4, 4⟩, _, run_bsS4 hT a b c d w, h _ _ _ hA' hO⟩
theorem r_slStr {P : Program} {R : Value → World → Prop} {w : World} {s : ByteArray} {lo hi : Option Int} {k : ByteArray → World → Prop} (l h : Nat) (hl : lo.getD 0 = (l : Int)) (hh : hi.getD s.size = (h : Int)) (h1 : l ≤ h) (h2 : h ≤ s.size) (hk : k (s.extract l h) w) : ((real P R).slS s lo hi k : World → Prop) w := by
  refine ⟨by rw [hl]; omega, by rw [hl, hh]; omega, by rw [hh]; omega, ?_⟩
  rw [hl, hh]
  exact hk
end Go.Sx
namespace Go.Proofs.YtkifkdkjljcclaaGreat
open Go.Sx Go.RowKit

theorem T_sl_string : SlT Tryz.prog ty_sl_string ty_string 1 16 := slT_of (by kernel_rfl)
theorem c_text {w0 w : World} {b : Nat} {sd x : Sl} {d : List Int} {rest L : List Blk} {A : Int} {l : List ByteArray} (hS : Src w0 b sd rest A w) (hd : SlAt w0 sd 1 (u8s d)) (hb : bytesOk d) (hA : A ≤ 1099511627774) (hx : OwnS ty_string 1 x (l.map Value.string) L) (hs : L.Sublist rest) (hl : 1 ≤ l.length) (hl2 : l.length ≤ 1000) :
    Calls Tryz.prog n_ptr_spec_l00Src_text #[.pointer (some ⟨b, 0, none⟩), .slice x.a x.n x.c] w fun e w' => ∃ v, e = .returned v ∧ ∃ t, v = .string t ∧ t ∈ l ∧ Src w0 b sd rest (A + 2) w' := ptr_spec_l00Src_text_calls _ _ (by
  unfold ptr_spec_l00Src_text
  have hn : x.n = l.length := by have := hx.1; rw [List.length_map, Nat.mul_one] at this; exact this.symm
  refine r_callR (c_pick (x.n : Int) hS hd hb hA (by omega) (by omega)) ?_
  rintro v w1 ⟨r, rfl, hr0, hr1, hS⟩
  refine ⟨r, rfl, ?_⟩
  obtain ⟨i, rfl⟩ : ∃ i : Nat, r = i := ⟨r.toNat, by omega⟩
  have hS2 := hS
  obtain ⟨a, st, h0, h1, h⟩ := hS2
  have hg : l[i]? = some l[i] := List.getElem?_eq_getElem (by omega)
  obtain ⟨p, hp, hc⟩ := (hx.sl h (hs.trans (List.sublist_cons_self _ _))).cell i (.string l[i]) (by rw [List.getElem?_map, hg]; rfl)
  refine r_ix p hp (by omega) (by omega) ?_
  simp only [Int.toNat_natCast, Nat.mul_one]
  refine r_ldN (sh := .str) l[i] hc ?_
  exact r_retR ⟨l[i], rfl, List.getElem_mem _, hS⟩)

def nmN (i : Nat) : ByteArray := ⟨#[UInt8.ofNat (119 + i)]⟩
theorem nm_ext {i : Nat} (h : i < 4) : (⟨#[119, 120, 121, 122]⟩ : ByteArray).extract i (i + 1) = nmN i := by
  apply ByteArray.ext
  rw [ByteArray.data_extract]
  match i, h with
  | 0, _ => rfl
  | 1, _ => rfl
  | 2, _ => rfl
  | 3, _ => rfl
theorem nm_lt {i j : Nat} (h : i < j) (hj : j < 4) : ltN (nmN i) (nmN j) = true := by
  unfold ltN
  rw [ByteArray.toList_eq, ByteArray.toList_eq]
  have h1 : UInt8.ofNat (119 + i) < UInt8.ofNat (119 + j) := by
    rw [UInt8.lt_iff_toNat_lt, UInt8.toNat_ofNat_of_lt' (by show _ < 256; omega), UInt8.toNat_ofNat_of_lt' (by show _ < 256; omega)]
    omega
  show (decide (UInt8.ofNat (119 + i) < UInt8.ofNat (119 + j)) || _) = true
  rw [decide_eq_true h1]
  rfl
theorem c_l07Map {w0 w : World} {b : Nat} {sd : Sl} {d : List Int} {rest : List Blk} {A : Int} (hS : Src w0 b sd rest A w) (hd : SlAt w0 sd 1 (u8s d)) (hb : bytesOk d) (hA : A ≤ 1099511627000) :
    Calls Tryz.prog n_spec_l07Map #[.pointer (some ⟨b, 0, none⟩)] w fun e w' => ∃ v, e = .returned v ∧ ∃ (s : Sl) (es : List PE) (L : List Blk), v = .slice s.a s.n s.c ∧ OwnEntryS s es L ∧ okE es ∧ es.length ≤ 4 ∧ Src w0 b sd (L ++ rest) (A + 16) w' := spec_l07Map_calls _ (by
  unfold spec_l07Map
  obtain ⟨a, st, h0, h1, h⟩ := hS
  refine r_bs0 T_sl_Entry h fun y5 w1 hy hyn => ?_
  obtain ⟨Le, hOe, h⟩ := hy.split
  refine r_loop (σ := Sl × Int) (fun x w' => ∃ (i : Nat) (es : List PE) (Le : List Blk), x.2 = i ∧ i ≤ 4 ∧ OwnEntryS x.1 es Le ∧ AscN es ∧ (∀ e ∈ es, entGood e ∧ ∃ j, j < i ∧ e.1 = nmN j) ∧ es.length ≤ i ∧ Src w0 b sd (Le ++ rest) (A + 4 * i) w') (fun x _ => (4 - x.2).toNat) (y5, 0) rfl
    ⟨0, [], Le, rfl, by omega, by simpa [OwnEntryS] using hOe, .nil, by simp, by simp, a, st, h0, by omega, h.unmid⟩ ?_
  clear h hOe hy
  rintro ⟨so, i⟩ w2 ⟨i, es, Le, hi0, hi, hOe, hasc, hgd, hel, hS⟩
  dsimp only at hi0 hOe
  subst hi0
  refine r_any fun _ => ?_
  dsimp only
  refine r_if ((i : Int) < 4) rfl (fun hlt => ?_) (fun hge => ?_)
  · refine r_callR (c_one 2 hS hd hb (by omega) (by omega) (by omega)) ?_
    rintro v w3 ⟨r, rfl, hS⟩
    refine ⟨r, rfl, ?_⟩
    cases r with
    | false =>
      refine r_false rfl ?_
      exact ⟨(so, ((i + 1 : Nat) : Int)), by rw [w64 (by omega) (by omega)]; rfl, ⟨i + 1, es, Le, rfl, by omega, hOe, hasc, fun e he => by obtain ⟨h1, j, hj, h2⟩ := hgd e he; exact ⟨h1, j, by omega, h2⟩, by omega, hS.mono (by omega)⟩, by dsimp only; omega⟩
    | true =>
      refine r_true rfl ?_
      obtain ⟨a, st, h0, h1, h⟩ := hS
      refine r_draw h fun w4 h => ?_
      rw [w64 (n := (i : Int) + 1) (by omega) (by omega), show (i : Int) + 1 = ((i + 1 : Nat) : Int) by omega]
      refine r_slStr i (i + 1) rfl rfl (by omega) (by show i + 1 ≤ 4; omega) ?_
      rw [nm_ext (by omega)]
      refine r_bsS4 T_sl_string h _ _ _ _ fun y18 Ly w5 h hOy => ?_
      have hS : Src w0 b sd (Ly ++ (Le ++ rest)) (A + 4 * i + 2) w5 := ⟨a, st, h0, h1, h.unmid⟩
      refine r_callR (c_text hS hd hb (by omega) hOy (List.sublist_append_left _ _) (by simp) (by simp)) ?_
      rintro v w6 ⟨t, rfl, ht, a, st, h0, h1, h⟩
      refine ⟨t, rfl, ?_⟩
      have htl : t.size ≤ 64 := by
        simp only [List.mem_cons, List.not_mem_nil, or_false] at ht
        rcases ht with rfl | rfl | rfl | rfl <;> decide
      refine r_pur (sh := .agg) _ (run_mkEntry (nmN i) t) ?_
      have h : At w0 w6 ([(b, srcC sd a st, ty_spec_l00Src)] ++ (Ly ++ (Le ++ rest))) := h
      have hson := OwnEntryS.n hOe
      refine r_push T_sl_Entry (OwnS.slo hOe h.pl2) (v := .agg #[Value.string (nmN i), Value.string t]) (by simp [Value.cells]) (by omega) (by simp [Value.cells, oneC]) (by omega) (by omega) fun y22 w7 hS7 hn7 => ?_
      obtain ⟨L', hO', h⟩ := hS7.split
      have h := h.pl1.dr2
      refine ⟨(y22, ((i + 1 : Nat) : Int)), rfl, ⟨i + 1, es ++ [(nmN i, t)], L', rfl, by omega, ?_, ?_, ?_, by simp; omega, a, st, h0, by omega, h⟩, by dsimp only; omega⟩
      · show OwnS _ _ _ _ _
        simpa [Value.cells, entC, List.flatMap_append] using hO'
      · refine List.pairwise_append.2 ⟨hasc, by simp, fun x hx y hy => ?_⟩
        obtain ⟨_, j, hj, h2⟩ := hgd x hx
        rw [List.mem_singleton.1 hy, h2]
        exact nm_lt hj (by omega)
      · intro e he
        rcases List.mem_append.1 he with he | he
        · obtain ⟨h1, j, hj, h2⟩ := hgd e he
          exact ⟨h1, j, by omega, h2⟩
        · rw [List.mem_singleton.1 he]
          exact ⟨⟨rfl, htl⟩, i, by omega, rfl⟩
  · exact r_retR ⟨so, es, Le, rfl, hOe, okE_of hasc (fun e he => (hgd e he).1) (by omega), by omega, hS.mono (by omega)⟩)

theorem c_l07Drawn {w0 w : World} {b : Nat} {sd : Sl} {d : List Int} {rest : List Blk} {A : Int} (N : Nat) (hS : Src w0 b sd rest A w) (hd : SlAt w0 sd 1 (u8s d)) (hb : bytesOk d) (hA : A ≤ 1099511600000) (hN : N ≤ 10) :
    Calls Tryz.prog n_spec_l07Drawn #[.pointer (some ⟨b, 0, none⟩), .int .i64 (N : Int)] w fun e w' => ∃ v, e = .returned v ∧ ∃ (g : Array Value) (bk : PBk) (L : List Blk), v = .agg g ∧ OwnBook g bk L ∧ validB bk ∧ bk.cms.length ≤ N ∧ Src w0 b sd (L ++ rest) (A + 1000) w' := spec_l07Drawn_calls _ _ (by
  unfold spec_l07Drawn
  obtain ⟨a, st, h0, h1, h⟩ := hS
  refine r_new h fun b4 w1 h => ?_
  refine r_pur (sh := .agg) _ run_mkBk ?_
  refine r_new h fun b5 w2 h => ?_
  refine r_stA h 0 rfl rfl rfl rfl (bkC_one _ _) fun w3 h => ?_
  have h : At w0 w3 ([(b5, bkC ⟨none, 0, 0⟩ ⟨none, 0, 0⟩, ty_impl_Book), (b4, bkC ⟨none, 0, 0⟩ ⟨none, 0, 0⟩, ty_impl_Book)] ++ ((b, srcC sd a st, ty_spec_l00Src) :: rest)) := h
  refine r_bs0 T_sl_Key h fun y16 w4 hy hyn => ?_
  obtain ⟨Lk, hOk, h⟩ := hy.split
  have hOk : OwnKeyS y16 [] Lk := ⟨by simpa using hOk, by simp⟩
  rw [← List.append_assoc] at h
  have h := h.unmid
  have hS : Src w0 b sd ((Lk ++ [(b5, bkC ⟨none, 0, 0⟩ ⟨none, 0, 0⟩, ty_impl_Book), (b4, bkC ⟨none, 0, 0⟩ ⟨none, 0, 0⟩, ty_impl_Book)]) ++ rest) A w4 := ⟨a, st, h0, h1, h⟩
  rw [w64 (n := (N : Int) + 1) (by omega) (by omega)]
  refine r_callR (c_pick ((N : Int) + 1) hS hd hb (by omega) (by omega) (by omega)) ?_
  rintro v w5 ⟨r20, rfl, hr0, hr1, a, st, h0, h1, h⟩
  refine ⟨r20, rfl, ?_⟩
  obtain ⟨K, rfl⟩ : ∃ K : Nat, r20 = K := ⟨r20.toNat, by omega⟩
  have h : At w0 w5 ([(b, srcC sd a st, ty_spec_l00Src)] ++ ([(b5, bkC ⟨none, 0, 0⟩ ⟨none, 0, 0⟩, ty_impl_Book), (b4, bkC ⟨none, 0, 0⟩ ⟨none, 0, 0⟩, ty_impl_Book)] ++ (Lk ++ ([] ++ rest)))) := by
    have h : At w0 w5 ([(b, srcC sd a st, ty_spec_l00Src)] ++ (Lk ++ ([(b5, bkC ⟨none, 0, 0⟩ ⟨none, 0, 0⟩, ty_impl_Book), (b4, bkC ⟨none, 0, 0⟩ ⟨none, 0, 0⟩, ty_impl_Book)] ++ rest))) := by
      rw [← List.append_assoc Lk]
      exact h
    exact h.pl2.pl1
  have hv0 : validB ⟨[], []⟩ := ⟨⟨by simp, rfl⟩, fun i hi => (by simp at hi)⟩
  refine r_loop (σ := Sl × Int) (fun x w' => ∃ (kk : Nat) (bk : PBk) (g : Array Value) (Lk Lb : List Blk), x.2 = kk ∧ kk ≤ K ∧ OwnKeyS x.1 (keysB bk) Lk ∧ OwnBook g bk Lb ∧ validB bk ∧ bk.cms.length + kk ≤ N ∧ Src w0 b sd ([(b5, g, ty_impl_Book), (b4, bkC ⟨none, 0, 0⟩ ⟨none, 0, 0⟩, ty_impl_Book)] ++ (Lk ++ (Lb ++ rest))) (A + 2 + 60 * (K - kk)) w') (fun x _ => x.2.toNat) (y16, (K : Int)) rfl
    ⟨K, ⟨[], []⟩, _, Lk, [], rfl, Nat.le_refl _, hOk, OwnBook.none, hv0, by simp; omega, a, st, h0, by omega, h⟩ ?_
  clear h hOk hy hS
  rintro ⟨sk, kk⟩ w6 ⟨kk, bk, g, Lk, Lb, hk0, hkK, hOk, hOb, hv, hbl, hS⟩
  dsimp only at hk0 hOk
  subst hk0
  refine r_any fun _ => ?_
  dsimp only
  have hskn := hOk.n
  have hKl := keysB_len bk
  rw [hKl] at hskn
  refine r_if ((kk : Int) > 0) rfl (fun hpos => ?_) (fun hz => ?_)
  · obtain ⟨a, st, h0, h1, h⟩ := hS
    refine r_bs0 T_sl_Key h fun y25 w7 hy hyn => ?_
    obtain ⟨Lp, hOp, h⟩ := hy.split
    have hOp : OwnKeyS y25 [] Lp := ⟨by simpa using hOp, by simp⟩
    refine r_callR (c_l07Map (rest := Lp ++ ([(b5, g, ty_impl_Book), (b4, bkC ⟨none, 0, 0⟩ ⟨none, 0, 0⟩, ty_impl_Book)] ++ (Lk ++ (Lb ++ rest)))) ⟨a, st, h0, h1, h.unmid⟩ hd hb (by omega)) ?_
    rintro v w8 ⟨r27, es0, Le, rfl, hOe, hoe, hel, hS⟩
    refine ⟨r27, rfl, ?_⟩
    refine r_join (σ := Sl × Sl) (fun x w' => ∃ (ps : List (List Int)) (es : List PE) (Le Lp : List Blk), OwnKeyS x.1 ps Lp ∧ OwnEntryS x.2 es Le ∧ ps.length ≤ 2 ∧ es.length ≤ 64 ∧ Src w0 b sd (Le ++ (Lp ++ ([(b5, g, ty_impl_Book), (b4, bkC ⟨none, 0, 0⟩ ⟨none, 0, 0⟩, ty_impl_Book)] ++ (Lk ++ (Lb ++ rest))))) (A + 2 + 60 * (K - kk) + 50) w') (fun x w9 hJ => ?_) ?_
    · obtain ⟨sp, se⟩ := x
      obtain ⟨ps, es, Le, Lp, hOp, hOe, hpl, hel, a, st, h0, h1, h⟩ := hJ
      dsimp only at hOp hOe
      refine r_any fun _ => ?_
      dsimp only
      refine r_bsS3 T_sl_string h _ _ _ fun y76 Ly w10 h hOy => ?_
      refine r_callR (c_text (rest := Ly ++ (Le ++ (Lp ++ ([(b5, g, ty_impl_Book), (b4, bkC ⟨none, 0, 0⟩ ⟨none, 0, 0⟩, ty_impl_Book)] ++ (Lk ++ (Lb ++ rest)))))) ⟨a, st, h0, h1, h.unmid⟩ hd hb (by omega) hOy (List.sublist_append_left _ _) (by simp) (by simp)) ?_
      rintro v w11 ⟨note, rfl, _, a, st, h0, h1, h⟩
      refine ⟨note, rfl, ?_⟩
      have h : At w0 w11 ([(b, srcC sd a st, ty_spec_l00Src)] ++ (Ly ++ (Le ++ (Lp ++ ([(b5, g, ty_impl_Book), (b4, bkC ⟨none, 0, 0⟩ ⟨none, 0, 0⟩, ty_impl_Book)] ++ (Lk ++ (Lb ++ rest))))))) := h
      obtain ⟨s, t, rfl, ⟨rs, hX, hs⟩, ⟨ms, hM, ht⟩⟩ := hOb.rd h.pl6
      refine r_call h (c_l07Commit (note := note) (bkR_own h.pl4 0 rfl hs ht) hX hM hv (hOp.ks h ((List.sublist_append_left _ _).trans ((List.sublist_append_right _ _).trans ((List.sublist_append_right _ _).trans (List.sublist_append_right _ _))))) (by omega) (OwnEntryS.rd hOe h.pl2) (by omega)) fun r78 w12 _ _ ⟨Lr, hLr, hOr, hkr, hcr⟩ => ?_
      obtain ⟨g0, g1, c78⟩ := r78
      dsimp only at hOr hkr hcr ⊢
      have h := h.join hLr
      refine r_new h fun b12 w13 h => ?_
      refine r_new h fun b13 w14 h => ?_
      refine r_stA h 1 rfl rfl hOr.sz rfl hOr.one fun w15 h => ?_
      refine r_stA h 0 rfl rfl (RdKey.sz hkr) (by simp [Value.cells]) (RdKey.one hkr) fun w16 h => ?_
      have h : At w0 w16 ([(b13, g1, ty_impl_Key), (b12, g0, ty_impl_Book)] ++ (Lr ++ ([(b, srcC sd a st, ty_spec_l00Src)] ++ (Ly ++ (Le ++ (Lp ++ ([(b5, bkC s t, ty_impl_Book), (b4, bkC ⟨none, 0, 0⟩ ⟨none, 0, 0⟩, ty_impl_Book)] ++ (Lk ++ (Lb ++ rest))))))))) := h
      refine r_eq (fun hc0 => ?_) (fun hc0 => ?_)
      · rw [hcr] at hc0
        obtain ⟨hans, hv', hK', _⟩ := comAns_valid hv hc0
        rw [hans] at hOr hkr
        dsimp only at hOr hkr
        obtain ⟨hg1, hko⟩ := hkr
        refine r_ldA h 1 rfl rfl hOr.sz ?_
        refine r_stA h.pl6 0 rfl rfl hOr.sz rfl hOr.one fun w17 h => ?_
        have h : At w0 w17 ([(b5, g0, ty_impl_Book), (b4, bkC ⟨none, 0, 0⟩ ⟨none, 0, 0⟩, ty_impl_Book)] ++ ([(b13, g1, ty_impl_Key), (b12, g0, ty_impl_Book)] ++ (Lr ++ ([(b, srcC sd a st, ty_spec_l00Src)] ++ (Ly ++ (Le ++ (Lp ++ (Lk ++ (Lb ++ rest))))))))) := h
        refine r_ldA h.pl1 0 rfl rfl (RdKey.sz (w := w12) ⟨hg1, hko⟩) ?_
        refine r_push T_sl_Key (hOk.1.slo h.pl7) (v := .agg g1) (by rw [hg1]; simp [Value.cells, hko.1]) (by omega) (by rw [hg1]; simpa [Value.cells] using u8s_one) (by omega) (by omega) fun y88 w18 hS18 hn18 => ?_
        obtain ⟨L', hO', h⟩ := hS18.split
        have h := h.pl4.dr3.pl2.pl1.dr4.dr4.dr4.dr4
        refine ⟨(y88, ((kk - 1 : Nat) : Int)), by rw [w64 (by omega) (by omega), show (kk : Int) - 1 = ((kk - 1 : Nat) : Int) by omega]; rfl, ⟨kk - 1, _, g0, L', Lr, rfl, by omega, ⟨?_, ?_⟩, hOr, hv', by simp; omega, a, st, h0, by omega, ?_⟩, by dsimp only; omega⟩
        · rw [hK', List.flatMap_append]
          rw [hg1] at hO'
          simpa [Value.cells] using hO'
        · exact keysB_ok _
        · exact h
      · have h := h.right.right.dr1.dr1.dr1
        exact ⟨(sk, ((kk - 1 : Nat) : Int)), by rw [w64 (by omega) (by omega), show (kk : Int) - 1 = ((kk - 1 : Nat) : Int) by omega]; rfl, ⟨kk - 1, bk, bkC s t, Lk, Lb, rfl, by omega, hOk, hOb, hv, by omega, a, st, h0, by omega, h⟩, by dsimp only; omega⟩
    · refine r_callR (c_pick 3 hS hd hb (by omega) (by omega) (by omega)) ?_
      rintro v w9 ⟨r29, rfl, hq0, hq1, hS⟩
      refine ⟨r29, rfl, ?_⟩
      obtain ⟨n, rfl⟩ : ∃ n : Nat, r29 = n := ⟨r29.toNat, by omega⟩
      refine r_loop (σ := Sl × Sl × Int) (fun x w' => ∃ (n : Nat) (ps : List (List Int)) (es : List PE) (Le Lp : List Blk), x.2.2 = n ∧ n ≤ 2 ∧ OwnKeyS x.1 ps Lp ∧ OwnEntryS x.2.1 es Le ∧ ps.length + n ≤ 2 ∧ es.length ≤ 64 ∧ Src w0 b sd (Le ++ (Lp ++ ([(b5, g, ty_impl_Book), (b4, bkC ⟨none, 0, 0⟩ ⟨none, 0, 0⟩, ty_impl_Book)] ++ (Lk ++ (Lb ++ rest))))) (A + 2 + 60 * (K - kk) + 18 + 8 * (2 - n)) w') (fun x _ => x.2.2.toNat) (y25, r27, (n : Int)) rfl
        ⟨n, [], es0, Le, Lp, rfl, by omega, hOp, hOe, by simp; omega, by omega, hS.mono (by omega)⟩ ?_
      clear hOp hOe hS hel hoe
      rintro ⟨sp, se, n⟩ w10 ⟨n, ps, es, Le, Lp, hn0, hn2, hOp, hOe, hpl, hel, hS⟩
      dsimp only at hn0 hOp hOe
      subst hn0
      refine r_any fun _ => ?_
      dsimp only
      refine r_join (σ := Unit) (fun _ w' => 0 < n ∧ 0 < sk.n ∧ Src w0 b sd (Le ++ (Lp ++ ([(b5, g, ty_impl_Book), (b4, bkC ⟨none, 0, 0⟩ ⟨none, 0, 0⟩, ty_impl_Book)] ++ (Lk ++ (Lb ++ rest))))) (A + 2 + 60 * (K - kk) + 18 + 8 * (2 - n)) w') (fun _ w11 hJ => ?_) ?_
      · obtain ⟨hn1, hsk1, hS⟩ := hJ
        refine r_any fun _ => ?_
        refine r_callR (c_pick (sk.n : Int) hS hd hb (by omega) (by omega) (by omega)) ?_
        rintro v w12 ⟨r42, rfl, hp0, hp1, a, st, h0, h1, h⟩
        refine ⟨r42, rfl, ?_⟩
        obtain ⟨i, rfl⟩ : ∃ i : Nat, r42 = i := ⟨r42.toNat, by omega⟩
        have h : At w0 w12 ([(b, srcC sd a st, ty_spec_l00Src)] ++ (Le ++ (Lp ++ ([(b5, g, ty_impl_Book), (b4, bkC ⟨none, 0, 0⟩ ⟨none, 0, 0⟩, ty_impl_Book)] ++ (Lk ++ (Lb ++ rest)))))) := h
        obtain ⟨x, q, hx, hxm, hq, hxo, hxl⟩ := (hOk.ks h ((List.sublist_append_left _ _).trans ((List.sublist_append_right _ _).trans ((List.sublist_append_right _ _).trans ((List.sublist_append_right _ _).trans (List.sublist_append_right _ _)))))).get (i := i) (by omega)
        refine r_ix q hq (by omega) (by omega) ?_
        simp only [Int.toNat_natCast]
        refine r_ldN (u8s x).toArray hxl ?_
        have hspn := hOp.n
        refine r_push T_sl_Key (hOp.1.slo h.pl2) (v := .agg (u8s x).toArray) (by simp [Value.cells, hxo.1]) (by omega) (by simpa [Value.cells] using u8s_one) (by omega) (by omega) fun y49 w13 hS13 hn13 => ?_
        obtain ⟨Lp', hOp', h⟩ := hS13.split
        have hOp' : OwnKeyS y49 (ps ++ [x]) Lp' := ⟨by simpa [Value.cells, List.flatMap_append] using hOp', fun z hz => by
          rcases List.mem_append.1 hz with hz | hz
          · exact hOp.2 z hz
          · rw [List.mem_singleton.1 hz]; exact hxo⟩
        have h := h.pl1.pl2.pl1
        refine r_callR (c_one (rest := Le ++ (Lp' ++ ([(b5, g, ty_impl_Book), (b4, bkC ⟨none, 0, 0⟩ ⟨none, 0, 0⟩, ty_impl_Book)] ++ (Lk ++ (Lb ++ rest))))) 2 ⟨a, st, h0, h1, h⟩ hd hb (by omega) (by omega) (by omega)) ?_
        rintro v w14 ⟨r51, rfl, a, st, h0, h1, h⟩
        refine ⟨r51, rfl, ?_⟩
        have h : At w0 w14 ([(b, srcC sd a st, ty_spec_l00Src)] ++ (Le ++ (Lp' ++ ([(b5, g, ty_impl_Book), (b4, bkC ⟨none, 0, 0⟩ ⟨none, 0, 0⟩, ty_impl_Book)] ++ (Lk ++ (Lb ++ rest)))))) := h
        cases r51 with
        | false =>
          refine r_false rfl ?_
          exact ⟨(y49, se, ((n - 1 : Nat) : Int)), by rw [w64 (by omega) (by omega), show (n : Int) - 1 = ((n - 1 : Nat) : Int) by omega]; rfl, ⟨n - 1, ps ++ [x], es, Le, Lp', rfl, by omega, hOp', hOe, by simp; omega, hel, a, st, h0, by omega, h⟩, by dsimp only; omega⟩
        | true =>
          refine r_true rfl ?_
          refine r_bs0 T_sl_Entry h fun y52 w15 hy52 hyn52 => ?_
          have h := hy52.at_
          obtain ⟨s, t, rfl, ⟨rs, hX, hs⟩, ⟨ms, hM, ht⟩⟩ := hOb.rd h.pl5
          have hml : ms.length = bk.maps.length := by rw [← hM]; simp
          have hmc := hv.1.2
          refine r_ldN (sh := .slice) t (ldOk_own (sh := .slice) h.pl3 0 rfl 1 rfl (by simp [bkC, Sh.emb])) ?_
          obtain ⟨m, q2, hm, _, hq2, hmo, hmd⟩ := EssR.get ht (i := i) (by omega)
          have htn := EssR.n ht
          have hme : m.es = mapAt bk i := mapAt_row hM hm
          have hm64 : m.es.length ≤ 64 := by rw [hme]; exact (hv.2 i (by omega)).2.1.2
          have hmn := SlOf.n hmo
          refine r_ix q2 hq2 (by omega) (by omega) ?_
          simp only [Int.toNat_natCast]
          refine r_ldN (sh := .slice) m.d hmd ?_
          refine r_append T_sl_Entry hy52 (SlOf.sl hmo) (entCs_one _) (by omega) (by omega) fun y58 w16 hS16 hn58 => ?_
          obtain ⟨L58, hO58, h⟩ := hS16.split
          have hO58 : OwnEntryS y58 m.es L58 := by
            show OwnS _ _ _ _ _
            simpa using hO58
          have h := h.pl1.dr2
          refine r_if ((y58.n : Int) > 0) rfl (fun hpos58 => ?_) (fun hz58 => ?_)
          · refine r_callR (c_pick (rest := L58 ++ (Lp' ++ ([(b5, bkC s t, ty_impl_Book), (b4, bkC ⟨none, 0, 0⟩ ⟨none, 0, 0⟩, ty_impl_Book)] ++ (Lk ++ (Lb ++ rest))))) (y58.n : Int) ⟨a, st, h0, h1, h⟩ hd hb (by omega) (by omega) (by omega)) ?_
            rintro v w17 ⟨r66, rfl, hv0, hv1, a, st, h0, h1, h⟩
            refine ⟨r66, rfl, ?_⟩
            obtain ⟨j, rfl⟩ : ∃ j : Nat, r66 = j := ⟨r66.toNat, by omega⟩
            refine r_bsS2 T_sl_string h _ _ fun y68 Ly w18 h hOy => ?_
            refine r_callR (c_text (rest := Ly ++ (L58 ++ (Lp' ++ ([(b5, bkC s t, ty_impl_Book), (b4, bkC ⟨none, 0, 0⟩ ⟨none, 0, 0⟩, ty_impl_Book)] ++ (Lk ++ (Lb ++ rest)))))) ⟨a, st, h0, h1, h.unmid⟩ hd hb (by omega) hOy (List.sublist_append_left _ _) (by simp) (by simp)) ?_
            rintro v w19 ⟨tx, rfl, _, a, st, h0, h1, h⟩
            refine ⟨tx, rfl, ?_⟩
            have h : At w0 w19 ([(b, srcC sd a st, ty_spec_l00Src)] ++ (Ly ++ (L58 ++ (Lp' ++ ([(b5, bkC s t, ty_impl_Book), (b4, bkC ⟨none, 0, 0⟩ ⟨none, 0, 0⟩, ty_impl_Book)] ++ (Lk ++ (Lb ++ rest))))))) := h
            obtain ⟨p3, hp3⟩ := OwnS.addr hO58 (by omega)
            have hej : m.es[j]? = some m.es[j] := List.getElem?_eq_getElem (by omega)
            refine r_ix p3 hp3 (by omega) (by omega) ?_
            simp only [Int.toNat_natCast]
            refine r_stO (v := .string tx) h.pl2 hO58 hp3 (j * 2 + 1) (by rw [Go.Deep.add_add]) (by simp [Value.cells]) (by rw [flatMap_length (z := 2) (fun l _ => entC_len l)]; omega) (by simp [Value.cells, oneC]) fun w20 L59 h hO59 => ?_
            rw [ent_set hej] at hO59
            have h := h.pl1.dr2
            exact ⟨(y49, y58, ((n - 1 : Nat) : Int)), by rw [w64 (by omega) (by omega), show (n : Int) - 1 = ((n - 1 : Nat) : Int) by omega]; rfl, ⟨n - 1, ps ++ [x], _, L59, Lp', rfl, by omega, hOp', hO59, by simp; omega, by simp; omega, a, st, h0, by omega, h⟩, by dsimp only; omega⟩
          · exact ⟨(y49, y58, ((n - 1 : Nat) : Int)), by rw [w64 (by omega) (by omega), show (n : Int) - 1 = ((n - 1 : Nat) : Int) by omega]; rfl, ⟨n - 1, ps ++ [x], _, L58, Lp', rfl, by omega, hOp', hO58, by simp; omega, hm64, a, st, h0, by omega, h⟩, by dsimp only; omega⟩
      · refine r_if ((n : Int) > 0) rfl (fun hn1 => ?_) (fun hn1 => ?_)
        · refine r_if ((sk.n : Int) > 0) rfl (fun hsk1 => ?_) (fun hsk1 => ?_)
          · exact ⟨(), rfl, by omega, by omega, hS⟩
          · exact ⟨(sp, se), rfl, ps, es, Le, Lp, hOp, hOe, by omega, hel, hS.mono (by omega)⟩
        · exact ⟨(sp, se), rfl, ps, es, Le, Lp, hOp, hOe, by omega, hel, hS.mono (by omega)⟩
  · obtain ⟨a, st, h0, h1, h⟩ := hS
    have h : At w0 w6 ([(b, srcC sd a st, ty_spec_l00Src), (b5, g, ty_impl_Book), (b4, bkC ⟨none, 0, 0⟩ ⟨none, 0, 0⟩, ty_impl_Book)] ++ (Lk ++ (Lb ++ rest))) := h
    refine r_ldA h 1 rfl rfl hOb.sz ?_
    refine r_stA h 2 rfl rfl hOb.sz rfl hOb.one fun w7 h => ?_
    refine r_ldA h 2 rfl rfl hOb.sz ?_
    have h : At w0 w7 ([(b, srcC sd a st, ty_spec_l00Src)] ++ ([(b5, g, ty_impl_Book), (b4, g, ty_impl_Book)] ++ (Lk ++ (Lb ++ rest)))) := h
    exact r_retR ⟨g, bk, Lb, rfl, hOb, hv, by omega, a, st, h0, by omega, h.dr1.dr1⟩)
theorem c_A2Book {w : World} {sd : Sl} {d : List Int} (hd : SlAt w sd 1 (u8s d)) (hb : bytesOk d) :
    Ret Tryz.prog n_spec_A2Book [.slice sd.a sd.n sd.c] w [.agg] (fun r w' => ∃ L bk, At w w' L ∧ OwnBook r bk L ∧ validB bk ∧ bk.cms.length ≤ 7) := spec_A2Book_calls _ (by
  unfold spec_A2Book
  refine r_new (At.refl w) fun b2 w1 h1 => ?_
  refine r_callR (c_l00From sd w1) ?_
  rintro v w2 ⟨b, rfl, hS⟩
  refine ⟨⟨b, 0, none⟩, rfl, ?_⟩
  refine r_callR (c_l07Drawn 7 hS (hd.at h1) hb (by omega) (by omega)) ?_
  rintro v w3 ⟨g, bk, L, rfl, hO, hv, hl, a, st, h0, h2, h⟩
  refine ⟨g, rfl, ?_⟩
  have h := h1.join h.tail
  rw [List.append_nil] at h
  have h := h.swap
  refine r_stA h 0 rfl rfl hO.sz rfl hO.one fun w4 h => ?_
  refine r_ldA h 0 rfl rfl hO.sz ?_
  have h : At w w4 ([(b2, g, ty_impl_Book)] ++ L) := h
  exact r_ret h.nil g rfl ⟨L, bk, h.right, hO, hv, hl⟩)
end Go.Proofs.YtkifkdkjljcclaaGreat
