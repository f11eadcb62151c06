/- Blocks of strings' bytes are kept; the laws' own source beside them: entries, maps, chunks. Printed in part (n4.py). -/
import Derived.Test.YtkifkdkjljcclaaGreatPkLTor24
namespace Go.Sx
open Go.RowKit (Below)
def Keeps (w w' : World) : Prop := ∀ (r : Nat) (o : Obj), w.heap[r]? = some o → (∀ c e, o ≠ .cells c e (0, 0)) → w'.heap[r]? = some o
theorem Keeps.refl (w : World) : Keeps w w := fun _ _ h _ => h
theorem Keeps.trans {w w' w'' : World} (h : Keeps w w') (g : Keeps w' w'') : Keeps w w'' := fun r o ho hn => g r o (h r o ho hn) hn
theorem Keeps.of {w w' : World} (h : Below w.heap.size w w') : Keeps w w' := fun _ _ ho _ => h.keeps ho
section
variable {P : Program} {R : Value → World → Prop} {w0 w : World} {ls : List Blk}
theorem r_appendK {t ty e z by_ : Nat} (hT : SlT P t e z by_) {s y : Sl} {xs news : List Value} {k : Sl → World → Prop} (hS : SlO w0 w ls e z s xs) (hy : SlAt w y z news) (h1 : ∀ v ∈ news, oneC v = true)
    (hbytes : (s.n + y.n) * by_ ≤ 140737488355328) (hmax : s.n + y.n ≤ 140737488355328) (h : ∀ s' w', SlO w0 w' ls e z s' (xs ++ news) → s'.n = s.n + y.n → Keeps w w' → k s' w') :
    ((real P R).sem (Builtin.append_ #[t, t] ty #[.slice s.a s.n s.c, .slice y.a y.n y.c]) .slice k : World → Prop) w := by
  obtain ⟨i, zv, hi, hz, hsz, hby, hzs⟩ := hT.ex
  have hmx : s.n + y.n ≤ maxLen := by unfold maxLen; omega
  have hlen : (xs ++ news).length = (s.n + y.n) * z := by rw [List.length_append, hS.len, hy.len, Nat.add_mul]
  have hfy := run_first (P := P) hy
  have hzero : (zeroValue e).run P w = .ok zv w := by simp [zeroValue, typeInfo, hi, hz]
  by_cases hroom : s.n + y.n ≤ s.c
  · rcases hS.own with ⟨ha, hn, hc⟩ | ⟨g, cur, ha, hA, hnc, hcm, hcs, htk⟩
    · have hy0 : y.n = 0 := by omega
      have hnews : news = [] := List.eq_nil_of_length_eq_zero (by rw [hy.len, hy0, Nat.zero_mul])
      subst hnews
      refine ⟨s, w, ?_, h s w ⟨hS.at_, by simpa using hS.len, ?_⟩ (by omega) (Keeps.refl w)⟩
      · simp only [Sh.emb, ha, hn, hc, hy0] at hfy ⊢
        simp [Builtin.append_, run_underlying hT.ut, sizeOf, typeInfo, hi, hsz, Builtin.lenOf, hfy]
      · rw [List.append_nil]; exact .inl ⟨ha, hn, hc⟩
    · have hfit : s.n * z + news.length ≤ cur.size := by rw [hy.len, hcs, ← Nat.add_mul]; exact Nat.mul_le_mul_right _ hroom
      have hg : w.heap[g]? = some (.cells cur e (0, 0)) := hA.get (i := 0) rfl
      obtain ⟨k1, k2, k3, k4, k5, k6, k7⟩ := stW_heap news (s.n * z) 0 w cur hg (by simpa using hfit) h1
      have hst := run_storeCells (P := P) ⟨g, s.n * z, none⟩ news 0 w k1
      have hcur' : (cur.toList.take (s.n * z + 0) ++ news ++ cur.toList.drop (s.n * z + 0 + news.length)).toArray.size = s.c * z := by
        simp only [List.size_toArray, List.length_append, List.length_take, List.length_drop, Array.length_toList]; omega
      have hA' := hA.write (i := 0) rfl k2 k3 k4 k5 k6 k7
      refine ⟨⟨s.a, s.n + y.n, s.c⟩, stW w ⟨g, s.n * z, none⟩ news 0, ?_, h _ _ ⟨hA'.take _ (List.sublist_cons_self _ _), hlen, .inr ⟨g, _, ha, hA', hroom, hcm, hcur', ?_⟩⟩ rfl (fun r o hM hmo => by rw [k3 r (fun hh => by rw [hh, hg] at hM; exact hmo _ _ (Option.some.inj hM).symm)]; exact hM)⟩
      · simp only [Sh.emb]
        simp [Builtin.append_, run_underlying hT.ut, sizeOf, typeInfo, hi, hsz, Builtin.lenOf, hroom, hfy, ha, add_lit, hst]
      · have e1 : xs.length = s.n * z := hS.len
        have e2 : cur.toList.take (s.n * z + 0) = xs := by rw [Nat.add_zero, ← e1]; exact htk
        simp only [e2]
        rw [List.append_assoc, ← List.append_assoc]
        exact List.take_left
  · have hfx := run_first (P := P) hS.sl.drew'
    have h63' : ¬ (9223372036854775807 < ((s.n : Int) + (y.n : Int))) := by omega
    have hfit := growslice_fits (need := s.n + y.n) (old := s.c) (bytes := by_) (by omega) hbytes
    have h48' : ¬ (281474976710656 < Builtin.nextslicecap (s.n + y.n) s.c * i.bytes) := by rw [hby]; omega
    have hge := grownCap_ge w (s.n + y.n) s.c e
    have hcm := grownCap_le_maxLen w (s.n + y.n) s.c e hmx
    have hfy' := run_first (P := P) hy.drew'
    have hsz' : (xs.toArray ++ news.toArray ++ Builtin.zeroCells zv.cells (grownCap w (s.n + y.n) s.c e - (s.n + y.n))).size = grownCap w (s.n + y.n) s.c e * z := by
      simp only [Array.size_append, List.size_toArray, size_zeroCells, hzs, hS.len, hy.len, ← Nat.add_mul]
      congr 1
      omega
    have htk : (xs.toArray ++ news.toArray ++ Builtin.zeroCells zv.cells (grownCap w (s.n + y.n) s.c e - (s.n + y.n))).toList.take (xs ++ news).length = xs ++ news := by
      simp only [Array.toList_append]
      exact List.take_left
    refine ⟨⟨some ⟨w.heap.size, 0, none⟩, s.n + y.n, grownCap w (s.n + y.n) s.c e⟩, w.drew.alloc (.cells (xs.toArray ++ news.toArray ++ Builtin.zeroCells zv.cells (grownCap w (s.n + y.n) s.c e - (s.n + y.n))) e), ?_,
      h _ _ (SlO.made hS.at_ ((drew_below w).trans ((below_alloc w.drew _).mono (Nat.le_refl _))) (heap_alloc_self w.drew _) (Nat.le_refl _) hlen hge hcm hsz' htk) rfl (Keeps.of ((drew_below w).trans ((below_alloc w.drew _).mono (Nat.le_refl _))))⟩
    simp only [Sh.emb]
    simp [Builtin.append_, run_underlying hT.ut, sizeOf, typeInfo, zeroValue, hi, hz, hsz, Builtin.lenOf, hroom, h63', h48', Question.forced, hfx, hfy', newRow, grownCap]
    congr 2
    apply Array.ext'
    simp
theorem r_stK {p : Addr} {v : Value} {k : World → Prop} (hA : At w0 w ls) (i : Nat) {b o : Nat} {cs : Array Value} {t : TypeId} (hl : ls[i]? = some (b, cs, t)) (hp : p = ⟨b, o, none⟩)
    (ho : o < cs.size) (h1 : oneC v = true) (h : ∀ w', At w0 w' (ls.set i (b, cs.setIfInBounds o v, t)) → Keeps w w' → k w') : ((real P R).st 1 p v k : World → Prop) w := by
  subst hp
  have hc : v.cells = #[v] := by cases v <;> first | rfl | (simp [oneC] at h1)
  have hadd : (⟨b, o, none⟩ : Addr).add 0 = ⟨b, o, none⟩ := rfl
  have hb := hA.get hl
  refine ⟨by rw [hc]; rfl, ?_, ?_⟩
  · rw [hc]
    exact ⟨h1, ⟨cs[o], by rw [hadd]; simp [World.cell?, hb, ho]⟩, by rw [hadd]; simp [World.frozen?, hb], trivial⟩
  · rw [hc]
    exact h _ (hA.write hl (setCell_heap_self hb v) (fun k hk => heap_setCell_other _ _ _ _ hk) (by simp [stW, World.setCell]) rfl rfl rfl) fun r o' hM hmo => by
      have : (w.setCell ⟨b, o, none⟩ v).heap[r]? = w.heap[r]? := heap_setCell_other _ _ _ _ (fun hh => by subst hh; rw [hb] at hM; exact hmo _ _ (Option.some.inj hM).symm)
      exact this.trans hM
theorem r_drawK {s : World → Prop} (hA : At w0 w ls) (h : ∀ w', At w0 w' ls → Keeps w w' → s w') : ((real P R).draw s : World → Prop) w := h _ hA.drew (Keeps.of (drew_below w))
end
def prsV : Nat → List Value → List (Nat × Value)
  | _, [] => []
  | k, v :: r => (k, v) :: prsV (k + 1) r
theorem fill_prs : ∀ (vs : List Value) (k : Nat) (cs : Array Value), (∀ v ∈ vs, v.cells = #[v]) → k + vs.length ≤ cs.size → Instr.fill (fun i => some (i * 1, 1)) cs (prsV k vs) = some (cs.toList.take k ++ vs ++ cs.toList.drop (k + vs.length)).toArray
  | [], k, cs, _, h => by
    simp [prsV, Instr.fill]
  | v :: r, k, cs, hv, h => by
    rw [List.length_cons] at h
    have hc := hv v (by simp)
    show Instr.fill _ cs ((k, v) :: prsV (k + 1) r) = _
    rw [fill_one (off := k) (z := 1) (by rw [hc]; rfl) (by omega) _ k (by simp) _]
    rw [fill_prs r (k + 1) _ (fun x hx => hv x (by simp [hx])) (by simp [hc]; omega)]
    have hl : (cs.toList.take k ++ [v]).length = k + 1 := by simp; omega
    have e : cs.toList.take k ++ v.cells.toList ++ cs.toList.drop (k + 1) = (cs.toList.take k ++ [v]) ++ cs.toList.drop (k + 1) := by rw [hc]
    simp only [e]
    congr 2
    have hd : (cs.toList.take k ++ [v]).drop (k + 1 + r.length) = [] := List.drop_eq_nil_of_le (by rw [hl]; omega)
    rw [List.take_left' hl, List.drop_append, hl, hd, List.nil_append, List.drop_drop, List.length_cons, show k + 1 + (k + 1 + r.length - (k + 1)) = k + (r.length + 1) by omega]
    simp
theorem run_bsV {P : Program} {t e by_ : Nat} (hT : SlT P t e 1 by_) (vs : List Value) (hv : ∀ v ∈ vs, v.cells = #[v]) (hn : vs.length ≤ 4096) (hne : vs ≠ []) (w : World) :
    (Instr.buildSlice t vs.length (prsV 0 vs).toArray).run P w = .ok (.slice (some ⟨w.heap.size, 0, none⟩) vs.length vs.length) (w.alloc (.cells vs.toArray e)) := by
  obtain ⟨i, zv, hi, hzv, hsz, hby, hzs⟩ := hT.ex
  have hf : ∀ cs : Array Value, cs.size = vs.length → Instr.fill (fun i => some (i * 1, 1)) cs (prsV 0 vs) = some vs.toArray := by
    intro cs hcs
    rw [fill_prs vs 0 cs hv (by omega)]
    simp
    omega
  have h0 : ¬ (16777216 < vs.length) := by omega
  simp [Instr.buildSlice, run_underlying hT.ut, sizeOf, typeInfo, hi, hsz, h0, zeroValue, hzv, newRow, hne]
  simp only [Nat.mul_one] at hf
  rw [hf _ (by simp [hzs])]
  simp
theorem run_bsS5 {P : Program} {t e by_ : Nat} (hT : SlT P t e 1 by_) (a0 a1 a2 a3 a4 : ByteArray) (w : World) :
    (Instr.buildSlice t 5 #[(0, (.string a0)), (1, (.string a1)), (2, (.string a2)), (3, (.string a3)), (4, (.string a4))]).run P w = .ok (.slice (some ⟨w.heap.size, 0, none⟩) 5 5) (w.alloc (.cells #[Value.string a0, Value.string a1, Value.string a2, Value.string a3, Value.string a4] e)) := run_bsV hT [.string a0, .string a1, .string a2, .string a3, .string a4] (by intro v hv; simp only [List.mem_cons, List.not_mem_nil, or_false] at hv; rcases hv with rfl | rfl | rfl | rfl | rfl <;> rfl) (by simp) (by simp) w
theorem r_bsS5 {P : Program} {R : Value → World → Prop} {w0 w : World} {ls : List Blk} {t e by_ : Nat} (hT : SlT P t e 1 by_) (hA : At w0 w ls) (a0 a1 a2 a3 a4 : ByteArray) {k : Sl → World → Prop} (h : ∀ s L w', At w0 w' (L ++ ls) → Below w.heap.size w w' → OwnS e 1 s (([a0, a1, a2, a3, a4] : List ByteArray).map Value.string) L → k s w') :
    ((real P R).sem (Instr.buildSlice t 5 #[(0, (.string a0)), (1, (.string a1)), (2, (.string a2)), (3, (.string a3)), (4, (.string a4))]) .slice k : World → Prop) w := by
  have hS := SlO.made (w0 := w0) hA (below_alloc w _) (heap_alloc_self w (.cells #[Value.string a0, Value.string a1, Value.string a2, Value.string a3, Value.string a4] e)) (Nat.le_refl _) (xs := ([a0, a1, a2, a3, a4] : List ByteArray).map Value.string) (z := 1) (n := 5) (c := 5) rfl (Nat.le_refl _) (by decide) rfl rfl
  obtain ⟨L, hO, hA'⟩ := hS.split
  exact ⟨⟨some ⟨w.heap.size, 0, none⟩, 5, 5⟩, _, run_bsS5 hT a0 a1 a2 a3 a4 w, h _ _ _ hA' (below_alloc w _) hO⟩
theorem run_bsS6 {P : Program} {t e by_ : Nat} (hT : SlT P t e 1 by_) (a0 a1 a2 a3 a4 a5 : ByteArray) (w : World) :
    (Instr.buildSlice t 6 #[(0, (.string a0)), (1, (.string a1)), (2, (.string a2)), (3, (.string a3)), (4, (.string a4)), (5, (.string a5))]).run P w = .ok (.slice (some ⟨w.heap.size, 0, none⟩) 6 6) (w.alloc (.cells #[Value.string a0, Value.string a1, Value.string a2, Value.string a3, Value.string a4, Value.string a5] e)) := run_bsV hT [.string a0, .string a1, .string a2, .string a3, .string a4, .string a5] (by intro v hv; simp only [List.mem_cons, List.not_mem_nil, or_false] at hv; rcases hv with rfl | rfl | rfl | rfl | rfl | rfl <;> rfl) (by simp) (by simp) w
theorem r_bsS6 {P : Program} {R : Value → World → Prop} {w0 w : World} {ls : List Blk} {t e by_ : Nat} (hT : SlT P t e 1 by_) (hA : At w0 w ls) (a0 a1 a2 a3 a4 a5 : ByteArray) {k : Sl → World → Prop} (h : ∀ s L w', At w0 w' (L ++ ls) → Below w.heap.size w w' → OwnS e 1 s (([a0, a1, a2, a3, a4, a5] : List ByteArray).map Value.string) L → k s w') :
    ((real P R).sem (Instr.buildSlice t 6 #[(0, (.string a0)), (1, (.string a1)), (2, (.string a2)), (3, (.string a3)), (4, (.string a4)), (5, (.string a5))]) .slice k : World → Prop) w := by
  have hS := SlO.made (w0 := w0) hA (below_alloc w _) (heap_alloc_self w (.cells #[Value.string a0, Value.string a1, Value.string a2, Value.string a3, Value.string a4, Value.string a5] e)) (Nat.le_refl _) (xs := ([a0, a1, a2, a3, a4, a5] : List ByteArray).map Value.string) (z := 1) (n := 6) (c := 6) rfl (Nat.le_refl _) (by decide) rfl rfl
  obtain ⟨L, hO, hA'⟩ := hS.split
  exact ⟨⟨some ⟨w.heap.size, 0, none⟩, 6, 6⟩, _, run_bsS6 hT a0 a1 a2 a3 a4 a5 w, h _ _ _ hA' (below_alloc w _) hO⟩
theorem run_bsS13 {P : Program} {t e by_ : Nat} (hT : SlT P t e 1 by_) (a0 a1 a2 a3 a4 a5 a6 a7 a8 a9 a10 a11 a12 : ByteArray) (w : World) :
    (Instr.buildSlice t 13 #[(0, (.string a0)), (1, (.string a1)), (2, (.string a2)), (3, (.string a3)), (4, (.string a4)), (5, (.string a5)), (6, (.string a6)), (7, (.string a7)), (8, (.string a8)), (9, (.string a9)), (10, (.string a10)), (11, (.string a11)), (12, (.string a12))]).run P w = .ok (.slice (some ⟨w.heap.size, 0, none⟩) 13 13) (w.alloc (.cells #[Value.string a0, Value.string a1, Value.string a2, Value.string a3, Value.string a4, Value.string a5, Value.string a6, Value.string a7, Value.string a8, Value.string a9, Value.string a10, Value.string a11, Value.string a12] e)) := run_bsV hT [.string a0, .string a1, .string a2, .string a3, .string a4, .string a5, .string a6, .string a7, .string a8, .string a9, .string a10, .string a11, .string a12] (by intro v hv; simp only [List.mem_cons, List.not_mem_nil, or_false] at hv; rcases hv with rfl | rfl | rfl | rfl | rfl | rfl | rfl | rfl | rfl | rfl | rfl | rfl | rfl <;> rfl) (by simp) (by simp) w
theorem r_bsS13 {P : Program} {R : Value → World → Prop} {w0 w : World} {ls : List Blk} {t e by_ : Nat} (hT : SlT P t e 1 by_) (hA : At w0 w ls) (a0 a1 a2 a3 a4 a5 a6 a7 a8 a9 a10 a11 a12 : ByteArray) {k : Sl → World → Prop} (h : ∀ s L w', At w0 w' (L ++ ls) → Below w.heap.size w w' → OwnS e 1 s (([a0, a1, a2, a3, a4, a5, a6, a7, a8, a9, a10, a11, a12] : List ByteArray).map Value.string) L → k s w') :
    ((real P R).sem (Instr.buildSlice t 13 #[(0, (.string a0)), (1, (.string a1)), (2, (.string a2)), (3, (.string a3)), (4, (.string a4)), (5, (.string a5)), (6, (.string a6)), (7, (.string a7)), (8, (.string a8)), (9, (.string a9)), (10, (.string a10)), (11, (.string a11)), (12, (.string a12))]) .slice k : World → Prop) w := by
  have hS := SlO.made (w0 := w0) hA (below_alloc w _) (heap_alloc_self w (.cells #[Value.string a0, Value.string a1, Value.string a2, Value.string a3, Value.string a4, Value.string a5, Value.string a6, Value.string a7, Value.string a8, Value.string a9, Value.string a10, Value.string a11, Value.string a12] e)) (Nat.le_refl _) (xs := ([a0, a1, a2, a3, a4, a5, a6, a7, a8, a9, a10, a11, a12] : List ByteArray).map Value.string) (z := 1) (n := 13) (c := 13) rfl (Nat.le_refl _) (by decide) rfl rfl
  obtain ⟨L, hO, hA'⟩ := hS.split
  exact ⟨⟨some ⟨w.heap.size, 0, none⟩, 13, 13⟩, _, run_bsS13 hT a0 a1 a2 a3 a4 a5 a6 a7 a8 a9 a10 a11 a12 w, h _ _ _ hA' (below_alloc w _) hO⟩
end Go.Sx
namespace Go.Proofs.YtkifkdkjljcclaaGreat
open Go.Sx Go.RowKit

theorem c_nextK {w0 w : World} {b : Nat} {sd : Sl} {d : List Int} {rest : List Blk} {A : Int} (hS : Src w0 b sd rest A w) (hd : SlAt w0 sd 1 (u8s d)) (hb : bytesOk d) (hA : A ≤ 1099511627776) :
    Calls Tryz.prog n_ptr_spec_l00Src_next #[.pointer (some ⟨b, 0, none⟩)] w fun e w' => ∃ v, e = .returned v ∧ ∃ r, v = .int .i64 r ∧ 0 ≤ r ∧ r ≤ 255 ∧ Src w0 b sd rest (A + 1) w' ∧ Keeps w w' := ptr_spec_l00Src_next_calls _ (by
  obtain ⟨a, st, h0, h1, h⟩ := hS
  have hn := sl_len hd
  unfold ptr_spec_l00Src_next
  refine r_join (σ := Int) (fun s w' => (0 ≤ s ∧ s ≤ 255) ∧ At w0 w' ((b, srcC sd a st, ty_spec_l00Src) :: rest) ∧ Keeps w w') (fun s w1 hs => ?_) ?_
  · obtain ⟨⟨hs0, hs1⟩, h, hk⟩ := hs
    refine r_any fun _ => ?_
    refine r_ld h 0 (o := 1) rfl (add_lit _ _ _) a (by simp [Sh.emb]) rfl ?_
    rw [w64 (n := a + 1) (by omega) (by omega)]
    refine r_stK h 0 (o := 1) rfl (add_lit _ _ _) (by simp) rfl fun w2 h hk2 => ?_
    have hk := hk.trans hk2
    refine r_ld h 0 (o := 2) rfl (add_lit _ _ _) st (by simp [Sh.emb]) rfl ?_
    refine r_stK h 0 (o := 2) rfl (add_lit _ _ _) (by simp) rfl fun w3 h hk2 => ?_
    have hk := hk.trans hk2
    generalize IntKind.wrap .u64 ((IntKind.wrap .u64 ((IntKind.wrap .u64 (st * 6364136223846793005)) + (IntKind.wrap .u64 s))) + 1442695040888963407) = st' at h
    have h : At w0 w3 ((b, srcC sd (a + 1) st', ty_spec_l00Src) :: rest) := h
    refine r_drawK h fun w4 h hk2 => ?_
    have hk := hk.trans hk2
    refine r_ld h 0 (o := 1) rfl (add_lit _ _ _) (a + 1) (by simp [Sh.emb]) rfl ?_
    refine r_ld h 0 (o := 0) rfl (add_lit _ _ _) sd (by simp [Sh.emb]) rfl ?_
    refine r_if (a + 1 ≤ (sd.n : Int)) rfl (fun hle => ?_) (fun hgt => ?_)
    · exact r_retR ⟨s, rfl, hs0, hs1, ⟨a + 1, st', by omega, by omega, h⟩, hk⟩
    · refine r_ld h 0 (o := 2) rfl (add_lit _ _ _) st' (by simp [Sh.emb]) rfl ?_
      have h255 := and255 (Int.fdiv st' (2 ^ 40))
      rw [w64 (by omega) (by omega)]
      exact r_retR ⟨_, rfl, h255.1, h255.2, ⟨a + 1, st', by omega, by omega, h⟩, hk⟩
  · refine r_drawK h fun w1 h hk => ?_
    refine r_ld h 0 (o := 1) rfl (add_lit _ _ _) a (by simp [Sh.emb]) rfl ?_
    refine r_ld h 0 (o := 0) rfl (add_lit _ _ _) sd (by simp [Sh.emb]) rfl ?_
    refine r_if (a < (sd.n : Int)) rfl (fun hlt => ?_) (fun hge => ?_)
    · refine r_drawK h fun w2 h hk2 => ?_
      have hk := hk.trans hk2
      refine r_ld h 0 (o := 0) rfl (add_lit _ _ _) sd (by simp [Sh.emb]) rfl ?_
      refine r_ld h 0 (o := 1) rfl (add_lit _ _ _) a (by simp [Sh.emb]) rfl ?_
      obtain ⟨p, hp, hc⟩ := sl_cell hd (i := a.toNat) (by omega)
      refine r_ix p hp (by omega) (by omega) ?_
      refine r_ldO h (d.getD a.toNat 0) hc (by simp) ?_
      have hbd := hb.get a.toNat
      rw [w64 (by omega) (by omega)]
      exact ⟨_, rfl, ⟨hbd.1, by omega⟩, h, hk⟩
    · exact ⟨0, rfl, ⟨by omega, by omega⟩, h, hk⟩)

theorem c_pickK {w0 w : World} {b : Nat} {sd : Sl} {d : List Int} {rest : List Blk} {A : Int} (N : Int) (hS : Src w0 b sd rest A w) (hd : SlAt w0 sd 1 (u8s d)) (hb : bytesOk d) (hA : A ≤ 1099511627774) (hN : 1 ≤ N) (hN2 : N ≤ 1048576) :
    Calls Tryz.prog n_ptr_spec_l00Src_pick #[.pointer (some ⟨b, 0, none⟩), .int .i64 N] w fun e w' => ∃ v, e = .returned v ∧ ∃ r, v = .int .i64 r ∧ 0 ≤ r ∧ r < N ∧ Src w0 b sd rest (A + 2) w' ∧ Keeps w w' := ptr_spec_l00Src_pick_calls _ _ (by
  unfold ptr_spec_l00Src_pick
  have htm : ∀ x : Int, 0 ≤ x → x ≤ 16777216 → 1 < N → Int.tmod x N = x % N ∧ 0 ≤ x % N ∧ x % N < N := fun x h0 h1 h2 => by
    have e1 := Int.emod_nonneg x (show N ≠ 0 by omega)
    have e2 := Int.emod_lt_of_pos x (show 0 < N by omega)
    rw [Int.tmod_eq_emod_of_nonneg h0]
    exact ⟨rfl, e1, e2⟩
  refine r_if (N ≤ 1) rfl (fun hle => r_retR ⟨0, rfl, by omega, by omega, hS.mono (by omega), Keeps.refl w⟩) (fun hgt => ?_)
  refine r_callR (c_nextK hS hd hb (by omega)) ?_
  rintro v w1 ⟨r, rfl, hr0, hr1, hS, hk⟩
  refine ⟨r, rfl, ?_⟩
  refine r_if (N > 200) rfl (fun hbig => ?_) (fun hsm => ?_)
  · refine r_callR (c_nextK hS hd hb (by omega)) ?_
    rintro v w2 ⟨r2, rfl, hs0, hs1, hS, hk2⟩
    have hk := hk.trans hk2
    refine ⟨r2, rfl, ?_⟩
    rw [w64 (n := r * 256) (by omega) (by omega), w64 (n := r * 256 + r2) (by omega) (by omega)]
    refine r_pur _ (fun w' => run_rem (by omega) w') ?_
    obtain ⟨e1, e2, e3⟩ := htm (r * 256 + r2) (by omega) (by omega) (by omega)
    rw [e1]
    exact r_retR ⟨_, rfl, e2, e3, hS.mono (by omega), hk⟩
  · refine r_pur _ (fun w' => run_rem (by omega) w') ?_
    obtain ⟨e1, e2, e3⟩ := htm r (by omega) (by omega) (by omega)
    rw [e1]
    exact r_retR ⟨_, rfl, e2, e3, hS.mono (by omega), hk⟩)

theorem c_textK {w0 w : World} {b : Nat} {sd x : Sl} {d : List Int} {rest L : List Blk} {A : Int} {l : List ByteArray} (hS : Src w0 b sd rest A w) (hd : SlAt w0 sd 1 (u8s d)) (hb : bytesOk d) (hA : A ≤ 1099511627774) (hx : OwnS ty_string 1 x (l.map Value.string) L) (hs : L.Sublist rest) (hl : 1 ≤ l.length) (hl2 : l.length ≤ 1000) :
    Calls Tryz.prog n_ptr_spec_l00Src_text #[.pointer (some ⟨b, 0, none⟩), .slice x.a x.n x.c] w fun e w' => ∃ v, e = .returned v ∧ ∃ t, v = .string t ∧ t ∈ l ∧ Src w0 b sd rest (A + 2) w' ∧ Keeps w w' := ptr_spec_l00Src_text_calls _ _ (by
  unfold ptr_spec_l00Src_text
  have hn : x.n = l.length := by have := hx.1; rw [List.length_map, Nat.mul_one] at this; exact this.symm
  refine r_callR (c_pickK (x.n : Int) hS hd hb hA (by omega) (by omega)) ?_
  rintro v w1 ⟨r, rfl, hr0, hr1, hS, hk⟩
  refine ⟨r, rfl, ?_⟩
  obtain ⟨i, rfl⟩ : ∃ i : Nat, r = i := ⟨r.toNat, by omega⟩
  have hS2 := hS
  obtain ⟨a, st, h0, h1, h⟩ := hS2
  have hg : l[i]? = some l[i] := List.getElem?_eq_getElem (by omega)
  obtain ⟨p, hp, hc⟩ := (hx.sl h (hs.trans (List.sublist_cons_self _ _))).cell i (.string l[i]) (by rw [List.getElem?_map, hg]; rfl)
  refine r_ix p hp (by omega) (by omega) ?_
  simp only [Int.toNat_natCast, Nat.mul_one]
  refine r_ldN (sh := .str) l[i] hc ?_
  exact r_retR ⟨l[i], rfl, List.getElem_mem _, hS, hk⟩)


end Go.Proofs.YtkifkdkjljcclaaGreat
