/- History: a string is appended to bytes; the greater of two numbers; keys are found; commits: data, keys, which are valid: the program. -/
import Derived.Test.YtkifkdkjljcclaaGreatPkLAnc28
namespace Go.Sx
open Go.RowKit (Below)
variable {P : Program} {R : Value → World → Prop} {w0 w : World} {ls : List Blk}

theorem run_firstS (n : Nat) (s : ByteArray) (h : n = s.size) (w : World) : (Builtin.firstCells 1 n (.string s)).run P w = .ok (s.data.map fun b => Value.int .u8 b.toNat) w := by
  subst h
  have e : s.extract 0 s.size = s := by
    apply ByteArray.ext
    simp [ByteArray.data_extract]
  simp [Builtin.firstCells, e]
theorem r_appendS {t ts ty e by_ : Nat} (hT : SlT P t e 1 by_) (hts : P.underlying ts = some .string) {s : Sl} {xs : List Value} {x : ByteArray} {k : Sl → World → Prop} (hS : SlO w0 w ls e 1 s xs)
    (hbytes : (s.n + x.size) * by_ ≤ 140737488355328) (hmax : s.n + x.size ≤ 140737488355328) (h : ∀ s' w', SlO w0 w' ls e 1 s' (xs ++ x.data.toList.map fun b => Value.int .u8 b.toNat) → s'.n = s.n + x.size → k s' w') :
    ((real P R).sem (Builtin.append_ #[t, ts] ty #[.slice s.a s.n s.c, .string x]) .slice k : World → Prop) w := by
  obtain ⟨i, zv, hi, hz, hsz, hby, hzs⟩ := hT.ex
  obtain ⟨news, hnews⟩ : ∃ news, news = x.data.toList.map fun b => Value.int .u8 b.toNat := ⟨_, rfl⟩
  have hnl : news.length = x.size := by rw [hnews, List.length_map, Array.length_toList]; rfl
  have h1 : ∀ v ∈ news, oneC v = true := by
    intro v hv
    rw [hnews] at hv
    obtain ⟨b, _, rfl⟩ := List.mem_map.1 hv
    rfl
  rw [← hnews] at h
  have hdata : (x.data.map fun b => Value.int .u8 b.toNat) = news.toArray := by
    apply Array.ext'
    rw [hnews]
    simp
  have hmx : s.n + x.size ≤ maxLen := by unfold maxLen; omega
  have hSl := hS.len
  have hlen : (xs ++ news).length = (s.n + x.size) * 1 := by rw [List.length_append, hSl, hnl]; omega
  have hfy : ∀ w : World, (Builtin.firstCells 1 x.size (.string x)).run P w = .ok news.toArray w := fun w => by rw [run_firstS x.size x rfl, hdata]
  have hzero : (zeroValue e).run P w = .ok zv w := by simp [zeroValue, typeInfo, hi, hz]
  by_cases hroom : s.n + x.size ≤ s.c
  · rcases hS.own with ⟨ha, hn, hc⟩ | ⟨g, cur, ha, hA, hnc, hcm, hcs, htk⟩
    · have hy0 : x.size = 0 := by omega
      have hnil : news = [] := List.eq_nil_of_length_eq_zero (by omega)
      rw [hnil] at h
      have hfy0 := hfy w
      rw [hnil, hy0] at hfy0
      refine ⟨s, w, ?_, h s w ⟨hS.at_, by simpa using hS.len, ?_⟩ (by omega)⟩
      · simp only [Sh.emb, ha, hn, hc]
        simp [Builtin.append_, run_underlying hT.ut, run_underlying hts, sizeOf, typeInfo, hi, hsz, Builtin.lenOf, hy0, hfy0]
      · rw [List.append_nil]; exact .inl ⟨ha, hn, hc⟩
    · have hfit : s.n * 1 + news.length ≤ cur.size := by rw [hnl, hcs]; omega
      have hg : w.heap[g]? = some (.cells cur e (0, 0)) := hA.get (i := 0) rfl
      obtain ⟨k1, k2, k3, k4, k5, k6, k7⟩ := stW_heap news (s.n * 1) 0 w cur hg (by simpa using hfit) h1
      have hst := run_storeCells (P := P) ⟨g, s.n * 1, none⟩ news 0 w k1
      have hcur' : (cur.toList.take (s.n * 1 + 0) ++ news ++ cur.toList.drop (s.n * 1 + 0 + news.length)).toArray.size = s.c * 1 := by
        simp only [List.size_toArray, List.length_append, List.length_take, List.length_drop, Array.length_toList]; omega
      have hA' := hA.write (i := 0) rfl k2 k3 k4 k5 k6 k7
      have hfy0 := hfy w
      refine ⟨⟨s.a, s.n + x.size, s.c⟩, stW w ⟨g, s.n * 1, none⟩ news 0, ?_, h _ _ ⟨hA'.take _ (List.sublist_cons_self _ _), hlen, .inr ⟨g, _, ha, hA', hroom, hcm, hcur', ?_⟩⟩ rfl⟩
      · simp only [Sh.emb]
        simp only [Nat.mul_one] at hst
        simp [Builtin.append_, run_underlying hT.ut, run_underlying hts, sizeOf, typeInfo, hi, hsz, Builtin.lenOf, hroom, hfy0, ha, add_lit, hst]
      · have e1 : xs.length = s.n * 1 := hS.len
        have e2 : cur.toList.take (s.n * 1 + 0) = xs := by rw [Nat.add_zero, ← e1]; exact htk
        simp only [e2]
        rw [List.append_assoc, ← List.append_assoc]
        exact List.take_left
  · have hfx := run_first (P := P) hS.sl.drew'
    have h63' : ¬ (9223372036854775807 < ((s.n : Int) + (x.size : Int))) := by omega
    have hfit := growslice_fits (need := s.n + x.size) (old := s.c) (bytes := by_) (by omega) hbytes
    have h48' : ¬ (281474976710656 < Builtin.nextslicecap (s.n + x.size) s.c * i.bytes) := by rw [hby]; omega
    have hge := grownCap_ge w (s.n + x.size) s.c e
    have hcm := grownCap_le_maxLen w (s.n + x.size) s.c e hmx
    have hfy' := hfy w.drew
    have hsz' : (xs.toArray ++ news.toArray ++ Builtin.zeroCells zv.cells (grownCap w (s.n + x.size) s.c e - (s.n + x.size))).size = grownCap w (s.n + x.size) s.c e * 1 := by
      simp only [Array.size_append, List.size_toArray, size_zeroCells, hzs, hSl, hnl]
      omega
    have htk : (xs.toArray ++ news.toArray ++ Builtin.zeroCells zv.cells (grownCap w (s.n + x.size) s.c e - (s.n + x.size))).toList.take (xs ++ news).length = xs ++ news := by
      simp only [Array.toList_append]
      exact List.take_left
    refine ⟨⟨some ⟨w.heap.size, 0, none⟩, s.n + x.size, grownCap w (s.n + x.size) s.c e⟩, w.drew.alloc (.cells (xs.toArray ++ news.toArray ++ Builtin.zeroCells zv.cells (grownCap w (s.n + x.size) s.c e - (s.n + x.size))) e), ?_,
      h _ _ (SlO.made hS.at_ ((drew_below w).trans ((below_alloc w.drew _).mono (Nat.le_refl _))) (heap_alloc_self w.drew _) (Nat.le_refl _) hlen hge hcm hsz' htk) rfl⟩
    simp only [Sh.emb]
    simp [Builtin.append_, run_underlying hT.ut, run_underlying hts, sizeOf, typeInfo, zeroValue, hi, hz, hsz, Builtin.lenOf, hroom, h63', h48', Question.forced, hfx, hfy', newRow, grownCap]
    congr 2
    apply Array.ext'
    simp
theorem r_appendN {r : Nat} {o : Obj} (hM : w.heap[r]? = some o) (hmo : ∀ c e, o ≠ .cells c e (0, 0)) {t ty e z by_ : Nat} (hT : SlT P t e z by_) {s y : Sl} {xs news : List Value} {k : Sl → World → Prop} (hS : SlO w0 w ls e z s xs) (hy : SlAt w y z news) (h1 : ∀ v ∈ news, oneC v = true)
    (hbytes : (s.n + y.n) * by_ ≤ 140737488355328) (hmax : s.n + y.n ≤ 140737488355328) (h : ∀ s' w', SlO w0 w' ls e z s' (xs ++ news) → s'.n = s.n + y.n → w'.heap[r]? = some o → k s' w') :
    ((real P R).sem (Builtin.append_ #[t, t] ty #[.slice s.a s.n s.c, .slice y.a y.n y.c]) .slice k : World → Prop) w := by
  obtain ⟨i, zv, hi, hz, hsz, hby, hzs⟩ := hT.ex
  have hmx : s.n + y.n ≤ maxLen := by unfold maxLen; omega
  have hlen : (xs ++ news).length = (s.n + y.n) * z := by rw [List.length_append, hS.len, hy.len, Nat.add_mul]
  have hfy := run_first (P := P) hy
  have hzero : (zeroValue e).run P w = .ok zv w := by simp [zeroValue, typeInfo, hi, hz]
  by_cases hroom : s.n + y.n ≤ s.c
  · rcases hS.own with ⟨ha, hn, hc⟩ | ⟨g, cur, ha, hA, hnc, hcm, hcs, htk⟩
    · have hy0 : y.n = 0 := by omega
      have hnews : news = [] := List.eq_nil_of_length_eq_zero (by rw [hy.len, hy0, Nat.zero_mul])
      subst hnews
      refine ⟨s, w, ?_, h s w ⟨hS.at_, by simpa using hS.len, ?_⟩ (by omega) hM⟩
      · simp only [Sh.emb, ha, hn, hc, hy0] at hfy ⊢
        simp [Builtin.append_, run_underlying hT.ut, sizeOf, typeInfo, hi, hsz, Builtin.lenOf, hfy]
      · rw [List.append_nil]; exact .inl ⟨ha, hn, hc⟩
    · have hfit : s.n * z + news.length ≤ cur.size := by rw [hy.len, hcs, ← Nat.add_mul]; exact Nat.mul_le_mul_right _ hroom
      have hg : w.heap[g]? = some (.cells cur e (0, 0)) := hA.get (i := 0) rfl
      obtain ⟨k1, k2, k3, k4, k5, k6, k7⟩ := stW_heap news (s.n * z) 0 w cur hg (by simpa using hfit) h1
      have hst := run_storeCells (P := P) ⟨g, s.n * z, none⟩ news 0 w k1
      have hcur' : (cur.toList.take (s.n * z + 0) ++ news ++ cur.toList.drop (s.n * z + 0 + news.length)).toArray.size = s.c * z := by
        simp only [List.size_toArray, List.length_append, List.length_take, List.length_drop, Array.length_toList]; omega
      have hA' := hA.write (i := 0) rfl k2 k3 k4 k5 k6 k7
      refine ⟨⟨s.a, s.n + y.n, s.c⟩, stW w ⟨g, s.n * z, none⟩ news 0, ?_, h _ _ ⟨hA'.take _ (List.sublist_cons_self _ _), hlen, .inr ⟨g, _, ha, hA', hroom, hcm, hcur', ?_⟩⟩ rfl (by rw [k3 r (fun hh => by rw [hh, hg] at hM; exact hmo _ _ (Option.some.inj hM).symm)]; exact hM)⟩
      · simp only [Sh.emb]
        simp [Builtin.append_, run_underlying hT.ut, sizeOf, typeInfo, hi, hsz, Builtin.lenOf, hroom, hfy, ha, add_lit, hst]
      · have e1 : xs.length = s.n * z := hS.len
        have e2 : cur.toList.take (s.n * z + 0) = xs := by rw [Nat.add_zero, ← e1]; exact htk
        simp only [e2]
        rw [List.append_assoc, ← List.append_assoc]
        exact List.take_left
  · have hfx := run_first (P := P) hS.sl.drew'
    have h63' : ¬ (9223372036854775807 < ((s.n : Int) + (y.n : Int))) := by omega
    have hfit := growslice_fits (need := s.n + y.n) (old := s.c) (bytes := by_) (by omega) hbytes
    have h48' : ¬ (281474976710656 < Builtin.nextslicecap (s.n + y.n) s.c * i.bytes) := by rw [hby]; omega
    have hge := grownCap_ge w (s.n + y.n) s.c e
    have hcm := grownCap_le_maxLen w (s.n + y.n) s.c e hmx
    have hfy' := run_first (P := P) hy.drew'
    have hsz' : (xs.toArray ++ news.toArray ++ Builtin.zeroCells zv.cells (grownCap w (s.n + y.n) s.c e - (s.n + y.n))).size = grownCap w (s.n + y.n) s.c e * z := by
      simp only [Array.size_append, List.size_toArray, size_zeroCells, hzs, hS.len, hy.len, ← Nat.add_mul]
      congr 1
      omega
    have htk : (xs.toArray ++ news.toArray ++ Builtin.zeroCells zv.cells (grownCap w (s.n + y.n) s.c e - (s.n + y.n))).toList.take (xs ++ news).length = xs ++ news := by
      simp only [Array.toList_append]
      exact List.take_left
    refine ⟨⟨some ⟨w.heap.size, 0, none⟩, s.n + y.n, grownCap w (s.n + y.n) s.c e⟩, w.drew.alloc (.cells (xs.toArray ++ news.toArray ++ Builtin.zeroCells zv.cells (grownCap w (s.n + y.n) s.c e - (s.n + y.n))) e), ?_,
      h _ _ (SlO.made hS.at_ ((drew_below w).trans ((below_alloc w.drew _).mono (Nat.le_refl _))) (heap_alloc_self w.drew _) (Nat.le_refl _) hlen hge hcm hsz' htk) rfl (((drew_below w).trans ((below_alloc w.drew _).mono (Nat.le_refl _))).keeps hM)⟩
    simp only [Sh.emb]
    simp [Builtin.append_, run_underlying hT.ut, sizeOf, typeInfo, zeroValue, hi, hz, hsz, Builtin.lenOf, hroom, h63', h48', Question.forced, hfx, hfy', newRow, grownCap]
    congr 2
    apply Array.ext'
    simp

theorem r_cvN {src dst e : TypeId} {s : ByteArray} (hs : P.underlying src = some .string) (hd : P.underlying dst = some (.slice e)) (he : P.underlying e = some (.int .u8)) {k : Sl → World → Prop}
    (h : ∀ (y : Sl) (w' : World) (g : Nat) (o : Obj), Below w.heap.size w w' → w'.heap[g]? = some o → (∀ c e, o ≠ .cells c e (0, 0)) → (∀ v : World, v.heap[g]? = some o → SlAt v y 1 (s.data.toList.map fun b => Value.int .u8 b.toNat)) → y.n = s.size → k y w') : ((real P R).sem (convert src dst (.string s)) .slice k : World → Prop) w := by
  refine ⟨⟨some ⟨w.heap.size, 0, none⟩, s.size, grownCap w s.size 0 e⟩, _, run_bytes_of_string w src dst e s hs hd he, h _ _ w.heap.size (.cells (bytesRow s (grownCap w s.size 0 e)) e ((bytesRow s (grownCap w s.size 0 e)).size, (bytesRow s (grownCap w s.size 0 e)).size + 1)) ((drew_below w).trans ((below_alloc w.drew _).mono (Nat.le_refl _))) (heap_alloc_self w.drew _) (fun c e' hh => ?_) (fun v hv => ⟨by simp, fun j x hx => ⟨_, rfl, ?_⟩⟩) rfl⟩
  · injection hh with _ _ h3
    injection h3 with _ h5
    omega
  · rw [add_lit, Nat.zero_add]
    have hj : j < s.data.size := by
      have := (List.getElem?_eq_some_iff.1 hx).1
      simpa using this
    have h1 := bytesRow_at s (grownCap w s.size 0 e) j hj
    simp only [World.cell?, hv, Option.isSome_none, Bool.false_eq_true, if_false]
    rw [h1, ← hx, List.getElem?_map, List.getElem?_eq_getElem (by simpa using hj)]
    simp
theorem run_max (t u : TypeId) (a b : Int) (w : World) : (Builtin.max_ #[t, t] u #[.int .i64 a, .int .i64 b]).run P w = .ok (.int .i64 (max a b)) w := by
  have e : max a b = if b > a then b else a := by
    by_cases h : b > a
    · rw [if_pos h]; omega
    · rw [if_neg h]; omega
  rw [e]
  simp [Builtin.max_, Builtin.max2]
end Go.Sx
namespace Go.Proofs.YtkifkdkjljcclaaGreat
open Go.Sx Go.RowKit

theorem strL_vals (x : ByteArray) : (x.data.toList.map fun b => Value.int .u8 b.toNat) = u8s (strL x) := by simp [strL, u8s, List.map_map, Function.comp_def]

def ixI (ks : List (List Int)) (k : List Int) : Int := if k ∈ ks then (ixK ks k : Int) else -1
theorem ixI_ge (ks : List (List Int)) (k : List Int) : decide (ixI ks k ≥ 0) = decide (k ∈ ks) := by
  unfold ixI
  split
  · rename_i h
    rw [decide_eq_true h, decide_eq_true (by omega)]
  · rename_i h
    rw [decide_eq_false h, decide_eq_false (by omega)]
theorem ixI_pos {ks : List (List Int)} {k : List Int} (h : k ∈ ks) : ixI ks k = (ixK ks k : Int) := if_pos h
theorem ixK_first {ks : List (List Int)} {k : List Int} {j : Nat} (h : ks[j]? = some k) (hn : k ∉ ks.take j) : ixK ks k = j := by
  have hj := (List.getElem?_eq_some_iff.1 h).1
  unfold ixK
  rw [List.findIdx_eq hj]
  refine ⟨by simpa using (List.getElem?_eq_some_iff.1 h).2, fun i hi => ?_⟩
  have : i < ks.length := by omega
  simp only [decide_eq_false_iff_not]
  intro he
  exact hn (List.mem_iff_getElem.2 ⟨i, by rw [List.length_take]; omega, by rw [List.getElem_take]; exact he⟩)

theorem c_IndexK {w : World} {s : Sl} {ks : List (List Int)} {k : List Int} (hs : KsR w s ks) (hk : keyOk k) (hmax : ks.length ≤ 1073741824) : Ret Tryz.prog n_slices_Index_sl_impl_Key_impl_Key [.slice s.a s.n s.c, .agg (u8s k).toArray] w [.int .i64] (fun r _ => r = ixI ks k) := slices_Index_sl_impl_Key_impl_Key_calls _ _ (by
  unfold slices_Index_sl_impl_Key_impl_Key
  have hn := hs.n
  refine r_new (At.refl w) fun b3 w1 h => ?_
  refine r_loop (σ := Int) (fun i w' => ∃ j : Nat, i = j ∧ j ≤ ks.length ∧ k ∉ ks.take j ∧ At w w' [(b3, (u8s k).toArray, ty_impl_Key)]) (fun i _ => (s.n - i).toNat) 0 rfl ⟨0, rfl, by omega, by simp, h⟩ ?_
  rintro i w2 ⟨j, rfl, hj, hnot, h⟩
  refine r_any fun _ => ?_
  refine r_if ((j : Int) < (s.n : Int)) rfl (fun hlt => ?_) (fun hge => ?_)
  · refine r_draw h fun w3 h => ?_
    obtain ⟨x, q, hx, hxm, hq, hxo, hxl⟩ := (hs.at h).get (i := j) (by omega)
    refine r_ldA h 0 rfl rfl (by simp [hk.1]) ?_
    refine r_ix q hq (by omega) (by omega) ?_
    refine r_ldN (u8s x).toArray (by simp only [Int.toNat_natCast]; exact hxl) ?_
    refine r_pur _ (fun w' => run_eql_key _ _ hk.1 hxo.1 w') ?_
    by_cases he : k = x
    · subst he
      refine r_true (decide_eq_true rfl) ?_
      exact r_ret h.nil (j : Int) rfl (by rw [ixI_pos hxm, ixK_first hx hnot])
    · refine r_false (decide_eq_false he) ?_
      refine ⟨((j + 1 : Nat) : Int), by rw [w64 (by omega) (by omega)]; rfl, ⟨j + 1, rfl, by omega, ?_, h⟩, by omega⟩
      rw [take_succ_get hx, List.mem_append, List.mem_singleton]
      rintro (hh | hh)
      · exact hnot hh
      · exact he hh
  · have : j = ks.length := by omega
    subst this
    rw [List.take_of_length_le (Nat.le_refl _)] at hnot
    exact r_ret h.nil (-1 : Int) rfl (by unfold ixI; rw [if_neg hnot]))

theorem c_ContainsK {w : World} {s : Sl} {ks : List (List Int)} {k : List Int} (hs : KsR w s ks) (hk : keyOk k) (hmax : ks.length ≤ 1073741824) : Ret Tryz.prog n_slices_Contains_sl_impl_Key_impl_Key [.slice s.a s.n s.c, .agg (u8s k).toArray] w [.bool] (fun r _ => r = decide (k ∈ ks)) := slices_Contains_sl_impl_Key_impl_Key_calls _ _ (by
  unfold slices_Contains_sl_impl_Key_impl_Key
  refine r_new (At.refl w) fun b3 w1 h => ?_
  have h : At w w1 [(b3, (u8s k).toArray, ty_impl_Key)] := h
  refine r_ldA h 0 rfl rfl (by simp [hk.1]) ?_
  refine r_call h (c_IndexK (hs.at h) hk hmax) fun r w2 h _ hr => ?_
  subst hr
  exact r_ret h.nil _ rfl (ixI_ge ks k))

theorem c_ValidCommit {w : World} {r : CR} (hk : keyOk r.root) (hr : KsR w r.d r.ps) (hmax : r.ps.length ≤ 1073741824) : Ret Tryz.prog n_impl_ValidCommit [.agg r.cells.toArray] w [.bool] (fun x _ => x = decide (okC r.pc)) := impl_ValidCommit_calls _ (by
  unfold impl_ValidCommit
  obtain ⟨root, d, ps, num, note⟩ := r
  dsimp only at hk hr hmax
  have hn := hr.n
  refine r_new (At.refl w) fun b1 w1 h => ?_
  have h : At w w1 [(b1, (cmC root d num note).toArray, ty_impl_Commit)] := h
  have adj : ∀ j, j < ps.length → ps.getD j [] = ps.getD j [] := fun _ _ => rfl
  refine r_loop (σ := Int) (fun i w' => ∃ j : Nat, i = ((j + 1 : Nat) : Int) ∧ (j = 0 ∨ j + 1 ≤ ps.length) ∧ (∀ m, m < j → ltL (ps.getD m []) (ps.getD (m + 1) [])) ∧ At w w' [(b1, (cmC root d num note).toArray, ty_impl_Commit)]) (fun i _ => (d.n + 1 - i).toNat) 1 rfl
    ⟨0, rfl, by omega, fun m hm => by omega, h⟩ ?_
  clear h
  rintro i w2 ⟨j, rfl, hj, hadj, h⟩
  refine r_any fun _ => ?_
  refine r_ld h 0 rfl (add_lit _ _ _) d (by simp [Sh.emb]) (by rw [Nat.zero_add]; exact cm_d hk ..) ?_
  refine r_if (((j + 1 : Nat) : Int) < (d.n : Int)) rfl (fun hlt => ?_) (fun hge => ?_)
  · refine r_draw h fun w3 h => ?_
    obtain ⟨x, p, hx, hxm, hp, hxo, hxl⟩ := (hr.at h).get (i := j) (by omega)
    obtain ⟨y, q, hy, hym, hq, hyo, hyl⟩ := (hr.at h).get (i := j + 1) (by omega)
    have ex : ps.getD j [] = x := by simp [List.getD, hx]
    have ey : ps.getD (j + 1) [] = y := by simp [List.getD, hy]
    refine r_ld h 0 rfl (add_lit _ _ _) d (by simp [Sh.emb]) (by rw [Nat.zero_add]; exact cm_d hk ..) ?_
    rw [show IntKind.wrap .i64 (((j + 1 : Nat) : Int) - 1) = (j : Int) by rw [w64 (by omega) (by omega)]; omega]
    refine r_ix p hp (by omega) (by omega) ?_
    refine r_ldN (u8s x).toArray (by simp only [Int.toNat_natCast]; exact hxl) ?_
    refine r_ld h 0 rfl (add_lit _ _ _) d (by simp [Sh.emb]) (by rw [Nat.zero_add]; exact cm_d hk ..) ?_
    refine r_ix q hq (by omega) (by omega) ?_
    refine r_ldN (u8s y).toArray (by simp only [Int.toNat_natCast]; exact hyl) ?_
    refine r_call h (c_compareKeys hxo.1 hyo.1 _) fun c w4 h _ hc => ?_
    subst hc
    have hl : ldOk w4 1 ((⟨b1, 0, none⟩ : Addr).add 32) .slice d := ldOk_own (sh := .slice) h 0 rfl 32 (by exact cm_d hk ..) (by simp [Sh.emb])
    refine r_chk2 hl hl ?_
    refine r_if (cmpL x y ≥ 0) rfl (fun hc => ?_) (fun hc => ?_)
    · refine r_ret h.nil false rfl (decide_eq_false fun hh => ?_).symm
      have := hh.1 j (by show j + 1 < ps.length; omega)
      rw [show (CR.pc ⟨root, d, ps, num, note⟩).ps = ps from rfl, ex, ey] at this
      unfold ltL at this
      omega
    · refine ⟨((j + 1 + 1 : Nat) : Int), by rw [w64 (by omega) (by omega)]; rfl, ⟨j + 1, rfl, by omega, fun m hm => ?_, h⟩, by omega⟩
      by_cases hmj : m = j
      · subst hmj
        rw [ex, ey]
        unfold ltL
        omega
      · exact hadj m (by omega)
  · have hall : adjK ps := fun m hm => hadj m (by omega)
    refine r_ld h 0 rfl (add_lit _ _ _) d (by simp [Sh.emb]) (by rw [Nat.zero_add]; exact cm_d hk ..) ?_
    refine r_if ((d.n : Int) ≤ 3) rfl (fun h3 => ?_) (fun h3 => ?_)
    · refine r_ld h 0 rfl (add_lit _ _ _) num (by simp [Sh.emb]) (by rw [Nat.zero_add]; exact cm_num hk ..) ?_
      refine r_callp (c_within num 0 40) ?_
      refine r_if (0 ≤ num ∧ num ≤ 40) rfl (fun hw => ?_) (fun hw => ?_)
      · refine r_ld h 0 rfl (add_lit _ _ _) note (by simp [Sh.emb]) (by rw [Nat.zero_add]; exact cm_note hk ..) ?_
        refine r_ret h.nil _ rfl ?_
        rw [decide_eq_decide]
        exact ⟨fun hs => ⟨hall, by show ps.length ≤ 3; omega, hw, by show note.size ≤ 64; omega⟩, fun hh => by have : note.size ≤ 64 := hh.2.2.2; omega⟩
      · exact r_ret h.nil false rfl (decide_eq_false fun hh => hw hh.2.2.1).symm
    · exact r_ret h.nil false rfl (decide_eq_false fun hh => h3 (by have : ps.length ≤ 3 := hh.2.1; omega)).symm)

theorem c_Commit_data {w : World} {r : CR} (hk : keyOk r.root) (hr : KsR w r.d r.ps) (hmax : r.ps.length ≤ 1073741) (hnote : r.note.size ≤ 1073741824) : Ret Tryz.prog n_impl_Commit_data [.agg r.cells.toArray] w [.slice] (fun x w' => SlO w w' [] ty_uint8 1 x (u8s (cdata r.pc)) ∧ x.n = (cdata r.pc).length) := impl_Commit_data_calls _ (by
  unfold impl_Commit_data
  obtain ⟨root, d, ps, num, note⟩ := r
  dsimp only at hk hr hmax hnote
  have hn := hr.n
  have hlen := cdata_len (c := ⟨root, ps, num, note⟩) ⟨hk, hr.ok⟩
  refine r_new (At.refl w) fun b1 w1 h => ?_
  have h : At w w1 [(b1, (cmC root d num note).toArray, ty_impl_Commit)] := h
  dsimp only at hlen
  have h : At w w1 ([(b1, (cmC root d num note).toArray, ty_impl_Commit)] ++ []) := h
  refine r_joinI ?_
  refine r_draw h fun w2 h => ?_
  refine r_ld h 0 rfl (add_lit _ _ _) d (by simp [Sh.emb]) (by rw [Nat.zero_add]; exact cm_d hk ..) ?_
  refine r_slPre 32 rfl rfl (by omega) ?_
  have hroot : ∀ {v : World} {X Y : List Blk}, At w v (X ++ ([(b1, (cmC root d num note).toArray, ty_impl_Commit)] ++ Y)) → SlAt v ⟨some ((⟨b1, 0, none⟩ : Addr).add 0), 32, 32⟩ 1 (u8s root) := fun h => by
    refine At.sl h.pl1 0 rfl (g := b1) (o := 0) (by rw [add_lit]) (by rw [u8s_len, hk.1]; rfl) ?_
    show ((cmC root d num note).drop 0).take _ = _
    rw [List.drop_zero]
    exact List.take_left
  have hlp : ∀ {v : World} {X Y : List Blk}, At w v (X ++ ([(b1, (cmC root d num note).toArray, ty_impl_Commit)] ++ Y)) → ldOk v 1 ((⟨b1, 0, none⟩ : Addr).add 32) .slice d := fun h => ldOk_own (sh := .slice) h.pl1 0 rfl 32 (by exact cm_d hk ..) (by simp [Sh.emb])
  have hln : ∀ {v : World} {X Y : List Blk}, At w v (X ++ ([(b1, (cmC root d num note).toArray, ty_impl_Commit)] ++ Y)) → ldOk v 1 ((⟨b1, 0, none⟩ : Addr).add 33) (.int .i64) num := fun h => ldOk_own (sh := .int .i64) h.pl1 0 rfl 33 (by exact cm_num hk ..) (by simp [Sh.emb])
  have hlt : ∀ {v : World} {X Y : List Blk}, At w v (X ++ ([(b1, (cmC root d num note).toArray, ty_impl_Commit)] ++ Y)) → ldOk v 1 ((⟨b1, 0, none⟩ : Addr).add 34) .str note := fun h => ldOk_own (sh := .str) h.pl1 0 rfl 34 (by exact cm_note hk ..) (by simp [Sh.emb])
  refine r_bs1 T_sl_uint8' h rfl (by omega) fun y11 w3 hy hyn => ?_
  obtain ⟨L1, hO1, h⟩ := hy.split
  refine r_chk1 (hlp h) ?_
  refine r_append T_sl_uint8' (hO1.slo h) (hroot h) u8s_one (by dsimp only; omega) (by dsimp only; omega) fun y14 w4 hS4 hn4 => ?_
  obtain ⟨L4, hO4, h⟩ := hS4.split
  refine r_chk1 (hlp h) ?_
  refine ⟨y14, rfl, ?_⟩
  refine r_any fun _ => ?_
  refine r_ld h.pl1 0 rfl (add_lit _ _ _) d (by simp [Sh.emb]) (by rw [Nat.zero_add]; exact cm_d hk ..) ?_
  obtain ⟨H, hH⟩ : ∃ H : List Int, H = ((ps.length : Int) + 1) % 256 :: root := ⟨_, rfl⟩
  have hHl : H.length = 33 := by rw [hH, List.length_cons, hk.1]
  have e0 : (Value.int .u8 (IntKind.wrap .u8 (IntKind.wrap .i64 ((d.n : Int) + 1)))).cells.toList ++ u8s root = u8s H := by
    rw [hH, w64 (by omega) (by omega), wrapu8, hn]
    rfl
  rw [e0] at hO4
  refine r_loop (σ := Sl × Int) (fun i w' => ∃ (j : Nat) (L : List Blk), i.2 = j ∧ j ≤ ps.length ∧ At w w' (L ++ ([(b1, (cmC root d num note).toArray, ty_impl_Commit)] ++ [])) ∧ OwnS ty_uint8 1 i.1 (u8s (H ++ (ps.take j).flatten)) L ∧ i.1.n = 33 + 32 * j) (fun i _ => (d.n - i.2).toNat) (y14, 0) rfl
    ⟨0, L4, rfl, by omega, h, by simpa using hO4, by dsimp only at hn4 ⊢; omega⟩ ?_
  clear h hO4 hO1 hy hS4
  rintro ⟨s3, i⟩ w5 ⟨j, L, hi, hj, h, hO, hsn⟩
  dsimp only at hi hO hsn
  subst hi
  refine r_any fun _ => ?_
  dsimp only
  refine r_if ((j : Int) < (d.n : Int)) rfl (fun hlt2 => ?_) (fun hge => ?_)
  · obtain ⟨k, q, hkk, hkm, hq, hko, hkl⟩ := hr.get (i := j) (by omega)
    refine r_ix q hq (by omega) (by omega) ?_
    refine r_ldN (u8s k).toArray (by simp only [Int.toNat_natCast]; exact ldOk_below h.below hkl) ?_
    refine r_new h fun b5 w6 h => ?_
    refine r_stA h 0 rfl rfl (by simp [hko.1]) (by simp [Value.cells]) (by simpa using u8s_one) fun w7 h => ?_
    have h : At w w7 ([(b5, (u8s k).toArray, ty_impl_Key)] ++ (L ++ ([(b1, (cmC root d num note).toArray, ty_impl_Commit)] ++ []))) := h
    refine r_slPre 32 rfl rfl (by omega) ?_
    have hy : SlAt w7 ⟨some (⟨b5, 0, none⟩ : Addr), 32, 32⟩ 1 (u8s k) := At.sl h 0 rfl (g := b5) (o := 0) rfl (by rw [u8s_len, hko.1]; rfl) (by
      show ((u8s k).drop 0).take _ = _
      rw [List.drop_zero, List.take_of_length_le (Nat.le_refl _)])
    refine r_append T_sl_uint8' (hO.slo h.pl1) hy u8s_one (by dsimp only; omega) (by dsimp only; omega) fun y24 w8 hS8 hn8 => ?_
    obtain ⟨L8, hO8, h⟩ := hS8.split
    have h := h.dr1
    refine ⟨(y24, ((j + 1 : Nat) : Int)), by rw [w64 (by omega) (by omega)]; rfl, ⟨j + 1, L8, rfl, by omega, h, ?_, by dsimp only at hn8 ⊢; omega⟩, by dsimp only; omega⟩
    rw [take_succ_get hkk, List.flatten_append, List.flatten_singleton, ← List.append_assoc, u8s_append]
    exact hO8
  · have hjl : j = ps.length := by omega
    subst hjl
    rw [List.take_of_length_le (Nat.le_refl _)] at hO
    refine r_draw h fun w6 h => ?_
    refine r_ld h.pl1 0 rfl (add_lit _ _ _) num (by simp [Sh.emb]) (by rw [Nat.zero_add]; exact cm_num hk ..) ?_
    refine r_ld h.pl1 0 rfl (add_lit _ _ _) note (by simp [Sh.emb]) (by rw [Nat.zero_add]; exact cm_note hk ..) ?_
    refine r_bs1 T_sl_uint8' h rfl (by omega) fun y30 w7 hy hyn => ?_
    obtain ⟨Ly, hOy, h⟩ := hy.split
    have h : At w w7 (Ly ++ (L ++ ([(b1, (cmC root d num note).toArray, ty_impl_Commit)] ++ []))) := h
    refine r_chk2 (hlt h.right) (hln h.right) ?_
    refine r_append T_sl_uint8' (hO.slo h.pl1) (hOy.sl h (List.sublist_append_left _ _)) (by simp [Value.cells, oneC]) (by omega) (by omega) fun y31 w8 hS8 hn8 => ?_
    obtain ⟨L8, hO8, h⟩ := hS8.split
    have h : At w w8 (L8 ++ (Ly ++ ([(b1, (cmC root d num note).toArray, ty_impl_Commit)] ++ []))) := h
    refine r_chk2 (hlt h.right) (hln h.right) ?_
    refine r_appendS T_sl_uint8' (ts := ty_string) (by kernel_rfl) (hO8.slo h) (by omega) (by omega) fun y34 w9 hS9 hn9 => ?_
    obtain ⟨L9, hO9, h⟩ := hS9.split
    have h : At w w9 (L9 ++ (Ly ++ ([(b1, (cmC root d num note).toArray, ty_impl_Commit)] ++ []))) := h
    refine r_chk1 (hln h.right) ?_
    refine r_ret h.nil y34 rfl ⟨?_, ?_⟩
    · have e : u8s (cdata ⟨root, ps, num, note⟩) = u8s (H ++ ps.flatten) ++ (Value.int .u8 (IntKind.wrap .u8 num)).cells.toList ++ (note.data.toList.map fun b => Value.int .u8 b.toNat) := by
        rw [strL_vals, wrapu8, hH]
        unfold cdata
        simp [u8s, Value.cells]
      rw [show (CR.pc ⟨root, d, ps, num, note⟩) = ⟨root, ps, num, note⟩ from rfl, e]
      exact hS9.base
    · rw [show (CR.pc ⟨root, d, ps, num, note⟩) = ⟨root, ps, num, note⟩ from rfl, hlen]
      omega)

theorem c_Commit_key {w : World} {r : CR} (hk : keyOk r.root) (hr : KsR w r.d r.ps) (hmax : r.ps.length ≤ 1073741) (hnote : r.note.size ≤ 1073741824) : Ret Tryz.prog n_impl_Commit_key [.agg r.cells.toArray] w [.agg] (fun x _ => x = (u8s (ckey r.pc)).toArray) := impl_Commit_key_calls _ (by
  unfold impl_Commit_key
  have hok : r.pc.ok := ⟨hk, hr.ok⟩
  have hlen := cdata_len hok
  have hl := crcells_len hk
  have e1 : r.pc.ps.length = r.ps.length := rfl
  have e2 : r.pc.note.size = r.note.size := rfl
  have hck := ckey_ok r.pc
  refine r_new (At.refl w) fun b1 w1 h => ?_
  refine r_new h fun b2 w2 h => ?_
  have h : At w w2 [(b2, Array.replicate 32 (.int .u8 0), ty_impl_Key), (b1, r.cells.toArray, ty_impl_Commit)] := h
  refine r_ldA h 1 rfl rfl (by simp [hl]) ?_
  refine r_call h (c_Commit_data hk (hr.at h) hmax hnote) fun y w3 h _ ⟨hS, hn⟩ => ?_
  refine r_call h (c_hash 7 hS.sl (cdata_ok hok) (by omega)) fun x w4 h _ hx => ?_
  subst hx
  rw [show hashL 7 (cdata r.pc) = ckey r.pc from rfl]
  refine r_stA h 0 rfl rfl (by simp [hck.1]) (by simp) (by simpa using u8s_one) fun w5 h => ?_
  refine r_ldA h 0 rfl rfl (by simp [hck.1]) ?_
  exact r_ret h.nil _ rfl rfl)
end Go.Proofs.YtkifkdkjljcclaaGreat
