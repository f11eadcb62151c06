/- History: names are found in a map; entries are taken out of one, laid into one. Printed in part (bk.py). -/
import Derived.Test.YtaadgdbegpmlmaaGreatPkLUC33
import Derived.Test.YtaadgdbegpmlmaaGreatPkLUC16
namespace Go.Sx
open Go.RowKit (Below)
variable {P : Program} {R : Value → World → Prop} {w0 w : World} {ls : List Blk}

theorem r_appendRoom {t ty e z by_ : Nat} (hT : SlT P t e z by_) {s y : Sl} {xs news : List Value} {k : Sl → World → Prop} (hS : SlO w0 w ls e z s xs) (hy : SlAt w y z news) (h1 : ∀ v ∈ news, oneC v = true)
    (hroom : s.n + y.n ≤ s.c) (h : ∀ w', SlO w0 w' ls e z ⟨s.a, s.n + y.n, s.c⟩ (xs ++ news) → k ⟨s.a, s.n + y.n, s.c⟩ w') :
    ((real P R).sem (Builtin.append_ #[t, t] ty #[.slice s.a s.n s.c, .slice y.a y.n y.c]) .slice k : World → Prop) w := by
  obtain ⟨i, zv, hi, hz, hsz, hby, hzs⟩ := hT.ex
  have hlen : (xs ++ news).length = (s.n + y.n) * z := by rw [List.length_append, hS.len, hy.len, Nat.add_mul]
  have hfy := run_first (P := P) hy
  rcases hS.own with ⟨ha, hn, hc⟩ | ⟨g, cur, ha, hA, hnc, hcm, hcs, htk⟩
  · have hy0 : y.n = 0 := by omega
    have hnews : news = [] := List.eq_nil_of_length_eq_zero (by rw [hy.len, hy0, Nat.zero_mul])
    subst hnews
    refine ⟨⟨s.a, s.n + y.n, s.c⟩, w, ?_, h w ⟨hS.at_, by simpa using hlen, ?_⟩⟩
    · simp only [Sh.emb, ha, hn, hc, hy0] at hfy ⊢
      simp [Builtin.append_, run_underlying hT.ut, sizeOf, typeInfo, hi, hsz, Builtin.lenOf, hfy]
    · rw [List.append_nil]; exact .inl ⟨ha, by show s.n + y.n = 0; omega, hc⟩
  · have hfit : s.n * z + news.length ≤ cur.size := by rw [hy.len, hcs, ← Nat.add_mul]; exact Nat.mul_le_mul_right _ hroom
    have hg : w.heap[g]? = some (.cells cur e (0, 0)) := hA.get (i := 0) rfl
    obtain ⟨k1, k2, k3, k4, k5, k6, k7⟩ := stW_heap news (s.n * z) 0 w cur hg (by simpa using hfit) h1
    have hst := run_storeCells (P := P) ⟨g, s.n * z, none⟩ news 0 w k1
    have hcur' : (cur.toList.take (s.n * z + 0) ++ news ++ cur.toList.drop (s.n * z + 0 + news.length)).toArray.size = s.c * z := by
      simp only [List.size_toArray, List.length_append, List.length_take, List.length_drop, Array.length_toList]; omega
    have hA' := hA.write (i := 0) rfl k2 k3 k4 k5 k6 k7
    refine ⟨⟨s.a, s.n + y.n, s.c⟩, stW w ⟨g, s.n * z, none⟩ news 0, ?_, h _ ⟨hA'.take _ (List.sublist_cons_self _ _), hlen, .inr ⟨g, _, ha, hA', hroom, hcm, hcur', ?_⟩⟩⟩
    · simp only [Sh.emb]
      simp [Builtin.append_, run_underlying hT.ut, sizeOf, typeInfo, hi, hsz, Builtin.lenOf, hroom, hfy, ha, add_lit, hst]
    · have e1 : xs.length = s.n * z := hS.len
      have e2 : cur.toList.take (s.n * z + 0) = xs := by rw [Nat.add_zero, ← e1]; exact htk
      simp only [e2]
      rw [List.append_assoc, ← List.append_assoc]
      exact List.take_left
end Go.Sx
namespace Go.Proofs.YtaadgdbegpmlmaaGreat
open Go.Sx Go.RowKit

theorem c_InsertEntry {w0 w : World} {ls L Lv : List Blk} {s v : Sl} {xs vs : List Value} (hA : At w0 w (L ++ ls)) (hsub : Lv.Sublist ls) (hO : OwnS ty_impl_Entry 2 s xs L) (hv : OwnS ty_impl_Entry 2 v vs Lv) (hvn : v.n = 1) (i : Nat) (hi : i ≤ s.n) (hone : ∀ u ∈ xs, oneC u = true) (hvone : ∀ u ∈ vs, oneC u = true) (hmax : s.n ≤ 1000000) :
    Calls Tryz.prog n_slices_Insert_sl_impl_Entry_impl_Entry [.slice s.a s.n s.c, .int .i64 (i : Int), .slice v.a v.n v.c].toArray w fun e w' => ∃ x, e = .returned x ∧ ∃ (t : Sl) (L' : List Blk), x = .slice t.a t.n t.c ∧ At w0 w' (L' ++ ls) ∧ OwnS ty_impl_Entry 2 t (xs.take (i * 2) ++ vs ++ xs.drop (i * 2)) L' ∧ t.n = s.n + 1 := slices_Insert_sl_impl_Entry_impl_Entry_calls _ _ _ (by
  unfold slices_Insert_sl_impl_Entry_impl_Entry
  have hcap := hO.cap
  have hxl : xs.length = s.n * 2 := hO.1
  have hvl : vs.length = 2 := by rw [hv.1, hvn]
  have subL : L.Sublist (L ++ ls) := List.sublist_append_left _ _
  have subV : ∀ M : List Blk, Lv.Sublist (M ++ ls) := fun M => hsub.trans (List.sublist_append_right _ _)
  have e1 : IntKind.wrap .i64 ((s.n : Int) + (v.n : Int)) = ((s.n + 1 : Nat) : Int) := by rw [w64 (by omega) (by omega)]; omega
  have e2 : IntKind.wrap .i64 (((s.n + 1 : Nat) : Int) - (i : Int)) = ((s.n + 1 - i : Nat) : Int) := by rw [w64 (by omega) (by omega)]; omega
  have e3 : IntKind.wrap .i64 ((i : Int) + (v.n : Int)) = ((i + 1 : Nat) : Int) := by rw [w64 (by omega) (by omega)]; omega
  rw [e1, e2, e3]
  refine r_slSuf i rfl rfl hi hcap fun y0 _ _ _ => ?_
  refine r_eq (fun hh => by omega) fun _ => ?_
  refine r_eq (fun heq => ?_) (fun hne => ?_)
  · have heq' : i = s.n := by omega
    refine r_append T_sl_Entry (hO.slo hA) (hv.sl hA (subV L)) hvone (by omega) (by omega) fun s' w' hS hn => ?_
    obtain ⟨L', hO', hA'⟩ := hS.split
    refine r_retR ⟨s', L', rfl, hA', ?_, by omega⟩
    rw [heq', ← hxl, List.take_length, List.drop_length, List.append_nil]
    exact hO'
  refine r_if (((s.n + 1 : Nat) : Int) > (s.c : Int)) rfl (fun hgt => ?_) (fun hle => ?_)
  · refine r_slPre i rfl rfl (by omega) ?_
    refine r_appendMake (x := ⟨s.a, i, s.c⟩) T_sl_Entry (by kernel_rfl) hA ((hO.shrink i hi).sl hA subL) (s.n + 1 - i) (by dsimp only; omega) (by dsimp only; omega) (by dsimp only; omega) fun s2 xs2 L2 w2 h2 hO2 hn2 htk2 => ?_
    dsimp only at hn2 htk2
    have hcap2 := hO2.cap
    refine r_slSuf i rfl rfl (by omega) hcap2 fun y43 hyn hyc hya => ?_
    refine r_copyO T_sl_Entry h2 hO2 i (by omega) (fun h0 => hya (by omega)) (hv.sl h2 (((subV L)).trans (List.sublist_append_right _ _))) (by omega) hvone fun w3 L3 h3 hO3 => ?_
    refine r_draw h3 fun w4 h4 => ?_
    refine r_slSuf (i + 1) rfl rfl (by omega) hcap2 fun y50 hyn5 hyc5 hya5 => ?_
    refine r_sl i s.n rfl rfl hi hcap ?_
    have hsuf := (hO.sl h4 (subL.trans (List.sublist_append_right _ _))).slice (by omega) i s.n hi (Nat.le_refl _) hcap
    rw [List.take_of_length_le (l := xs.drop (i * 2)) (by rw [List.length_drop]; omega)] at hsuf
    refine r_copyO T_sl_Entry h4 hO3 (i + 1) (by omega) (fun h0 => hya5 (by omega)) hsuf (by dsimp only; omega) (fun u hu => hone u (List.mem_of_mem_drop hu)) fun w5 L5 h5 hO5 => ?_
    refine r_retR ⟨s2, L5, rfl, h5.dr1, ?_, by omega⟩
    have hx2l : xs2.length = s.n * 2 + 2 := by rw [hO2.1, hn2]; omega
    have key := ins1 (a := i * 2) hxl hvl hx2l (by omega) htk2
    rw [hvl, List.length_drop, hxl, show (i + 1) * 2 = i * 2 + 2 by omega, key] at hO5
    exact hO5
  · have hle' : s.n + 1 ≤ s.c := by omega
    refine r_slPre (s.n + 1) rfl rfl hle' ?_
    obtain ⟨ys, hOg, htk⟩ := hO.grow (s.n + 1) (by omega) hle'
    have hyl : ys.length = s.n * 2 + 2 := by rw [hOg.1]; dsimp only; omega
    have hyone : ∀ u ∈ (ys.drop (i * 2)).take (s.n * 2 - i * 2), oneC u = true := fun u hu => by
      rw [← List.drop_take, htk] at hu
      exact hone u (List.mem_of_mem_drop hu)
    refine r_slSuf (i + 1) rfl rfl (by dsimp only; omega) (by dsimp only; omega) fun y66 hyn6 hyc6 hya6 => ?_
    dsimp only at hyn6 hya6
    refine r_overlaps (tr := ty_bool) (s := ⟨s.a, s.n + 1, s.c⟩) T_sl_Entry Tryz.func267 (by kernel_rfl) (by kernel_rfl) (by kernel_rfl) (by kernel_rfl) hA hsub hOg hv (by dsimp only; omega) (by omega) (i + 1) (hya6 (by omega)) ?_
    refine r_true rfl ?_
    refine r_joinI ?_
    refine r_draw hA fun w2 h2 => ?_
    refine r_slSuf (i + 1) rfl rfl (by dsimp only; omega) (by dsimp only; omega) fun y73 hyn7 hyc7 hya7 => ?_
    dsimp only at hyn7 hya7
    refine r_sl i (s.n + 1) rfl rfl (by omega) hle' ?_
    have hsuf := (hOg.sl h2 subL).slice (by omega) i (s.n + 1) (by omega) (by dsimp only; omega) hle'
    rw [List.take_of_length_le (l := ys.drop (i * 2)) (by rw [List.length_drop]; omega)] at hsuf
    refine r_copyO2 T_sl_Entry h2 hOg (i + 1) (by dsimp only; omega) (fun h0 => hya7 (by omega)) hsuf (by dsimp only; omega) (by rw [hyn7, show (s.n + 1 - (i + 1)) * 2 = s.n * 2 - i * 2 by omega]; exact hyone) fun w3 L3 h3 hO3 => ?_
    refine ⟨(), rfl, ?_⟩
    refine r_any fun _ => ?_
    refine r_slSuf i rfl rfl (by dsimp only; omega) (by dsimp only; omega) fun y80 hyn8 hyc8 hya8 => ?_
    dsimp only at hyn8 hya8
    refine r_copyO T_sl_Entry h3 hO3 i (by dsimp only; omega) (fun h0 => hya8 (by omega)) (hv.sl h3 (subV L3)) (by omega) hvone fun w4 L4 h4 hO4 => ?_
    refine r_retR ⟨⟨s.a, s.n + 1, s.c⟩, L4, rfl, h4, ?_, rfl⟩
    have key := ins2 (ys := ys) (a := i * 2) (N := s.n * 2) hvl hyl (by omega)
    rw [hvl, hyn7, show (i + 1) * 2 = i * 2 + 2 by omega, show (s.n + 1 - (i + 1)) * 2 = s.n * 2 - i * 2 by omega, key, htk] at hO4
    exact hO4)


theorem ents_take (es : List PE) (i : Nat) (hi : i ≤ es.length) : (es.flatMap entC).take (i * 2) = (es.take i).flatMap entC ∧ (es.flatMap entC).drop (i * 2) = (es.drop i).flatMap entC := by
  have hl : ((es.take i).flatMap entC).length = i * 2 := by rw [flatMap_length (z := 2) (fun l _ => entC_len l), List.length_take]; omega
  have h1 := List.take_left' (l₁ := (es.take i).flatMap entC) (l₂ := (es.drop i).flatMap entC) (i := i * 2) hl
  have h2 := List.drop_left' (l₁ := (es.take i).flatMap entC) (l₂ := (es.drop i).flatMap entC) (i := i * 2) hl
  rw [← List.flatMap_append, List.take_append_drop] at h1 h2
  exact ⟨h1, h2⟩
theorem r_slAny {P : Program} {R : Value → World → Prop} {w : World} {a : Option Addr} {n c z : Nat} {lo hi mx : Option Int} {k : Sl → World → Prop} (h1 : 0 ≤ lo.getD 0) (h2 : lo.getD 0 ≤ hi.getD n) (h3 : hi.getD n ≤ mx.getD c) (h4 : mx.getD c ≤ c) (hk : ∀ y, k y w) : ((real P R).sl a n c z lo hi mx k : World → Prop) w := ⟨h1, h2, h3, h4, hk _⟩
theorem zOne_Entry : zOne Tryz.prog ty_impl_Entry = true := by kernel_rfl
theorem c_insE {w0 w : World} {ls L Lv : List Blk} {s v : Sl} {es : List PE} {e : PE} (hA : At w0 w (L ++ ls)) (hsub : Lv.Sublist ls) (hO : OwnEntryS s es L) (hv : OwnEntryS v [e] Lv) (i : Nat) (hi : i ≤ es.length) (hmax : es.length ≤ 1000000) :
    Calls Tryz.prog n_slices_Insert_sl_impl_Entry_impl_Entry [.slice s.a s.n s.c, .int .i64 (i : Int), .slice v.a v.n v.c].toArray w fun r w' => ∃ x, r = .returned x ∧ ∃ (t : Sl) (L' : List Blk), x = .slice t.a t.n t.c ∧ At w0 w' (L' ++ ls) ∧ OwnEntryS t (es.take i ++ e :: es.drop i) L' := by
  have hn := hO.n
  refine (c_InsertEntry hA hsub hO hv (by have := hv.n; simpa using this) i (by omega) (entCs_one _) (entCs_one _) (by omega)).mono ?_
  rintro r w' ⟨x, hr, t, L', hx, h, hO', hn'⟩
  refine ⟨x, hr, t, L', hx, h, ?_⟩
  obtain ⟨h1, h2⟩ := ents_take es i hi
  rw [h1, h2] at hO'
  show OwnS _ _ _ _ _
  simpa [List.flatMap_append] using hO'
theorem c_delE {w0 w : World} {ls L : List Blk} {s : Sl} {es : List PE} (hA : At w0 w (L ++ ls)) (hO : OwnEntryS s es L) (i : Nat) (hi : i < es.length) (hmax : es.length ≤ 1000000) :
    Calls Tryz.prog n_slices_Delete_sl_impl_Entry_impl_Entry [.slice s.a s.n s.c, .int .i64 (i : Int), .int .i64 ((i + 1 : Nat) : Int)].toArray w fun r w' => ∃ x, r = .returned x ∧ ∃ (t : Sl) (L' : List Blk), x = .slice t.a t.n t.c ∧ At w0 w' (L' ++ ls) ∧ OwnEntryS t (es.take i ++ es.drop (i + 1)) L' := slices_Delete_sl_impl_Entry_impl_Entry_calls _ _ _ (by
  unfold slices_Delete_sl_impl_Entry_impl_Entry
  have hn := hO.n
  have hcap : s.n ≤ s.c := OwnS.cap hO
  refine r_slAny (by show (0 : Int) ≤ i; omega) (by show (i : Int) ≤ ((i + 1 : Nat) : Int); omega) (by show ((i + 1 : Nat) : Int) ≤ (s.n : Int); omega) (by show (s.n : Int) ≤ (s.c : Int); omega) fun y13 => ?_
  refine r_eq (fun hh => by omega) (fun _ => ?_)
  refine r_joinI ?_
  refine r_draw hA fun w1 hA => ?_
  refine r_slPre i rfl rfl (by omega) ?_
  refine r_sl (i + 1) s.n rfl rfl (by omega) hcap ?_
  have hsuf := (OwnS.sl hO hA (List.sublist_append_left _ _)).slice (by omega) (i + 1) s.n (by omega) (Nat.le_refl _) hcap
  obtain ⟨h1, h2⟩ := ents_take es i (by omega)
  obtain ⟨_, h4⟩ := ents_take es (i + 1) (by omega)
  rw [h4, List.take_of_length_le (by rw [flatMap_length (z := 2) (fun l _ => entC_len l), List.length_drop]; omega)] at hsuf
  have hpre := OwnS.shrink hO i (by omega)
  rw [h1] at hpre
  refine r_appendRoom T_sl_Entry (hpre.slo hA) hsuf (entCs_one _) (by dsimp only; omega) fun w2 hS => ?_
  dsimp only at hS
  refine ⟨_, rfl, ?_⟩
  refine r_any fun _ => ?_
  have e5 : i + (s.n - (i + 1)) = s.n - 1 := by omega
  dsimp only
  rw [e5] at hS ⊢
  rw [← List.flatMap_append] at hS
  obtain ⟨L2, hO2, hA2⟩ := hS.split
  obtain ⟨ys, hOg, htk⟩ := OwnS.grow hO2 s.n (by dsimp only; omega) hcap
  dsimp only at hOg htk
  refine r_sl (s.n - 1) s.n rfl rfl (by omega) hcap ?_
  refine r_clearO T_sl_Entry zOne_Entry hA2 hOg (y := ⟨if s.c = s.n - 1 then s.a else s.a.map (·.add ((s.n - 1) * 2)), s.n - (s.n - 1), s.c - (s.n - 1)⟩) (s.n - 1) (by dsimp only; omega) (fun _ => by dsimp only; rw [if_neg (by omega)]) fun v w3 L3 xs' h3 hO3 htk3 => ?_
  have hsh := OwnS.shrink hO3 (s.n - 1) (by dsimp only; omega)
  dsimp only at hsh
  rw [htk3, htk] at hsh
  exact r_retR ⟨⟨s.a, s.n - 1, s.c⟩, L3, rfl, h3, hsh⟩)
theorem c_ContainsCh {w0 w : World} {ls : List Blk} {s : Sl} {X : List PCh} (hA : At w0 w ls) (hs : ChsR w s X) (hmax : X.length ≤ 1073741824) {g : FuncId} {cap : Array Value} (hg : isGo Tryz.prog g = true) (f : PCh → Bool)
    (hf : ∀ (w' : World) (c : PCh), At w0 w' ls → c ∈ X → Ret Tryz.prog g ((#[] : Array Value).toList ++ [.agg (chC c).toArray] ++ cap.toList) w' [.bool] (fun r _ => r = f c)) :
    Ret Tryz.prog n_slices_ContainsFunc_sl_impl_Change_impl_Change [.slice s.a s.n s.c, .func (.func g) #[] cap] w [.bool] (fun x _ => x = X.any f) := slices_ContainsFunc_sl_impl_Change_impl_Change_calls _ _ (by
  unfold slices_ContainsFunc_sl_impl_Change_impl_Change
  have ix : Ret Tryz.prog n_slices_IndexFunc_sl_impl_Change_impl_Change [.slice s.a s.n s.c, .func (.func g) #[] cap] w [.int .i64] (fun r _ => (0 ≤ r ∧ X.any f = true) ∨ (r = -1 ∧ X.any f = false)) := slices_IndexFunc_sl_impl_Change_impl_Change_calls _ _ (by
    unfold slices_IndexFunc_sl_impl_Change_impl_Change
    have hn := SlOf.n hs
    refine r_loop (σ := Int) (fun i w' => ∃ j : Nat, i = j ∧ j ≤ X.length ∧ (∀ x ∈ X.take j, f x = false) ∧ At w w' []) (fun i _ => (s.n - i).toNat) 0 rfl ⟨0, rfl, by omega, by simp, At.refl w⟩ ?_
    rintro i w1 ⟨j, rfl, hj, hpre, h⟩
    refine r_any fun _ => ?_
    refine r_if ((j : Int) < (s.n : Int)) rfl (fun hlt => ?_) (fun hge => ?_)
    · obtain ⟨k, q, hk, hkm, hq, hkl, _⟩ := ChsR.get (SlOf.at hs h) (i := j) (by omega)
      refine r_ix q hq (by omega) (by omega) ?_
      refine r_ldN (chC k).toArray (by simp only [Int.toNat_natCast]; exact hkl) ?_
      refine r_callV h hg (hf w1 k (hA.trans h.below) hkm) fun x w2 h2 _ hx => ?_
      subst hx
      refine r_cond (fun ht => ?_) (fun ht => ?_)
      · exact r_ret h2 (j : Int) rfl (.inl ⟨by show (0 : Int) ≤ j; omega, List.any_eq_true.2 ⟨k, hkm, ht⟩⟩)
      · refine ⟨((j + 1 : Nat) : Int), by rw [w64 (by omega) (by omega)]; rfl, ⟨j + 1, rfl, by omega, ?_, h2⟩, by omega⟩
        rw [take_succ_get hk]
        intro x hx
        rcases List.mem_append.1 hx with hx | hx
        · exact hpre x hx
        · rw [List.mem_singleton.1 hx]; exact ht
    · have : j = X.length := by omega
      subst this
      rw [List.take_of_length_le (Nat.le_refl _)] at hpre
      exact r_ret h (-1 : Int) rfl (.inr ⟨rfl, List.any_eq_false.2 fun x hx => by rw [hpre x hx]; simp⟩))
  refine r_call (At.refl w) ix fun r w1 h _ hr => ?_
  rcases hr with ⟨h0, ht⟩ | ⟨rfl, hf0⟩
  · exact r_ret h _ rfl (by rw [ht]; exact decide_eq_true h0)
  · exact r_ret h _ rfl (by rw [hf0]; rfl))

theorem posN_iff {es : List PE} (ha : AscN es) {n : ByteArray} {j : Nat} {e : PE} (h : es[j]? = some e) : ltN e.1 n = true ↔ j < posN es n := by
  constructor
  · intro hlt
    rcases Nat.lt_or_ge j (posN es n) with h1 | h1
    · exact h1
    · have hl := (List.getElem?_eq_some_iff.1 h).1
      obtain ⟨x, hg⟩ : ∃ x, es[posN es n]? = some x := ⟨_, List.getElem?_eq_getElem (by omega)⟩
      have h2 := posN_at hg
      rcases Nat.eq_or_lt_of_le h1 with h3 | h3
      · rw [h3, h] at hg
        cases hg
        rw [hlt] at h2
        cases h2
      · have h4 : ltN x.1 e.1 = true := by
          have := List.pairwise_iff_getElem.1 ha (posN es n) j (by omega) hl h3
          rwa [(List.getElem?_eq_some_iff.1 h).2, (List.getElem?_eq_some_iff.1 hg).2] at this
        rw [ltN_trans h4 hlt] at h2
        cases h2
  · intro hlt
    have hl := (List.getElem?_eq_some_iff.1 h).1
    exact posN_lt (List.mem_take_iff_getElem.2 ⟨j, by omega, (List.getElem?_eq_some_iff.1 h).2⟩)
def cmpN (a b : ByteArray) : Int := if ltN a b = true then -1 else if ltN b a = true then 1 else 0
theorem run_gtr_ltN (t : TypeId) (x y : Operand) (a b : ByteArray) (w : World) : (eqB .gtr t x y (.string a) (.string b)).run Tryz.prog w = .ok (.bool (ltN b a)) w := by
  rw [run_gtr_str]
  unfold ltN
  rw [bl_total, Bool.not_not]
theorem c_isNaNs {w : World} (a : ByteArray) : Ret Tryz.prog n_cmp_isNaN_string [.string a] w [.bool] (fun r _ => r = false) := cmp_isNaN_string_calls _ (by
  unfold cmp_isNaN_string
  refine r_pur (sh := .bool) false (fun w' => ?_) ?_
  · rw [run_neq_str]
    simp [Sh.emb]
  · exact r_ret (At.refl w) false rfl rfl)
theorem c_cmpStr {w : World} (a b : ByteArray) : Ret Tryz.prog n_cmp_Compare_string [.string a, .string b] w [.int .i64] (fun r _ => r = cmpN a b) := cmp_Compare_string_calls _ _ (by
  unfold cmp_Compare_string
  refine r_call (At.refl w) (c_isNaNs a) fun r1 w1 h _ h1 => ?_
  subst h1
  refine r_call h (c_isNaNs b) fun r2 w2 h _ h2 => ?_
  subst h2
  refine r_false rfl ?_
  refine r_false rfl ?_
  refine r_pur (sh := .bool) (ltN a b) (fun w' => run_lss_str _ _ _ _ _ w') ?_
  unfold cmpN
  cases h1 : ltN a b with
  | true =>
    refine r_true rfl ?_
    exact r_ret h (-1) rfl (by rw [if_pos rfl])
  | false =>
    refine r_false rfl ?_
    refine r_pur (sh := .bool) (ltN b a) (fun w' => run_gtr_ltN _ _ _ _ _ w') ?_
    cases h2 : ltN b a with
    | true =>
      refine r_true rfl ?_
      exact r_ret h 1 rfl (by rw [if_neg (by simp), if_pos rfl])
    | false =>
      refine r_false rfl ?_
      exact r_ret h 0 rfl (by rw [if_neg (by simp), if_neg (by simp)]))
theorem go_find1 : isGo Tryz.prog n_impl_find_1 = true := by kernel_rfl
theorem c_find1 {w : World} (e : PE) (n : ByteArray) : Ret Tryz.prog n_impl_find_1 [.agg (entC e).toArray, .string n] w [.int .i64] (fun r _ => r = cmpN e.1 n) := impl_find_1_calls _ _ (by
  unfold impl_find_1
  refine r_new (At.refl w) fun b2 w1 h => ?_
  refine r_ld h 0 (sh := .str) (o := 0) rfl (add_lit _ _ _) e.1 (by simp [entC, Value.cells, Sh.emb]) rfl ?_
  refine r_call h (c_cmpStr e.1 n) fun r w2 h _ hr => ?_
  subst hr
  exact r_ret h.nil _ rfl rfl)
theorem cmpN_lt (a b : ByteArray) : cmpN a b < 0 ↔ ltN a b = true := by
  unfold cmpN
  split
  · rename_i h; simp [h]
  · rename_i h
    split <;> simp [h]
theorem cmpN_eq (a b : ByteArray) : cmpN a b = 0 ↔ a = b := by
  unfold cmpN
  split
  · rename_i h
    simp only [Int.reduceNeg, Int.neg_eq_zero, Int.one_ne_zero, false_iff]
    exact ltN_ne h
  · rename_i h
    split
    · rename_i h2
      simp only [Int.one_ne_zero, false_iff]
      exact (ltN_ne h2).symm
    · rename_i h2
      simp only [true_iff]
      rcases Classical.em (a = b) with h3 | h3
      · exact h3
      · exact absurd (ltN_of (by simpa using h) h3) h2
theorem c_findE {w : World} {s : Sl} {es : List PE} (hs : EsR w s es) (ha : AscN es) (n : ByteArray) (hmax : es.length ≤ 1073741824) : Ret Tryz.prog n_impl_find [.slice s.a s.n s.c, .string n] w [.int .i64, .bool] (fun r _ => r = ((posN es n : Int), hitN es n)) := impl_find_calls _ _ (by
  unfold impl_find
  have key : Ret Tryz.prog n_slices_BinarySearchFunc_sl_impl_Entry_impl_Entry_string [.slice s.a s.n s.c, .string n, .func (.func n_impl_find_1) #[] #[]] w [.int .i64, .bool] (fun r _ => r = ((posN es n : Int), hitN es n)) := slices_BinarySearchFunc_sl_impl_Entry_impl_Entry_string_calls _ _ _ (by
    unfold slices_BinarySearchFunc_sl_impl_Entry_impl_Entry_string
    have hn := hs.n
    have hple := posN_le es n
    refine r_loop (σ := Int × Int) (fun i w' => ∃ a b : Nat, i = ((a : Int), (b : Int)) ∧ a ≤ posN es n ∧ posN es n ≤ b ∧ b ≤ es.length ∧ At w w' []) (fun i _ => (i.2 - i.1).toNat) (0, (s.n : Int)) rfl ⟨0, s.n, rfl, by omega, by omega, by omega, At.refl w⟩ ?_
    rintro i w2 ⟨a, b, rfl, h1, h2, h3, h⟩
    refine r_any fun _ => ?_
    dsimp only
    refine r_if ((a : Int) < (b : Int)) rfl (fun hlt => ?_) (fun hge => ?_)
    · have e1 : IntKind.wrap .i64 (Int.fdiv (IntKind.wrap .u64 (IntKind.wrap .i64 ((a : Int) + (b : Int)))) (2 ^ 1)) = (((a + b) / 2 : Nat) : Int) := by
        rw [w64 (n := (a : Int) + b) (by omega) (by omega), wrapu64 (by omega) (by omega), Int.fdiv_eq_ediv_of_nonneg _ (by omega), w64 (by omega) (by omega)]
        omega
      rw [e1]
      obtain ⟨x, p, hx, hxm, hp, hxl, _, _⟩ := EsR.get (SlOf.at hs h) (i := (a + b) / 2) (by omega)
      refine r_ix p hp (by omega) (by omega) ?_
      refine r_ldN (entC x).toArray (by simp only [Int.toNat_natCast]; exact hxl) ?_
      refine r_callV h go_find1 (c_find1 x n) fun r w4 h4 _ hr => ?_
      subst hr
      have hpos := posN_iff (n := n) ha hx
      refine r_if (cmpN x.1 n < 0) rfl (fun hc => ?_) (fun hc => ?_)
      · have hc' := hpos.1 ((cmpN_lt _ _).1 hc)
        refine ⟨((((a + b) / 2 + 1 : Nat) : Int), (b : Int)), by rw [w64 (by omega) (by omega)]; rfl, ⟨_, b, rfl, by omega, h2, h3, h4⟩, by dsimp only; omega⟩
      · have hc' : ¬ (a + b) / 2 < posN es n := fun hh => hc ((cmpN_lt _ _).2 (hpos.2 hh))
        exact ⟨((a : Int), (((a + b) / 2 : Nat) : Int)), rfl, ⟨a, _, rfl, h1, by omega, by omega, h4⟩, by dsimp only; omega⟩
    · have hab : a = posN es n := by omega
      subst hab
      refine r_if ((posN es n : Int) < (s.n : Int)) rfl (fun hlt => ?_) (fun hge => ?_)
      · obtain ⟨x, p, hx, hxm, hp, hxl, _, _⟩ := EsR.get (SlOf.at hs h) (i := posN es n) (by omega)
        refine r_ix p hp (by omega) (by omega) ?_
        refine r_ldN (entC x).toArray (by simp only [Int.toNat_natCast]; exact hxl) ?_
        refine r_callV h go_find1 (c_find1 x n) fun r w4 h4 _ hr => ?_
        subst hr
        refine r_ret h4 ((posN es n : Int), cmpN x.1 n == 0) rfl ?_
        have : (cmpN x.1 n == 0) = hitN es n := by
          unfold hitN
          rw [hx]
          dsimp only
          by_cases h5 : x.1 = n
          · rw [decide_eq_true h5, (cmpN_eq _ _).2 h5]
            rfl
          · rw [decide_eq_false h5]
            exact beq_eq_false_iff_ne.2 fun hh => h5 ((cmpN_eq _ _).1 hh)
        rw [this]
      · refine r_ret h ((posN es n : Int), false) rfl ?_
        have : hitN es n = false := by
          unfold hitN
          rw [List.getElem?_eq_none (by omega)]
        rw [this])
  refine r_call (At.refl w) key fun r w1 h _ hr => ?_
  subst hr
  exact r_ret h _ rfl rfl)
theorem look_of {es : List PE} {n : ByteArray} (ha : AscN es) : look es n = if hitN es n = true then (es[posN es n]?).map (·.2) else none := by
  split
  · rename_i h
    obtain ⟨e, he, hn⟩ := hit_some h
    rw [look_hit he hn, he]
    rfl
  · rename_i h
    exact look_miss ha (by simpa using h)
theorem run_eqlB {t : TypeId} (hu : Tryz.prog.underlying t = some .bool) (x y : Operand) (a b : Bool) (w : World) : (eqB .eql t x y (.bool a) (.bool b)).run Tryz.prog w = .ok (.bool (a == b)) w := by
  have h1 := run_equalIn_bool' w 9999 t a b hu
  simp [eqB, eqGuard, binOp, Op.equal, Op.maxDepth, h1]
theorem c_same {w : World} {s t : Sl} {es fs : List PE} (hs : EsR w s es) (ht : EsR w t fs) (ha : AscN es) (hb : AscN fs) (n : ByteArray) (h1 : es.length ≤ 1073741824) (h2 : fs.length ≤ 1073741824) : Ret Tryz.prog n_impl_same [.slice s.a s.n s.c, .slice t.a t.n t.c, .string n] w [.bool] (fun r _ => r = decide (look es n = look fs n)) := impl_same_calls _ _ _ (by
  unfold impl_same
  have hub : Tryz.prog.underlying ty_bool = some .bool := by kernel_rfl
  have hsn := hs.n
  have htn := ht.n
  refine r_call (At.refl w) (c_findE hs ha n h1) fun r14 w1 h _ hr14 => ?_
  subst hr14
  refine r_call h (c_findE (SlOf.at ht h) hb n h2) fun r20 w2 h _ hr20 => ?_
  subst hr20
  refine r_draw h fun w3 h => ?_
  rw [look_of ha, look_of hb]
  dsimp only
  refine r_pur (sh := .bool) (hitN es n == hitN fs n) (fun w' => run_eqlB hub _ _ _ _ w') ?_
  cases hx : hitN es n with
  | false =>
    cases hy : hitN fs n with
    | false =>
      refine r_true rfl ?_
      refine r_true rfl ?_
      exact r_ret h true rfl (by simp)
    | true =>
      refine r_false rfl ?_
      obtain ⟨e, he, _⟩ := hit_some hy
      exact r_ret h false rfl (by rw [he]; simp)
  | true =>
    obtain ⟨e, he, hen⟩ := hit_some hx
    cases hy : hitN fs n with
    | false =>
      refine r_false rfl ?_
      exact r_ret h false rfl (by rw [he]; simp)
    | true =>
      obtain ⟨f, hf, hfn⟩ := hit_some hy
      refine r_true rfl ?_
      refine r_false rfl ?_
      have hel := (List.getElem?_eq_some_iff.1 he).1
      have hfl := (List.getElem?_eq_some_iff.1 hf).1
      obtain ⟨x, p, hx2, _, hp, _, _, hv1⟩ := EsR.get (SlOf.at hs h) (i := posN es n) hel
      obtain ⟨y, q, hy2, _, hq, _, _, hv2⟩ := EsR.get (SlOf.at ht h) (i := posN fs n) hfl
      rw [he] at hx2
      cases hx2
      rw [hf] at hy2
      cases hy2
      refine r_ix p hp (by omega) (by omega) ?_
      simp only [Int.toNat_natCast]
      refine r_ldN (sh := .str) e.2 hv1 ?_
      refine r_ix q hq (by omega) (by omega) ?_
      simp only [Int.toNat_natCast]
      refine r_ldN (sh := .str) f.2 hv2 ?_
      refine r_pur (sh := .bool) (e.2.toList == f.2.toList) (fun w' => run_eql_str _ _ _ _ _ w') ?_
      refine r_ret h _ rfl ?_
      rw [he, hf]
      simp only [if_true, Option.map_some, Option.some.injEq]
      by_cases h3 : e.2 = f.2
      · rw [decide_eq_true h3, h3, beq_self_eq_true]
      · rw [decide_eq_false h3]
        exact beq_eq_false_iff_ne.2 fun hh => h3 (strEq hh))
end Go.Proofs.YtaadgdbegpmlmaaGreat
