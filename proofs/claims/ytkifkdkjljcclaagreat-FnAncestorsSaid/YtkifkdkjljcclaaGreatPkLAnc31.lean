/- History: commits and books: the reference. -/
import Derived.Test.YtkifkdkjljcclaaGreatPkLAnc30
namespace Go.Proofs.YtkifkdkjljcclaaGreat
open Go.Sx Go.RowKit

theorem c_l07Ok {w : World} {p : Addr} {r : CR} (hc : CmAt w p r) (hr : KsR w r.d r.ps) (hmax : r.ps.length ≤ 1073741824) : Ret Tryz.prog n_spec_l07Ok [.pointer (some p)] w [.bool] (fun x _ => x = decide (okC r.pc)) := spec_l07Ok_calls _ (by
  unfold spec_l07Ok
  obtain ⟨root, d, ps, num, note⟩ := r
  dsimp only at hr hmax
  have hn := hr.n
  have hcd : ∀ {v : World} {X : List Blk}, At w v X → ldOk v 1 (p.add 32) .slice d := fun h => ldOk_below h.below hc.d
  refine r_joinI ?_
  refine r_ldN d hc.d ?_
  refine r_if ((d.n : Int) > 3) rfl (fun h3 => ?_) (fun h3 => ?_)
  · exact r_ret (At.refl w) false rfl (decide_eq_false fun hh => by have : ps.length ≤ 3 := hh.2.1; omega).symm
  refine r_ldN (sh := .int .i64) num hc.num ?_
  refine r_callp (c_l00In num 0 40) ?_
  rcases Decidable.em (0 ≤ num ∧ num ≤ 40) with hw | hw
  case inr =>
    rw [decide_eq_false hw]
    refine r_true rfl ?_
    exact r_ret (At.refl w) false rfl (decide_eq_false fun hh => hw hh.2.2.1).symm
  rw [decide_eq_true hw]
  refine r_false rfl ?_
  refine r_ldN (sh := .str) note hc.note ?_
  refine r_if ((note.size : Int) > 64) rfl (fun h6 => ?_) (fun h6 => ?_)
  · exact r_ret (At.refl w) false rfl (decide_eq_false fun hh => by have : note.size ≤ 64 := hh.2.2.2; omega).symm
  refine ⟨(), rfl, ?_⟩
  refine r_any fun _ => ?_
  refine r_loop (σ := Int) (fun i w' => ∃ j : Nat, i = ((j + 1 : Nat) : Int) ∧ (j = 0 ∨ j + 1 ≤ ps.length) ∧ (∀ m, m < j → ltL (ps.getD m []) (ps.getD (m + 1) [])) ∧ At w w' []) (fun i _ => (d.n + 1 - i).toNat) 1 rfl
    ⟨0, rfl, by omega, fun m hm => by omega, At.refl w⟩ ?_
  rintro i w2 ⟨j, rfl, hj, hadj, h⟩
  refine r_any fun _ => ?_
  refine r_ldN d (hcd h) ?_
  refine r_if (((j + 1 : Nat) : Int) < (d.n : Int)) rfl (fun hlt => ?_) (fun hge => ?_)
  · refine r_draw h fun w3 h => ?_
    obtain ⟨x, pa, hx, hxm, hp, hxo, hxl⟩ := (hr.at h).get (i := j) (by omega)
    obtain ⟨y, q, hy, hym, hq, hyo, hyl⟩ := (hr.at h).get (i := j + 1) (by omega)
    have ex : ps.getD j [] = x := by simp [List.getD, hx]
    have ey : ps.getD (j + 1) [] = y := by simp [List.getD, hy]
    refine r_ldN d (hcd h) ?_
    rw [show IntKind.wrap .i64 (((j + 1 : Nat) : Int) - 1) = (j : Int) by rw [w64 (by omega) (by omega)]; omega]
    refine r_ix pa hp (by omega) (by omega) ?_
    refine r_ldN (u8s x).toArray (by simp only [Int.toNat_natCast]; exact hxl) ?_
    refine r_ldN d (hcd h) ?_
    refine r_ix q hq (by omega) (by omega) ?_
    refine r_ldN (u8s y).toArray (by simp only [Int.toNat_natCast]; exact hyl) ?_
    refine r_call h (c_l01Compare hxo.1 hyo.1 _) fun c w4 h _ hc => ?_
    subst hc
    refine r_chk2 (hcd h) (hcd h) ?_
    refine r_if (cmpL x y ≥ 0) rfl (fun hc => ?_) (fun hc => ?_)
    · refine r_ret h.nil false rfl (decide_eq_false fun hh => ?_).symm
      have := hh.1 j (by show j + 1 < ps.length; omega)
      rw [show (CR.pc ⟨root, d, ps, num, note⟩).ps = ps from rfl, ex, ey] at this
      unfold ltL at this
      omega
    · refine ⟨((j + 1 + 1 : Nat) : Int), by rw [w64 (by omega) (by omega)]; rfl, ⟨j + 1, rfl, by omega, fun m hm => ?_, h⟩, by omega⟩
      by_cases hmj : m = j
      · subst hmj
        rw [ex, ey]
        unfold ltL
        omega
      · exact hadj m (by omega)
  · have hall : adjK ps := fun m hm => hadj m (by omega)
    exact r_ret h.nil true rfl (decide_eq_true (show okC ⟨root, ps, num, note⟩ from ⟨hall, by show ps.length ≤ 3; omega, hw, by show note.size ≤ 64; omega⟩)).symm)

theorem c_l07Add {w0 w : World} {ls : List Blk} {s : Sl} {xs : List Value} {k : List Int} (hS : SlO w0 w ls ty_uint8 1 s xs) (hk : k.length = 32) (hmax : s.n ≤ 70368744177664) :
    Calls Tryz.prog n_spec_l07Add [.slice s.a s.n s.c, .agg (u8s k).toArray].toArray w fun e w' => ∃ v, e = .returned v ∧ SlR w0 ls ty_uint8 1 (xs ++ u8s k) (s.n + 32) v w' := spec_l07Add_calls s _ (by
  unfold spec_l07Add
  obtain ⟨L, hO, h⟩ := hS.split
  refine r_new h fun b3 w1 h => ?_
  have h : At w0 w1 ([(b3, (u8s k).toArray, ty_impl_Key)] ++ (L ++ ls)) := h
  refine r_loop (σ := Sl × Int) (fun i w' => ∃ j : Nat, i.2 = j ∧ j ≤ 32 ∧ SlO w0 w' ([(b3, (u8s k).toArray, ty_impl_Key)] ++ ls) ty_uint8 1 i.1 (xs ++ u8s (k.take j)) ∧ i.1.n = s.n + j) (fun i _ => (32 - i.2).toNat) (s, 0) rfl
    ⟨0, rfl, by omega, by simpa [u8s] using hO.slo h.pl1, rfl⟩ ?_
  clear h
  rintro ⟨s1, i⟩ w2 ⟨j, hi, hj, h, hsn⟩
  dsimp only at hi h hsn
  subst hi
  refine r_any fun _ => ?_
  dsimp only
  refine r_if ((j : Int) < 32) rfl (fun hlt => ?_) (fun hge => ?_)
  · refine r_ix ⟨b3, 0, none⟩ rfl (by omega) (by omega) ?_
    refine r_ld h.at_ 0 rfl (add_lit _ _ _) (k.getD j 0) (by simp [Sh.emb]) (by simp only [Int.toNat_natCast, Nat.zero_add, Nat.mul_one]; exact u8s_arr (by omega)) ?_
    refine r_push T_sl_uint8' h rfl (by omega) (by simp [Value.cells, oneC]) (by omega) (by omega) fun s2 w6 h6 hn6 => ?_
    refine ⟨(s2, ((j + 1 : Nat) : Int)), by rw [w64 (by omega) (by omega)]; rfl, ⟨j + 1, rfl, by omega, ?_, by dsimp only; omega⟩, by dsimp only; omega⟩
    rw [← snoc_u8' (by omega), ← List.append_assoc]
    simpa [Value.cells] using h6
  · have hj32 : j = 32 := by omega
    subst hj32
    rw [List.take_of_length_le (by omega)] at h
    obtain ⟨L1, hO1, h1⟩ := h.split
    exact ⟨s1, rfl, hO1.slo h1.dr1, hsn⟩)

theorem c_l07Data {w : World} {p : Addr} {r : CR} (hk : keyOk r.root) (hc : CmAt w p r) (hr : KsR w r.d r.ps) (hmax : r.ps.length ≤ 1073741) (hnote : r.note.size ≤ 1073741824) : Ret Tryz.prog n_spec_l07Data [.pointer (some p)] w [.slice] (fun x w' => SlO w w' [] ty_uint8 1 x (u8s (cdata r.pc)) ∧ x.n = (cdata r.pc).length) := spec_l07Data_calls _ (by
  unfold spec_l07Data
  obtain ⟨root, d, ps, num, note⟩ := r
  dsimp only at hk hr hmax hnote
  have hn := hr.n
  have hlen := cdata_len (c := ⟨root, ps, num, note⟩) ⟨hk, hr.ok⟩
  dsimp only at hlen
  have hcd : ∀ {v : World} {X : List Blk}, At w v X → ldOk v 1 (p.add 32) .slice d := fun h => ldOk_below h.below hc.d
  have hck : ∀ {v : World} {X : List Blk}, At w v X → ldOk v 32 (p.add 0) .agg (u8s root).toArray := fun h => ldOk_below h.below hc.key
  have hcn : ∀ {v : World} {X : List Blk}, At w v X → ldOk v 1 (p.add 33) (.int .i64) num := fun h => ldOk_below h.below hc.num
  have hct : ∀ {v : World} {X : List Blk}, At w v X → ldOk v 1 (p.add 34) .str note := fun h => ldOk_below h.below hc.note
  refine r_joinI ?_
  refine r_draw (At.refl w) fun w1 h => ?_
  refine r_ldN d (hcd h) ?_
  refine r_ldN _ (hck h) ?_
  refine r_bs1 T_sl_uint8' h rfl (by omega) fun y12 w2 hy hyn => ?_
  refine r_chk2 (hck hy.at_) (hcd hy.at_) ?_
  refine r_callR (c_l07Add hy hk.1 (by omega)) ?_
  rintro v w3 ⟨r17, rfl, hS, hSn⟩
  refine ⟨r17, rfl, ?_⟩
  refine r_chk1 (hcd hS.at_) ?_
  refine ⟨r17, rfl, ?_⟩
  refine r_any fun _ => ?_
  obtain ⟨H, hH⟩ : ∃ H : List Int, H = ((ps.length : Int) + 1) % 256 :: root := ⟨_, rfl⟩
  have hHl : H.length = 33 := by rw [hH, List.length_cons, hk.1]
  have e0 : (Value.int .u8 (IntKind.wrap .u8 (IntKind.wrap .i64 ((d.n : Int) + 1)))).cells.toList ++ u8s root = u8s H := by
    rw [hH, w64 (by omega) (by omega), wrapu8, hn]
    rfl
  rw [e0] at hS
  refine r_loop (σ := Sl × Int) (fun i w' => ∃ j : Nat, i.2 = j ∧ j ≤ ps.length ∧ SlO w w' [] ty_uint8 1 i.1 (u8s (H ++ (ps.take j).flatten)) ∧ i.1.n = 33 + 32 * j) (fun i _ => (d.n - i.2).toNat) (r17, 0) rfl
    ⟨0, rfl, by omega, by simpa using hS, by dsimp only; omega⟩ ?_
  clear h hS hy
  rintro ⟨s3, i⟩ w5 ⟨j, hi, hj, hS, hsn⟩
  dsimp only at hi hS hsn
  subst hi
  refine r_any fun _ => ?_
  dsimp only
  refine r_ldN d (hcd hS.at_) ?_
  refine r_if ((j : Int) < (d.n : Int)) rfl (fun hlt2 => ?_) (fun hge => ?_)
  · obtain ⟨k, q, hkk, hkm, hq, hko, hkl⟩ := (hr.at hS.at_).get (i := j) (by omega)
    refine r_ldN d (hcd hS.at_) ?_
    refine r_ix q hq (by omega) (by omega) ?_
    refine r_ldN (u8s k).toArray (by simp only [Int.toNat_natCast]; exact hkl) ?_
    refine r_callR (c_l07Add hS hko.1 (by omega)) ?_
    rintro v w6 ⟨r35, rfl, hS6, hSn6⟩
    refine ⟨r35, rfl, ?_⟩
    refine ⟨(r35, ((j + 1 : Nat) : Int)), by rw [w64 (by omega) (by omega)]; rfl, ⟨j + 1, rfl, by omega, ?_, by dsimp only; omega⟩, by dsimp only; omega⟩
    rw [take_succ_get hkk, List.flatten_append, List.flatten_singleton, ← List.append_assoc, u8s_append]
    exact hS6
  · have hjl : j = ps.length := by omega
    subst hjl
    rw [List.take_of_length_le (Nat.le_refl _)] at hS
    obtain ⟨L, hO, h⟩ := hS.split
    have e : u8s (cdata ⟨root, ps, num, note⟩) = u8s (H ++ ps.flatten) ++ (Value.int .u8 (IntKind.wrap .u8 num)).cells.toList ++ u8s (strL note) := by
      rw [wrapu8, hH]
      unfold cdata
      simp [u8s, Value.cells]
    have fin : ∀ {v : World} {x : Sl}, SlO w v [] ty_uint8 1 x (u8s (H ++ ps.flatten) ++ (Value.int .u8 (IntKind.wrap .u8 num)).cells.toList ++ u8s (strL note)) → x.n = s3.n + 1 + note.size → SlO w v [] ty_uint8 1 x (u8s (cdata ⟨root, ps, num, note⟩)) ∧ x.n = (cdata ⟨root, ps, num, note⟩).length := fun h hx => ⟨by rw [e]; exact h, by rw [hlen]; omega⟩
    refine r_draw h fun w6 h => ?_
    refine r_ldN (sh := .int .i64) num (hcn h) ?_
    refine r_ldN (sh := .str) note (hct h) ?_
    refine r_all2 ?_ ?_
    · refine r_bs1 T_sl_uint8' h rfl (by omega) fun y42 w7 hy hyn => ?_
      obtain ⟨Ly, hOy, h⟩ := hy.split
      have h : At w w7 (Ly ++ (L ++ [])) := h
      refine r_chk2 (hct h) (hcn h) ?_
      refine r_all2 ?_ ?_
      · refine r_append T_sl_uint8' (hO.slo h.pl1) (hOy.sl h (List.sublist_append_left _ _)) (by simp [Value.cells, oneC]) (by omega) (by omega) fun y43 w8 hS8 hn8 => ?_
        refine r_chk2 (hct hS8.at_) (hcn hS8.at_) ?_
        refine r_cvB (e := ty_uint8) (by kernel_rfl) (by kernel_rfl) (by kernel_rfl) fun y48 w9 hb9 hs9 hn9 => ?_
        have hS8 := hS8.trans hb9
        refine r_chk1 (hcn hS8.at_) ?_
        refine r_append T_sl_uint8' hS8 hs9 u8s_one (by omega) (by omega) fun y49 w10 hS10 hn10 => ?_
        refine r_chk1 (hcn hS10.at_) ?_
        exact r_ret hS10.at_.nil y49 rfl (fin hS10.base (by omega))
      · refine r_cvN (e := ty_uint8) (by kernel_rfl) (by kernel_rfl) (by kernel_rfl) fun y48 w9 g o hb9 hM hmo hs9 hn9 => ?_
        have h := h.trans hb9
        refine r_chk1 (hcn h) ?_
        refine r_appendN hM hmo T_sl_uint8' (hO.slo h.pl1) (hOy.sl h (List.sublist_append_left _ _)) (by simp [Value.cells, oneC]) (by omega) (by omega) fun y43 w8 hS8 hn8 hM8 => ?_
        refine r_chk1 (hcn hS8.at_) ?_
        refine r_append T_sl_uint8' hS8 (strL_vals note ▸ hs9 _ hM8) u8s_one (by omega) (by omega) fun y49 w10 hS10 hn10 => ?_
        refine r_chk1 (hcn hS10.at_) ?_
        exact r_ret hS10.at_.nil y49 rfl (fin hS10.base (by omega))
    · refine r_cvN (e := ty_uint8) (by kernel_rfl) (by kernel_rfl) (by kernel_rfl) fun y48 w9 g o hb9 hM hmo hs9 hn9 => ?_
      have h := h.trans hb9
      refine r_chk1 (hcn h) ?_
      refine r_bs1M hM T_sl_uint8' h rfl (by omega) fun y42 w7 hy hyn hM7 => ?_
      obtain ⟨Ly, hOy, h⟩ := hy.split
      have h : At w w7 (Ly ++ (L ++ [])) := h
      refine r_chk1 (hcn h) ?_
      refine r_appendN hM7 hmo T_sl_uint8' (hO.slo h.pl1) (hOy.sl h (List.sublist_append_left _ _)) (by simp [Value.cells, oneC]) (by omega) (by omega) fun y43 w8 hS8 hn8 hM8 => ?_
      refine r_chk1 (hcn hS8.at_) ?_
      refine r_append T_sl_uint8' hS8 (strL_vals note ▸ hs9 _ hM8) u8s_one (by omega) (by omega) fun y49 w10 hS10 hn10 => ?_
      refine r_chk1 (hcn hS10.at_) ?_
      exact r_ret hS10.at_.nil y49 rfl (fin hS10.base (by omega)))
end Go.Proofs.YtkifkdkjljcclaaGreat
