/- PutFolder: what the program and the reference answer. -/
import Derived.Test.YtcebkinkbelcnaaGreatV5
import Derived.Test.YtcebkinkbelcnaaGreatS5
namespace Go.Proofs.YtcebkinkbelcnaaGreat
open Go.Sx Go.RowKit

def folder (ks : List (List Int)) : PB := ⟨6, ks.flatten⟩
def foldAns (B : List PB) (ks : List (List Int)) : List PB × List Int × Int := if validS B then (if 32 < ks.length then ([], zero32, 3) else putsAns B zero32 [folder ks]) else ([], zero32, 1)
theorem foldAns_small {B : List PB} {ks : List (List Int)} (h : ∀ k ∈ ks, keyOk k) : sizeBs (foldAns B ks).1 ≤ sizeBs B + 1 + 32 * ks.length := by
  unfold foldAns
  split
  · split
    · simp [sizeBs]
    · have := putsAns_size B zero32 [folder ks]
      rw [sizeBs_cons] at this
      have h0 : sizeBs ([] : List PB) = 0 := rfl
      have h1 : (folder ks).data.length = 32 * ks.length := flat_len h
      omega
  · simp [sizeBs]
theorem msize_eq (ks : List (List Int)) : msizeKeyS ks = 32 * sizeKeyS ks := rfl
theorem foldAns_size {B : List PB} {ks : List (List Int)} (h : ∀ k ∈ ks, keyOk k) : sizeBs (foldAns B ks).1 ≤ sizeBs B + 1 + 32 * sizeKeyS ks := foldAns_small h
theorem flat_ok {ks : List (List Int)} (h : ∀ k ∈ ks, keyOk k) : bytesOk ks.flatten := by
  intro b hb
  obtain ⟨k, hk, hbk⟩ := List.mem_flatten.1 hb
  exact (h k hk).2 b hbk
theorem folder_ok {ks : List (List Int)} (h : ∀ k ∈ ks, keyOk k) : (folder ks).ok := ⟨flat_ok h, by show (0 : Int) ≤ 6; decide, by show (6 : Int) < 256; decide⟩

/-- A block of one's own as a slice. -/
theorem blk_sl {w0 w : World} {ls : List Blk} (hA : At w0 w ls) (i : Nat) {b : Nat} {l : List Value} {t : TypeId} (hl : ls[i]? = some (b, l.toArray, t)) (n : Nat) (hn : l.length = n) : SlAt w ⟨some ⟨b, 0, none⟩, n, n⟩ 1 l :=
  ⟨by rw [hn, Nat.mul_one], fun j v hv => ⟨_, rfl, (ldOk_blk (n := l.length) hA i hl (by simp)).2 j v (by simpa using hv)⟩⟩

theorem c_impl_PutFolder {w : World} {r : Array Value} {x : Sl} {B : List PB} {ks : List (List Int)} (hr : RdStore w r B) (hx : RdKeyS w x ks) (hz : sizeBs B ≤ 1073741824) (hzk : sizeKeyS ks ≤ 1073741824) :
    Ret Tryz.prog n_impl_PutFolder [.agg r, .slice x.a x.n x.c] w [.agg, .agg, .int .i64] (fun x w' => ∃ L, At w w' L ∧ OwnStore x.1 (foldAns B ks).1 L ∧ RdKey w x.2.1 (foldAns B ks).2.1 ∧ x.2.2 = (foldAns B ks).2.2) := impl_PutFolder_calls _ x (by
  unfold impl_PutFolder
  have hBok := hr.ok
  obtain ⟨s, bs, rfl, hpb, hs⟩ := hr
  have hx : KsR w x ks := hx
  have hxn := hx.n
  have hl := le_sizeBs B
  have hbl : bs.length = B.length := by rw [← hpb]; simp
  refine r_new (At.refl w) fun b2 w1 h => ?_
  refine r_new h fun b4 w3 h => ?_
  refine r_new h fun b5 w4 h => ?_
  refine r_ldA h 2 rfl rfl rfl ?_
  refine r_call h (c_newShop (hs.at h) (by omega)) fun r w5 h5 _ hr => ?_
  rw [hpb] at hr
  rcases hr with ⟨hv, b, L, rfl, hL, hO⟩ | ⟨hv, rfl⟩
  · refine r_false rfl ?_
    have h : At w w5 ([(b5, Array.replicate 32 (.int .u8 0), ty_impl_Key), (b4, #[.slice none 0 0], ty_impl_Store), (b2, #[.slice s.a s.n s.c], ty_impl_Store)] ++ (L ++ [])) := by rw [List.append_nil]; exact (h.join hL).swap
    refine r_if ((x.n : Int) > 32) rfl (fun hgt => ?_) (fun hle => ?_)
    · have hans : foldAns B ks = ([], zero32, 3) := by unfold foldAns; rw [if_pos hv, if_pos (by omega)]
      rw [hans]
      refine r_pur (sh := .agg) _ run_noStore ?_
      refine r_stA h 1 rfl rfl rfl rfl (by simp [oneC]) fun w8 h => ?_
      refine r_stA h 0 rfl rfl (by simp) (by simp) (by simp [oneC]) fun w9 h => ?_
      refine r_ldA h 1 rfl rfl rfl ?_
      refine r_ldA h 0 rfl rfl (by simp) ?_
      exact r_ret h.nil (_, _, _) rfl ⟨[], h.nil, OwnStore.nil, ⟨rfl, zero32_ok⟩, rfl⟩
    · have hans : foldAns B ks = putsAns B zero32 [folder ks] := by unfold foldAns; rw [if_pos hv, if_neg (by omega)]
      rw [hans]
      refine r_bs0 T_sl_uint8' h fun y w6 hy hyn => ?_
      obtain ⟨Ly, hOy, h⟩ := hy.split
      refine r_loop (σ := Sl × Int) (fun i w' => ∃ (j : Nat) (Ls : List Blk), i.2 = j ∧ j ≤ ks.length ∧ i.1.n = 32 * j ∧ OwnS ty_uint8 1 i.1 (u8s (ks.take j).flatten) Ls ∧ At w w' ([(b5, Array.replicate 32 (.int .u8 0), ty_impl_Key), (b4, #[.slice none 0 0], ty_impl_Store), (b2, #[.slice s.a s.n s.c], ty_impl_Store)] ++ (Ls ++ (L ++ [])))) (fun i _ => (x.n - i.2).toNat) (y, 0) rfl
        ⟨0, Ly, rfl, by omega, by dsimp only; omega, by simpa [u8s] using hOy, h.rot⟩ ?_
      rintro ⟨t, i⟩ w7 ⟨j, Ls, hij, hj, htn, hOt, h⟩
      dsimp only at hij htn hOt
      subst hij
      refine r_any fun _ => ?_
      dsimp only
      refine r_if ((j : Int) < (x.n : Int)) rfl (fun hlt => ?_) (fun hge => ?_)
      · obtain ⟨k, q, hk, hkm, hq, hko, hkl⟩ := (hx.at h.nil).get (i := j) (by omega)
        refine r_ix q hq (by omega) (by omega) ?_
        refine r_ldN (u8s k).toArray (by simp only [Int.toNat_natCast]; exact hkl) ?_
        refine r_new h fun b11 w8 h => ?_
        refine r_stA h 0 rfl rfl (by simp [hko.1]) (by simp [Value.cells]) (by simpa using u8s_one) fun w9 h => ?_
        have h : At w w9 ([(b11, (u8s k).toArray, ty_impl_Key), (b5, Array.replicate 32 (.int .u8 0), ty_impl_Key), (b4, #[.slice none 0 0], ty_impl_Store), (b2, #[.slice s.a s.n s.c], ty_impl_Store)] ++ (Ls ++ (L ++ []))) := h
        refine r_slPre 32 rfl rfl (by omega) ?_
        refine r_append T_sl_uint8' (hOt.slo h.pl1) (y := ⟨some ⟨b11, 0, none⟩, 32, 32⟩) (blk_sl h 0 rfl 32 (by rw [u8s_len]; exact hko.1)) u8s_one (by dsimp only; omega) (by dsimp only; omega) fun t' w10 hS hn' => ?_
        obtain ⟨Ls', hO', h⟩ := hS.split
        have h := At.tail (h.rot)
        refine ⟨(t', ((j + 1 : Nat) : Int)), by rw [w64 (by omega) (by omega)]; rfl, ⟨j + 1, Ls', rfl, by omega, by dsimp only at hn' ⊢; omega, ?_, h⟩, by dsimp only; omega⟩
        rw [take_succ_get hk, List.flatten_append]
        simpa [u8s] using hO'
      · have hjl : j = ks.length := by omega
        subst hjl
        rw [List.take_of_length_le (Nat.le_refl _)] at hOt
        have hfl := flat_len hx.ok
        refine r_pur (sh := .agg) _ (run_mkBlob 6 t) ?_
        refine r_bs1 T_sl_Blob h (by simp [Value.cells]) (by omega) fun y2 w8 hS hyn2 => ?_
        obtain ⟨Ly2, hOy2, h⟩ := hS.split
        have h := At.rot h
        refine r_callR (c_impl_putAll (cs := [⟨6, t, ks.flatten⟩]) h.pl3 ((List.sublist_append_left Ly2 _).trans (List.sublist_append_right _ _)) hO hpb (fun x hx w' hA => (hs.ok x hx).below hA.below) (by simpa [Value.cells, BR.cells] using hOy2) (fun c hc => by
          rw [List.mem_singleton.1 hc]
          exact ⟨fun w' hA => ⟨⟨hOt.sl hA (((List.sublist_append_left Ls _).trans (List.sublist_append_right _ _)).trans (List.sublist_append_right _ _)), flat_ok hx.ok, hOt.cap⟩, by show (0 : Int) ≤ 6; decide, by show (6 : Int) < 256; decide⟩, by show ks.flatten.length ≤ _; omega⟩) (by simp) (good_of hv hBok)) ?_
        rintro v w9 ⟨r, L', rfl, h, hOS, hko⟩
        refine ⟨(_, _, _), rfl, ?_⟩
        have h : At w w9 ([(b5, Array.replicate 32 (.int .u8 0), ty_impl_Key), (b4, #[.slice none 0 0], ty_impl_Store), (b2, #[.slice s.a s.n s.c], ty_impl_Store)] ++ (L' ++ (Ly2 ++ (Ls ++ [])))) := h.rot
        refine r_stA h 1 rfl rfl hOS.sz rfl hOS.one fun w9 h => ?_
        refine r_stA h 0 rfl rfl (by simpa using hko.1) (by simp) (by simpa using u8s_one) fun w10 h => ?_
        refine r_ldA h 1 rfl rfl hOS.sz ?_
        refine r_ldA h 0 rfl rfl (by simpa using hko.1) ?_
        exact r_ret h.nil (_, _, _) rfl ⟨L', (At.right (A := [_, _, _]) h).left, hOS, ⟨rfl, hko⟩, rfl⟩
  · refine r_true rfl ?_
    have hans : foldAns B ks = ([], zero32, 1) := by unfold foldAns; rw [if_neg hv]
    rw [hans]
    refine r_pur (sh := .agg) _ run_noStore ?_
    refine r_stA h5 1 rfl rfl rfl rfl (by simp [oneC]) fun w8 h => ?_
    refine r_stA h 0 rfl rfl (by simp) (by simp [Value.cells]) (by simp [oneC]) fun w9 h => ?_
    refine r_ldA h 1 rfl rfl rfl ?_
    refine r_ldA h 0 rfl rfl (by simp) ?_
    exact r_ret h.nil (_, _, _) rfl ⟨[], h.nil, OwnStore.nil, ⟨rfl, zero32_ok⟩, rfl⟩)

theorem c_spec_PutFolder {w : World} {r : Array Value} {x : Sl} {B : List PB} {ks : List (List Int)} (hr : RdStore w r B) (hx : RdKeyS w x ks) (hz : sizeBs B ≤ 1073741824) (hzk : sizeKeyS ks ≤ 1073741824) :
    Ret Tryz.prog n_spec_PutFolder [.agg r, .slice x.a x.n x.c] w [.agg, .agg, .int .i64] (fun x w' => ∃ L, At w w' L ∧ OwnStore x.1 (foldAns B ks).1 L ∧ RdKey w x.2.1 (foldAns B ks).2.1 ∧ x.2.2 = (foldAns B ks).2.2) := spec_PutFolder_calls _ x (by
  unfold spec_PutFolder
  have hBok := hr.ok
  obtain ⟨s, bs, rfl, hpb, hs⟩ := hr
  have hx : KsR w x ks := hx
  have hxn := hx.n
  have hl := le_sizeBs B
  have hbl : bs.length = B.length := by rw [← hpb]; simp
  refine r_new (At.refl w) fun b2 w1 h => ?_
  refine r_new h fun b4 w3 h => ?_
  refine r_new h fun b5 w4 h => ?_
  refine r_call h (c_l05Open (p := ⟨b2, 0, none⟩) (fun n => ldOk_own h 2 rfl 0 rfl (by simp [Sh.emb])) (hs.at h.nil)) fun r w5 h5 _ ⟨hr2, b, hr1, hr⟩ => ?_
  rw [hpb] at hr hr2
  by_cases hv : validS B
  · obtain ⟨L, hL, hO⟩ := hr hv
    rw [hr2, decide_eq_true hv, hr1]
    refine r_false rfl ?_
    have h : At w w5 ([(b5, Array.replicate 32 (.int .u8 0), ty_impl_Key), (b4, #[.slice none 0 0], ty_impl_Store), (b2, #[.slice s.a s.n s.c], ty_impl_Store)] ++ (L ++ [])) := by rw [List.append_nil]; exact (h.join hL).swap
    refine r_if ((x.n : Int) > 32) rfl (fun hgt => ?_) (fun hle => ?_)
    · have hans : foldAns B ks = ([], zero32, 3) := by unfold foldAns; rw [if_pos hv, if_pos (by omega)]
      rw [hans]
      refine r_pur (sh := .agg) _ run_noStore ?_
      refine r_stA h 1 rfl rfl rfl rfl (by simp [oneC]) fun w8 h => ?_
      refine r_stA h 0 rfl rfl (by simp) (by simp) (by simp [oneC]) fun w9 h => ?_
      refine r_ldA h 1 rfl rfl rfl ?_
      refine r_ldA h 0 rfl rfl (by simp) ?_
      exact r_ret h.nil (_, _, _) rfl ⟨[], h.nil, OwnStore.nil, ⟨rfl, zero32_ok⟩, rfl⟩
    · have hans : foldAns B ks = madeAns (putAns B (folder ks)) := by unfold foldAns; rw [if_pos hv, if_neg (by omega), puts_one]
      rw [hans]
      refine r_bs0 T_sl_uint8' h fun y w6 hy hyn => ?_
      obtain ⟨Ly, hOy, h⟩ := hy.split
      refine r_loop (σ := Sl × Int) (fun i w' => ∃ (j : Nat) (Ls : List Blk), i.2 = j ∧ j ≤ ks.length ∧ i.1.n = 32 * j ∧ OwnS ty_uint8 1 i.1 (u8s (ks.take j).flatten) Ls ∧ At w w' (Ls ++ ([(b5, Array.replicate 32 (.int .u8 0), ty_impl_Key), (b4, #[.slice none 0 0], ty_impl_Store), (b2, #[.slice s.a s.n s.c], ty_impl_Store)] ++ (L ++ [])))) (fun i _ => (x.n - i.2).toNat) (y, 0) rfl
        ⟨0, Ly, rfl, by omega, by dsimp only; omega, by simpa [u8s] using hOy, h⟩ ?_
      rintro ⟨t, i⟩ w7 ⟨j, Ls, hij, hj, htn, hOt, h⟩
      dsimp only at hij htn hOt
      subst hij
      refine r_any fun _ => ?_
      dsimp only
      refine r_if ((j : Int) < (x.n : Int)) rfl (fun hlt => ?_) (fun hge => ?_)
      · obtain ⟨k, hk⟩ : ∃ k, ks[j]? = some k := ⟨_, List.getElem?_eq_getElem (by omega)⟩
        have hko := hx.ok k (List.mem_of_getElem? hk)
        refine r_loop (σ := Sl × Int) (fun i w' => ∃ (m : Nat) (Ls : List Blk), i.2 = m ∧ m ≤ 32 ∧ i.1.n = 32 * j + m ∧ OwnS ty_uint8 1 i.1 (u8s ((ks.take j).flatten ++ k.take m)) Ls ∧ At w w' (Ls ++ ([(b5, Array.replicate 32 (.int .u8 0), ty_impl_Key), (b4, #[.slice none 0 0], ty_impl_Store), (b2, #[.slice s.a s.n s.c], ty_impl_Store)] ++ (L ++ [])))) (fun i _ => (32 - i.2).toNat) (t, 0) rfl
          ⟨0, Ls, rfl, by omega, by dsimp only; omega, by simpa using hOt, h⟩ ?_
        rintro ⟨t, i⟩ w8 ⟨m, Ls, him, hm, htn, hOt, h⟩
        dsimp only at him htn hOt
        subst him
        refine r_any fun _ => ?_
        dsimp only
        refine r_if ((m : Int) < 32) rfl (fun hlt2 => ?_) (fun hge2 => ?_)
        · have hkm : k[m]? = some (k.getD m 0) := by simp [List.getD, List.getElem?_eq_getElem (show m < k.length by have := hko.1; omega)]
          have hcell : (ks.flatMap u8s)[32 * j + m]? = some (.int .u8 (k.getD m 0)) := by
            rw [flatU8]
            unfold u8s
            rw [List.getElem?_map, flat_get hx.ok hk (by omega), hkm]
            rfl
          obtain ⟨q, hq, hc⟩ := (hx.at h.nil).of.sl.cell _ _ hcell
          refine r_ix q hq (by omega) (by omega) ?_
          refine r_ix _ rfl (by omega) (by omega) ?_
          refine r_ldN (sh := .int .u8) (k.getD m 0) (by
            rw [Go.Deep.add_add]
            simp only [Int.toNat_natCast]
            rw [show j * 32 + m * 1 = 32 * j + m by omega]
            exact hc) ?_
          refine r_push T_sl_uint8' (hOt.slo h) (v := .int .u8 (k.getD m 0)) rfl (by omega) (by simp [Value.cells, oneC]) (by omega) (by omega) fun t' w9 h9 hn9 => ?_
          obtain ⟨Ls', hO', h⟩ := h9.split
          refine ⟨(t', ((m + 1 : Nat) : Int)), by rw [w64 (by omega) (by omega)]; rfl, ⟨m + 1, Ls', rfl, by omega, by dsimp only; omega, ?_, h⟩, by dsimp only; omega⟩
          rw [take_succ_get hkm, ← List.append_assoc]
          simpa [u8s, Value.cells] using hO'
        · have hm32 : m = 32 := by omega
          subst hm32
          refine ⟨(t, ((j + 1 : Nat) : Int)), by rw [w64 (by omega) (by omega)]; rfl, ⟨j + 1, Ls, rfl, by omega, by dsimp only; omega, ?_, h⟩, by dsimp only; omega⟩
          rw [take_succ_get hk, List.flatten_append]
          have : k.take 32 = k := List.take_of_length_le (by have := hko.1; omega)
          rw [this] at hOt
          simpa using hOt
      · have hjl : j = ks.length := by omega
        subst hjl
        rw [List.take_of_length_le (Nat.le_refl _)] at hOt
        have hfl := flat_len hx.ok
        have hg := good_of hv hBok
        have h : At w w7 ([(b5, Array.replicate 32 (.int .u8 0), ty_impl_Key), (b4, #[.slice none 0 0], ty_impl_Store), (b2, #[.slice s.a s.n s.c], ty_impl_Store)] ++ (Ls ++ (L ++ []))) := h.rot
        have hcok : ∀ {w' : World} {M N : List Blk}, At w w' (M ++ (Ls ++ N)) → (⟨6, t, ks.flatten⟩ : BR).Ok w' := fun hA => ⟨⟨hOt.sl hA ((List.sublist_append_left Ls _).trans (List.sublist_append_right _ _)), flat_ok hx.ok, hOt.cap⟩, by show (0 : Int) ≤ 6; decide, by show (6 : Int) < 256; decide⟩
        refine r_pur (sh := .agg) _ (run_mkBlob 6 t) ?_
        refine r_callR (c_spec_put (c := ⟨6, t, ks.flatten⟩) h.pl2 hO hpb (fun x hx w' hA => (hs.ok x hx).below hA.below) (fun w' hA => hcok hA) (by show ks.flatten.length ≤ _; omega) hg (fun x hx => by have := hv.2.1 x hx; omega)) ?_
        rintro v w8 ⟨bs', L', rfl, h, hO', hpb', hbs'⟩
        refine ⟨(_, _), rfl, ?_⟩
        have hk' : keyOk (putAns B (⟨6, t, ks.flatten⟩ : BR).pb).2.1 := putAns_key B (folder ks) (folder ks).key_ok
        have h := h.ps2
        refine r_new h fun b12 w9 h => ?_
        refine r_stA h 0 rfl rfl (by simpa using hk'.1) (by simp [Value.cells]) (by simpa using u8s_one) fun w10 h => ?_
        refine r_ldA h 0 rfl rfl (by simpa using hk'.1) ?_
        have h : At w w10 ([(b12, (u8s (putAns B (folder ks)).2.1).toArray, ty_impl_Key), (b5, Array.replicate 32 (.int .u8 0), ty_impl_Key), (b4, #[.slice none 0 0], ty_impl_Store), (b2, #[.slice s.a s.n s.c], ty_impl_Store)] ++ (Ls ++ (L' ++ []))) := h
        refine r_callR (c_l05Made (k := (putAns B (folder ks)).2.1) h.pl2 hO' hpb' (fun x hx w' hA => by
          rcases hbs' x hx with rfl | hx
          · exact hcok hA
          · exact (hs.ok x hx).below hA.below) hk' (putAns_good (c := folder ks) hg ⟨by show ks.flatten.length ≤ _; omega, folder_ok hx.ok⟩)) ?_
        rintro v w11 ⟨r, L2, rfl, h, hOS, hko⟩
        refine ⟨(_, _, _), rfl, ?_⟩
        have h := At.tail h.ps2
        have e3 : madeAns ((putAns B (folder ks)).1, (putAns B (folder ks)).2.1, (putAns B (folder ks)).2.2) = madeAns (putAns B (folder ks)) := rfl
        have e4 : (⟨6, t, ks.flatten⟩ : BR).pb = folder ks := rfl
        rw [e4] at hOS hko ⊢
        rw [e3] at hOS hko
        rw [e3]
        refine r_stA h 1 rfl rfl hOS.sz rfl hOS.one fun w9 h => ?_
        refine r_stA h 0 rfl rfl (by simpa using hko.1) (by simp) (by simpa using u8s_one) fun w10 h => ?_
        refine r_ldA h 1 rfl rfl hOS.sz ?_
        refine r_ldA h 0 rfl rfl (by simpa using hko.1) ?_
        have h : At w w10 (_ :: _ :: _ :: (Ls ++ (L2 ++ []))) := h
        exact r_ret h.nil (_, _, _) rfl ⟨L2, (At.right (A := [_, _, _]) h).right.left, hOS, ⟨rfl, hko⟩, rfl⟩
  · rw [hr2, decide_eq_false hv]
    refine r_true rfl ?_
    have hans : foldAns B ks = ([], zero32, 1) := by unfold foldAns; rw [if_neg hv]
    rw [hans]
    refine r_pur (sh := .agg) _ run_noStore ?_
    refine r_stA h5 1 rfl rfl rfl rfl (by simp [oneC]) fun w8 h => ?_
    refine r_stA h 0 rfl rfl (by simp) (by simp [Value.cells]) (by simp [oneC]) fun w9 h => ?_
    refine r_ldA h 1 rfl rfl rfl ?_
    refine r_ldA h 0 rfl rfl (by simp) ?_
    exact r_ret h.nil (_, _, _) rfl ⟨[], h.nil, OwnStore.nil, ⟨rfl, zero32_ok⟩, rfl⟩)
end Go.Proofs.YtcebkinkbelcnaaGreat
