/- PutFolder: what the program and the reference answer. The laws' own source of test data: bytes picked, keys. More kinds of values of which laws speak: slices of entries. More kinds of values of which laws speak: slices of slices of entries. More kinds of values of which laws speak: slices of leases. What a blob links to: both sides. -/
import Derived.ChangeMaps5
import Derived.Test.YtkifkdkjljcclaaGreatPkLTor17
import Derived.Test.YtkifkdkjljcclaaGreatPkLTor19
import Derived.Test.YtkifkdkjljcclaaGreatPkLTor18
namespace Go.Proofs.YtkifkdkjljcclaaGreat
open Go.Sx Go.RowKit

def folder (ks : List (List Int)) : PB := ⟨6, ks.flatten⟩
def foldAns (B : List PB) (ks : List (List Int)) : List PB × List Int × Int := if validS B then (if 32 < ks.length then ([], zero32, 3) else putsAns B zero32 [folder ks]) else ([], zero32, 1)
theorem flat_ok {ks : List (List Int)} (h : ∀ k ∈ ks, keyOk k) : bytesOk ks.flatten := by
  intro b hb
  obtain ⟨k, hk, hbk⟩ := List.mem_flatten.1 hb
  exact (h k hk).2 b hbk
theorem folder_ok {ks : List (List Int)} (h : ∀ k ∈ ks, keyOk k) : (folder ks).ok := ⟨flat_ok h, by show (0 : Int) ≤ 6; decide, by show (6 : Int) < 256; decide⟩

theorem c_spec_PutFolder {w : World} {r : Array Value} {x : Sl} {B : List PB} {ks : List (List Int)} (hr : RdStore w r B) (hx : RdKeyS w x ks) (hz : sizeBs B ≤ 1073741824) (hzk : sizeKeyS ks ≤ 1073741824) :
    Ret Tryz.prog n_spec_PutFolder [.agg r, .slice x.a x.n x.c] w [.agg, .agg, .int .i64] (fun x w' => ∃ L, At w w' L ∧ OwnStore x.1 (foldAns B ks).1 L ∧ RdKey w x.2.1 (foldAns B ks).2.1 ∧ x.2.2 = (foldAns B ks).2.2) := spec_PutFolder_calls _ x (by
  unfold spec_PutFolder
  have hBok := hr.ok
  obtain ⟨s, bs, rfl, hpb, hs⟩ := hr
  have hx : KsR w x ks := hx
  have hxn := hx.n
  have hl := le_sizeBs B
  have hbl : bs.length = B.length := by rw [← hpb]; simp
  refine r_new (At.refl w) fun b2 w1 h => ?_
  refine r_new h fun b4 w3 h => ?_
  refine r_new h fun b5 w4 h => ?_
  refine r_call h (c_l05Open (p := ⟨b2, 0, none⟩) (fun n => ldOk_own h 2 rfl 0 rfl (by simp [Sh.emb])) (hs.at h.nil)) fun r w5 h5 _ ⟨hr2, b, hr1, hr⟩ => ?_
  rw [hpb] at hr hr2
  by_cases hv : validS B
  · obtain ⟨L, hL, hO⟩ := hr hv
    rw [hr2, decide_eq_true hv, hr1]
    refine r_false rfl ?_
    have h : At w w5 ([(b5, Array.replicate 32 (.int .u8 0), ty_impl_Key), (b4, #[.slice none 0 0], ty_impl_Store), (b2, #[.slice s.a s.n s.c], ty_impl_Store)] ++ (L ++ [])) := by rw [List.append_nil]; exact (h.join hL).swap
    refine r_if ((x.n : Int) > 32) rfl (fun hgt => ?_) (fun hle => ?_)
    · have hans : foldAns B ks = ([], zero32, 3) := by unfold foldAns; rw [if_pos hv, if_pos (by omega)]
      rw [hans]
      refine r_pur (sh := .agg) _ run_noStore ?_
      refine r_stA h 1 rfl rfl rfl rfl (by simp [oneC]) fun w8 h => ?_
      refine r_stA h 0 rfl rfl (by simp) (by simp) (by simp [oneC]) fun w9 h => ?_
      refine r_ldA h 1 rfl rfl rfl ?_
      refine r_ldA h 0 rfl rfl (by simp) ?_
      exact r_ret h.nil (_, _, _) rfl ⟨[], h.nil, OwnStore.nil, ⟨rfl, zero32_ok⟩, rfl⟩
    · have hans : foldAns B ks = madeAns (putAns B (folder ks)) := by unfold foldAns; rw [if_pos hv, if_neg (by omega), puts_one]
      rw [hans]
      refine r_bs0 T_sl_uint8' h fun y w6 hy hyn => ?_
      obtain ⟨Ly, hOy, h⟩ := hy.split
      refine r_loop (σ := Sl × Int) (fun i w' => ∃ (j : Nat) (Ls : List Blk), i.2 = j ∧ j ≤ ks.length ∧ i.1.n = 32 * j ∧ OwnS ty_uint8 1 i.1 (u8s (ks.take j).flatten) Ls ∧ At w w' (Ls ++ ([(b5, Array.replicate 32 (.int .u8 0), ty_impl_Key), (b4, #[.slice none 0 0], ty_impl_Store), (b2, #[.slice s.a s.n s.c], ty_impl_Store)] ++ (L ++ [])))) (fun i _ => (x.n - i.2).toNat) (y, 0) rfl
        ⟨0, Ly, rfl, by omega, by dsimp only; omega, by simpa [u8s] using hOy, h⟩ ?_
      rintro ⟨t, i⟩ w7 ⟨j, Ls, hij, hj, htn, hOt, h⟩
      dsimp only at hij htn hOt
      subst hij
      refine r_any fun _ => ?_
      dsimp only
      refine r_if ((j : Int) < (x.n : Int)) rfl (fun hlt => ?_) (fun hge => ?_)
      · obtain ⟨k, hk⟩ : ∃ k, ks[j]? = some k := ⟨_, List.getElem?_eq_getElem (by omega)⟩
        have hko := hx.ok k (List.mem_of_getElem? hk)
        refine r_loop (σ := Sl × Int) (fun i w' => ∃ (m : Nat) (Ls : List Blk), i.2 = m ∧ m ≤ 32 ∧ i.1.n = 32 * j + m ∧ OwnS ty_uint8 1 i.1 (u8s ((ks.take j).flatten ++ k.take m)) Ls ∧ At w w' (Ls ++ ([(b5, Array.replicate 32 (.int .u8 0), ty_impl_Key), (b4, #[.slice none 0 0], ty_impl_Store), (b2, #[.slice s.a s.n s.c], ty_impl_Store)] ++ (L ++ [])))) (fun i _ => (32 - i.2).toNat) (t, 0) rfl
          ⟨0, Ls, rfl, by omega, by dsimp only; omega, by simpa using hOt, h⟩ ?_
        rintro ⟨t, i⟩ w8 ⟨m, Ls, him, hm, htn, hOt, h⟩
        dsimp only at him htn hOt
        subst him
        refine r_any fun _ => ?_
        dsimp only
        refine r_if ((m : Int) < 32) rfl (fun hlt2 => ?_) (fun hge2 => ?_)
        · have hkm : k[m]? = some (k.getD m 0) := by simp [List.getD, List.getElem?_eq_getElem (show m < k.length by have := hko.1; omega)]
          have hcell : (ks.flatMap u8s)[32 * j + m]? = some (.int .u8 (k.getD m 0)) := by
            rw [flatU8]
            unfold u8s
            rw [List.getElem?_map, flat_get hx.ok hk (by omega), hkm]
            rfl
          obtain ⟨q, hq, hc⟩ := (hx.at h.nil).of.sl.cell _ _ hcell
          refine r_ix q hq (by omega) (by omega) ?_
          refine r_ix _ rfl (by omega) (by omega) ?_
          refine r_ldN (sh := .int .u8) (k.getD m 0) (by
            rw [Go.Deep.add_add]
            simp only [Int.toNat_natCast]
            rw [show j * 32 + m * 1 = 32 * j + m by omega]
            exact hc) ?_
          refine r_push T_sl_uint8' (hOt.slo h) (v := .int .u8 (k.getD m 0)) rfl (by omega) (by simp [Value.cells, oneC]) (by omega) (by omega) fun t' w9 h9 hn9 => ?_
          obtain ⟨Ls', hO', h⟩ := h9.split
          refine ⟨(t', ((m + 1 : Nat) : Int)), by rw [w64 (by omega) (by omega)]; rfl, ⟨m + 1, Ls', rfl, by omega, by dsimp only; omega, ?_, h⟩, by dsimp only; omega⟩
          rw [take_succ_get hkm, ← List.append_assoc]
          simpa [u8s, Value.cells] using hO'
        · have hm32 : m = 32 := by omega
          subst hm32
          refine ⟨(t, ((j + 1 : Nat) : Int)), by rw [w64 (by omega) (by omega)]; rfl, ⟨j + 1, Ls, rfl, by omega, by dsimp only; omega, ?_, h⟩, by dsimp only; omega⟩
          rw [take_succ_get hk, List.flatten_append]
          have : k.take 32 = k := List.take_of_length_le (by have := hko.1; omega)
          rw [this] at hOt
          simpa using hOt
      · have hjl : j = ks.length := by omega
        subst hjl
        rw [List.take_of_length_le (Nat.le_refl _)] at hOt
        have hfl := flat_len hx.ok
        have hg := good_of hv hBok
        have h : At w w7 ([(b5, Array.replicate 32 (.int .u8 0), ty_impl_Key), (b4, #[.slice none 0 0], ty_impl_Store), (b2, #[.slice s.a s.n s.c], ty_impl_Store)] ++ (Ls ++ (L ++ []))) := h.rot
        have hcok : ∀ {w' : World} {M N : List Blk}, At w w' (M ++ (Ls ++ N)) → (⟨6, t, ks.flatten⟩ : BR).Ok w' := fun hA => ⟨⟨hOt.sl hA ((List.sublist_append_left Ls _).trans (List.sublist_append_right _ _)), flat_ok hx.ok, hOt.cap⟩, by show (0 : Int) ≤ 6; decide, by show (6 : Int) < 256; decide⟩
        refine r_pur (sh := .agg) _ (run_mkBlob 6 t) ?_
        refine r_callR (c_spec_put (c := ⟨6, t, ks.flatten⟩) h.pl2 hO hpb (fun x hx w' hA => (hs.ok x hx).below hA.below) (fun w' hA => hcok hA) (by show ks.flatten.length ≤ _; omega) hg (fun x hx => by have := hv.2.1 x hx; omega)) ?_
        rintro v w8 ⟨bs', L', rfl, h, hO', hpb', hbs'⟩
        refine ⟨(_, _), rfl, ?_⟩
        have hk' : keyOk (putAns B (⟨6, t, ks.flatten⟩ : BR).pb).2.1 := putAns_key B (folder ks) (folder ks).key_ok
        have h := h.ps2
        refine r_new h fun b12 w9 h => ?_
        refine r_stA h 0 rfl rfl (by simpa using hk'.1) (by simp [Value.cells]) (by simpa using u8s_one) fun w10 h => ?_
        refine r_ldA h 0 rfl rfl (by simpa using hk'.1) ?_
        have h : At w w10 ([(b12, (u8s (putAns B (folder ks)).2.1).toArray, ty_impl_Key), (b5, Array.replicate 32 (.int .u8 0), ty_impl_Key), (b4, #[.slice none 0 0], ty_impl_Store), (b2, #[.slice s.a s.n s.c], ty_impl_Store)] ++ (Ls ++ (L' ++ []))) := h
        refine r_callR (c_l05Made (k := (putAns B (folder ks)).2.1) h.pl2 hO' hpb' (fun x hx w' hA => by
          rcases hbs' x hx with rfl | hx
          · exact hcok hA
          · exact (hs.ok x hx).below hA.below) hk' (putAns_good (c := folder ks) hg ⟨by show ks.flatten.length ≤ _; omega, folder_ok hx.ok⟩)) ?_
        rintro v w11 ⟨r, L2, rfl, h, hOS, hko⟩
        refine ⟨(_, _, _), rfl, ?_⟩
        have h := At.tail h.ps2
        have e3 : madeAns ((putAns B (folder ks)).1, (putAns B (folder ks)).2.1, (putAns B (folder ks)).2.2) = madeAns (putAns B (folder ks)) := rfl
        have e4 : (⟨6, t, ks.flatten⟩ : BR).pb = folder ks := rfl
        rw [e4] at hOS hko ⊢
        rw [e3] at hOS hko
        rw [e3]
        refine r_stA h 1 rfl rfl hOS.sz rfl hOS.one fun w9 h => ?_
        refine r_stA h 0 rfl rfl (by simpa using hko.1) (by simp) (by simpa using u8s_one) fun w10 h => ?_
        refine r_ldA h 1 rfl rfl hOS.sz ?_
        refine r_ldA h 0 rfl rfl (by simpa using hko.1) ?_
        have h : At w w10 (_ :: _ :: _ :: (Ls ++ (L2 ++ []))) := h
        exact r_ret h.nil (_, _, _) rfl ⟨L2, (At.right (A := [_, _, _]) h).right.left, hOS, ⟨rfl, hko⟩, rfl⟩
  · rw [hr2, decide_eq_false hv]
    refine r_true rfl ?_
    have hans : foldAns B ks = ([], zero32, 1) := by unfold foldAns; rw [if_neg hv]
    rw [hans]
    refine r_pur (sh := .agg) _ run_noStore ?_
    refine r_stA h5 1 rfl rfl rfl rfl (by simp [oneC]) fun w8 h => ?_
    refine r_stA h 0 rfl rfl (by simp) (by simp [Value.cells]) (by simp [oneC]) fun w9 h => ?_
    refine r_ldA h 1 rfl rfl rfl ?_
    refine r_ldA h 0 rfl rfl (by simp) ?_
    exact r_ret h.nil (_, _, _) rfl ⟨[], h.nil, OwnStore.nil, ⟨rfl, zero32_ok⟩, rfl⟩)
end Go.Proofs.YtkifkdkjljcclaaGreat

namespace Go.Proofs.YtkifkdkjljcclaaGreat
open Go.Sx Go.RowKit

theorem run_rem {P : Program} {t : TypeId} {x y : Operand} {k : IntKind} {a b : Int} (hb : b ≠ 0) (w : World) : (eqB .rem t x y (.int k a) (.int k b)).run P w = .ok (.int k (a.tmod b)) w := by
  simp [eqB, eqGuard, binOp, Op.intDiv, hb]

theorem and255 (x : Int) : 0 ≤ bitsI .and .u64 x 255 ∧ bitsI .and .u64 x 255 ≤ 255 := by
  have h : (BitVec.ofInt (IntKind.bits .u64) x &&& BitVec.ofInt (IntKind.bits .u64) 255).toNat ≤ 255 := by
    rw [BitVec.toNat_and]
    exact Nat.le_trans Nat.and_le_right (by decide)
  have e : bitsI .and .u64 x 255 = IntKind.wrap .u64 ((BitVec.ofInt (IntKind.bits .u64) x &&& BitVec.ofInt (IntKind.bits .u64) 255).toNat : Int) := rfl
  rw [e]
  generalize (BitVec.ofInt (IntKind.bits .u64) x &&& BitVec.ofInt (IntKind.bits .u64) 255).toNat = n at h
  rw [wrapu64 (by omega) (by omega)]
  omega

abbrev srcC (sd : Sl) (a st : Int) : Array Value := #[.slice sd.a sd.n sd.c, .int .i64 a, .int .u64 st]
def Src (w0 : World) (b : Nat) (sd : Sl) (rest : List Blk) (A : Int) (w : World) : Prop := ∃ a st, 0 ≤ a ∧ a ≤ A ∧ At w0 w ((b, srcC sd a st, ty_spec_l00Src) :: rest)
theorem Src.mono {w0 w : World} {b : Nat} {sd : Sl} {rest : List Blk} {A A' : Int} (h : Src w0 b sd rest A w) (hA : A ≤ A') : Src w0 b sd rest A' w := let ⟨a, st, h0, h1, h2⟩ := h; ⟨a, st, h0, Int.le_trans h1 hA, h2⟩

theorem c_next {w0 w : World} {b : Nat} {sd : Sl} {d : List Int} {rest : List Blk} {A : Int} (hS : Src w0 b sd rest A w) (hd : SlAt w0 sd 1 (u8s d)) (hb : bytesOk d) (hA : A ≤ 1099511627776) :
    Calls Tryz.prog n_ptr_spec_l00Src_next #[.pointer (some ⟨b, 0, none⟩)] w fun e w' => ∃ v, e = .returned v ∧ ∃ r, v = .int .i64 r ∧ 0 ≤ r ∧ r ≤ 255 ∧ Src w0 b sd rest (A + 1) w' := ptr_spec_l00Src_next_calls _ (by
  obtain ⟨a, st, h0, h1, h⟩ := hS
  have hn := sl_len hd
  unfold ptr_spec_l00Src_next
  refine r_join (σ := Int) (fun s w' => (0 ≤ s ∧ s ≤ 255) ∧ At w0 w' ((b, srcC sd a st, ty_spec_l00Src) :: rest)) (fun s w1 hs => ?_) ?_
  · obtain ⟨⟨hs0, hs1⟩, h⟩ := hs
    refine r_any fun _ => ?_
    refine r_ld h 0 (o := 1) rfl (add_lit _ _ _) a (by simp [Sh.emb]) rfl ?_
    rw [w64 (n := a + 1) (by omega) (by omega)]
    refine r_st h 0 (o := 1) rfl (add_lit _ _ _) (by simp) rfl fun w2 h => ?_
    refine r_ld h 0 (o := 2) rfl (add_lit _ _ _) st (by simp [Sh.emb]) rfl ?_
    refine r_st h 0 (o := 2) rfl (add_lit _ _ _) (by simp) rfl fun w3 h => ?_
    generalize IntKind.wrap .u64 ((IntKind.wrap .u64 ((IntKind.wrap .u64 (st * 6364136223846793005)) + (IntKind.wrap .u64 s))) + 1442695040888963407) = st' at h
    have h : At w0 w3 ((b, srcC sd (a + 1) st', ty_spec_l00Src) :: rest) := h
    refine r_draw h fun w4 h => ?_
    refine r_ld h 0 (o := 1) rfl (add_lit _ _ _) (a + 1) (by simp [Sh.emb]) rfl ?_
    refine r_ld h 0 (o := 0) rfl (add_lit _ _ _) sd (by simp [Sh.emb]) rfl ?_
    refine r_if (a + 1 ≤ (sd.n : Int)) rfl (fun hle => ?_) (fun hgt => ?_)
    · exact r_retR ⟨s, rfl, hs0, hs1, a + 1, st', by omega, by omega, h⟩
    · refine r_ld h 0 (o := 2) rfl (add_lit _ _ _) st' (by simp [Sh.emb]) rfl ?_
      have h255 := and255 (Int.fdiv st' (2 ^ 40))
      rw [w64 (by omega) (by omega)]
      exact r_retR ⟨_, rfl, h255.1, h255.2, a + 1, st', by omega, by omega, h⟩
  · refine r_draw h fun w1 h => ?_
    refine r_ld h 0 (o := 1) rfl (add_lit _ _ _) a (by simp [Sh.emb]) rfl ?_
    refine r_ld h 0 (o := 0) rfl (add_lit _ _ _) sd (by simp [Sh.emb]) rfl ?_
    refine r_if (a < (sd.n : Int)) rfl (fun hlt => ?_) (fun hge => ?_)
    · refine r_draw h fun w2 h => ?_
      refine r_ld h 0 (o := 0) rfl (add_lit _ _ _) sd (by simp [Sh.emb]) rfl ?_
      refine r_ld h 0 (o := 1) rfl (add_lit _ _ _) a (by simp [Sh.emb]) rfl ?_
      obtain ⟨p, hp, hc⟩ := sl_cell hd (i := a.toNat) (by omega)
      refine r_ix p hp (by omega) (by omega) ?_
      refine r_ldO h (d.getD a.toNat 0) hc (by simp) ?_
      have hbd := hb.get a.toNat
      rw [w64 (by omega) (by omega)]
      exact ⟨_, rfl, ⟨hbd.1, by omega⟩, h⟩
    · exact ⟨0, rfl, ⟨by omega, by omega⟩, h⟩)

theorem c_pick {w0 w : World} {b : Nat} {sd : Sl} {d : List Int} {rest : List Blk} {A : Int} (N : Int) (hS : Src w0 b sd rest A w) (hd : SlAt w0 sd 1 (u8s d)) (hb : bytesOk d) (hA : A ≤ 1099511627774) (hN : 1 ≤ N) (hN2 : N ≤ 1048576) :
    Calls Tryz.prog n_ptr_spec_l00Src_pick #[.pointer (some ⟨b, 0, none⟩), .int .i64 N] w fun e w' => ∃ v, e = .returned v ∧ ∃ r, v = .int .i64 r ∧ 0 ≤ r ∧ r < N ∧ Src w0 b sd rest (A + 2) w' := ptr_spec_l00Src_pick_calls _ _ (by
  unfold ptr_spec_l00Src_pick
  have htm : ∀ x : Int, 0 ≤ x → x ≤ 16777216 → 1 < N → Int.tmod x N = x % N ∧ 0 ≤ x % N ∧ x % N < N := fun x h0 h1 h2 => by
    have e1 := Int.emod_nonneg x (show N ≠ 0 by omega)
    have e2 := Int.emod_lt_of_pos x (show 0 < N by omega)
    rw [Int.tmod_eq_emod_of_nonneg h0]
    exact ⟨rfl, e1, e2⟩
  refine r_if (N ≤ 1) rfl (fun hle => r_retR ⟨0, rfl, by omega, by omega, hS.mono (by omega)⟩) (fun hgt => ?_)
  refine r_callR (c_next hS hd hb (by omega)) ?_
  rintro v w1 ⟨r, rfl, hr0, hr1, hS⟩
  refine ⟨r, rfl, ?_⟩
  refine r_if (N > 200) rfl (fun hbig => ?_) (fun hsm => ?_)
  · refine r_callR (c_next hS hd hb (by omega)) ?_
    rintro v w2 ⟨r2, rfl, hs0, hs1, hS⟩
    refine ⟨r2, rfl, ?_⟩
    rw [w64 (n := r * 256) (by omega) (by omega), w64 (n := r * 256 + r2) (by omega) (by omega)]
    refine r_pur _ (fun w' => run_rem (by omega) w') ?_
    obtain ⟨e1, e2, e3⟩ := htm (r * 256 + r2) (by omega) (by omega) (by omega)
    rw [e1]
    exact r_retR ⟨_, rfl, e2, e3, hS.mono (by omega)⟩
  · refine r_pur _ (fun w' => run_rem (by omega) w') ?_
    obtain ⟨e1, e2, e3⟩ := htm r (by omega) (by omega) (by omega)
    rw [e1]
    exact r_retR ⟨_, rfl, e2, e3, hS.mono (by omega)⟩)

theorem c_one {w0 w : World} {b : Nat} {sd : Sl} {d : List Int} {rest : List Blk} {A : Int} (N : Int) (hS : Src w0 b sd rest A w) (hd : SlAt w0 sd 1 (u8s d)) (hb : bytesOk d) (hA : A ≤ 1099511627774) (hN : 1 ≤ N) (hN2 : N ≤ 1048576) :
    Calls Tryz.prog n_ptr_spec_l00Src_one #[.pointer (some ⟨b, 0, none⟩), .int .i64 N] w fun e w' => ∃ v, e = .returned v ∧ ∃ r, v = .bool r ∧ Src w0 b sd rest (A + 2) w' := ptr_spec_l00Src_one_calls _ _ (by
  unfold ptr_spec_l00Src_one
  refine r_callR (c_pick N hS hd hb hA hN hN2) ?_
  rintro v w1 ⟨r, rfl, hr0, hr1, hS⟩
  exact ⟨r, rfl, r_retR ⟨_, rfl, hS⟩⟩)

def SrcO (w0 : World) (b : Nat) (sd : Sl) (rest : List Blk) (A : Int) (e z : Nat) (s : Sl) (xs : List Value) (w : World) : Prop := ∃ a st, 0 ≤ a ∧ a ≤ A ∧ SlO w0 w ((b, srcC sd a st, ty_spec_l00Src) :: rest) e z s xs
theorem SrcO.mono {w0 w : World} {b : Nat} {sd : Sl} {rest : List Blk} {A A' : Int} {e z : Nat} {s : Sl} {xs : List Value} (h : SrcO w0 b sd rest A e z s xs w) (hA : A ≤ A') : SrcO w0 b sd rest A' e z s xs w := let ⟨a, st, h0, h1, h2⟩ := h; ⟨a, st, h0, Int.le_trans h1 hA, h2⟩

theorem bytesOk.set {l : List Int} (h : bytesOk l) (i : Nat) {v : Int} (hv : 0 ≤ v ∧ v < 256) : bytesOk (l.set i v) := fun b hb => by
  rcases List.mem_or_eq_of_mem_set hb with h1 | h1
  · exact h b h1
  · rw [h1]; exact hv

theorem run_src (s : Sl) (w : World) : (Instr.build ty_spec_l00Src #[(0, (.slice s.a s.n s.c))]).run Tryz.prog w = .ok (.agg (srcC s 0 0)) w := by kernel_rfl

theorem c_l00From (sd : Sl) (w : World) : Calls Tryz.prog n_spec_l00From #[.slice sd.a sd.n sd.c] w fun e w' => ∃ v, e = .returned v ∧ ∃ b, v = .pointer (some ⟨b, 0, none⟩) ∧ Src w b sd [] 0 w' := spec_l00From_calls _ (by
  unfold spec_l00From
  refine r_pur _ (fun w' => run_src sd w') ?_
  refine r_new (At.refl w) fun b w1 h => ?_
  exact r_retR ⟨b, rfl, 0, 0, by omega, by omega, h⟩)

end Go.Proofs.YtkifkdkjljcclaaGreat

namespace Go.Proofs.YtkifkdkjljcclaaGreat
open Go.Sx Go.RowKit
open Go.ChangeShapes Go.WideShapes Go.ChangeAt Go.Deep

abbrev PE := ByteArray × ByteArray
def entC (l : PE) : List Value := [.string l.1, .string l.2]
theorem entC_len (l : PE) : (entC l).length = 2 := rfl
theorem entC_one (l : PE) : ∀ v ∈ entC l, oneC v = true := by
  intro v hv
  unfold entC at hv
  simp only [List.mem_cons, List.not_mem_nil, or_false] at hv
  rcases hv with rfl | rfl <;> rfl
abbrev EsR (w : World) (s : Sl) (es : List PE) : Prop := SlOf w s 2 entC es
theorem EsR.get {w : World} {s : Sl} {es : List PE} (h : EsR w s es) {i : Nat} (hi : i < es.length) : ∃ l p, es[i]? = some l ∧ l ∈ es ∧ s.a = some p ∧ ldOk w 2 (p.add (i * 2)) .agg (entC l).toArray ∧ ldOk w 1 ((p.add (i * 2)).add 0) .str l.1 ∧ ldOk w 1 ((p.add (i * 2)).add 1) .str l.2 := by
  have hk : es[i]? = some es[i] := List.getElem?_eq_getElem hi
  obtain ⟨p, hp, _⟩ := h.cell hk
  have ha := h.agg hk hp
  exact ⟨_, p, hk, List.getElem_mem hi, hp, ha, ha.2 0 _ rfl, ha.2 1 _ rfl⟩

def RdEntryS (w : World) (s : Sl) (es : List PE) : Prop := EsR w s es
theorem RdEntryS.at {w w' : World} {bl : List Blk} {s : Sl} {es : List PE} (h : RdEntryS w s es) (hA : At w w' bl) : RdEntryS w' s es := h.below hA.below
def OwnEntryS (s : Sl) (es : List PE) (L : List Blk) : Prop := OwnS ty_impl_Entry 2 s (es.flatMap entC) L
theorem OwnEntryS.none : OwnEntryS ⟨none, 0, 0⟩ [] [] := OwnS.nil _ _
theorem OwnEntryS.rd {w0 w : World} {s : Sl} {es : List PE} {L bl : List Blk} (h : OwnEntryS s es L) (hA : At w0 w (L ++ bl)) : RdEntryS w s es := OwnS.of h hA (List.sublist_append_left _ _) (fun l _ => entC_len l) (by omega)
theorem OwnEntryS.n {s : Sl} {es : List PE} {L : List Blk} (h : OwnEntryS s es L) : s.n = es.length := by have := h.1; rw [flatMap_length (z := 2) (fun l _ => entC_len l)] at this; omega
def RawEntryS (w : World) (s : Sl) (es : List PE) : Prop := EsR w s es ∧ s.c ≤ maxLen ∧ ∀ e ∈ es, e.1.size ≤ maxLen ∧ e.2.size ≤ maxLen
theorem RawEntryS.rd {w : World} {s : Sl} {es : List PE} (h : RawEntryS w s es) : RdEntryS w s es := h.1
def sumE (es : List PE) : Nat := (es.map fun e => e.1.size + e.2.size).sum
def sizeEntryS (es : List PE) : Nat := es.length + sumE es
theorem T_sl_Entry : SlT Tryz.prog ty_sl_impl_Entry ty_impl_Entry 2 32 := slT_of (by kernel_rfl)

end Go.Proofs.YtkifkdkjljcclaaGreat

namespace Go.Proofs.YtkifkdkjljcclaaGreat
open Go.Sx Go.RowKit
open Go.ChangeShapes Go.WideShapes Go.ChangeAt Go.Deep

structure ER where
  d : Sl
  es : List PE
instance : Inhabited ER := ⟨⟨⟨none, 0, 0⟩, []⟩⟩
def ER.cells (r : ER) : List Value := [.slice r.d.a r.d.n r.d.c]
theorem ercells_len (r : ER) : r.cells.length = 1 := rfl
structure EssR (w : World) (s : Sl) (rs : List ER) : Prop where
  of : SlOf w s 1 ER.cells rs
  ok : ∀ r ∈ rs, EsR w r.d r.es
theorem EssR.below {w w' : World} {s : Sl} {rs : List ER} (h : EssR w s rs) (hb : Below w.heap.size w w') : EssR w' s rs := ⟨h.of.below hb, fun r hr => SlOf.below (h.ok r hr) hb⟩
theorem EssR.at {w w' : World} {ls : List Blk} {s : Sl} {rs : List ER} (h : EssR w s rs) (hA : At w w' ls) : EssR w' s rs := h.below hA.below
theorem EssR.n {w : World} {s : Sl} {rs : List ER} (h : EssR w s rs) : s.n = rs.length := h.of.n
theorem EssR.get {w : World} {s : Sl} {rs : List ER} (h : EssR w s rs) {i : Nat} (hi : i < rs.length) : ∃ r p, rs[i]? = some r ∧ r ∈ rs ∧ s.a = some p ∧ EsR w r.d r.es ∧ ldOk w 1 (p.add (i * 1)) .slice r.d := by
  have hk : rs[i]? = some rs[i] := List.getElem?_eq_getElem hi
  obtain ⟨p, hp, _⟩ := h.of.cell hk
  refine ⟨_, p, hk, List.getElem_mem hi, hp, h.ok _ (List.getElem_mem hi), ?_⟩
  have := h.of.fld hk hp (n := 1) 0 (sh := .slice) (y := rs[i].d) rfl (by simp [Sh.emb])
  rwa [Nat.add_zero] at this

inductive OwnED : List ER → List Blk → Prop where
  | nil : OwnED [] []
  | cons {b : ER} {r : List ER} {L1 L2 : List Blk} : OwnEntryS b.d b.es L1 → OwnED r L2 → OwnED (b :: r) (L1 ++ L2)
theorem OwnED.append {r t : List ER} {L M : List Blk} (h : OwnED r L) (k : OwnED t M) : OwnED (r ++ t) (L ++ M) := by
  induction h with
  | nil => exact k
  | cons h1 _ ih => rw [List.append_assoc]; exact .cons h1 ih
theorem OwnED.snoc {r : List ER} {b : ER} {L M : List Blk} (h : OwnED r L) (k : OwnEntryS b.d b.es M) : OwnED (r ++ [b]) (L ++ M) := by
  have := h.append (OwnED.cons k .nil)
  simpa using this
theorem OwnED.ok {w0 w : World} {ls L : List Blk} {rs : List ER} (h : OwnED rs L) (hA : At w0 w ls) (hs : L.Sublist ls) : ∀ r ∈ rs, EsR w r.d r.es := by
  induction h with
  | nil => simp
  | @cons b r L1 L2 h1 h2 ih =>
    intro x hx
    cases hx with
    | head => exact OwnS.of h1 hA ((List.sublist_append_left _ _).trans hs) (fun l _ => entC_len l) (by omega)
    | tail _ hx => exact ih ((List.sublist_append_right _ _).trans hs) x hx
def OwnEss (s : Sl) (rs : List ER) (L : List Blk) : Prop := ∃ Lb Ld, L = Lb ++ Ld ∧ OwnS ty_sl_impl_Entry 1 s (rs.flatMap ER.cells) Lb ∧ OwnED rs Ld
theorem OwnEss.rd {w0 w : World} {ls L : List Blk} {s : Sl} {rs : List ER} (h : OwnEss s rs L) (hA : At w0 w ls) (hs : L.Sublist ls) : EssR w s rs := by
  obtain ⟨Lb, Ld, rfl, h1, h2⟩ := h
  exact ⟨h1.of hA ((List.sublist_append_left _ _).trans hs) (fun b _ => ercells_len b) (by omega), h2.ok hA ((List.sublist_append_right _ _).trans hs)⟩
def RdEntrySS (w : World) (s : Sl) (X : List (List PE)) : Prop := ∃ rs, rs.map ER.es = X ∧ EssR w s rs
theorem RdEntrySS.at {w w' : World} {ls : List Blk} {s : Sl} {X : List (List PE)} (h : RdEntrySS w s X) (hA : At w w' ls) : RdEntrySS w' s X := let ⟨rs, h1, h2⟩ := h; ⟨rs, h1, h2.at hA⟩
def OwnEntrySS (s : Sl) (X : List (List PE)) (L : List Blk) : Prop := ∃ rs, rs.map ER.es = X ∧ OwnEss s rs L
theorem OwnEntrySS.rd {w0 w : World} {s : Sl} {X : List (List PE)} {L ls : List Blk} (h : OwnEntrySS s X L) (hA : At w0 w (L ++ ls)) : RdEntrySS w s X := let ⟨rs, h1, h2⟩ := h; ⟨rs, h1, h2.rd hA (List.sublist_append_left _ _)⟩
theorem OwnEntrySS.none : OwnEntrySS ⟨none, 0, 0⟩ [] [] := ⟨[], rfl, [], [], rfl, OwnS.nil _ _, .nil⟩
def RawEntrySS (w : World) (s : Sl) (X : List (List PE)) : Prop := ∃ rs, rs.map ER.es = X ∧ EssR w s rs ∧ s.c ≤ maxLen ∧ ∀ r ∈ rs, RawEntryS w r.d r.es
theorem RawEntrySS.rd {w : World} {s : Sl} {X : List (List PE)} (h : RawEntrySS w s X) : RdEntrySS w s X := let ⟨rs, h1, h2, _⟩ := h; ⟨rs, h1, h2⟩
end Go.Proofs.YtkifkdkjljcclaaGreat

namespace Go.Proofs.YtkifkdkjljcclaaGreat
open Go.Sx Go.RowKit
open Go.ChangeShapes Go.WideShapes Go.ChangeAt Go.Deep

abbrev PL := List Int × Int
def leaseC (l : PL) : List Value := u8s l.1 ++ [.int .i64 l.2]
theorem leaseC_len {l : PL} (h : keyOk l.1) : (leaseC l).length = 33 := by unfold leaseC; rw [List.length_append, u8s_len, h.1]; rfl
theorem lease_til {l : PL} (h : keyOk l.1) : (leaseC l)[32]? = some (.int .i64 l.2) := by
  unfold leaseC
  have e : (u8s l.1).length = 32 := by rw [u8s_len]; exact h.1
  rw [List.getElem?_append_right (by omega), e]
  rfl
structure LsR (w : World) (s : Sl) (ls : List PL) : Prop where
  of : SlOf w s 33 leaseC ls
  ok : ∀ l ∈ ls, keyOk l.1
theorem LsR.at {w w' : World} {bl : List Blk} {s : Sl} {ls : List PL} (h : LsR w s ls) (hA : At w w' bl) : LsR w' s ls := ⟨h.of.below hA.below, h.ok⟩
theorem LsR.n {w : World} {s : Sl} {ls : List PL} (h : LsR w s ls) : s.n = ls.length := h.of.n
theorem LsR.get {w : World} {s : Sl} {ls : List PL} (h : LsR w s ls) {i : Nat} (hi : i < ls.length) : ∃ l p, ls[i]? = some l ∧ l ∈ ls ∧ s.a = some p ∧ keyOk l.1 ∧ ldOk w 33 (p.add (i * 33)) .agg (leaseC l).toArray ∧ ldOk w 32 ((p.add (i * 33)).add 0) .agg (u8s l.1).toArray ∧ ldOk w 1 ((p.add (i * 33)).add 32) (.int .i64) l.2 := by
  have hk : ls[i]? = some ls[i] := List.getElem?_eq_getElem hi
  obtain ⟨p, hp, _⟩ := h.of.cell hk
  have ha := h.of.agg hk hp
  have hko := h.ok _ (List.getElem_mem hi)
  refine ⟨_, p, hk, List.getElem_mem hi, hp, hko, ha, ⟨by simp [hko.1], fun j v hv => ?_⟩, ha.2 32 _ (by rw [List.getElem?_toArray]; exact lease_til hko)⟩
  rw [Go.Deep.add_add, Nat.zero_add]
  refine ha.2 j v ?_
  rw [List.getElem?_toArray] at hv ⊢
  unfold leaseC
  rw [List.getElem?_append_left (List.getElem?_eq_some_iff.1 hv).1]
  exact hv

def RdLeaseS (w : World) (s : Sl) (ls : List PL) : Prop := LsR w s ls
theorem RdLeaseS.at {w w' : World} {bl : List Blk} {s : Sl} {ls : List PL} (h : RdLeaseS w s ls) (hA : At w w' bl) : RdLeaseS w' s ls := LsR.at h hA
def OwnLeaseS (s : Sl) (ls : List PL) (L : List Blk) : Prop := OwnS ty_impl_Lease 33 s (ls.flatMap leaseC) L ∧ ∀ l ∈ ls, keyOk l.1
theorem OwnLeaseS.rd {w0 w : World} {s : Sl} {ls : List PL} {L bl : List Blk} (h : OwnLeaseS s ls L) (hA : At w0 w (L ++ bl)) : RdLeaseS w s ls := ⟨h.1.of hA (List.sublist_append_left _ _) (fun l hl => leaseC_len (h.2 l hl)) (by omega), h.2⟩
def RawLeaseS (w : World) (s : Sl) (ls : List PL) : Prop := LsR w s ls ∧ s.n ≤ s.c ∧ s.c ≤ maxLen
theorem RawLeaseS.rd {w : World} {s : Sl} {ls : List PL} (h : RawLeaseS w s ls) : RdLeaseS w s ls := h.1
end Go.Proofs.YtkifkdkjljcclaaGreat

namespace Go.Proofs.YtkifkdkjljcclaaGreat
open Go.Sx Go.RowKit

def emptyKey : List Int := hashL 5 []
theorem emptyKey_ok : keyOk emptyKey := ⟨hashL_len _ _, hashL_ok _ _⟩
theorem c_l04Empty (w : World) : Ret Tryz.prog n_spec_l04Empty [] w [.agg] (fun r _ => r = (u8s emptyKey).toArray) := spec_l04Empty_calls (by
  unfold spec_l04Empty
  refine r_new (At.refl w) fun b0 w1 h => ?_
  refine r_bs0 T_sl_uint8' h fun y w2 hy hyn => ?_
  refine r_call hy.at_ (c_l01Hash 5 (d := []) hy.sl (fun b hb => by cases hb) (by simp)) fun r w2 h _ hr => ?_
  subst hr
  refine r_stA h 0 rfl rfl (by simp [hashL_len]) (by simp [Value.cells]) (by simpa using u8s_one) fun w3 h => ?_
  refine r_ldA h 0 rfl rfl (by simp [hashL_len]) ?_
  exact r_ret h.nil _ rfl rfl)

end Go.Proofs.YtkifkdkjljcclaaGreat
