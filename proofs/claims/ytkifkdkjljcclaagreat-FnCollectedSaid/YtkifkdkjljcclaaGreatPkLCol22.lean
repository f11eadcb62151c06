/- PutFolder: what the program and the reference answer. The laws' own source of test data: bytes picked, keys. -/
import Derived.Test.YtkifkdkjljcclaaGreatPkLCol19
import Derived.Test.YtkifkdkjljcclaaGreatPkLCol21
import Derived.Test.YtkifkdkjljcclaaGreatPkLCol18
namespace Go.Proofs.YtkifkdkjljcclaaGreat
open Go.Sx Go.RowKit

def folder (ks : List (List Int)) : PB := ⟨6, ks.flatten⟩
def foldAns (B : List PB) (ks : List (List Int)) : List PB × List Int × Int := if validS B then (if 32 < ks.length then ([], zero32, 3) else putsAns B zero32 [folder ks]) else ([], zero32, 1)
theorem flat_ok {ks : List (List Int)} (h : ∀ k ∈ ks, keyOk k) : bytesOk ks.flatten := by
  intro b hb
  obtain ⟨k, hk, hbk⟩ := List.mem_flatten.1 hb
  exact (h k hk).2 b hbk
theorem folder_ok {ks : List (List Int)} (h : ∀ k ∈ ks, keyOk k) : (folder ks).ok := ⟨flat_ok h, by show (0 : Int) ≤ 6; decide, by show (6 : Int) < 256; decide⟩

theorem c_spec_PutFolder {w : World} {r : Array Value} {x : Sl} {B : List PB} {ks : List (List Int)} (hr : RdStore w r B) (hx : RdKeyS w x ks) (hz : sizeBs B ≤ 1073741824) (hzk : sizeKeyS ks ≤ 1073741824) :
    Ret Tryz.prog n_spec_PutFolder [.agg r, .slice x.a x.n x.c] w [.agg, .agg, .int .i64] (fun x w' => ∃ L, At w w' L ∧ OwnStore x.1 (foldAns B ks).1 L ∧ RdKey w x.2.1 (foldAns B ks).2.1 ∧ x.2.2 = (foldAns B ks).2.2) := spec_PutFolder_calls _ x (by
  unfold spec_PutFolder
  have hBok := hr.ok
  obtain ⟨s, bs, rfl, hpb, hs⟩ := hr
  have hx : KsR w x ks := hx
  have hxn := hx.n
  have hl := le_sizeBs B
  have hbl : bs.length = B.length := by rw [← hpb]; simp
  refine r_new (At.refl w) fun b2 w1 h => ?_
  refine r_new h fun b4 w3 h => ?_
  refine r_new h fun b5 w4 h => ?_
  refine r_call h (c_l05Open (p := ⟨b2, 0, none⟩) (fun n => ldOk_own h 2 rfl 0 rfl (by simp [Sh.emb])) (hs.at h.nil)) fun r w5 h5 _ ⟨hr2, b, hr1, hr⟩ => ?_
  rw [hpb] at hr hr2
  by_cases hv : validS B
  · obtain ⟨L, hL, hO⟩ := hr hv
    rw [hr2, decide_eq_true hv, hr1]
    refine r_false rfl ?_
    have h : At w w5 ([(b5, Array.replicate 32 (.int .u8 0), ty_impl_Key), (b4, #[.slice none 0 0], ty_impl_Store), (b2, #[.slice s.a s.n s.c], ty_impl_Store)] ++ (L ++ [])) := by rw [List.append_nil]; exact (h.join hL).swap
    refine r_if ((x.n : Int) > 32) rfl (fun hgt => ?_) (fun hle => ?_)
    · have hans : foldAns B ks = ([], zero32, 3) := by unfold foldAns; rw [if_pos hv, if_pos (by omega)]
      rw [hans]
      refine r_pur (sh := .agg) _ run_noStore ?_
      refine r_stA h 1 rfl rfl rfl rfl (by simp [oneC]) fun w8 h => ?_
      refine r_stA h 0 rfl rfl (by simp) (by simp) (by simp [oneC]) fun w9 h => ?_
      refine r_ldA h 1 rfl rfl rfl ?_
      refine r_ldA h 0 rfl rfl (by simp) ?_
      exact r_ret h.nil (_, _, _) rfl ⟨[], h.nil, OwnStore.nil, ⟨rfl, zero32_ok⟩, rfl⟩
    · have hans : foldAns B ks = madeAns (putAns B (folder ks)) := by unfold foldAns; rw [if_pos hv, if_neg (by omega), puts_one]
      rw [hans]
      refine r_bs0 T_sl_uint8' h fun y w6 hy hyn => ?_
      obtain ⟨Ly, hOy, h⟩ := hy.split
      refine r_loop (σ := Sl × Int) (fun i w' => ∃ (j : Nat) (Ls : List Blk), i.2 = j ∧ j ≤ ks.length ∧ i.1.n = 32 * j ∧ OwnS ty_uint8 1 i.1 (u8s (ks.take j).flatten) Ls ∧ At w w' (Ls ++ ([(b5, Array.replicate 32 (.int .u8 0), ty_impl_Key), (b4, #[.slice none 0 0], ty_impl_Store), (b2, #[.slice s.a s.n s.c], ty_impl_Store)] ++ (L ++ [])))) (fun i _ => (x.n - i.2).toNat) (y, 0) rfl
        ⟨0, Ly, rfl, by omega, by dsimp only; omega, by simpa [u8s] using hOy, h⟩ ?_
      rintro ⟨t, i⟩ w7 ⟨j, Ls, hij, hj, htn, hOt, h⟩
      dsimp only at hij htn hOt
      subst hij
      refine r_any fun _ => ?_
      dsimp only
      refine r_if ((j : Int) < (x.n : Int)) rfl (fun hlt => ?_) (fun hge => ?_)
      · obtain ⟨k, hk⟩ : ∃ k, ks[j]? = some k := ⟨_, List.getElem?_eq_getElem (by omega)⟩
        have hko := hx.ok k (List.mem_of_getElem? hk)
        refine r_loop (σ := Sl × Int) (fun i w' => ∃ (m : Nat) (Ls : List Blk), i.2 = m ∧ m ≤ 32 ∧ i.1.n = 32 * j + m ∧ OwnS ty_uint8 1 i.1 (u8s ((ks.take j).flatten ++ k.take m)) Ls ∧ At w w' (Ls ++ ([(b5, Array.replicate 32 (.int .u8 0), ty_impl_Key), (b4, #[.slice none 0 0], ty_impl_Store), (b2, #[.slice s.a s.n s.c], ty_impl_Store)] ++ (L ++ [])))) (fun i _ => (32 - i.2).toNat) (t, 0) rfl
          ⟨0, Ls, rfl, by omega, by dsimp only; omega, by simpa using hOt, h⟩ ?_
        rintro ⟨t, i⟩ w8 ⟨m, Ls, him, hm, htn, hOt, h⟩
        dsimp only at him htn hOt
        subst him
        refine r_any fun _ => ?_
        dsimp only
        refine r_if ((m : Int) < 32) rfl (fun hlt2 => ?_) (fun hge2 => ?_)
        · have hkm : k[m]? = some (k.getD m 0) := by simp [List.getD, List.getElem?_eq_getElem (show m < k.length by have := hko.1; omega)]
          have hcell : (ks.flatMap u8s)[32 * j + m]? = some (.int .u8 (k.getD m 0)) := by
            rw [flatU8]
            unfold u8s
            rw [List.getElem?_map, flat_get hx.ok hk (by omega), hkm]
            rfl
          obtain ⟨q, hq, hc⟩ := (hx.at h.nil).of.sl.cell _ _ hcell
          refine r_ix q hq (by omega) (by omega) ?_
          refine r_ix _ rfl (by omega) (by omega) ?_
          refine r_ldN (sh := .int .u8) (k.getD m 0) (by
            rw [Go.Deep.add_add]
            simp only [Int.toNat_natCast]
            rw [show j * 32 + m * 1 = 32 * j + m by omega]
            exact hc) ?_
          refine r_push T_sl_uint8' (hOt.slo h) (v := .int .u8 (k.getD m 0)) rfl (by omega) (by simp [Value.cells, oneC]) (by omega) (by omega) fun t' w9 h9 hn9 => ?_
          obtain ⟨Ls', hO', h⟩ := h9.split
          refine ⟨(t', ((m + 1 : Nat) : Int)), by rw [w64 (by omega) (by omega)]; rfl, ⟨m + 1, Ls', rfl, by omega, by dsimp only; omega, ?_, h⟩, by dsimp only; omega⟩
          rw [take_succ_get hkm, ← List.append_assoc]
          simpa [u8s, Value.cells] using hO'
        · have hm32 : m = 32 := by omega
          subst hm32
          refine ⟨(t, ((j + 1 : Nat) : Int)), by rw [w64 (by omega) (by omega)]; rfl, ⟨j + 1, Ls, rfl, by omega, by dsimp only; omega, ?_, h⟩, by dsimp only; omega⟩
          rw [take_succ_get hk, List.flatten_append]
          have : k.take 32 = k := List.take_of_length_le (by have := hko.1; omega)
          rw [this] at hOt
          simpa using hOt
      · have hjl : j = ks.length := by omega
        subst hjl
        rw [List.take_of_length_le (Nat.le_refl _)] at hOt
        have hfl := flat_len hx.ok
        have hg := good_of hv hBok
        have h : At w w7 ([(b5, Array.replicate 32 (.int .u8 0), ty_impl_Key), (b4, #[.slice none 0 0], ty_impl_Store), (b2, #[.slice s.a s.n s.c], ty_impl_Store)] ++ (Ls ++ (L ++ []))) := h.rot
        have hcok : ∀ {w' : World} {M N : List Blk}, At w w' (M ++ (Ls ++ N)) → (⟨6, t, ks.flatten⟩ : BR).Ok w' := fun hA => ⟨⟨hOt.sl hA ((List.sublist_append_left Ls _).trans (List.sublist_append_right _ _)), flat_ok hx.ok, hOt.cap⟩, by show (0 : Int) ≤ 6; decide, by show (6 : Int) < 256; decide⟩
        refine r_pur (sh := .agg) _ (run_mkBlob 6 t) ?_
        refine r_callR (c_spec_put (c := ⟨6, t, ks.flatten⟩) h.pl2 hO hpb (fun x hx w' hA => (hs.ok x hx).below hA.below) (fun w' hA => hcok hA) (by show ks.flatten.length ≤ _; omega) hg (fun x hx => by have := hv.2.1 x hx; omega)) ?_
        rintro v w8 ⟨bs', L', rfl, h, hO', hpb', hbs'⟩
        refine ⟨(_, _), rfl, ?_⟩
        have hk' : keyOk (putAns B (⟨6, t, ks.flatten⟩ : BR).pb).2.1 := putAns_key B (folder ks) (folder ks).key_ok
        have h := h.ps2
        refine r_new h fun b12 w9 h => ?_
        refine r_stA h 0 rfl rfl (by simpa using hk'.1) (by simp [Value.cells]) (by simpa using u8s_one) fun w10 h => ?_
        refine r_ldA h 0 rfl rfl (by simpa using hk'.1) ?_
        have h : At w w10 ([(b12, (u8s (putAns B (folder ks)).2.1).toArray, ty_impl_Key), (b5, Array.replicate 32 (.int .u8 0), ty_impl_Key), (b4, #[.slice none 0 0], ty_impl_Store), (b2, #[.slice s.a s.n s.c], ty_impl_Store)] ++ (Ls ++ (L' ++ []))) := h
        refine r_callR (c_l05Made (k := (putAns B (folder ks)).2.1) h.pl2 hO' hpb' (fun x hx w' hA => by
          rcases hbs' x hx with rfl | hx
          · exact hcok hA
          · exact (hs.ok x hx).below hA.below) hk' (putAns_good (c := folder ks) hg ⟨by show ks.flatten.length ≤ _; omega, folder_ok hx.ok⟩)) ?_
        rintro v w11 ⟨r, L2, rfl, h, hOS, hko⟩
        refine ⟨(_, _, _), rfl, ?_⟩
        have h := At.tail h.ps2
        have e3 : madeAns ((putAns B (folder ks)).1, (putAns B (folder ks)).2.1, (putAns B (folder ks)).2.2) = madeAns (putAns B (folder ks)) := rfl
        have e4 : (⟨6, t, ks.flatten⟩ : BR).pb = folder ks := rfl
        rw [e4] at hOS hko ⊢
        rw [e3] at hOS hko
        rw [e3]
        refine r_stA h 1 rfl rfl hOS.sz rfl hOS.one fun w9 h => ?_
        refine r_stA h 0 rfl rfl (by simpa using hko.1) (by simp) (by simpa using u8s_one) fun w10 h => ?_
        refine r_ldA h 1 rfl rfl hOS.sz ?_
        refine r_ldA h 0 rfl rfl (by simpa using hko.1) ?_
        have h : At w w10 (_ :: _ :: _ :: (Ls ++ (L2 ++ []))) := h
        exact r_ret h.nil (_, _, _) rfl ⟨L2, (At.right (A := [_, _, _]) h).right.left, hOS, ⟨rfl, hko⟩, rfl⟩
  · rw [hr2, decide_eq_false hv]
    refine r_true rfl ?_
    have hans : foldAns B ks = ([], zero32, 1) := by unfold foldAns; rw [if_neg hv]
    rw [hans]
    refine r_pur (sh := .agg) _ run_noStore ?_
    refine r_stA h5 1 rfl rfl rfl rfl (by simp [oneC]) fun w8 h => ?_
    refine r_stA h 0 rfl rfl (by simp) (by simp [Value.cells]) (by simp [oneC]) fun w9 h => ?_
    refine r_ldA h 1 rfl rfl rfl ?_
    refine r_ldA h 0 rfl rfl (by simp) ?_
    exact r_ret h.nil (_, _, _) rfl ⟨[], h.nil, OwnStore.nil, ⟨rfl, zero32_ok⟩, rfl⟩)
end Go.Proofs.YtkifkdkjljcclaaGreat

namespace Go.Proofs.YtkifkdkjljcclaaGreat
open Go.Sx Go.RowKit

def zeroK : List Int := List.replicate 32 0
theorem zeroK_len : zeroK.length = 32 := rfl
theorem zeroK_ok : bytesOk zeroK := by intro b hb; simp [zeroK] at hb; omega

theorem run_rem {P : Program} {t : TypeId} {x y : Operand} {k : IntKind} {a b : Int} (hb : b ≠ 0) (w : World) : (eqB .rem t x y (.int k a) (.int k b)).run P w = .ok (.int k (a.tmod b)) w := by
  simp [eqB, eqGuard, binOp, Op.intDiv, hb]

theorem and255 (x : Int) : 0 ≤ bitsI .and .u64 x 255 ∧ bitsI .and .u64 x 255 ≤ 255 := by
  have h : (BitVec.ofInt (IntKind.bits .u64) x &&& BitVec.ofInt (IntKind.bits .u64) 255).toNat ≤ 255 := by
    rw [BitVec.toNat_and]
    exact Nat.le_trans Nat.and_le_right (by decide)
  have e : bitsI .and .u64 x 255 = IntKind.wrap .u64 ((BitVec.ofInt (IntKind.bits .u64) x &&& BitVec.ofInt (IntKind.bits .u64) 255).toNat : Int) := rfl
  rw [e]
  generalize (BitVec.ofInt (IntKind.bits .u64) x &&& BitVec.ofInt (IntKind.bits .u64) 255).toNat = n at h
  rw [wrapu64 (by omega) (by omega)]
  omega

abbrev srcC (sd : Sl) (a st : Int) : Array Value := #[.slice sd.a sd.n sd.c, .int .i64 a, .int .u64 st]
def Src (w0 : World) (b : Nat) (sd : Sl) (rest : List Blk) (A : Int) (w : World) : Prop := ∃ a st, 0 ≤ a ∧ a ≤ A ∧ At w0 w ((b, srcC sd a st, ty_spec_l00Src) :: rest)
theorem Src.mono {w0 w : World} {b : Nat} {sd : Sl} {rest : List Blk} {A A' : Int} (h : Src w0 b sd rest A w) (hA : A ≤ A') : Src w0 b sd rest A' w := let ⟨a, st, h0, h1, h2⟩ := h; ⟨a, st, h0, Int.le_trans h1 hA, h2⟩

theorem c_next {w0 w : World} {b : Nat} {sd : Sl} {d : List Int} {rest : List Blk} {A : Int} (hS : Src w0 b sd rest A w) (hd : SlAt w0 sd 1 (u8s d)) (hb : bytesOk d) (hA : A ≤ 1099511627776) :
    Calls Tryz.prog n_ptr_spec_l00Src_next #[.pointer (some ⟨b, 0, none⟩)] w fun e w' => ∃ v, e = .returned v ∧ ∃ r, v = .int .i64 r ∧ 0 ≤ r ∧ r ≤ 255 ∧ Src w0 b sd rest (A + 1) w' := ptr_spec_l00Src_next_calls _ (by
  obtain ⟨a, st, h0, h1, h⟩ := hS
  have hn := sl_len hd
  unfold ptr_spec_l00Src_next
  refine r_join (σ := Int) (fun s w' => (0 ≤ s ∧ s ≤ 255) ∧ At w0 w' ((b, srcC sd a st, ty_spec_l00Src) :: rest)) (fun s w1 hs => ?_) ?_
  · obtain ⟨⟨hs0, hs1⟩, h⟩ := hs
    refine r_any fun _ => ?_
    refine r_ld h 0 (o := 1) rfl (add_lit _ _ _) a (by simp [Sh.emb]) rfl ?_
    rw [w64 (n := a + 1) (by omega) (by omega)]
    refine r_st h 0 (o := 1) rfl (add_lit _ _ _) (by simp) rfl fun w2 h => ?_
    refine r_ld h 0 (o := 2) rfl (add_lit _ _ _) st (by simp [Sh.emb]) rfl ?_
    refine r_st h 0 (o := 2) rfl (add_lit _ _ _) (by simp) rfl fun w3 h => ?_
    generalize IntKind.wrap .u64 ((IntKind.wrap .u64 ((IntKind.wrap .u64 (st * 6364136223846793005)) + (IntKind.wrap .u64 s))) + 1442695040888963407) = st' at h
    have h : At w0 w3 ((b, srcC sd (a + 1) st', ty_spec_l00Src) :: rest) := h
    refine r_draw h fun w4 h => ?_
    refine r_ld h 0 (o := 1) rfl (add_lit _ _ _) (a + 1) (by simp [Sh.emb]) rfl ?_
    refine r_ld h 0 (o := 0) rfl (add_lit _ _ _) sd (by simp [Sh.emb]) rfl ?_
    refine r_if (a + 1 ≤ (sd.n : Int)) rfl (fun hle => ?_) (fun hgt => ?_)
    · exact r_retR ⟨s, rfl, hs0, hs1, a + 1, st', by omega, by omega, h⟩
    · refine r_ld h 0 (o := 2) rfl (add_lit _ _ _) st' (by simp [Sh.emb]) rfl ?_
      have h255 := and255 (Int.fdiv st' (2 ^ 40))
      rw [w64 (by omega) (by omega)]
      exact r_retR ⟨_, rfl, h255.1, h255.2, a + 1, st', by omega, by omega, h⟩
  · refine r_draw h fun w1 h => ?_
    refine r_ld h 0 (o := 1) rfl (add_lit _ _ _) a (by simp [Sh.emb]) rfl ?_
    refine r_ld h 0 (o := 0) rfl (add_lit _ _ _) sd (by simp [Sh.emb]) rfl ?_
    refine r_if (a < (sd.n : Int)) rfl (fun hlt => ?_) (fun hge => ?_)
    · refine r_draw h fun w2 h => ?_
      refine r_ld h 0 (o := 0) rfl (add_lit _ _ _) sd (by simp [Sh.emb]) rfl ?_
      refine r_ld h 0 (o := 1) rfl (add_lit _ _ _) a (by simp [Sh.emb]) rfl ?_
      obtain ⟨p, hp, hc⟩ := sl_cell hd (i := a.toNat) (by omega)
      refine r_ix p hp (by omega) (by omega) ?_
      refine r_ldO h (d.getD a.toNat 0) hc (by simp) ?_
      have hbd := hb.get a.toNat
      rw [w64 (by omega) (by omega)]
      exact ⟨_, rfl, ⟨hbd.1, by omega⟩, h⟩
    · exact ⟨0, rfl, ⟨by omega, by omega⟩, h⟩)

theorem c_pick {w0 w : World} {b : Nat} {sd : Sl} {d : List Int} {rest : List Blk} {A : Int} (N : Int) (hS : Src w0 b sd rest A w) (hd : SlAt w0 sd 1 (u8s d)) (hb : bytesOk d) (hA : A ≤ 1099511627774) (hN : 1 ≤ N) (hN2 : N ≤ 1048576) :
    Calls Tryz.prog n_ptr_spec_l00Src_pick #[.pointer (some ⟨b, 0, none⟩), .int .i64 N] w fun e w' => ∃ v, e = .returned v ∧ ∃ r, v = .int .i64 r ∧ 0 ≤ r ∧ r < N ∧ Src w0 b sd rest (A + 2) w' := ptr_spec_l00Src_pick_calls _ _ (by
  unfold ptr_spec_l00Src_pick
  have htm : ∀ x : Int, 0 ≤ x → x ≤ 16777216 → 1 < N → Int.tmod x N = x % N ∧ 0 ≤ x % N ∧ x % N < N := fun x h0 h1 h2 => by
    have e1 := Int.emod_nonneg x (show N ≠ 0 by omega)
    have e2 := Int.emod_lt_of_pos x (show 0 < N by omega)
    rw [Int.tmod_eq_emod_of_nonneg h0]
    exact ⟨rfl, e1, e2⟩
  refine r_if (N ≤ 1) rfl (fun hle => r_retR ⟨0, rfl, by omega, by omega, hS.mono (by omega)⟩) (fun hgt => ?_)
  refine r_callR (c_next hS hd hb (by omega)) ?_
  rintro v w1 ⟨r, rfl, hr0, hr1, hS⟩
  refine ⟨r, rfl, ?_⟩
  refine r_if (N > 200) rfl (fun hbig => ?_) (fun hsm => ?_)
  · refine r_callR (c_next hS hd hb (by omega)) ?_
    rintro v w2 ⟨r2, rfl, hs0, hs1, hS⟩
    refine ⟨r2, rfl, ?_⟩
    rw [w64 (n := r * 256) (by omega) (by omega), w64 (n := r * 256 + r2) (by omega) (by omega)]
    refine r_pur _ (fun w' => run_rem (by omega) w') ?_
    obtain ⟨e1, e2, e3⟩ := htm (r * 256 + r2) (by omega) (by omega) (by omega)
    rw [e1]
    exact r_retR ⟨_, rfl, e2, e3, hS.mono (by omega)⟩
  · refine r_pur _ (fun w' => run_rem (by omega) w') ?_
    obtain ⟨e1, e2, e3⟩ := htm r (by omega) (by omega) (by omega)
    rw [e1]
    exact r_retR ⟨_, rfl, e2, e3, hS.mono (by omega)⟩)

theorem c_one {w0 w : World} {b : Nat} {sd : Sl} {d : List Int} {rest : List Blk} {A : Int} (N : Int) (hS : Src w0 b sd rest A w) (hd : SlAt w0 sd 1 (u8s d)) (hb : bytesOk d) (hA : A ≤ 1099511627774) (hN : 1 ≤ N) (hN2 : N ≤ 1048576) :
    Calls Tryz.prog n_ptr_spec_l00Src_one #[.pointer (some ⟨b, 0, none⟩), .int .i64 N] w fun e w' => ∃ v, e = .returned v ∧ ∃ r, v = .bool r ∧ Src w0 b sd rest (A + 2) w' := ptr_spec_l00Src_one_calls _ _ (by
  unfold ptr_spec_l00Src_one
  refine r_callR (c_pick N hS hd hb hA hN hN2) ?_
  rintro v w1 ⟨r, rfl, hr0, hr1, hS⟩
  exact ⟨r, rfl, r_retR ⟨_, rfl, hS⟩⟩)

def SrcO (w0 : World) (b : Nat) (sd : Sl) (rest : List Blk) (A : Int) (e z : Nat) (s : Sl) (xs : List Value) (w : World) : Prop := ∃ a st, 0 ≤ a ∧ a ≤ A ∧ SlO w0 w ((b, srcC sd a st, ty_spec_l00Src) :: rest) e z s xs
theorem SrcO.mono {w0 w : World} {b : Nat} {sd : Sl} {rest : List Blk} {A A' : Int} {e z : Nat} {s : Sl} {xs : List Value} (h : SrcO w0 b sd rest A e z s xs w) (hA : A ≤ A') : SrcO w0 b sd rest A' e z s xs w := let ⟨a, st, h0, h1, h2⟩ := h; ⟨a, st, h0, Int.le_trans h1 hA, h2⟩

theorem SrcO.through {P : Program} {f : FuncId} {args : List Value} {w0 w : World} {b : Nat} {sd : Sl} {rest : List Blk} {A A' : Int} {e z : Nat} {s : Sl} {xs : List Value} {Q : Value → Prop} (h : SrcO w0 b sd rest A e z s xs w)
    (hc : ∀ rest', Src w0 b sd rest' A w → Calls P f args.toArray w fun e w' => ∃ v, e = .returned v ∧ Q v ∧ Src w0 b sd rest' A' w') :
    Calls P f args.toArray w fun ee w' => ∃ v, ee = .returned v ∧ Q v ∧ SrcO w0 b sd rest A' e z s xs w' := by
  obtain ⟨a, st, h0, h1, hS⟩ := h
  rcases hS.own with ⟨n1, n2, n3⟩ | ⟨g, cur, ha, hA, r1, r2, r3, r4⟩
  · refine (hc rest ⟨a, st, h0, h1, hS.at_⟩).mono fun ee w' ⟨v, hv, hq, a', st', i0, i1, hA'⟩ => ⟨v, hv, hq, a', st', i0, i1, hA', hS.len, .inl ⟨n1, n2, n3⟩⟩
  · refine (hc ((g, cur, e) :: rest) ⟨a, st, h0, h1, At.sw2 hA⟩).mono fun ee w' ⟨v, hv, hq, a', st', i0, i1, hA'⟩ => ?_
    have hA'' := At.sw2 hA'
    exact ⟨v, hv, hq, a', st', i0, i1, hA''.take _ (List.sublist_cons_self _ _), hS.len, .inr ⟨g, cur, ha, hA'', r1, r2, r3, r4⟩⟩

theorem c_l01Data {w0 w : World} {b : Nat} {sd : Sl} {d : List Int} {rest : List Blk} {A : Int} (N : Nat) (hS : Src w0 b sd rest A w) (hd : SlAt w0 sd 1 (u8s d)) (hb : bytesOk d) (hA : A ≤ 1099511600000) (hN : N ≤ 1000) :
    Calls Tryz.prog n_spec_l01Data #[.pointer (some ⟨b, 0, none⟩), .int .i64 (N : Int)] w fun e w' => ∃ v, e = .returned v ∧ ∃ (s : Sl) (x : List Int), v = .slice s.a s.n s.c ∧ bytesOk x ∧ x.length ≤ N ∧ SrcO w0 b sd rest (A + 4 + 4 * N) ty_uint8 1 s (u8s x) w' := spec_l01Data_calls _ _ (by
  unfold spec_l01Data
  obtain ⟨a, st, h0, h1, h⟩ := hS
  refine r_bs0 T_sl_uint8 h fun y w1 hy hyn => ?_
  have hO : SrcO w0 b sd rest A ty_uint8 1 y (u8s []) w1 := ⟨a, st, h0, h1, by simpa [u8s] using hy⟩
  refine r_callR (hO.through (Q := fun v => ∃ r, v = .bool r) fun rest' hs => (c_one 2 hs hd hb (by omega) (by omega) (by omega)).mono fun e w' ⟨v, he, r, hv, hS⟩ => ⟨v, he, ⟨r, hv⟩, hS⟩) ?_
  rintro v w2 ⟨⟨r11, rfl⟩, hO⟩
  refine ⟨r11, rfl, ?_⟩
  have e1 : IntKind.wrap .i64 ((N : Int) + 1) = ((N + 1 : Nat) : Int) := by rw [w64 (by omega) (by omega)]; omega
  rw [e1]
  refine r_callR (hO.through (Q := fun v => ∃ r, v = .int .i64 r ∧ 0 ≤ r ∧ r < ((N + 1 : Nat) : Int)) fun rest' hs => (c_pick _ hs hd hb (by omega) (by omega) (by omega)).mono fun e w' ⟨v, he, r, hv, hr0, hr1, hS⟩ => ⟨v, he, ⟨r, hv, hr0, hr1⟩, hS⟩) ?_
  rintro v w3 ⟨⟨r15, rfl, hr0, hr1⟩, hO⟩
  refine ⟨r15, rfl, ?_⟩
  obtain ⟨K, rfl⟩ : ∃ K : Nat, r15 = K := ⟨r15.toNat, by omega⟩
  refine r_loop (σ := Sl × Int) (fun i w' => ∃ (k : Nat) (x : List Int), i.2 = k ∧ x.length + k = K ∧ bytesOk x ∧ SrcO w0 b sd rest (A + 4 + 4 * (K - k)) ty_uint8 1 i.1 (u8s x) w' ∧ i.1.n = x.length) (fun i _ => i.2.toNat) (y, (K : Int)) rfl
    ⟨K, [], rfl, by simp, (fun b hb => by cases hb), hO.mono (by omega), hyn⟩ ?_
  rintro ⟨s, i⟩ w4 ⟨k, x, hi, hk, hx, hO, hsn⟩
  dsimp only at hi hO hsn
  subst hi
  refine r_any fun _ => ?_
  dsimp only
  refine r_if ((k : Int) > 0) rfl (fun hpos => ?_) (fun hz => ?_)
  · refine r_callR (hO.through (Q := fun v => ∃ r, v = .int .i64 r ∧ 0 ≤ r ∧ r < 256) fun rest' hs => (c_pick 256 hs hd hb (by omega) (by omega) (by omega)).mono fun e w' ⟨v, he, r, hv, hr0, hr1, hS⟩ => ⟨v, he, ⟨r, hv, hr0, hr1⟩, hS⟩) ?_
    rintro v w5 ⟨⟨r21, rfl, hq0, hq1⟩, hO⟩
    refine ⟨r21, rfl, ?_⟩
    have push : ∀ (r : Int) (w6 : World), SrcO w0 b sd rest (A + 4 + 4 * (K - (k - 1 : Nat))) ty_uint8 1 s (u8s x) w6 →
        ((real Tryz.prog (fun v w' => ∃ (s : Sl) (x : List Int), v = .slice s.a s.n s.c ∧ bytesOk x ∧ x.length ≤ N ∧ SrcO w0 b sd rest (A + 4 + 4 * N) ty_uint8 1 s (u8s x) w')).sem (Instr.buildSlice ty_sl_uint8 1 #[(0, (.int .u8 (IntKind.wrap .u8 r)))]) .slice fun y28 =>
          (real Tryz.prog (fun v w' => ∃ (s : Sl) (x : List Int), v = .slice s.a s.n s.c ∧ bytesOk x ∧ x.length ≤ N ∧ SrcO w0 b sd rest (A + 4 + 4 * N) ty_uint8 1 s (u8s x) w')).sem (Builtin.append_ #[ty_sl_uint8, ty_sl_uint8] ty_sl_uint8 #[(.slice s.a s.n s.c), (.slice y28.a y28.n y28.c)]) .slice fun y29 => fun w' =>
            ∃ s', embL [.slice, .int .i64] s' = [(.slice y29.a y29.n y29.c), (.int .i64 (IntKind.wrap .i64 ((k : Int) - 1)))] ∧ (∃ (k' : Nat) (x : List Int), s'.2 = k' ∧ x.length + k' = K ∧ bytesOk x ∧ SrcO w0 b sd rest (A + 4 + 4 * (K - k')) ty_uint8 1 s'.1 (u8s x) w' ∧ s'.1.n = x.length) ∧ s'.2.toNat < (k : Int).toNat : World → Prop) w6 := by
      intro r w6 hO
      obtain ⟨a, st, h0, h1, hS⟩ := hO
      refine r_push T_sl_uint8 hS rfl (by omega) (by simp [Value.cells, oneC]) (by omega) (by omega) fun s2 w7 h7 hn7 => ?_
      refine ⟨(s2, ((k - 1 : Nat) : Int)), by rw [w64 (by omega) (by omega)]; show _ = [_, _]; rw [show (k : Int) - 1 = ((k - 1 : Nat) : Int) by omega]; rfl, ⟨k - 1, x ++ [IntKind.wrap .u8 r], rfl, by simp; omega, hx.append (fun z hz => ?_), ⟨a, st, h0, by omega, by rw [u8s_append]; simpa [Value.cells, u8s] using h7⟩, by simp; omega⟩, by dsimp only; omega⟩
      have : z = IntKind.wrap .u8 r := by simpa using hz
      rw [this, wrapu8]
      omega
    refine r_cond (fun _ => ?_) (fun _ => ?_)
    · refine r_callR (hO.through (Q := fun v => ∃ r, v = .int .i64 r ∧ 0 ≤ r ∧ r < 3) fun rest' hs => (c_pick 3 hs hd hb (by omega) (by omega) (by omega)).mono fun e w' ⟨v, he, r, hv, hr0, hr1, hS⟩ => ⟨v, he, ⟨r, hv, hr0, hr1⟩, hS⟩) ?_
      rintro v w6 ⟨⟨r24, rfl, hq0, hq1⟩, hO⟩
      refine ⟨r24, rfl, ?_⟩
      exact push r24 w6 (hO.mono (by omega))
    · exact push r21 w5 (hO.mono (by omega))
  · exact r_retR ⟨s, x, rfl, hx, by omega, hO.mono (by omega)⟩)

theorem u8s_set (l : List Int) (i : Nat) (v : Int) : (u8s l).toArray.setIfInBounds i (.int .u8 v) = (u8s (l.set i v)).toArray := by simp [u8s, List.map_set]
theorem bytesOk.set {l : List Int} (h : bytesOk l) (i : Nat) {v : Int} (hv : 0 ≤ v ∧ v < 256) : bytesOk (l.set i v) := fun b hb => by
  rcases List.mem_or_eq_of_mem_set hb with h1 | h1
  · exact h b h1
  · rw [h1]; exact hv

theorem c_l01Any {w0 w : World} {b : Nat} {sd : Sl} {d : List Int} {rest : List Blk} {A : Int} (hS : Src w0 b sd rest A w) (hd : SlAt w0 sd 1 (u8s d)) (hb : bytesOk d) (hA : A ≤ 1099511500000) :
    Calls Tryz.prog n_spec_l01Any #[.pointer (some ⟨b, 0, none⟩)] w fun e w' => ∃ v, e = .returned v ∧ ∃ x : List Int, v = .agg (u8s x).toArray ∧ x.length = 32 ∧ bytesOk x ∧ Src w0 b sd rest (A + 100) w' := spec_l01Any_calls _ (by
  unfold spec_l01Any
  obtain ⟨a, st, h0, h1, h⟩ := hS
  refine r_new h fun b2 w1 h => ?_
  refine r_new h fun b3 w2 h => ?_
  refine r_stA h 0 rfl rfl (by simp) (by simp [Value.cells]) rep_one fun w3 h => ?_
  have h : At w0 w3 ((b, srcC sd a st, ty_spec_l00Src) :: (b3, (u8s zeroK).toArray, ty_impl_Key) :: (b2, (u8s zeroK).toArray, ty_impl_Key) :: rest) := At.perm (l := (b3, (u8s zeroK).toArray, ty_impl_Key) :: (b2, (u8s zeroK).toArray, ty_impl_Key) :: (b, srcC sd a st, ty_spec_l00Src) :: rest) h (List.perm_middle (l₁ := [_, _]))
  have hS : Src w0 b sd ((b3, (u8s zeroK).toArray, ty_impl_Key) :: (b2, (u8s zeroK).toArray, ty_impl_Key) :: rest) A w3 := ⟨a, st, h0, h1, h⟩
  -- behind each way: the key in the result's place
  have fin : ∀ (x : List Int) (X : Array Value) (w' : World), x.length = 32 → bytesOk x → Src w0 b sd ((b3, X, ty_impl_Key) :: (b2, (u8s zeroK).toArray, ty_impl_Key) :: rest) (A + 100) w' →
      ((real Tryz.prog (fun v w' => ∃ x : List Int, v = .agg (u8s x).toArray ∧ x.length = 32 ∧ bytesOk x ∧ Src w0 b sd rest (A + 100) w')).st 32 (Addr.mk b2 0 none) (.agg (u8s x).toArray)
        ((real Tryz.prog (fun v w' => ∃ x : List Int, v = .agg (u8s x).toArray ∧ x.length = 32 ∧ bytesOk x ∧ Src w0 b sd rest (A + 100) w')).ld .agg 32 (Addr.mk b2 0 none) fun z => (real Tryz.prog (fun v w' => ∃ x : List Int, v = .agg (u8s x).toArray ∧ x.length = 32 ∧ bytesOk x ∧ Src w0 b sd rest (A + 100) w')).ret (.agg z)) : World → Prop) w' := by
    intro x X w' hx hxb hS
    obtain ⟨a, st, h0, h1, h⟩ := hS
    refine r_stA h 2 rfl rfl (by simp [hx]) (by simp [zeroK_len]) (by simpa using u8s_one) fun w4 h => ?_
    refine r_ldA h 2 rfl rfl (by simp [hx]) ?_
    refine r_retR ⟨x, rfl, hx, hxb, a, st, h0, h1, ?_⟩
    exact h.take _ (List.Sublist.cons_cons _ ((List.sublist_cons_self _ _).trans (List.sublist_cons_self _ _)))
  refine r_callR (c_pick 3 hS hd hb (by omega) (by omega) (by omega)) ?_
  rintro v w4 ⟨r7, rfl, hr0, hr1, hS⟩
  refine ⟨r7, rfl, ?_⟩
  refine r_eq (fun he => ?_) (fun hne => ?_)
  · refine r_callR (c_pick 3 hS hd hb (by omega) (by omega) (by omega)) ?_
    rintro v w5 ⟨r11, rfl, hq0, hq1, hS⟩
    refine ⟨r11, rfl, ?_⟩
    refine r_callR (c_l01Data 4 hS hd hb (by omega) (by omega)) ?_
    rintro v w6 ⟨s, x, rfl, hx, hxl, a, st, h0, h1, hO⟩
    refine ⟨s, rfl, ?_⟩
    refine r_call hO.at_ (c_l01Hash _ hO.sl hx (by omega)) fun k w7 h7 _ hk => ?_
    subst hk
    exact fin _ _ w7 (hashL_len _ _) (hashL_ok _ _) ⟨a, st, h0, by omega, h7⟩
  · refine r_eq (fun he => ?_) (fun hne => ?_)
    · refine r_callR (c_pick 32 hS hd hb (by omega) (by omega) (by omega)) ?_
      rintro v w5 ⟨r19, rfl, hq0, hq1, hS⟩
      refine ⟨r19, rfl, ?_⟩
      refine r_callR (c_pick 256 hS hd hb (by omega) (by omega) (by omega)) ?_
      rintro v w6 ⟨r21, rfl, hp0, hp1, hS⟩
      refine ⟨r21, rfl, ?_⟩
      obtain ⟨a, st, h0, h1, h⟩ := hS
      refine r_ix ⟨b3, 0, none⟩ rfl (by omega) (by omega) ?_
      refine r_st h 1 rfl (add_lit _ _ _) (by simp [zeroK_len]; omega) rfl fun w7 h => ?_
      rw [u8s_set] at h
      refine r_ldA h 1 rfl rfl (by simp [zeroK_len]) ?_
      exact fin _ _ w7 (by simp [zeroK_len]) (zeroK_ok.set _ (by rw [wrapu8]; omega)) ⟨a, st, h0, by omega, h⟩
    · refine r_eq (fun he => ?_) (fun hne => ?_)
      · refine r_loop (σ := Int) (fun i w' => ∃ (k : Nat) (x : List Int), i = k ∧ k ≤ 32 ∧ x.length = 32 ∧ bytesOk x ∧ Src w0 b sd ((b3, (u8s x).toArray, ty_impl_Key) :: (b2, (u8s zeroK).toArray, ty_impl_Key) :: rest) (A + 2 + 2 * k) w') (fun i _ => (32 - i).toNat) 0 rfl
          ⟨0, zeroK, rfl, by omega, zeroK_len, zeroK_ok, hS.mono (by omega)⟩ ?_
        rintro i w5 ⟨k, x, rfl, hk, hx, hxb, hS⟩
        refine r_any fun _ => ?_
        refine r_if ((k : Int) < 32) rfl (fun hlt => ?_) (fun hge => ?_)
        · refine r_callR (c_pick 256 hS hd hb (by omega) (by omega) (by omega)) ?_
          rintro v w6 ⟨r32, rfl, hp0, hp1, hS⟩
          refine ⟨r32, rfl, ?_⟩
          obtain ⟨a, st, h0, h1, h⟩ := hS
          refine r_ix ⟨b3, 0, none⟩ rfl (by omega) (by omega) ?_
          refine r_st h 1 rfl (add_lit _ _ _) (by simp [hx]; omega) rfl fun w7 h => ?_
          rw [u8s_set] at h
          exact ⟨((k + 1 : Nat) : Int), by rw [w64 (by omega) (by omega)]; rfl, ⟨k + 1, _, rfl, by omega, by simpa using hx, hxb.set _ (by rw [wrapu8]; omega), a, st, h0, by omega, h⟩, by omega⟩
        · obtain ⟨a, st, h0, h1, h⟩ := hS
          refine r_ldA h 1 rfl rfl (by simp [hx]) ?_
          exact fin _ _ w5 hx hxb ⟨a, st, h0, by omega, h⟩
      · obtain ⟨a, st, h0, h1, h⟩ := hS
        refine r_ldA h 1 rfl rfl (by simp [zeroK_len]) ?_
        exact fin _ _ w4 zeroK_len zeroK_ok ⟨a, st, h0, by omega, h⟩)

theorem run_src (s : Sl) (w : World) : (Instr.build ty_spec_l00Src #[(0, (.slice s.a s.n s.c))]).run Tryz.prog w = .ok (.agg (srcC s 0 0)) w := by kernel_rfl

theorem c_l00From (sd : Sl) (w : World) : Calls Tryz.prog n_spec_l00From #[.slice sd.a sd.n sd.c] w fun e w' => ∃ v, e = .returned v ∧ ∃ b, v = .pointer (some ⟨b, 0, none⟩) ∧ Src w b sd [] 0 w' := spec_l00From_calls _ (by
  unfold spec_l00From
  refine r_pur _ (fun w' => run_src sd w') ?_
  refine r_new (At.refl w) fun b w1 h => ?_
  exact r_retR ⟨b, rfl, 0, 0, by omega, by omega, h⟩)

end Go.Proofs.YtkifkdkjljcclaaGreat
