/- History: a book with a further commit: the reference; CommitMap: both sides. Names in order; entries set. Plain. -/
import Derived.ChangeMaps5
import Derived.Test.YtkifkdkjljcclaaGreatPkLAnc35
import Derived.Test.YtkifkdkjljcclaaGreatPkLAnc17
namespace Go.Proofs.YtkifkdkjljcclaaGreat
open Go.Sx Go.RowKit

theorem c_l07Commit {w : World} {p : Addr} {rs : List CR} {ms : List ER} {b : PBk} {x y : Sl} {ps : List (List Int)} {es : List PE} {note : ByteArray} (hp : BkR w p rs ms) (hX : rs.map CR.pc = b.cms) (hM : ms.map ER.es = b.maps) (hv : validB b) (hx : KsR w x ps) (hpm : ps.length ≤ 1073741824) (hy : EsR w y es) (hem : es.length ≤ 1073741824) :
    Ret Tryz.prog n_spec_l07Commit [.pointer (some p), .slice x.a x.n x.c, .slice y.a y.n y.c, .string note] w [.agg, .agg, .int .i64] (fun x w' => ∃ L, At w w' L ∧ OwnBook x.1 (comAns b ps es note).1 L ∧ RdKey w x.2.1 (comAns b ps es note).2.1 ∧ x.2.2 = (comAns b ps es note).2.2) := spec_l07Commit_calls _ _ _ _ (by
  unfold spec_l07Commit
  have hrl : rs.length = b.cms.length := by rw [← hX]; simp
  have hKl := keysB_len b
  have h40 := hv.1.1
  have hol := sortK_len ps
  refine r_new (At.refl w) fun b8 w1 h => ?_
  refine r_new h fun b9 w2 h => ?_
  have h : At w w2 ([(b9, Array.replicate 32 (.int .u8 0), ty_impl_Key), (b8, bkC ⟨none, 0, 0⟩ ⟨none, 0, 0⟩, ty_impl_Book)] ++ []) := h
  refine r_call h (c_l01Sort (z := zero32) (hx.at h) hpm rfl) fun r21 w3 _ _ ⟨hS, hn21⟩ => ?_
  obtain ⟨Ls, hOs, h⟩ := (SlO.lift h hS).split
  have hso : ∀ k ∈ sortK ps, keyOk k := fun k hk => hx.ok k ((sortK_mem _ _).1 hk)
  have srt : ∀ {v : World} {V : List Blk}, At w v (V ++ (Ls ++ ([(b9, Array.replicate 32 (.int .u8 0), ty_impl_Key), (b8, bkC ⟨none, 0, 0⟩ ⟨none, 0, 0⟩, ty_impl_Book)] ++ []))) → KsR v r21 (sortK ps) := fun h => ownS_ks hOs h ((List.sublist_append_left _ _).trans (List.sublist_append_right _ _)) hso
  refine r_joinI ?_
  refine r_if ((r21.n : Int) > 3) rfl (fun h3 => ?_) (fun h3 => ?_)
  · exact bad_commit (by unfold comAns; rw [if_pos (.inl (by omega))]) h.pl1
  refine r_if ((note.size : Int) > 64) rfl (fun h6 => ?_) (fun h6 => ?_)
  · exact bad_commit (by unfold comAns; rw [if_pos (.inr (by omega))]) h.pl1
  refine ⟨(), rfl, ?_⟩
  refine r_any fun _ => ?_
  have hnn : ¬ ((sortK ps).length > 3 ∨ note.size > 64) := by omega
  have hnum : ∀ k ∈ keysB b, 0 ≤ (cAt b.cms (keysB b) k).num ∧ (cAt b.cms (keysB b) k).num ≤ 40 := fun k hk => by
    have hl := ixK_lt hk
    exact (hv.2 (ixK (keysB b) k) (by omega)).1.2.2.1
  refine r_call h (c_l07Keys (hp.at h) (rows_ok hX hv) (by omega)) fun r33 w4 _ _ ⟨hS, hn33⟩ => ?_
  rw [hX] at hS
  obtain ⟨Lk, hOk, h⟩ := (SlO.lift h hS).split
  have keys : ∀ {v : World} {V : List Blk}, At w v (V ++ (Lk ++ (Ls ++ ([(b9, Array.replicate 32 (.int .u8 0), ty_impl_Key), (b8, bkC ⟨none, 0, 0⟩ ⟨none, 0, 0⟩, ty_impl_Book)] ++ [])))) → KsR v r33 (keysB b) := fun h => ownS_ks hOk h ((List.sublist_append_left _ _).trans (List.sublist_append_right _ _)) (keysB_ok b)
  refine r_loop (σ := Int) (fun i w' => ∃ j : Nat, i = j ∧ j ≤ (sortK ps).length ∧ (∀ k ∈ (sortK ps).take j, k ∈ keysB b) ∧ At w w' (Lk ++ (Ls ++ ([(b9, Array.replicate 32 (.int .u8 0), ty_impl_Key), (b8, bkC ⟨none, 0, 0⟩ ⟨none, 0, 0⟩, ty_impl_Book)] ++ [])))) (fun i _ => (r21.n - i).toNat) 0 rfl ⟨0, rfl, by omega, by simp, h⟩ ?_
  clear h
  rintro i w5 ⟨j, rfl, hj, hin, h⟩
  refine r_any fun _ => ?_
  refine r_if ((j : Int) < (r21.n : Int)) rfl (fun hlt => ?_) (fun hge => ?_)
  · obtain ⟨k, q, hk, hkm, hq, hko, hkl⟩ := (srt h).get (i := j) (by omega)
    refine r_ix q hq (by omega) (by omega) ?_
    refine r_ldN (u8s k).toArray (by simp only [Int.toNat_natCast]; exact hkl) ?_
    refine r_call h (c_l01Has (keys (V := []) h) hko (by omega)) fun r45 w6 h _ hr45 => ?_
    subst hr45
    by_cases hkK : k ∈ keysB b
    · rw [decide_eq_true hkK]
      refine r_false rfl ?_
      refine ⟨((j + 1 : Nat) : Int), by rw [w64 (by omega) (by omega)]; rfl, ⟨j + 1, rfl, by omega, fun y hy => ?_, h⟩, by omega⟩
      rw [take_succ_get hk] at hy
      rcases List.mem_append.1 hy with hy | hy
      · exact hin y hy
      · rw [List.mem_singleton.1 hy]; exact hkK
    · rw [decide_eq_false hkK]
      refine r_true rfl ?_
      exact bad_commit (by unfold comAns; rw [if_neg hnn, if_neg (fun hh => hkK (hh k hkm))]) h.pl2
  have hjl : j = (sortK ps).length := by omega
  subst hjl
  rw [List.take_of_length_le (Nat.le_refl _)] at hin
  refine r_eq (fun hfull => ?_) (fun hroom => ?_)
  · exact bad_commit (by unfold comAns; rw [if_neg hnn, if_pos hin, if_pos (by omega)]) h.pl2
  refine r_call h (c_spec_MapKey (SlOf.at hy h) hem) fun r56 w6 h _ hr56 => ?_
  obtain ⟨x1, x2⟩ := r56
  obtain ⟨hx1, hx2⟩ := hr56
  dsimp only at hx1 hx2
  subst hx1 hx2
  dsimp only
  have hrk0 : keyOk (if okE es then rootOf es else zero32) := by
    split
    · exact trKey_ok _
    · exact zero32_ok
  refine r_new h fun b14 w7 h => ?_
  refine r_stA h 0 rfl rfl (by simp [hrk0.1]) (by simp [Value.cells]) (by simpa using u8s_one) fun w8 h => ?_
  have h : At w w8 ([(b14, (u8s (if okE es then rootOf es else zero32)).toArray, ty_impl_Key)] ++ (Lk ++ (Ls ++ ([(b9, Array.replicate 32 (.int .u8 0), ty_impl_Key), (b8, bkC ⟨none, 0, 0⟩ ⟨none, 0, 0⟩, ty_impl_Book)] ++ [])))) := h
  by_cases hoe : okE es
  case neg =>
    rw [if_neg hoe]
    refine r_ne (fun _ => ?_) fun hh => absurd hh (by decide)
    exact bad_commit (by unfold comAns; rw [if_neg hnn, if_pos hin, if_neg (by omega), if_neg hoe]) h.pl3
  have h64 := hoe.2
  rw [if_pos hoe] at h hrk0 ⊢
  refine r_ne (fun hh => absurd rfl hh) fun _ => ?_
  have hans := comAns_ok (b := b) (ps := ps) (es := es) (note := note) (by omega) (by omega) hin (by omega) hoe
  rw [hans]
  obtain ⟨c, hc⟩ : ∃ c, c = comOf b ps es note := ⟨_, rfl⟩
  rw [← hc]
  have hcr : c.root = rootOf es := by rw [hc]; rfl
  have hcp : c.ps = sortK ps := by rw [hc]; rfl
  have hcn : c.num = numC b.cms (keysB b) (sortK ps) := by rw [hc]; rfl
  have hct : c.note = note := by rw [hc]; rfl
  rw [← hcr] at h hrk0
  have hrk := hrk0
  have hl : (cmC c.root r21 c.num note).length = 35 := cmC_len hrk ..
  have hzl : (cmC zero32 ⟨none, 0, 0⟩ 0 ⟨#[]⟩).length = 35 := cmC_len zero32_ok ..
  have hck := ckey_ok c
  obtain ⟨row, hrow⟩ : ∃ row : CR, row = ⟨c.root, r21, c.ps, c.num, note⟩ := ⟨_, rfl⟩
  have hrowc : row.cells = cmC c.root r21 c.num note := by rw [hrow]; rfl
  have hrowp : row.pc = c := by rw [hrow]; cases c; dsimp only at hct; subst hct; rfl
  have hrk2 : keyOk row.root := by rw [hrow]; exact hrk
  have hrl35 := crcells_len hrk2
  refine r_join (σ := Addr) (fun pt w' => ∃ b16, pt = ⟨b16, 0, none⟩ ∧ At w w' ([(b16, row.cells.toArray, ty_impl_Commit), (b14, (u8s c.root).toArray, ty_impl_Key)] ++ (Lk ++ (Ls ++ ([(b9, Array.replicate 32 (.int .u8 0), ty_impl_Key), (b8, bkC ⟨none, 0, 0⟩ ⟨none, 0, 0⟩, ty_impl_Book)] ++ []))))) (fun pt w9 ⟨b16, hpt, h⟩ => ?_) ?_
  · subst hpt
    refine r_any fun _ => ?_
    have hps : ∀ {v : World} {V : List Blk}, At w v (V ++ (Ls ++ ([(b9, Array.replicate 32 (.int .u8 0), ty_impl_Key), (b8, bkC ⟨none, 0, 0⟩ ⟨none, 0, 0⟩, ty_impl_Book)] ++ []))) → KsR v row.d row.ps := fun h => by rw [hrow]; dsimp only; rw [hcp]; exact srt h
    have h2 : At w w9 (([(b16, row.cells.toArray, ty_impl_Commit), (b14, (u8s c.root).toArray, ty_impl_Key)] ++ Lk) ++ (Ls ++ ([(b9, Array.replicate 32 (.int .u8 0), ty_impl_Key), (b8, bkC ⟨none, 0, 0⟩ ⟨none, 0, 0⟩, ty_impl_Book)] ++ []))) := by rw [List.append_assoc]; exact h
    refine r_call h (c_l07Key hrk2 (cmAt_of hrk2 (ldOk_blk h 0 rfl (by simp [hrl35]))) (hps h2) (by rw [hrow]; dsimp only; rw [hcp]; omega) (by rw [hrow]; dsimp only; omega)) fun r72 w10 h _ hr72 => ?_
    rw [hrowp] at hr72
    subst hr72
    refine r_new h fun b17 w11 h => ?_
    refine r_stA h 0 rfl rfl (by simp [hck.1]) (by simp [Value.cells]) (by simpa using u8s_one) fun w12 h => ?_
    have h : At w w12 ([(b17, (u8s (ckey c)).toArray, ty_impl_Key), (b16, row.cells.toArray, ty_impl_Commit), (b14, (u8s c.root).toArray, ty_impl_Key)] ++ (Lk ++ (Ls ++ ([(b9, Array.replicate 32 (.int .u8 0), ty_impl_Key), (b8, bkC ⟨none, 0, 0⟩ ⟨none, 0, 0⟩, ty_impl_Book)] ++ [])))) := h
    refine r_ldA h 0 rfl rfl (by simp [hck.1]) ?_
    refine r_call h (c_l01Has (keys h) hck (by omega)) fun r75 w13 h _ hr75 => ?_
    subst hr75
    by_cases hkn : ckey c ∈ keysB b
    · rw [if_pos hkn]
      refine r_true (decide_eq_true hkn) ?_
      exact bad_commit rfl h.pl3
    rw [if_neg hkn]
    refine r_false (decide_eq_false hkn) ?_
    refine r_call h (c_l07Copy (hp.at h) hX hM hv) fun r79 w14 _ _ ⟨Lb, hLb, hOb⟩ => ?_
    have h := h.join hLb
    obtain ⟨sb, tb, L1, L2, rfl, rfl, ⟨ts, hts, Lc, Ld, rfl, hOc, hD, hkt⟩, ⟨us, hus, Lm, Le, rfl, hOm, hE⟩⟩ := hOb
    have htl : ts.length = b.cms.length := by rw [← hts]; simp
    have hul : us.length = b.maps.length := by rw [← hus]; simp
    have hbn : sb.n = ts.length := by have := hOc.1; rw [flatMap_length (z := 35) (fun b hb => crcells_len (hkt b hb))] at this; omega
    have htn : tb.n = us.length := by have := hOm.1; rw [flatMap_length (z := 1) (fun b hb => ercells_len b)] at this; omega
    have hm40 := hv.1.2
    obtain ⟨Z, hZ⟩ : ∃ Z : List Blk, Z = Lk := ⟨_, rfl⟩
    refine r_new h fun b18 w15 h => ?_
    refine r_stA h 0 rfl rfl rfl rfl (bkC_one _ _) fun w16 h => ?_
    have h : At w w16 ([(b18, bkC sb tb, ty_impl_Book)] ++ (Lc ++ (Ld ++ (Lm ++ (Le ++ ([(b17, (u8s (ckey c)).toArray, ty_impl_Key), (b16, row.cells.toArray, ty_impl_Commit), (b14, (u8s c.root).toArray, ty_impl_Key)] ++ (Ls ++ ([(b9, Array.replicate 32 (.int .u8 0), ty_impl_Key), (b8, bkC ⟨none, 0, 0⟩ ⟨none, 0, 0⟩, ty_impl_Book)] ++ [])))))))) := by
      have h2 : At w w16 (([(b18, bkC sb tb, ty_impl_Book)] ++ (((Lc ++ Ld) ++ (Lm ++ Le)) ++ [(b17, (u8s (ckey c)).toArray, ty_impl_Key), (b16, row.cells.toArray, ty_impl_Commit), (b14, (u8s c.root).toArray, ty_impl_Key)])) ++ (Lk ++ (Ls ++ ([(b9, Array.replicate 32 (.int .u8 0), ty_impl_Key), (b8, bkC ⟨none, 0, 0⟩ ⟨none, 0, 0⟩, ty_impl_Book)] ++ [])))) := by
        have h3 : At w w16 ([(b18, bkC sb tb, ty_impl_Book)] ++ (((Lc ++ Ld) ++ (Lm ++ Le)) ++ ([(b17, (u8s (ckey c)).toArray, ty_impl_Key), (b16, row.cells.toArray, ty_impl_Commit), (b14, (u8s c.root).toArray, ty_impl_Key)] ++ (Lk ++ (Ls ++ ([(b9, Array.replicate 32 (.int .u8 0), ty_impl_Key), (b8, bkC ⟨none, 0, 0⟩ ⟨none, 0, 0⟩, ty_impl_Book)] ++ [])))))) := h
        simpa [List.append_assoc] using h3
      have h4 := h2.dr1
      simpa [List.append_assoc] using h4
    refine r_ld h 0 rfl (add_lit _ _ _) sb (by simp [Sh.emb]) rfl ?_
    refine r_ldA h.pl5 1 rfl rfl (by simp [hrl35]) ?_
    refine r_bs1 T_sl_Commit h (by simp [Value.cells, hrl35]) (by omega) fun y76 w17 hyy hyn => ?_
    obtain ⟨Ly, hOy, h⟩ := hyy.split
    have h : At w w17 (Ly ++ ([(b18, bkC sb tb, ty_impl_Book)] ++ (Lc ++ (Ld ++ (Lm ++ (Le ++ ([(b17, (u8s (ckey c)).toArray, ty_impl_Key), (b16, row.cells.toArray, ty_impl_Commit), (b14, (u8s c.root).toArray, ty_impl_Key)] ++ (Ls ++ ([(b9, Array.replicate 32 (.int .u8 0), ty_impl_Key), (b8, bkC ⟨none, 0, 0⟩ ⟨none, 0, 0⟩, ty_impl_Book)] ++ []))))))))) := h
    refine r_append T_sl_Commit (hOc.slo h.pl2) (hOy.sl h (List.sublist_append_left _ _)) (by simpa [Value.cells, CR.cells] using cmC_one _ _ _ _) (by omega) (by omega) fun y77 w18 hS18 hn18 => ?_
    obtain ⟨Lc', hOc', h⟩ := hS18.split
    have h := h.dr1.pl1
    refine r_st h 0 (o := 0) rfl (by rw [add_lit]) (by simp [bkC]) rfl fun w19 h => ?_
    have h : At w w19 ([(b18, bkC y77 tb, ty_impl_Book)] ++ (Lc' ++ (Ld ++ (Lm ++ (Le ++ ([(b17, (u8s (ckey c)).toArray, ty_impl_Key), (b16, row.cells.toArray, ty_impl_Commit), (b14, (u8s c.root).toArray, ty_impl_Key)] ++ (Ls ++ ([(b9, Array.replicate 32 (.int .u8 0), ty_impl_Key), (b8, bkC ⟨none, 0, 0⟩ ⟨none, 0, 0⟩, ty_impl_Book)] ++ [])))))))) := h
    refine r_draw h fun w20 h => ?_
    refine r_ld h 0 rfl (add_lit _ _ _) tb (by simp [Sh.emb]) rfl ?_
    have hyn2 := hy.n
    refine r_bs0 T_sl_Entry h fun y88 w21 hyy hyn3 => ?_
    refine r_chk1 (ldOk_own (sh := .slice) hyy.at_ 0 rfl 1 rfl (by simp [Sh.emb])) ?_
    refine r_append T_sl_Entry hyy (SlOf.at hy hyy.at_).sl (entCs_one _) (by omega) (by omega) fun r81 w22 hS22 hn22 => ?_
    rw [List.nil_append] at hS22
    obtain ⟨Ln, hOn, h⟩ := hS22.split
    refine r_chk1 (ldOk_own (sh := .slice) h.pl1 0 rfl 1 rfl (by simp [Sh.emb])) ?_
    refine r_bs1 T_sl_slEntry h rfl (by omega) fun y91 w23 hyy hyn4 => ?_
    obtain ⟨Lz, hOz, h⟩ := hyy.split
    refine r_chk1 (ldOk_own (sh := .slice) (At.pl2 h) 0 rfl 1 rfl (by simp [Sh.emb])) ?_
    refine r_append T_sl_slEntry (hOm.slo (At.pl5 h)) (hOz.sl h (List.sublist_append_left _ _)) (by simp [Value.cells, oneC]) (by omega) (by omega) fun y92 w24 hS24 hn24 => ?_
    obtain ⟨Lm', hOm', h⟩ := hS24.split
    have h := (At.dr1 h).pl2
    refine r_st h 0 (o := 1) rfl (by rw [add_lit]) (by simp [bkC]) rfl fun w25 h => ?_
    have h : At w w25 ([(b18, bkC y77 y92, ty_impl_Book)] ++ (Lm' ++ (Ln ++ (Lc' ++ (Ld ++ (Le ++ ([(b17, (u8s (ckey c)).toArray, ty_impl_Key), (b16, row.cells.toArray, ty_impl_Commit), (b14, (u8s c.root).toArray, ty_impl_Key)] ++ (Ls ++ ([(b9, Array.replicate 32 (.int .u8 0), ty_impl_Key), (b8, bkC ⟨none, 0, 0⟩ ⟨none, 0, 0⟩, ty_impl_Book)] ++ []))))))))) := h
    refine r_draw h fun w26 h => ?_
    refine r_ldA h 0 rfl rfl rfl ?_
    refine r_ldA h.pl6 0 rfl rfl (by simp [hck.1]) ?_
    have h := h.pl8
    refine r_stA h 1 rfl rfl rfl rfl (bkC_one _ _) fun w27 h => ?_
    have h : At w w27 ([(b9, Array.replicate 32 (.int .u8 0), ty_impl_Key), (b8, bkC y77 y92, ty_impl_Book)] ++ ([(b18, bkC y77 y92, ty_impl_Book)] ++ (Lm' ++ (Ln ++ (Lc' ++ (Ld ++ (Le ++ ([(b17, (u8s (ckey c)).toArray, ty_impl_Key), (b16, row.cells.toArray, ty_impl_Commit), (b14, (u8s c.root).toArray, ty_impl_Key)] ++ (Ls ++ []))))))))) := h
    refine r_chk1 (ldOk_blk h.pl7 0 rfl (by simp [hck.1])) ?_
    refine r_stA h 0 rfl rfl (by simp [hck.1]) (by simp) (by simpa using u8s_one) fun w28 h => ?_
    refine r_ldA h 1 rfl rfl rfl ?_
    refine r_ldA h 0 rfl rfl (by simp [hck.1]) ?_
    have h : At w w28 ([(b9, (u8s (ckey c)).toArray, ty_impl_Key), (b8, bkC y77 y92, ty_impl_Book)] ++ ([(b18, bkC y77 y92, ty_impl_Book)] ++ (Lm' ++ (Ln ++ (Lc' ++ (Ld ++ (Le ++ ([(b17, (u8s (ckey c)).toArray, ty_impl_Key), (b16, row.cells.toArray, ty_impl_Commit), (b14, (u8s c.root).toArray, ty_impl_Key)] ++ (Ls ++ []))))))))) := h
    refine r_ret h.nil (bkC y77 y92, (u8s (ckey c)).toArray, 0) rfl ⟨_, ownBook_end (h.right.right.pl5.right), ?_, ⟨rfl, hck⟩, rfl⟩
    refine ownBook_of (ts := ts ++ [row]) (us := us ++ [⟨r81, es⟩]) ?_ ?_ (keyOks_snoc hkt hrk2) ?_ ?_ (hE.snoc (b := ⟨r81, es⟩) hOn) ?_
    · rw [csnoc]
      exact hOc'
    · refine hD.snoc (b := row) ?_
      rw [hrow]
      exact ⟨by dsimp only; rw [hcp]; exact hOs, by dsimp only; rw [hcp]; exact hso⟩
    · rw [List.map_append, hts, List.map_singleton, hrowp]
    · rw [esnoc]
      exact hOm'
    · rw [List.map_append, hus, List.map_singleton]
  · have h2 : ∀ {v : World}, At w v ([(b14, (u8s c.root).toArray, ty_impl_Key)] ++ (Lk ++ (Ls ++ ([(b9, Array.replicate 32 (.int .u8 0), ty_impl_Key), (b8, bkC ⟨none, 0, 0⟩ ⟨none, 0, 0⟩, ty_impl_Book)] ++ [])))) → At w v (([(b14, (u8s c.root).toArray, ty_impl_Key)] ++ Lk) ++ (Ls ++ ([(b9, Array.replicate 32 (.int .u8 0), ty_impl_Key), (b8, bkC ⟨none, 0, 0⟩ ⟨none, 0, 0⟩, ty_impl_Book)] ++ []))) := fun h => by rw [List.append_assoc]; exact h
    refine r_draw h fun w9 h => ?_
    refine r_ldA h 0 rfl rfl (by simp [hrk.1]) ?_
    refine r_all2 ?_ ?_
    · refine r_call h (c_l07Number (hp.at h) hX (by omega) hnum (keys h) (srt (h2 h)) hin (by omega) (by omega)) fun r69 w10 h _ hr69 => ?_
      subst hr69
      refine r_chk1 (ldOk_blk h 0 rfl (by simp [hrk.1])) ?_
      rw [← hcn]
      refine r_pur (sh := .agg) _ (run_mkCommit hrk r21 _ note) ?_
      refine r_new h fun b16 w11 h => ?_
      have h : At w w11 ([(b16, (cmC zero32 ⟨none, 0, 0⟩ 0 ⟨#[]⟩).toArray, ty_impl_Commit), (b14, (u8s c.root).toArray, ty_impl_Key)] ++ (Lk ++ (Ls ++ ([(b9, Array.replicate 32 (.int .u8 0), ty_impl_Key), (b8, bkC ⟨none, 0, 0⟩ ⟨none, 0, 0⟩, ty_impl_Book)] ++ [])))) := h
      refine r_chk1 (ldOk_blk h 1 rfl (by simp [hrk.1])) ?_
      refine r_stA h 0 rfl rfl (by simp [hl]) (by simp [hzl]) (by simpa using cmC_one _ _ _ _) fun w12 h => ?_
      exact ⟨(⟨b16, 0, none⟩ : Addr), rfl, b16, rfl, by rw [hrowc]; exact h⟩
    · refine r_new h fun b16 w11 h => ?_
      have h : At w w11 ([(b16, (cmC zero32 ⟨none, 0, 0⟩ 0 ⟨#[]⟩).toArray, ty_impl_Commit), (b14, (u8s c.root).toArray, ty_impl_Key)] ++ (Lk ++ (Ls ++ ([(b9, Array.replicate 32 (.int .u8 0), ty_impl_Key), (b8, bkC ⟨none, 0, 0⟩ ⟨none, 0, 0⟩, ty_impl_Book)] ++ [])))) := h
      have h3 : At w w11 (([(b16, (cmC zero32 ⟨none, 0, 0⟩ 0 ⟨#[]⟩).toArray, ty_impl_Commit), (b14, (u8s c.root).toArray, ty_impl_Key)] ++ Lk) ++ (Ls ++ ([(b9, Array.replicate 32 (.int .u8 0), ty_impl_Key), (b8, bkC ⟨none, 0, 0⟩ ⟨none, 0, 0⟩, ty_impl_Book)] ++ []))) := by rw [List.append_assoc]; exact h
      refine r_chk1 (ldOk_blk h 1 rfl (by simp [hrk.1])) ?_
      refine r_call h (c_l07Number (hp.at h) hX (by omega) hnum (keys h) (srt h3) hin (by omega) (by omega)) fun r69 w12 h _ hr69 => ?_
      subst hr69
      refine r_chk1 (ldOk_blk h 1 rfl (by simp [hrk.1])) ?_
      rw [← hcn]
      refine r_pur (sh := .agg) _ (run_mkCommit hrk r21 _ note) ?_
      refine r_stA h 0 rfl rfl (by simp [hl]) (by simp [hzl]) (by simpa using cmC_one _ _ _ _) fun w13 h => ?_
      exact ⟨(⟨b16, 0, none⟩ : Addr), rfl, b16, rfl, by rw [hrowc]; exact h⟩)

end Go.Proofs.YtkifkdkjljcclaaGreat

namespace Go.Proofs.YtkifkdkjljcclaaGreat
open Go.Sx Go.RowKit

def ltN (a b : ByteArray) : Bool := Op.bytesLess a.toList b.toList
def AscN (es : List PE) : Prop := es.Pairwise fun e f => ltN e.1 f.1 = true
def entGood (e : PE) : Prop := nameOk e.1.size = true ∧ e.2.size ≤ 64
theorem entGood_of {es : List PE} (h : okE es) {e : PE} (he : e ∈ es) : entGood e := by
  obtain ⟨j, hj, rfl⟩ := List.getElem_of_mem he
  have hg := h.1 j hj
  have he2 : entE es j = es[j] := entE_get (List.getElem?_eq_getElem hj)
  unfold goodE at hg
  rw [he2] at hg
  simp only [Bool.and_eq_true, decide_eq_true_eq] at hg
  exact ⟨hg.1.1, hg.1.2⟩
theorem okE_of {es : List PE} (ha : AscN es) (hg : ∀ e ∈ es, entGood e) (hl : es.length ≤ 64) : okE es := by
  refine ⟨fun j hj => ?_, hl⟩
  have he2 : entE es j = es[j] := entE_get (List.getElem?_eq_getElem hj)
  have hgj := hg _ (List.getElem_mem hj)
  unfold goodE
  rw [he2]
  simp only [Bool.and_eq_true, Bool.or_eq_true, decide_eq_true_eq]
  refine ⟨⟨hgj.1, hgj.2⟩, ?_⟩
  rcases Nat.eq_zero_or_pos j with h0 | h0
  · exact .inl h0
  · refine .inr ?_
    have he3 : entE es (j - 1) = es[j - 1] := entE_get (List.getElem?_eq_getElem (by omega))
    rw [he3]
    exact List.pairwise_iff_getElem.1 ha (j - 1) j (by omega) hj (by omega)
theorem ent_set {es : List PE} {i : Nat} {e : PE} (h : es[i]? = some e) (x : ByteArray) : (es.flatMap entC).take (i * 2 + 1) ++ (Value.string x).cells.toList ++ (es.flatMap entC).drop (i * 2 + 1 + 1) = (es.take i ++ (e.1, x) :: es.drop (i + 1)).flatMap entC := by
  have hl := (List.getElem?_eq_some_iff.1 h).1
  have e1 : es = es.take i ++ e :: es.drop (i + 1) := by
    rw [← (List.getElem?_eq_some_iff.1 h).2, ← List.drop_eq_getElem_cons hl, List.take_append_drop]
  have hl2 : ((es.take i).flatMap entC).length = i * 2 := by rw [flatMap_length (z := 2) (fun l _ => entC_len l), List.length_take]; omega
  conv => lhs; rw [e1]
  generalize es.take i = A at hl2 ⊢
  generalize es.drop (i + 1) = B
  simp only [List.flatMap_append, List.flatMap_cons, entC, Value.cells]
  have t1 : (A.flatMap entC ++ ([Value.string e.1, Value.string e.2] ++ B.flatMap entC)).take (i * 2 + 1) = A.flatMap entC ++ [Value.string e.1] := by
    rw [List.take_append, hl2, List.take_of_length_le (by omega), show i * 2 + 1 - i * 2 = 1 by omega]
    rfl
  have t2 : (A.flatMap entC ++ ([Value.string e.1, Value.string e.2] ++ B.flatMap entC)).drop (i * 2 + 1 + 1) = B.flatMap entC := by
    rw [List.drop_append, hl2, List.drop_eq_nil_of_le (by omega), show i * 2 + 1 + 1 - i * 2 = 2 by omega]
    rfl
  rw [t1, t2]
  simp

end Go.Proofs.YtkifkdkjljcclaaGreat
