/- History: a book with a further commit: the reference; CommitMap: both sides. More kinds of values of which laws speak: slices of changes. -/
import Derived.Test.YtaadgdbegpmlmaaGreatPkLUC29
import Derived.Test.YtaadgdbegpmlmaaGreatPkLUC15
import Derived.Test.YtaadgdbegpmlmaaGreatPkLUC16
import Derived.Test.YtaadgdbegpmlmaaGreatPkLUC17
namespace Go.Proofs.YtaadgdbegpmlmaaGreat
open Go.Sx Go.RowKit

theorem c_l07Commit {w : World} {p : Addr} {rs : List CR} {ms : List ER} {b : PBk} {x y : Sl} {ps : List (List Int)} {es : List PE} {note : ByteArray} (hp : BkR w p rs ms) (hX : rs.map CR.pc = b.cms) (hM : ms.map ER.es = b.maps) (hv : validB b) (hx : KsR w x ps) (hpm : ps.length ≤ 1073741824) (hy : EsR w y es) (hem : es.length ≤ 1073741824) :
    Ret Tryz.prog n_spec_l07Commit [.pointer (some p), .slice x.a x.n x.c, .slice y.a y.n y.c, .string note] w [.agg, .agg, .int .i64] (fun x w' => ∃ L, At w w' L ∧ OwnBook x.1 (comAns b ps es note).1 L ∧ RdKey w x.2.1 (comAns b ps es note).2.1 ∧ x.2.2 = (comAns b ps es note).2.2) := spec_l07Commit_calls _ _ _ _ (by
  unfold spec_l07Commit
  have hrl : rs.length = b.cms.length := by rw [← hX]; simp
  have hKl := keysB_len b
  have h40 := hv.1.1
  have hol := sortK_len ps
  refine r_new (At.refl w) fun b8 w1 h => ?_
  refine r_new h fun b9 w2 h => ?_
  have h : At w w2 ([(b9, Array.replicate 32 (.int .u8 0), ty_impl_Key), (b8, bkC ⟨none, 0, 0⟩ ⟨none, 0, 0⟩, ty_impl_Book)] ++ []) := h
  refine r_call h (c_l01Sort (z := zero32) (hx.at h) hpm rfl) fun r21 w3 _ _ ⟨hS, hn21⟩ => ?_
  obtain ⟨Ls, hOs, h⟩ := (SlO.lift h hS).split
  have hso : ∀ k ∈ sortK ps, keyOk k := fun k hk => hx.ok k ((sortK_mem _ _).1 hk)
  have srt : ∀ {v : World} {V : List Blk}, At w v (V ++ (Ls ++ ([(b9, Array.replicate 32 (.int .u8 0), ty_impl_Key), (b8, bkC ⟨none, 0, 0⟩ ⟨none, 0, 0⟩, ty_impl_Book)] ++ []))) → KsR v r21 (sortK ps) := fun h => ownS_ks hOs h ((List.sublist_append_left _ _).trans (List.sublist_append_right _ _)) hso
  refine r_joinI ?_
  refine r_if ((r21.n : Int) > 3) rfl (fun h3 => ?_) (fun h3 => ?_)
  · exact bad_commit (by unfold comAns; rw [if_pos (.inl (by omega))]) h.pl1
  refine r_if ((note.size : Int) > 64) rfl (fun h6 => ?_) (fun h6 => ?_)
  · exact bad_commit (by unfold comAns; rw [if_pos (.inr (by omega))]) h.pl1
  refine ⟨(), rfl, ?_⟩
  refine r_any fun _ => ?_
  have hnn : ¬ ((sortK ps).length > 3 ∨ note.size > 64) := by omega
  have hnum : ∀ k ∈ keysB b, 0 ≤ (cAt b.cms (keysB b) k).num ∧ (cAt b.cms (keysB b) k).num ≤ 40 := fun k hk => by
    have hl := ixK_lt hk
    exact (hv.2 (ixK (keysB b) k) (by omega)).1.2.2.1
  refine r_call h (c_l07Keys (hp.at h) (rows_ok hX hv) (by omega)) fun r33 w4 _ _ ⟨hS, hn33⟩ => ?_
  rw [hX] at hS
  obtain ⟨Lk, hOk, h⟩ := (SlO.lift h hS).split
  have keys : ∀ {v : World} {V : List Blk}, At w v (V ++ (Lk ++ (Ls ++ ([(b9, Array.replicate 32 (.int .u8 0), ty_impl_Key), (b8, bkC ⟨none, 0, 0⟩ ⟨none, 0, 0⟩, ty_impl_Book)] ++ [])))) → KsR v r33 (keysB b) := fun h => ownS_ks hOk h ((List.sublist_append_left _ _).trans (List.sublist_append_right _ _)) (keysB_ok b)
  refine r_loop (σ := Int) (fun i w' => ∃ j : Nat, i = j ∧ j ≤ (sortK ps).length ∧ (∀ k ∈ (sortK ps).take j, k ∈ keysB b) ∧ At w w' (Lk ++ (Ls ++ ([(b9, Array.replicate 32 (.int .u8 0), ty_impl_Key), (b8, bkC ⟨none, 0, 0⟩ ⟨none, 0, 0⟩, ty_impl_Book)] ++ [])))) (fun i _ => (r21.n - i).toNat) 0 rfl ⟨0, rfl, by omega, by simp, h⟩ ?_
  clear h
  rintro i w5 ⟨j, rfl, hj, hin, h⟩
  refine r_any fun _ => ?_
  refine r_if ((j : Int) < (r21.n : Int)) rfl (fun hlt => ?_) (fun hge => ?_)
  · obtain ⟨k, q, hk, hkm, hq, hko, hkl⟩ := (srt h).get (i := j) (by omega)
    refine r_ix q hq (by omega) (by omega) ?_
    refine r_ldN (u8s k).toArray (by simp only [Int.toNat_natCast]; exact hkl) ?_
    refine r_call h (c_l01Has (keys (V := []) h) hko (by omega)) fun r45 w6 h _ hr45 => ?_
    subst hr45
    by_cases hkK : k ∈ keysB b
    · rw [decide_eq_true hkK]
      refine r_false rfl ?_
      refine ⟨((j + 1 : Nat) : Int), by rw [w64 (by omega) (by omega)]; rfl, ⟨j + 1, rfl, by omega, fun y hy => ?_, h⟩, by omega⟩
      rw [take_succ_get hk] at hy
      rcases List.mem_append.1 hy with hy | hy
      · exact hin y hy
      · rw [List.mem_singleton.1 hy]; exact hkK
    · rw [decide_eq_false hkK]
      refine r_true rfl ?_
      exact bad_commit (by unfold comAns; rw [if_neg hnn, if_neg (fun hh => hkK (hh k hkm))]) h.pl2
  have hjl : j = (sortK ps).length := by omega
  subst hjl
  rw [List.take_of_length_le (Nat.le_refl _)] at hin
  refine r_eq (fun hfull => ?_) (fun hroom => ?_)
  · exact bad_commit (by unfold comAns; rw [if_neg hnn, if_pos hin, if_pos (by omega)]) h.pl2
  refine r_call h (c_spec_MapKey (SlOf.at hy h) hem) fun r56 w6 h _ hr56 => ?_
  obtain ⟨x1, x2⟩ := r56
  obtain ⟨hx1, hx2⟩ := hr56
  dsimp only at hx1 hx2
  subst hx1 hx2
  dsimp only
  have hrk0 : keyOk (if okE es then rootOf es else zero32) := by
    split
    · exact trKey_ok _
    · exact zero32_ok
  refine r_new h fun b14 w7 h => ?_
  refine r_stA h 0 rfl rfl (by simp [hrk0.1]) (by simp [Value.cells]) (by simpa using u8s_one) fun w8 h => ?_
  have h : At w w8 ([(b14, (u8s (if okE es then rootOf es else zero32)).toArray, ty_impl_Key)] ++ (Lk ++ (Ls ++ ([(b9, Array.replicate 32 (.int .u8 0), ty_impl_Key), (b8, bkC ⟨none, 0, 0⟩ ⟨none, 0, 0⟩, ty_impl_Book)] ++ [])))) := h
  by_cases hoe : okE es
  case neg =>
    rw [if_neg hoe]
    refine r_ne (fun _ => ?_) fun hh => absurd hh (by decide)
    exact bad_commit (by unfold comAns; rw [if_neg hnn, if_pos hin, if_neg (by omega), if_neg hoe]) h.pl3
  have h64 := hoe.2
  rw [if_pos hoe] at h hrk0 ⊢
  refine r_ne (fun hh => absurd rfl hh) fun _ => ?_
  have hans := comAns_ok (b := b) (ps := ps) (es := es) (note := note) (by omega) (by omega) hin (by omega) hoe
  rw [hans]
  obtain ⟨c, hc⟩ : ∃ c, c = comOf b ps es note := ⟨_, rfl⟩
  rw [← hc]
  have hcr : c.root = rootOf es := by rw [hc]; rfl
  have hcp : c.ps = sortK ps := by rw [hc]; rfl
  have hcn : c.num = numC b.cms (keysB b) (sortK ps) := by rw [hc]; rfl
  have hct : c.note = note := by rw [hc]; rfl
  rw [← hcr] at h hrk0
  have hrk := hrk0
  have hl : (cmC c.root r21 c.num note).length = 35 := cmC_len hrk ..
  have hzl : (cmC zero32 ⟨none, 0, 0⟩ 0 ⟨#[]⟩).length = 35 := cmC_len zero32_ok ..
  have hck := ckey_ok c
  obtain ⟨row, hrow⟩ : ∃ row : CR, row = ⟨c.root, r21, c.ps, c.num, note⟩ := ⟨_, rfl⟩
  have hrowc : row.cells = cmC c.root r21 c.num note := by rw [hrow]; rfl
  have hrowp : row.pc = c := by rw [hrow]; cases c; dsimp only at hct; subst hct; rfl
  have hrk2 : keyOk row.root := by rw [hrow]; exact hrk
  have hrl35 := crcells_len hrk2
  refine r_join (σ := Addr) (fun pt w' => ∃ b16, pt = ⟨b16, 0, none⟩ ∧ At w w' ([(b16, row.cells.toArray, ty_impl_Commit), (b14, (u8s c.root).toArray, ty_impl_Key)] ++ (Lk ++ (Ls ++ ([(b9, Array.replicate 32 (.int .u8 0), ty_impl_Key), (b8, bkC ⟨none, 0, 0⟩ ⟨none, 0, 0⟩, ty_impl_Book)] ++ []))))) (fun pt w9 ⟨b16, hpt, h⟩ => ?_) ?_
  · subst hpt
    refine r_any fun _ => ?_
    have hps : ∀ {v : World} {V : List Blk}, At w v (V ++ (Ls ++ ([(b9, Array.replicate 32 (.int .u8 0), ty_impl_Key), (b8, bkC ⟨none, 0, 0⟩ ⟨none, 0, 0⟩, ty_impl_Book)] ++ []))) → KsR v row.d row.ps := fun h => by rw [hrow]; dsimp only; rw [hcp]; exact srt h
    have h2 : At w w9 (([(b16, row.cells.toArray, ty_impl_Commit), (b14, (u8s c.root).toArray, ty_impl_Key)] ++ Lk) ++ (Ls ++ ([(b9, Array.replicate 32 (.int .u8 0), ty_impl_Key), (b8, bkC ⟨none, 0, 0⟩ ⟨none, 0, 0⟩, ty_impl_Book)] ++ []))) := by rw [List.append_assoc]; exact h
    refine r_call h (c_l07Key hrk2 (cmAt_of hrk2 (ldOk_blk h 0 rfl (by simp [hrl35]))) (hps h2) (by rw [hrow]; dsimp only; rw [hcp]; omega) (by rw [hrow]; dsimp only; omega)) fun r72 w10 h _ hr72 => ?_
    rw [hrowp] at hr72
    subst hr72
    refine r_new h fun b17 w11 h => ?_
    refine r_stA h 0 rfl rfl (by simp [hck.1]) (by simp [Value.cells]) (by simpa using u8s_one) fun w12 h => ?_
    have h : At w w12 ([(b17, (u8s (ckey c)).toArray, ty_impl_Key), (b16, row.cells.toArray, ty_impl_Commit), (b14, (u8s c.root).toArray, ty_impl_Key)] ++ (Lk ++ (Ls ++ ([(b9, Array.replicate 32 (.int .u8 0), ty_impl_Key), (b8, bkC ⟨none, 0, 0⟩ ⟨none, 0, 0⟩, ty_impl_Book)] ++ [])))) := h
    refine r_ldA h 0 rfl rfl (by simp [hck.1]) ?_
    refine r_call h (c_l01Has (keys h) hck (by omega)) fun r75 w13 h _ hr75 => ?_
    subst hr75
    by_cases hkn : ckey c ∈ keysB b
    · rw [if_pos hkn]
      refine r_true (decide_eq_true hkn) ?_
      exact bad_commit rfl h.pl3
    rw [if_neg hkn]
    refine r_false (decide_eq_false hkn) ?_
    refine r_call h (c_l07Copy (hp.at h) hX hM hv) fun r79 w14 _ _ ⟨Lb, hLb, hOb⟩ => ?_
    have h := h.join hLb
    obtain ⟨sb, tb, L1, L2, rfl, rfl, ⟨ts, hts, Lc, Ld, rfl, hOc, hD, hkt⟩, ⟨us, hus, Lm, Le, rfl, hOm, hE⟩⟩ := hOb
    have htl : ts.length = b.cms.length := by rw [← hts]; simp
    have hul : us.length = b.maps.length := by rw [← hus]; simp
    have hbn : sb.n = ts.length := by have := hOc.1; rw [flatMap_length (z := 35) (fun b hb => crcells_len (hkt b hb))] at this; omega
    have htn : tb.n = us.length := by have := hOm.1; rw [flatMap_length (z := 1) (fun b hb => ercells_len b)] at this; omega
    have hm40 := hv.1.2
    obtain ⟨Z, hZ⟩ : ∃ Z : List Blk, Z = Lk := ⟨_, rfl⟩
    refine r_new h fun b18 w15 h => ?_
    refine r_stA h 0 rfl rfl rfl rfl (bkC_one _ _) fun w16 h => ?_
    have h : At w w16 ([(b18, bkC sb tb, ty_impl_Book)] ++ (Lc ++ (Ld ++ (Lm ++ (Le ++ ([(b17, (u8s (ckey c)).toArray, ty_impl_Key), (b16, row.cells.toArray, ty_impl_Commit), (b14, (u8s c.root).toArray, ty_impl_Key)] ++ (Ls ++ ([(b9, Array.replicate 32 (.int .u8 0), ty_impl_Key), (b8, bkC ⟨none, 0, 0⟩ ⟨none, 0, 0⟩, ty_impl_Book)] ++ [])))))))) := by
      have h2 : At w w16 (([(b18, bkC sb tb, ty_impl_Book)] ++ (((Lc ++ Ld) ++ (Lm ++ Le)) ++ [(b17, (u8s (ckey c)).toArray, ty_impl_Key), (b16, row.cells.toArray, ty_impl_Commit), (b14, (u8s c.root).toArray, ty_impl_Key)])) ++ (Lk ++ (Ls ++ ([(b9, Array.replicate 32 (.int .u8 0), ty_impl_Key), (b8, bkC ⟨none, 0, 0⟩ ⟨none, 0, 0⟩, ty_impl_Book)] ++ [])))) := by
        have h3 : At w w16 ([(b18, bkC sb tb, ty_impl_Book)] ++ (((Lc ++ Ld) ++ (Lm ++ Le)) ++ ([(b17, (u8s (ckey c)).toArray, ty_impl_Key), (b16, row.cells.toArray, ty_impl_Commit), (b14, (u8s c.root).toArray, ty_impl_Key)] ++ (Lk ++ (Ls ++ ([(b9, Array.replicate 32 (.int .u8 0), ty_impl_Key), (b8, bkC ⟨none, 0, 0⟩ ⟨none, 0, 0⟩, ty_impl_Book)] ++ [])))))) := h
        simpa [List.append_assoc] using h3
      have h4 := h2.dr1
      simpa [List.append_assoc] using h4
    refine r_ld h 0 rfl (add_lit _ _ _) sb (by simp [Sh.emb]) rfl ?_
    refine r_ldA h.pl5 1 rfl rfl (by simp [hrl35]) ?_
    refine r_bs1 T_sl_Commit h (by simp [Value.cells, hrl35]) (by omega) fun y76 w17 hyy hyn => ?_
    obtain ⟨Ly, hOy, h⟩ := hyy.split
    have h : At w w17 (Ly ++ ([(b18, bkC sb tb, ty_impl_Book)] ++ (Lc ++ (Ld ++ (Lm ++ (Le ++ ([(b17, (u8s (ckey c)).toArray, ty_impl_Key), (b16, row.cells.toArray, ty_impl_Commit), (b14, (u8s c.root).toArray, ty_impl_Key)] ++ (Ls ++ ([(b9, Array.replicate 32 (.int .u8 0), ty_impl_Key), (b8, bkC ⟨none, 0, 0⟩ ⟨none, 0, 0⟩, ty_impl_Book)] ++ []))))))))) := h
    refine r_append T_sl_Commit (hOc.slo h.pl2) (hOy.sl h (List.sublist_append_left _ _)) (by simpa [Value.cells, CR.cells] using cmC_one _ _ _ _) (by omega) (by omega) fun y77 w18 hS18 hn18 => ?_
    obtain ⟨Lc', hOc', h⟩ := hS18.split
    have h := h.dr1.pl1
    refine r_st h 0 (o := 0) rfl (by rw [add_lit]) (by simp [bkC]) rfl fun w19 h => ?_
    have h : At w w19 ([(b18, bkC y77 tb, ty_impl_Book)] ++ (Lc' ++ (Ld ++ (Lm ++ (Le ++ ([(b17, (u8s (ckey c)).toArray, ty_impl_Key), (b16, row.cells.toArray, ty_impl_Commit), (b14, (u8s c.root).toArray, ty_impl_Key)] ++ (Ls ++ ([(b9, Array.replicate 32 (.int .u8 0), ty_impl_Key), (b8, bkC ⟨none, 0, 0⟩ ⟨none, 0, 0⟩, ty_impl_Book)] ++ [])))))))) := h
    refine r_draw h fun w20 h => ?_
    refine r_ld h 0 rfl (add_lit _ _ _) tb (by simp [Sh.emb]) rfl ?_
    have hyn2 := hy.n
    refine r_bs0 T_sl_Entry h fun y88 w21 hyy hyn3 => ?_
    refine r_chk1 (ldOk_own (sh := .slice) hyy.at_ 0 rfl 1 rfl (by simp [Sh.emb])) ?_
    refine r_append T_sl_Entry hyy (SlOf.at hy hyy.at_).sl (entCs_one _) (by omega) (by omega) fun r81 w22 hS22 hn22 => ?_
    rw [List.nil_append] at hS22
    obtain ⟨Ln, hOn, h⟩ := hS22.split
    refine r_chk1 (ldOk_own (sh := .slice) h.pl1 0 rfl 1 rfl (by simp [Sh.emb])) ?_
    refine r_bs1 T_sl_slEntry h rfl (by omega) fun y91 w23 hyy hyn4 => ?_
    obtain ⟨Lz, hOz, h⟩ := hyy.split
    refine r_chk1 (ldOk_own (sh := .slice) (At.pl2 h) 0 rfl 1 rfl (by simp [Sh.emb])) ?_
    refine r_append T_sl_slEntry (hOm.slo (At.pl5 h)) (hOz.sl h (List.sublist_append_left _ _)) (by simp [Value.cells, oneC]) (by omega) (by omega) fun y92 w24 hS24 hn24 => ?_
    obtain ⟨Lm', hOm', h⟩ := hS24.split
    have h := (At.dr1 h).pl2
    refine r_st h 0 (o := 1) rfl (by rw [add_lit]) (by simp [bkC]) rfl fun w25 h => ?_
    have h : At w w25 ([(b18, bkC y77 y92, ty_impl_Book)] ++ (Lm' ++ (Ln ++ (Lc' ++ (Ld ++ (Le ++ ([(b17, (u8s (ckey c)).toArray, ty_impl_Key), (b16, row.cells.toArray, ty_impl_Commit), (b14, (u8s c.root).toArray, ty_impl_Key)] ++ (Ls ++ ([(b9, Array.replicate 32 (.int .u8 0), ty_impl_Key), (b8, bkC ⟨none, 0, 0⟩ ⟨none, 0, 0⟩, ty_impl_Book)] ++ []))))))))) := h
    refine r_draw h fun w26 h => ?_
    refine r_ldA h 0 rfl rfl rfl ?_
    refine r_ldA h.pl6 0 rfl rfl (by simp [hck.1]) ?_
    have h := h.pl8
    refine r_stA h 1 rfl rfl rfl rfl (bkC_one _ _) fun w27 h => ?_
    have h : At w w27 ([(b9, Array.replicate 32 (.int .u8 0), ty_impl_Key), (b8, bkC y77 y92, ty_impl_Book)] ++ ([(b18, bkC y77 y92, ty_impl_Book)] ++ (Lm' ++ (Ln ++ (Lc' ++ (Ld ++ (Le ++ ([(b17, (u8s (ckey c)).toArray, ty_impl_Key), (b16, row.cells.toArray, ty_impl_Commit), (b14, (u8s c.root).toArray, ty_impl_Key)] ++ (Ls ++ []))))))))) := h
    refine r_chk1 (ldOk_blk h.pl7 0 rfl (by simp [hck.1])) ?_
    refine r_stA h 0 rfl rfl (by simp [hck.1]) (by simp) (by simpa using u8s_one) fun w28 h => ?_
    refine r_ldA h 1 rfl rfl rfl ?_
    refine r_ldA h 0 rfl rfl (by simp [hck.1]) ?_
    have h : At w w28 ([(b9, (u8s (ckey c)).toArray, ty_impl_Key), (b8, bkC y77 y92, ty_impl_Book)] ++ ([(b18, bkC y77 y92, ty_impl_Book)] ++ (Lm' ++ (Ln ++ (Lc' ++ (Ld ++ (Le ++ ([(b17, (u8s (ckey c)).toArray, ty_impl_Key), (b16, row.cells.toArray, ty_impl_Commit), (b14, (u8s c.root).toArray, ty_impl_Key)] ++ (Ls ++ []))))))))) := h
    refine r_ret h.nil (bkC y77 y92, (u8s (ckey c)).toArray, 0) rfl ⟨_, ownBook_end (h.right.right.pl5.right), ?_, ⟨rfl, hck⟩, rfl⟩
    refine ownBook_of (ts := ts ++ [row]) (us := us ++ [⟨r81, es⟩]) ?_ ?_ (keyOks_snoc hkt hrk2) ?_ ?_ (hE.snoc (b := ⟨r81, es⟩) hOn) ?_
    · rw [csnoc]
      exact hOc'
    · refine hD.snoc (b := row) ?_
      rw [hrow]
      exact ⟨by dsimp only; rw [hcp]; exact hOs, by dsimp only; rw [hcp]; exact hso⟩
    · rw [List.map_append, hts, List.map_singleton, hrowp]
    · rw [esnoc]
      exact hOm'
    · rw [List.map_append, hus, List.map_singleton]
  · have h2 : ∀ {v : World}, At w v ([(b14, (u8s c.root).toArray, ty_impl_Key)] ++ (Lk ++ (Ls ++ ([(b9, Array.replicate 32 (.int .u8 0), ty_impl_Key), (b8, bkC ⟨none, 0, 0⟩ ⟨none, 0, 0⟩, ty_impl_Book)] ++ [])))) → At w v (([(b14, (u8s c.root).toArray, ty_impl_Key)] ++ Lk) ++ (Ls ++ ([(b9, Array.replicate 32 (.int .u8 0), ty_impl_Key), (b8, bkC ⟨none, 0, 0⟩ ⟨none, 0, 0⟩, ty_impl_Book)] ++ []))) := fun h => by rw [List.append_assoc]; exact h
    refine r_draw h fun w9 h => ?_
    refine r_ldA h 0 rfl rfl (by simp [hrk.1]) ?_
    refine r_all2 ?_ ?_
    · refine r_call h (c_l07Number (hp.at h) hX (by omega) hnum (keys h) (srt (h2 h)) hin (by omega) (by omega)) fun r69 w10 h _ hr69 => ?_
      subst hr69
      refine r_chk1 (ldOk_blk h 0 rfl (by simp [hrk.1])) ?_
      rw [← hcn]
      refine r_pur (sh := .agg) _ (run_mkCommit hrk r21 _ note) ?_
      refine r_new h fun b16 w11 h => ?_
      have h : At w w11 ([(b16, (cmC zero32 ⟨none, 0, 0⟩ 0 ⟨#[]⟩).toArray, ty_impl_Commit), (b14, (u8s c.root).toArray, ty_impl_Key)] ++ (Lk ++ (Ls ++ ([(b9, Array.replicate 32 (.int .u8 0), ty_impl_Key), (b8, bkC ⟨none, 0, 0⟩ ⟨none, 0, 0⟩, ty_impl_Book)] ++ [])))) := h
      refine r_chk1 (ldOk_blk h 1 rfl (by simp [hrk.1])) ?_
      refine r_stA h 0 rfl rfl (by simp [hl]) (by simp [hzl]) (by simpa using cmC_one _ _ _ _) fun w12 h => ?_
      exact ⟨(⟨b16, 0, none⟩ : Addr), rfl, b16, rfl, by rw [hrowc]; exact h⟩
    · refine r_new h fun b16 w11 h => ?_
      have h : At w w11 ([(b16, (cmC zero32 ⟨none, 0, 0⟩ 0 ⟨#[]⟩).toArray, ty_impl_Commit), (b14, (u8s c.root).toArray, ty_impl_Key)] ++ (Lk ++ (Ls ++ ([(b9, Array.replicate 32 (.int .u8 0), ty_impl_Key), (b8, bkC ⟨none, 0, 0⟩ ⟨none, 0, 0⟩, ty_impl_Book)] ++ [])))) := h
      have h3 : At w w11 (([(b16, (cmC zero32 ⟨none, 0, 0⟩ 0 ⟨#[]⟩).toArray, ty_impl_Commit), (b14, (u8s c.root).toArray, ty_impl_Key)] ++ Lk) ++ (Ls ++ ([(b9, Array.replicate 32 (.int .u8 0), ty_impl_Key), (b8, bkC ⟨none, 0, 0⟩ ⟨none, 0, 0⟩, ty_impl_Book)] ++ []))) := by rw [List.append_assoc]; exact h
      refine r_chk1 (ldOk_blk h 1 rfl (by simp [hrk.1])) ?_
      refine r_call h (c_l07Number (hp.at h) hX (by omega) hnum (keys h) (srt h3) hin (by omega) (by omega)) fun r69 w12 h _ hr69 => ?_
      subst hr69
      refine r_chk1 (ldOk_blk h 1 rfl (by simp [hrk.1])) ?_
      rw [← hcn]
      refine r_pur (sh := .agg) _ (run_mkCommit hrk r21 _ note) ?_
      refine r_stA h 0 rfl rfl (by simp [hl]) (by simp [hzl]) (by simpa using cmC_one _ _ _ _) fun w13 h => ?_
      exact ⟨(⟨b16, 0, none⟩ : Addr), rfl, b16, rfl, by rw [hrowc]; exact h⟩)

theorem c_spec_ValidEntries {w : World} {s : Sl} {es : List PE} (hs : EsR w s es) (hmax : es.length ≤ 1073741824) : Ret Tryz.prog n_spec_ValidEntries [.slice s.a s.n s.c] w [.bool] (fun r _ => r = decide (okE es)) := spec_ValidEntries_calls _ (by
  unfold spec_ValidEntries
  refine r_call (At.refl w) (c_l04Ok hs hmax) fun r4 w1 h _ hr => ?_
  subst hr
  exact r_ret h _ rfl rfl)
end Go.Proofs.YtaadgdbegpmlmaaGreat

namespace Go.Proofs.YtaadgdbegpmlmaaGreat
open Go.Sx Go.RowKit

structure PCh where
  name : ByteArray
  had : Bool
  old : ByteArray
  has : Bool
  new : ByteArray
def chC (c : PCh) : List Value := [.string c.name, .bool c.had, .string c.old, .bool c.has, .string c.new]
theorem chC_len (c : PCh) : (chC c).length = 5 := rfl
theorem chC_one (c : PCh) : ∀ v ∈ chC c, oneC v = true := by
  intro v hv
  unfold chC at hv
  simp only [List.mem_cons, List.not_mem_nil, or_false] at hv
  rcases hv with rfl | rfl | rfl | rfl | rfl <;> rfl
abbrev ChsR (w : World) (s : Sl) (X : List PCh) : Prop := SlOf w s 5 chC X
theorem ChsR.get {w : World} {s : Sl} {X : List PCh} (h : ChsR w s X) {i : Nat} (hi : i < X.length) : ∃ c p, X[i]? = some c ∧ c ∈ X ∧ s.a = some p ∧ ldOk w 5 (p.add (i * 5)) .agg (chC c).toArray ∧ ldOk w 1 ((p.add (i * 5)).add 0) .str c.name ∧ ldOk w 1 ((p.add (i * 5)).add 1) .bool c.had ∧ ldOk w 1 ((p.add (i * 5)).add 2) .str c.old ∧ ldOk w 1 ((p.add (i * 5)).add 3) .bool c.has ∧ ldOk w 1 ((p.add (i * 5)).add 4) .str c.new := by
  have hk : X[i]? = some X[i] := List.getElem?_eq_getElem hi
  obtain ⟨p, hp, _⟩ := h.cell hk
  have ha := h.agg hk hp
  exact ⟨_, p, hk, List.getElem_mem hi, hp, ha, ha.2 0 _ rfl, ha.2 1 _ rfl, ha.2 2 _ rfl, ha.2 3 _ rfl, ha.2 4 _ rfl⟩
def RdChangeS (w : World) (s : Sl) (X : List PCh) : Prop := ChsR w s X
theorem RdChangeS.at {w w' : World} {bl : List Blk} {s : Sl} {X : List PCh} (h : RdChangeS w s X) (hA : At w w' bl) : RdChangeS w' s X := h.below hA.below
def OwnChangeS (s : Sl) (X : List PCh) (L : List Blk) : Prop := OwnS ty_impl_Change 5 s (X.flatMap chC) L
theorem OwnChangeS.none : OwnChangeS ⟨none, 0, 0⟩ [] [] := OwnS.nil _ _
theorem OwnChangeS.rd {w0 w : World} {s : Sl} {X : List PCh} {L bl : List Blk} (h : OwnChangeS s X L) (hA : At w0 w (L ++ bl)) : RdChangeS w s X := OwnS.of h hA (List.sublist_append_left _ _) (fun l _ => chC_len l) (by omega)
theorem OwnChangeS.n {s : Sl} {X : List PCh} {L : List Blk} (h : OwnChangeS s X L) : s.n = X.length := by have := h.1; rw [flatMap_length (z := 5) (fun l _ => chC_len l)] at this; omega
theorem T_sl_Change : SlT Tryz.prog ty_sl_impl_Change ty_impl_Change 5 64 := slT_of (by kernel_rfl)
end Go.Proofs.YtaadgdbegpmlmaaGreat
