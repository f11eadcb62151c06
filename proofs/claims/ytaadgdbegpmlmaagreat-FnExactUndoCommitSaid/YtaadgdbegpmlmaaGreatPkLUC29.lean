/- History: a book with a further commit: both sides. -/
import Derived.Test.YtaadgdbegpmlmaaGreatPkLUC28
namespace Go.Proofs.YtaadgdbegpmlmaaGreat
open Go.Sx Go.RowKit

def comOf (b : PBk) (ps : List (List Int)) (es : List PE) (note : ByteArray) : PC := ⟨rootOf es, sortK ps, numC b.cms (keysB b) (sortK ps), note⟩
def noBk : PBk := ⟨[], []⟩
def comAns (b : PBk) (ps : List (List Int)) (es : List PE) (note : ByteArray) : PBk × List Int × Int :=
  if (sortK ps).length > 3 ∨ note.size > 64 then (noBk, zero32, 2)
  else if ∀ k ∈ sortK ps, k ∈ keysB b then
    (if b.cms.length = 40 then (noBk, zero32, 3)
    else if okE es then
      (if ckey (comOf b ps es note) ∈ keysB b then (noBk, zero32, 4) else (⟨b.cms ++ [comOf b ps es note], b.maps ++ [es]⟩, ckey (comOf b ps es note), 0))
    else (noBk, zero32, 1))
  else (noBk, zero32, 6)
theorem noBk_size : sizeBook noBk = 0 := rfl
theorem comAns_size (b : PBk) (ps : List (List Int)) (es : List PE) (note : ByteArray) : sizeBook (comAns b ps es note).1 ≤ sizeBook b + sizeEntryS es + 100 := by
  unfold comAns
  split
  · rw [noBk_size]; omega
  · rename_i h
    split
    · split
      · rw [noBk_size]; omega
      · split
        · split
          · rw [noBk_size]; omega
          · unfold sizeBook sizeCommitS sizeEntrySS
            dsimp only
            rw [List.length_append, sumF_append, sumF_one, List.length_append, sumF_append, sumF_one]
            have h2 : szC (comOf b ps es note) = (sortK ps).length + note.size := rfl
            simp only [List.length_cons, List.length_nil]
            omega
        · rw [noBk_size]; omega
    · rw [noBk_size]; omega
theorem run_mkCommitF (f : Nat → Value) (d : Sl) (n : Int) (s : ByteArray) (w : World) : (Instr.build ty_impl_Commit #[(0, (.agg ((List.range 32).map f).toArray)), (1, (.slice d.a d.n d.c)), (2, (.int .i64 n)), (3, (.string s))]).run Tryz.prog w = .ok (.agg ((List.range 32).map f ++ [Value.slice d.a d.n d.c, Value.int .i64 n, Value.string s]).toArray) w := by kernel_rfl
theorem run_mkCommit {k : List Int} (hk : keyOk k) (d : Sl) (n : Int) (s : ByteArray) (w : World) : (Instr.build ty_impl_Commit #[(0, (.agg (u8s k).toArray)), (1, (.slice d.a d.n d.c)), (2, (.int .i64 n)), (3, (.string s))]).run Tryz.prog w = .ok (.agg (cmC k d n s).toArray) w := by
  unfold cmC cmT
  rw [list32 (l := u8s k) (by rw [u8s_len]; exact hk.1)]
  exact run_mkCommitF _ d n s w
theorem led_book {w : World} {p : Addr} {s t : Sl} (h1 : ldOk w 1 (p.add 0) .slice s) (h2 : ldOk w 1 (p.add 1) .slice t) : ldOk w 2 (p.add 0) .agg (bkC s t) := by
  refine ⟨rfl, fun i v hv => ?_⟩
  rw [Go.Deep.add_add, Nat.zero_add]
  match i, hv with
  | 0, hv => cases hv; exact h1
  | 1, hv => cases hv; exact h2
theorem bad_commit {w w' : World} {V : List Blk} {b8 b9 : Nat} {G : PBk × List Int × Int} {c : Int} (hG : G = (noBk, zero32, c)) (h : At w w' ([(b9, Array.replicate 32 (.int .u8 0), ty_impl_Key), (b8, bkC ⟨none, 0, 0⟩ ⟨none, 0, 0⟩, ty_impl_Book)] ++ V)) :
    ((real Tryz.prog (RR w [.agg, .agg, .int .i64] (fun x w' => ∃ L, At w w' L ∧ OwnBook x.1 G.1 L ∧ RdKey w x.2.1 G.2.1 ∧ x.2.2 = G.2.2))).pur (Instr.build ty_impl_Book #[]) .agg fun y39 => (real Tryz.prog (RR w [.agg, .agg, .int .i64] (fun x w' => ∃ L, At w w' L ∧ OwnBook x.1 G.1 L ∧ RdKey w x.2.1 G.2.1 ∧ x.2.2 = G.2.2))).st 2 (Addr.mk b8 0 none) (.agg y39) <| (real Tryz.prog (RR w [.agg, .agg, .int .i64] (fun x w' => ∃ L, At w w' L ∧ OwnBook x.1 G.1 L ∧ RdKey w x.2.1 G.2.1 ∧ x.2.2 = G.2.2))).st 32 (Addr.mk b9 0 none) (.agg (Array.replicate 32 (.int .u8 0))) <| (real Tryz.prog (RR w [.agg, .agg, .int .i64] (fun x w' => ∃ L, At w w' L ∧ OwnBook x.1 G.1 L ∧ RdKey w x.2.1 G.2.1 ∧ x.2.2 = G.2.2))).ld .agg 2 (Addr.mk b8 0 none) fun z13 => (real Tryz.prog (RR w [.agg, .agg, .int .i64] (fun x w' => ∃ L, At w w' L ∧ OwnBook x.1 G.1 L ∧ RdKey w x.2.1 G.2.1 ∧ x.2.2 = G.2.2))).ld .agg 32 (Addr.mk b9 0 none) fun z14 => (real Tryz.prog (RR w [.agg, .agg, .int .i64] (fun x w' => ∃ L, At w w' L ∧ OwnBook x.1 G.1 L ∧ RdKey w x.2.1 G.2.1 ∧ x.2.2 = G.2.2))).ret (.tuple #[(.agg z13), (.agg z14), (.int .i64 c)]) : World → Prop) w' := by
  subst hG
  refine r_pur (sh := .agg) _ run_mkBk ?_
  refine r_stA h 1 rfl rfl rfl rfl (bkC_one _ _) fun w8 h => ?_
  refine r_stA h 0 rfl rfl (by simp) (by simp) (by simp [oneC]) fun w9 h => ?_
  refine r_ldA h 1 rfl rfl rfl ?_
  refine r_ldA h 0 rfl rfl (by simp) ?_
  exact r_ret h.nil (_, _, c) rfl ⟨[], h.nil, OwnBook.none, ⟨rfl, zero32_ok⟩, rfl⟩
theorem comAns_ok {b : PBk} {ps : List (List Int)} {es : List PE} {note : ByteArray} (h1 : (sortK ps).length ≤ 3) (h2 : note.size ≤ 64) (h3 : ∀ k ∈ sortK ps, k ∈ keysB b) (h4 : b.cms.length ≠ 40) (h5 : okE es) :
    comAns b ps es note = if ckey (comOf b ps es note) ∈ keysB b then (noBk, zero32, 4) else (⟨b.cms ++ [comOf b ps es note], b.maps ++ [es]⟩, ckey (comOf b ps es note), 0) := by
  unfold comAns
  rw [if_neg (by omega), if_pos h3, if_neg h4, if_pos h5]
theorem sorted_is {ps out : List (List Int)} (ha : Asc out) (hm : ∀ x, x ∈ out ↔ x ∈ ps) : out = sortK ps := asc_ext ha (sortK_asc _) fun x => by rw [hm, sortK_mem]
theorem ownBook_end {w w' : World} {A1 A2 A3 A4 A5 A6 : List Blk} (h : At w w' (A1 ++ (A2 ++ (A3 ++ (A4 ++ (A5 ++ (A6 ++ []))))))) : At w w' ((A3 ++ (A4 ++ A6)) ++ (A1 ++ (A5 ++ A2))) := by
  have h := h.pl1.pl4.pl2.pl5.pl5.pl5
  simpa [List.append_assoc] using h

theorem c_led_commit {w : World} {p : Addr} {rs : List CR} {ms : List ER} {b : PBk} {x y : Sl} {ps : List (List Int)} {es : List PE} {note : ByteArray} (hp : LedR w p rs ms (keysB b)) (hX : rs.map CR.pc = b.cms) (hM : ms.map ER.es = b.maps) (hv : validB b) (hx : KsR w x ps) (hpm : ps.length ≤ 1073741824) (hy : EsR w y es) (hoe : okE es) :
    Ret Tryz.prog n_ptr_impl_ledger_commit [.pointer (some p), .slice x.a x.n x.c, .slice y.a y.n y.c, .string note] w [.agg, .agg, .int .i64] (fun x w' => ∃ L, At w w' L ∧ OwnBook x.1 (comAns b ps es note).1 L ∧ RdKey w x.2.1 (comAns b ps es note).2.1 ∧ x.2.2 = (comAns b ps es note).2.2) := ptr_impl_ledger_commit_calls _ _ _ _ (by
  unfold ptr_impl_ledger_commit
  obtain ⟨s, t, sk, hls, hlt, hlk, hs, ht, hkk⟩ := hp.ex
  have hrl : rs.length = b.cms.length := by rw [← hX]; simp
  have hKl := keysB_len b
  have h40 := hv.1.1
  have h64 := hoe.2
  have hents := okE_ents hoe
  have hkkn := hkk.n
  refine r_new (At.refl w) fun b8 w1 h => ?_
  refine r_new h fun b9 w2 h => ?_
  have h : At w w2 ([(b9, Array.replicate 32 (.int .u8 0), ty_impl_Key), (b8, bkC ⟨none, 0, 0⟩ ⟨none, 0, 0⟩, ty_impl_Book)] ++ []) := h
  refine r_call h (c_sorted (hx.at h) hpm) fun r19 w3 _ _ ⟨out, ha, hm, hol, _, hS, hn19⟩ => ?_
  have hout := sorted_is ha hm
  subst hout
  obtain ⟨Ls, hOs, h⟩ := (SlO.lift h hS).split
  have hso : ∀ k ∈ sortK ps, keyOk k := fun k hk => hx.ok k ((hm k).1 hk)
  have srt : ∀ {v : World} {V : List Blk}, At w v (V ++ (Ls ++ ([(b9, Array.replicate 32 (.int .u8 0), ty_impl_Key), (b8, bkC ⟨none, 0, 0⟩ ⟨none, 0, 0⟩, ty_impl_Book)] ++ []))) → KsR v r19 (sortK ps) := fun h => ownS_ks hOs h ((List.sublist_append_left _ _).trans (List.sublist_append_right _ _)) hso
  refine r_joinI ?_
  refine r_if ((r19.n : Int) > 3) rfl (fun h3 => ?_) (fun h3 => ?_)
  · exact bad_commit (by unfold comAns; rw [if_pos (.inl (by omega))]) h.pl1
  refine r_if ((note.size : Int) > 64) rfl (fun h6 => ?_) (fun h6 => ?_)
  · exact bad_commit (by unfold comAns; rw [if_pos (.inr (by omega))]) h.pl1
  refine ⟨(), rfl, ?_⟩
  refine r_any fun _ => ?_
  have hnn : ¬ ((sortK ps).length > 3 ∨ note.size > 64) := by omega
  have hnum : ∀ k ∈ keysB b, 0 ≤ (cAt b.cms (keysB b) k).num ∧ (cAt b.cms (keysB b) k).num ≤ 40 := fun k hk => by
    have hl := ixK_lt hk
    exact (hv.2 (ixK (keysB b) k) (by omega)).1.2.2.1
  refine r_call h (c_led_number (hp.at h) hX (by omega) hnum (srt (V := []) h) (by omega) (by omega)) fun r33 w4 h _ ⟨hr1, hr2⟩ => ?_
  obtain ⟨n1, n2⟩ := r33
  dsimp only at hr1 hr2 ⊢
  by_cases hin : ∀ k ∈ sortK ps, k ∈ keysB b
  case neg =>
    rw [decide_eq_false hin] at hr1
    subst hr1
    refine r_true rfl ?_
    exact bad_commit (by unfold comAns; rw [if_neg hnn, if_neg hin]) h.pl1
  rw [decide_eq_true hin] at hr1
  subst hr1
  have hn1 := hr2 rfl
  subst hn1
  refine r_false rfl ?_
  refine r_ldN sk (ldOk_below h.below hlk) ?_
  refine r_eq (fun hfull => ?_) (fun hroom => ?_)
  · exact bad_commit (by unfold comAns; rw [if_neg hnn, if_pos hin, if_pos (by omega)]) h.pl1
  have hans := comAns_ok (b := b) (ps := ps) (es := es) (note := note) (by omega) (by omega) hin (by omega) hoe
  rw [hans]
  obtain ⟨c, hc⟩ : ∃ c, c = comOf b ps es note := ⟨_, rfl⟩
  rw [← hc]
  refine r_call h (c_treeOf (SlOf.at hy h) hents (by omega)) fun r51 w5 _ _ ⟨Lt, hLt, hOt⟩ => ?_
  have hj : At w w5 (Lt ++ (Ls ++ ([(b9, Array.replicate 32 (.int .u8 0), ty_impl_Key), (b8, bkC ⟨none, 0, 0⟩ ⟨none, 0, 0⟩, ty_impl_Book)] ++ []))) := h.join hLt
  refine r_call hj (c_trKey (hOt.rd hj (List.sublist_append_left _ _))) fun r52 w6 h6 _ hr52 => ?_
  subst hr52
  have h := h6.right
  have hrk := trKey_ok (treeF (es.length + 1) es)
  refine r_pur (sh := .agg) _ (run_mkCommit hrk r19 _ note) ?_
  have hcr : c.root = trKey (treeF (es.length + 1) es) := by rw [hc]; rfl
  have hcp : c.ps = sortK ps := by rw [hc]; rfl
  have hcn : c.num = numC b.cms (keysB b) (sortK ps) := by rw [hc]; rfl
  have hct : c.note = note := by rw [hc]; rfl
  rw [← hcr, ← hcn]
  rw [← hcr] at hrk
  have hl : (cmC c.root r19 c.num note).length = 35 := cmC_len hrk ..
  have hzl : (cmC zero32 ⟨none, 0, 0⟩ 0 ⟨#[]⟩).length = 35 := cmC_len zero32_ok ..
  refine r_new h fun b13 w7 h => ?_
  have h : At w w7 ([(b13, (cmC zero32 ⟨none, 0, 0⟩ 0 ⟨#[]⟩).toArray, ty_impl_Commit)] ++ (Ls ++ ([(b9, Array.replicate 32 (.int .u8 0), ty_impl_Key), (b8, bkC ⟨none, 0, 0⟩ ⟨none, 0, 0⟩, ty_impl_Book)] ++ []))) := h
  refine r_stA h 0 rfl rfl (by simp [hl]) (by simp [hzl]) (by simpa using cmC_one _ _ _ _) fun w8 h => ?_
  have h : At w w8 ([(b13, (cmC c.root r19 c.num note).toArray, ty_impl_Commit)] ++ (Ls ++ ([(b9, Array.replicate 32 (.int .u8 0), ty_impl_Key), (b8, bkC ⟨none, 0, 0⟩ ⟨none, 0, 0⟩, ty_impl_Book)] ++ []))) := h
  refine r_ldA h 0 rfl rfl (by simp [hl]) ?_
  obtain ⟨row, hrow⟩ : ∃ row : CR, row = ⟨c.root, r19, c.ps, c.num, note⟩ := ⟨_, rfl⟩
  have hrowc : row.cells = cmC c.root r19 c.num note := by rw [hrow]; rfl
  have hrowp : row.pc = c := by rw [hrow]; cases c; dsimp only at hct; subst hct; rfl
  have hrk2 : keyOk row.root := by rw [hrow]; exact hrk
  have hck := ckey_ok c
  refine r_call h (by
    have := c_Commit_key (w := w8) (r := row) hrk2 (by rw [hrow]; dsimp only; rw [hcp]; exact srt h) (by rw [hrow]; dsimp only; rw [hcp]; omega) (by rw [hrow]; dsimp only; omega)
    rw [hrowc, hrowp] at this
    exact this) fun r58 w9 h _ hr58 => ?_
  subst hr58
  refine r_new h fun b14 w10 h => ?_
  refine r_stA h 0 rfl rfl (by simp [hck.1]) (by simp [Value.cells]) (by simpa using u8s_one) fun w11 h => ?_
  have h : At w w11 ([(b14, (u8s (ckey c)).toArray, ty_impl_Key), (b13, (cmC c.root r19 c.num note).toArray, ty_impl_Commit)] ++ (Ls ++ ([(b9, Array.replicate 32 (.int .u8 0), ty_impl_Key), (b8, bkC ⟨none, 0, 0⟩ ⟨none, 0, 0⟩, ty_impl_Book)] ++ []))) := h
  refine r_ldA h 0 rfl rfl (by simp [hck.1]) ?_
  refine r_call h (c_led_find (hp.at h) hck (by omega)) fun r62 w12 h _ hr62 => ?_
  subst hr62
  dsimp only
  by_cases hkn : ckey c ∈ keysB b
  · rw [if_pos hkn]
    refine r_true (decide_eq_true hkn) ?_
    exact bad_commit rfl h.pl2
  rw [if_neg hkn]
  refine r_false (decide_eq_false hkn) ?_
  refine r_ldN (bkC s t) (led_book (ldOk_below h.below hls) (ldOk_below h.below hlt)) ?_
  refine r_call h (c_copiedB (hs.at h) (ht.at h) hX hM hv) fun r72 w13 _ _ ⟨Lb, hLb, hOb⟩ => ?_
  have h := h.join hLb
  obtain ⟨sb, tb, L1, L2, rfl, rfl, ⟨ts, hts, Lc, Ld, rfl, hOc, hD, hkt⟩, ⟨us, hus, Lm, Le, rfl, hOm, hE⟩⟩ := hOb
  have htl : ts.length = b.cms.length := by rw [← hts]; simp
  have hul : us.length = b.maps.length := by rw [← hus]; simp
  have hbn : sb.n = ts.length := by have := hOc.1; rw [flatMap_length (z := 35) (fun b hb => crcells_len (hkt b hb))] at this; omega
  have htn : tb.n = us.length := by have := hOm.1; rw [flatMap_length (z := 1) (fun b hb => ercells_len b)] at this; omega
  have hm40 := hv.1.2
  refine r_new h fun b17 w14 h => ?_
  refine r_stA h 0 rfl rfl rfl rfl (bkC_one _ _) fun w15 h => ?_
  have h : At w w15 ([(b17, bkC sb tb, ty_impl_Book)] ++ (Lc ++ (Ld ++ (Lm ++ (Le ++ ([(b14, (u8s (ckey c)).toArray, ty_impl_Key), (b13, (cmC c.root r19 c.num note).toArray, ty_impl_Commit)] ++ (Ls ++ ([(b9, Array.replicate 32 (.int .u8 0), ty_impl_Key), (b8, bkC ⟨none, 0, 0⟩ ⟨none, 0, 0⟩, ty_impl_Book)] ++ [])))))))) := by
    have h2 : At w w15 ([(b17, bkC sb tb, ty_impl_Book)] ++ (((Lc ++ Ld) ++ (Lm ++ Le)) ++ ([(b14, (u8s (ckey c)).toArray, ty_impl_Key), (b13, (cmC c.root r19 c.num note).toArray, ty_impl_Commit)] ++ (Ls ++ ([(b9, Array.replicate 32 (.int .u8 0), ty_impl_Key), (b8, bkC ⟨none, 0, 0⟩ ⟨none, 0, 0⟩, ty_impl_Book)] ++ []))))) := h
    simpa [List.append_assoc] using h2
  refine r_draw h fun w16 h => ?_
  refine r_ld h 0 rfl (add_lit _ _ _) sb (by simp [Sh.emb]) rfl ?_
  refine r_ldA h.pl5 1 rfl rfl (by simp [hl]) ?_
  refine r_ld h 0 rfl (add_lit _ _ _) tb (by simp [Sh.emb]) rfl ?_
  refine r_bs1 T_sl_Commit h (by simp [Value.cells, hl]) (by omega) fun y76 w17 hyy hyn => ?_
  obtain ⟨Ly, hOy, h⟩ := hyy.split
  have h : At w w17 (Ly ++ ([(b17, bkC sb tb, ty_impl_Book)] ++ (Lc ++ (Ld ++ (Lm ++ (Le ++ ([(b14, (u8s (ckey c)).toArray, ty_impl_Key), (b13, (cmC c.root r19 c.num note).toArray, ty_impl_Commit)] ++ (Ls ++ ([(b9, Array.replicate 32 (.int .u8 0), ty_impl_Key), (b8, bkC ⟨none, 0, 0⟩ ⟨none, 0, 0⟩, ty_impl_Book)] ++ []))))))))) := h
  refine r_chk2 (ldOk_own (sh := .slice) h.pl1 0 rfl 1 rfl (by simp [Sh.emb])) (ldOk_own (sh := .slice) h.pl1 0 rfl 0 rfl (by simp [Sh.emb])) ?_
  refine r_append T_sl_Commit (hOc.slo h.pl2) (hOy.sl h (List.sublist_append_left _ _)) (by simpa [Value.cells] using cmC_one _ _ _ _) (by omega) (by omega) fun y77 w18 hS18 hn18 => ?_
  obtain ⟨Lc', hOc', h⟩ := hS18.split
  have h := h.dr1
  refine r_chk1 (ldOk_own (sh := .slice) h.pl1 0 rfl 1 rfl (by simp [Sh.emb])) ?_
  refine r_call h (c_CloneEntries (SlOf.at hy h) (by omega)) fun r81 w19 _ _ ⟨hS, hn81⟩ => ?_
  obtain ⟨Ln, hOn, h⟩ := (SlO.lift h hS).split
  refine r_chk1 (ldOk_own (sh := .slice) h.pl2 0 rfl 1 rfl (by simp [Sh.emb])) ?_
  refine r_bs1 T_sl_slEntry h rfl (by omega) fun y82 w20 hyy hyn2 => ?_
  obtain ⟨Lz, hOz, h⟩ := hyy.split
  refine r_chk1 (ldOk_own (sh := .slice) (At.pl3 h) 0 rfl 1 rfl (by simp [Sh.emb])) ?_
  refine r_append T_sl_slEntry (hOm.slo (At.pl5 h)) (hOz.sl h (List.sublist_append_left _ _)) (by simp [Value.cells, oneC]) (by omega) (by omega) fun y83 w21 hS21 hn21 => ?_
  obtain ⟨Lm', hOm', h⟩ := hS21.split
  have h := (At.dr1 h).pl3
  refine r_st h 0 (o := 0) rfl (by rw [add_lit]) (by simp [bkC]) rfl fun w22 h => ?_
  have h : At w w22 ([(b17, bkC y77 tb, ty_impl_Book)] ++ (Lm' ++ (Ln ++ (Lc' ++ (Ld ++ (Le ++ ([(b14, (u8s (ckey c)).toArray, ty_impl_Key), (b13, (cmC c.root r19 c.num note).toArray, ty_impl_Commit)] ++ (Ls ++ ([(b9, Array.replicate 32 (.int .u8 0), ty_impl_Key), (b8, bkC ⟨none, 0, 0⟩ ⟨none, 0, 0⟩, ty_impl_Book)] ++ []))))))))) := h
  refine r_st h 0 (o := 1) rfl (by rw [add_lit]) (by simp [bkC]) rfl fun w23 h => ?_
  have h : At w w23 ([(b17, bkC y77 y83, ty_impl_Book)] ++ (Lm' ++ (Ln ++ (Lc' ++ (Ld ++ (Le ++ ([(b14, (u8s (ckey c)).toArray, ty_impl_Key), (b13, (cmC c.root r19 c.num note).toArray, ty_impl_Commit)] ++ (Ls ++ ([(b9, Array.replicate 32 (.int .u8 0), ty_impl_Key), (b8, bkC ⟨none, 0, 0⟩ ⟨none, 0, 0⟩, ty_impl_Book)] ++ []))))))))) := h
  refine r_draw h fun w24 h => ?_
  refine r_ldA h 0 rfl rfl rfl ?_
  refine r_ldA h.pl6 0 rfl rfl (by simp [hck.1]) ?_
  have h := h.pl8
  refine r_stA h 1 rfl rfl rfl rfl (bkC_one _ _) fun w25 h => ?_
  have h : At w w25 ([(b9, Array.replicate 32 (.int .u8 0), ty_impl_Key), (b8, bkC y77 y83, ty_impl_Book)] ++ ([(b17, bkC y77 y83, ty_impl_Book)] ++ (Lm' ++ (Ln ++ (Lc' ++ (Ld ++ (Le ++ ([(b14, (u8s (ckey c)).toArray, ty_impl_Key), (b13, (cmC c.root r19 c.num note).toArray, ty_impl_Commit)] ++ (Ls ++ []))))))))) := h
  refine r_chk1 (ldOk_blk h.pl7 0 rfl (by simp [hck.1])) ?_
  refine r_stA h 0 rfl rfl (by simp [hck.1]) (by simp) (by simpa using u8s_one) fun w26 h => ?_
  refine r_ldA h 1 rfl rfl rfl ?_
  refine r_ldA h 0 rfl rfl (by simp [hck.1]) ?_
  have h : At w w26 ([(b9, (u8s (ckey c)).toArray, ty_impl_Key), (b8, bkC y77 y83, ty_impl_Book)] ++ ([(b17, bkC y77 y83, ty_impl_Book)] ++ (Lm' ++ (Ln ++ (Lc' ++ (Ld ++ (Le ++ ([(b14, (u8s (ckey c)).toArray, ty_impl_Key), (b13, (cmC c.root r19 c.num note).toArray, ty_impl_Commit)] ++ (Ls ++ []))))))))) := h
  refine r_ret h.nil (bkC y77 y83, (u8s (ckey c)).toArray, 0) rfl ⟨_, ownBook_end (h.right.right.pl5.right), ?_, ⟨rfl, hck⟩, rfl⟩
  refine ownBook_of (ts := ts ++ [row]) (us := us ++ [⟨r81, es⟩]) ?_ ?_ (keyOks_snoc hkt hrk2) ?_ ?_ (hE.snoc (b := ⟨r81, es⟩) hOn) ?_
  · rw [csnoc, hrowc]
    exact hOc'
  · refine hD.snoc (b := row) ?_
    rw [hrow]
    exact ⟨by dsimp only; rw [hcp]; exact hOs, by dsimp only; rw [hcp]; exact hso⟩
  · rw [List.map_append, hts, List.map_singleton, hrowp]
  · rw [esnoc]
    exact hOm'
  · rw [List.map_append, hus, List.map_singleton])
end Go.Proofs.YtaadgdbegpmlmaaGreat
