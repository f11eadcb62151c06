/- History: books are copied: both sides. History: a book with a further commit: both sides. -/
import Derived.Test.YtkifkdkjljcclaaGreatPkLAnc34
namespace Go.Sx
variable {w0 w : World}
theorem At.last2 {G C A B : List Blk} (h : At w0 w (G ++ (C ++ (A ++ (B ++ []))))) : At w0 w (G ++ (C ++ ((B ++ A) ++ []))) := by
  refine h.perm (List.Perm.append_left _ (List.Perm.append_left _ ?_))
  rw [List.append_nil, List.append_nil]
  exact List.perm_append_comm
theorem At.last3 {G C M A B : List Blk} (h : At w0 w (G ++ (C ++ (M ++ (A ++ (B ++ [])))))) : At w0 w (G ++ (C ++ (M ++ ((B ++ A) ++ [])))) := by
  refine h.perm (List.Perm.append_left _ (List.Perm.append_left _ (List.Perm.append_left _ ?_)))
  rw [List.append_nil, List.append_nil]
  exact List.perm_append_comm
end Go.Sx
namespace Go.Proofs.YtkifkdkjljcclaaGreat
open Go.Sx Go.RowKit

theorem run_mkBk (w : World) : (Instr.build ty_impl_Book #[]).run Tryz.prog w = .ok (.agg (bkC ⟨none, 0, 0⟩ ⟨none, 0, 0⟩)) w := by kernel_rfl
theorem csnoc {ts : List CR} {r : CR} : (ts ++ [r]).flatMap CR.cells = ts.flatMap CR.cells ++ (Value.agg r.cells.toArray).cells.toList := by
  rw [List.flatMap_append, List.flatMap_singleton]
  simp [Value.cells]
theorem esnoc {ts : List ER} {r : ER} : (ts ++ [r]).flatMap ER.cells = ts.flatMap ER.cells ++ (Value.slice r.d.a r.d.n r.d.c).cells.toList := by
  rw [List.flatMap_append, List.flatMap_singleton]
  simp [Value.cells, ER.cells]
theorem ownBook_of {s t : Sl} {ts : List CR} {us : List ER} {b : PBk} {Lc Ld Lm Le : List Blk} (h1 : OwnS ty_impl_Commit 35 s (ts.flatMap CR.cells) Lc) (h2 : OwnCD ts Ld) (h3 : ∀ r ∈ ts, keyOk r.root) (h4 : ts.map CR.pc = b.cms)
    (h5 : OwnS ty_sl_impl_Entry 1 t (us.flatMap ER.cells) Lm) (h6 : OwnED us Le) (h7 : us.map ER.es = b.maps) : OwnBook (bkC s t) b ((Lc ++ Ld) ++ (Lm ++ Le)) :=
  ⟨s, t, _, _, rfl, rfl, ⟨ts, h4, Lc, Ld, rfl, h1, h2, h3⟩, ⟨us, h7, Lm, Le, rfl, h5, h6⟩⟩
theorem keyOks_snoc {ts : List CR} {r : CR} (h : ∀ t ∈ ts, keyOk t.root) (hr : keyOk r.root) : ∀ t ∈ ts ++ [r], keyOk t.root := by
  intro x hx
  rcases List.mem_append.1 hx with hx | hx
  · exact h x hx
  · rw [List.mem_singleton.1 hx]; exact hr

theorem c_l07Copy {w : World} {p : Addr} {rs : List CR} {ms : List ER} {b : PBk} (hp : BkR w p rs ms) (hX : rs.map CR.pc = b.cms) (hM : ms.map ER.es = b.maps) (hv : validB b) :
    Ret Tryz.prog n_spec_l07Copy [.pointer (some p)] w [.agg] (fun r w' => ∃ L, At w w' L ∧ OwnBook r b L) := spec_l07Copy_calls _ (by
  unfold spec_l07Copy
  obtain ⟨s, t, hls, hlt, hs, ht⟩ := hp.ex
  have hsn := hs.n
  have htn := ht.n
  have hrl : rs.length = b.cms.length := by rw [← hX]; simp
  have hml : ms.length = b.maps.length := by rw [← hM]; simp
  have h40 := hv.1.1
  have hm40 := hv.1.2
  have ls_ : ∀ {v : World} {X : List Blk}, At w v X → ldOk v 1 (p.add 0) .slice s := fun h => ldOk_below h.below hls
  have lt_ : ∀ {v : World} {X : List Blk}, At w v X → ldOk v 1 (p.add 1) .slice t := fun h => ldOk_below h.below hlt
  refine r_new (At.refl w) fun b2 w2 h => ?_
  refine r_pur (sh := .agg) _ run_mkBk ?_
  refine r_new h fun b3 w3 h => ?_
  have h : At w w3 ([(b3, bkC ⟨none, 0, 0⟩ ⟨none, 0, 0⟩, ty_impl_Book), (b2, bkC ⟨none, 0, 0⟩ ⟨none, 0, 0⟩, ty_impl_Book)] ++ ([] ++ ([] ++ []))) := h
  refine r_stA h 0 rfl rfl rfl rfl (bkC_one _ _) fun w4 h => ?_
  refine r_loop (σ := Int) (fun i w' => ∃ (j : Nat) (sc : Sl) (ts : List CR) (Lc Ld : List Blk), i = j ∧ j ≤ rs.length ∧ At w w' ([(b3, bkC sc ⟨none, 0, 0⟩, ty_impl_Book), (b2, bkC ⟨none, 0, 0⟩ ⟨none, 0, 0⟩, ty_impl_Book)] ++ (Lc ++ (Ld ++ []))) ∧ OwnS ty_impl_Commit 35 sc (ts.flatMap CR.cells) Lc ∧ OwnCD ts Ld ∧ (∀ r ∈ ts, keyOk r.root) ∧ ts.map CR.pc = b.cms.take j ∧ sc.n = j) (fun i _ => (s.n - i).toNat) 0 rfl
    ⟨0, ⟨none, 0, 0⟩, [], [], [], rfl, by omega, h, by simpa using OwnS.nil ty_impl_Commit 35, .nil, by simp, by simp, rfl⟩ ?_
  clear h
  rintro i w5 ⟨j, sc, ts, Lc, Ld, rfl, hj, h, hOc, hD, hkt, hpb, hscn⟩
  refine r_any fun _ => ?_
  refine r_ldN s (ls_ h) ?_
  refine r_if ((j : Int) < (s.n : Int)) rfl (fun hlt => ?_) (fun hge => ?_)
  · obtain ⟨r, q, hr, hrm, hq, hko, hks, hcm⟩ := (hs.at h).get (i := j) (by omega)
    have hx := crmap_get hX hr
    have hp3 : r.ps.length ≤ 3 := (rows_ok hX hv r hrm).2.1
    have hl := crcells_len hko
    refine r_ldN s (ls_ h) ?_
    refine r_ix q hq (by omega) (by omega) ?_
    simp only [Int.toNat_natCast]
    refine r_ldN r.cells.toArray hcm.all ?_
    refine r_new h fun b5 w6 h => ?_
    refine r_stA h 0 rfl rfl (by simp [hl]) rfl (by simpa [CR.cells] using cmC_one _ _ _ _) fun w7 h => ?_
    have h : At w w7 ([(b5, (cmC r.root r.d r.num r.note).toArray, ty_impl_Commit)] ++ ([(b3, bkC sc ⟨none, 0, 0⟩, ty_impl_Book), (b2, bkC ⟨none, 0, 0⟩ ⟨none, 0, 0⟩, ty_impl_Book)] ++ (Lc ++ (Ld ++ [])))) := h
    refine r_bs0 T_sl_Key h fun y24 w8 hy hyn => ?_
    refine r_ld hy.at_ 0 rfl (add_lit _ _ _) r.d (by simp [Sh.emb]) (by rw [Nat.zero_add]; exact cm_d hko ..) ?_
    obtain ⟨r', q', hr', _, hq', _, hks', _⟩ := (hs.at hy.at_).get (i := j) (by omega)
    rw [hr] at hr'
    cases hr'
    have hdn := hks'.n
    refine r_append T_sl_Key hy hks'.of.sl (fun v hv => by
      obtain ⟨k, _, hk⟩ := List.mem_flatMap.1 hv
      exact u8s_one v hk) (by omega) (by omega) fun r18 w8 hS hn18 => ?_
    rw [List.nil_append] at hS
    obtain ⟨Lp, hOp, h⟩ := hS.split
    have h := h.pl1
    have hl2 : (cmC r.root r.d r.num r.note).length = 35 := cmC_len hko ..
    refine r_st h 0 (o := 32) rfl (by rw [add_lit, Nat.zero_add]) (by simp [hl2]) rfl fun w9 h => ?_
    rw [show (cmC r.root r.d r.num r.note).toArray.setIfInBounds 32 (.slice r18.a r18.n r18.c) = (cmC r.root r18 r.num r.note).toArray from cm_set hko _ _ _ 0 _] at h
    have h : At w w9 ([(b5, (cmC r.root r18 r.num r.note).toArray, ty_impl_Commit)] ++ (Lp ++ ([(b3, bkC sc ⟨none, 0, 0⟩, ty_impl_Book), (b2, bkC ⟨none, 0, 0⟩ ⟨none, 0, 0⟩, ty_impl_Book)] ++ (Lc ++ (Ld ++ []))))) := h
    have hl3 : (cmC r.root r18 r.num r.note).length = 35 := cmC_len hko ..
    refine r_ld h.pl2 0 rfl (add_lit _ _ _) sc (by simp [Sh.emb]) rfl ?_
    refine r_ldA h 0 rfl rfl (by simp [hl3]) ?_
    refine r_bs1 T_sl_Commit h (by simp [Value.cells, hl3]) (by omega) fun y23 w10 hy hyn => ?_
    obtain ⟨Ly, hOy, h⟩ := hy.split
    have h : At w w10 (Ly ++ ([(b5, (cmC r.root r18 r.num r.note).toArray, ty_impl_Commit)] ++ (Lp ++ ([(b3, bkC sc ⟨none, 0, 0⟩, ty_impl_Book), (b2, bkC ⟨none, 0, 0⟩ ⟨none, 0, 0⟩, ty_impl_Book)] ++ (Lc ++ (Ld ++ [])))))) := h
    refine r_append T_sl_Commit (hOc.slo h.pl4) (hOy.sl h (List.sublist_append_left _ _)) (by simpa [Value.cells] using cmC_one _ _ _ _) (by omega) (by omega) fun y24 w11 hS11 hn11 => ?_
    obtain ⟨Lc', hOc', h⟩ := hS11.split
    have h := (h.dr1.dr1).pl2
    refine r_st h 0 (o := 0) rfl (by rw [add_lit]) (by simp [bkC]) rfl fun w12 h => ?_
    have h : At w w12 ([(b3, bkC y24 ⟨none, 0, 0⟩, ty_impl_Book), (b2, bkC ⟨none, 0, 0⟩ ⟨none, 0, 0⟩, ty_impl_Book)] ++ (Lc' ++ (Lp ++ (Ld ++ [])))) := h
    refine ⟨((j + 1 : Nat) : Int), by rw [w64 (by omega) (by omega)]; rfl, ⟨j + 1, y24, ts ++ [⟨r.root, r18, r.ps, r.num, r.note⟩], Lc', Ld ++ Lp, rfl, by omega, h.last2, ?_, hD.snoc (b := ⟨r.root, r18, r.ps, r.num, r.note⟩) ⟨hOp, hks.ok⟩, keyOks_snoc hkt hko, ?_, by omega⟩, by omega⟩
    · rw [csnoc]
      exact hOc'
    · rw [List.map_append, hpb, take_succ_get hx]
      rfl
  · have hjl : j = rs.length := by omega
    subst hjl
    rw [List.take_of_length_le (by omega)] at hpb
    have h : At w w5 ([(b3, bkC sc ⟨none, 0, 0⟩, ty_impl_Book), (b2, bkC ⟨none, 0, 0⟩ ⟨none, 0, 0⟩, ty_impl_Book)] ++ ((Lc ++ Ld) ++ ([] ++ ([] ++ [])))) := by simpa [List.append_assoc] using h
    obtain ⟨C, hC⟩ : ∃ C, C = Lc ++ Ld := ⟨_, rfl⟩
    rw [← hC] at h
    refine r_loop (σ := Int) (fun i w' => ∃ (j : Nat) (sm : Sl) (us : List ER) (Lm Le : List Blk), i = j ∧ j ≤ ms.length ∧ At w w' ([(b3, bkC sc sm, ty_impl_Book), (b2, bkC ⟨none, 0, 0⟩ ⟨none, 0, 0⟩, ty_impl_Book)] ++ (C ++ (Lm ++ (Le ++ [])))) ∧ OwnS ty_sl_impl_Entry 1 sm (us.flatMap ER.cells) Lm ∧ OwnED us Le ∧ us.map ER.es = b.maps.take j ∧ sm.n = j) (fun i _ => (t.n - i).toNat) 0 rfl
      ⟨0, ⟨none, 0, 0⟩, [], [], [], rfl, by omega, h, by simpa using OwnS.nil ty_sl_impl_Entry 1, .nil, by simp, rfl⟩ ?_
    clear h
    rintro i w6 ⟨j, sm, us, Lm, Le, rfl, hj, h, hOm, hE, hpm, hsmn⟩
    refine r_any fun _ => ?_
    refine r_ldN t (lt_ h) ?_
    refine r_if ((j : Int) < (t.n : Int)) rfl (fun hlt => ?_) (fun hge2 => ?_)
    · refine r_draw h fun w7 h => ?_
      obtain ⟨m, q, hm, hmm, hq, hmo, hmd⟩ := ht.get (i := j) (by omega)
      have hx := ermap_get hM hm
      have hm64 : m.es.length ≤ 64 := by
        rw [mapAt_row hM hm]
        exact (hv.2 j (by omega)).2.1.2
      have lm_ : ∀ {v : World} {V : List Blk}, At w v (V ++ ([(b3, bkC sc sm, ty_impl_Book), (b2, bkC ⟨none, 0, 0⟩ ⟨none, 0, 0⟩, ty_impl_Book)] ++ (C ++ (Lm ++ (Le ++ []))))) → ldOk v 1 ((⟨b3, 0, none⟩ : Addr).add 1) .slice sm := fun h => ldOk_own (sh := .slice) h.pl1 0 rfl 1 rfl (by simp [Sh.emb])
      have lq_ : ∀ {v : World} {V : List Blk}, At w v V → ldOk v 1 (q.add (j * 1)) .slice m.d := fun h => ldOk_below h.below hmd
      refine r_ldN sm (lm_ (V := []) h) ?_
      refine r_ldN t (lt_ h) ?_
      refine r_ix q hq (by omega) (by omega) ?_
      simp only [Int.toNat_natCast]
      refine r_ldN m.d (lq_ h) ?_
      refine r_bs0 T_sl_Entry h fun y46 w8 hy hyn => ?_
      have hmdn := hmo.n
      refine r_chk3 (lq_ hy.at_) (lt_ hy.at_) (lm_ (V := []) hy.at_) ?_
      refine r_append T_sl_Entry hy (SlOf.at hmo hy.at_).sl (entCs_one _) (by omega) (by omega) fun r37 w8 hS hn37 => ?_
      rw [List.nil_append] at hS
      obtain ⟨Ln, hOn, h⟩ := hS.split
      refine r_chk2 (lt_ h) (lm_ h) ?_
      refine r_bs1 T_sl_slEntry h rfl (by omega) fun y38 w9 hy hyn => ?_
      obtain ⟨Ly, hOy, h⟩ := hy.split
      have h : At w w9 (Ly ++ (Ln ++ ([(b3, bkC sc sm, ty_impl_Book), (b2, bkC ⟨none, 0, 0⟩ ⟨none, 0, 0⟩, ty_impl_Book)] ++ (C ++ (Lm ++ (Le ++ [])))))) := h
      refine r_chk2 (lt_ h) (lm_ h.right) ?_
      refine r_append T_sl_slEntry (hOm.slo h.pl4) (hOy.sl h (List.sublist_append_left _ _)) (by simp [Value.cells, oneC]) (by omega) (by omega) fun y39 w10 hS10 hn10 => ?_
      obtain ⟨Lm', hOm', h⟩ := hS10.split
      refine r_chk1 (lt_ h) ?_
      have h := (h.dr1).pl2
      refine r_st h 0 (o := 1) rfl (by rw [add_lit]) (by simp [bkC]) rfl fun w11 h => ?_
      have h : At w w11 ([(b3, bkC sc y39, ty_impl_Book), (b2, bkC ⟨none, 0, 0⟩ ⟨none, 0, 0⟩, ty_impl_Book)] ++ (Lm' ++ (Ln ++ (C ++ (Le ++ []))))) := h
      have h : At w w11 ([(b3, bkC sc y39, ty_impl_Book), (b2, bkC ⟨none, 0, 0⟩ ⟨none, 0, 0⟩, ty_impl_Book)] ++ (C ++ (Lm' ++ (Ln ++ (Le ++ []))))) := h.pl3.pl1
      refine ⟨((j + 1 : Nat) : Int), by rw [w64 (by omega) (by omega)]; rfl, ⟨j + 1, y39, us ++ [⟨r37, m.es⟩], Lm', Le ++ Ln, rfl, by omega, h.last3, ?_, hE.snoc (b := ⟨r37, m.es⟩) hOn, ?_, by omega⟩, by omega⟩
      · rw [esnoc]
        exact hOm'
      · rw [List.map_append, hpm, take_succ_get hx]
        rfl
    · have hjl : j = ms.length := by omega
      subst hjl
      rw [List.take_of_length_le (by omega)] at hpm
      refine r_ldA h 0 rfl rfl rfl ?_
      refine r_stA h 1 rfl rfl rfl rfl (bkC_one _ _) fun w7 h => ?_
      refine r_ldA h 1 rfl rfl rfl ?_
      refine r_ret h.nil (bkC sc sm) rfl ⟨(Lc ++ Ld) ++ (Lm ++ Le), ?_, ownBook_of hOc hD hkt hpb hOm hE hpm⟩
      have h : At w w7 ([(b3, bkC sc sm, ty_impl_Book), (b2, bkC sc sm, ty_impl_Book)] ++ (C ++ (Lm ++ (Le ++ [])))) := h
      have h := h.right
      rw [hC] at h
      simpa using h)
end Go.Proofs.YtkifkdkjljcclaaGreat

namespace Go.Proofs.YtkifkdkjljcclaaGreat
open Go.Sx Go.RowKit

def comOf (b : PBk) (ps : List (List Int)) (es : List PE) (note : ByteArray) : PC := ⟨rootOf es, sortK ps, numC b.cms (keysB b) (sortK ps), note⟩
def noBk : PBk := ⟨[], []⟩
def comAns (b : PBk) (ps : List (List Int)) (es : List PE) (note : ByteArray) : PBk × List Int × Int :=
  if (sortK ps).length > 3 ∨ note.size > 64 then (noBk, zero32, 2)
  else if ∀ k ∈ sortK ps, k ∈ keysB b then
    (if b.cms.length = 40 then (noBk, zero32, 3)
    else if okE es then
      (if ckey (comOf b ps es note) ∈ keysB b then (noBk, zero32, 4) else (⟨b.cms ++ [comOf b ps es note], b.maps ++ [es]⟩, ckey (comOf b ps es note), 0))
    else (noBk, zero32, 1))
  else (noBk, zero32, 6)
theorem run_mkCommitF (f : Nat → Value) (d : Sl) (n : Int) (s : ByteArray) (w : World) : (Instr.build ty_impl_Commit #[(0, (.agg ((List.range 32).map f).toArray)), (1, (.slice d.a d.n d.c)), (2, (.int .i64 n)), (3, (.string s))]).run Tryz.prog w = .ok (.agg ((List.range 32).map f ++ [Value.slice d.a d.n d.c, Value.int .i64 n, Value.string s]).toArray) w := by kernel_rfl
theorem run_mkCommit {k : List Int} (hk : keyOk k) (d : Sl) (n : Int) (s : ByteArray) (w : World) : (Instr.build ty_impl_Commit #[(0, (.agg (u8s k).toArray)), (1, (.slice d.a d.n d.c)), (2, (.int .i64 n)), (3, (.string s))]).run Tryz.prog w = .ok (.agg (cmC k d n s).toArray) w := by
  unfold cmC cmT
  rw [list32 (l := u8s k) (by rw [u8s_len]; exact hk.1)]
  exact run_mkCommitF _ d n s w
theorem bad_commit {w w' : World} {V : List Blk} {b8 b9 : Nat} {G : PBk × List Int × Int} {c : Int} (hG : G = (noBk, zero32, c)) (h : At w w' ([(b9, Array.replicate 32 (.int .u8 0), ty_impl_Key), (b8, bkC ⟨none, 0, 0⟩ ⟨none, 0, 0⟩, ty_impl_Book)] ++ V)) :
    ((real Tryz.prog (RR w [.agg, .agg, .int .i64] (fun x w' => ∃ L, At w w' L ∧ OwnBook x.1 G.1 L ∧ RdKey w x.2.1 G.2.1 ∧ x.2.2 = G.2.2))).pur (Instr.build ty_impl_Book #[]) .agg fun y39 => (real Tryz.prog (RR w [.agg, .agg, .int .i64] (fun x w' => ∃ L, At w w' L ∧ OwnBook x.1 G.1 L ∧ RdKey w x.2.1 G.2.1 ∧ x.2.2 = G.2.2))).st 2 (Addr.mk b8 0 none) (.agg y39) <| (real Tryz.prog (RR w [.agg, .agg, .int .i64] (fun x w' => ∃ L, At w w' L ∧ OwnBook x.1 G.1 L ∧ RdKey w x.2.1 G.2.1 ∧ x.2.2 = G.2.2))).st 32 (Addr.mk b9 0 none) (.agg (Array.replicate 32 (.int .u8 0))) <| (real Tryz.prog (RR w [.agg, .agg, .int .i64] (fun x w' => ∃ L, At w w' L ∧ OwnBook x.1 G.1 L ∧ RdKey w x.2.1 G.2.1 ∧ x.2.2 = G.2.2))).ld .agg 2 (Addr.mk b8 0 none) fun z13 => (real Tryz.prog (RR w [.agg, .agg, .int .i64] (fun x w' => ∃ L, At w w' L ∧ OwnBook x.1 G.1 L ∧ RdKey w x.2.1 G.2.1 ∧ x.2.2 = G.2.2))).ld .agg 32 (Addr.mk b9 0 none) fun z14 => (real Tryz.prog (RR w [.agg, .agg, .int .i64] (fun x w' => ∃ L, At w w' L ∧ OwnBook x.1 G.1 L ∧ RdKey w x.2.1 G.2.1 ∧ x.2.2 = G.2.2))).ret (.tuple #[(.agg z13), (.agg z14), (.int .i64 c)]) : World → Prop) w' := by
  subst hG
  refine r_pur (sh := .agg) _ run_mkBk ?_
  refine r_stA h 1 rfl rfl rfl rfl (bkC_one _ _) fun w8 h => ?_
  refine r_stA h 0 rfl rfl (by simp) (by simp) (by simp [oneC]) fun w9 h => ?_
  refine r_ldA h 1 rfl rfl rfl ?_
  refine r_ldA h 0 rfl rfl (by simp) ?_
  exact r_ret h.nil (_, _, c) rfl ⟨[], h.nil, OwnBook.none, ⟨rfl, zero32_ok⟩, rfl⟩
theorem comAns_ok {b : PBk} {ps : List (List Int)} {es : List PE} {note : ByteArray} (h1 : (sortK ps).length ≤ 3) (h2 : note.size ≤ 64) (h3 : ∀ k ∈ sortK ps, k ∈ keysB b) (h4 : b.cms.length ≠ 40) (h5 : okE es) :
    comAns b ps es note = if ckey (comOf b ps es note) ∈ keysB b then (noBk, zero32, 4) else (⟨b.cms ++ [comOf b ps es note], b.maps ++ [es]⟩, ckey (comOf b ps es note), 0) := by
  unfold comAns
  rw [if_neg (by omega), if_pos h3, if_neg h4, if_pos h5]
theorem ownBook_end {w w' : World} {A1 A2 A3 A4 A5 A6 : List Blk} (h : At w w' (A1 ++ (A2 ++ (A3 ++ (A4 ++ (A5 ++ (A6 ++ []))))))) : At w w' ((A3 ++ (A4 ++ A6)) ++ (A1 ++ (A5 ++ A2))) := by
  have h := h.pl1.pl4.pl2.pl5.pl5.pl5
  simpa [List.append_assoc] using h

end Go.Proofs.YtkifkdkjljcclaaGreat
