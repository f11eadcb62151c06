/- Packs: scanned, read, mended, spoilt (the program). Packs: the loops that read them (the program). -/
import Derived.Test.YtkifkdkjljcclaaGreatPkLTor37
import Derived.Test.YtkifkdkjljcclaaGreatPkLTor38
namespace Go.Proofs.YtkifkdkjljcclaaGreat
open Go.Sx Go.RowKit

theorem run_mkStore (s : Sl) (w : World) : (Instr.build ty_impl_Store #[(0, (.slice s.a s.n s.c))]).run Tryz.prog w = .ok (.agg #[.slice s.a s.n s.c]) w := by kernel_rfl
def ScanO (w0 w : World) (b : Nat) (sd : Sl) (a : Nat) (B : List PB) (ls : List Blk) : Prop :=
  ∃ (sb se : Sl) (bs : List BR) (E : List PEn) (Lb Le Ld : List Blk), bs.map BR.pb = B ∧ E.map (·.1) = keysOf B ∧ (∀ b ∈ B, b.ok) ∧ OwnS ty_impl_Blob 2 sb (bs.flatMap BR.cells) Lb ∧ OwnS ty_impl_PackEntry 35 se (E.flatMap penC) Le ∧ OwnData bs Ld ∧
    At w0 w ([(b, scC sd a sb se, ty_impl_scan)] ++ (Lb ++ (Le ++ (Ld ++ ls))))
theorem ek_of {E : List PEn} {B : List PB} (hE : E.map (·.1) = keysOf B) : ∀ e ∈ E, keyOk e.1 := fun e he => keysOf_ok B e.1 (by rw [← hE]; exact List.mem_map_of_mem (f := fun x : PEn => x.1) he)
theorem ScanR.of {w0 w : World} {b a : Nat} {sd sb se : Sl} {bs : List BR} {E : List PEn} {B : List PB} {Lb Le Ld ls : List Blk} (hpb : bs.map BR.pb = B) (hE : E.map (·.1) = keysOf B) (hok : ∀ b ∈ B, b.ok) (hb : OwnS ty_impl_Blob 2 sb (bs.flatMap BR.cells) Lb) (he : OwnS ty_impl_PackEntry 35 se (E.flatMap penC) Le) (hd : OwnData bs Ld)
    (h : At w0 w ([(b, scC sd a sb se, ty_impl_scan)] ++ (Lb ++ (Le ++ (Ld ++ ls))))) : ScanR w ⟨b, 0, none⟩ sd sb se a bs E where
  l0 := ldOk_own (sh := .slice) h 0 rfl 0 rfl (by simp [Sh.emb])
  l1 := ldOk_own (sh := .int .i64) h 0 rfl 1 rfl (by simp [Sh.emb])
  l2 := ldOk_own (sh := .slice) h 0 rfl 2 rfl (by simp [Sh.emb])
  l3 := ldOk_own (sh := .slice) h 0 rfl 3 rfl (by simp [Sh.emb])
  hB := ⟨hb.of h.pl1 (List.sublist_append_left _ _) (fun b _ => cells_len b) (by omega), hd.ok h.pl3 (List.sublist_append_left _ _) (by rw [hpb]; exact hok)⟩
  hE := he.of h.pl2 (List.sublist_append_left _ _) (fun e hem => penC_len (ek_of hE e hem)) (by omega)
  ek := ek_of hE
theorem c_scan_take {w0 w : World} {b a fin : Nat} {sd : Sl} {B : List PB} {L ls : List Blk} {br : BR} {e : PEn} (hs : ScanO w0 w b sd a B (L ++ ls)) (hL : OwnS ty_uint8 1 br.d (u8s br.data) L) (hbok : br.pb.ok) (hek : e.1 = br.pb.key) (h128 : B.length ≤ 128) :
    Calls Tryz.prog n_ptr_impl_scan_take [.pointer (some ⟨b, 0, none⟩), .agg br.cells.toArray, .agg (penC e).toArray, .int .i64 (fin : Int)].toArray w fun ee w' => ∃ v, ee = .returned v ∧ v = .tuple #[] ∧ ScanO w0 w' b sd fin (B ++ [br.pb]) ls := ptr_impl_scan_take_calls _ _ _ _ (by
  unfold ptr_impl_scan_take
  obtain ⟨sb, se, bs, E, Lb, Le, Ld, hpb, hE, hok, hOb, hOe, hOd, h⟩ := hs
  have hkl : br.pb.key.length = 32 := hashL_len _ _
  have hek' : keyOk e.1 := by rw [hek]; exact ⟨hkl, hashL_ok _ _⟩
  have hpe : (penC e).toArray.size = 35 := by simpa using penC_len hek'
  have hbl : bs.length = B.length := by rw [← hpb]; simp
  have hEl : E.length = B.length := by have := congrArg List.length hE; rwa [List.length_map, keysOf_len] at this
  have hbn : sb.n = bs.length := by
    have := hOb.1
    rw [flatMap_length (z := 2) (fun b _ => cells_len b)] at this
    omega
  have hen : se.n = E.length := by
    have := hOe.1
    rw [flatMap_length (z := 35) (fun e he => penC_len (ek_of hE e he))] at this
    omega
  refine r_new h fun b5 w1 h => ?_
  refine r_new h fun b6 w2 h => ?_
  refine r_draw h fun w3 h => ?_
  have h : At w0 w3 ([(b6, (penC e).toArray, ty_impl_PackEntry), (b5, br.cells.toArray, ty_impl_Blob), (b, scC sd a sb se, ty_impl_scan)] ++ (Lb ++ (Le ++ (Ld ++ (L ++ ls))))) := h
  refine r_ld h 2 rfl (add_lit _ _ _) sb (by simp [Sh.emb]) rfl ?_
  refine r_ldA h 1 rfl rfl rfl ?_
  refine r_ld h 2 rfl (add_lit _ _ _) se (by simp [Sh.emb]) rfl ?_
  refine r_ldA h 0 rfl rfl hpe ?_
  have l6 : ∀ {v : World} {X : List Blk}, At w0 v ([(b6, (penC e).toArray, ty_impl_PackEntry), (b5, br.cells.toArray, ty_impl_Blob), (b, scC sd a sb se, ty_impl_scan)] ++ X) → ldOk v 35 (⟨b6, 0, none⟩ : Addr) .agg (penC e).toArray := fun h => ldOk_blk h 0 rfl hpe
  have l5 : ∀ {v : World} {X : List Blk}, At w0 v ([(b6, (penC e).toArray, ty_impl_PackEntry), (b5, br.cells.toArray, ty_impl_Blob), (b, scC sd a sb se, ty_impl_scan)] ++ X) → ldOk v 2 (⟨b5, 0, none⟩ : Addr) .agg br.cells.toArray := fun h => ldOk_blk h 1 rfl rfl
  have l3 : ∀ {v : World} {X : List Blk}, At w0 v ([(b6, (penC e).toArray, ty_impl_PackEntry), (b5, br.cells.toArray, ty_impl_Blob), (b, scC sd a sb se, ty_impl_scan)] ++ X) → ldOk v 1 ((⟨b, 0, none⟩ : Addr).add 3) .slice se := fun h => ldOk_own (sh := .slice) h 2 rfl 3 rfl (by simp [Sh.emb])
  have l2 : ∀ {v : World} {X : List Blk}, At w0 v ([(b6, (penC e).toArray, ty_impl_PackEntry), (b5, br.cells.toArray, ty_impl_Blob), (b, scC sd a sb se, ty_impl_scan)] ++ X) → ldOk v 1 ((⟨b, 0, none⟩ : Addr).add 2) .slice sb := fun h => ldOk_own (sh := .slice) h 2 rfl 2 rfl (by simp [Sh.emb])
  -- behind each order: both slices are laid into the scan
  have fin_ : ∀ {v : World} {y17 y24 : Sl} {Lb' Le' : List Blk}, At w0 v ([(b6, (penC e).toArray, ty_impl_PackEntry), (b5, br.cells.toArray, ty_impl_Blob), (b, scC sd a sb se, ty_impl_scan)] ++ (Le' ++ (Lb' ++ (Ld ++ (L ++ ls))))) → OwnS ty_impl_Blob 2 y17 (bs.flatMap BR.cells ++ br.cells) Lb' → OwnS ty_impl_PackEntry 35 y24 (E.flatMap penC ++ penC e) Le' →
      ((real Tryz.prog (fun v w' => v = .tuple #[] ∧ ScanO w0 w' b sd fin (B ++ [br.pb]) ls)).st 1 ((Addr.mk b 0 none).add 2) (.slice y17.a y17.n y17.c) <|
       (real Tryz.prog (fun v w' => v = .tuple #[] ∧ ScanO w0 w' b sd fin (B ++ [br.pb]) ls)).st 1 ((Addr.mk b 0 none).add 3) (.slice y24.a y24.n y24.c) <|
       (real Tryz.prog (fun v w' => v = .tuple #[] ∧ ScanO w0 w' b sd fin (B ++ [br.pb]) ls)).st 1 ((Addr.mk b 0 none).add 1) (.int .i64 (fin : Int)) <|
       (real Tryz.prog (fun v w' => v = .tuple #[] ∧ ScanO w0 w' b sd fin (B ++ [br.pb]) ls)).ret (.tuple #[]) : World → Prop) v := fun {v y17 y24 Lb' Le'} h hO17 hO24 => by
    refine r_st h 2 rfl (add_lit _ _ _) (by simp) rfl fun v1 h => ?_
    have h : At w0 v1 ([(b6, (penC e).toArray, ty_impl_PackEntry), (b5, br.cells.toArray, ty_impl_Blob), (b, scC sd a y17 se, ty_impl_scan)] ++ (Le' ++ (Lb' ++ (Ld ++ (L ++ ls))))) := h
    refine r_st h 2 rfl (add_lit _ _ _) (by simp) rfl fun v2 h => ?_
    have h : At w0 v2 ([(b6, (penC e).toArray, ty_impl_PackEntry), (b5, br.cells.toArray, ty_impl_Blob), (b, scC sd a y17 y24, ty_impl_scan)] ++ (Le' ++ (Lb' ++ (Ld ++ (L ++ ls))))) := h
    refine r_st h 2 rfl (add_lit _ _ _) (by simp) rfl fun v3 h => ?_
    have h : At w0 v3 ([(b6, (penC e).toArray, ty_impl_PackEntry), (b5, br.cells.toArray, ty_impl_Blob)] ++ ([(b, scC sd fin y17 y24, ty_impl_scan)] ++ (Le' ++ (Lb' ++ (Ld ++ (L ++ ls)))))) := h
    have h := h.right.pl2.pl1
    rw [← List.append_assoc Ld] at h
    refine r_retR ⟨rfl, y17, y24, bs ++ [br], E ++ [e], Lb', Le', Ld ++ L, by rw [List.map_append, hpb]; rfl, by rw [List.map_append, hE]; simp [keysOf, hek], ?_, by simpa [List.flatMap_append] using hO17, by simpa [List.flatMap_append] using hO24, hOd.snoc hL, h⟩
    intro c hc
    rcases List.mem_append.1 hc with hc | hc
    · exact hok c hc
    · rw [List.mem_singleton.1 hc]; exact hbok
  refine r_all2 ?_ ?_
  · refine r_bs1 T_sl_Blob h rfl (by omega) fun y16 w4 hS16 hn16 => ?_
    obtain ⟨L16, hO16, h⟩ := hS16.split
    have h := h.pl1
    refine r_chk3 (l6 h) (l3 h) (l2 h) ?_
    refine r_all2 ?_ ?_
    · refine r_append T_sl_Blob (hOb.slo h.pl2) (hO16.sl h.pl1 (List.sublist_append_left _ _)) (by simpa [Value.cells] using cells_one br) (by omega) (by omega) fun y17 w5 hS hn17 => ?_
      obtain ⟨Lb', hOb', h⟩ := hS.split
      have h := h.pl1
      refine r_chk2 (l6 h) (l3 h) ?_
      refine r_bs1 T_sl_PackEntry h (v := .agg (penC e).toArray) (by simpa [Value.cells] using penC_len hek') (by omega) fun y23 w6 hS23 hn23 => ?_
      obtain ⟨L23, hO23, h⟩ := hS23.split
      have h := h.pl1
      refine r_chk1 (l3 h) ?_
      refine r_append T_sl_PackEntry (hOe.slo h.pl4) (hO23.sl h.pl1 (List.sublist_append_left _ _)) (by simpa [Value.cells] using penC_one e) (by omega) (by omega) fun y24 w7 hS hn24 => ?_
      obtain ⟨Le', hOe', h⟩ := hS.split
      have h := h.pl1.dr2.dr3
      exact fin_ h (by simpa [Value.cells] using hOb') (by simpa [Value.cells] using hOe')
    · refine r_bs1 T_sl_PackEntry h (v := .agg (penC e).toArray) (by simpa [Value.cells] using penC_len hek') (by omega) fun y23 w6 hS23 hn23 => ?_
      obtain ⟨L23, hO23, h⟩ := hS23.split
      have h := h.pl1
      refine r_chk2 (l3 h) (l2 h) ?_
      refine r_append T_sl_Blob (hOb.slo h.pl3) (hO16.sl h.pl2 (List.sublist_append_left _ _)) (by simpa [Value.cells] using cells_one br) (by omega) (by omega) fun y17 w5 hS hn17 => ?_
      obtain ⟨Lb', hOb', h⟩ := hS.split
      have h := h.pl1
      refine r_chk1 (l3 h) ?_
      refine r_append T_sl_PackEntry (hOe.slo h.pl4) (hO23.sl h.pl2 (List.sublist_append_left _ _)) (by simpa [Value.cells] using penC_one e) (by omega) (by omega) fun y24 w7 hS hn24 => ?_
      obtain ⟨Le', hOe', h⟩ := hS.split
      have h := h.pl1.dr3.dr3
      exact fin_ h (by simpa [Value.cells] using hOb') (by simpa [Value.cells] using hOe')
  · refine r_bs1 T_sl_PackEntry h (v := .agg (penC e).toArray) (by simpa [Value.cells] using penC_len hek') (by omega) fun y23 w6 hS23 hn23 => ?_
    obtain ⟨L23, hO23, h⟩ := hS23.split
    have h := h.pl1
    refine r_chk3 (l3 h) (l5 h) (l2 h) ?_
    refine r_bs1 T_sl_Blob h rfl (by omega) fun y16 w4 hS16 hn16 => ?_
    obtain ⟨L16, hO16, h⟩ := hS16.split
    have h := h.pl1
    refine r_chk2 (l3 h) (l2 h) ?_
    refine r_append T_sl_Blob (hOb.slo h.pl3) (hO16.sl h.pl1 (List.sublist_append_left _ _)) (by simpa [Value.cells] using cells_one br) (by omega) (by omega) fun y17 w5 hS hn17 => ?_
    obtain ⟨Lb', hOb', h⟩ := hS.split
    have h := h.pl1
    refine r_chk1 (l3 h) ?_
    refine r_append T_sl_PackEntry (hOe.slo h.pl4) (hO23.sl h.pl3 (List.sublist_append_left _ _)) (by simpa [Value.cells] using penC_one e) (by omega) (by omega) fun y24 w7 hS hn24 => ?_
    obtain ⟨Le', hOe', h⟩ := hS.split
    have h := h.pl1.dr3.dr3
    exact fin_ h (by simpa [Value.cells] using hOb') (by simpa [Value.cells] using hOe'))
end Go.Proofs.YtkifkdkjljcclaaGreat

namespace Go.Proofs.YtkifkdkjljcclaaGreat
open Go.Sx Go.RowKit

def lenSc (b : Nat) (w : World) : Nat := match w.heap[b]? with
  | some (Obj.cells cs _ _) => (match cs[2]? with
    | some (Value.slice _ n _) => n
    | _ => 0)
  | _ => 0
theorem ScanO.len {w0 w : World} {b a : Nat} {sd : Sl} {B : List PB} {ls : List Blk} (h : ScanO w0 w b sd a B ls) : lenSc b w = B.length := by
  obtain ⟨sb, se, bs, E, Lb, Le, Ld, hpb, hE, hok, hOb, hOe, hOd, h⟩ := h
  have hbl : bs.length = B.length := by rw [← hpb]; simp
  have := hOb.1
  rw [flatMap_length (z := 2) (fun b _ => cells_len b)] at this
  unfold lenSc
  rw [h.get (i := 0) rfl]
  show sb.n = _
  omega
theorem scan_step {d : List Int} {a fin : Nat} {B : List PB} {b : PB} {x : Int} (hv : validS B) (h : recP d a B = some (b, x, fin)) (hr : rightP d B b fin) (hl : B.length < 128) : validS (B ++ [b]) := by
  refine ⟨by rw [List.length_append]; simp; omega, fun c hc => ?_, ?_⟩
  · rcases List.mem_append.1 hc with hc | hc
    · exact hv.2.1 c hc
    · rw [List.mem_singleton.1 hc]; exact (recP_fin h).2.2.1
  · have e : keysOf (B ++ [b]) = keysOf B ++ [b.key] := by simp [keysOf]
    rw [e]
    refine asc_snoc hv.2.2 fun y hy => ?_
    have : (keysOf B).getLast? = B.getLast?.map PB.key := by unfold keysOf; rw [List.getLast?_map]
    rw [this] at hy
    cases hB : B.getLast? with
    | none => rw [hB] at hy; cases hy
    | some c =>
      rw [hB] at hy
      cases hy
      exact hr.2 c hB
theorem scan_valid {d : List Int} : ∀ {f a : Nat} {B : List PB}, validS B → f + B.length = 128 → validS (scanGo d f a B).2
  | 0, a, B, hv, _ => hv
  | f + 1, a, B, hv, hl => by
    unfold scanGo
    cases h : recP d a B with
    | none => exact hv
    | some y =>
      obtain ⟨b, x, fin⟩ := y
      dsimp only
      split
      · rename_i hr
        exact scan_valid (scan_step hv h hr (by omega)) (by rw [List.length_append]; simp; omega)
      · exact hv
def HTP : List Int := [72, 84, 80, 49]
theorem scan_perm {w0 w : World} {L K Lb Le Ld : List Blk} (h : At w0 w (L ++ (K ++ (Lb ++ (Le ++ (Ld ++ [])))))) : At w0 w (K ++ (Lb ++ (Le ++ (Ld ++ (L ++ []))))) := h.perm (by
  rw [List.append_nil, List.append_nil]
  have e1 : (L ++ (K ++ (Lb ++ (Le ++ Ld)))).Perm ((K ++ (Lb ++ (Le ++ Ld))) ++ L) := List.perm_append_comm
  simpa [List.append_assoc] using e1)
set_option maxRecDepth 4000 in
theorem c_scanPack {w : World} {sd : Sl} {d : List Int} (hd : BSl w sd d) (hmax : d.length ≤ 140000) :
    Ret Tryz.prog n_impl_scanPack [.slice sd.a sd.n sd.c] w [.optr, .int .i64] (fun r w' => (d.take 4 = HTP ∧ r.2 = 0 ∧ ∃ b, r.1 = some ⟨b, 0, none⟩ ∧ ScanO w w' b sd (scanGo d 128 4 []).1 (scanGo d 128 4 []).2 []) ∨ (d.take 4 ≠ HTP ∧ r = (none, 5))) := impl_scanPack_calls _ (by
  unfold impl_scanPack
  refine r_call (At.refl w) (c_newScan hd hmax) fun r13 w1 h _ hr => ?_
  rcases hr with ⟨h4, hr2, b, hr1, hA⟩ | ⟨h4, rfl⟩
  rotate_left
  · refine r_true rfl ?_
    exact r_ret h.nil (none, (5 : Int)) rfl (.inr ⟨h4, rfl⟩)
  rw [hr2, hr1]
  refine r_false rfl ?_
  have hdl : 4 ≤ d.length := by
    have := congrArg List.length h4
    rw [List.length_take] at this
    simp at this
    omega
  have hS0 : ScanO w w1 b sd 4 [] [] := ⟨⟨none, 0, 0⟩, ⟨none, 0, 0⟩, [], [], [], [], [], rfl, rfl, by simp, OwnS.nil _ _, OwnS.nil _ _, .nil, hA⟩
  refine r_loop (σ := Unit) (fun _ w' => ∃ (f a : Nat) (B : List PB), ScanO w w' b sd a B [] ∧ f + B.length = 128 ∧ scanGo d f a B = scanGo d 128 4 [] ∧ a ≤ d.length ∧ validS B) (fun _ w' => 128 - lenSc b w') () rfl ⟨128, 4, [], hS0, rfl, rfl, hdl, validS_nil⟩ ?_
  clear hS0 hA h
  rintro _ w2 ⟨f, a, B, hS, hf, hgo, ha, hv⟩
  have hlen := hS.len
  refine r_any fun _ => ?_
  refine r_dp rfl ?_
  have hSS := hS
  obtain ⟨sb, se, bs, E, Lb, Le, Ld, hpb, hE, hok, hOb, hOe, hOd, h⟩ := hS
  have hR := ScanR.of hpb hE hok hOb hOe hOd h
  have hbl : bs.length = B.length := by rw [← hpb]; simp
  have hbn := hR.hB.n
  have stop : ∀ {v : World}, ScanO w v b sd a B [] → scanGo d f a B = (a, B) → ((real Tryz.prog (RR w [.optr, .int .i64] (fun r w' => (d.take 4 = HTP ∧ r.2 = 0 ∧ ∃ b, r.1 = some ⟨b, 0, none⟩ ∧ ScanO w w' b sd (scanGo d 128 4 []).1 (scanGo d 128 4 []).2 []) ∨ (d.take 4 ≠ HTP ∧ r = (none, 5))))).ret (.tuple #[.pointer (some ⟨b, 0, none⟩), .int .i64 0]) : World → Prop) v := fun {v} hS e => by
    have hA : At w v [] := by
      obtain ⟨_, _, _, _, _, _, _, _, _, _, _, _, _, h⟩ := hS
      exact h.nil
    refine r_ret hA (some ⟨b, 0, none⟩, (0 : Int)) rfl (.inl ⟨h4, rfl, b, rfl, ?_⟩)
    rw [← hgo, e]
    exact hS
  refine r_ldN (sh := .slice) sb hR.l2 ?_
  refine r_if ((sb.n : Int) < 128) rfl (fun hlt => ?_) (fun hge => ?_)
  · obtain ⟨g, rfl⟩ : ∃ g, f = g + 1 := ⟨f - 1, by omega⟩
    refine r_call h (c_record hR hpb hE (hd.at h) ha hmax hv.1 hv.2.1) fun r27 w3 h3 _ hQ => ?_
    obtain ⟨q1, q2, q3, q4, hQ⟩ := hQ
    rcases hQ with ⟨hnone, hokf⟩ | ⟨bb, x, fin, hsome, hokf, hfin, hright, br, L, e, he1, he2, he3, hOL, hAL, he4, he5⟩
    · refine r_new h3 fun b6 w4 h4' => ?_
      refine r_new h4' fun b7 w5 h5 => ?_
      refine r_stA h5 1 rfl rfl q1 rfl q2 fun w6 h6 => ?_
      refine r_stA h6 0 rfl rfl q3 rfl q4 fun w7 h7 => ?_
      have h7 : At w w7 ((b7, r27.2.1, ty_impl_PackEntry) :: ((b6, r27.1, ty_impl_Blob) :: ([(b, scC sd a sb se, ty_impl_scan)] ++ (Lb ++ (Le ++ (Ld ++ [])))))) := h7
      rw [hokf]
      refine r_true rfl ?_
      refine stop ⟨sb, se, bs, E, Lb, Le, Ld, hpb, hE, hok, hOb, hOe, hOd, h7.tail.tail⟩ ?_
      unfold scanGo
      rw [hnone]
    · have h3 := h.join hAL
      refine r_new h3 fun b6 w4 h4' => ?_
      refine r_new h4' fun b7 w5 h5 => ?_
      refine r_stA h5 1 rfl rfl q1 rfl q2 fun w6 h6 => ?_
      refine r_stA h6 0 rfl rfl q3 rfl q4 fun w7 h7 => ?_
      have h7 : At w w7 ([(b7, r27.2.1, ty_impl_PackEntry), (b6, r27.1, ty_impl_Blob)] ++ (L ++ ([(b, scC sd a sb se, ty_impl_scan)] ++ (Lb ++ (Le ++ (Ld ++ [])))))) := h7
      rw [hokf]
      refine r_false rfl ?_
      rw [hright]
      have hstep : scanGo d (g + 1) a B = if rightP d B bb fin then scanGo d g fin (B ++ [bb]) else (a, B) := by
        conv => lhs; unfold scanGo
        rw [hsome]
      by_cases hr : rightP d B bb fin
      · rw [decide_eq_true hr]
        refine r_false rfl ?_
        rw [if_pos hr] at hstep
        refine r_ldA h7 1 rfl rfl q1 ?_
        refine r_ldA h7 0 rfl rfl q3 ?_
        rw [hfin, he1, he4]
        have hsc : ScanO w w7 b sd a B (L ++ []) := ⟨sb, se, bs, E, Lb, Le, Ld, hpb, hE, hok, hOb, hOe, hOd, scan_perm h7.right⟩
        refine r_callR (c_scan_take (fin := fin) hsc hOL (by rw [he2]; exact he3) (by rw [he5, he2]) (by omega)) ?_
        rintro v w8 ⟨rfl, hS8⟩
        refine ⟨(), rfl, ?_⟩
        rw [he2] at hS8
        have hl8 := hS8.len
        rw [List.length_append, List.length_singleton] at hl8
        have hfin2 := recP_fin hsome
        exact ⟨(), rfl, ⟨g, fin, B ++ [bb], hS8, by rw [List.length_append]; simp; omega, by rw [← hstep]; exact hgo, hfin2.1, scan_step hv hsome hr (by omega)⟩, by omega⟩
      · rw [decide_eq_false hr]
        refine r_true rfl ?_
        rw [if_neg hr] at hstep
        exact stop ⟨sb, se, bs, E, Lb, Le, Ld, hpb, hE, hok, hOb, hOe, hOd, h7.right.right⟩ hstep
  · have hf0 : f = 0 := by omega
    subst hf0
    exact stop hSS rfl)
def readAns (d : List Int) : List PB × Int := if d.take 4 = HTP then readGo d 129 4 [] else ([], 5)
theorem c_readPack {w : World} {sd : Sl} {d : List Int} (hd : BSl w sd d) (hmax : d.length ≤ 140000) :
    Ret Tryz.prog n_impl_readPack [.slice sd.a sd.n sd.c] w [.optr, .int .i64] (fun r w' => ((readAns d).2 = 0 ∧ r.2 = 0 ∧ ∃ b a, r.1 = some ⟨b, 0, none⟩ ∧ ScanO w w' b sd a (readAns d).1 []) ∨ ((readAns d).2 ≠ 0 ∧ (readAns d).1 = [] ∧ r = (none, (readAns d).2))) := impl_readPack_calls _ (by
  unfold impl_readPack
  have hdn := hd.n
  have hdc := hd.cap
  refine r_call (At.refl w) (c_newScan hd hmax) fun r13 w1 h _ hr => ?_
  rcases hr with ⟨h4, hr2, b, hr1, hA⟩ | ⟨h4, rfl⟩
  rotate_left
  · refine r_true rfl ?_
    have e : readAns d = ([], 5) := if_neg h4
    rw [e]
    exact r_ret h.nil (none, (5 : Int)) rfl (.inr ⟨by decide, rfl, rfl⟩)
  rw [hr2, hr1]
  refine r_false rfl ?_
  have hdl : 4 ≤ d.length := by
    have := congrArg List.length h4
    rw [List.length_take] at this
    simp at this
    omega
  have hans : readAns d = readGo d 129 4 [] := if_pos h4
  have hS0 : ScanO w w1 b sd 4 [] [] := ⟨⟨none, 0, 0⟩, ⟨none, 0, 0⟩, [], [], [], [], [], rfl, rfl, by simp, OwnS.nil _ _, OwnS.nil _ _, .nil, hA⟩
  refine r_loop (σ := Unit) (fun _ w' => ∃ (f a : Nat) (B : List PB), ScanO w w' b sd a B [] ∧ f + B.length = 129 ∧ readGo d f a B = readAns d ∧ a ≤ d.length ∧ validS B) (fun _ w' => 128 - lenSc b w') () rfl ⟨129, 4, [], hS0, rfl, hans.symm, hdl, validS_nil⟩ ?_
  clear hS0 hA h
  rintro _ w2 ⟨f, a, B, hS, hf, hgo, ha, hv⟩
  have hlen := hS.len
  have h128 := hv.1
  obtain ⟨g, rfl⟩ : ∃ g, f = g + 1 := ⟨f - 1, by omega⟩
  have hgo : (if 34 ≤ (d.drop a).length ∧ (d.drop a).getD 0 0 = 2 then
      if (d.drop a).getD 1 0 ≠ B.length ∨ 34 < (d.drop a).length then ([], 5)
      else if (d.drop a).drop 2 ≠ hashL 8 (d.take a) then ([], 8) else (B, 0)
    else match recP d a B with
      | none => ([], 5)
      | some (b, _, fin) => if B.length = 128 then ([], 5) else if rightP d B b fin then readGo d g fin (B ++ [b]) else ([], 8)) = readAns d := hgo
  refine r_any fun _ => ?_
  refine r_dp rfl ?_
  have hSS := hS
  obtain ⟨sb, se, bs, E, Lb, Le, Ld, hpb, hE, hok, hOb, hOe, hOd, h⟩ := hS
  have hR := ScanR.of hpb hE hok hOb hOe hOd h
  have hbl : bs.length = B.length := by rw [← hpb]; simp
  have hbn := hR.hB.n
  have bad : ∀ {v : World} {c : Int} {X : List Blk}, At w v X → readAns d = ([], c) → c ≠ 0 → ((real Tryz.prog (RR w [.optr, .int .i64] (fun r w' => ((readAns d).2 = 0 ∧ r.2 = 0 ∧ ∃ b a, r.1 = some ⟨b, 0, none⟩ ∧ ScanO w w' b sd a (readAns d).1 []) ∨ ((readAns d).2 ≠ 0 ∧ (readAns d).1 = [] ∧ r = (none, (readAns d).2))))).ret (.tuple #[.pointer none, .int .i64 c]) : World → Prop) v := fun {v c X} hA e hc =>
    r_ret hA.nil (none, c) rfl (.inr (by rw [e]; exact ⟨hc, rfl, rfl⟩))
  refine r_ldN (sh := .int .i64) (a : Int) hR.l1 ?_
  refine r_slSufG a rfl (by omega) hdc fun y25 hn25 _ hy25 => ?_
  have h25 := hy25 hd
  have hrl : (d.drop a).length = d.length - a := List.length_drop
  have h25n := h25.n
  have h25c := h25.cap
  have byte : ∀ i, i < (d.drop a).length → ∃ q, y25.a = some q ∧ ldOk w 1 (q.add (i * 1)) (.int .u8) ((d.drop a).getD i 0) := fun i hi => by
    obtain ⟨q, hq, hl⟩ := h25.byte hi
    exact ⟨q, hq, hl 1⟩
  refine r_join (σ := Bool) (fun x w' => x = decide (34 ≤ (d.drop a).length ∧ (d.drop a).getD 0 0 = 2) ∧ w' = w2) (fun x w3 hJ => ?_) ?_
  rotate_left
  · refine r_if ((y25.n : Int) ≥ 34) rfl (fun c => ?_) (fun c => ⟨false, rfl, (decide_eq_false fun hh => c (by have := hh.1; omega)).symm, rfl⟩)
    obtain ⟨q, hq, hl⟩ := byte 0 (by omega)
    refine r_ix q hq (by omega) (by omega) ?_
    refine r_ldN (sh := .int .u8) _ (ldOk_below h.below hl) ?_
    refine ⟨_, rfl, ?_, rfl⟩
    by_cases h2 : (d.drop a).getD 0 0 = 2
    · rw [decide_eq_true ⟨by omega, h2⟩, h2]; rfl
    · rw [decide_eq_false (fun hh => h2 hh.2), beq_eq_false_iff_ne.2 h2]
  obtain ⟨rfl, rfl⟩ := hJ
  refine r_any fun _ => ?_
  refine r_if (34 ≤ (d.drop a).length ∧ (d.drop a).getD 0 0 = 2) rfl (fun hend => ?_) (fun hno => ?_)
  · rw [if_pos hend] at hgo
    refine r_join (σ := Bool) (fun x w' => x = decide ((d.drop a).getD 1 0 ≠ B.length ∨ 34 < (d.drop a).length) ∧ At w w' ([(b, scC sd a sb se, ty_impl_scan)] ++ (Lb ++ (Le ++ (Ld ++ []))))) (fun x w4 hJ => ?_) ?_
    rotate_left
    · refine r_draw h fun w4 h => ?_
      have hR := ScanR.of hpb hE hok hOb hOe hOd h
      obtain ⟨q, hq, hl⟩ := byte 1 (by omega)
      have hg1 := h25.ok.get 1
      refine r_ix q hq (by omega) (by omega) ?_
      refine r_ldN (sh := .int .u8) _ (ldOk_below h.below hl) ?_
      refine r_dp rfl ?_
      refine r_ldN (sh := .slice) sb hR.l2 ?_
      rw [w64 (n := (d.drop a).getD 1 0) (by omega) (by omega)]
      refine r_ne (fun hne => ⟨true, rfl, (decide_eq_true (.inl (by omega))).symm, h⟩) (fun heq => ?_)
      exact ⟨_, rfl, decide_eq_decide.2 ⟨fun hh => .inr (by omega), fun hh => by
        rcases hh with hh | hh
        · exact absurd (by omega) hh
        · omega⟩, h⟩
    obtain ⟨rfl, h⟩ := hJ
    refine r_any fun _ => ?_
    refine r_if ((d.drop a).getD 1 0 ≠ B.length ∨ 34 < (d.drop a).length) rfl (fun hbad => ?_) (fun hgood => ?_)
    · rw [if_pos hbad] at hgo
      exact bad h hgo.symm (by decide)
    rw [if_neg hgood] at hgo
    refine r_draw h fun w5 h => ?_
    have hR := ScanR.of hpb hE hok hOb hOe hOd h
    refine r_slSufG 2 rfl (by omega) h25c fun y53 hn53 _ hy53 => ?_
    have h53 := hy53 h25
    have h53n := h53.n
    have h53l : ((d.drop a).drop 2).length = 32 := by rw [List.length_drop]; omega
    obtain ⟨q5, hq5, _⟩ := h53.byte (i := 0) (by omega)
    rw [hq5]
    refine r_pur (sh := .ptr) q5 (fun w' => run_arrayAt (n := 32) (e := ty_uint8) (by kernel_rfl) (by omega) w') ?_
    have hkey : ldOk w 32 q5 .agg (u8s ((d.drop a).drop 2)).toArray := by
      have := h53.sl.agg hq5 (n := 32) (by rw [u8s_len, h53l]; exact Nat.le_refl _)
      rwa [List.take_of_length_le (by rw [u8s_len, h53l]; exact Nat.le_refl _)] at this
    refine r_ldN _ (ldOk_below h.below hkey) ?_
    refine r_dp rfl ?_
    refine r_ldN (sh := .int .i64) (a : Int) hR.l1 ?_
    refine r_slPreG a rfl (by omega) hdc fun y61 hn61 _ hy61 => ?_
    have h61 := hy61 hd
    refine r_call h (c_keyOfPack (h61.at h).sl h61.ok (by rw [List.length_take]; omega)) fun r62 w6 h _ hr62 => ?_
    subst hr62
    have hR := ScanR.of hpb hE hok hOb hOe hOd h
    refine r_chk2 hR.l1 (ldOk_below h.below hkey) ?_
    refine r_rootEq h53l (hashL_len _ _) (fun hne => ?_) (fun heq => ?_)
    · rw [if_pos hne] at hgo
      exact bad h hgo.symm (by decide)
    · rw [if_neg (fun hh => hh heq)] at hgo
      refine r_ret h.nil (some ⟨b, 0, none⟩, (0 : Int)) rfl (.inl ?_)
      rw [← hgo]
      exact ⟨rfl, rfl, b, a, rfl, sb, se, bs, E, Lb, Le, Ld, hpb, hE, hok, hOb, hOe, hOd, h⟩
  · rw [if_neg hno] at hgo
    refine r_call h (c_record hR hpb hE (hd.at h) ha hmax hv.1 hv.2.1) fun r27 w3 h3 _ hQ => ?_
    obtain ⟨q1, q2, q3, q4, hQ⟩ := hQ
    rcases hQ with ⟨hnone, hokf⟩ | ⟨bb, x, fin, hsome, hokf, hfin, hright, br, L, e, he1, he2, he3, hOL, hAL, he4, he5⟩
    · refine r_new h3 fun b6 w4 h4' => ?_
      refine r_new h4' fun b7 w5 h5 => ?_
      refine r_stA h5 1 rfl rfl q1 rfl q2 fun w6 h6 => ?_
      refine r_stA h6 0 rfl rfl q3 rfl q4 fun w7 h7 => ?_
      rw [hnone] at hgo
      refine r_join (σ := Bool) (fun x w' => x = true ∧ w' = w7) (fun x w8 hJ => ?_) ?_
      · obtain ⟨rfl, rfl⟩ := hJ
        refine r_any fun _ => ?_
        refine r_true rfl ?_
        exact bad h7 hgo.symm (by decide)
      · rw [hokf]
        exact r_true rfl ⟨true, rfl, rfl, rfl⟩
    · have h3 := h.join hAL
      refine r_new h3 fun b6 w4 h4' => ?_
      refine r_new h4' fun b7 w5 h5 => ?_
      refine r_stA h5 1 rfl rfl q1 rfl q2 fun w6 h6 => ?_
      refine r_stA h6 0 rfl rfl q3 rfl q4 fun w7 h7 => ?_
      have h7 : At w w7 ([(b7, r27.2.1, ty_impl_PackEntry), (b6, r27.1, ty_impl_Blob)] ++ (L ++ ([(b, scC sd a sb se, ty_impl_scan)] ++ (Lb ++ (Le ++ (Ld ++ [])))))) := h7
      rw [hsome] at hgo
      dsimp only at hgo
      have hR7 := ScanR.of hpb hE hok hOb hOe hOd (h7.right.right)
      refine r_join (σ := Bool) (fun x w' => x = decide (B.length = 128) ∧ w' = w7) (fun x w8 hJ => ?_) ?_
      rotate_left
      · rw [hokf]
        refine r_false rfl ?_
        refine r_dp rfl ?_
        refine r_ldN (sh := .slice) sb hR7.l2 ?_
        refine ⟨_, rfl, ?_, rfl⟩
        by_cases h2 : B.length = 128
        · rw [decide_eq_true h2, show (sb.n : Int) = 128 by omega]; rfl
        · rw [decide_eq_false h2, beq_eq_false_iff_ne.2 (by omega)]
      obtain ⟨rfl, rfl⟩ := hJ
      refine r_any fun _ => ?_
      refine r_if (B.length = 128) rfl (fun hfull => ?_) (fun hroom => ?_)
      · rw [if_pos hfull] at hgo
        exact bad h7 hgo.symm (by decide)
      rw [if_neg hroom] at hgo
      rw [hright]
      by_cases hr : rightP d B bb fin
      · rw [decide_eq_true hr]
        refine r_false rfl ?_
        rw [if_pos hr] at hgo
        refine r_ldA h7 1 rfl rfl q1 ?_
        refine r_ldA h7 0 rfl rfl q3 ?_
        rw [hfin, he1, he4]
        have hsc : ScanO w w8 b sd a B (L ++ []) := ⟨sb, se, bs, E, Lb, Le, Ld, hpb, hE, hok, hOb, hOe, hOd, scan_perm h7.right⟩
        refine r_callR (c_scan_take (fin := fin) hsc hOL (by rw [he2]; exact he3) (by rw [he5, he2]) (by omega)) ?_
        rintro v w9 ⟨rfl, hS8⟩
        refine ⟨(), rfl, ?_⟩
        rw [he2] at hS8
        have hl8 := hS8.len
        rw [List.length_append, List.length_singleton] at hl8
        have hfin2 := recP_fin hsome
        exact ⟨(), rfl, ⟨g, fin, B ++ [bb], hS8, by rw [List.length_append]; simp; omega, hgo, hfin2.1, scan_step hv hsome hr (by omega)⟩, by omega⟩
      · rw [decide_eq_false hr]
        refine r_true rfl ?_
        rw [if_neg hr] at hgo
        exact bad h7 hgo.symm (by decide))
end Go.Proofs.YtkifkdkjljcclaaGreat
