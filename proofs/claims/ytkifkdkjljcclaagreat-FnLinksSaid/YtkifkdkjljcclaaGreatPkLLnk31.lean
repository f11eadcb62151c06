/- LinkPath: the program. LinkPath: the reference. -/
import Derived.Test.YtkifkdkjljcclaaGreatPkLLnk28
namespace Go.Sx
open Go.RowKit (Below)
theorem r_pushM {P : Program} {R : Value → World → Prop} {w0 w : World} {ls : List Blk} {r : Nat} {o : Obj} (hM : w.heap[r]? = some o) (hmo : ∀ c e f, o ≠ .cells c e f) {t ty e z by_ : Nat} (hT : SlT P t e z by_) {v : Value} {s : Sl} {xs : List Value} {k : Sl → World → Prop} (hS : SlO w0 w ls e z s xs) (hv : v.cells.size = z) (hz : z ≤ 16777216) (h1 : ∀ u ∈ v.cells.toList, oneC u = true)
    (hbytes : (s.n + 1) * by_ ≤ 140737488355328) (hmax : s.n + 1 ≤ 140737488355328) (h : ∀ s' w', SlO w0 w' ls e z s' (xs ++ v.cells.toList) → s'.n = s.n + 1 → w'.heap[r]? = some o → k s' w') :
    ((real P R).sem (Instr.buildSlice t 1 #[(0, v)]) .slice fun y => (real P R).sem (Builtin.append_ #[t, t] ty #[.slice s.a s.n s.c, .slice y.a y.n y.c]) .slice k : World → Prop) w := by
  refine ⟨⟨some ⟨w.heap.size, 0, none⟩, 1, 1⟩, _, run_bs1 hT hv hz w, ?_⟩
  have hb := below_alloc w (.cells v.cells e)
  refine r_appendM (hb.keeps hM) hmo hT (hS.trans hb) (y := ⟨some ⟨w.heap.size, 0, none⟩, 1, 1⟩) (news := v.cells.toList) ⟨by simp [hv], fun j u hu => ⟨_, rfl, ?_⟩⟩ h1 hbytes hmax h
  rw [add_lit, cell_of_row _ _ _ _ _ _ (heap_alloc_self w _)]
  simpa using hu
end Go.Sx
namespace Go.Proofs.YtkifkdkjljcclaaGreat
open Go.Sx Go.RowKit

theorem fold_first (B : List PB) (i : Nat) (ls : List (List Int)) {s : List (List Int) × List Nat} (h : s.2[0]? = some 0) : (ls.foldl (visit B i) s).2[0]? = some 0 := by
  obtain ⟨t, u, _, h2, _⟩ := fold_grow B i ls s
  rw [h2, List.getElem?_append_left (List.getElem?_eq_some_iff.1 h).1, h]
theorem met_first (B : List PB) (x : List Int) (i : Nat) : (met B x i).2[0]? = some 0 := by
  induction i with
  | zero => rfl
  | succ i ih =>
    rw [met_succ]
    split
    · exact fold_first B i _ ih
    · exact ih
theorem MetOk.parL {B : List PB} {x : List Int} {s : List (List Int) × List Nat} (h : MetOk B x s) (h0 : s.2[0]? = some 0) (j : Nat) (hj : j < s.1.length) : s.2.getD j 0 < s.1.length := by
  rcases Nat.eq_zero_or_pos j with h' | h'
  · subst h'
    simp only [List.getD, h0, Option.getD_some]
    exact hj
  · have := h.parD h' hj; omega
theorem pathTo_last {B : List PB} {x : List Int} {s : List (List Int) × List Nat} (h : MetOk B x s) {i : Nat} (hi : i < s.1.length) : ∃ pre, pathTo s i i = pre ++ [s.1.getD i []] := by
  rcases Nat.eq_zero_or_pos i with h0 | h0
  · subst h0; exact ⟨[], rfl⟩
  · exact ⟨_, pathTo_step h h0 hi⟩

theorem ut_map : (Tryz.prog).underlying ty_map_impl_Key_impl_Key = some (.map ty_impl_Key ty_impl_Key) := by kernel_rfl
theorem ut_Key : (Tryz.prog).underlying ty_impl_Key = some (.array 32 ty_uint8) := by kernel_rfl
theorem tyOf_byte : tyOf Tryz.prog ty_uint8 = some (.int .u8, 1) := by kernel_rfl
theorem zero_Key : ((Tryz.prog).info? ty_impl_Key).bind (·.zero) = some (arrK zero32) := by kernel_rfl

theorem look_came {B : List PB} {x : List Int} {F : List (List Int) × List Nat} (ok : MetOk B x F) (h0 : F.2[0]? = some 0) {l : List Int} (hl : keyOk l) {w : World} {r : Nat} {o : Obj} (hM : w.heap[r]? = some o) (hm : MapIs o (cameOf F)) :
    ∃ X, keyOk X ∧ (∀ j, F.1[j]? = some l → X = F.1.getD (F.2.getD j 0) []) ∧ ∀ c, (Instr.lookup ty_map_impl_Key_impl_Key (.map (some r)) (.agg (u8s l).toArray) c).run Tryz.prog w = .ok (if c then .tuple #[.agg (u8s X).toArray, .bool (decide (l ∈ F.1))] else .agg (u8s X).toArray) w := by
  have hn : ∀ p ∈ cameOf F, p.1.length = 32 := fun p hp => (keysOf_ok B _ (ok.inB _ (by rw [← cameOf_keys F]; exact List.mem_map_of_mem hp))).1
  have hlook := fun c => run_lookup_u8 (w := w) ut_map ut_Key tyOf_byte zero_Key hl.1 hM hm hn c
  by_cases hin : l ∈ F.1
  · obtain ⟨j, hj⟩ := List.mem_iff_getElem?.1 hin
    have hjl := (List.getElem?_eq_some_iff.1 hj).1
    have hs : (cameOf F).lookup l = some (arrK (F.1.getD (F.2.getD j 0) [])) := lookup_some (by rw [cameOf_keys]; exact ok.nodup) (j := j) (by rw [cameOf_get hjl, getD_of hj])
    refine ⟨F.1.getD (F.2.getD j 0) [], keysOf_ok B _ (ok.inB _ (List.mem_of_getElem? (getD_get (ok.parL h0 j hjl)))), fun i hi => ?_, fun c => ?_⟩
    · have : i = j := by rw [← idxK_of ok.nodup hi, idxK_of ok.nodup hj]
      rw [this]
    · have := hlook c
      rw [hs] at this
      rw [decide_eq_true hin]
      exact this
  · have hs : (cameOf F).lookup l = none := lookup_none (by rw [cameOf_keys]; exact hin)
    refine ⟨zero32, zero32_ok, fun i hi => absurd (List.mem_of_getElem? hi) hin, fun c => ?_⟩
    have := hlook c
    rw [hs] at this
    rw [decide_eq_false hin]
    exact this

theorem c_impl_LinkPath {w : World} {r a b : Array Value} {B : List PB} {ka kb : List Int} (hr : RdStore w r B) (ha : RdKey w a ka) (hb : RdKey w b kb) (hz : sizeBs B ≤ 1073741824) :
    Ret Tryz.prog n_impl_LinkPath [.agg r, .agg a, .agg b] w [.slice, .int .i64] (fun x w' => ∃ L, At w w' L ∧ OwnKeyS x.1 (pathAns B ka kb).1 L ∧ x.2 = (pathAns B ka kb).2) := impl_LinkPath_calls _ _ _ (by
  unfold impl_LinkPath
  obtain ⟨s, bs, rfl, hpb, hs⟩ := hr
  obtain ⟨rfl, hko⟩ := ha
  obtain ⟨rfl, hkb⟩ := hb
  have hl := le_sizeBs B
  have hbl : bs.length = B.length := by rw [← hpb]; simp
  refine r_new (At.refl w) fun b3 w1 h => ?_
  refine r_new h fun b4 w2 h => ?_
  refine r_new h fun b5 w3 h => ?_
  have h : At w w3 [(b5, (u8s kb).toArray, ty_impl_Key), (b4, (u8s ka).toArray, ty_impl_Key), (b3, #[.slice s.a s.n s.c], ty_impl_Store)] := h
  refine r_ldA h 2 rfl rfl rfl ?_
  refine r_call h (c_newShop (hs.at h) (by omega)) fun r w4 h4 _ hr => ?_
  rw [hpb] at hr
  rcases hr with ⟨hv, b, L, rfl, hL, hO⟩ | ⟨hv, rfl⟩
  · have h : At w w4 ([(b5, (u8s kb).toArray, ty_impl_Key), (b4, (u8s ka).toArray, ty_impl_Key), (b3, #[.slice s.a s.n s.c], ty_impl_Store)] ++ (L ++ [])) := by rw [List.append_nil]; exact (h.join hL).swap
    have hB128 : B.length ≤ 128 := hv.1
    have hkl : (keysOf B).length = B.length := keysOf_len B
    have hdl := hv.2.1
    have hasc : Asc (keysOf B) := hv.2.2
    have hbok : ∀ {w' : World} {ls : List Blk}, At w w' ls → ∀ b ∈ bs, b.Ok w' := fun h b hb => (hs.at h.nil).ok b hb
    refine r_join (σ := Unit) (fun _ w' => (ka ∈ keysOf B ∧ kb ∈ keysOf B) ∧ At w w' ([(b5, (u8s kb).toArray, ty_impl_Key), (b4, (u8s ka).toArray, ty_impl_Key), (b3, #[.slice s.a s.n s.c], ty_impl_Store)] ++ (L ++ []))) (fun _ w5 hJ => ?_) ?_
    · obtain ⟨⟨hma, hmb⟩, h⟩ := hJ
      have hans : pathAns B ka kb = pathOf (met B ka B.length) kb := by unfold pathAns; rw [if_pos hv, if_pos ⟨hma, hmb⟩]
      rw [hans]
      refine r_any fun _ => ?_
      refine r_join (σ := Value × Sl) (fun st w' => ∃ (rm : Nat) (o : Obj) (Lq : List Blk), st.1 = .map (some rm) ∧ w.heap.size ≤ rm ∧ w'.heap[rm]? = some o ∧ MapIs o [(ka, arrK ka)] ∧ OwnS ty_impl_Key 32 st.2 (u8s ka) Lq ∧ At w w' ([(b5, (u8s kb).toArray, ty_impl_Key), (b4, (u8s ka).toArray, ty_impl_Key), (b3, #[.slice s.a s.n s.c], ty_impl_Store)] ++ (Lq ++ (L ++ [])))) (fun st w6 hJ => ?_) ?_
      · obtain ⟨mv, q0⟩ := st
        obtain ⟨rm, o, Lq, hmv, hrm, hM, hm, hOq, h⟩ := hJ
        dsimp only at hmv hOq
        subst hmv
        refine r_any fun _ => ?_
        dsimp only
        refine r_loop (σ := Sl × Int) (fun i w' => ∃ (j : Nat) (Lq : List Blk) (o : Obj), i.2 = j ∧ j ≤ (met B ka j).1.length ∧ OwnS ty_impl_Key 32 i.1 ((met B ka j).1.flatMap u8s) Lq ∧ At w w' ([(b5, (u8s kb).toArray, ty_impl_Key), (b4, (u8s ka).toArray, ty_impl_Key), (b3, #[.slice s.a s.n s.c], ty_impl_Store)] ++ (Lq ++ (L ++ []))) ∧ w'.heap[rm]? = some o ∧ MapIs o (cameOf (met B ka j))) (fun i _ => (130 - i.2).toNat) (q0, 0) rfl
          ⟨0, Lq, o, rfl, by simp, by simpa [met] using hOq, h, hM, by simpa [met, cameOf] using hm⟩ ?_
        rintro ⟨q, i⟩ w7 ⟨j, Lq, o, hij, hjl, hOq, h, hM, hm⟩
        dsimp only at hij hOq
        subst hij
        refine r_any fun _ => ?_
        dsimp only
        have ok := met_ok hma j
        have hle := ok.le
        have hqk : ∀ k ∈ (met B ka j).1, keyOk k := fun k hk => keysOf_ok B k (ok.inB k hk)
        have hqn : q.n = (met B ka j).1.length := by have := hOq.1; rw [flatMap_length (z := 32) (fun x hx => by rw [u8s_len]; exact (hqk x hx).1)] at this; omega
        refine r_if ((j : Int) < (q.n : Int)) rfl (fun hlt => ?_) (fun hge => ?_)
        · obtain ⟨k, p, hk, hkm, hp, hkk, hkc⟩ := (ownS_ks hOq h ((List.sublist_append_left Lq _).trans (List.sublist_append_right _ _)) hqk).get (i := j) (by omega)
          refine r_ix p hp (by omega) (by omega) ?_
          refine r_ldN (u8s k).toArray (by simp only [Int.toNat_natCast]; exact hkc) ?_
          have hkB := ok.inB k hkm
          refine r_call h (c_get (hO.rd h.pl2 (keysOf_ok _) (hbok h)) hasc (by omega) hkk (by omega)) fun r59 w8 h hb8 hr => ?_
          obtain ⟨bb, hbb, rfl⟩ : ∃ bb, bs[posK (keysOf B) k]? = some bb ∧ r59 = (bb.cells.toArray, true) := by
            rcases hr with ⟨_, bb, h1, h2⟩ | ⟨hn, _⟩
            · exact ⟨bb, h1, h2⟩
            · exact absurd hkB hn
          have hM := hb8.keeps hM
          refine r_newM h hM fun b13 w9 h hM => ?_
          refine r_stAM hM hm.no h 0 rfl rfl rfl rfl (by simpa using cells_one bb) fun w10 h hM => ?_
          refine r_ldA h 0 rfl rfl rfl ?_
          have h := At.tail h
          have hBb := pb_get hpb hbb
          have hbe : blobAt B k = bb.pb := by unfold blobAt; simp [List.getD, hBb]
          have hdb := hdl bb.pb (List.mem_of_getElem? hBb)
          simp only [BR.pb] at hdb
          have hbm := List.mem_of_getElem? hbb
          have hbk : bytesOk bb.pb.data := (hbok h bb hbm).bytes.ok
          refine r_call h (c_impl_links (hbok h bb hbm) (by omega)) fun r63 w11 _ hb11 ⟨hrl, hrn⟩ => ?_
          have hM := hb11.keeps hM
          obtain ⟨Lr, hOr, h⟩ := SlO.own_of h hrl
          have hF : met B ka (j + 1) = (links bb.pb).foldl (visit B j) (met B ka j) := by rw [met_succ, if_pos (by omega), getD_of hk, hbe]
          have hlk := links_ok hbk
          have hll := links_len bb.pb
          have hdb' : bb.pb.data.length ≤ 1024 := hdb
          refine r_loop (σ := Sl × Int) (fun i w' => ∃ (m : Nat) (Lq : List Blk) (o : Obj), i.2 = m ∧ m ≤ (links bb.pb).length ∧ OwnS ty_impl_Key 32 i.1 ((((links bb.pb).take m).foldl (visit B j) (met B ka j)).1.flatMap u8s) Lq ∧ At w w' (Lr ++ ([(b5, (u8s kb).toArray, ty_impl_Key), (b4, (u8s ka).toArray, ty_impl_Key), (b3, #[.slice s.a s.n s.c], ty_impl_Store)] ++ (Lq ++ (L ++ [])))) ∧ w'.heap[rm]? = some o ∧ MapIs o (cameOf (((links bb.pb).take m).foldl (visit B j) (met B ka j)))) (fun i _ => (r63.n - i.2).toNat) (q, 0) rfl
            ⟨0, Lq, o, rfl, by omega, by simpa using hOq, h, hM, by simpa using hm⟩ ?_
          clear hOq hM hm h
          rintro ⟨q, i⟩ w12 ⟨m, Lq, o, him, hml, hOq, h, hM, hm⟩
          dsimp only at him hOq
          subst him
          obtain ⟨t, u, ht, hu, _⟩ := fold_grow B j ((links bb.pb).take m) (met B ka j)
          have okF := ok.fold (i := j) ((links bb.pb).take m) (by omega)
          have h0F := fold_first B j ((links bb.pb).take m) (met_first B ka j)
          have hstep : ∀ l, (links bb.pb)[m]? = some l → ((links bb.pb).take (m + 1)).foldl (visit B j) (met B ka j) = visit B j (((links bb.pb).take m).foldl (visit B j) (met B ka j)) l := fun l hl => by rw [take_succ_get hl, List.foldl_append]; rfl
          have hlast : m = (links bb.pb).length → ((links bb.pb).take m).foldl (visit B j) (met B ka j) = met B ka (j + 1) := fun e => by rw [hF, e, List.take_of_length_le (Nat.le_refl _)]
          generalize ((links bb.pb).take m).foldl (visit B j) (met B ka j) = F at hOq hm okF h0F hstep hlast ht hu
          have hjF : j < F.1.length := by rw [ht, List.length_append]; omega
          have hFj : F.1[j]? = some k := by rw [ht, List.getElem?_append_left (by omega)]; exact hk
          have hFle := okF.le
          have hFk : ∀ k ∈ F.1, keyOk k := fun k hk => keysOf_ok B k (okF.inB k hk)
          have hqn : q.n = F.1.length := by have := hOq.1; rw [flatMap_length (z := 32) (fun x hx => by rw [u8s_len]; exact (hFk x hx).1)] at this; omega
          refine r_any fun _ => ?_
          dsimp only
          refine r_if ((m : Int) < (r63.n : Int)) rfl (fun hlt2 => ?_) (fun hge2 => ?_)
          · obtain ⟨l, pl, hl', hlm, hpl, hlo, hlc⟩ := (ownS_ks hOr h (List.sublist_append_left _ _) hlk).get (i := m) (by omega)
            refine r_ix pl hpl (by omega) (by omega) ?_
            refine r_ldN (u8s l).toArray (by simp only [Int.toNat_natCast]; exact hlc) ?_
            refine r_newM h hM fun b16 w13 h hM => ?_
            refine r_stAM hM hm.no h 0 rfl rfl (by simp [hlo.1]) (by simp [Value.cells]) (by simpa using u8s_one) fun w14 h hM => ?_
            refine r_ldA h 0 rfl rfl (by simp [hlo.1]) ?_
            obtain ⟨X, hX, _, hlook⟩ := look_came okF h0F hlo hM hm
            refine r_semL ((u8s X).toArray, decide (l ∈ F.1)) _ (hlook true) ?_
            refine r_newM h hM fun b17 w15 h hM => ?_
            refine r_stAM hM hm.no h 0 rfl rfl (by simp [hX.1]) (by simp [Value.cells]) (by simpa using u8s_one) fun w16 h hM => ?_
            have h : At w w16 ([(b17, (u8s X).toArray, ty_impl_Key), (b16, (u8s l).toArray, ty_impl_Key)] ++ (Lr ++ ([(b5, (u8s kb).toArray, ty_impl_Key), (b4, (u8s ka).toArray, ty_impl_Key), (b3, #[.slice s.a s.n s.c], ty_impl_Store)] ++ (Lq ++ (L ++ []))))) := h
            refine r_join (σ := Bool) (fun sb w' => sb = decide (l ∉ F.1 ∧ l ∈ keysOf B) ∧ At w w' ([(b17, (u8s X).toArray, ty_impl_Key), (b16, (u8s l).toArray, ty_impl_Key)] ++ (Lr ++ ([(b5, (u8s kb).toArray, ty_impl_Key), (b4, (u8s ka).toArray, ty_impl_Key), (b3, #[.slice s.a s.n s.c], ty_impl_Store)] ++ (Lq ++ (L ++ []))))) ∧ w'.heap[rm]? = some o) (fun sb w17 hJ => ?_) ?_
            · obtain ⟨rfl, h, hM⟩ := hJ
              refine r_any fun _ => ?_
              by_cases hc : l ∉ F.1 ∧ l ∈ keysOf B
              · refine r_true (decide_eq_true hc) ?_
                have hvis : visit B j F l = (F.1 ++ [l], F.2 ++ [j]) := by unfold visit; rw [if_neg (by simpa using hc)]
                refine r_drawM h hM fun w18 h hM => ?_
                refine r_ldA h 1 rfl rfl (by simp [hlo.1]) ?_
                obtain ⟨k2, p2, hk2, _, hp2, _, hkc2⟩ := (ownS_ks hOq h.pl3 (List.sublist_append_left _ _) hFk).get (i := j) (by omega)
                rw [hFj] at hk2
                cases hk2
                refine r_ix p2 hp2 (by omega) (by omega) ?_
                refine r_ldN (u8s k).toArray (by simp only [Int.toNat_natCast]; exact hkc2) ?_
                refine r_mapNew (k := l) (v := .agg (u8s k).toArray) ut_map ut_Key tyOf_byte hlo.1 h hM hm hrm (fun p hp => (hFk _ (by rw [← cameOf_keys F]; exact List.mem_map_of_mem hp)).1) (lookup_none (by rw [cameOf_keys]; exact hc.1)) fun w19 o' h hM hm' => ?_
                refine r_ldA h 1 rfl rfl (by simp [hlo.1]) ?_
                refine r_pushM hM hm'.no T_sl_Key (hOq.slo h.pl3) (v := .agg (u8s l).toArray) (by simp [Value.cells, hlo.1]) (by omega) (by simpa [Value.cells] using u8s_one) (by omega) (by omega) fun y91 w20 hS hn hM => ?_
                obtain ⟨Lq', hOq', h⟩ := hS.split
                have h := At.right (A := [_, _]) h.ps3
                refine ⟨(y91, ((m + 1 : Nat) : Int)), by rw [w64 (by omega) (by omega)]; rfl, ⟨m + 1, Lq', o', rfl, by omega, ?_, h, hM, ?_⟩, by dsimp only; omega⟩
                · rw [hstep l hl', hvis]
                  simpa [Value.cells, List.flatMap_append] using hOq'
                · rw [hstep l hl', hvis, cameOf_new okF.len (okF.parL h0F) hjF, getD_of hFj]
                  exact hm'
              · refine r_false (decide_eq_false hc) ?_
                have hvis : visit B j F l = F := by unfold visit; rw [if_pos (by rcases Classical.em (l ∈ F.1) with h1 | h1; exact .inl h1; exact .inr fun h2 => hc ⟨h1, h2⟩)]
                refine ⟨(q, ((m + 1 : Nat) : Int)), by rw [w64 (by omega) (by omega)]; rfl, ⟨m + 1, Lq, o, rfl, by omega, ?_, At.right (A := [_, _]) h, hM, ?_⟩, by dsimp only; omega⟩
                · rw [hstep l hl', hvis]; exact hOq
                · rw [hstep l hl', hvis]; exact hm
            · by_cases hin : l ∈ F.1
              · refine r_false (by simp [hin]) ?_
                exact ⟨false, rfl, by simp [hin], h, hM⟩
              · refine r_true (by simp [hin]) ?_
                refine r_ldA h 1 rfl rfl (by simp [hlo.1]) ?_
                refine r_call h (c_has (hO.rd h.pl4 (keysOf_ok _) (hbok h)) hasc hlo (by omega)) fun r80 w17 h hb17 hr => ?_
                subst hr
                exact ⟨_, rfl, by simp [hin], h, hb17.keeps hM⟩
          · have e := hlast (by omega)
            subst e
            exact ⟨(q, ((j + 1 : Nat) : Int)), by rw [w64 (by omega) (by omega)]; rfl, ⟨j + 1, Lq, o, rfl, by omega, hOq, h.right, hM, hm⟩, by dsimp only; omega⟩
        · have hend : met B ka B.length = met B ka j := met_end hma (by omega) hjl
          rw [hend]
          have h0F := met_first B ka j
          have hfirst := ok.first
          generalize met B ka j = F at hOq hm ok h0F hle hqk hqn hfirst
          refine r_ldA h 0 rfl rfl (by simp [hkb.1]) ?_
          obtain ⟨X, hX, _, hlook⟩ := look_came ok h0F hkb hM hm
          refine r_semL ((u8s X).toArray, decide (kb ∈ F.1)) _ (hlook true) ?_
          refine r_newM h hM fun b19 w8 h hM => ?_
          refine r_stAM hM hm.no h 0 rfl rfl (by simp [hX.1]) (by simp [Value.cells]) (by simpa using u8s_one) fun w9 h hM => ?_
          have h : At w w9 ([(b19, (u8s X).toArray, ty_impl_Key), (b5, (u8s kb).toArray, ty_impl_Key), (b4, (u8s ka).toArray, ty_impl_Key), (b3, #[.slice s.a s.n s.c], ty_impl_Store)] ++ (Lq ++ (L ++ []))) := h
          by_cases hin : kb ∈ F.1
          · refine r_false (by simp [hin]) ?_
            have hidx := idxK_get hin
            have hpo : pathOf F kb = (pathTo F (idxK F.1 kb) (idxK F.1 kb), 0) := if_pos hin
            rw [hpo]
            generalize idxK F.1 kb = n at hidx
            have hnl := (List.getElem?_eq_some_iff.1 hidx).1
            have hpm := (pathTo_mem ok n hnl).1
            have hfull : ∀ k ∈ pathTo F n n, keyOk k := fun k hk => hqk k (hpm k hk)
            refine r_ldA h 1 rfl rfl (by simp [hkb.1]) ?_
            refine r_bs1M hM T_sl_Key h (by simp [Value.cells, hkb.1]) (by omega) fun y102 w10 hy hyn hM => ?_
            obtain ⟨Lo, hOo, h⟩ := hy.split
            refine r_loop (σ := Sl) (fun so w' => ∃ (i : Nat) (cur : List Int) (rev pre : List (List Int)) (Lo : List Blk), F.1[i]? = some cur ∧ pathTo F n n = pre ++ rev.reverse ∧ pathTo F i i ++ rev.reverse = pre ++ cur :: rev.reverse ∧ rev.length + i ≤ n + 1 ∧ (∀ k ∈ rev, keyOk k) ∧ so.n = rev.length ∧ OwnS ty_impl_Key 32 so (rev.flatMap u8s) Lo ∧ At w w' ([(b19, (u8s X).toArray, ty_impl_Key), (b5, (u8s cur).toArray, ty_impl_Key), (b4, (u8s ka).toArray, ty_impl_Key), (b3, #[.slice s.a s.n s.c], ty_impl_Store)] ++ (Lo ++ (Lq ++ (L ++ [])))) ∧ w'.heap[rm]? = some o) (fun so _ => 130 - so.n) y102 rfl ?_ ?_
            · obtain ⟨pre, hpre⟩ := pathTo_last ok hnl
              rw [getD_of hidx] at hpre
              exact ⟨n, kb, [kb], pre, Lo, hidx, by simpa using hpre, by rw [hpre]; simp, by simp; omega, by simpa using hkb, hyn, by simpa [Value.cells] using hOo, h.rot, hM⟩
            · rintro so w11 ⟨i, cur, rev, pre, Lo, hcur, hfl, hpi, hri, hrk, hsn, hOo, h, hM⟩
              have hil := (List.getElem?_eq_some_iff.1 hcur).1
              have hck := hqk cur (List.mem_of_getElem? hcur)
              have hpi' : pathTo F i i = pre ++ [cur] := by
                have : pathTo F i i ++ rev.reverse = (pre ++ [cur]) ++ rev.reverse := by rw [hpi]; simp
                exact List.append_cancel_right this
              refine r_any fun _ => ?_
              refine r_ldA h 1 rfl rfl (by simp [hck.1]) ?_
              refine r_ldA h 2 rfl rfl (by simp [hko.1]) ?_
              refine r_pur _ (fun w' => run_neq_key _ _ hck.1 hko.1 w') ?_
              by_cases heq : cur = ka
              · refine r_false (by simp [heq]) ?_
                have hi0 : i = 0 := by rw [← idxK_of ok.nodup hcur, heq, idxK_of ok.nodup hfirst]
                subst hi0
                have hp0 : pathTo F 0 0 = [F.1.getD 0 []] := rfl
                rw [hp0, getD_of hcur] at hpi'
                have hpre : pre = [] := by
                  have := congrArg List.length hpi'
                  simp at this
                  exact this
                subst hpre
                rw [List.nil_append] at hfl
                rw [hfl]
                refine r_callR (c_Reverse h.pl1 hOo hrk (by omega)) ?_
                rintro v w12 ⟨rfl, L', h, hO'⟩
                refine ⟨(), rfl, ?_⟩
                exact r_ret h.nil (so, (0 : Int)) rfl ⟨L', h.left, ⟨hO', fun k hk => hrk k (List.mem_reverse.1 hk)⟩, rfl⟩
              · refine r_true (by simp [heq]) ?_
                have hi0 : 0 < i := by
                  rcases Nat.eq_zero_or_pos i with e | e
                  · rw [e, hfirst] at hcur
                    exact absurd (Option.some.inj hcur).symm heq
                  · exact e
                have hpl := ok.parD hi0 hil
                refine r_ldA h 1 rfl rfl (by simp [hck.1]) ?_
                obtain ⟨X2, hX2, hX2e, hlook2⟩ := look_came ok h0F hck hM hm
                have hX2e := hX2e i hcur
                refine r_semL (l := [.agg]) (u8s X2).toArray _ (hlook2 false) ?_
                refine r_stAM hM hm.no h 1 rfl rfl (by simp [hX2.1]) (by simp [hck.1]) (by simpa using u8s_one) fun w12 h hM => ?_
                have h : At w w12 ([(b19, (u8s X).toArray, ty_impl_Key), (b5, (u8s X2).toArray, ty_impl_Key), (b4, (u8s ka).toArray, ty_impl_Key), (b3, #[.slice s.a s.n s.c], ty_impl_Store)] ++ (Lo ++ (Lq ++ (L ++ [])))) := h
                refine r_ldA h 1 rfl rfl (by simp [hX2.1]) ?_
                refine r_pushM hM hm.no T_sl_Key (hOo.slo h.pl1) (v := .agg (u8s X2).toArray) (by simp [Value.cells, hX2.1]) (by omega) (by simpa [Value.cells] using u8s_one) (by omega) (by omega) fun y112 w13 hS hn hM => ?_
                obtain ⟨Lo', hOo', h⟩ := hS.split
                have hps := pathTo_step ok hi0 hil
                rw [hpi', getD_of hcur] at hps
                have hpre : pre = pathTo F (F.2.getD i 0) (F.2.getD i 0) := List.append_cancel_right hps
                obtain ⟨pre2, hpre2⟩ := pathTo_last ok (i := F.2.getD i 0) (by omega)
                rw [← hX2e] at hpre2
                refine ⟨y112, rfl, ⟨F.2.getD i 0, X2, rev ++ [X2], pre2, Lo', ?_, ?_, ?_, ?_, ?_, ?_, ?_, h.ps1, hM⟩, ?_⟩
                · rw [hX2e]; exact getD_get (by omega)
                · rw [hfl, hpre, hpre2]; simp
                · rw [hpre2]; simp
                · rw [List.length_append]; simp only [List.length_cons, List.length_nil]; omega
                · intro k hk
                  rcases List.mem_append.1 hk with hk | hk
                  · exact hrk k hk
                  · rw [List.mem_singleton.1 hk]; exact hX2
                · rw [List.length_append]; simp only [List.length_cons, List.length_nil]; omega
                · simpa [Value.cells, List.flatMap_append] using hOo'
                · omega
          · refine r_true (by simp [hin]) ?_
            have hpo : pathOf F kb = ([], 6) := if_neg hin
            rw [hpo]
            exact r_ret h.nil (⟨none, 0, 0⟩, (6 : Int)) rfl ⟨[], h.nil, OwnKeyS.none, rfl⟩
      · have tail_ : ∀ {w' : World} {rm : Nat} {o : Obj} {y : Sl} {Lq : List Blk}, w.heap.size ≤ rm → w'.heap[rm]? = some o → MapIs o ([] ++ [(ka, Value.agg (u8s ka).toArray)]) → OwnS ty_impl_Key 32 y (u8s ka) Lq → At w w' ([(b5, (u8s kb).toArray, ty_impl_Key), (b4, (u8s ka).toArray, ty_impl_Key), (b3, #[.slice s.a s.n s.c], ty_impl_Store)] ++ (Lq ++ (L ++ []))) →
            ∃ s' : Value × Sl, embL [.val, .slice] s' = [.map (some rm), .slice y.a y.n y.c] ∧ ∃ (rm : Nat) (o : Obj) (Lq : List Blk), s'.1 = .map (some rm) ∧ w.heap.size ≤ rm ∧ w'.heap[rm]? = some o ∧ MapIs o [(ka, arrK ka)] ∧ OwnS ty_impl_Key 32 s'.2 (u8s ka) Lq ∧ At w w' ([(b5, (u8s kb).toArray, ty_impl_Key), (b4, (u8s ka).toArray, ty_impl_Key), (b3, #[.slice s.a s.n s.c], ty_impl_Store)] ++ (Lq ++ (L ++ []))) := fun h1 h2 h3 h4 h5 => ⟨(_, _), rfl, _, _, _, rfl, h1, h2, h3, h4, h5⟩
        refine r_draw h fun w6 h => ?_
        refine r_ldA h 1 rfl rfl (by simp [hko.1]) ?_
        refine r_ldA h 1 rfl rfl (by simp [hko.1]) ?_
        refine r_ldA h 1 rfl rfl (by simp [hko.1]) ?_
        have ld_ : ∀ {w' : World} {ls : List Blk}, At w w' ((b5, (u8s kb).toArray, ty_impl_Key) :: (b4, (u8s ka).toArray, ty_impl_Key) :: ls) → ldOk w' 32 ⟨b4, 0, none⟩ .agg (u8s ka).toArray := fun h => ldOk_blk h 1 rfl (by simp [hko.1])
        have ld2_ : ∀ {w' : World} {y : Sl} {ls : List Blk}, SlO w w' ((b5, (u8s kb).toArray, ty_impl_Key) :: (b4, (u8s ka).toArray, ty_impl_Key) :: ls) ty_impl_Key 32 y (u8s ka) → ldOk w' 32 ⟨b4, 0, none⟩ .agg (u8s ka).toArray := fun h => ld_ h.at_
        refine r_all2 ?_ ?_
        · refine r_makeMap h fun rm w7 h hM hrm => ?_
          refine r_chk3 (ld_ h) (ld_ h) (ld_ h) ?_
          refine r_all2 ?_ ?_
          · refine r_mapNew (k := ka) (v := .agg (u8s ka).toArray) (m := []) ut_map ut_Key tyOf_byte hko.1 h hM (MapIs.nil 0) hrm (by simp) rfl fun w8 o' h hM hm => ?_
            refine r_chk1 (ld_ h) ?_
            refine r_bs1M hM T_sl_Key h (by simp [Value.cells, hko.1]) (by omega) fun y w9 hy hyn hM => ?_
            obtain ⟨Lq, hOq, h⟩ := hy.split
            exact tail_ hrm hM hm (by simpa [Value.cells] using hOq) h.rot
          · refine r_bs1M hM T_sl_Key h (by simp [Value.cells, hko.1]) (by omega) fun y w9 hy hyn hM => ?_
            rw [show (Value.agg (u8s ka).toArray).cells.toList = u8s ka by simp [Value.cells]] at hy
            refine r_chk2 (ld2_ hy) (ld2_ hy) ?_
            obtain ⟨Lq, hOq, h⟩ := hy.split
            refine r_mapNew (k := ka) (v := .agg (u8s ka).toArray) (m := []) ut_map ut_Key tyOf_byte hko.1 h hM (MapIs.nil 0) hrm (by simp) rfl fun w8 o' h hM hm => ?_
            exact tail_ hrm hM hm hOq h.rot
        · refine r_bs1 T_sl_Key h (by simp [Value.cells, hko.1]) (by omega) fun y w9 hy hyn => ?_
          rw [show (Value.agg (u8s ka).toArray).cells.toList = u8s ka by simp [Value.cells]] at hy
          refine r_chk2 (ld2_ hy) (ld2_ hy) ?_
          obtain ⟨Lq, hOq, h⟩ := hy.split
          have h := h.rot
          refine r_makeMap h fun rm w7 h hM hrm => ?_
          refine r_chk2 (ld_ h) (ld_ h) ?_
          refine r_mapNew (k := ka) (v := .agg (u8s ka).toArray) (m := []) ut_map ut_Key tyOf_byte hko.1 h hM (MapIs.nil 0) hrm (by simp) rfl fun w8 o' h hM hm => ?_
          exact tail_ hrm hM hm hOq h
    · refine r_false rfl ?_
      refine r_ldA h 1 rfl rfl (by simp [hko.1]) ?_
      refine r_call h (c_has (hO.rd h.pl1 (keysOf_ok _) (hbok h)) hasc hko (by omega)) fun r33 w5 h _ hr => ?_
      subst hr
      by_cases hma : ka ∈ keysOf B
      · refine r_false (by simp [hma]) ?_
        refine r_ldA h 0 rfl rfl (by simp [hkb.1]) ?_
        refine r_call h (c_has (hO.rd h.pl1 (keysOf_ok _) (hbok h)) hasc hkb (by omega)) fun r38 w6 h _ hr => ?_
        subst hr
        by_cases hmb : kb ∈ keysOf B
        · refine r_false (by simp [hmb]) ?_
          exact ⟨(), rfl, ⟨hma, hmb⟩, h⟩
        · refine r_true (by simp [hmb]) ?_
          have hans : pathAns B ka kb = ([], 6) := by unfold pathAns; rw [if_pos hv, if_neg fun hh => hmb hh.2]
          rw [hans]
          exact r_ret h.nil (⟨none, 0, 0⟩, (6 : Int)) rfl ⟨[], h.nil, OwnKeyS.none, rfl⟩
      · refine r_true (by simp [hma]) ?_
        have hans : pathAns B ka kb = ([], 6) := by unfold pathAns; rw [if_pos hv, if_neg fun hh => hma hh.1]
        rw [hans]
        exact r_ret h.nil (⟨none, 0, 0⟩, (6 : Int)) rfl ⟨[], h.nil, OwnKeyS.none, rfl⟩
  · have hans : pathAns B ka kb = ([], 1) := by unfold pathAns; rw [if_neg hv]
    rw [hans]
    refine r_join (σ := Unit) (fun _ _ => False) (fun _ _ hJ => hJ.elim) ?_
    refine r_true rfl ?_
    exact r_ret h4.nil (⟨none, 0, 0⟩, (1 : Int)) rfl ⟨[], h4.nil, OwnKeyS.none, rfl⟩)

end Go.Proofs.YtkifkdkjljcclaaGreat

namespace Go.Proofs.YtkifkdkjljcclaaGreat
open Go.Sx Go.RowKit

theorem T_sl_int : SlT Tryz.prog ty_sl_int ty_int 1 8 := slT_of (by kernel_rfl)
def bef (u : List Nat) : List Int := (-1) :: (u.drop 1).map fun (n : Nat) => (n : Int)
theorem bef_snoc {u : List Nat} (h : 0 < u.length) (i : Nat) : bef (u ++ [i]) = bef u ++ [(i : Int)] := by
  cases u with
  | nil => simp at h
  | cons a r => simp [bef]
theorem bef_len {u : List Nat} (h : 0 < u.length) : (bef u).length = u.length := by
  cases u with
  | nil => simp at h
  | cons a r => simp [bef]
theorem bef_get {u : List Nat} {i : Nat} (h0 : 0 < i) (hi : i < u.length) : (bef u).getD i 0 = ((u.getD i 0 : Nat) : Int) := by
  cases u with
  | nil => simp at hi
  | cons a r =>
    cases i with
    | zero => omega
    | succ i =>
      have hi' : i < r.length := by simpa using hi
      simp [bef, List.getD, hi']

theorem c_spec_LinkPath {w : World} {r a b : Array Value} {B : List PB} {ka kb : List Int} (hr : RdStore w r B) (ha : RdKey w a ka) (hb : RdKey w b kb) (hz : sizeBs B ≤ 1073741824) :
    Ret Tryz.prog n_spec_LinkPath [.agg r, .agg a, .agg b] w [.slice, .int .i64] (fun x w' => ∃ L, At w w' L ∧ OwnKeyS x.1 (pathAns B ka kb).1 L ∧ x.2 = (pathAns B ka kb).2) := spec_LinkPath_calls _ _ _ (by
  unfold spec_LinkPath
  obtain ⟨s, bs, rfl, hpb, hs⟩ := hr
  obtain ⟨rfl, hko⟩ := ha
  obtain ⟨rfl, hkb⟩ := hb
  have hl := le_sizeBs B
  have hbl : bs.length = B.length := by rw [← hpb]; simp
  refine r_new (At.refl w) fun b3 w1 h => ?_
  refine r_new h fun b4 w2 h => ?_
  refine r_new h fun b5 w3 h => ?_
  have h : At w w3 [(b5, (u8s kb).toArray, ty_impl_Key), (b4, (u8s ka).toArray, ty_impl_Key), (b3, #[.slice s.a s.n s.c], ty_impl_Store)] := h
  refine r_call h (c_l05Open (p := ⟨b3, 0, none⟩) (fun n => ldOk_own h 2 rfl 0 rfl (by simp [Sh.emb])) (hs.at h.nil)) fun r w4 h4 _ ⟨hr2, b, hr1, hr⟩ => ?_
  rw [hpb] at hr hr2
  have none_ : ∀ {w' : World} {ls : List Blk} {c : Int}, At w w' ls → (pathAns B ka kb) = ([], c) → ((real Tryz.prog (RR w [.slice, .int .i64] (fun x w' => ∃ L, At w w' L ∧ OwnKeyS x.1 (pathAns B ka kb).1 L ∧ x.2 = (pathAns B ka kb).2))).sem (Instr.buildSlice ty_sl_impl_Key 0 #[]) .slice fun y => (real Tryz.prog (RR w [.slice, .int .i64] (fun x w' => ∃ L, At w w' L ∧ OwnKeyS x.1 (pathAns B ka kb).1 L ∧ x.2 = (pathAns B ka kb).2))).ret (.tuple #[.slice y.a y.n y.c, .int .i64 c]) : World → Prop) w' := fun h hans => by
    rw [hans]
    refine r_bs0 T_sl_Key h.nil fun y w2 hy hyn => ?_
    obtain ⟨Ly, hOy, hA⟩ := hy.split
    exact r_ret hA.nil (y, _) rfl ⟨Ly, by simpa using hA, ⟨by simpa using hOy, by simp⟩, rfl⟩
  by_cases hv : validS B
  · obtain ⟨L, hL, hO⟩ := hr hv
    rw [hr2, decide_eq_true hv, hr1]
    refine r_false rfl ?_
    have h : At w w4 ([(b5, (u8s kb).toArray, ty_impl_Key), (b4, (u8s ka).toArray, ty_impl_Key), (b3, #[.slice s.a s.n s.c], ty_impl_Store)] ++ (L ++ [])) := by rw [List.append_nil]; exact (h.join hL).swap
    have hB128 : B.length ≤ 128 := hv.1
    have hkl : (keysOf B).length = B.length := keysOf_len B
    have hdl := hv.2.1
    have hasc : Asc (keysOf B) := hv.2.2
    obtain ⟨sk, sb, rx⟩ := hO.ex (keysOf_ok _)
    replace rx := fun {w' : World} {ls : List Blk} (hA : At w w' (L ++ ls)) => rx hA (fun b hb => (hs.at hA.nil).ok b hb)
    have hbok : ∀ {w' : World} {ls : List Blk}, At w w' ls → ∀ b ∈ bs, b.Ok w' := fun h b hb => (hs.at h.nil).ok b hb
    refine r_join (σ := Unit) (fun _ w' => (ka ∈ keysOf B ∧ kb ∈ keysOf B) ∧ At w w' ([(b5, (u8s kb).toArray, ty_impl_Key), (b4, (u8s ka).toArray, ty_impl_Key), (b3, #[.slice s.a s.n s.c], ty_impl_Store)] ++ (L ++ []))) (fun _ w5 hJ => ?_) ?_
    · obtain ⟨⟨hma, hmb⟩, h⟩ := hJ
      have hans : pathAns B ka kb = pathOf (met B ka B.length) kb := by unfold pathAns; rw [if_pos hv, if_pos ⟨hma, hmb⟩]
      refine r_any fun _ => ?_
      refine r_ldA h 1 rfl rfl (by simp [hko.1]) ?_
      refine r_bs1 T_sl_Key h (by simp [Value.cells, hko.1]) (by omega) fun y36 w6 hy hyn => ?_
      obtain ⟨Lq, hOq, h⟩ := hy.split
      refine r_bs1 T_sl_int h (by simp [Value.cells]) (by omega) fun y37 w7 hy2 hyn2 => ?_
      obtain ⟨Lp, hOp, h⟩ := hy2.split
      refine r_loop (σ := Sl × Sl × Int) (fun i w' => ∃ (j : Nat) (Lq Lp : List Blk), i.2.2 = j ∧ j ≤ (met B ka j).1.length ∧ kb ∉ (met B ka j).1.take j ∧ OwnS ty_impl_Key 32 i.1 ((met B ka j).1.flatMap u8s) Lq ∧ OwnS ty_int 1 i.2.1 (i64s (bef (met B ka j).2)) Lp ∧ At w w' ([(b5, (u8s kb).toArray, ty_impl_Key), (b4, (u8s ka).toArray, ty_impl_Key), (b3, #[.slice s.a s.n s.c], ty_impl_Store)] ++ (Lq ++ (Lp ++ (L ++ []))))) (fun i _ => (130 - i.2.2).toNat) (y36, y37, 0) rfl
        ⟨0, Lq, Lp, rfl, by simp, by simp, by simpa [met, Value.cells] using hOq, by simpa [met, bef, i64s, Value.cells] using hOp, h.pl1.pl2⟩ ?_
      clear hOq hOp h hy hy2 hyn hyn2
      rintro ⟨q, p, i⟩ w8 ⟨j, Lq, Lp, hij, hjl, hnot, hOq, hOp, h⟩
      dsimp only at hij hOq hOp
      subst hij
      refine r_any fun _ => ?_
      dsimp only
      have ok := met_ok hma j
      have hle := ok.le
      have h0 := met_first B ka j
      have hml := met_len B ka j
      have hqk : ∀ k ∈ (met B ka j).1, keyOk k := fun k hk => keysOf_ok B k (ok.inB k hk)
      have hqn : q.n = (met B ka j).1.length := by have := hOq.1; rw [flatMap_length (z := 32) (fun x hx => by rw [u8s_len]; exact (hqk x hx).1)] at this; omega
      refine r_if ((j : Int) < (q.n : Int)) rfl (fun hlt => ?_) (fun hge => ?_)
      · refine r_draw h fun w9 h => ?_
        obtain ⟨k, pq, hk, hkm, hpq, hkk, hkc⟩ := (ownS_ks hOq h ((List.sublist_append_left Lq _).trans (List.sublist_append_right _ _)) hqk).get (i := j) (by omega)
        refine r_ix pq hpq (by omega) (by omega) ?_
        refine r_ldN (u8s k).toArray (by simp only [Int.toNat_natCast]; exact hkc) ?_
        refine r_ldA h 0 rfl rfl (by simp [hkb.1]) ?_
        refine r_pur _ (fun w' => run_eql_key _ _ hkk.1 hkb.1 w') ?_
        by_cases heq : k = kb
        · subst heq
          refine r_true (decide_eq_true rfl) ?_
          have hres := met_found hma (i := j) (by omega) hk
          rw [hans, hres]
          generalize met B ka j = F at hk hOq hOp ok hle h0 hml hqk hqn
          have hfull : ∀ x ∈ pathTo F j j, keyOk x := fun x hx => hqk x ((pathTo_mem ok j (by omega)).1 x hx)
          have hflen := (pathTo_mem ok j (by omega)).2
          refine r_bs0 T_sl_Key h fun y50 w10 hy hyn => ?_
          obtain ⟨Lo, hOo, h⟩ := hy.split
          refine r_loop (σ := Sl × Int) (fun i w' => ∃ (out : List (List Int)) (Lo : List Blk), ((i.2 = -1 ∧ out = pathTo F j j) ∨ ∃ n : Nat, i.2 = n ∧ n ≤ j ∧ pathTo F j j = pathTo F n n ++ out) ∧ (∀ x ∈ out, keyOk x) ∧ i.1.n = out.length ∧ OwnS ty_impl_Key 32 i.1 (out.flatMap u8s) Lo ∧ At w w' (Lo ++ ([(b5, (u8s k).toArray, ty_impl_Key), (b4, (u8s ka).toArray, ty_impl_Key), (b3, #[.slice s.a s.n s.c], ty_impl_Store)] ++ (Lq ++ (Lp ++ (L ++ [])))))) (fun i _ => (i.2 + 1).toNat) (y50, (j : Int)) rfl
            ⟨[], Lo, .inr ⟨j, rfl, Nat.le_refl _, by simp⟩, by simp, hyn, by simpa using hOo, h⟩ ?_
          clear hOo hy
          rintro ⟨so, i⟩ w11 ⟨out, Lo, hcase, hok, hsn, hOo, h⟩
          dsimp only at hcase hsn hOo
          refine r_any fun _ => ?_
          dsimp only
          rcases hcase with ⟨hi, hout⟩ | ⟨n, hi, hnj, hout⟩
          · subst hi
            refine r_false (by show decide ((-1 : Int) ≥ 0) = false; decide) ?_
            refine r_ret h.nil (so, (0 : Int)) rfl ⟨Lo, h.left, ⟨?_, hfull⟩, rfl⟩
            rw [← hout]
            exact hOo
          · subst hi
            refine r_if ((n : Int) ≥ 0) rfl (fun _ => ?_) (fun hh => by omega)
            have holen : out.length ≤ j + 1 := by
              have := congrArg List.length hout
              rw [List.length_append] at this
              omega
            obtain ⟨x, px, hx, hxm, hpx, hxo, hxc⟩ := (ownS_ks hOq h.pl2 (List.sublist_append_left _ _) hqk).get (i := n) (by omega)
            refine r_ix px hpx (by omega) (by omega) ?_
            refine r_ldN (u8s x).toArray (by simp only [Int.toNat_natCast]; exact hxc) ?_
            refine r_bs1 T_sl_Key h (by simp [Value.cells, hxo.1]) (by omega) fun y62 w12 hy2 hyn2 => ?_
            have hrd : SlAt w12 so 32 (out.flatMap u8s) := by
              obtain ⟨L2, _, h2⟩ := hy2.split
              exact hOo.sl h2 ((List.sublist_append_left _ _).trans (List.sublist_append_right _ _))
            refine r_append T_sl_Key hy2 hrd (fun v hv => by
              obtain ⟨z, _, hz⟩ := List.mem_flatMap.1 hv
              exact u8s_one v hz) (by omega) (by omega) fun y64 w13 hS hn => ?_
            obtain ⟨Lo', hOo', h⟩ := hS.split
            have h : At w w13 (Lo' ++ (Lo ++ ([(b5, (u8s k).toArray, ty_impl_Key), (b4, (u8s ka).toArray, ty_impl_Key), (b3, #[.slice s.a s.n s.c], ty_impl_Store)] ++ (Lq ++ (Lp ++ (L ++ [])))))) := h
            have hpl : (bef F.2).length = F.1.length := by rw [bef_len (by rw [← ok.len]; omega), ← ok.len]
            have hrp : RdInt64S w13 p (bef F.2) := hOp.sl h.pl4 (List.sublist_append_left _ _)
            have hrpn := hrp.n
            obtain ⟨pp, hpp, hpc⟩ := hrp.get (i := n) (by omega)
            refine r_ix pp hpp (by omega) (by omega) ?_
            refine r_ldN (sh := .int .i64) ((bef F.2).getD n 0) (by simp only [Int.toNat_natCast, Nat.mul_one]; exact hpc) ?_
            have hOo2 : OwnS ty_impl_Key 32 y64 ((x :: out).flatMap u8s) Lo' := by simpa [Value.cells] using hOo'
            have hok2 : ∀ z ∈ x :: out, keyOk z := fun z hz => by
              rcases List.mem_cons.1 hz with rfl | hz
              · exact hxo
              · exact hok z hz
            rcases Nat.eq_zero_or_pos n with hn0 | hn0
            · subst hn0
              have hb0 : (bef F.2).getD 0 0 = -1 := rfl
              rw [hb0]
              refine ⟨(y64, -1), rfl, ⟨x :: out, Lo', .inl ⟨rfl, ?_⟩, hok2, by simp; omega, hOo2, h.dr1⟩, by dsimp only; omega⟩
              have hp0 : pathTo F 0 0 = [F.1.getD 0 []] := rfl
              rw [hout, hp0, getD_of hx]
              rfl
            · rw [bef_get hn0 (by rw [← ok.len]; omega)]
              have hpar := ok.parD hn0 (by omega)
              refine ⟨(y64, ((F.2.getD n 0 : Nat) : Int)), rfl, ⟨x :: out, Lo', .inr ⟨F.2.getD n 0, rfl, by omega, ?_⟩, hok2, by simp; omega, hOo2, h.dr1⟩, by dsimp only; omega⟩
              rw [hout, pathTo_step ok hn0 (by omega), getD_of hx]
              simp
        · refine r_false (decide_eq_false heq) ?_
          have hkB := ok.inB k hkm
          have hpos := (posK_mem hasc).1 hkB
          have hplt := (List.getElem?_eq_some_iff.1 hpos).1
          refine r_join (σ := Sl) (fun sl w' => ∃ Lr, OwnS ty_impl_Key 32 sl ((links (blobAt B k)).flatMap u8s) Lr ∧ sl.n = (links (blobAt B k)).length ∧ (links (blobAt B k)).length ≤ 1024 ∧ (∀ x ∈ links (blobAt B k), keyOk x) ∧ At w w' (Lr ++ ([(b5, (u8s kb).toArray, ty_impl_Key), (b4, (u8s ka).toArray, ty_impl_Key), (b3, #[.slice s.a s.n s.c], ty_impl_Store)] ++ (Lq ++ (Lp ++ (L ++ [])))))) (fun rl w10 hJ => ?_) ?_
          · obtain ⟨Lr, hOr, hrn, hrl, hlk, h⟩ := hJ
            refine r_any fun _ => ?_
            have hF : met B ka (j + 1) = (links (blobAt B k)).foldl (visit B j) (met B ka j) := by rw [met_succ, if_pos (by omega), getD_of hk]
            have hnk : kb ∉ (met B ka j).1.take (j + 1) := by
              rw [take_succ_get hk, List.mem_append, List.mem_singleton]
              rintro (hh | hh)
              · exact hnot hh
              · exact heq hh.symm
            refine r_loop (σ := Sl × Sl × Int) (fun i w' => ∃ (m : Nat) (Lq Lp : List Blk), i.2.2 = m ∧ m ≤ (links (blobAt B k)).length ∧ OwnS ty_impl_Key 32 i.1 ((((links (blobAt B k)).take m).foldl (visit B j) (met B ka j)).1.flatMap u8s) Lq ∧ OwnS ty_int 1 i.2.1 (i64s (bef (((links (blobAt B k)).take m).foldl (visit B j) (met B ka j)).2)) Lp ∧ At w w' (Lr ++ ([(b5, (u8s kb).toArray, ty_impl_Key), (b4, (u8s ka).toArray, ty_impl_Key), (b3, #[.slice s.a s.n s.c], ty_impl_Store)] ++ (Lq ++ (Lp ++ (L ++ [])))))) (fun i _ => (rl.n - i.2.2).toNat) (q, p, 0) rfl
              ⟨0, Lq, Lp, rfl, by omega, by simpa using hOq, by simpa using hOp, h⟩ ?_
            clear hOq hOp h
            rintro ⟨q, p, i⟩ w11 ⟨m, Lq, Lp, him, hm, hOq, hOp, h⟩
            dsimp only at him hOq hOp
            subst him
            obtain ⟨t, u, ht, hu, _⟩ := fold_grow B j ((links (blobAt B k)).take m) (met B ka j)
            have okF := ok.fold (i := j) ((links (blobAt B k)).take m) (by omega)
            have hstep : ∀ l, (links (blobAt B k))[m]? = some l → ((links (blobAt B k)).take (m + 1)).foldl (visit B j) (met B ka j) = visit B j (((links (blobAt B k)).take m).foldl (visit B j) (met B ka j)) l := fun l hl => by rw [take_succ_get hl, List.foldl_append]; rfl
            have hlast : m = (links (blobAt B k)).length → ((links (blobAt B k)).take m).foldl (visit B j) (met B ka j) = met B ka (j + 1) := fun e => by rw [hF, e, List.take_of_length_le (Nat.le_refl _)]
            generalize ((links (blobAt B k)).take m).foldl (visit B j) (met B ka j) = F at hOq hOp okF hstep hlast ht hu
            have hjF : j < F.1.length := by rw [ht, List.length_append]; omega
            have hFle := okF.le
            have hFk : ∀ k ∈ F.1, keyOk k := fun k hk => keysOf_ok B k (okF.inB k hk)
            have hqn : q.n = F.1.length := by have := hOq.1; rw [flatMap_length (z := 32) (fun x hx => by rw [u8s_len]; exact (hFk x hx).1)] at this; omega
            have hFl := okF.len
            have hpn : p.n = F.2.length := by have := hOp.1; rw [i64s_len, bef_len (by omega)] at this; omega
            refine r_any fun _ => ?_
            dsimp only
            refine r_if ((m : Int) < (rl.n : Int)) rfl (fun hlt2 => ?_) (fun hge2 => ?_)
            · obtain ⟨l, pl, hl', hlm, hpl, hlo, hlc⟩ := (ownS_ks hOr h (List.sublist_append_left _ _) hlk).get (i := m) (by omega)
              refine r_join (σ := Bool) (fun sb w' => sb = decide (l ∉ F.1 ∧ l ∈ keysOf B) ∧ At w w' (Lr ++ ([(b5, (u8s kb).toArray, ty_impl_Key), (b4, (u8s ka).toArray, ty_impl_Key), (b3, #[.slice s.a s.n s.c], ty_impl_Store)] ++ (Lq ++ (Lp ++ (L ++ [])))))) (fun sb w12 hJ => ?_) ?_
              · obtain ⟨rfl, h⟩ := hJ
                refine r_any fun _ => ?_
                by_cases hc : l ∉ F.1 ∧ l ∈ keysOf B
                · refine r_true (decide_eq_true hc) ?_
                  have hvis : visit B j F l = (F.1 ++ [l], F.2 ++ [j]) := by unfold visit; rw [if_neg (by simpa using hc)]
                  obtain ⟨l2, pl2, hl2, _, hpl2, _, hlc2⟩ := (ownS_ks hOr h (List.sublist_append_left _ _) hlk).get (i := m) (by omega)
                  rw [hl'] at hl2
                  cases hl2
                  refine r_ix pl2 hpl2 (by omega) (by omega) ?_
                  refine r_ldN (u8s l).toArray (by simp only [Int.toNat_natCast]; exact hlc2) ?_
                  refine r_push T_sl_Key (hOq.slo h.pl2) (v := .agg (u8s l).toArray) (by simp [Value.cells, hlo.1]) (by omega) (by simpa [Value.cells] using u8s_one) (by omega) (by omega) fun y106 w13 hS hn => ?_
                  obtain ⟨Lq', hOq', h⟩ := hS.split
                  have h := h.ps2
                  refine r_push T_sl_int (hOp.slo h.pl3) (v := .int .i64 (j : Int)) (by simp [Value.cells]) (by omega) (by simp [Value.cells, oneC]) (by omega) (by omega) fun y110 w14 hS2 hn2 => ?_
                  obtain ⟨Lp', hOp', h⟩ := hS2.split
                  have h := h.ps3
                  refine ⟨(y106, y110, ((m + 1 : Nat) : Int)), by rw [w64 (by omega) (by omega)]; rfl, ⟨m + 1, Lq', Lp', rfl, by omega, ?_, ?_, h⟩, by dsimp only; omega⟩
                  · rw [hstep l hl', hvis]
                    simpa [Value.cells, List.flatMap_append] using hOq'
                  · rw [hstep l hl', hvis]
                    dsimp only
                    rw [bef_snoc (by omega)]
                    simpa [Value.cells, i64s] using hOp'
                · refine r_false (decide_eq_false hc) ?_
                  have hvis : visit B j F l = F := by unfold visit; rw [if_pos (by rcases Classical.em (l ∈ F.1) with h1 | h1; exact .inl h1; exact .inr fun h2 => hc ⟨h1, h2⟩)]
                  refine ⟨(q, p, ((m + 1 : Nat) : Int)), by rw [w64 (by omega) (by omega)]; rfl, ⟨m + 1, Lq, Lp, rfl, by omega, ?_, ?_, h⟩, by dsimp only; omega⟩
                  · rw [hstep l hl', hvis]; exact hOq
                  · rw [hstep l hl', hvis]; exact hOp
              · refine r_ix pl hpl (by omega) (by omega) ?_
                refine r_ldN (u8s l).toArray (by simp only [Int.toNat_natCast]; exact hlc) ?_
                refine r_call h (c_spec_find (hO.rd h.pl4 (keysOf_ok _) (hbok h)) hasc hlo (by omega)) fun r89 w12 h _ hr => ?_
                subst hr
                by_cases hmem : l ∈ keysOf B
                · rw [if_pos hmem]
                  refine r_if ((posK (keysOf B) l : Int) ≥ 0) rfl (fun _ => ?_) (fun hh => by omega)
                  obtain ⟨l2, pl2, hl2, _, hpl2, _, hlc2⟩ := (ownS_ks hOr h (List.sublist_append_left _ _) hlk).get (i := m) (by omega)
                  rw [hl'] at hl2
                  cases hl2
                  refine r_ix pl2 hpl2 (by omega) (by omega) ?_
                  refine r_ldN (u8s l).toArray (by simp only [Int.toNat_natCast]; exact hlc2) ?_
                  refine r_call h (c_l01Has (ownS_ks hOq h.pl2 (List.sublist_append_left _ _) hFk) hlo (by omega)) fun r97 w13 h _ hr => ?_
                  subst hr
                  exact ⟨_, rfl, by simp [hmem], h⟩
                · rw [if_neg hmem]
                  refine r_false (by decide) ?_
                  exact ⟨false, rfl, by simp [hmem], h⟩
            · have e := hlast (by omega)
              subst e
              refine ⟨(q, p, ((j + 1 : Nat) : Int)), by rw [w64 (by omega) (by omega)]; rfl, ⟨j + 1, Lq, Lp, rfl, by omega, ?_, hOq, hOp, h.right⟩, by dsimp only; omega⟩
              rw [ht, List.take_append_of_le_length (by omega)]
              exact hnk
          · refine r_draw h fun w10 h => ?_
            refine r_dp rfl ?_
            refine r_ldN sb ((rx h.pl3).2.1 1) ?_
            obtain ⟨k2, pq2, hk2, _, hpq2, _, hkc2⟩ := (ownS_ks hOq h ((List.sublist_append_left Lq _).trans (List.sublist_append_right _ _)) hqk).get (i := j) (by omega)
            rw [hk] at hk2
            cases hk2
            refine r_ix pq2 hpq2 (by omega) (by omega) ?_
            refine r_ldN (u8s k).toArray (by simp only [Int.toNat_natCast]; exact hkc2) ?_
            refine r_call h (c_spec_find (hO.rd h.pl3 (keysOf_ok _) (hbok h)) hasc hkk (by omega)) fun r75 w11 h _ hr => ?_
            subst hr
            rw [if_pos hkB]
            refine r_chk1 ((rx h.pl3).2.1 1) ?_
            have hBs := (rx h.pl3).2.2.2
            have hbn := hBs.n
            obtain ⟨bb, pb, hbb, hbm, hpb', hbat, _⟩ := hBs.bat (i := posK (keysOf B) k) (by omega)
            have hBb := pb_get hpb hbb
            have hbe : blobAt B k = bb.pb := by unfold blobAt; simp [List.getD, hBb]
            have hdb : bb.pb.data.length ≤ 1024 := hdl bb.pb (List.mem_of_getElem? hBb)
            have hdb2 := hdb
            simp only [BR.pb] at hdb2
            refine r_ix pb hpb' (by omega) (by omega) ?_
            refine r_call h (c_l05Links (b := bb) (by simpa only [Int.toNat_natCast] using hbat) (by omega)) fun r77 w12 _ _ ⟨hrl, hrn⟩ => ?_
            obtain ⟨Lr, hOr, h⟩ := SlO.own_of h hrl
            refine r_chk1 ((rx h.pl4).2.1 1) ?_
            have hll := links_len bb.pb
            exact ⟨r77, rfl, Lr, by rw [hbe]; exact hOr, by rw [hbe]; exact hrn, by rw [hbe]; omega, by rw [hbe]; exact links_ok (b := bb.pb) hbat.ok.bytes.ok, h⟩
      · have hend : met B ka B.length = met B ka j := met_end hma (by omega) hjl
        rw [List.take_of_length_le (by omega)] at hnot
        refine none_ h ?_
        rw [hans, hend]
        exact if_neg hnot
    · refine r_ldA h 1 rfl rfl (by simp [hko.1]) ?_
      refine r_call h (c_spec_find (hO.rd h.pl1 (keysOf_ok _) (hbok h)) hasc hko (by omega)) fun r26 w5 h _ hr => ?_
      subst hr
      by_cases hma : ka ∈ keysOf B
      · rw [if_pos hma]
        refine r_if ((posK (keysOf B) ka : Int) < 0) rfl (fun hh => by omega) (fun _ => ?_)
        refine r_ldA h 0 rfl rfl (by simp [hkb.1]) ?_
        refine r_call h (c_spec_find (hO.rd h.pl1 (keysOf_ok _) (hbok h)) hasc hkb (by omega)) fun r31 w6 h _ hr => ?_
        subst hr
        by_cases hmb : kb ∈ keysOf B
        · rw [if_pos hmb]
          refine r_if ((posK (keysOf B) kb : Int) < 0) rfl (fun hh => by omega) (fun _ => ?_)
          exact ⟨(), rfl, ⟨hma, hmb⟩, h⟩
        · rw [if_neg hmb]
          refine r_true (by decide) ?_
          exact none_ h (by unfold pathAns; rw [if_pos hv, if_neg fun hh => hmb hh.2])
      · rw [if_neg hma]
        refine r_true (by decide) ?_
        exact none_ h (by unfold pathAns; rw [if_pos hv, if_neg fun hh => hma hh.1])
  · rw [hr2, decide_eq_false hv]
    refine r_true rfl ?_
    exact none_ h4 (by unfold pathAns; rw [if_neg hv]))

end Go.Proofs.YtkifkdkjljcclaaGreat
