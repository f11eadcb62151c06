/- StoreMap: both sides. -/
import Derived.Test.YtkifkdkjljcclaaGreatPkLTor23
import Derived.Test.YtkifkdkjljcclaaGreatPkLTor27
namespace Go.Proofs.YtkifkdkjljcclaaGreat
open Go.Sx Go.RowKit

def ndP (n : ND) : PB := ⟨5, ndB n⟩
def mapT (es : List PE) : Tr := treeF (es.length + 1) es
def mapBlobs (es : List PE) : List PB := (trNodes (mapT es)).map ndP
def putsEnd (B cs : List PB) (k : List Int) : List PB × List Int × Int := if (putsAns B zero32 cs).2.2 = 0 then ((putsAns B zero32 cs).1, k, 0) else ([], zero32, (putsAns B zero32 cs).2.2)
def stMapAns (B : List PB) (es : List PE) : List PB × List Int × Int := if validS B ∧ okE es then putsEnd B (mapBlobs es) (trKey (mapT es)) else ([], zero32, 1)
theorem putsEnd_made {B cs : List PB} {k : List Int} {Bf : List PB} {code : Int} (h : putsSt B cs = (Bf, code)) (k' : List Int) (hk : code = 0 → k' = k) : madeAns (Bf, k', code) = putsEnd B cs k := by
  have h1 := putsAns_st cs B zero32
  rw [h] at h1
  unfold putsEnd
  rw [h1.1]
  unfold madeAns
  by_cases hc : code = 0
  · rw [if_neg (fun hh => hh hc), if_pos hc, h1.2 hc, hk hc]
    rw [hc]
  · rw [if_pos hc, if_neg hc]
theorem mapNodes_ok {es : List PE} (h : okE es) : ∀ n ∈ trNodes (mapT es), n.ok := treeF_nodes _ (okE_ents h)
theorem mapNodes_len (es : List PE) : (trNodes (mapT es)).length ≤ es.length := treeF_len _ _
theorem c_spec_StoreMap {w : World} {r : Array Value} {s' : Sl} {B : List PB} {es : List PE} (hr : RdStore w r B) (hx : RdEntryS w s' es) (hz : sizeBs B ≤ 1073741824) (hzx : sizeEntryS es ≤ 1073741824) :
    Ret Tryz.prog n_spec_StoreMap [.agg r, .slice s'.a s'.n s'.c] w [.agg, .agg, .int .i64] (fun x w' => ∃ L, At w w' L ∧ OwnStore x.1 (stMapAns B es).1 L ∧ RdKey w x.2.1 (stMapAns B es).2.1 ∧ x.2.2 = (stMapAns B es).2.2) := spec_StoreMap_calls _ _ (by
  unfold spec_StoreMap
  have hBok := hr.ok
  obtain ⟨s, bs, rfl, hpb, hs⟩ := hr
  have hss : EsR w s' es := hx
  have hl := le_sizeBs B
  have hbl : bs.length = B.length := by rw [← hpb]; simp
  have hsn := hss.n
  unfold sizeEntryS at hzx
  refine r_new (At.refl w) fun b2 w1 h => ?_
  refine r_new h fun b4 w2 h => ?_
  refine r_new h fun b5 w3 h => ?_
  have h : At w w3 [(b5, Array.replicate 32 (.int .u8 0), ty_impl_Key), (b4, #[.slice none 0 0], ty_impl_Store), (b2, #[.slice s.a s.n s.c], ty_impl_Store)] := h
  generalize hG : stMapAns B es = G
  have bad_ : ∀ {w' : World} {c : Int} {V : List Blk}, G = ([], zero32, c) → At w w' ([(b5, Array.replicate 32 (.int .u8 0), ty_impl_Key), (b4, #[.slice none 0 0], ty_impl_Store), (b2, #[.slice s.a s.n s.c], ty_impl_Store)] ++ V) →
      ((real Tryz.prog (RR w [.agg, .agg, .int .i64] (fun x w' => ∃ L, At w w' L ∧ OwnStore x.1 G.1 L ∧ RdKey w x.2.1 G.2.1 ∧ x.2.2 = G.2.2))).pur (Instr.build ty_impl_Store #[]) .agg fun y20 => (real Tryz.prog (RR w [.agg, .agg, .int .i64] (fun x w' => ∃ L, At w w' L ∧ OwnStore x.1 G.1 L ∧ RdKey w x.2.1 G.2.1 ∧ x.2.2 = G.2.2))).st 1 (Addr.mk b4 0 none) (.agg y20) <| (real Tryz.prog (RR w [.agg, .agg, .int .i64] (fun x w' => ∃ L, At w w' L ∧ OwnStore x.1 G.1 L ∧ RdKey w x.2.1 G.2.1 ∧ x.2.2 = G.2.2))).st 32 (Addr.mk b5 0 none) (.agg (Array.replicate 32 (.int .u8 0))) <| (real Tryz.prog (RR w [.agg, .agg, .int .i64] (fun x w' => ∃ L, At w w' L ∧ OwnStore x.1 G.1 L ∧ RdKey w x.2.1 G.2.1 ∧ x.2.2 = G.2.2))).ld .agg 1 (Addr.mk b4 0 none) fun z5 => (real Tryz.prog (RR w [.agg, .agg, .int .i64] (fun x w' => ∃ L, At w w' L ∧ OwnStore x.1 G.1 L ∧ RdKey w x.2.1 G.2.1 ∧ x.2.2 = G.2.2))).ld .agg 32 (Addr.mk b5 0 none) fun z6 => (real Tryz.prog (RR w [.agg, .agg, .int .i64] (fun x w' => ∃ L, At w w' L ∧ OwnStore x.1 G.1 L ∧ RdKey w x.2.1 G.2.1 ∧ x.2.2 = G.2.2))).ret (.tuple #[(.agg z5), (.agg z6), (.int .i64 c)]) : World → Prop) w' := by
    rintro w' c V rfl h
    refine r_pur (sh := .agg) _ run_noStore ?_
    refine r_stA h 1 rfl rfl rfl rfl (by simp [oneC]) fun w8 h => ?_
    refine r_stA h 0 rfl rfl (by simp) (by simp) (by simp [oneC]) fun w9 h => ?_
    refine r_ldA h 1 rfl rfl rfl ?_
    refine r_ldA h 0 rfl rfl (by simp) ?_
    exact r_ret h.nil (_, _, c) rfl ⟨[], h.nil, OwnStore.nil, ⟨rfl, zero32_ok⟩, rfl⟩
  have h3 := h
  refine r_call h (c_l05Open (p := ⟨b2, 0, none⟩) (fun n => ldOk_own h 2 rfl 0 rfl (by simp [Sh.emb])) (hs.at h.nil)) fun r15 w4 h4 _ ⟨hr2, b, hr1, hr⟩ => ?_
  rw [hpb] at hr hr2
  have made_ : ∀ {w' : World} {Bf : List PB} {k : List Int} {code : Int} {W : List Blk}, SpecSt w w' (W ++ [(b5, Array.replicate 32 (.int .u8 0), ty_impl_Key), (b4, #[.slice none 0 0], ty_impl_Store), (b2, #[.slice s.a s.n s.c], ty_impl_Store)]) b Bf → keyOk k → madeAns (Bf, k, code) = G →
      ((real Tryz.prog (RR w [.agg, .agg, .int .i64] (fun x w' => ∃ L, At w w' L ∧ OwnStore x.1 G.1 L ∧ RdKey w x.2.1 G.2.1 ∧ x.2.2 = G.2.2))).call n_spec_l05Made [.pointer (some ⟨b, 0, none⟩), .agg (u8s k).toArray, .int .i64 code] [.agg, .agg, (.int .i64)] fun r68 =>
       (real Tryz.prog (RR w [.agg, .agg, .int .i64] (fun x w' => ∃ L, At w w' L ∧ OwnStore x.1 G.1 L ∧ RdKey w x.2.1 G.2.1 ∧ x.2.2 = G.2.2))).st 1 (Addr.mk b4 0 none) (.agg r68.1) <| (real Tryz.prog (RR w [.agg, .agg, .int .i64] (fun x w' => ∃ L, At w w' L ∧ OwnStore x.1 G.1 L ∧ RdKey w x.2.1 G.2.1 ∧ x.2.2 = G.2.2))).st 32 (Addr.mk b5 0 none) (.agg r68.2.1) <| (real Tryz.prog (RR w [.agg, .agg, .int .i64] (fun x w' => ∃ L, At w w' L ∧ OwnStore x.1 G.1 L ∧ RdKey w x.2.1 G.2.1 ∧ x.2.2 = G.2.2))).ld .agg 1 (Addr.mk b4 0 none) fun z25 => (real Tryz.prog (RR w [.agg, .agg, .int .i64] (fun x w' => ∃ L, At w w' L ∧ OwnStore x.1 G.1 L ∧ RdKey w x.2.1 G.2.1 ∧ x.2.2 = G.2.2))).ld .agg 32 (Addr.mk b5 0 none) fun z26 => (real Tryz.prog (RR w [.agg, .agg, .int .i64] (fun x w' => ∃ L, At w w' L ∧ OwnStore x.1 G.1 L ∧ RdKey w x.2.1 G.2.1 ∧ x.2.2 = G.2.2))).ret (.tuple #[(.agg z25), (.agg z26), (.int .i64 r68.2.2)]) : World → Prop) w' := by
    rintro w' Bf k code W ⟨bs1, L1, Ld1, h, hO1, hpb1, hbs1, hg1, hbd1⟩ hk hM
    refine r_callR (c_l05Made (code := code) h hO1 hpb1 (fun x hx w'' hA => hbs1 x hx w'' hA.left) hk hg1) ?_
    rw [hM]
    rintro v w5 ⟨r5, L5, rfl, h, hOS, hko⟩
    refine ⟨(_, _, _), rfl, ?_⟩
    have h : At w w5 (L5 ++ (Ld1 ++ (W ++ ([(b5, Array.replicate 32 (.int .u8 0), ty_impl_Key), (b4, #[.slice none 0 0], ty_impl_Store), (b2, #[.slice s.a s.n s.c], ty_impl_Store)] ++ [])))) := by simpa using h
    have h := h.pl3
    refine r_stA h 1 rfl rfl hOS.sz rfl hOS.one fun w6 h => ?_
    refine r_stA h 0 rfl rfl (by simp [hko.1]) (by simp) (by simpa using u8s_one) fun w7 h => ?_
    refine r_ldA h 1 rfl rfl hOS.sz ?_
    refine r_ldA h 0 rfl rfl (by simp [hko.1]) ?_
    have h : At w w7 ([(b5, (u8s G.2.1).toArray, ty_impl_Key), (b4, r5, ty_impl_Store), (b2, #[.slice s.a s.n s.c], ty_impl_Store)] ++ (L5 ++ (Ld1 ++ (W ++ [])))) := h
    exact r_ret h.nil (r5, _, G.2.2) rfl ⟨L5, h.right.left, hOS, ⟨rfl, hko⟩, rfl⟩
  refine r_joinI ?_
  by_cases hv : validS B
  · obtain ⟨L, hL, hO⟩ := hr hv
    rw [hr2, decide_eq_true hv, hr1]
    refine r_false rfl ?_
    have h : At w w4 (L ++ [(b5, Array.replicate 32 (.int .u8 0), ty_impl_Key), (b4, #[.slice none 0 0], ty_impl_Store), (b2, #[.slice s.a s.n s.c], ty_impl_Store)]) := h3.join hL
    refine r_call h (c_l04Ok (SlOf.at hss h) (by omega)) fun r22 w5 h _ hr22 => ?_
    subst hr22
    by_cases hok : okE es
    · refine r_false (by rw [decide_eq_true hok]; rfl) ?_
      refine ⟨(), rfl, ?_⟩
      refine r_any fun _ => ?_
      have hans : G = putsEnd B (mapBlobs es) (trKey (mapT es)) := by rw [← hG]; unfold stMapAns; rw [if_pos ⟨hv, hok⟩]
      have hes := okE_ents hok
      have h64 := hok.2
      have hnok := mapNodes_ok hok
      have hnlen := mapNodes_len es
      refine r_call h (c_l04Nodes (es.length + 1) (SlOf.at hss h) hes (by omega) (by omega)) fun r29 w6 _ _ ⟨Ln, hLn, hOn, hnn, hkn⟩ => ?_
      have h := h.join hLn
      rw [show treeF (es.length + 1) es = mapT es from rfl] at hOn hnn hkn
      have hmb : mapBlobs es = (trNodes (mapT es)).map ndP := rfl
      rw [hmb] at hans
      have hrk := trKey_ok (mapT es)
      generalize trNodes (mapT es) = ns at hnok hnlen hOn hnn hans
      generalize trKey (mapT es) = RK at hrk hkn hans
      have h : At w w6 (Ln ++ (L ++ [(b5, Array.replicate 32 (.int .u8 0), ty_impl_Key), (b4, #[.slice none 0 0], ty_impl_Store), (b2, #[.slice s.a s.n s.c], ty_impl_Store)])) := by simpa using h
      rw [hkn]
      refine r_new h fun b10 w7 h => ?_
      refine r_stA h 0 rfl rfl (by simp [hrk.1]) (by simp [Value.cells]) (by simpa using u8s_one) fun w8 h => ?_
      have h : At w w8 ([(b10, (u8s RK).toArray, ty_impl_Key)] ++ (Ln ++ (L ++ [(b5, Array.replicate 32 (.int .u8 0), ty_impl_Key), (b4, #[.slice none 0 0], ty_impl_Store), (b2, #[.slice s.a s.n s.c], ty_impl_Store)]))) := h
      have hS8 : SpecSt w w8 (([(b10, (u8s RK).toArray, ty_impl_Key)] ++ Ln) ++ [(b5, Array.replicate 32 (.int .u8 0), ty_impl_Key), (b4, #[.slice none 0 0], ty_impl_Store), (b2, #[.slice s.a s.n s.c], ty_impl_Store)]) b B :=
        ⟨bs, L, [], by have h2 := h.pl2; simpa [List.append_assoc] using h2, hO, hpb, fun x hx w' hA => (hs.ok x hx).below hA.below, good_of hv hBok, fun x hx => by have := hv.2.1 x hx; omega⟩
      clear h
      refine r_loop (σ := Int) (fun x w' => ∃ j : Nat, x = j ∧ j ≤ ns.length ∧ (putsSt B ((ns.take j).map ndP)).2 = 0 ∧ SpecSt w w' (([(b10, (u8s RK).toArray, ty_impl_Key)] ++ Ln) ++ [(b5, Array.replicate 32 (.int .u8 0), ty_impl_Key), (b4, #[.slice none 0 0], ty_impl_Store), (b2, #[.slice s.a s.n s.c], ty_impl_Store)]) b (putsSt B ((ns.take j).map ndP)).1) (fun x _ => (r29.1.n - x).toNat) 0 rfl
        ⟨0, rfl, by omega, by simp [putsSt], by simpa [putsSt] using hS8⟩ ?_
      clear hS8
      rintro i w9 ⟨j, rfl, hj, hc0, bs1, L1, Ld1, h, hO1, hpb1, hbs1, hg1, hbd1⟩
      refine r_any fun _ => ?_
      have h : At w w9 (L1 ++ (Ld1 ++ ([(b10, (u8s RK).toArray, ty_impl_Key)] ++ (Ln ++ [(b5, Array.replicate 32 (.int .u8 0), ty_impl_Key), (b4, #[.slice none 0 0], ty_impl_Store), (b2, #[.slice s.a s.n s.c], ty_impl_Store)])))) := by simpa [List.append_assoc] using h
      refine r_if ((j : Int) < (r29.1.n : Int)) rfl (fun hlt => ?_) (fun hge => ?_)
      · have hj' : ns[j]? = some ns[j] := List.getElem?_eq_getElem (by omega)
        have hno := hnok ns[j] (List.getElem_mem _)
        have hnl := ndC_len hno
        have hbl2 := ndB_len hno
        have hnm := hno.name
        have hvl := hno.value
        have hN : SlOf w9 r29.1 66 ndC ns := hOn.of h ((List.sublist_append_left _ _).trans ((List.sublist_append_right _ _).trans ((List.sublist_append_right _ _).trans (List.sublist_append_right _ _)))) (fun n hn => ndC_len (hnok n hn)) (by omega)
        obtain ⟨p, hp, _⟩ := hN.cell hj'
        have hag := hN.agg hj' hp
        generalize ns[j] = n at hj' hno hnl hbl2 hnm hvl hag
        refine r_ix p hp (by omega) (by omega) ?_
        simp only [Int.toNat_natCast]
        refine r_call h (c_l04Bytes hno hag) fun r43 w10 _ _ ⟨hS43, hn43⟩ => ?_
        obtain ⟨L43, hO43, h⟩ := SlO.own_of h hS43
        refine r_pur (sh := .agg) _ (run_mkBlob 5 r43) ?_
        have hbk := ndB_ok hno
        have hps : putsSt B ((ns.take (j + 1)).map ndP) = ((putAns (putsSt B ((ns.take j).map ndP)).1 (ndP n)).1, (putAns (putsSt B ((ns.take j).map ndP)).1 (ndP n)).2.2) := by
          rw [take_succ_get hj', List.map_append, putsSt_append, if_neg (fun hh => hh hc0)]
          exact putsSt_one _ _
        have hrest : ns.map ndP = (ns.take (j + 1)).map ndP ++ (ns.drop (j + 1)).map ndP := by rw [← List.map_append, List.take_append_drop]
        have h : At w w10 (L1 ++ ((L43 ++ Ld1) ++ ([(b10, (u8s RK).toArray, ty_impl_Key)] ++ (Ln ++ [(b5, Array.replicate 32 (.int .u8 0), ty_impl_Key), (b4, #[.slice none 0 0], ty_impl_Store), (b2, #[.slice s.a s.n s.c], ty_impl_Store)])))) := by
          have h2 := At.pl1 (V := L43) (G1 := L1) h
          simpa [List.append_assoc] using h2
        refine r_callR (c_put2 (c := ⟨5, r43, ndB n⟩) h hO1 hpb1 (fun x hx w' hA => hbs1 x hx w' hA.right) hg1 hbd1 (fun w' hA => ⟨ownS_bytes hO43 hA (List.sublist_append_left _ _) hbk, by show (0 : Int) ≤ 5; omega, by show (5 : Int) < 256; omega⟩) (by show (ndB n).length ≤ _; omega)) ?_
        rw [show (⟨5, r43, ndB n⟩ : BR).pb = ndP n from rfl]
        have hpk := putAns_key (putsSt B ((ns.take j).map ndP)).1 (ndP n) (PB.key_ok _)
        generalize putAns (putsSt B ((ns.take j).map ndP)).1 (ndP n) = Q at hps hpk
        rintro v w11 ⟨rfl, bs2, L2, Ld2, h, hO2, hpb2, hbs2, hg2, hbd2⟩
        refine ⟨(_, Q.2.2), rfl, ?_⟩
        refine r_new h fun b12 w12 h => ?_
        refine r_stA h 0 rfl rfl (by simp [hpk.1]) (by simp [Value.cells]) (by simpa using u8s_one) fun w13 h => ?_
        have h : At w w13 ([(b12, (u8s Q.2.1).toArray, ty_impl_Key)] ++ (L2 ++ (Ld2 ++ ([(b10, (u8s RK).toArray, ty_impl_Key)] ++ (Ln ++ [(b5, Array.replicate 32 (.int .u8 0), ty_impl_Key), (b4, #[.slice none 0 0], ty_impl_Store), (b2, #[.slice s.a s.n s.c], ty_impl_Store)]))))) := h
        by_cases hq : Q.2.2 = 0
        · refine r_ne (fun hne => absurd hq hne) (fun _ => ?_)
          refine ⟨((j + 1 : Nat) : Int), by rw [w64 (by omega) (by omega)]; rfl, ⟨j + 1, rfl, by omega, by rw [hps]; exact hq, ?_⟩, by omega⟩
          rw [hps]
          exact ⟨bs2, L2, Ld2, by simpa [List.append_assoc] using h.right, hO2, hpb2, hbs2, hg2, hbd2⟩
        · refine r_ne (fun _ => ?_) (fun heq => absurd heq hq)
          refine r_ldA h.pl3 0 rfl rfl (by simp [hrk.1]) ?_
          have hput : putsSt B (ns.map ndP) = (Q.1, Q.2.2) := by rw [hrest, putsSt_append, if_pos (by rw [hps]; exact hq), hps]
          have hS13 : SpecSt w w13 (([(b12, (u8s Q.2.1).toArray, ty_impl_Key)] ++ ([(b10, (u8s RK).toArray, ty_impl_Key)] ++ Ln)) ++ [(b5, Array.replicate 32 (.int .u8 0), ty_impl_Key), (b4, #[.slice none 0 0], ty_impl_Store), (b2, #[.slice s.a s.n s.c], ty_impl_Store)]) b Q.1 := ⟨bs2, L2, Ld2, by have h2 := h.pl2.pl2; simpa [List.append_assoc] using h2, hO2, hpb2, hbs2, hg2, hbd2⟩
          exact made_ hS13 hrk (by rw [hans]; exact putsEnd_made hput _ (fun _ => rfl))
      · have hjl : j = ns.length := by omega
        subst hjl
        rw [List.take_of_length_le (Nat.le_refl _)] at hc0 hO1 hpb1 hg1 hbd1
        refine r_ldA h.pl2 0 rfl rfl (by simp [hrk.1]) ?_
        have hput : putsSt B (ns.map ndP) = ((putsSt B (ns.map ndP)).1, 0) := by rw [← hc0]
        exact made_ (W := [(b10, (u8s RK).toArray, ty_impl_Key)] ++ Ln) ⟨bs1, L1, Ld1, by simpa [List.append_assoc] using h, hO1, hpb1, hbs1, hg1, hbd1⟩ hrk (by rw [hans]; exact putsEnd_made hput _ (fun _ => rfl))
    · refine r_true (by rw [decide_eq_false hok]; rfl) ?_
      exact bad_ (V := L) (by rw [← hG]; unfold stMapAns; rw [if_neg (fun hh => hok hh.2)]) h.swap
  · rw [hr2, decide_eq_false hv]
    refine r_true rfl ?_
    exact bad_ (V := []) (by rw [← hG]; unfold stMapAns; rw [if_neg (fun hh => hv hh.1)]) h4)
end Go.Proofs.YtkifkdkjljcclaaGreat
