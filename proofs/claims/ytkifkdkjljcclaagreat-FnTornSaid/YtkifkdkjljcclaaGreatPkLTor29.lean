/- StoreList: the reference's answer. Stores that are made step by step stay valid. Plain. -/
import Derived.Test.YtkifkdkjljcclaaGreatPkLTor27
import Derived.Test.YtkifkdkjljcclaaGreatPkLTor28
import Derived.Test.YtkifkdkjljcclaaGreatPkLTor20
import Derived.Test.YtkifkdkjljcclaaGreatPkLTor17
namespace Go.Proofs.YtkifkdkjljcclaaGreat
open Go.Sx Go.RowKit

theorem stListAns_made {B : List PB} {X : List (List Int)} (hl : ¬ X.length > 256) (hv : validS B) (hsh : shortX X) {Bf : List PB} {code : Int} (h : putsSt B (stBlobs X) = (Bf, code)) (k : List Int) (hk : code = 0 → k = keyF (X.length + 1) (chunkKeys X)) : madeAns (Bf, k, code) = stListAns B X := by
  have h1 := putsAns_st (stBlobs X) B zero32
  rw [h] at h1
  have h2 : stListAns B X = (if (putsAns B zero32 (stBlobs X)).2.2 = 0 then ((putsAns B zero32 (stBlobs X)).1, keyF (X.length + 1) (chunkKeys X), 0) else ([], zero32, (putsAns B zero32 (stBlobs X)).2.2)) := by unfold stListAns; rw [if_neg hl, if_pos ⟨hv, hsh⟩]
  rw [h2, h1.1]
  unfold madeAns
  by_cases hc : code = 0
  · rw [if_neg (fun hh => hh hc), if_pos hc, h1.2 hc, hk hc]
    rw [hc]
  · rw [if_pos hc, if_neg hc]
theorem shortX_take {X : List (List Int)} {j : Nat} {x : List Int} (h : X[j]? = some x) : shortX (X.take (j + 1)) ↔ shortX (X.take j) ∧ x.length ≤ 1024 := by
  rw [take_succ_get h]
  constructor
  · intro hh
    exact ⟨fun c hc => hh c (by simp [hc]), hh x (by simp)⟩
  · rintro ⟨h1, h2⟩ c hc
    rcases List.mem_append.1 hc with hc | hc
    · exact h1 c hc
    · rw [List.mem_singleton.1 hc]; exact h2

theorem c_spec_StoreList {w : World} {r : Array Value} {s' : Sl} {B : List PB} {X : List (List Int)} (hr : RdStore w r B) (hx : RdByteSS w s' X) (hz : sizeBs B ≤ 1073741824) (hzx : sizeByteSS X ≤ 1073741824) :
    Ret Tryz.prog n_spec_StoreList [.agg r, .slice s'.a s'.n s'.c] w [.agg, .agg, .int .i64] (fun x w' => ∃ L, At w w' L ∧ OwnStore x.1 (stListAns B X).1 L ∧ RdKey w x.2.1 (stListAns B X).2.1 ∧ x.2.2 = (stListAns B X).2.2) := spec_StoreList_calls _ _ (by
  unfold spec_StoreList
  have hBok := hr.ok
  obtain ⟨s, bs, rfl, hpb, hs⟩ := hr
  obtain ⟨rs, hX, hss⟩ := hx
  have hl := le_sizeBs B
  have hbl : bs.length = B.length := by rw [← hpb]; simp
  have hXl : X.length = rs.length := by rw [← hX]; simp
  have hsn := hss.n
  unfold sizeByteSS at hzx
  refine r_new (At.refl w) fun b2 w1 h => ?_
  refine r_new h fun b4 w2 h => ?_
  refine r_new h fun b5 w3 h => ?_
  have h : At w w3 [(b5, Array.replicate 32 (.int .u8 0), ty_impl_Key), (b4, #[.slice none 0 0], ty_impl_Store), (b2, #[.slice s.a s.n s.c], ty_impl_Store)] := h
  generalize hG : stListAns B X = G
  have bad_ : ∀ {w' : World} {c : Int} {V : List Blk}, G = ([], zero32, c) → At w w' ([(b5, Array.replicate 32 (.int .u8 0), ty_impl_Key), (b4, #[.slice none 0 0], ty_impl_Store), (b2, #[.slice s.a s.n s.c], ty_impl_Store)] ++ V) →
      ((real Tryz.prog (RR w [.agg, .agg, .int .i64] (fun x w' => ∃ L, At w w' L ∧ OwnStore x.1 G.1 L ∧ RdKey w x.2.1 G.2.1 ∧ x.2.2 = G.2.2))).pur (Instr.build ty_impl_Store #[]) .agg fun y20 => (real Tryz.prog (RR w [.agg, .agg, .int .i64] (fun x w' => ∃ L, At w w' L ∧ OwnStore x.1 G.1 L ∧ RdKey w x.2.1 G.2.1 ∧ x.2.2 = G.2.2))).st 1 (Addr.mk b4 0 none) (.agg y20) <| (real Tryz.prog (RR w [.agg, .agg, .int .i64] (fun x w' => ∃ L, At w w' L ∧ OwnStore x.1 G.1 L ∧ RdKey w x.2.1 G.2.1 ∧ x.2.2 = G.2.2))).st 32 (Addr.mk b5 0 none) (.agg (Array.replicate 32 (.int .u8 0))) <| (real Tryz.prog (RR w [.agg, .agg, .int .i64] (fun x w' => ∃ L, At w w' L ∧ OwnStore x.1 G.1 L ∧ RdKey w x.2.1 G.2.1 ∧ x.2.2 = G.2.2))).ld .agg 1 (Addr.mk b4 0 none) fun z5 => (real Tryz.prog (RR w [.agg, .agg, .int .i64] (fun x w' => ∃ L, At w w' L ∧ OwnStore x.1 G.1 L ∧ RdKey w x.2.1 G.2.1 ∧ x.2.2 = G.2.2))).ld .agg 32 (Addr.mk b5 0 none) fun z6 => (real Tryz.prog (RR w [.agg, .agg, .int .i64] (fun x w' => ∃ L, At w w' L ∧ OwnStore x.1 G.1 L ∧ RdKey w x.2.1 G.2.1 ∧ x.2.2 = G.2.2))).ret (.tuple #[(.agg z5), (.agg z6), (.int .i64 c)]) : World → Prop) w' := by
    rintro w' c V rfl h
    refine r_pur (sh := .agg) _ run_noStore ?_
    refine r_stA h 1 rfl rfl rfl rfl (by simp [oneC]) fun w8 h => ?_
    refine r_stA h 0 rfl rfl (by simp) (by simp) (by simp [oneC]) fun w9 h => ?_
    refine r_ldA h 1 rfl rfl rfl ?_
    refine r_ldA h 0 rfl rfl (by simp) ?_
    exact r_ret h.nil (_, _, c) rfl ⟨[], h.nil, OwnStore.nil, ⟨rfl, zero32_ok⟩, rfl⟩
  refine r_if ((s'.n : Int) > 256) rfl (fun hgt => ?_) (fun hle => ?_)
  · exact bad_ (V := []) (by rw [← hG]; unfold stListAns; rw [if_pos (by omega)]) h
  have hX256 : ¬ X.length > 256 := by omega
  have h3 := h
  refine r_call h (c_l05Open (p := ⟨b2, 0, none⟩) (fun n => ldOk_own h 2 rfl 0 rfl (by simp [Sh.emb])) (hs.at h.nil)) fun r24 w4 h4 _ ⟨hr2, b, hr1, hr⟩ => ?_
  rw [hpb] at hr hr2
  have made_ : ∀ {w' : World} {Bf : List PB} {k : List Int} {code : Int} {W : List Blk}, SpecSt w w' (W ++ [(b5, Array.replicate 32 (.int .u8 0), ty_impl_Key), (b4, #[.slice none 0 0], ty_impl_Store), (b2, #[.slice s.a s.n s.c], ty_impl_Store)]) b Bf → keyOk k → madeAns (Bf, k, code) = G →
      ((real Tryz.prog (RR w [.agg, .agg, .int .i64] (fun x w' => ∃ L, At w w' L ∧ OwnStore x.1 G.1 L ∧ RdKey w x.2.1 G.2.1 ∧ x.2.2 = G.2.2))).call n_spec_l05Made [.pointer (some ⟨b, 0, none⟩), .agg (u8s k).toArray, .int .i64 code] [.agg, .agg, (.int .i64)] fun r68 =>
       (real Tryz.prog (RR w [.agg, .agg, .int .i64] (fun x w' => ∃ L, At w w' L ∧ OwnStore x.1 G.1 L ∧ RdKey w x.2.1 G.2.1 ∧ x.2.2 = G.2.2))).st 1 (Addr.mk b4 0 none) (.agg r68.1) <| (real Tryz.prog (RR w [.agg, .agg, .int .i64] (fun x w' => ∃ L, At w w' L ∧ OwnStore x.1 G.1 L ∧ RdKey w x.2.1 G.2.1 ∧ x.2.2 = G.2.2))).st 32 (Addr.mk b5 0 none) (.agg r68.2.1) <| (real Tryz.prog (RR w [.agg, .agg, .int .i64] (fun x w' => ∃ L, At w w' L ∧ OwnStore x.1 G.1 L ∧ RdKey w x.2.1 G.2.1 ∧ x.2.2 = G.2.2))).ld .agg 1 (Addr.mk b4 0 none) fun z25 => (real Tryz.prog (RR w [.agg, .agg, .int .i64] (fun x w' => ∃ L, At w w' L ∧ OwnStore x.1 G.1 L ∧ RdKey w x.2.1 G.2.1 ∧ x.2.2 = G.2.2))).ld .agg 32 (Addr.mk b5 0 none) fun z26 => (real Tryz.prog (RR w [.agg, .agg, .int .i64] (fun x w' => ∃ L, At w w' L ∧ OwnStore x.1 G.1 L ∧ RdKey w x.2.1 G.2.1 ∧ x.2.2 = G.2.2))).ret (.tuple #[(.agg z25), (.agg z26), (.int .i64 r68.2.2)]) : World → Prop) w' := by
    rintro w' Bf k code W ⟨bs1, L1, Ld1, h, hO1, hpb1, hbs1, hg1, hbd1⟩ hk hM
    refine r_callR (c_l05Made (code := code) h hO1 hpb1 (fun x hx w'' hA => hbs1 x hx w'' hA.left) hk hg1) ?_
    rw [hM]
    rintro v w5 ⟨r5, L5, rfl, h, hOS, hko⟩
    refine ⟨(_, _, _), rfl, ?_⟩
    have h : At w w5 (L5 ++ (Ld1 ++ (W ++ ([(b5, Array.replicate 32 (.int .u8 0), ty_impl_Key), (b4, #[.slice none 0 0], ty_impl_Store), (b2, #[.slice s.a s.n s.c], ty_impl_Store)] ++ [])))) := by simpa using h
    have h := h.pl3
    refine r_stA h 1 rfl rfl hOS.sz rfl hOS.one fun w6 h => ?_
    refine r_stA h 0 rfl rfl (by simp [hko.1]) (by simp) (by simpa using u8s_one) fun w7 h => ?_
    refine r_ldA h 1 rfl rfl hOS.sz ?_
    refine r_ldA h 0 rfl rfl (by simp [hko.1]) ?_
    have h : At w w7 ([(b5, (u8s G.2.1).toArray, ty_impl_Key), (b4, r5, ty_impl_Store), (b2, #[.slice s.a s.n s.c], ty_impl_Store)] ++ (L5 ++ (Ld1 ++ (W ++ [])))) := h
    exact r_ret h.nil (r5, _, G.2.2) rfl ⟨L5, h.right.left, hOS, ⟨rfl, hko⟩, rfl⟩
  refine r_join (σ := Bool) (fun x w' => x = decide (validS B ∧ shortX X) ∧ At w w' [(b5, Array.replicate 32 (.int .u8 0), ty_impl_Key), (b4, #[.slice none 0 0], ty_impl_Store), (b2, #[.slice s.a s.n s.c], ty_impl_Store)] ∧ Below w4.heap.size w4 w') (fun x w5 hJ => ?_) ?_
  · obtain ⟨rfl, h, hb5⟩ := hJ
    refine r_any fun _ => ?_
    by_cases hvs : validS B ∧ shortX X
    · obtain ⟨hv, hsh⟩ := hvs
      refine r_false (by rw [decide_eq_true ⟨hv, hsh⟩]; rfl) ?_
      obtain ⟨L, hL, hO⟩ := hr hv
      rw [hr1]
      have hdl : ∀ x ∈ rs, x.data.length ≤ 1024 := fun x hx => hsh _ (by rw [← hX]; exact List.mem_map_of_mem hx)
      have h : At w w5 (L ++ ([] ++ [(b5, Array.replicate 32 (.int .u8 0), ty_impl_Key), (b4, #[.slice none 0 0], ty_impl_Store), (b2, #[.slice s.a s.n s.c], ty_impl_Store)])) := (h3.join hL).trans hb5
      have hS0 : SpecSt w w5 ([] ++ [(b5, Array.replicate 32 (.int .u8 0), ty_impl_Key), (b4, #[.slice none 0 0], ty_impl_Store), (b2, #[.slice s.a s.n s.c], ty_impl_Store)]) b B := ⟨bs, L, [], h, hO, hpb, fun x hx w' hA => (hs.ok x hx).below hA.below, good_of hv hBok, fun x hx => by have := hv.2.1 x hx; omega⟩
      refine r_bs0 T_sl_Key h fun y46 w6 hy hyn => ?_
      obtain ⟨Lk, hOk, h6⟩ := hy.split
      have hS6 : SpecSt w w6 (Lk ++ [(b5, Array.replicate 32 (.int .u8 0), ty_impl_Key), (b4, #[.slice none 0 0], ty_impl_Store), (b2, #[.slice s.a s.n s.c], ty_impl_Store)]) b B := by
        obtain ⟨_, _, _, _, _, _, _, hg, hbd⟩ := hS0
        have h6 : At w w6 (Lk ++ (L ++ [(b5, Array.replicate 32 (.int .u8 0), ty_impl_Key), (b4, #[.slice none 0 0], ty_impl_Store), (b2, #[.slice s.a s.n s.c], ty_impl_Store)])) := h6
        exact ⟨bs, L, [], h6.pl1, hO, hpb, fun x hx w' hA => (hs.ok x hx).below hA.below, hg, hbd⟩
      clear h h6 hy hS0
      refine r_loop (σ := Sl × Int) (fun x w' => ∃ (j : Nat) (Lk : List Blk), x.2 = j ∧ j ≤ rs.length ∧ (putsSt B ((X.take j).map chunkB)).2 = 0 ∧ SpecSt w w' (Lk ++ [(b5, Array.replicate 32 (.int .u8 0), ty_impl_Key), (b4, #[.slice none 0 0], ty_impl_Store), (b2, #[.slice s.a s.n s.c], ty_impl_Store)]) b (putsSt B ((X.take j).map chunkB)).1 ∧
          OwnS ty_impl_Key 32 x.1 ((chunkKeys (X.take j)).flatMap u8s) Lk ∧ x.1.n = j) (fun x _ => (s'.n - x.2).toNat) (y46, 0) rfl
        ⟨0, Lk, rfl, by omega, by simp [putsSt], by simpa [putsSt] using hS6, by simpa [chunkKeys] using hOk, hyn⟩ ?_
      clear hOk hyn hS6
      rintro ⟨sk, i⟩ w8 ⟨j, Lk, hi, hj, hc0, hS, hOk, hkn⟩
      dsimp only at hi hOk hkn
      subst hi
      refine r_any fun _ => ?_
      dsimp only
      refine r_if ((j : Int) < (s'.n : Int)) rfl (fun hlt => ?_) (fun hge => ?_)
      · obtain ⟨bs1, L1, Ld1, h, hO1, hpb1, hbs1, hg1, hbd1⟩ := hS
        obtain ⟨r, p, hr, hrm, hp, hok, hld⟩ := (hss.at h.nil).get (i := j) (by omega)
        have hxr := smap_get hX hr
        have hrd := hdl r hrm
        refine r_ix p hp (by omega) (by omega) ?_
        refine r_ldN r.d (by simp only [Int.toNat_natCast]; exact hld) ?_
        refine r_pur (sh := .agg) _ (run_mkBlob 1 r.d) ?_
        have hps : putsSt B ((X.take (j + 1)).map chunkB) = ((putAns (putsSt B ((X.take j).map chunkB)).1 (chunkB r.data)).1, (putAns (putsSt B ((X.take j).map chunkB)).1 (chunkB r.data)).2.2) := by
          rw [take_succ_get hxr, List.map_append, putsSt_append, if_neg (fun hh => hh hc0)]
          exact putsSt_one _ _
        refine r_callR (c_put2 (c := r.br 1) h hO1 hpb1 hbs1 hg1 hbd1 (fun w' hA => ⟨(hss.at hA.nil).ok r hrm, by show (0 : Int) ≤ 1; omega, by show (1 : Int) < 256; omega⟩) (by show r.data.length ≤ _; omega)) ?_
        rw [show (r.br 1).pb = chunkB r.data from rfl]
        have hpk := putAns_key (putsSt B ((X.take j).map chunkB)).1 (chunkB r.data) (PB.key_ok _)
        have hpk0 := putAns_k (B := (putsSt B ((X.take j).map chunkB)).1) (c := chunkB r.data)
        have hrest : stBlobs X = (X.take (j + 1)).map chunkB ++ ((X.drop (j + 1)).map chunkB ++ (nodesF (X.length + 1) (chunkKeys X) ++ if X.length = 0 then [⟨3, []⟩] else [])) := by
          have e1 : X.map chunkB = (X.take (j + 1)).map chunkB ++ (X.drop (j + 1)).map chunkB := by rw [← List.map_append, List.take_append_drop]
          unfold stBlobs
          rw [e1, List.append_assoc]
        generalize putAns (putsSt B ((X.take j).map chunkB)).1 (chunkB r.data) = Q at hps hpk hpk0
        rintro v w9 ⟨rfl, hS⟩
        refine ⟨(_, Q.2.2), rfl, ?_⟩
        obtain ⟨bs2, L2, Ld2, h, hO2, hpb2, hbs2, hg2, hbd2⟩ := hS
        refine r_new h fun b12 w10 h => ?_
        refine r_stA h 0 rfl rfl (by simp [hpk.1]) (by simp [Value.cells]) (by simpa using u8s_one) fun w11 h => ?_
        have h : At w w11 ([(b12, (u8s Q.2.1).toArray, ty_impl_Key)] ++ (L2 ++ (Ld2 ++ (Lk ++ [(b5, Array.replicate 32 (.int .u8 0), ty_impl_Key), (b4, #[.slice none 0 0], ty_impl_Store), (b2, #[.slice s.a s.n s.c], ty_impl_Store)])))) := h
        by_cases hq : Q.2.2 = 0
        · refine r_ne (fun hne => absurd hq hne) (fun _ => ?_)
          refine r_ldA h 0 rfl rfl (by simp [hpk.1]) ?_
          refine r_bs1 T_sl_Key h (by simp [Value.cells, hpk.1]) (by omega) fun y74 w12 hy hyn => ?_
          rw [show (Value.agg (u8s Q.2.1).toArray).cells.toList = u8s Q.2.1 by simp [Value.cells]] at hy
          obtain ⟨Ly, hOy, h⟩ := hy.split
          have h : At w w12 (Ly ++ ([(b12, (u8s Q.2.1).toArray, ty_impl_Key)] ++ (L2 ++ (Ld2 ++ (Lk ++ [(b5, Array.replicate 32 (.int .u8 0), ty_impl_Key), (b4, #[.slice none 0 0], ty_impl_Store), (b2, #[.slice s.a s.n s.c], ty_impl_Store)]))))) := h
          refine r_append T_sl_Key (hOk.slo h.pl4) (hOy.sl h (List.sublist_append_left _ _)) u8s_one (by omega) (by omega) fun y75 w13 hS hn75 => ?_
          obtain ⟨Lk', hOk', h⟩ := hS.split
          have h : At w w13 (Lk' ++ (Ly ++ ([(b12, (u8s Q.2.1).toArray, ty_impl_Key)] ++ (L2 ++ (Ld2 ++ [(b5, Array.replicate 32 (.int .u8 0), ty_impl_Key), (b4, #[.slice none 0 0], ty_impl_Store), (b2, #[.slice s.a s.n s.c], ty_impl_Store)]))))) := h
          have h := h.dr1.dr1.pl2.pl2
          refine ⟨(y75, ((j + 1 : Nat) : Int)), by rw [w64 (by omega) (by omega)]; rfl, ⟨j + 1, Lk', rfl, by omega, by rw [hps]; exact hq, by rw [hps]; exact ⟨bs2, L2, Ld2, h, hO2, hpb2, hbs2, hg2, hbd2⟩, ?_, by dsimp only; omega⟩, by dsimp only; omega⟩
          have e : chunkKeys (X.take j ++ [r.data]) = chunkKeys (X.take j) ++ [Q.2.1] := by rw [hpk0 hq]; unfold chunkKeys; rw [List.map_append]; rfl
          rw [take_succ_get hxr, e, List.flatMap_append, List.flatMap_singleton]
          exact hOk'
        · refine r_ne (fun _ => ?_) (fun heq => absurd heq hq)
          refine r_ldA h 0 rfl rfl (by simp [hpk.1]) ?_
          have hput : putsSt B (stBlobs X) = (Q.1, Q.2.2) := by rw [hrest, putsSt_append, if_pos (by rw [hps]; exact hq), hps]
          have hS11 : SpecSt w w11 (([(b12, (u8s Q.2.1).toArray, ty_impl_Key)] ++ Lk) ++ [(b5, Array.replicate 32 (.int .u8 0), ty_impl_Key), (b4, #[.slice none 0 0], ty_impl_Store), (b2, #[.slice s.a s.n s.c], ty_impl_Store)]) b Q.1 := ⟨bs2, L2, Ld2, by simpa [List.append_assoc] using h.pl2.pl2, hO2, hpb2, hbs2, hg2, hbd2⟩
          exact made_ hS11 hpk (by rw [← hG]; exact stListAns_made hX256 hv hsh hput _ (fun hh => absurd hh hq))
      · have hjl : j = rs.length := by omega
        subst hjl
        rw [List.take_of_length_le (by omega)] at hOk hS hc0
        refine r_eq (fun hn0 => ?_) (fun hn0 => ?_)
        · have hX0 : X = [] := List.eq_nil_of_length_eq_zero (by omega)
          have hst : stBlobs X = [⟨3, []⟩] := by rw [hX0]; rfl
          obtain ⟨bs1, L1, Ld1, h, hO1, hpb1, hbs1, hg1, hbd1⟩ := hS
          refine r_pur (sh := .agg) _ run_mkEmptyB ?_
          refine r_callR (c_put2 (c := ⟨3, ⟨none, 0, 0⟩, []⟩) h hO1 hpb1 hbs1 hg1 hbd1 (fun w' _ => ⟨⟨⟨by simp [u8s], fun j v hv => by simp [u8s] at hv⟩, (by intro b hb; cases hb), Nat.le_refl _⟩, by show (0 : Int) ≤ 3; omega, by show (3 : Int) < 256; omega⟩) (by show (0 : Nat) ≤ _; omega)) ?_
          rw [show (⟨3, ⟨none, 0, 0⟩, []⟩ : BR).pb = ⟨3, []⟩ from rfl]
          have hB0 : (putsSt B (X.map chunkB)).1 = B := by rw [hX0]; rfl
          rw [hB0]
          have hput : putsSt B (stBlobs X) = ((putAns B ⟨3, []⟩).1, (putAns B ⟨3, []⟩).2.2) := by rw [hst]; exact putsSt_one _ _
          have hpk := putAns_key B ⟨3, []⟩ (PB.key_ok _)
          have hpk0 := putAns_k (B := B) (c := ⟨3, []⟩)
          generalize putAns B ⟨3, []⟩ = Q at hput hpk hpk0
          rintro v w9 ⟨rfl, hS⟩
          refine ⟨(_, Q.2.2), rfl, ?_⟩
          obtain ⟨bs2, L2, Ld2, h, hO2, hpb2, hbs2, hg2, hbd2⟩ := hS
          refine r_new h fun b14 w10 h => ?_
          refine r_stA h 0 rfl rfl (by simp [hpk.1]) (by simp [Value.cells]) (by simpa using u8s_one) fun w11 h => ?_
          have h : At w w11 ([(b14, (u8s Q.2.1).toArray, ty_impl_Key)] ++ (L2 ++ (Ld2 ++ (Lk ++ [(b5, Array.replicate 32 (.int .u8 0), ty_impl_Key), (b4, #[.slice none 0 0], ty_impl_Store), (b2, #[.slice s.a s.n s.c], ty_impl_Store)])))) := h
          refine r_ldA h 0 rfl rfl (by simp [hpk.1]) ?_
          have hS11 : SpecSt w w11 (([(b14, (u8s Q.2.1).toArray, ty_impl_Key)] ++ Lk) ++ [(b5, Array.replicate 32 (.int .u8 0), ty_impl_Key), (b4, #[.slice none 0 0], ty_impl_Store), (b2, #[.slice s.a s.n s.c], ty_impl_Store)]) b Q.1 := ⟨bs2, L2, Ld2, by simpa [List.append_assoc] using h.pl2.pl2, hO2, hpb2, hbs2, hg2, hbd2⟩
          exact made_ hS11 hpk (by rw [← hG]; exact stListAns_made hX256 hv hsh hput _ (fun hh => by rw [hpk0 hh, hX0]; rfl))
        · refine r_callR (c_specList (X.length + 1) (ks := chunkKeys X) hS (fun h => ownS_ks hOk h (List.sublist_append_left _ _) (chunkKeys_ok X)) (by rw [chunkKeys_len]; omega) (by rw [chunkKeys_len]; omega) (by rw [chunkKeys_len]; omega)) ?_
          have hput : putsSt B (stBlobs X) = putsSt (putsSt B (X.map chunkB)).1 (nodesF (X.length + 1) (chunkKeys X)) := by
            unfold stBlobs
            rw [if_neg (show ¬ X.length = 0 by omega), List.append_nil, putsSt_append, if_neg (fun hh => hh hc0)]
          have hrk := keyF_ok (X.length + 1) (chunkKeys X) (chunkKeys_ok X)
          generalize putsSt (putsSt B (X.map chunkB)).1 (nodesF (X.length + 1) (chunkKeys X)) = Q at hput
          generalize hRK : keyF (X.length + 1) (chunkKeys X) = RK at hrk
          rintro v w9 ⟨rfl, hS⟩
          refine ⟨(_, Q.2), rfl, ?_⟩
          have kk : keyOk (if Q.2 = 0 then RK else zero32) := by
            split
            · exact hrk
            · exact zero32_ok
          obtain ⟨bs2, L2, Ld2, h, hO2, hpb2, hbs2, hg2, hbd2⟩ := hS
          refine r_new h fun b16 w10 h => ?_
          refine r_stA h 0 rfl rfl (by simp [kk.1]) (by simp [Value.cells]) (by simpa using u8s_one) fun w11 h => ?_
          have h : At w w11 ([(b16, (u8s (if Q.2 = 0 then RK else zero32)).toArray, ty_impl_Key)] ++ (L2 ++ (Ld2 ++ (Lk ++ [(b5, Array.replicate 32 (.int .u8 0), ty_impl_Key), (b4, #[.slice none 0 0], ty_impl_Store), (b2, #[.slice s.a s.n s.c], ty_impl_Store)])))) := h
          refine r_ldA h 0 rfl rfl (by simp [kk.1]) ?_
          have hS11 : SpecSt w w11 (([(b16, (u8s (if Q.2 = 0 then RK else zero32)).toArray, ty_impl_Key)] ++ Lk) ++ [(b5, Array.replicate 32 (.int .u8 0), ty_impl_Key), (b4, #[.slice none 0 0], ty_impl_Store), (b2, #[.slice s.a s.n s.c], ty_impl_Store)]) b Q.1 := ⟨bs2, L2, Ld2, by simpa [List.append_assoc] using h.pl2.pl2, hO2, hpb2, hbs2, hg2, hbd2⟩
          exact made_ hS11 kk (by rw [← hG]; exact stListAns_made hX256 hv hsh (hput.trans rfl) _ (fun hh => by rw [if_pos hh, hRK]))
    · refine r_true (by rw [decide_eq_false hvs]; rfl) ?_
      exact bad_ (V := []) (by rw [← hG]; unfold stListAns; rw [if_neg hX256, if_neg hvs]) h
  · refine r_loop (σ := Bool × Int) (fun x w' => ∃ j : Nat, x.2 = j ∧ j ≤ rs.length ∧ x.1 = decide (validS B ∧ shortX (X.take j)) ∧ At w w' [(b5, Array.replicate 32 (.int .u8 0), ty_impl_Key), (b4, #[.slice none 0 0], ty_impl_Store), (b2, #[.slice s.a s.n s.c], ty_impl_Store)] ∧ Below w4.heap.size w4 w') (fun x _ => (s'.n - x.2).toNat) (r24.2, 0) rfl
      ⟨0, rfl, by omega, by rw [hr2, decide_eq_decide]; exact ⟨fun h => ⟨h, fun c hc => by simp at hc⟩, fun h => h.1⟩, h4, Below.refl _ _⟩ ?_
    rintro ⟨ok, i⟩ w5 ⟨j, hi, hj, hok, h, hb5⟩
    dsimp only at hi hok
    subst hi
    subst hok
    refine r_any fun _ => ?_
    refine r_joinI ?_
    dsimp only
    refine r_if ((j : Int) < (s'.n : Int)) rfl (fun hlt => ?_) (fun hge => ?_)
    · by_cases hvj : validS B ∧ shortX (X.take j)
      · refine r_true (decide_eq_true hvj) ?_
        refine ⟨(), rfl, ?_⟩
        refine r_any fun _ => ?_
        obtain ⟨r, p, hr, hrm, hp, hok, hld⟩ := (hss.at h.nil).get (i := j) (by omega)
        have hxr := smap_get hX hr
        have hrn := hok.n
        refine r_ix p hp (by omega) (by omega) ?_
        refine r_ldN r.d (by simp only [Int.toNat_natCast]; exact hld) ?_
        refine ⟨(decide ((r.d.n : Int) ≤ 1024), ((j + 1 : Nat) : Int)), by rw [w64 (by omega) (by omega)]; rfl, ⟨j + 1, rfl, by omega, ?_, h, hb5⟩, by dsimp only; omega⟩
        dsimp only
        rw [decide_eq_decide, shortX_take hxr]
        constructor
        · intro hle
          exact ⟨hvj.1, hvj.2, by omega⟩
        · rintro ⟨_, _, h3⟩
          omega
      · refine r_false (decide_eq_false hvj) ?_
        refine ⟨_, rfl, ?_, h, hb5⟩
        rw [decide_eq_decide]
        constructor
        · exact fun hh => absurd hh hvj
        · rintro ⟨h1, h2⟩
          exact ⟨h1, fun c hc => h2 c (List.mem_of_mem_take hc)⟩
    · have hjl : j = rs.length := by omega
      subst hjl
      refine ⟨_, rfl, ?_, h, hb5⟩
      rw [List.take_of_length_le (by omega)])
end Go.Proofs.YtkifkdkjljcclaaGreat

namespace Go.Proofs.YtkifkdkjljcclaaGreat
open Go.Sx Go.RowKit

theorem putAns_valid {B : List PB} {c : PB} (h : validS B) (hc : c.data.length ≤ 1024) : validS (putAns B c).1 := by
  unfold putAns
  split
  · split <;> exact h
  · rename_i hm
    split
    · exact h
    · rename_i hl
      have hp := posK_le (keysOf B) c.key
      rw [keysOf_len] at hp
      refine ⟨by dsimp only; rw [insAt_len hp]; omega, fun b hb => ?_, ?_⟩
      · rcases mem_insAt hb with rfl | hb
        · exact hc
        · exact h.2.1 b hb
      · dsimp only
        have : keysOf (insAt (posK (keysOf B) c.key) c B) = insAt (posK (keysOf B) c.key) c.key (keysOf B) := by unfold keysOf; rw [insAt_map]
        rw [this]
        exact asc_insAt h.2.2 hm
theorem putsAns_valid : ∀ (cs B : List PB) (k : List Int), validS B → (∀ c ∈ cs, c.data.length ≤ 1024) → (putsAns B k cs).2.2 = 0 → validS (putsAns B k cs).1
  | [], _, _, h, _, _ => h
  | c :: r, B, k, h, hc, h0 => by
    unfold putsAns at h0 ⊢
    split at h0
    · rename_i hne
      exact absurd h0 hne
    · rename_i hne
      rw [if_neg hne]
      exact putsAns_valid r _ _ (putAns_valid h (hc c (by simp))) (fun x hx => hc x (by simp [hx])) h0
theorem validS_nil : validS [] := ⟨by simp, by simp, List.Pairwise.nil⟩
theorem validS_filter {B : List PB} (h : validS B) (p : PB → Bool) : validS (B.filter p) := by
  have hs : (B.filter p).Sublist B := List.filter_sublist
  exact ⟨Nat.le_trans hs.length_le h.1, fun b hb => h.2.1 b (hs.subset hb), h.2.2.sublist (hs.map _)⟩
theorem dropAns_valid {B : List PB} {k : List Int} (h : (dropAns B k).2 = 0) : validS (dropAns B k).1 := by
  unfold dropAns at h ⊢
  split at h
  · rename_i hv
    rw [if_pos hv]
    split at h
    · rename_i hk
      rw [if_pos hk]
      exact validS_filter hv _
    · cases h
  · cases h
theorem foldAns_valid {B : List PB} {ks : List (List Int)} (hk : ∀ k ∈ ks, keyOk k) (h : (foldAns B ks).2.2 = 0) : validS (foldAns B ks).1 := by
  unfold foldAns at h ⊢
  split at h
  · rename_i hv
    rw [if_pos hv]
    split at h
    · cases h
    · rename_i hl
      rw [if_neg hl]
      refine putsAns_valid _ _ _ hv (fun c hc => ?_) h
      rw [List.mem_singleton.1 hc]
      have := flat_len hk
      show (ks.flatten).length ≤ 1024
      omega
  · cases h
theorem putBAns_valid {B : List PB} {c : PB} (h : (putBAns B c).2.2 = 0) : validS (putBAns B c).1 := by
  unfold putBAns at h ⊢
  split at h
  · rename_i hv
    rw [if_pos hv]
    exact putsAns_valid _ _ _ hv.1 (fun x hx => by rw [List.mem_singleton.1 hx]; exact hv.2) h
  · cases h
theorem putsEnd_valid {B cs : List PB} {k : List Int} (hv : validS B) (hc : ∀ c ∈ cs, c.data.length ≤ 1024) (h : (putsEnd B cs k).2.2 = 0) : validS (putsEnd B cs k).1 := by
  unfold putsEnd at h ⊢
  split at h
  · rename_i h0
    rw [if_pos h0]
    exact putsAns_valid _ _ _ hv hc h0
  · rename_i h0
    exact absurd h h0
theorem stMapAns_valid {B : List PB} {es : List PE} (h : (stMapAns B es).2.2 = 0) : validS (stMapAns B es).1 := by
  unfold stMapAns at h ⊢
  split at h
  · rename_i hv
    rw [if_pos hv]
    refine putsEnd_valid hv.1 (fun c hc => ?_) h
    obtain ⟨n, hn, rfl⟩ := List.mem_map.1 hc
    have hok := mapNodes_ok hv.2 n hn
    have := ndB_len hok
    have := hok.name
    have := hok.value
    show (ndB n).length ≤ 1024
    omega
  · cases h
theorem stBlobs_len {X : List (List Int)} (hs : shortX X) : ∀ c ∈ stBlobs X, c.data.length ≤ 1024 := by
  intro c hc
  unfold stBlobs at hc
  rcases List.mem_append.1 hc with hc | hc
  · obtain ⟨x, hx, rfl⟩ := List.mem_map.1 hc
    exact hs x hx
  · rcases List.mem_append.1 hc with hc | hc
    · have := (nodesF_ok _ _ (chunkKeys_ok X) c hc).2.1
      omega
    · split at hc
      · rw [List.mem_singleton.1 hc]
        simp
      · cases hc
theorem stListAns_valid {B : List PB} {X : List (List Int)} (h : (stListAns B X).2.2 = 0) : validS (stListAns B X).1 := by
  unfold stListAns at h ⊢
  split at h
  · cases h
  · rename_i hl
    rw [if_neg hl]
    split at h
    · rename_i hv
      rw [if_pos hv]
      split at h
      · rename_i h0
        rw [if_pos h0]
        exact putsAns_valid _ _ _ hv.1 (stBlobs_len hv.2) h0
      · rename_i h0
        exact absurd h h0
    · cases h
end Go.Proofs.YtkifkdkjljcclaaGreat
