/- What a blob links to: both sides. -/
import Derived.Test.YtffedfdhhglmkaaGreatY0
namespace Go.Proofs.YtffedfdhhglmkaaGreat
open Go.Sx Go.RowKit

/-! ### The reference reads a node -/
def midNode (d : List Int) (j : Nat) : List Value := (List.range 66).map fun i => if i < 64 then (if i % 32 < j then .int .u8 (d.getD i 0) else .int .u8 0) else Value.string ⟨#[]⟩
theorem midNode_zero (d : List Int) : (midNode d 0).toArray = zeroNode := by kernel_rfl
theorem midNode_len (d : List Int) (j : Nat) : (midNode d j).length = 66 := by simp [midNode]
theorem midNode_one (d : List Int) (j : Nat) : ∀ v ∈ midNode d j, oneC v = true := by
  intro v hv
  simp only [midNode, List.mem_map] at hv
  obtain ⟨i, _, rfl⟩ := hv
  split
  · split <;> rfl
  · rfl
theorem midNode_step (d : List Int) {j : Nat} (hj : j < 32) : ((midNode d j).set j (.int .u8 (d.getD j 0))).set (32 + j) (.int .u8 (d.getD (32 + j) 0)) = midNode d (j + 1) := by
  apply List.ext_getElem?
  intro i
  simp only [List.getElem?_set, midNode_len, List.length_set]
  rcases Nat.lt_or_ge i 66 with hi | hi
  · by_cases h1 : 32 + j = i
    · subst h1
      rw [if_pos rfl, if_pos (by omega)]
      simp only [midNode, List.getElem?_map, List.getElem?_range hi, Option.map_some]
      rw [if_pos (by omega), if_pos (by omega)]
    · rw [if_neg h1]
      by_cases h2 : j = i
      · subst h2
        rw [if_pos rfl, if_pos (by omega)]
        simp only [midNode, List.getElem?_map, List.getElem?_range hi, Option.map_some]
        rw [if_pos (by omega), if_pos (by omega)]
      · rw [if_neg h2]
        simp only [midNode, List.getElem?_map, List.getElem?_range hi, Option.map_some]
        by_cases h3 : i < 64
        · rw [if_pos h3, if_pos h3]
          by_cases h4 : i % 32 < j
          · rw [if_pos h4, if_pos (by omega)]
          · rw [if_neg h4, if_neg (by omega)]
        · rw [if_neg h3, if_neg h3]
  · rw [if_neg (by omega), if_neg (by omega), List.getElem?_eq_none (by rw [midNode_len]; omega), List.getElem?_eq_none (by rw [midNode_len]; omega)]
theorem midNode_full {d : List Int} (h : 64 ≤ d.length) : (midNode d 32).take 64 = u8s (part32 d 0) ++ u8s (part32 d 32) := by
  have e : u8s (part32 d 0) ++ u8s (part32 d 32) = u8s (d.take 64) := by
    unfold part32
    rw [← u8s_append, List.drop_zero, ← List.take_add]
  rw [e]
  apply List.ext_getElem?
  intro i
  rw [List.getElem?_take]
  rcases Nat.lt_or_ge i 64 with hi | hi
  · rw [if_pos hi]
    simp only [midNode, List.getElem?_map, List.getElem?_range (show i < 66 by omega), Option.map_some]
    rw [if_pos hi, if_pos (by omega)]
    rw [u8s_get (by rw [List.length_take]; omega)]
    congr 2
    simp [List.getD, List.getElem?_take, hi]
  · rw [if_neg (by omega), List.getElem?_eq_none (by rw [u8s_len, List.length_take]; omega)]

theorem c_l04Read {w : World} {s : Sl} {d : List Int} (hs : BSl w s d) (hmax : d.length ≤ 1073741824) : Ret Tryz.prog n_spec_l04Read [.slice s.a s.n s.c] w [.agg, .bool] (fun r _ => r.2 = decide (nodeOk d) ∧ r.1.size = 66 ∧ (∀ v ∈ r.1.toList, oneC v = true) ∧ (nodeOk d → r.1 = (nodeCells d).toArray)) := spec_l04Read_calls s (by
  unfold spec_l04Read
  have hn := hs.n
  refine r_new (At.refl w) fun b2 w1 h => ?_
  refine r_pur (sh := .agg) _ run_noNode ?_
  refine r_new h fun b4 w2 h => ?_
  refine r_stA h 0 rfl rfl rfl rfl zeroNode_one fun w3 h => ?_
  have h : At w w3 [(b4, zeroNode, ty_impl_MapNode), (b2, zeroNode, ty_impl_MapNode)] := h
  have bad : ∀ {w' : World}, ¬ nodeOk d → At w w' [(b4, zeroNode, ty_impl_MapNode), (b2, zeroNode, ty_impl_MapNode)] → ((real Tryz.prog (RR w [.agg, .bool] (fun r _ => r.2 = decide (nodeOk d) ∧ r.1.size = 66 ∧ (∀ v ∈ r.1.toList, oneC v = true) ∧ (nodeOk d → r.1 = (nodeCells d).toArray)))).ld .agg 66 (Addr.mk b4 0 none) fun v16 =>
      (real Tryz.prog (RR w [.agg, .bool] (fun r _ => r.2 = decide (nodeOk d) ∧ r.1.size = 66 ∧ (∀ v ∈ r.1.toList, oneC v = true) ∧ (nodeOk d → r.1 = (nodeCells d).toArray)))).st 66 (Addr.mk b2 0 none) (.agg v16) <|
      (real Tryz.prog (RR w [.agg, .bool] (fun r _ => r.2 = decide (nodeOk d) ∧ r.1.size = 66 ∧ (∀ v ∈ r.1.toList, oneC v = true) ∧ (nodeOk d → r.1 = (nodeCells d).toArray)))).ld .agg 66 (Addr.mk b2 0 none) fun z5 =>
      (real Tryz.prog (RR w [.agg, .bool] (fun r _ => r.2 = decide (nodeOk d) ∧ r.1.size = 66 ∧ (∀ v ∈ r.1.toList, oneC v = true) ∧ (nodeOk d → r.1 = (nodeCells d).toArray)))).ret (.tuple #[(.agg z5), (.bool false)]) : World → Prop) w' := by
    intro w' hno h
    refine r_ldA h 0 rfl rfl rfl ?_
    refine r_stA h 1 rfl rfl rfl rfl zeroNode_one fun w2 h => ?_
    refine r_ldA h 1 rfl rfl rfl ?_
    exact r_ret h.nil (zeroNode, false) rfl ⟨(decide_eq_false hno).symm, rfl, zeroNode_one, fun hh => absurd hh hno⟩
  refine r_joinI ?_
  refine r_if ((s.n : Int) < 66) rfl (fun hlt => ?_) (fun hge => ?_)
  · exact bad (fun hh => by have := hh.2.1; have := hh.2.2.1; omega) h
  refine r_if ((s.n : Int) > 153) rfl (fun hlt => ?_) (fun hle => ?_)
  · exact bad (fun hh => by have := hh.2.2.2.2; have := hh.2.2.2.1; omega) h
  refine ⟨(), rfl, ?_⟩
  refine r_any fun _ => ?_
  have hg := hs.ok (d.getD 64 0) (by simp only [List.getD, List.getElem?_eq_getElem (show 64 < d.length by omega), Option.getD_some]; exact List.getElem_mem _)
  obtain ⟨p, hp, hc64⟩ := (hs.sl.below h.below).cell 64 (.int .u8 (d.getD 64 0)) (u8s_get (by omega))
  have e1 : IntKind.wrap .i64 (d.getD 64 0) = d.getD 64 0 := w64 (by omega) (by omega)
  have e2 : IntKind.wrap .i64 (65 + d.getD 64 0) = ((65 + (d.getD 64 0).toNat : Nat) : Int) := by rw [w64 (by omega) (by omega)]; omega
  refine r_ix p hp (by omega) (by omega) ?_
  refine r_ldN (sh := .int .u8) (d.getD 64 0) hc64 ?_
  rw [e1, e2]
  refine r_if ((s.n : Int) < ((65 + (d.getD 64 0).toNat : Nat) : Int)) rfl (fun hlt => ?_) (fun hge2 => ?_)
  · exact bad (fun hh => by have := hh.2.1; omega) h
  refine r_loop (σ := Int) (fun i w' => ∃ j : Nat, i = j ∧ j ≤ 32 ∧ At w w' [(b4, (midNode d j).toArray, ty_impl_MapNode), (b2, zeroNode, ty_impl_MapNode)]) (fun i _ => (32 - i).toNat) 0 rfl ⟨0, rfl, by omega, by rw [midNode_zero]; exact h⟩ ?_
  rintro i w4 ⟨j, rfl, hj, h⟩
  refine r_any fun _ => ?_
  refine r_if ((j : Int) < 32) rfl (fun hlt => ?_) (fun hge3 => ?_)
  · obtain ⟨q, hq, hc1⟩ := (hs.sl.below h.below).cell j (.int .u8 (d.getD j 0)) (u8s_get (by omega))
    rw [hp] at hq
    cases hq
    refine r_ix p hp (by omega) (by omega) ?_
    refine r_ldN (sh := .int .u8) (d.getD j 0) (by simp only [Int.toNat_natCast, Nat.mul_one]; exact hc1) ?_
    refine r_ix _ rfl (by omega) (by omega) ?_
    refine r_st h 0 (o := j) rfl (by simp [add_lit]) (by simp [midNode_len]; omega) rfl fun w5 h => ?_
    have e3 : IntKind.wrap .i64 (32 + (j : Int)) = ((32 + j : Nat) : Int) := by rw [w64 (by omega) (by omega)]; omega
    rw [e3]
    obtain ⟨q, hq, hc2⟩ := (hs.sl.below h.below).cell (32 + j) (.int .u8 (d.getD (32 + j) 0)) (u8s_get (by omega))
    rw [hp] at hq
    cases hq
    refine r_ix p hp (by omega) (by omega) ?_
    refine r_ldN (sh := .int .u8) (d.getD (32 + j) 0) (by simp only [Int.toNat_natCast, Nat.mul_one]; exact hc2) ?_
    refine r_ix _ rfl (by omega) (by omega) ?_
    refine r_st h 0 (o := 32 + j) rfl (by simp [add_lit]) (by simp [midNode_len]; omega) rfl fun w6 h => ?_
    refine ⟨((j + 1 : Nat) : Int), by rw [w64 (by omega) (by omega)]; rfl, ⟨j + 1, rfl, by omega, ?_⟩, by omega⟩
    have hset := midNode_step d (j := j) (by omega)
    rw [← hset]
    simpa using h
  · have : j = 32 := by omega
    subst this
    have hnl : (nodeCells d).length = 66 := nodeCells_len (by omega)
    have hcap := hs.cap
    refine r_draw h fun w5 h => ?_
    refine r_sl 65 (65 + (d.getD 64 0).toNat) rfl rfl (by omega) (by omega) ?_
    have hnm := bsl_sub hs 65 (65 + (d.getD 64 0).toNat) (by omega) (by omega)
    rw [show 65 + (d.getD 64 0).toNat - 65 = (d.getD 64 0).toNat by omega] at hnm ⊢
    refine r_sl (65 + (d.getD 64 0).toNat) s.n rfl rfl (by omega) hs.cap ?_
    have hvl := bsl_sub hs (65 + (d.getD 64 0).toNat) s.n (by omega) (by omega)
    rw [List.take_of_length_le (l := d.drop (65 + (d.getD 64 0).toNat)) (by rw [List.length_drop]; omega)] at hvl
    have fin : ∀ {w' : World}, At w w' [(b4, (midNode d 32).toArray, ty_impl_MapNode), (b2, zeroNode, ty_impl_MapNode)] → ((real Tryz.prog (RR w [.agg, .bool] (fun r _ => r.2 = decide (nodeOk d) ∧ r.1.size = 66 ∧ (∀ v ∈ r.1.toList, oneC v = true) ∧ (nodeOk d → r.1 = (nodeCells d).toArray)))).pur (Instr.build ty_impl_Entry #[(0, (.string (strOf (nodeName d)))), (1, (.string (strOf (nodeValue d))))]) .agg fun y56 =>
        (real Tryz.prog (RR w [.agg, .bool] (fun r _ => r.2 = decide (nodeOk d) ∧ r.1.size = 66 ∧ (∀ v ∈ r.1.toList, oneC v = true) ∧ (nodeOk d → r.1 = (nodeCells d).toArray)))).st 2 ((Addr.mk b4 0 none).add 64) (.agg y56) <|
        (real Tryz.prog (RR w [.agg, .bool] (fun r _ => r.2 = decide (nodeOk d) ∧ r.1.size = 66 ∧ (∀ v ∈ r.1.toList, oneC v = true) ∧ (nodeOk d → r.1 = (nodeCells d).toArray)))).draw <|
        (real Tryz.prog (RR w [.agg, .bool] (fun r _ => r.2 = decide (nodeOk d) ∧ r.1.size = 66 ∧ (∀ v ∈ r.1.toList, oneC v = true) ∧ (nodeOk d → r.1 = (nodeCells d).toArray)))).ld .agg 66 (Addr.mk b4 0 none) fun v58 =>
        (real Tryz.prog (RR w [.agg, .bool] (fun r _ => r.2 = decide (nodeOk d) ∧ r.1.size = 66 ∧ (∀ v ∈ r.1.toList, oneC v = true) ∧ (nodeOk d → r.1 = (nodeCells d).toArray)))).call n_spec_l04Entry [(.pointer (some ((Addr.mk b4 0 none).add 64)))] [.bool] fun r60 =>
        (real Tryz.prog (RR w [.agg, .bool] (fun r _ => r.2 = decide (nodeOk d) ∧ r.1.size = 66 ∧ (∀ v ∈ r.1.toList, oneC v = true) ∧ (nodeOk d → r.1 = (nodeCells d).toArray)))).chk [⟨0, 66, (Addr.mk b4 0 none), .agg, v58⟩] <|
        (real Tryz.prog (RR w [.agg, .bool] (fun r _ => r.2 = decide (nodeOk d) ∧ r.1.size = 66 ∧ (∀ v ∈ r.1.toList, oneC v = true) ∧ (nodeOk d → r.1 = (nodeCells d).toArray)))).st 66 (Addr.mk b2 0 none) (.agg v58) <|
        (real Tryz.prog (RR w [.agg, .bool] (fun r _ => r.2 = decide (nodeOk d) ∧ r.1.size = 66 ∧ (∀ v ∈ r.1.toList, oneC v = true) ∧ (nodeOk d → r.1 = (nodeCells d).toArray)))).ld .agg 66 (Addr.mk b2 0 none) fun z27 =>
        (real Tryz.prog (RR w [.agg, .bool] (fun r _ => r.2 = decide (nodeOk d) ∧ r.1.size = 66 ∧ (∀ v ∈ r.1.toList, oneC v = true) ∧ (nodeOk d → r.1 = (nodeCells d).toArray)))).ret (.tuple #[(.agg z27), (.bool r60)]) : World → Prop) w' := by
      intro w' h
      refine r_pur (sh := .agg) _ (run_mkEntry _ _) ?_
      refine r_stP h 0 (o := 64) rfl (by simp [add_lit]) rfl (by simp [midNode_len]) (by simp [oneC]) fun w6 h => ?_
      have hfin : ((midNode d 32).take 64 ++ [Value.string (strOf (nodeName d)), Value.string (strOf (nodeValue d))] ++ (midNode d 32).drop (64 + 2)) = nodeCells d := by
        rw [midNode_full (by omega), List.drop_eq_nil_of_le (by rw [midNode_len]; omega), List.append_nil]
        rfl
      have h : At w w6 [(b4, (nodeCells d).toArray, ty_impl_MapNode), (b2, zeroNode, ty_impl_MapNode)] := by
        rw [← hfin]
        exact h
      refine r_draw h fun w7 h => ?_
      refine r_ldA h 0 rfl rfl hnl ?_
      have e0 : (u8s (part32 d 0) ++ u8s (part32 d 32)).length = 64 := by simp [part32_len (show 0 + 32 ≤ d.length by omega), part32_len (show 32 + 32 ≤ d.length by omega)]
      have g64 : (nodeCells d)[64]? = some (Value.string (strOf (nodeName d))) := by
        unfold nodeCells
        rw [List.getElem?_append_right (by omega), e0]
        rfl
      have g65 : (nodeCells d)[65]? = some (Value.string (strOf (nodeValue d))) := by
        unfold nodeCells
        rw [List.getElem?_append_right (by omega), e0]
        rfl
      refine r_call h (c_l04Entry (a := strOf (nodeName d)) (b := strOf (nodeValue d)) (fun n => by rw [Go.Deep.add_add]; exact ldOk_own (sh := .str) h 0 rfl 64 (by rw [List.getElem?_toArray]; exact g64) (by simp [Sh.emb])) (fun n => by rw [Go.Deep.add_add]; exact ldOk_own (sh := .str) h 0 rfl 65 (by rw [List.getElem?_toArray]; exact g65) (by simp [Sh.emb]))) fun r w8 h _ hr => ?_
      rw [entry_ok (by omega) (by omega)] at hr
      subst hr
      refine r_chk1 ?_ ?_
      · exact ldOk_blk h 0 rfl hnl
      refine r_stA h 1 rfl rfl hnl rfl (nodeCells_one d) fun w9 h => ?_
      refine r_ldA h 1 rfl rfl hnl ?_
      exact r_ret h.nil (_, _) rfl ⟨rfl, hnl, nodeCells_one d, fun _ => rfl⟩
    refine ⟨?_, ?_⟩
    · refine r_toStr (e := ty_uint8) (l := nodeName d) (by kernel_rfl) (by kernel_rfl) (by kernel_rfl) (hnm.below h.below) ?_
      refine r_toStr (e := ty_uint8) (l := nodeValue d) (by kernel_rfl) (by kernel_rfl) (by kernel_rfl) (hvl.below h.below) ?_
      exact fin h
    · refine r_toStr (e := ty_uint8) (l := nodeValue d) (by kernel_rfl) (by kernel_rfl) (by kernel_rfl) (hvl.below h.below) ?_
      refine r_toStr (e := ty_uint8) (l := nodeName d) (by kernel_rfl) (by kernel_rfl) (by kernel_rfl) (hnm.below h.below) ?_
      exact fin h)

/-! ### The empty map's key -/
def emptyKey : List Int := hashL 5 []
theorem emptyKey_ok : keyOk emptyKey := ⟨hashL_len _ _, hashL_ok _ _⟩
theorem c_EmptyMapKey (w : World) : Ret Tryz.prog n_impl_EmptyMapKey [] w [.agg] (fun r _ => r = (u8s emptyKey).toArray) := impl_EmptyMapKey_calls (by
  unfold impl_EmptyMapKey
  refine r_new (At.refl w) fun b0 w1 h => ?_
  refine r_call h (c_hash 5 (s := ⟨none, 0, 0⟩) (d := []) ⟨by simp [u8s], fun j v hv => by simp [u8s] at hv⟩ (fun b hb => by cases hb) (by simp)) fun r w2 h _ hr => ?_
  subst hr
  refine r_stA h 0 rfl rfl (by simp [hashL_len]) (by simp [Value.cells]) (by simpa using u8s_one) fun w3 h => ?_
  refine r_ldA h 0 rfl rfl (by simp [hashL_len]) ?_
  exact r_ret h.nil _ rfl rfl)
theorem c_l04Empty (w : World) : Ret Tryz.prog n_spec_l04Empty [] w [.agg] (fun r _ => r = (u8s emptyKey).toArray) := spec_l04Empty_calls (by
  unfold spec_l04Empty
  refine r_new (At.refl w) fun b0 w1 h => ?_
  refine r_bs0 T_sl_uint8' h fun y w2 hy hyn => ?_
  refine r_call hy.at_ (c_l01Hash 5 (d := []) hy.sl (fun b hb => by cases hb) (by simp)) fun r w2 h _ hr => ?_
  subst hr
  refine r_stA h 0 rfl rfl (by simp [hashL_len]) (by simp [Value.cells]) (by simpa using u8s_one) fun w3 h => ?_
  refine r_ldA h 0 rfl rfl (by simp [hashL_len]) ?_
  exact r_ret h.nil _ rfl rfl)

/-! ### Those deleted of which a function says yes -/
end Go.Proofs.YtffedfdhhglmkaaGreat
