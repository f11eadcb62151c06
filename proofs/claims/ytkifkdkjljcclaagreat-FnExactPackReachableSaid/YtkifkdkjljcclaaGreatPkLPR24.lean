/- What a blob links to: both sides. -/
import Derived.Test.YtkifkdkjljcclaaGreatPkLPR23
namespace Go.Proofs.YtkifkdkjljcclaaGreat
open Go.Sx Go.RowKit

def midNode (d : List Int) (j : Nat) : List Value := (List.range 66).map fun i => if i < 64 then (if i % 32 < j then .int .u8 (d.getD i 0) else .int .u8 0) else Value.string ⟨#[]⟩
theorem midNode_zero (d : List Int) : (midNode d 0).toArray = zeroNode := by kernel_rfl
theorem midNode_len (d : List Int) (j : Nat) : (midNode d j).length = 66 := by simp [midNode]
theorem midNode_step (d : List Int) {j : Nat} (hj : j < 32) : ((midNode d j).set j (.int .u8 (d.getD j 0))).set (32 + j) (.int .u8 (d.getD (32 + j) 0)) = midNode d (j + 1) := by
  apply List.ext_getElem?
  intro i
  simp only [List.getElem?_set, midNode_len, List.length_set]
  rcases Nat.lt_or_ge i 66 with hi | hi
  · by_cases h1 : 32 + j = i
    · subst h1
      rw [if_pos rfl, if_pos (by omega)]
      simp only [midNode, List.getElem?_map, List.getElem?_range hi, Option.map_some]
      rw [if_pos (by omega), if_pos (by omega)]
    · rw [if_neg h1]
      by_cases h2 : j = i
      · subst h2
        rw [if_pos rfl, if_pos (by omega)]
        simp only [midNode, List.getElem?_map, List.getElem?_range hi, Option.map_some]
        rw [if_pos (by omega), if_pos (by omega)]
      · rw [if_neg h2]
        simp only [midNode, List.getElem?_map, List.getElem?_range hi, Option.map_some]
        by_cases h3 : i < 64
        · rw [if_pos h3, if_pos h3]
          by_cases h4 : i % 32 < j
          · rw [if_pos h4, if_pos (by omega)]
          · rw [if_neg h4, if_neg (by omega)]
        · rw [if_neg h3, if_neg h3]
  · rw [if_neg (by omega), if_neg (by omega), List.getElem?_eq_none (by rw [midNode_len]; omega), List.getElem?_eq_none (by rw [midNode_len]; omega)]
theorem midNode_full {d : List Int} (h : 64 ≤ d.length) : (midNode d 32).take 64 = u8s (part32 d 0) ++ u8s (part32 d 32) := by
  have e : u8s (part32 d 0) ++ u8s (part32 d 32) = u8s (d.take 64) := by
    unfold part32
    rw [← u8s_append, List.drop_zero, ← List.take_add]
  rw [e]
  apply List.ext_getElem?
  intro i
  rw [List.getElem?_take]
  rcases Nat.lt_or_ge i 64 with hi | hi
  · rw [if_pos hi]
    simp only [midNode, List.getElem?_map, List.getElem?_range (show i < 66 by omega), Option.map_some]
    rw [if_pos hi, if_pos (by omega)]
    rw [u8s_get (by rw [List.length_take]; omega)]
    congr 2
    simp [List.getD, List.getElem?_take, hi]
  · rw [if_neg (by omega), List.getElem?_eq_none (by rw [u8s_len, List.length_take]; omega)]

theorem c_l04Read {w : World} {s : Sl} {d : List Int} (hs : BSl w s d) (hmax : d.length ≤ 1073741824) : Ret Tryz.prog n_spec_l04Read [.slice s.a s.n s.c] w [.agg, .bool] (fun r _ => r.2 = decide (nodeOk d) ∧ r.1.size = 66 ∧ (∀ v ∈ r.1.toList, oneC v = true) ∧ (nodeOk d → r.1 = (nodeCells d).toArray)) := spec_l04Read_calls s (by
  unfold spec_l04Read
  have hn := hs.n
  refine r_new (At.refl w) fun b2 w1 h => ?_
  refine r_pur (sh := .agg) _ run_noNode ?_
  refine r_new h fun b4 w2 h => ?_
  refine r_stA h 0 rfl rfl rfl rfl zeroNode_one fun w3 h => ?_
  have h : At w w3 [(b4, zeroNode, ty_impl_MapNode), (b2, zeroNode, ty_impl_MapNode)] := h
  have bad : ∀ {w' : World}, ¬ nodeOk d → At w w' [(b4, zeroNode, ty_impl_MapNode), (b2, zeroNode, ty_impl_MapNode)] → ((real Tryz.prog (RR w [.agg, .bool] (fun r _ => r.2 = decide (nodeOk d) ∧ r.1.size = 66 ∧ (∀ v ∈ r.1.toList, oneC v = true) ∧ (nodeOk d → r.1 = (nodeCells d).toArray)))).ld .agg 66 (Addr.mk b4 0 none) fun v16 =>
      (real Tryz.prog (RR w [.agg, .bool] (fun r _ => r.2 = decide (nodeOk d) ∧ r.1.size = 66 ∧ (∀ v ∈ r.1.toList, oneC v = true) ∧ (nodeOk d → r.1 = (nodeCells d).toArray)))).st 66 (Addr.mk b2 0 none) (.agg v16) <|
      (real Tryz.prog (RR w [.agg, .bool] (fun r _ => r.2 = decide (nodeOk d) ∧ r.1.size = 66 ∧ (∀ v ∈ r.1.toList, oneC v = true) ∧ (nodeOk d → r.1 = (nodeCells d).toArray)))).ld .agg 66 (Addr.mk b2 0 none) fun z5 =>
      (real Tryz.prog (RR w [.agg, .bool] (fun r _ => r.2 = decide (nodeOk d) ∧ r.1.size = 66 ∧ (∀ v ∈ r.1.toList, oneC v = true) ∧ (nodeOk d → r.1 = (nodeCells d).toArray)))).ret (.tuple #[(.agg z5), (.bool false)]) : World → Prop) w' := by
    intro w' hno h
    refine r_ldA h 0 rfl rfl rfl ?_
    refine r_stA h 1 rfl rfl rfl rfl zeroNode_one fun w2 h => ?_
    refine r_ldA h 1 rfl rfl rfl ?_
    exact r_ret h.nil (zeroNode, false) rfl ⟨(decide_eq_false hno).symm, rfl, zeroNode_one, fun hh => absurd hh hno⟩
  refine r_joinI ?_
  refine r_if ((s.n : Int) < 66) rfl (fun hlt => ?_) (fun hge => ?_)
  · exact bad (fun hh => by have := hh.2.1; have := hh.2.2.1; omega) h
  refine r_if ((s.n : Int) > 153) rfl (fun hlt => ?_) (fun hle => ?_)
  · exact bad (fun hh => by have := hh.2.2.2.2; have := hh.2.2.2.1; omega) h
  refine ⟨(), rfl, ?_⟩
  refine r_any fun _ => ?_
  have hg := hs.ok (d.getD 64 0) (by simp only [List.getD, List.getElem?_eq_getElem (show 64 < d.length by omega), Option.getD_some]; exact List.getElem_mem _)
  obtain ⟨p, hp, hc64⟩ := (hs.sl.below h.below).cell 64 (.int .u8 (d.getD 64 0)) (u8s_get (by omega))
  have e1 : IntKind.wrap .i64 (d.getD 64 0) = d.getD 64 0 := w64 (by omega) (by omega)
  have e2 : IntKind.wrap .i64 (65 + d.getD 64 0) = ((65 + (d.getD 64 0).toNat : Nat) : Int) := by rw [w64 (by omega) (by omega)]; omega
  refine r_ix p hp (by omega) (by omega) ?_
  refine r_ldN (sh := .int .u8) (d.getD 64 0) hc64 ?_
  rw [e1, e2]
  refine r_if ((s.n : Int) < ((65 + (d.getD 64 0).toNat : Nat) : Int)) rfl (fun hlt => ?_) (fun hge2 => ?_)
  · exact bad (fun hh => by have := hh.2.1; omega) h
  refine r_loop (σ := Int) (fun i w' => ∃ j : Nat, i = j ∧ j ≤ 32 ∧ At w w' [(b4, (midNode d j).toArray, ty_impl_MapNode), (b2, zeroNode, ty_impl_MapNode)]) (fun i _ => (32 - i).toNat) 0 rfl ⟨0, rfl, by omega, by rw [midNode_zero]; exact h⟩ ?_
  rintro i w4 ⟨j, rfl, hj, h⟩
  refine r_any fun _ => ?_
  refine r_if ((j : Int) < 32) rfl (fun hlt => ?_) (fun hge3 => ?_)
  · obtain ⟨q, hq, hc1⟩ := (hs.sl.below h.below).cell j (.int .u8 (d.getD j 0)) (u8s_get (by omega))
    rw [hp] at hq
    cases hq
    refine r_ix p hp (by omega) (by omega) ?_
    refine r_ldN (sh := .int .u8) (d.getD j 0) (by simp only [Int.toNat_natCast, Nat.mul_one]; exact hc1) ?_
    refine r_ix _ rfl (by omega) (by omega) ?_
    refine r_st h 0 (o := j) rfl (by simp [add_lit]) (by simp [midNode_len]; omega) rfl fun w5 h => ?_
    have e3 : IntKind.wrap .i64 (32 + (j : Int)) = ((32 + j : Nat) : Int) := by rw [w64 (by omega) (by omega)]; omega
    rw [e3]
    obtain ⟨q, hq, hc2⟩ := (hs.sl.below h.below).cell (32 + j) (.int .u8 (d.getD (32 + j) 0)) (u8s_get (by omega))
    rw [hp] at hq
    cases hq
    refine r_ix p hp (by omega) (by omega) ?_
    refine r_ldN (sh := .int .u8) (d.getD (32 + j) 0) (by simp only [Int.toNat_natCast, Nat.mul_one]; exact hc2) ?_
    refine r_ix _ rfl (by omega) (by omega) ?_
    refine r_st h 0 (o := 32 + j) rfl (by simp [add_lit]) (by simp [midNode_len]; omega) rfl fun w6 h => ?_
    refine ⟨((j + 1 : Nat) : Int), by rw [w64 (by omega) (by omega)]; rfl, ⟨j + 1, rfl, by omega, ?_⟩, by omega⟩
    have hset := midNode_step d (j := j) (by omega)
    rw [← hset]
    simpa using h
  · have : j = 32 := by omega
    subst this
    have hnl : (nodeCells d).length = 66 := nodeCells_len (by omega)
    have hcap := hs.cap
    refine r_draw h fun w5 h => ?_
    refine r_sl 65 (65 + (d.getD 64 0).toNat) rfl rfl (by omega) (by omega) ?_
    have hnm := bsl_sub hs 65 (65 + (d.getD 64 0).toNat) (by omega) (by omega)
    rw [show 65 + (d.getD 64 0).toNat - 65 = (d.getD 64 0).toNat by omega] at hnm ⊢
    refine r_sl (65 + (d.getD 64 0).toNat) s.n rfl rfl (by omega) hs.cap ?_
    have hvl := bsl_sub hs (65 + (d.getD 64 0).toNat) s.n (by omega) (by omega)
    rw [List.take_of_length_le (l := d.drop (65 + (d.getD 64 0).toNat)) (by rw [List.length_drop]; omega)] at hvl
    have fin : ∀ {w' : World}, At w w' [(b4, (midNode d 32).toArray, ty_impl_MapNode), (b2, zeroNode, ty_impl_MapNode)] → ((real Tryz.prog (RR w [.agg, .bool] (fun r _ => r.2 = decide (nodeOk d) ∧ r.1.size = 66 ∧ (∀ v ∈ r.1.toList, oneC v = true) ∧ (nodeOk d → r.1 = (nodeCells d).toArray)))).pur (Instr.build ty_impl_Entry #[(0, (.string (strOf (nodeName d)))), (1, (.string (strOf (nodeValue d))))]) .agg fun y56 =>
        (real Tryz.prog (RR w [.agg, .bool] (fun r _ => r.2 = decide (nodeOk d) ∧ r.1.size = 66 ∧ (∀ v ∈ r.1.toList, oneC v = true) ∧ (nodeOk d → r.1 = (nodeCells d).toArray)))).st 2 ((Addr.mk b4 0 none).add 64) (.agg y56) <|
        (real Tryz.prog (RR w [.agg, .bool] (fun r _ => r.2 = decide (nodeOk d) ∧ r.1.size = 66 ∧ (∀ v ∈ r.1.toList, oneC v = true) ∧ (nodeOk d → r.1 = (nodeCells d).toArray)))).draw <|
        (real Tryz.prog (RR w [.agg, .bool] (fun r _ => r.2 = decide (nodeOk d) ∧ r.1.size = 66 ∧ (∀ v ∈ r.1.toList, oneC v = true) ∧ (nodeOk d → r.1 = (nodeCells d).toArray)))).ld .agg 66 (Addr.mk b4 0 none) fun v58 =>
        (real Tryz.prog (RR w [.agg, .bool] (fun r _ => r.2 = decide (nodeOk d) ∧ r.1.size = 66 ∧ (∀ v ∈ r.1.toList, oneC v = true) ∧ (nodeOk d → r.1 = (nodeCells d).toArray)))).call n_spec_l04Entry [(.pointer (some ((Addr.mk b4 0 none).add 64)))] [.bool] fun r60 =>
        (real Tryz.prog (RR w [.agg, .bool] (fun r _ => r.2 = decide (nodeOk d) ∧ r.1.size = 66 ∧ (∀ v ∈ r.1.toList, oneC v = true) ∧ (nodeOk d → r.1 = (nodeCells d).toArray)))).chk [⟨0, 66, (Addr.mk b4 0 none), .agg, v58⟩] <|
        (real Tryz.prog (RR w [.agg, .bool] (fun r _ => r.2 = decide (nodeOk d) ∧ r.1.size = 66 ∧ (∀ v ∈ r.1.toList, oneC v = true) ∧ (nodeOk d → r.1 = (nodeCells d).toArray)))).st 66 (Addr.mk b2 0 none) (.agg v58) <|
        (real Tryz.prog (RR w [.agg, .bool] (fun r _ => r.2 = decide (nodeOk d) ∧ r.1.size = 66 ∧ (∀ v ∈ r.1.toList, oneC v = true) ∧ (nodeOk d → r.1 = (nodeCells d).toArray)))).ld .agg 66 (Addr.mk b2 0 none) fun z27 =>
        (real Tryz.prog (RR w [.agg, .bool] (fun r _ => r.2 = decide (nodeOk d) ∧ r.1.size = 66 ∧ (∀ v ∈ r.1.toList, oneC v = true) ∧ (nodeOk d → r.1 = (nodeCells d).toArray)))).ret (.tuple #[(.agg z27), (.bool r60)]) : World → Prop) w' := by
      intro w' h
      refine r_pur (sh := .agg) _ (run_mkEntry _ _) ?_
      refine r_stP h 0 (o := 64) rfl (by simp [add_lit]) rfl (by simp [midNode_len]) (by simp [oneC]) fun w6 h => ?_
      have hfin : ((midNode d 32).take 64 ++ [Value.string (strOf (nodeName d)), Value.string (strOf (nodeValue d))] ++ (midNode d 32).drop (64 + 2)) = nodeCells d := by
        rw [midNode_full (by omega), List.drop_eq_nil_of_le (by rw [midNode_len]; omega), List.append_nil]
        rfl
      have h : At w w6 [(b4, (nodeCells d).toArray, ty_impl_MapNode), (b2, zeroNode, ty_impl_MapNode)] := by
        rw [← hfin]
        exact h
      refine r_draw h fun w7 h => ?_
      refine r_ldA h 0 rfl rfl hnl ?_
      have e0 : (u8s (part32 d 0) ++ u8s (part32 d 32)).length = 64 := by simp [part32_len (show 0 + 32 ≤ d.length by omega), part32_len (show 32 + 32 ≤ d.length by omega)]
      have g64 : (nodeCells d)[64]? = some (Value.string (strOf (nodeName d))) := by
        unfold nodeCells
        rw [List.getElem?_append_right (by omega), e0]
        rfl
      have g65 : (nodeCells d)[65]? = some (Value.string (strOf (nodeValue d))) := by
        unfold nodeCells
        rw [List.getElem?_append_right (by omega), e0]
        rfl
      refine r_call h (c_l04Entry (a := strOf (nodeName d)) (b := strOf (nodeValue d)) (fun n => by rw [Go.Deep.add_add]; exact ldOk_own (sh := .str) h 0 rfl 64 (by rw [List.getElem?_toArray]; exact g64) (by simp [Sh.emb])) (fun n => by rw [Go.Deep.add_add]; exact ldOk_own (sh := .str) h 0 rfl 65 (by rw [List.getElem?_toArray]; exact g65) (by simp [Sh.emb]))) fun r w8 h _ hr => ?_
      rw [entry_ok (by omega) (by omega)] at hr
      subst hr
      refine r_chk1 ?_ ?_
      · exact ldOk_blk h 0 rfl hnl
      refine r_stA h 1 rfl rfl hnl rfl (nodeCells_one d) fun w9 h => ?_
      refine r_ldA h 1 rfl rfl hnl ?_
      exact r_ret h.nil (_, _) rfl ⟨rfl, hnl, nodeCells_one d, fun _ => rfl⟩
    refine ⟨?_, ?_⟩
    · refine r_toStr (e := ty_uint8) (l := nodeName d) (by kernel_rfl) (by kernel_rfl) (by kernel_rfl) (hnm.below h.below) ?_
      refine r_toStr (e := ty_uint8) (l := nodeValue d) (by kernel_rfl) (by kernel_rfl) (by kernel_rfl) (hvl.below h.below) ?_
      exact fin h
    · refine r_toStr (e := ty_uint8) (l := nodeValue d) (by kernel_rfl) (by kernel_rfl) (by kernel_rfl) (hvl.below h.below) ?_
      refine r_toStr (e := ty_uint8) (l := nodeName d) (by kernel_rfl) (by kernel_rfl) (by kernel_rfl) (hnm.below h.below) ?_
      exact fin h)

def emptyKey : List Int := hashL 5 []
theorem emptyKey_ok : keyOk emptyKey := ⟨hashL_len _ _, hashL_ok _ _⟩
theorem c_EmptyMapKey (w : World) : Ret Tryz.prog n_impl_EmptyMapKey [] w [.agg] (fun r _ => r = (u8s emptyKey).toArray) := impl_EmptyMapKey_calls (by
  unfold impl_EmptyMapKey
  refine r_new (At.refl w) fun b0 w1 h => ?_
  refine r_call h (c_hash 5 (s := ⟨none, 0, 0⟩) (d := []) ⟨by simp [u8s], fun j v hv => by simp [u8s] at hv⟩ (fun b hb => by cases hb) (by simp)) fun r w2 h _ hr => ?_
  subst hr
  refine r_stA h 0 rfl rfl (by simp [hashL_len]) (by simp [Value.cells]) (by simpa using u8s_one) fun w3 h => ?_
  refine r_ldA h 0 rfl rfl (by simp [hashL_len]) ?_
  exact r_ret h.nil _ rfl rfl)
theorem c_l04Empty (w : World) : Ret Tryz.prog n_spec_l04Empty [] w [.agg] (fun r _ => r = (u8s emptyKey).toArray) := spec_l04Empty_calls (by
  unfold spec_l04Empty
  refine r_new (At.refl w) fun b0 w1 h => ?_
  refine r_bs0 T_sl_uint8' h fun y w2 hy hyn => ?_
  refine r_call hy.at_ (c_l01Hash 5 (d := []) hy.sl (fun b hb => by cases hb) (by simp)) fun r w2 h _ hr => ?_
  subst hr
  refine r_stA h 0 rfl rfl (by simp [hashL_len]) (by simp [Value.cells]) (by simpa using u8s_one) fun w3 h => ?_
  refine r_ldA h 0 rfl rfl (by simp [hashL_len]) ?_
  exact r_ret h.nil _ rfl rfl)

theorem c_IndexFuncK {w0 w : World} {ls : List Blk} {s : Sl} {ks : List (List Int)} (hA : At w0 w ls) (hs : KsR w s ks) (hmax : ks.length ≤ 1073741824) {g : FuncId} {cap : Array Value} (hg : isGo Tryz.prog g = true) (f : List Int → Bool)
    (hf : ∀ (w' : World) (k : List Int), At w0 w' ls → keyOk k → Ret Tryz.prog g ((#[] : Array Value).toList ++ [.agg (u8s k).toArray] ++ cap.toList) w' [.bool] (fun r _ => r = f k)) :
    Ret Tryz.prog n_slices_IndexFunc_sl_impl_Key_impl_Key [.slice s.a s.n s.c, .func (.func g) #[] cap] w [.int .i64] (fun r _ => (∃ i : Nat, r = i ∧ ∃ h : i < ks.length, (∀ x ∈ ks.take i, f x = false) ∧ f ks[i] = true) ∨ (r = -1 ∧ ∀ x ∈ ks, f x = false)) := slices_IndexFunc_sl_impl_Key_impl_Key_calls _ _ (by
  unfold slices_IndexFunc_sl_impl_Key_impl_Key
  have hn := hs.n
  refine r_loop (σ := Int) (fun i w' => ∃ j : Nat, i = j ∧ j ≤ ks.length ∧ (∀ x ∈ ks.take j, f x = false) ∧ At w w' []) (fun i _ => (s.n - i).toNat) 0 rfl ⟨0, rfl, by omega, by simp, At.refl w⟩ ?_
  rintro i w1 ⟨j, rfl, hj, hpre, h⟩
  refine r_any fun _ => ?_
  refine r_if ((j : Int) < (s.n : Int)) rfl (fun hlt => ?_) (fun hge => ?_)
  · obtain ⟨k, q, hk, hkm, hq, hko, hkl⟩ := (hs.at h).get (i := j) (by omega)
    refine r_ix q hq (by omega) (by omega) ?_
    refine r_ldN (u8s k).toArray (by simp only [Int.toNat_natCast]; exact hkl) ?_
    refine r_callV h hg (hf w1 k (hA.trans h.below) hko) fun r w2 h2 _ hr => ?_
    subst hr
    obtain ⟨hlt', hget⟩ := List.getElem?_eq_some_iff.1 hk
    refine r_cond (fun ht => ?_) (fun ht => ?_)
    · exact r_ret h2 (j : Int) rfl (.inl ⟨j, rfl, hlt', hpre, by rw [hget]; exact ht⟩)
    · refine ⟨((j + 1 : Nat) : Int), by rw [w64 (by omega) (by omega)]; rfl, ⟨j + 1, rfl, by omega, ?_, h2⟩, by omega⟩
      rw [take_succ_get hk]
      intro x hx
      rcases List.mem_append.1 hx with hx | hx
      · exact hpre x hx
      · rw [List.mem_singleton.1 hx]; exact ht
  · have : j = ks.length := by omega
    subst this
    rw [List.take_of_length_le (Nat.le_refl _)] at hpre
    exact r_ret h (-1 : Int) rfl (.inr ⟨rfl, hpre⟩))

theorem c_DeleteFunc {w0 w : World} {ls : List Blk} {s : Sl} {ks : List (List Int)} (hS : SlO w0 w ls ty_impl_Key 32 s (ks.flatMap u8s)) (hk : ∀ k ∈ ks, keyOk k) (hn : s.n = ks.length) (hmax : ks.length ≤ 1073741824) {g : FuncId} {cap : Array Value} (hg : isGo Tryz.prog g = true) (f : List Int → Bool)
    (hf : ∀ (w' : World) (k : List Int), At w0 w' ls → keyOk k → Ret Tryz.prog g ((#[] : Array Value).toList ++ [.agg (u8s k).toArray] ++ cap.toList) w' [.bool] (fun r _ => r = f k)) :
    Calls Tryz.prog n_slices_DeleteFunc_sl_impl_Key_impl_Key [.slice s.a s.n s.c, .func (.func g) #[] cap].toArray w fun e w' => ∃ v, e = .returned v ∧ ∃ r : Sl, v = .slice r.a r.n r.c ∧ SlO w0 w' ls ty_impl_Key 32 r ((ks.filter fun k => !f k).flatMap u8s) ∧ r.n = (ks.filter fun k => !f k).length := slices_DeleteFunc_sl_impl_Key_impl_Key_calls _ _ (by
  unfold slices_DeleteFunc_sl_impl_Key_impl_Key
  refine r_call hS.at_ (c_IndexFuncK hS.at_ (slO_ks hS hk) hmax hg f hf) fun r w1 h1 hb1 hr => ?_
  have hS := hS.trans hb1
  rcases hr with ⟨i0, rfl, hi0, hpre, hfi⟩ | ⟨rfl, hall⟩
  · refine r_eq (fun hh => by omega) (fun _ => ?_)
    obtain ⟨L, hO, hA⟩ := hS.split
    obtain ⟨p, hp⟩ := hO.addr (by omega)
    have hpre' : (ks.take i0).filter (fun k => !f k) = ks.take i0 := List.filter_eq_self.2 fun x hx => by simp [hpre x hx]
    refine r_loop (σ := Int × Int) (fun i w' => ∃ (kk j : Nat) (out tl : List (List Int)) (L : List Blk), i = ((kk : Int), (j : Int)) ∧ kk < j ∧ j ≤ ks.length ∧ out.length = kk ∧ tl.length = ks.length - kk ∧ tl.drop (j - kk) = ks.drop j ∧
        out = (ks.take j).filter (fun k => !f k) ∧ (∀ x ∈ out ++ tl, keyOk x) ∧ OwnS ty_impl_Key 32 s ((out ++ tl).flatMap u8s) L ∧ At w0 w' (L ++ ls)) (fun i _ => (s.n - i.2).toNat) ((i0 : Int), ((i0 + 1 : Nat) : Int)) (by rw [w64 (by omega) (by omega)]; rfl)
        ⟨i0, i0 + 1, ks.take i0, ks.drop i0, L, rfl, by omega, by omega, by simp; omega, by simp, by simp, ?_, by simpa using hk, by simpa using hO, hA⟩ ?_
    · rw [List.take_succ_eq_append_getElem hi0, List.filter_append, hpre']
      simp [hfi]
    rintro i w2 ⟨kk, j, out, tl, L, rfl, h1, h2, hol, htl, hdrop, hout, hok, hO, hA⟩
    refine r_any fun _ => ?_
    dsimp only
    have hzz : ∀ x ∈ out ++ tl, (u8s x).length = 32 := fun x hx => by simp [(hok x hx).1]
    refine r_if ((j : Int) < (s.n : Int)) rfl (fun hlt => ?_) (fun hge => ?_)
    · have rd := hO.of hA (List.sublist_append_left _ _) hzz (by omega)
      have hx : ks[j]? = some ks[j] := List.getElem?_eq_getElem (by omega)
      have hkx : keyOk ks[j] := hk _ (List.getElem_mem _)
      have hcur : (out ++ tl)[j]? = some ks[j] := by
        rw [List.getElem?_append_right (by omega), hol]
        have := congrArg (·[0]?) hdrop
        simp only [List.getElem?_drop, Nat.add_zero] at this
        rw [this, hx]
      refine r_ix p hp (by omega) (by omega) ?_
      refine r_ldN (u8s ks[j]).toArray (by simp only [Int.toNat_natCast]; exact rd.agg hcur hp) ?_
      refine r_new hA fun b7 w3 h => ?_
      refine r_stA h 0 rfl rfl (by simp [hkx.1]) (by simp [Value.cells]) (by simpa using u8s_one) fun w4 h => ?_
      have h : At w0 w4 ((b7, (u8s ks[j]).toArray, ty_impl_Key) :: (L ++ ls)) := h
      refine r_ldA h 0 rfl rfl (by simp [hkx.1]) ?_
      refine r_callV h hg (hf w4 _ h.tail.right hkx) fun r w5 h _ hr => ?_
      subst hr
      have hsn : (ks.take (j + 1)).filter (fun k => !f k) = if f ks[j] then out else out ++ [ks[j]] := by
        rw [take_succ_get hx, List.filter_append, ← hout]
        cases hfk : f ks[j] <;> simp [hfk]
      have htl2 : tl.drop (j + 1 - kk) = ks.drop (j + 1) := by
        have := congrArg (·.drop 1) hdrop
        simp only [List.drop_drop] at this
        rw [show j - kk + 1 = j + 1 - kk by omega] at this
        exact this
      cases hfk : f ks[j] with
      | true =>
        rw [hfk, if_pos rfl] at hsn
        refine r_false rfl ?_
        exact ⟨((kk : Int), ((j + 1 : Nat) : Int)), by rw [w64 (by omega) (by omega)]; rfl, ⟨kk, j + 1, out, tl, L, rfl, by omega, by omega, hol, htl, htl2, hsn.symm, hok, hO, h.tail⟩, by dsimp only; omega⟩
      | false =>
        rw [hfk, if_neg (by simp)] at hsn
        refine r_true rfl ?_
        refine r_ldA h 0 rfl rfl (by simp [hkx.1]) ?_
        refine r_ix p hp (by omega) (by omega) ?_
        have hol32 : (out.flatMap u8s).length = kk * 32 := by rw [flatMap_length (z := 32) (fun x hx => hzz x (by simp [hx])), hol]
        refine r_stO h.mid hO hp (kk * 32) (by simp) (by simp [Value.cells, hkx.1]) (by rw [flatMap_length hzz]; simp; omega) (by simpa [Value.cells] using u8s_one) fun w6 L6 hA6 hO6 => ?_
        refine ⟨(((kk + 1 : Nat) : Int), ((j + 1 : Nat) : Int)), by rw [w64 (by omega) (by omega), w64 (by omega) (by omega)]; rfl, ⟨kk + 1, j + 1, out ++ [ks[j]], tl.drop 1, L6, rfl, by omega, by omega, by simp [hol], by simp; omega, ?_, hsn.symm, ?_, ?_, hA6.unmid.tail⟩, by dsimp only; omega⟩
        · rw [List.drop_drop, show 1 + (j + 1 - (kk + 1)) = j + 1 - kk by omega]
          exact htl2
        · intro x hx
          simp only [List.mem_append, List.mem_singleton] at hx
          rcases hx with (hx | hx) | hx
          · exact hok x (by simp [hx])
          · subst hx; exact hkx
          · exact hok x (by simp [List.mem_of_mem_drop hx])
        · have e3 : ((out ++ tl).flatMap u8s).take (kk * 32) = out.flatMap u8s := by rw [List.flatMap_append, ← hol32, List.take_left]
          have e4 : ((out ++ tl).flatMap u8s).drop (kk * 32 + 32) = (tl.drop 1).flatMap u8s := by
            rw [List.flatMap_append, ← hol32, List.drop_append]
            cases tl with
            | nil => simp
            | cons t tl =>
              have ht : (u8s t).length = 32 := hzz t (by simp)
              rw [List.flatMap_cons, List.drop_eq_nil_of_le (by omega), List.nil_append, Nat.add_sub_cancel_left, ← ht, List.drop_left]
              rfl
          rw [e3, e4] at hO6
          simpa [Value.cells, List.flatMap_append] using hO6
    · have hj : j = ks.length := by omega
      subst hj
      rw [List.take_of_length_le (Nat.le_refl _)] at hout
      have hcap := hO.cap
      refine r_slSuf kk rfl rfl (by omega) hcap fun y2 hy2n hy2c hy2a => ?_
      refine r_clearO T_sl_Key (by kernel_rfl) hA hO kk (by omega) (fun _ => hy2a (by omega)) fun v w3 L3 xs3 hA3 hO3 htk => ?_
      refine r_slPre kk rfl rfl (by omega) ?_
      have hO4 := hO3.shrink kk (by omega)
      have hol32 : (out.flatMap u8s).length = kk * 32 := by rw [flatMap_length (z := 32) (fun x hx => hzz x (by simp [hx])), hol]
      rw [htk, List.flatMap_append, ← hol32, List.take_left] at hO4
      refine r_retR ⟨⟨s.a, kk, s.c⟩, rfl, ?_, by rw [← hout, hol]⟩
      rw [← hout]
      exact hO4.slo hA3
  · refine r_true rfl ?_
    have : ks.filter (fun k => !f k) = ks := List.filter_eq_self.2 fun x hx => by simp [hall x hx]
    exact r_retR ⟨s, rfl, by rw [this]; exact hS, by rw [this]; exact hn⟩)

end Go.Proofs.YtkifkdkjljcclaaGreat
