/- The tree of a map: the program. -/
import Derived.Test.YtkifkdkjljcclaaGreatPkLAnc22
namespace Go.Proofs.YtkifkdkjljcclaaGreat
open Go.Sx Go.RowKit

def prio (e : PE) : List Int := hashL 4 (strL e.1)
theorem prio_ok (e : PE) : keyOk (prio e) := ⟨hashL_len _ _, hashL_ok _ _⟩
theorem prios_ok (es : List PE) : ∀ k ∈ es.map prio, keyOk k := fun k hk => by
  obtain ⟨e, _, rfl⟩ := List.mem_map.1 hk
  exact prio_ok e
def topAt (ps : List (List Int)) : Nat → Nat
  | 0 => 0
  | j + 1 => if cmpL (ps.getD j []) (ps.getD (topAt ps j) []) > 0 then j else topAt ps j
theorem topAt_succ (ps : List (List Int)) (j : Nat) : topAt ps (j + 1) = if cmpL (ps.getD j []) (ps.getD (topAt ps j) []) > 0 then j else topAt ps j := rfl
theorem topAt_le (ps : List (List Int)) : ∀ j : Nat, topAt ps (j + 1) ≤ j
  | 0 => by rw [topAt_succ]; split <;> simp [topAt]
  | j + 1 => by
    rw [topAt_succ]
    have := topAt_le ps j
    split <;> omega
inductive Tr where
  | nil
  | node (n : ND) (l r : Tr)
def trKey : Tr → List Int
  | .nil => emptyKey
  | .node n _ _ => hashL 5 (ndB n)
theorem trKey_ok : ∀ T : Tr, keyOk (trKey T)
  | .nil => emptyKey_ok
  | .node _ _ _ => ⟨hashL_len _ _, hashL_ok _ _⟩
def trNodes : Tr → List ND
  | .nil => []
  | .node n l r => [n] ++ (trNodes l ++ trNodes r)
def topE (es : List PE) : Nat := topAt (es.map prio) es.length
def entE (es : List PE) (i : Nat) : PE := es.getD i (⟨#[]⟩, ⟨#[]⟩)
def treeF : Nat → List PE → Tr
  | 0, _ => .nil
  | f + 1, es => if es.length = 0 then .nil else .node ⟨trKey (treeF f (es.take (topE es))), trKey (treeF f (es.drop (topE es + 1))), entE es (topE es)⟩ (treeF f (es.take (topE es))) (treeF f (es.drop (topE es + 1)))
theorem treeF_succ (f : Nat) (es : List PE) : treeF (f + 1) es = if es.length = 0 then .nil else .node ⟨trKey (treeF f (es.take (topE es))), trKey (treeF f (es.drop (topE es + 1))), entE es (topE es)⟩ (treeF f (es.take (topE es))) (treeF f (es.drop (topE es + 1))) := rfl
theorem topE_lt {es : List PE} (h : es.length ≠ 0) : topE es < es.length := by
  unfold topE
  obtain ⟨n, hn⟩ : ∃ n, es.length = n + 1 := ⟨es.length - 1, by omega⟩
  rw [hn]
  have := topAt_le (es.map prio) n
  omega
def entsOk (es : List PE) : Prop := ∀ e ∈ es, e.1.size ≤ 24 ∧ e.2.size ≤ 64
theorem treeF_len : ∀ (f : Nat) (es : List PE), (trNodes (treeF f es)).length ≤ es.length
  | 0, _ => by simp [treeF, trNodes]
  | f + 1, es => by
    rw [treeF_succ]
    split
    · simp [trNodes]
    · rename_i h0
      have ht := topE_lt h0
      have i1 := treeF_len f (es.take (topE es))
      have i2 := treeF_len f (es.drop (topE es + 1))
      rw [List.length_take] at i1
      rw [List.length_drop] at i2
      unfold trNodes
      simp only [List.length_append, List.length_cons, List.length_nil]
      omega

theorem T_sl_ND : SlT Tryz.prog ty_sl_impl_MapNode ty_impl_MapNode 66 96 := slT_of (by kernel_rfl)

theorem ldOk_sub {w : World} {a : Addr} {xs : Array Value} {n : Nat} (h : ldOk w n a .agg xs) (o m : Nat) (hm : o + m ≤ n) : ldOk w m (a.add o) .agg (xs.extract o (o + m)) := by
  have h1 : xs.size = n := h.1
  refine ⟨by simp; omega, fun j v hv => ?_⟩
  rw [Go.Deep.add_add]
  rw [Array.getElem?_extract] at hv
  split at hv
  · exact h.2 (o + j) v hv
  · cases hv
theorem ldOk_fld {w : World} {a : Addr} {xs : Array Value} {n : Nat} (h : ldOk w n a .agg xs) (i : Nat) {sh : Sh} {x : sh.T} (hx : xs[i]? = some (sh.emb x)) (hs : ∀ ds, sh.emb x ≠ .agg ds) {k : Nat} : ldOk w k (a.add i) sh x := by
  have hc := h.2 i _ hx
  cases sh
  case agg => exact (hs x rfl).elim
  all_goals exact hc
def trC (n : ND) (pl pr : Option Addr) : Array Value := (ndC n ++ [Value.pointer pl, Value.pointer pr]).toArray
theorem trC_size {n : ND} (h : n.ok) (pl pr : Option Addr) : (trC n pl pr).size = 68 := by simp [trC, ndC_len h]
theorem trC_node {n : ND} (h : n.ok) (pl pr : Option Addr) : (trC n pl pr).extract 0 (0 + 66) = (ndC n).toArray := by
  have hl := ndC_len h
  apply Array.ext'
  unfold trC
  rw [List.extract_toArray]
  show ((ndC n ++ _).drop 0).take (0 + 66 - 0) = _
  rw [List.drop_zero, List.take_append_of_le_length (by omega), List.take_of_length_le (by omega)]
inductive RdTr (w : World) : Option Addr → Tr → Prop where
  | nil : RdTr w none .nil
  | node {a : Addr} {n : ND} {l r : Tr} {pl pr : Option Addr} : n.ok → ldOk w 68 a .agg (trC n pl pr) → RdTr w pl l → RdTr w pr r → RdTr w (some a) (.node n l r)
theorem RdTr.bel {w w' : World} {o : Option Addr} {T : Tr} (h : RdTr w o T) (hb : Below w.heap.size w w') : RdTr w' o T := by
  induction h with
  | nil => exact .nil
  | node hn hl _ _ i1 i2 => exact .node hn (ldOk_below hb hl) i1 i2
theorem RdTr.at {w w' : World} {ls : List Blk} {o : Option Addr} {T : Tr} (h : RdTr w o T) (hA : At w w' ls) : RdTr w' o T := h.bel hA.below
inductive OwnTr : Option Addr → Tr → List Blk → Prop where
  | nil : OwnTr none .nil []
  | node {b : Nat} {n : ND} {l r : Tr} {pl pr : Option Addr} {Ll Lr : List Blk} : n.ok → OwnTr pl l Ll → OwnTr pr r Lr → OwnTr (some ⟨b, 0, none⟩) (.node n l r) ((b, trC n pl pr, ty_impl_tree) :: (Ll ++ Lr))
theorem OwnTr.rd {w0 w : World} {o : Option Addr} {T : Tr} {L : List Blk} (h : OwnTr o T L) : ∀ {ls : List Blk}, At w0 w ls → L.Sublist ls → RdTr w o T := by
  induction h with
  | nil => exact fun _ _ => .nil
  | @node b n l r pl pr Ll Lr hn _ _ i1 i2 =>
    intro ls hA hs
    have hA1 : At w0 w ((b, trC n pl pr, ty_impl_tree) :: (Ll ++ Lr)) := hA.take _ hs
    exact .node hn (ldOk_blk hA1 0 rfl (trC_size hn _ _)) (i1 hA1.tail (List.sublist_append_left _ _)) (i2 hA1.tail (List.sublist_append_right _ _))

theorem c_trKey {w : World} {o : Option Addr} {T : Tr} (h : RdTr w o T) : Ret Tryz.prog n_ptr_impl_tree_key [.pointer o] w [.agg] (fun r _ => r = (u8s (trKey T)).toArray) := ptr_impl_tree_key_calls _ (by
  unfold ptr_impl_tree_key
  have hk := trKey_ok T
  refine r_new (At.refl w) fun b2 w1 hA => ?_
  refine r_pur _ (fun w' => run_eql_ptr (e := ty_impl_tree) (by kernel_rfl) _ _ _ _ (.inr rfl) w') ?_
  cases h with
  | nil =>
    refine r_true rfl ?_
    refine r_call hA (c_EmptyMapKey _) fun r5 w2 hA _ hr => ?_
    subst hr
    refine r_stA hA 0 rfl rfl (by simp [emptyKey_ok.1]) (by simp [Value.cells]) (by simpa using u8s_one) fun w3 hA => ?_
    refine r_ldA hA 0 rfl rfl (by simp [emptyKey_ok.1]) ?_
    exact r_ret hA _ rfl rfl
  | @node a n l r pl pr hn hl _ _ =>
    refine r_false rfl ?_
    refine r_dp rfl ?_
    have h66 := ldOk_sub (ldOk_below hA.below hl) 0 66 (by omega)
    rw [trC_node hn] at h66
    refine r_ldN (ndC n).toArray h66 ?_
    refine r_call hA (c_ND_key hn _) fun r10 w2 hA _ hr => ?_
    subst hr
    refine r_stA hA 0 rfl rfl (by simp [hashL_len]) (by simp [Value.cells]) (by simpa using u8s_one) fun w3 hA => ?_
    refine r_ldA hA 0 rfl rfl (by simp [hashL_len]) ?_
    exact r_ret hA _ rfl rfl)

theorem ndCs_one (ns : List ND) : ∀ v ∈ ns.flatMap ndC, oneC v = true := fun v hv => by
  obtain ⟨n, _, hn⟩ := List.mem_flatMap.1 hv
  exact ndC_one n v hn

theorem run_mkTree (p q : Option Addr) (w : World) : (Instr.build ty_impl_tree #[(1, (.pointer p)), (2, (.pointer q))]).run Tryz.prog w = .ok (.agg (zeroNode.toList ++ [Value.pointer p, Value.pointer q]).toArray) w := by kernel_rfl
theorem run_mkND {l r : List Int} (hl : keyOk l) (hr : keyOk r) (e : PE) (w : World) : (Instr.build ty_impl_MapNode #[(0, (.agg (u8s l).toArray)), (1, (.agg (u8s r).toArray)), (2, (.agg (entC e).toArray))]).run Tryz.prog w = .ok (.agg (ndC ⟨l, r, e⟩).toArray) w := by
  have h := run_mkNode (l := u8s l) (r := u8s r) (by rw [u8s_len]; exact hl.1) (by rw [u8s_len]; exact hr.1) e.1 e.2 w
  rw [List.append_assoc] at h
  exact h
theorem EsR.sub {w : World} {s : Sl} {es : List PE} (h : EsR w s es) (l k : Nat) (h1 : l ≤ k) (h2 : k ≤ s.n) : EsR w ⟨if s.c = l then s.a else s.a.map (·.add (l * 2)), k - l, s.c - l⟩ ((es.drop l).take (k - l)) := SlOf.sub h l k h1 h2

theorem c_grow : ∀ (f : Nat) {w : World} {s s2 : Sl} {es : List PE}, EsR w s es → KsR w s2 (es.map prio) → entsOk es → es.length < f → es.length ≤ 1000 → Ret Tryz.prog n_impl_grow [.slice s.a s.n s.c, .slice s2.a s2.n s2.c] w [.optr] (fun r w' => ∃ L, At w w' L ∧ OwnTr r (treeF f es) L)
  | 0, _, _, _, _, _, _, _, h, _ => by omega
  | f + 1, w, s, s2, es, hs, hp, heo, hf, hm => impl_grow_calls _ _ (by
    unfold impl_grow
    have hn := hs.n
    have hcap := hs.cap
    have hn2 := hp.n
    rw [List.length_map] at hn2
    have hcap2 := hp.of.cap
    refine r_eq (fun h0 => ?_) (fun h0 => ?_)
    · rw [treeF_succ, if_pos (by omega)]
      exact r_ret (At.refl w) (none : Option Addr) rfl ⟨[], At.refl w, .nil⟩
    have hne : es.length ≠ 0 := by omega
    have htl := topE_lt hne
    generalize hT : treeF (f + 1) es = T
    rw [treeF_succ, if_neg hne] at hT
    refine r_loop (σ := Int × Int) (fun i w' => ∃ j : Nat, i.2 = j ∧ j ≤ es.length ∧ i.1 = (topAt (es.map prio) j : Nat) ∧ At w w' []) (fun i _ => (s2.n - i.2).toNat) (0, 0) rfl ⟨0, rfl, by omega, rfl, At.refl w⟩ ?_
    rintro ⟨top, i⟩ w1 ⟨j, hi, hj, htop, h⟩
    dsimp only at hi htop
    subst hi
    subst htop
    refine r_any fun _ => ?_
    dsimp only
    refine r_if ((j : Int) < (s2.n : Int)) rfl (fun hlt => ?_) (fun hge => ?_)
    · have htj : topAt (es.map prio) j < es.length := by
        cases j with
        | zero => show 0 < _; omega
        | succ j => have := topAt_le (es.map prio) j; omega
      obtain ⟨k, p, hk, _, hpa, hko, hag⟩ := (hp.at h).get (i := j) (by rw [List.length_map]; omega)
      obtain ⟨k2, p2, hk2, _, hpa2, hko2, hag2⟩ := hp.get (i := topAt (es.map prio) j) (by rw [List.length_map]; exact htj)
      rw [hpa] at hpa2
      cases hpa2
      refine r_ix p hpa (by omega) (by omega) ?_
      refine r_ldN (u8s k).toArray (by simp only [Int.toNat_natCast]; exact hag) ?_
      refine r_new h fun b7 w2 h => ?_
      refine r_stA h 0 rfl rfl (by simp [hko.1]) (by simp [Value.cells]) (by simpa using u8s_one) fun w3 h => ?_
      refine r_draw h fun w4 h => ?_
      refine r_ldA h 0 rfl rfl (by simp [hko.1]) ?_
      refine r_ix p hpa (by omega) (by omega) ?_
      refine r_ldN (u8s k2).toArray (by simp only [Int.toNat_natCast]; exact ldOk_below h.below hag2) ?_
      refine r_call h (c_compareKeys (by exact hko.1) (by exact hko2.1) _) fun r24 w5 h _ hr => ?_
      subst hr
      have e1 : (es.map prio).getD j [] = k := by simp only [List.getD, hk, Option.getD_some]
      have e2 : (es.map prio).getD (topAt (es.map prio) j) [] = k2 := by simp only [List.getD, hk2, Option.getD_some]
      have ht := topAt_succ (es.map prio) j
      rw [e1, e2] at ht
      refine r_if (cmpL k k2 > 0) rfl (fun hgt => ?_) (fun hle => ?_)
      · rw [if_pos hgt] at ht
        exact ⟨((j : Int), ((j + 1 : Nat) : Int)), by rw [w64 (by omega) (by omega)]; rfl, ⟨j + 1, rfl, by omega, by rw [ht], h.nil⟩, by dsimp only; omega⟩
      · rw [if_neg hle] at ht
        exact ⟨((topAt (es.map prio) j : Nat), ((j + 1 : Nat) : Int)), by rw [w64 (by omega) (by omega)]; rfl, ⟨j + 1, rfl, by omega, by rw [ht], h.nil⟩, by dsimp only; omega⟩
    · have hjl : j = es.length := by omega
      subst hjl
      rw [show topAt (es.map prio) es.length = topE es from rfl]
      refine r_joinI ?_
      refine r_draw h fun w2 h => ?_
      refine r_sl 0 (topE es) rfl rfl (by omega) (by omega) ?_
      refine r_sl 0 (topE es) rfl rfl (by omega) (by omega) ?_
      rw [w64 (n := (topE es : Int) + 1) (by omega) (by omega)]
      refine r_sl (topE es + 1) s.n rfl rfl (by omega) (by omega) ?_
      refine r_sl (topE es + 1) s2.n rfl rfl (by omega) (by omega) ?_
      have a1 := (SlOf.at hs h).sub 0 (topE es) (by omega) (by omega)
      rw [List.drop_zero, Nat.sub_zero] at a1
      have a2 := (hp.at h).sub 0 (topE es) (by omega) (by omega)
      rw [List.drop_zero, Nat.sub_zero, ← List.map_take] at a2
      have a3 := (SlOf.at hs h).sub (topE es + 1) s.n (by omega) (by omega)
      rw [List.take_of_length_le (by rw [List.length_drop]; omega)] at a3
      have a4 := (hp.at h).sub (topE es + 1) s2.n (by omega) (by omega)
      rw [List.take_of_length_le (by rw [List.length_drop, List.length_map]; omega), ← List.map_drop] at a4
      refine r_call h (c_grow f a1 a2 (fun e hx => heo e (List.mem_of_mem_take hx)) (by rw [List.length_take]; omega) (by rw [List.length_take]; omega)) fun r34 w3 h3 hb3 ⟨L1, hL1, hO1⟩ => ?_
      have h3 : At w w3 (L1 ++ []) := h.join hL1
      refine r_call h3 (c_grow f (SlOf.below a3 hb3) (a4.below hb3) (fun e hx => heo e (List.mem_of_mem_drop hx)) (by rw [List.length_drop]; omega) (by rw [List.length_drop]; omega)) fun r43 w4 _ _ ⟨L2, hL2, hO2⟩ => ?_
      have h : At w w4 (L2 ++ (L1 ++ [])) := h3.join hL2
      refine r_pur (sh := .agg) _ (run_mkTree r34 r43) ?_
      refine r_new h fun b45 w5 h => ?_
      have h : At w w5 ([(b45, (zeroNode.toList ++ [Value.pointer r34, Value.pointer r43]).toArray, ty_impl_tree)] ++ (L2 ++ (L1 ++ []))) := h
      refine ⟨(⟨b45, 0, none⟩ : Addr), rfl, ?_⟩
      refine r_any fun _ => ?_
      refine r_draw h fun w6 h => ?_
      refine r_ld h 0 rfl (add_lit _ _ _) r34 (by simp [Sh.emb]) rfl ?_
      refine r_ld h 0 rfl (add_lit _ _ _) r43 (by simp [Sh.emb]) rfl ?_
      obtain ⟨e, p, he, hem, hpa, hag, _, _⟩ := EsR.get hs (i := topE es) htl
      have heE : entE es (topE es) = e := by unfold entE; simp only [List.getD, he, Option.getD_some]
      refine r_ix p hpa (by omega) (by omega) ?_
      simp only [Int.toNat_natCast]
      refine r_ldN (entC e).toArray (ldOk_below h.below hag) ?_
      have lr : ∀ {v : World}, At w v ([(b45, (zeroNode.toList ++ [Value.pointer r34, Value.pointer r43]).toArray, ty_impl_tree)] ++ (L2 ++ (L1 ++ []))) → ldOk v 1 ((⟨b45, 0, none⟩ : Addr).add 67) .optr r43 := fun h => ldOk_own (sh := .optr) h 0 rfl 67 rfl (by simp [Sh.emb])
      refine r_call h (c_trKey (hO1.rd h ((List.sublist_append_left _ _).trans ((List.sublist_append_right _ _).trans (List.sublist_append_right _ _))))) fun r51 w7 h _ hr => ?_
      subst hr
      refine r_chk2 (ldOk_below h.below hag) (lr h) ?_
      refine r_call h (c_trKey (hO2.rd h ((List.sublist_append_left _ _).trans (List.sublist_append_right _ _)))) fun r56 w8 h _ hr => ?_
      subst hr
      refine r_chk1 (ldOk_below h.below hag) ?_
      refine r_pur (sh := .agg) _ (run_mkND (trKey_ok _) (trKey_ok _) e) ?_
      have heok := heo e hem
      have hok : (⟨trKey (treeF f (es.take (topE es))), trKey (treeF f (es.drop (topE es + 1))), e⟩ : ND).ok := ⟨trKey_ok _, trKey_ok _, heok.1, heok.2⟩
      rw [heE] at hT
      have hnl := ndC_len hok
      refine r_stP h 0 (o := 0) rfl (add_lit _ _ _) (by simpa using hnl) (by show 0 + 66 ≤ 68; omega) (by simpa using ndC_one _) fun w9 h => ?_
      have hfin : ((zeroNode.toList ++ [Value.pointer r34, Value.pointer r43]).toArray.toList.take 0 ++ (ndC ⟨trKey (treeF f (es.take (topE es))), trKey (treeF f (es.drop (topE es + 1))), e⟩).toArray.toList ++ (zeroNode.toList ++ [Value.pointer r34, Value.pointer r43]).toArray.toList.drop (0 + 66)).toArray = trC ⟨trKey (treeF f (es.take (topE es))), trKey (treeF f (es.drop (topE es + 1))), e⟩ r34 r43 := rfl
      rw [hfin] at h
      have h : At w w9 ([(b45, trC ⟨trKey (treeF f (es.take (topE es))), trKey (treeF f (es.drop (topE es + 1))), e⟩ r34 r43, ty_impl_tree)] ++ (L2 ++ (L1 ++ []))) := h
      refine r_ret h.nil (some (⟨b45, 0, none⟩ : Addr)) rfl ⟨_, ?_, hT ▸ OwnTr.node hok hO1 hO2⟩
      have h2 : At w w9 ([(b45, trC ⟨trKey (treeF f (es.take (topE es))), trKey (treeF f (es.drop (topE es + 1))), e⟩ r34 r43, ty_impl_tree)] ++ (L1 ++ (L2 ++ []))) := h.pl2.pl1
      simpa using h2)

theorem c_treeOf {w : World} {s : Sl} {es : List PE} (hs : EsR w s es) (heo : entsOk es) (hm : es.length ≤ 1000) : Ret Tryz.prog n_impl_treeOf [.slice s.a s.n s.c] w [.optr] (fun r w' => ∃ L, At w w' L ∧ OwnTr r (treeF (es.length + 1) es) L) := impl_treeOf_calls _ (by
  unfold impl_treeOf
  have hn := hs.n
  refine r_bs0 T_sl_Key (At.refl w) fun y6 w1 hy hyn => ?_
  refine r_loop (σ := Sl × Int) (fun i w' => ∃ j : Nat, i.2 = j ∧ j ≤ es.length ∧ SlO w w' [] ty_impl_Key 32 i.1 (((es.take j).map prio).flatMap u8s) ∧ i.1.n = j) (fun i _ => (s.n - i.2).toNat) (y6, 0) rfl ⟨0, rfl, by omega, by simpa using hy, hyn⟩ ?_
  clear hy hyn
  rintro ⟨sk, i⟩ w2 ⟨j, hi, hj, hS, hkn⟩
  dsimp only at hi hS hkn
  subst hi
  refine r_any fun _ => ?_
  dsimp only
  refine r_if ((j : Int) < (s.n : Int)) rfl (fun hlt => ?_) (fun hge => ?_)
  · obtain ⟨e, p, he, hem, hp, hag, _, _⟩ := EsR.get (SlOf.at hs hS.at_) (i := j) (by omega)
    have heok := heo e hem
    obtain ⟨Lk, hOk, h⟩ := hS.split
    refine r_ix p hp (by omega) (by omega) ?_
    refine r_ldN (entC e).toArray (by simp only [Int.toNat_natCast]; exact hag) ?_
    refine r_new h fun b5 w3 h => ?_
    refine r_stA h 0 rfl rfl rfl rfl (by simpa using entC_one e) fun w4 h => ?_
    have h : At w w4 ([(b5, (entC e).toArray, ty_impl_Entry)] ++ (Lk ++ [])) := h
    refine r_ld h 0 rfl (add_lit _ _ _) e.1 (by simp [Sh.emb]) rfl ?_
    refine r_cvB (src := ty_string) (dst := ty_sl_uint8) (e := ty_uint8) (by kernel_rfl) (by kernel_rfl) (by kernel_rfl) fun y16 w5 hb5 h16 _ => ?_
    have h := h.trans hb5
    refine r_call h (c_hash 4 h16 (strL_ok _) (by rw [strL_len]; omega)) fun r17 w6 h _ hr => ?_
    subst hr
    have hko := prio_ok e
    rw [show hashL 4 (strL e.1) = prio e from rfl]
    refine r_bs1 T_sl_Key h (by simp [Value.cells, hko.1]) (by omega) fun y18 w7 hy hyn => ?_
    rw [show (Value.agg (u8s (prio e)).toArray).cells.toList = u8s (prio e) by simp [Value.cells]] at hy
    obtain ⟨Ly, hOy, h⟩ := hy.split
    have h : At w w7 (Ly ++ ([(b5, (entC e).toArray, ty_impl_Entry)] ++ (Lk ++ []))) := h
    refine r_append T_sl_Key (hOk.slo h.pl2) (hOy.sl h (List.sublist_append_left _ _)) u8s_one (by omega) (by omega) fun y19 w8 hS8 hn8 => ?_
    refine ⟨(y19, ((j + 1 : Nat) : Int)), by rw [w64 (by omega) (by omega)]; rfl, ⟨j + 1, rfl, by omega, ?_, by dsimp only; omega⟩, by dsimp only; omega⟩
    rw [take_succ_get he, List.map_append, List.flatMap_append]
    simpa using hS8.base
  · have hjl : j = es.length := by omega
    subst hjl
    rw [List.take_of_length_le (Nat.le_refl _)] at hS
    obtain ⟨Lk, hOk, h⟩ := hS.split
    refine r_call h (c_grow (es.length + 1) (SlOf.at hs h) (ownS_ks hOk h (List.sublist_append_left _ _) (prios_ok es)) heo (by omega) hm) fun r23 w3 h3 _ ⟨L, hL, hO⟩ => ?_
    refine r_ret h3.nil r23 rfl ⟨L, ?_, hO⟩
    have h : At w w3 (L ++ (Lk ++ [])) := h.join hL
    exact h.left)

end Go.Proofs.YtkifkdkjljcclaaGreat
