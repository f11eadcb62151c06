/- GetPartial: the program and the reference. -/
import Derived.Test.YtffedfdhhglmkaaGreatE0
namespace Go.Proofs.YtffedfdhhglmkaaGreat
open Go.Sx Go.RowKit

/-! ### What is answered -/
def sameN (a b : ByteArray) : Bool := a.toList == b.toList
def ltN (a b : ByteArray) : Bool := Op.bytesLess a.toList b.toList
/-- The path to a name, the key that is missing, and a code. -/
def pathG (B : List PB) (e : List Int) (name : ByteArray) : Nat → List Int → List (List Int) → List (List Int) × List Int × Int
  | 0, _, _ => ([], zero32, 8)
  | f + 1, k, ds => if k = e then (ds, zero32, 0) else if k ∈ keysOf B then
      (if nodeGood (blobAt B k) ∧ ds.length < 64 then
        (if sameN (nmOf (blobAt B k).data) name = true then (ds ++ [(blobAt B k).data], zero32, 0)
         else pathG B e name f (if ltN name (nmOf (blobAt B k).data) = true then part32 (blobAt B k).data 0 else part32 (blobAt B k).data 32) (ds ++ [(blobAt B k).data]))
       else ([], zero32, 8)) else ([], k, 4)
theorem pathG_succ (B : List PB) (e : List Int) (name : ByteArray) (f : Nat) (k : List Int) (ds : List (List Int)) : pathG B e name (f + 1) k ds = if k = e then (ds, zero32, 0) else if k ∈ keysOf B then
      (if nodeGood (blobAt B k) ∧ ds.length < 64 then
        (if sameN (nmOf (blobAt B k).data) name = true then (ds ++ [(blobAt B k).data], zero32, 0)
         else pathG B e name f (if ltN name (nmOf (blobAt B k).data) = true then part32 (blobAt B k).data 0 else part32 (blobAt B k).data 32) (ds ++ [(blobAt B k).data]))
       else ([], zero32, 8)) else ([], k, 4) := rfl
theorem pathG_want {B : List PB} {e : List Int} {name : ByteArray} (hB : ∀ b ∈ B, bytesOk b.data) (hv : validS B) : ∀ (f : Nat) (k : List Int) (ds : List (List Int)), keyOk k → keyOk (pathG B e name f k ds).2.1
  | 0, _, _, _ => zero32_ok
  | f + 1, k, ds, hk => by
    rw [pathG_succ]
    split
    · exact zero32_ok
    split
    · rename_i hm
      split
      · rename_i hg
        split
        · exact zero32_ok
        · have hd := hB _ (blobAt_in hv.2.2 hm)
          have h65 := hg.1.2.1
          refine pathG_want hB hv f _ _ ?_
          split
          · exact part32_key (by omega) hd
          · exact part32_key (by omega) hd
      · exact zero32_ok
    · exact hk
/-- The value of a name by the path to it. -/
def getG (name : ByteArray) (R : List (List Int) × List Int × Int) : ByteArray × List Int × Int :=
  if R.2.2 = 0 then (match R.1.getLast? with
    | some d => if sameN (nmOf d) name = true then (vlOf d, zero32, 0) else (⟨#[]⟩, zero32, 6)
    | none => (⟨#[]⟩, zero32, 6)) else (⟨#[]⟩, R.2.1, R.2.2)
def getPAns (B : List PB) (k : List Int) (name : ByteArray) : ByteArray × List Int × Int :=
  if validS B then (if nameOk name.size = true then getG name (pathG B emptyKey name 65 k []) else (⟨#[]⟩, zero32, 1)) else (⟨#[]⟩, zero32, 1)

theorem T_sl_Node : SlT Tryz.prog ty_sl_impl_MapNode ty_impl_MapNode 66 96 := slT_of (by kernel_rfl)

/-! ### The program -/
theorem c_nodeNext {d : List Int} (hd : 64 ≤ d.length) (name : ByteArray) (w : World) : Ret Tryz.prog n_impl_MapNode_next [.agg (nodeCells d).toArray, .string name] w [.agg] (fun r _ => r = (u8s (if ltN name (nmOf d) = true then part32 d 0 else part32 d 32)).toArray) := impl_MapNode_next_calls _ _ (by
  unfold impl_MapNode_next
  have hnl : (nodeCells d).length = 66 := nodeCells_len hd
  have l0 := part32_len (d := d) (o := 0) (by omega)
  have l1 := part32_len (d := d) (o := 32) (by omega)
  refine r_new (At.refl w) fun b2 w1 h => ?_
  refine r_new h fun b4 w2 h => ?_
  have h : At w w2 [(b4, Array.replicate 32 (.int .u8 0), ty_impl_Key), (b2, (nodeCells d).toArray, ty_impl_MapNode)] := h
  refine r_ld h 1 rfl (by rw [add_lit, add_lit]) (nmOf d) (by simp [Sh.emb]) (nodeCells_name hd) ?_
  refine r_pur _ (fun w' => run_lss_str _ _ _ _ _ w') ?_
  refine r_if (ltN name (nmOf d) = true) (by unfold ltN; rw [Bool.decide_eq_true]) (fun hlt => ?_) (fun hge => ?_)
  · rw [if_pos hlt]
    refine r_ldP h 1 rfl (add_lit _ _ _) (by simp [hnl]) ?_
    rw [show (0 + 0 : Nat) = 0 from rfl, nodeCells_left hd]
    refine r_stA h 0 rfl rfl (by simp [l0]) (by simp) (by simpa using u8s_one) fun w3 h => ?_
    refine r_ldA h 0 rfl rfl (by simp [l0]) ?_
    exact r_ret h.nil _ rfl rfl
  · rw [if_neg hge]
    refine r_ldP h 1 rfl (add_lit _ _ _) (by simp [hnl]) ?_
    rw [show (0 + 32 : Nat) = 32 from rfl, nodeCells_right hd]
    refine r_stA h 0 rfl rfl (by simp [l1]) (by simp) (by simpa using u8s_one) fun w3 h => ?_
    refine r_ldA h 0 rfl rfl (by simp [l1]) ?_
    exact r_ret h.nil _ rfl rfl)

def DescQ (w0 : World) (rest : List Blk) (bl : Nat) (p : Addr) (e : List Int) (R : List (List Int) × List Int × Int) (v : Value) (w' : World) : Prop :=
  ∃ (s : Sl) (m : Int) (ds : List (List Int)) (Lp : List Blk), v = .tuple #[.slice s.a s.n s.c, .int .i64 R.2.2] ∧ At w0 w' (Lp ++ (bl, mapC p e m true R.2.1, ty_impl_mapper) :: rest) ∧ OwnS ty_impl_MapNode 66 s (ds.flatMap nodeCells) Lp ∧ s.n = ds.length ∧ (∀ d ∈ ds, 64 ≤ d.length) ∧ (R.2.2 = 0 → ds = R.1)

theorem c_descend {w0 w : World} {rest : List Blk} {bl : Nat} {p : Addr} {B : List PB} {bs : List BR} {e k : List Int} {name : ByteArray}
    (hA : At w0 w ((bl, mapC p e 0 true zero32, ty_impl_mapper) :: rest)) (hs : ShopR w0 p (keysOf B) bs) (hpb : bs.map BR.pb = B) (hv : validS B) (hk : keyOk k) (he : keyOk e) :
    Calls Tryz.prog n_ptr_impl_mapper_descend [.pointer (some ⟨bl, 0, none⟩), .agg (u8s k).toArray, .string name].toArray w fun x w' => ∃ v, x = .returned v ∧ DescQ w0 rest bl p e (pathG B e name 65 k []) v w' := ptr_impl_mapper_descend_calls _ _ _ (by
  unfold ptr_impl_mapper_descend
  have hasc : Asc (keysOf B) := hv.2.2
  refine r_new hA fun b4 w1 h => ?_
  refine r_bs0 T_sl_Node h fun y w2 hy hyn => ?_
  obtain ⟨Lp, hOp, h⟩ := hy.split
  have h : At w0 w2 (Lp ++ ([(b4, (u8s k).toArray, ty_impl_Key)] ++ ([(bl, mapC p e ((0 : Nat) : Int) true zero32, ty_impl_mapper)] ++ rest))) := h
  generalize hR : pathG B e name 65 k [] = R
  refine r_loop (σ := Sl) (fun s w' => ∃ (f : Nat) (kk : List Int) (ds : List (List Int)) (Lp : List Blk), keyOk kk ∧ f + ds.length = 65 ∧ s.n = ds.length ∧ ds.length ≤ 64 ∧ (∀ d ∈ ds, 64 ≤ d.length) ∧ pathG B e name f kk ds = R ∧ OwnS ty_impl_MapNode 66 s (ds.flatMap nodeCells) Lp ∧
      At w0 w' (Lp ++ ([(b4, (u8s kk).toArray, ty_impl_Key)] ++ ([(bl, mapC p e (ds.length : Int) true zero32, ty_impl_mapper)] ++ rest)))) (fun s _ => 65 - s.n) y rfl
    ⟨65, k, [], Lp, hk, rfl, hyn, by simp, by simp, hR, by simpa using hOp, h⟩ ?_
  clear hOp h hy hyn hR
  rintro so w5 ⟨f, kk, ds, Lp, hkk, hf, hsn, hd64, hdl, hgo, hOp, h⟩
  refine r_any fun _ => ?_
  obtain ⟨f, rfl⟩ : ∃ f', f = f' + 1 := ⟨f - 1, by omega⟩
  rw [pathG_succ] at hgo
  refine r_draw h fun w6 h => ?_
  refine r_ldA h.pl1 0 rfl rfl (by simp [hkk.1]) ?_
  refine r_ldP h.pl2 0 rfl (add_lit _ _ _) (by rw [mapC_size he zero32_ok]; omega) ?_
  rw [show (0 + 1 : Nat) = 1 from rfl, mapC_empty he]
  refine r_pur _ (fun w' => run_neq_key _ _ hkk.1 he.1 w') ?_
  by_cases hke : kk = e
  · rw [if_pos hke] at hgo
    refine r_false (by simp [hke]) ?_
    subst hgo
    refine r_retR ⟨so, (ds.length : Int), ds, Lp, rfl, ?_, hOp, hsn, hdl, fun _ => rfl⟩
    exact h.dr1
  rw [if_neg hke] at hgo
  refine r_true (by simp [hke]) ?_
  refine r_ldA h.pl1 0 rfl rfl (by simp [hkk.1]) ?_
  have h : At w0 w6 ([(bl, mapC p e (ds.length : Int) true zero32, ty_impl_mapper)] ++ (Lp ++ ([(b4, (u8s kk).toArray, ty_impl_Key)] ++ rest))) := h.pl2
  refine r_callR (c_node (low := none) (high := none) (lo := none) (hi := none) h hs hpb hv hkk zero32_ok he (by omega) (fun _ => trivial) (fun _ => trivial)) ?_
  rintro v w7 hq
  rcases hq with ⟨hm, rfl, h⟩ | ⟨hm, h, ⟨hfit, hdok, rfl⟩ | ⟨hn, rfl⟩⟩
  · rw [if_neg hm] at hgo
    refine ⟨(_, 6), rfl, ?_⟩
    refine r_new h fun b9 w8 h => ?_
    refine r_stA h 0 rfl rfl rfl rfl zeroNode_one fun w9 h => ?_
    refine r_true rfl ?_
    refine r_callp (c_toldC 6) ?_
    have h : At w0 w9 ([(b9, zeroNode, ty_impl_MapNode)] ++ ([(bl, mapC p e (ds.length : Int) true kk, ty_impl_mapper)] ++ (Lp ++ ([(b4, (u8s kk).toArray, ty_impl_Key)] ++ rest)))) := h
    subst hgo
    refine r_retR ⟨so, (ds.length : Int), ds, Lp, rfl, ?_, hOp, hsn, hdl, fun hh => absurd hh (by simp)⟩
    exact h.right.pl1.dr2
  · rw [if_pos hm, if_pos ⟨hfit.1, hfit.2.1⟩] at hgo
    generalize hdd : (blobAt B kk).data = d at hgo hdok
    have hno : nodeOk d := by have := hfit.1.2; rw [hdd] at this; exact this
    have h65 := hno.1
    have hnl : (nodeCells d).length = 66 := nodeCells_len (by omega)
    have k0 : keyOk (part32 d 0) := part32_key (by omega) hdok
    have k1 : keyOk (part32 d 32) := part32_key (by omega) hdok
    have hml := hfit.2.1
    refine ⟨((nodeCells d).toArray, 0), rfl, ?_⟩
    refine r_new h fun b9 w8 h => ?_
    refine r_stA h 0 rfl rfl (by simpa using hnl) rfl (by simpa using nodeCells_one d) fun w9 h => ?_
    refine r_false rfl ?_
    have h : At w0 w9 ([(b9, (nodeCells d).toArray, ty_impl_MapNode), (bl, mapC p e ((ds.length + 1 : Nat) : Int) true zero32, ty_impl_mapper)] ++ (Lp ++ ([(b4, (u8s kk).toArray, ty_impl_Key)] ++ rest))) := h
    refine r_ldA h 0 rfl rfl (by simpa using hnl) ?_
    refine r_bs1 T_sl_Node h (by simpa [Value.cells] using hnl) (by omega) fun y31 w10 hy hyn => ?_
    rw [show (Value.agg (nodeCells d).toArray).cells.toList = nodeCells d by simp [Value.cells]] at hy
    obtain ⟨Ly, hOy, h⟩ := hy.split
    refine r_append T_sl_Node (hOp.slo h.pl2) (hOy.sl h (List.sublist_append_left _ _)) (nodeCells_one d) (by omega) (by omega) fun y32 w11 hS hn32 => ?_
    obtain ⟨Lp', hOp', h⟩ := hS.split
    have h : At w0 w11 (Lp' ++ (Ly ++ ([(b9, (nodeCells d).toArray, ty_impl_MapNode), (bl, mapC p e ((ds.length + 1 : Nat) : Int) true zero32, ty_impl_mapper)] ++ ([(b4, (u8s kk).toArray, ty_impl_Key)] ++ rest)))) := h
    have h : At w0 w11 ([(b9, (nodeCells d).toArray, ty_impl_MapNode), (bl, mapC p e ((ds.length + 1 : Nat) : Int) true zero32, ty_impl_mapper)] ++ (Lp' ++ ([(b4, (u8s kk).toArray, ty_impl_Key)] ++ rest))) := h.dr1.pl1
    have hOp'' : OwnS ty_impl_MapNode 66 y32 ((ds ++ [d]).flatMap nodeCells) Lp' := by rw [List.flatMap_append]; simpa using hOp'
    have hlen : (ds ++ [d]).length = ds.length + 1 := by simp
    have hall : ∀ x ∈ ds ++ [d], 64 ≤ x.length := fun x hx => by
      rcases List.mem_append.1 hx with hx | hx
      · exact hdl x hx
      · rw [List.mem_singleton.1 hx]; omega
    refine r_ld h 0 rfl (by rw [add_lit, add_lit]) (nmOf d) (by simp [Sh.emb]) (nodeCells_name (by omega)) ?_
    refine r_pur _ (fun w' => run_eql_str _ _ _ _ _ w') ?_
    refine r_if (sameN (nmOf d) name = true) (by unfold sameN; rw [Bool.decide_eq_true]) (fun hsame => ?_) (fun hdiff => ?_)
    · rw [if_pos hsame] at hgo
      subst hgo
      have h : At w0 w11 ([(b9, (nodeCells d).toArray, ty_impl_MapNode)] ++ ([(bl, mapC p e ((ds.length + 1 : Nat) : Int) true zero32, ty_impl_mapper)] ++ (Lp' ++ ([(b4, (u8s kk).toArray, ty_impl_Key)] ++ rest)))) := h
      exact r_retR ⟨y32, _, ds ++ [d], Lp', rfl, h.right.pl1.dr2, hOp'', by rw [hn32, hyn, hlen]; omega, hall, fun _ => rfl⟩
    · rw [if_neg hdiff] at hgo
      refine r_ldA h 0 rfl rfl (by simpa using hnl) ?_
      refine r_call h (c_nodeNext (by omega) name _) fun r40 w12 h _ hr => ?_
      subst hr
      have hkn : keyOk (if ltN name (nmOf d) = true then part32 d 0 else part32 d 32) := by split <;> assumption
      generalize (if ltN name (nmOf d) = true then part32 d 0 else part32 d 32) = kn at hgo hkn
      have h : At w0 w12 ([(b4, (u8s kk).toArray, ty_impl_Key)] ++ ([(b9, (nodeCells d).toArray, ty_impl_MapNode), (bl, mapC p e ((ds.length + 1 : Nat) : Int) true zero32, ty_impl_mapper)] ++ (Lp' ++ rest))) := h.pl2
      refine r_stA h 0 rfl rfl (by simp [hkn.1]) (by simp [hkk.1]) (by simpa using u8s_one) fun w13 h => ?_
      have h : At w0 w13 ([(b4, (u8s kn).toArray, ty_impl_Key)] ++ ([(b9, (nodeCells d).toArray, ty_impl_MapNode)] ++ ([(bl, mapC p e ((ds.length + 1 : Nat) : Int) true zero32, ty_impl_mapper)] ++ (Lp' ++ rest)))) := h
      refine ⟨y32, rfl, ⟨f, kn, ds ++ [d], Lp', hkn, by rw [hlen]; omega, by rw [hn32, hyn, hlen]; omega, by rw [hlen]; omega, hall, hgo, hOp'', ?_⟩, by omega⟩
      rw [hlen]
      exact h.dr1.pl2
  · rw [if_pos hm, if_neg (fun hh => hn ⟨hh.1, hh.2, .inl rfl⟩)] at hgo
    refine ⟨(_, 8), rfl, ?_⟩
    refine r_new h fun b9 w8 h => ?_
    refine r_stA h 0 rfl rfl rfl rfl zeroNode_one fun w9 h => ?_
    refine r_true rfl ?_
    refine r_callp (c_toldC 8) ?_
    have h : At w0 w9 ([(b9, zeroNode, ty_impl_MapNode)] ++ ([(bl, mapC p e ((ds.length + 1 : Nat) : Int) true zero32, ty_impl_mapper)] ++ (Lp ++ ([(b4, (u8s kk).toArray, ty_impl_Key)] ++ rest)))) := h
    subst hgo
    exact r_retR ⟨so, _, ds, Lp, rfl, h.right.pl1.dr2, hOp, hsn, hdl, fun hh => absurd hh (by simp)⟩)

/-- The last node of a path. -/
theorem last_node {w0 w : World} {ls : List Blk} {s : Sl} {ds : List (List Int)} {Lp : List Blk} {d : List Int} (hO : OwnS ty_impl_MapNode 66 s (ds.flatMap nodeCells) Lp) (hA : At w0 w ls) (hs : Lp.Sublist ls) (hn : s.n = ds.length) (hl : ∀ x ∈ ds, 64 ≤ x.length) (hd : ds.getLast? = some d) :
    ∃ q, s.a = some q ∧ 0 < ds.length ∧ ldOk w 1 (((q.add ((ds.length - 1) * 66)).add 64).add 0) .str (nmOf d) ∧ ldOk w 1 (((q.add ((ds.length - 1) * 66)).add 64).add 1) .str (vlOf d) := by
  have hdm : d ∈ ds := List.mem_of_getLast? hd
  have h0 : 0 < ds.length := List.length_pos_of_mem hdm
  have hx : ds[ds.length - 1]? = some d := by rw [← List.getLast?_eq_getElem?]; exact hd
  have hS : SlOf w s 66 nodeCells ds := hO.of hA hs (fun x hx => nodeCells_len (hl x hx)) (by omega)
  obtain ⟨q, hq, _⟩ := hS.cell hx
  have h64 := nodeCells_name (hl d hdm)
  have h65 := nodeCells_value (hl d hdm)
  rw [List.getElem?_toArray] at h64 h65
  refine ⟨q, hq, h0, ?_, ?_⟩
  · rw [Go.Deep.add_add, Go.Deep.add_add]
    exact hS.fld hx hq (sh := .str) 64 h64 (by simp [Sh.emb])
  · rw [Go.Deep.add_add, Go.Deep.add_add]
    exact hS.fld hx hq (sh := .str) 65 h65 (by simp [Sh.emb])

theorem c_partial {w : World} {p : Addr} {B : List PB} {bs : List BR} {k : List Int} {name : ByteArray} (hs : ShopR w p (keysOf B) bs) (hpb : bs.map BR.pb = B) (hv : validS B) (hB : ∀ b ∈ B, bytesOk b.data) (hk : keyOk k) :
    Ret Tryz.prog n_ptr_impl_shop_partial [.pointer (some p), .agg (u8s k).toArray, .string name] w [.str, .agg, .int .i64] (fun r _ => r.1 = (getG name (pathG B emptyKey name 65 k [])).1 ∧ r.2.1 = (u8s (getG name (pathG B emptyKey name 65 k [])).2.1).toArray ∧ r.2.2 = (getG name (pathG B emptyKey name 65 k [])).2.2) := ptr_impl_shop_partial_calls _ _ _ (by
  unfold ptr_impl_shop_partial
  have hwant := pathG_want (e := emptyKey) (name := name) hB hv 65 k [] hk
  refine r_new (At.refl w) fun b4 w1 h => ?_
  refine r_new h fun b7 w2 h => ?_
  refine r_call h (c_copyMapper p _) fun r14 w3 h3 _ ⟨bl, hr, hL⟩ => ?_
  subst hr
  have h : At w w3 ([(bl, mapC p emptyKey 0 true zero32, ty_impl_mapper)] ++ [(b7, Array.replicate 32 (.int .u8 0), ty_impl_Key), (b4, (u8s k).toArray, ty_impl_Key)]) := h.join hL
  refine r_ldA h 2 rfl rfl (by simp [hk.1]) ?_
  refine r_callR (c_descend (name := name) h hs hpb hv hk emptyKey_ok) ?_
  generalize pathG B emptyKey name 65 k [] = R at hwant
  rintro v w4 ⟨s, m, ds, Lp, rfl, h, hO, hsn, hdl, hdR⟩
  refine ⟨(s, R.2.2), rfl, ?_⟩
  have h : At w w4 (Lp ++ [(bl, mapC p emptyKey m true R.2.1, ty_impl_mapper), (b7, Array.replicate 32 (.int .u8 0), ty_impl_Key), (b4, (u8s k).toArray, ty_impl_Key)]) := h
  have h := At.swap h
  by_cases hc : R.2.2 = 0
  · have hds := hdR hc
    subst hds
    refine r_ne (fun hne => absurd hc hne) (fun _ => ?_)
    have g0 : getG name R = (match R.1.getLast? with
      | some d => if sameN (nmOf d) name = true then (vlOf d, zero32, 0) else (⟨#[]⟩, zero32, 6)
      | none => (⟨#[]⟩, zero32, 6)) := by unfold getG; rw [if_pos hc]
    rw [g0]
    have none_ : ∀ {G : ByteArray × List Int × Int}, G = (⟨#[]⟩, zero32, 6) → ((real Tryz.prog (RR w [.str, .agg, .int .i64] (fun r _ => r.1 = G.1 ∧ r.2.1 = (u8s G.2.1).toArray ∧ r.2.2 = G.2.2))).st 32 (Addr.mk b7 0 none) (.agg (Array.replicate 32 (.int .u8 0))) <| (real Tryz.prog (RR w [.str, .agg, .int .i64] (fun r _ => r.1 = G.1 ∧ r.2.1 = (u8s G.2.1).toArray ∧ r.2.2 = G.2.2))).ld .agg 32 (Addr.mk b7 0 none) fun z15 => (real Tryz.prog (RR w [.str, .agg, .int .i64] (fun r _ => r.1 = G.1 ∧ r.2.1 = (u8s G.2.1).toArray ∧ r.2.2 = G.2.2))).ret (.tuple #[(.string (⟨#[]⟩ : ByteArray)), (.agg z15), (.int .i64 6)]) : World → Prop) w4 := by
      rintro _ rfl
      refine r_stA h 1 rfl rfl (by simp) (by simp) (by simp [oneC]) fun w5 h => ?_
      refine r_ldA h 1 rfl rfl (by simp) ?_
      exact r_ret h.nil ((⟨#[]⟩ : ByteArray), _, (6 : Int)) rfl ⟨rfl, rfl, rfl⟩
    refine r_joinI ?_
    cases hlast : R.1.getLast? with
    | none =>
      have hnil : R.1 = [] := List.getLast?_eq_none_iff.1 hlast
      have h0 : s.n = 0 := by rw [hsn, hnil]; rfl
      refine r_if ((s.n : Int) > 0) rfl (fun hh => by omega) (fun _ => ?_)
      refine ⟨false, rfl, ?_⟩
      refine r_any fun _ => ?_
      refine r_false rfl ?_
      exact none_ rfl
    | some d =>
      obtain ⟨q, hq, h0, hnm, hvl⟩ := last_node hO h (List.sublist_append_right _ _) hsn hdl hlast
      have hmx : s.n ≤ 9223372036854775807 := Nat.le_trans hO.cap (Nat.le_trans hO.max (by decide))
      refine r_if ((s.n : Int) > 0) rfl (fun _ => ?_) (fun hh => absurd (show (s.n : Int) > 0 by omega) hh)
      dsimp only
      rw [w64 (n := (s.n : Int) - 1) (by omega) (by omega)]
      refine r_ix q hq (by omega) (by omega) ?_
      rw [show ((s.n : Int) - 1).toNat = R.1.length - 1 by omega]
      refine r_ldN (sh := .str) (nmOf d) hnm ?_
      refine r_pur _ (fun w' => run_eql_str _ _ _ _ _ w') ?_
      refine ⟨_, rfl, ?_⟩
      refine r_any fun _ => ?_
      refine r_if (sameN (nmOf d) name = true) (by unfold sameN; rw [Bool.decide_eq_true]) (fun hsame => ?_) (fun hdiff => ?_)
      · have g1 : (if sameN (nmOf d) name = true then (vlOf d, zero32, (0 : Int)) else (⟨#[]⟩, zero32, 6)) = (vlOf d, zero32, 0) := if_pos hsame
        rw [g1]
        refine r_ix q hq (by omega) (by omega) ?_
        rw [show ((s.n : Int) - 1).toNat = R.1.length - 1 by omega]
        refine r_ldN (sh := .str) (vlOf d) hvl ?_
        refine r_stA h 1 rfl rfl (by simp) (by simp) (by simp [oneC]) fun w5 h => ?_
        refine r_ldA h 1 rfl rfl (by simp) ?_
        exact r_ret h.nil (vlOf d, _, (0 : Int)) rfl ⟨rfl, rfl, rfl⟩
      · exact none_ (by simp only [if_neg hdiff])
  · refine r_ne (fun _ => ?_) (fun heq => absurd heq hc)
    have g0 : getG name R = (⟨#[]⟩, R.2.1, R.2.2) := by unfold getG; rw [if_neg hc]
    rw [g0]
    refine r_draw h fun w5 h => ?_
    refine r_ldP h 0 rfl (add_lit _ _ _) (by rw [mapC_size emptyKey_ok hwant]; omega) ?_
    rw [show (0 + 35 : Nat) = 35 from rfl, mapC_want emptyKey_ok hwant]
    refine r_stA h 1 rfl rfl (by simp [hwant.1]) (by simp) (by simpa using u8s_one) fun w6 h => ?_
    refine r_ldA h 1 rfl rfl (by simp [hwant.1]) ?_
    exact r_ret h.nil ((⟨#[]⟩ : ByteArray), _, R.2.2) rfl ⟨rfl, rfl, rfl⟩)
end Go.Proofs.YtffedfdhhglmkaaGreat
