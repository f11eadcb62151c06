/- LoadMap and RangePartial: the program. -/
import Derived.Test.YtffedfdhhglmkaaGreatE3
namespace Go.Proofs.YtffedfdhhglmkaaGreat
open Go.Sx Go.RowKit

/-! ### What is answered -/
def loadM (B : List PB) (k : List Int) : WR := walkG B emptyKey false (fun _ => true) (fun _ => true) (fun _ => true) 65 k none none 0 []
def loadMAns (B : List PB) (k : List Int) : List PE × List Int × Int :=
  if validS B then (if (loadM B k).code = 0 then ((loadM B k).out.map entOf, zero32, 0) else ([], (loadM B k).want, (loadM B k).code)) else ([], zero32, 1)
def gtN (fr nm : ByteArray) : Bool := !(Op.bytesLess nm.toList fr.toList || nm.toList == fr.toList)
def ltT (to_ nm : ByteArray) : Bool := Op.bytesLess nm.toList to_.toList
def inN (fr to_ nm : ByteArray) : Bool := !Op.bytesLess nm.toList fr.toList && Op.bytesLess nm.toList to_.toList
def rangeM (B : List PB) (k : List Int) (fr to_ : ByteArray) : WR := walkG B emptyKey true (gtN fr) (ltT to_) (inN fr to_) 65 k none none 0 []
def told6 (c : Int) : Int := if c = 6 then 4 else c
def rangeMAns (B : List PB) (k : List Int) (fr to_ : ByteArray) : List PE × List Int × Int :=
  if validS B then (if (rangeM B k fr to_).code = 0 then ((rangeM B k fr to_).out.map entOf, zero32, 0) else ([], (rangeM B k fr to_).want, told6 (rangeM B k fr to_).code)) else ([], zero32, 1)
theorem loadM_ok {B : List PB} (hB : ∀ b ∈ B, bytesOk b.data) (hv : validS B) {k : List Int} (hk : keyOk k) : WOk 0 [] (loadM B k) := walkG_ok hB hv 65 k none none 0 [] hk (by omega) (by omega) (by simp)
theorem rangeM_ok {B : List PB} (hB : ∀ b ∈ B, bytesOk b.data) (hv : validS B) {k : List Int} (hk : keyOk k) (fr to_ : ByteArray) : WOk 0 [] (rangeM B k fr to_) := walkG_ok hB hv 65 k none none 0 [] hk (by omega) (by omega) (by simp)
theorem outs_size {R : WR} (h : WOk 0 [] R) : sizeEntryS (R.out.map entOf) ≤ 5785 ∧ msizeEntryS (R.out.map entOf) ≤ 130 := by
  have h1 := h.len
  have h2 := h.many2
  have h3 := ents_size h.nodes
  unfold msizeEntryS
  rw [List.length_map]
  simp only [List.length_nil] at h1
  omega
theorem sizeE_nil : sizeEntryS [] = 0 := rfl
theorem loadMAns_size {B : List PB} (hB : ∀ b ∈ B, bytesOk b.data) {k : List Int} (hk : keyOk k) : sizeEntryS (loadMAns B k).1 ≤ 5785 ∧ msizeEntryS (loadMAns B k).1 ≤ 130 := by
  unfold loadMAns
  split
  · rename_i hv
    split
    · exact outs_size (loadM_ok hB hv hk)
    · exact ⟨by rw [sizeE_nil]; omega, by simp [msizeEntryS]⟩
  · exact ⟨by rw [sizeE_nil]; omega, by simp [msizeEntryS]⟩
theorem rangeMAns_size {B : List PB} (hB : ∀ b ∈ B, bytesOk b.data) {k : List Int} (hk : keyOk k) (fr to_ : ByteArray) : sizeEntryS (rangeMAns B k fr to_).1 ≤ 5785 ∧ msizeEntryS (rangeMAns B k fr to_).1 ≤ 130 := by
  unfold rangeMAns
  split
  · rename_i hv
    split
    · exact outs_size (rangeM_ok hB hv hk fr to_)
    · exact ⟨by rw [sizeE_nil]; omega, by simp [msizeEntryS]⟩
  · exact ⟨by rw [sizeE_nil]; omega, by simp [msizeEntryS]⟩
theorem rdStore_bytes {w : World} {r : Array Value} {B : List PB} (h : RdStore w r B) : ∀ b ∈ B, bytesOk b.data := by
  obtain ⟨s, bs, rfl, hpb, hs⟩ := h
  intro b hb
  rw [← hpb] at hb
  obtain ⟨x, hx, rfl⟩ := List.mem_map.1 hb
  exact (hs.ok x hx).bytes.ok

/-! ### What is called at each node -/
theorem c_ml1 (nm : ByteArray) (w : World) : Ret Tryz.prog n_ptr_impl_mapper_load_1 [.string nm] w [.bool] (fun r _ => r = true) := ptr_impl_mapper_load_1_calls _ (by
  unfold ptr_impl_mapper_load_1
  exact r_ret (At.refl w) true rfl rfl)
theorem c_ml2 (d : List Int) (w : World) : Ret Tryz.prog n_ptr_impl_mapper_load_2 [.agg (nodeCells d).toArray] w [] (fun _ _ => True) := ptr_impl_mapper_load_2_calls _ (by
  unfold ptr_impl_mapper_load_2
  refine r_new (At.refl w) fun b1 w1 h => ?_
  exact r_ret (l := []) h.nil () rfl trivial)
theorem c_rp3 (d : List Int) (w : World) : Ret Tryz.prog n_impl_RangePartial_3 [.agg (nodeCells d).toArray] w [] (fun _ _ => True) := impl_RangePartial_3_calls _ (by
  unfold impl_RangePartial_3
  refine r_new (At.refl w) fun b1 w1 h => ?_
  exact r_ret (l := []) h.nil () rfl trivial)
theorem c_rp1 {w : World} {a : Addr} {fr : ByteArray} (nm : ByteArray) (ha : ldOk w 1 a .str fr) : Ret Tryz.prog n_impl_RangePartial_1 [.string nm, .pointer (some a)] w [.bool] (fun r _ => r = gtN fr nm) := impl_RangePartial_1_calls _ _ (by
  unfold impl_RangePartial_1
  refine r_ldN (sh := .str) fr ha ?_
  refine r_pur _ (fun w' => run_gtr_str _ _ _ _ _ w') ?_
  exact r_ret (At.refl w) _ rfl rfl)
theorem c_rp2 {w : World} {a : Addr} {to_ : ByteArray} (nm : ByteArray) (ha : ldOk w 1 a .str to_) : Ret Tryz.prog n_impl_RangePartial_2 [.string nm, .pointer (some a)] w [.bool] (fun r _ => r = ltT to_ nm) := impl_RangePartial_2_calls _ _ (by
  unfold impl_RangePartial_2
  refine r_ldN (sh := .str) to_ ha ?_
  refine r_pur _ (fun w' => run_lss_str _ _ _ _ _ w') ?_
  exact r_ret (At.refl w) _ rfl rfl)
theorem c_ml3 {w0 w : World} {bo : Nat} {so : Sl} {Lo X : List Blk} {es : List PE} (l : PE) (hA : At w0 w ((bo, #[.slice so.a so.n so.c], ty_sl_impl_Entry) :: (Lo ++ X))) (hO : OwnEntryS so es Lo) (hl : es.length ≤ 100) :
    Calls Tryz.prog n_ptr_impl_mapper_load_3 [.agg (entC l).toArray, .pointer (some ⟨bo, 0, none⟩)].toArray w fun x w' => ∃ v, x = .returned v ∧ v = .tuple #[] ∧ ∃ so' Lo', At w0 w' ((bo, #[.slice so'.a so'.n so'.c], ty_sl_impl_Entry) :: (Lo' ++ X)) ∧ OwnEntryS so' (es ++ [l]) Lo' := ptr_impl_mapper_load_3_calls _ _ (by
  unfold ptr_impl_mapper_load_3
  have hn := hO.n
  refine r_new hA fun b2 w1 h => ?_
  have h : At w0 w1 ([(b2, (entC l).toArray, ty_impl_Entry)] ++ ([(bo, #[.slice so.a so.n so.c], ty_sl_impl_Entry)] ++ (Lo ++ X))) := h
  refine r_ld h 1 rfl rfl so (by simp [Sh.emb]) rfl ?_
  refine r_ldA h 0 rfl rfl rfl ?_
  refine r_bs1 T_sl_Entry h rfl (by omega) fun y5 w2 hy hyn => ?_
  rw [show (Value.agg (entC l).toArray).cells.toList = entC l by simp [Value.cells]] at hy
  obtain ⟨Ly, hOy, h⟩ := hy.split
  refine r_append T_sl_Entry (OwnS.slo hO h.pl3) (hOy.sl h (List.sublist_append_left _ _)) (entC_one l) (by omega) (by omega) fun y6 w3 hS hn6 => ?_
  obtain ⟨Lo', hO', h⟩ := hS.split
  have h : At w0 w3 (Lo' ++ (Ly ++ ([(b2, (entC l).toArray, ty_impl_Entry)] ++ ([(bo, #[.slice so.a so.n so.c], ty_sl_impl_Entry)] ++ X)))) := h
  have h := h.pl3
  refine r_st h 0 (o := 0) rfl rfl (by simp) rfl fun w4 h => ?_
  have h : At w0 w4 ([(bo, #[.slice y6.a y6.n y6.c], ty_sl_impl_Entry)] ++ (Lo' ++ (Ly ++ ([(b2, (entC l).toArray, ty_impl_Entry)] ++ X)))) := h
  refine r_retR ⟨rfl, y6, Lo', h.dr2.dr2, ?_⟩
  unfold OwnEntryS
  rw [List.flatMap_append]
  simpa using hO')
theorem c_rp4 {w0 w : World} {bo : Nat} {so : Sl} {Lo X : List Blk} {es : List PE} {a1 a2 : Addr} {fr to_ : ByteArray} (l : PE) (h1 : ∀ {w' V}, At w0 w' (V ++ X) → ldOk w' 1 a1 .str fr) (h2 : ∀ {w' V}, At w0 w' (V ++ X) → ldOk w' 1 a2 .str to_) (hA : At w0 w ((bo, #[.slice so.a so.n so.c], ty_sl_impl_Entry) :: (Lo ++ X))) (hO : OwnEntryS so es Lo) (hl : es.length ≤ 100) :
    Calls Tryz.prog n_impl_RangePartial_4 [.agg (entC l).toArray, .pointer (some a1), .pointer (some a2), .pointer (some ⟨bo, 0, none⟩)].toArray w fun x w' => ∃ v, x = .returned v ∧ v = .tuple #[] ∧ ∃ so' Lo', At w0 w' ((bo, #[.slice so'.a so'.n so'.c], ty_sl_impl_Entry) :: (Lo' ++ X)) ∧ OwnEntryS so' (es ++ if inN fr to_ l.1 = true then [l] else []) Lo' := impl_RangePartial_4_calls _ _ _ _ (by
  unfold impl_RangePartial_4
  have hn := hO.n
  refine r_new hA fun b2 w1 h => ?_
  have h : At w0 w1 ([(b2, (entC l).toArray, ty_impl_Entry)] ++ ([(bo, #[.slice so.a so.n so.c], ty_sl_impl_Entry)] ++ (Lo ++ X))) := h
  have q1 : ∀ {w' : World}, At w0 w' ([(b2, (entC l).toArray, ty_impl_Entry)] ++ ([(bo, #[.slice so.a so.n so.c], ty_sl_impl_Entry)] ++ (Lo ++ X))) → ldOk w' 1 a1 .str fr := fun h => h1 (V := []) h.right.right.right
  have q2 : ∀ {w' : World}, At w0 w' ([(b2, (entC l).toArray, ty_impl_Entry)] ++ ([(bo, #[.slice so.a so.n so.c], ty_sl_impl_Entry)] ++ (Lo ++ X))) → ldOk w' 1 a2 .str to_ := fun h => h2 (V := []) h.right.right.right
  refine r_ld h 0 rfl (add_lit _ _ _) l.1 (by simp [Sh.emb]) rfl ?_
  refine r_ldN (sh := .str) fr (q1 h) ?_
  refine r_pur _ (fun w' => run_geq_str _ _ _ _ _ w') ?_
  by_cases hge : Op.bytesLess l.1.toList fr.toList = true
  · refine r_false (by rw [hge]; rfl) ?_
    refine r_retR ⟨rfl, so, Lo, h.right, ?_⟩
    rw [if_neg (by unfold inN; rw [hge]; simp), List.append_nil]
    exact hO
  have hge' : Op.bytesLess l.1.toList fr.toList = false := by simpa using hge
  refine r_true (by rw [hge']; rfl) ?_
  refine r_ld h 0 rfl (add_lit _ _ _) l.1 (by simp [Sh.emb]) rfl ?_
  refine r_ldN (sh := .str) to_ (q2 h) ?_
  refine r_pur _ (fun w' => run_lss_str _ _ _ _ _ w') ?_
  by_cases hlt : Op.bytesLess l.1.toList to_.toList = true
  · refine r_true hlt ?_
    rw [if_pos (by unfold inN; rw [hge', hlt]; rfl)]
    refine r_ld h 1 rfl rfl so (by simp [Sh.emb]) rfl ?_
    refine r_ldA h 0 rfl rfl rfl ?_
    refine r_bs1 T_sl_Entry h rfl (by omega) fun y5 w2 hy hyn => ?_
    rw [show (Value.agg (entC l).toArray).cells.toList = entC l by simp [Value.cells]] at hy
    obtain ⟨Ly, hOy, h⟩ := hy.split
    refine r_append T_sl_Entry (OwnS.slo hO h.pl3) (hOy.sl h (List.sublist_append_left _ _)) (entC_one l) (by omega) (by omega) fun y6 w3 hS hn6 => ?_
    obtain ⟨Lo', hO', h⟩ := hS.split
    have h : At w0 w3 (Lo' ++ (Ly ++ ([(b2, (entC l).toArray, ty_impl_Entry)] ++ ([(bo, #[.slice so.a so.n so.c], ty_sl_impl_Entry)] ++ X)))) := h
    have h := h.pl3
    refine r_st h 0 (o := 0) rfl rfl (by simp) rfl fun w4 h => ?_
    have h : At w0 w4 ([(bo, #[.slice y6.a y6.n y6.c], ty_sl_impl_Entry)] ++ (Lo' ++ (Ly ++ ([(b2, (entC l).toArray, ty_impl_Entry)] ++ X)))) := h
    refine r_retR ⟨rfl, y6, Lo', h.dr2.dr2, ?_⟩
    unfold OwnEntryS
    rw [List.flatMap_append]
    simpa using hO'
  · refine r_false (by simpa using hlt) ?_
    refine r_retR ⟨rfl, so, Lo, h.right, ?_⟩
    rw [if_neg (by unfold inN; simp [hlt]), List.append_nil]
    exact hO)

/-! ### LoadMap -/
theorem c_mload {w0 w : World} {rest : List Blk} {bl : Nat} {p : Addr} {B : List PB} {bs : List BR} {k : List Int} (hA : At w0 w ((bl, mapC p emptyKey 0 false zero32, ty_impl_mapper) :: rest)) (hs : ShopR w0 p (keysOf B) bs) (hpb : bs.map BR.pb = B) (hv : validS B) (hB : ∀ b ∈ B, bytesOk b.data) (hk : keyOk k) :
    Calls Tryz.prog n_ptr_impl_mapper_load [.pointer (some ⟨bl, 0, none⟩), .agg (u8s k).toArray].toArray w fun x w' => ∃ v, x = .returned v ∧ ∃ (s : Sl) (L : List Blk), v = .tuple #[.slice s.a s.n s.c, .int .i64 (loadM B k).code] ∧ At w0 w' ([(bl, mapC p emptyKey ((loadM B k).many : Int) false (loadM B k).want, ty_impl_mapper)] ++ (L ++ rest)) ∧ OwnEntryS s (if (loadM B k).code = 0 then (loadM B k).out.map entOf else []) L := ptr_impl_mapper_load_calls _ _ (by
  unfold ptr_impl_mapper_load
  have hok := loadM_ok hB hv hk
  refine r_new hA fun b3 w1 h => ?_
  refine r_bs0 T_sl_Entry h fun y9 w2 hy hyn => ?_
  obtain ⟨Lo, hO, h⟩ := hy.split
  refine r_new h fun b6 w3 h => ?_
  refine r_st h 0 (o := 0) rfl rfl (by simp [Value.cells]) rfl fun w4 h => ?_
  have h : At w0 w4 ([(b6, #[.slice y9.a y9.n y9.c], ty_sl_impl_Entry)] ++ (Lo ++ ([(b3, (u8s k).toArray, ty_impl_Key)] ++ ([(bl, mapC p emptyKey ((0 : Nat) : Int) false zero32, ty_impl_mapper)] ++ rest)))) := h
  refine r_ldA h.pl2 0 rfl rfl (by simp [hk.1]) ?_
  have h : At w0 w4 ([(b6, #[.slice y9.a y9.n y9.c], ty_sl_impl_Entry)] ++ ([(bl, mapC p emptyKey ((0 : Nat) : Int) false zero32, ty_impl_mapper)] ++ (Lo ++ ([(b3, (u8s k).toArray, ty_impl_Key)] ++ rest)))) := h.pl3.pl1
  refine r_callR (c_walk (rest0 := []) (e := emptyKey) (loose := false) (Lt := fun _ => true) (Rt := fun _ => true) (En := fun _ => true) hs hpb hv hB emptyKey_ok (gL := n_ptr_impl_mapper_load_1) (gR := n_ptr_impl_mapper_load_1) (gN := n_ptr_impl_mapper_load_2) (gE := n_ptr_impl_mapper_load_3) (cL := #[]) (cR := #[]) (cN := #[]) (cE := #[.pointer (some ⟨b6, 0, none⟩)]) (by kernel_rfl) (by kernel_rfl) (by kernel_rfl) (by kernel_rfl)
    (fun nm _ => c_ml1 nm _) (fun nm _ => c_ml1 nm _) (fun d _ => c_ml2 d _) (fun d _ hA hO hl => c_ml3 (entOf d) hA hO hl) 65 k none none none none 0 [] (List.nil_sublist _) hk (by omega) (by omega) (by simp) (by simp) (fun _ => trivial) (fun _ => trivial) ⟨y9, Lo, h, hO⟩) ?_
  rw [show walkG B emptyKey false (fun _ => true) (fun _ => true) (fun _ => true) 65 k none none 0 [] = loadM B k from rfl]
  generalize loadM B k = R at hok
  rintro v w5 ⟨rfl, so, Lo', h, hO⟩
  refine ⟨_, rfl, ?_⟩
  by_cases hc : R.code = 0
  · refine r_ne (fun hne => absurd hc hne) (fun _ => ?_)
    refine r_ld h 0 rfl rfl so (by simp [Sh.emb]) rfl ?_
    refine r_retR ⟨so, Lo', by rw [hc], ?_, by rw [if_pos hc]; exact hO⟩
    exact h.right.dr2
  · refine r_ne (fun _ => ?_) (fun heq => absurd heq hc)
    refine r_retR ⟨⟨none, 0, 0⟩, [], rfl, ?_, by rw [if_neg hc]; exact OwnEntryS.none⟩
    exact h.right.dr1.dr1)

theorem c_impl_LoadMap {w : World} {r a : Array Value} {B : List PB} {k : List Int} (hr : RdStore w r B) (ha : RdKey w a k) (hz : sizeBs B ≤ 1073741824) :
    Ret Tryz.prog n_impl_LoadMap [.agg r, .agg a] w [.slice, .agg, .int .i64] (fun x w' => ∃ L, At w w' L ∧ OwnEntryS x.1 (loadMAns B k).1 L ∧ RdKey w x.2.1 (loadMAns B k).2.1 ∧ x.2.2 = (loadMAns B k).2.2) := impl_LoadMap_calls _ _ (by
  unfold impl_LoadMap
  have hB := rdStore_bytes hr
  obtain ⟨s, bs, rfl, hpb, hs⟩ := hr
  obtain ⟨rfl, hk⟩ := ha
  have hl := le_sizeBs B
  have hbl : bs.length = B.length := by rw [← hpb]; simp
  refine r_new (At.refl w) fun b2 w1 h => ?_
  refine r_new h fun b3 w2 h => ?_
  refine r_new h fun b5 w3 h => ?_
  have h : At w w3 [(b5, Array.replicate 32 (.int .u8 0), ty_impl_Key), (b3, (u8s k).toArray, ty_impl_Key), (b2, #[.slice s.a s.n s.c], ty_impl_Store)] := h
  refine r_ldA h 2 rfl rfl rfl ?_
  refine r_call h (c_newShop (hs.at h) (by omega)) fun r14 w4 h4 _ hr => ?_
  rw [hpb] at hr
  rcases hr with ⟨hv, b, L, rfl, hL, hO⟩ | ⟨hv, rfl⟩
  · refine r_false rfl ?_
    have hok := loadM_ok hB hv hk
    have hc : loadMAns B k = (if (loadM B k).code = 0 then ((loadM B k).out.map entOf, zero32, 0) else ([], (loadM B k).want, (loadM B k).code)) := by unfold loadMAns; rw [if_pos hv]
    rw [hc]
    have h : At w w4 ([(b5, Array.replicate 32 (.int .u8 0), ty_impl_Key), (b3, (u8s k).toArray, ty_impl_Key), (b2, #[.slice s.a s.n s.c], ty_impl_Store)] ++ (L ++ [])) := by rw [List.append_nil]; exact (h.join hL).swap
    have hSh := hO.rd h.pl1 (keysOf_ok _) (fun b hb => (hs.at h.nil).ok b hb)
    refine r_call h (c_newMapper ⟨b, 0, none⟩ _) fun r21 w5 _ _ ⟨bm, hr, hM⟩ => ?_
    subst hr
    refine r_ldA (h.join hM) 2 rfl rfl (by simp [hk.1]) ?_
    refine r_callR (c_mload hM hSh hpb hv hB hk) ?_
    generalize loadM B k = R at hok
    rintro v w6 ⟨so, Lo, rfl, hX, hO6⟩
    refine ⟨(so, R.code), rfl, ?_⟩
    have h : At w w6 ([(bm, mapC ⟨b, 0, none⟩ emptyKey (R.many : Int) false R.want, ty_impl_mapper)] ++ (Lo ++ ([(b5, Array.replicate 32 (.int .u8 0), ty_impl_Key), (b3, (u8s k).toArray, ty_impl_Key), (b2, #[.slice s.a s.n s.c], ty_impl_Store)] ++ (L ++ [])))) := by
      have := h.join hX
      simpa [List.append_assoc] using this
    have hw := hok.want
    refine r_draw h fun w7 h => ?_
    refine r_ldP h 0 rfl (add_lit _ _ _) (by rw [mapC_size emptyKey_ok hw]; omega) ?_
    rw [show (0 + 35 : Nat) = 35 from rfl, mapC_want emptyKey_ok hw]
    have h := h.pl2
    refine r_stA h 0 rfl rfl (by simp [hw.1]) (by simp) (by simpa using u8s_one) fun w8 h => ?_
    refine r_ldA h 0 rfl rfl (by simp [hw.1]) ?_
    refine r_ret h.nil (so, _, R.code) rfl ?_
    have h : At w w8 ([(b5, (u8s R.want).toArray, ty_impl_Key), (b3, (u8s k).toArray, ty_impl_Key), (b2, #[.slice s.a s.n s.c], ty_impl_Store)] ++ ([(bm, mapC ⟨b, 0, none⟩ emptyKey (R.many : Int) false R.want, ty_impl_mapper)] ++ (Lo ++ (L ++ [])))) := h
    have h := h.right.right
    by_cases hc0 : R.code = 0
    · rw [if_pos hc0] at hO6 ⊢
      exact ⟨Lo, h.left, hO6, ⟨by rw [hok.zero hc0], zero32_ok⟩, hc0⟩
    · rw [if_neg hc0] at hO6 ⊢
      exact ⟨Lo, h.left, hO6, ⟨rfl, hw⟩, rfl⟩
  · refine r_true rfl ?_
    refine r_stA h4 0 rfl rfl (by simp) (by simp) (by simp [oneC]) fun w5 h => ?_
    refine r_ldA h 0 rfl rfl (by simp) ?_
    refine r_ret h.nil (⟨none, 0, 0⟩, _, (1 : Int)) rfl ?_
    unfold loadMAns
    rw [if_neg hv]
    exact ⟨[], h.nil, OwnEntryS.none, ⟨rfl, zero32_ok⟩, rfl⟩)

/-! ### RangePartial -/
theorem c_impl_RangePartial {w : World} {r a : Array Value} {B : List PB} {k : List Int} {fr to_ : ByteArray} (hr : RdStore w r B) (ha : RdKey w a k) (hz : sizeBs B ≤ 1073741824) :
    Ret Tryz.prog n_impl_RangePartial [.agg r, .agg a, .string fr, .string to_] w [.slice, .agg, .int .i64] (fun x w' => ∃ L, At w w' L ∧ OwnEntryS x.1 (rangeMAns B k fr to_).1 L ∧ RdKey w x.2.1 (rangeMAns B k fr to_).2.1 ∧ x.2.2 = (rangeMAns B k fr to_).2.2) := impl_RangePartial_calls _ _ _ _ (by
  unfold impl_RangePartial
  have hB := rdStore_bytes hr
  obtain ⟨s, bs, rfl, hpb, hs⟩ := hr
  obtain ⟨rfl, hk⟩ := ha
  have hl := le_sizeBs B
  have hbl : bs.length = B.length := by rw [← hpb]; simp
  refine r_new (At.refl w) fun b4 w1 h => ?_
  refine r_new h fun b5 w2 h => ?_
  refine r_new h fun b6 w3 h => ?_
  refine r_new h fun b7 w4 h => ?_
  refine r_new h fun b9 w5 h => ?_
  have h : At w w5 [(b9, Array.replicate 32 (.int .u8 0), ty_impl_Key), (b7, #[.string to_], ty_string), (b6, #[.string fr], ty_string), (b5, (u8s k).toArray, ty_impl_Key), (b4, #[.slice s.a s.n s.c], ty_impl_Store)] := h
  refine r_ldA h 4 rfl rfl rfl ?_
  refine r_call h (c_newShop (hs.at h) (by omega)) fun r18 w6 h6 _ hr => ?_
  rw [hpb] at hr
  rcases hr with ⟨hv, b, L, rfl, hL, hO⟩ | ⟨hv, rfl⟩
  · refine r_false rfl ?_
    have hok := rangeM_ok hB hv hk fr to_
    have hc : rangeMAns B k fr to_ = (if (rangeM B k fr to_).code = 0 then ((rangeM B k fr to_).out.map entOf, zero32, 0) else ([], (rangeM B k fr to_).want, told6 (rangeM B k fr to_).code)) := by unfold rangeMAns; rw [if_pos hv]
    rw [hc]
    have h : At w w6 ([(b9, Array.replicate 32 (.int .u8 0), ty_impl_Key), (b7, #[.string to_], ty_string), (b6, #[.string fr], ty_string), (b5, (u8s k).toArray, ty_impl_Key), (b4, #[.slice s.a s.n s.c], ty_impl_Store)] ++ (L ++ [])) := by rw [List.append_nil]; exact (h.join hL).swap
    have hSh := hO.rd h.pl1 (keysOf_ok _) (fun b hb => (hs.at h.nil).ok b hb)
    have q6 : ldOk w6 1 (⟨b6, 0, none⟩ : Addr) .str fr := ldOk_own (sh := .str) h 2 rfl 0 rfl (by simp [Sh.emb])
    have q7 : ldOk w6 1 (⟨b7, 0, none⟩ : Addr) .str to_ := ldOk_own (sh := .str) h 1 rfl 0 rfl (by simp [Sh.emb])
    refine r_call h (c_copyMapper ⟨b, 0, none⟩ _) fun r25 w7 _ _ ⟨bm, hr, hM⟩ => ?_
    subst hr
    refine r_bs0 T_sl_Entry hM fun y26 w8 hy hyn => ?_
    obtain ⟨Lo, hO8, hM⟩ := hy.split
    refine r_new hM fun b14 w9 hM => ?_
    refine r_st hM 0 (o := 0) rfl rfl (by simp [Value.cells]) rfl fun w10 hM => ?_
    have hM : At w6 w10 ([(b14, #[.slice y26.a y26.n y26.c], ty_sl_impl_Entry)] ++ (Lo ++ ([(bm, mapC ⟨b, 0, none⟩ emptyKey ((0 : Nat) : Int) true zero32, ty_impl_mapper)] ++ []))) := hM
    refine r_ldA (h.trans hM.below) 3 rfl rfl (by simp [hk.1]) ?_
    have hM := hM.pl2.pl1
    refine r_callR (c_walk (rest0 := []) (e := emptyKey) (loose := true) (Lt := gtN fr) (Rt := ltT to_) (En := inN fr to_) hSh hpb hv hB emptyKey_ok (gL := n_impl_RangePartial_1) (gR := n_impl_RangePartial_2) (gN := n_impl_RangePartial_3) (gE := n_impl_RangePartial_4) (cL := #[.pointer (some ⟨b6, 0, none⟩)]) (cR := #[.pointer (some ⟨b7, 0, none⟩)]) (cN := #[]) (cE := #[.pointer (some ⟨b6, 0, none⟩), .pointer (some ⟨b7, 0, none⟩), .pointer (some ⟨b14, 0, none⟩)]) (by kernel_rfl) (by kernel_rfl) (by kernel_rfl) (by kernel_rfl)
      (fun nm hA => c_rp1 nm (ldOk_below hA.below q6)) (fun nm hA => c_rp2 nm (ldOk_below hA.below q7)) (fun d _ => c_rp3 d _) (fun d _ hA hO hl => c_rp4 (entOf d) (fun h => ldOk_below h.below q6) (fun h => ldOk_below h.below q7) hA hO hl) 65 k none none none none 0 [] (List.nil_sublist _) hk (by omega) (by omega) (by simp) (by simp) (fun _ => trivial) (fun _ => trivial) ⟨y26, Lo, hM, hO8⟩) ?_
    rw [show walkG B emptyKey true (gtN fr) (ltT to_) (inN fr to_) 65 k none none 0 [] = rangeM B k fr to_ from rfl]
    generalize rangeM B k fr to_ = R at hok
    rintro v w11 ⟨rfl, so, Lo', hX, hO11⟩
    refine ⟨_, rfl, ?_⟩
    have h : At w w11 ([(b14, #[.slice so.a so.n so.c], ty_sl_impl_Entry)] ++ ([(bm, mapC ⟨b, 0, none⟩ emptyKey (R.many : Int) true R.want, ty_impl_mapper)] ++ (Lo' ++ ([(b9, Array.replicate 32 (.int .u8 0), ty_impl_Key), (b7, #[.string to_], ty_string), (b6, #[.string fr], ty_string), (b5, (u8s k).toArray, ty_impl_Key), (b4, #[.slice s.a s.n s.c], ty_impl_Store)] ++ (L ++ []))))) := by
      have := h.join hX
      simpa [List.append_assoc] using this
    have hw := hok.want
    by_cases hc0 : R.code = 0
    · refine r_ne (fun hne => absurd hc0 hne) (fun _ => ?_)
      refine r_ld h 0 rfl rfl so (by simp [Sh.emb]) rfl ?_
      have h := h.pl3
      refine r_stA h 0 rfl rfl (by simp) (by simp) (by simp [oneC]) fun w12 h => ?_
      refine r_ldA h 0 rfl rfl (by simp) ?_
      refine r_ret h.nil (so, _, (0 : Int)) rfl ?_
      rw [if_pos hc0]
      have h : At w w12 ([(b9, Array.replicate 32 (.int .u8 0), ty_impl_Key), (b7, #[.string to_], ty_string), (b6, #[.string fr], ty_string), (b5, (u8s k).toArray, ty_impl_Key), (b4, #[.slice s.a s.n s.c], ty_impl_Store)] ++ ([(b14, #[.slice so.a so.n so.c], ty_sl_impl_Entry)] ++ ([(bm, mapC ⟨b, 0, none⟩ emptyKey (R.many : Int) true R.want, ty_impl_mapper)] ++ (Lo' ++ (L ++ []))))) := h
      exact ⟨Lo', h.right.right.right.left, hO11, ⟨rfl, zero32_ok⟩, rfl⟩
    · refine r_ne (fun _ => ?_) (fun heq => absurd heq hc0)
      refine r_draw h fun w12 h => ?_
      refine r_ldP h 1 rfl (add_lit _ _ _) (by rw [mapC_size emptyKey_ok hw]; omega) ?_
      rw [show (0 + 35 : Nat) = 35 from rfl, mapC_want emptyKey_ok hw]
      refine r_callP (c_toldC R.code) ?_
      have h := h.pl3
      refine r_stA h 0 rfl rfl (by simp [hw.1]) (by simp) (by simpa using u8s_one) fun w13 h => ?_
      refine r_ldA h 0 rfl rfl (by simp [hw.1]) ?_
      refine r_ret h.nil (⟨none, 0, 0⟩, _, _) rfl ?_
      rw [if_neg hc0]
      exact ⟨[], h.nil, OwnEntryS.none, ⟨rfl, hw⟩, rfl⟩
  · refine r_true rfl ?_
    refine r_stA h6 0 rfl rfl (by simp) (by simp) (by simp [oneC]) fun w7 h => ?_
    refine r_ldA h 0 rfl rfl (by simp) ?_
    refine r_ret h.nil (⟨none, 0, 0⟩, _, (1 : Int)) rfl ?_
    unfold rangeMAns
    rw [if_neg hv]
    exact ⟨[], h.nil, OwnEntryS.none, ⟨rfl, zero32_ok⟩, rfl⟩)
end Go.Proofs.YtffedfdhhglmkaaGreat
