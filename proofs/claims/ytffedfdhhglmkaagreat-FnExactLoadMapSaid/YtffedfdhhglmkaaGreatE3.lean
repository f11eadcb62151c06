/- The program's walk over the nodes of a map. -/
import Derived.Test.YtffedfdhhglmkaaGreatE0
import Derived.Test.YtffedfdhhglmkaaGreatV9
namespace Go.Proofs.YtffedfdhhglmkaaGreat
open Go.Sx Go.RowKit

/-! ### What a walk yields -/
instance (b : PB) (many : Nat) (loose : Bool) (lo hi : Option ByteArray) : Decidable (nodeFits b many loose lo hi) := inferInstanceAs (Decidable (nodeGood b ∧ many < 64 ∧ (loose = true ∨ (lowBad lo (nmOf b.data) = false ∧ highBad hi (nmOf b.data) = false))))
structure WR where
  out : List (List Int)
  many : Nat
  want : List Int
  code : Int
def entOf (d : List Int) : PE := (nmOf d, vlOf d)
def addE (En : ByteArray → Bool) (d : List Int) (out : List (List Int)) : List (List Int) := if En (nmOf d) = true then out ++ [d] else out
def afterL (Rt En : ByteArray → Bool) (d : List Int) (right : Nat → List (List Int) → WR) (A : WR) : WR :=
  if A.code = 0 then (if Rt (nmOf d) = true then right A.many (addE En d A.out) else ⟨addE En d A.out, A.many, zero32, 0⟩) else A
def walkG (B : List PB) (e : List Int) (loose : Bool) (Lt Rt En : ByteArray → Bool) : Nat → List Int → Option ByteArray → Option ByteArray → Nat → List (List Int) → WR
  | 0, _, _, _, many, out => ⟨out, many, zero32, 8⟩
  | f + 1, k, lo, hi, many, out => if k = e then ⟨out, many, zero32, 0⟩ else if k ∈ keysOf B then
     (if nodeFits (blobAt B k) many loose lo hi then
        afterL Rt En (blobAt B k).data (fun m o => walkG B e loose Lt Rt En f (part32 (blobAt B k).data 32) (some (nmOf (blobAt B k).data)) hi m o)
          (if Lt (nmOf (blobAt B k).data) = true then walkG B e loose Lt Rt En f (part32 (blobAt B k).data 0) lo (some (nmOf (blobAt B k).data)) (many + 1) out else ⟨out, many + 1, zero32, 0⟩)
      else ⟨out, many + 1, zero32, 8⟩) else ⟨out, many, k, 6⟩
theorem walkG_succ (B : List PB) (e : List Int) (loose : Bool) (Lt Rt En : ByteArray → Bool) (f : Nat) (k : List Int) (lo hi : Option ByteArray) (many : Nat) (out : List (List Int)) : walkG B e loose Lt Rt En (f + 1) k lo hi many out =
    if k = e then ⟨out, many, zero32, 0⟩ else if k ∈ keysOf B then
     (if nodeFits (blobAt B k) many loose lo hi then
        afterL Rt En (blobAt B k).data (fun m o => walkG B e loose Lt Rt En f (part32 (blobAt B k).data 32) (some (nmOf (blobAt B k).data)) hi m o)
          (if Lt (nmOf (blobAt B k).data) = true then walkG B e loose Lt Rt En f (part32 (blobAt B k).data 0) lo (some (nmOf (blobAt B k).data)) (many + 1) out else ⟨out, many + 1, zero32, 0⟩)
      else ⟨out, many + 1, zero32, 8⟩) else ⟨out, many, k, 6⟩ := rfl

structure WOk (many0 : Nat) (out0 : List (List Int)) (R : WR) : Prop where
  many1 : many0 ≤ R.many
  many2 : R.many ≤ 65
  len : R.out.length + many0 ≤ out0.length + R.many
  nodes : ∀ d ∈ R.out, nodeOk d
  want : keyOk R.want
  zero : R.code = 0 → R.want = zero32
  ok64 : R.code = 0 → R.many ≤ 64
theorem addE_len (En : ByteArray → Bool) (d : List Int) (out : List (List Int)) : (addE En d out).length ≤ out.length + 1 := by unfold addE; split <;> simp
theorem addE_nodes {En : ByteArray → Bool} {d : List Int} {out : List (List Int)} (hd : nodeOk d) (h : ∀ x ∈ out, nodeOk x) : ∀ x ∈ addE En d out, nodeOk x := by
  intro x hx
  unfold addE at hx
  split at hx
  · rcases List.mem_append.1 hx with hx | hx
    · exact h x hx
    · rw [List.mem_singleton.1 hx]; exact hd
  · exact h x hx
theorem addE_map (En : ByteArray → Bool) (d : List Int) (out : List (List Int)) : (addE En d out).map entOf = out.map entOf ++ (if En (nmOf d) = true then [entOf d] else []) := by unfold addE; split <;> simp
theorem walkG_ok {B : List PB} {e : List Int} {loose : Bool} {Lt Rt En : ByteArray → Bool} (hB : ∀ b ∈ B, bytesOk b.data) (hv : validS B) : ∀ (f : Nat) (k : List Int) (lo hi : Option ByteArray) (many : Nat) (out : List (List Int)), keyOk k → many ≤ 64 → 65 ≤ f + many → (∀ d ∈ out, nodeOk d) → WOk many out (walkG B e loose Lt Rt En f k lo hi many out)
  | 0, _, _, _, many, out, _, h1, h2, _ => by omega
  | f + 1, k, lo, hi, many, out, hk, h1, h2, hn => by
    rw [walkG_succ]
    split
    · exact ⟨Nat.le_refl _, by dsimp only; omega, Nat.le_refl _, hn, zero32_ok, fun _ => rfl, fun _ => h1⟩
    split
    · rename_i hm
      split
      · rename_i hfit
        have hd := hB _ (blobAt_in hv.2.2 hm)
        have hno := hfit.1.2
        have h65 := hno.1
        have hm64 := hfit.2.1
        generalize (blobAt B k).data = d at hd hno h65
        have hA : WOk (many + 1) out (if Lt (nmOf d) = true then walkG B e loose Lt Rt En f (part32 d 0) lo (some (nmOf d)) (many + 1) out else ⟨out, many + 1, zero32, 0⟩) := by
          split
          · exact walkG_ok hB hv f _ _ _ _ _ (part32_key (by omega) hd) (by omega) (by omega) hn
          · exact ⟨Nat.le_refl _, by dsimp only; omega, Nat.le_refl _, hn, zero32_ok, fun _ => rfl, fun _ => by dsimp only; omega⟩
        generalize (if Lt (nmOf d) = true then walkG B e loose Lt Rt En f (part32 d 0) lo (some (nmOf d)) (many + 1) out else ⟨out, many + 1, zero32, 0⟩) = A at hA
        have a1 := hA.many1
        have a2 := hA.many2
        have a3 := hA.len
        have al := addE_len En d A.out
        unfold afterL
        split
        · rename_i hc
          have a4 := hA.ok64 hc
          split
          · have hr := walkG_ok (e := e) (loose := loose) (Lt := Lt) (Rt := Rt) (En := En) hB hv f (part32 d 32) (some (nmOf d)) hi A.many (addE En d A.out) (part32_key (by omega) hd) a4 (by omega) (addE_nodes hno hA.nodes)
            have r1 := hr.many1
            have r3 := hr.len
            show WOk many out (walkG B e loose Lt Rt En f (part32 d 32) (some (nmOf d)) hi A.many (addE En d A.out))
            exact ⟨by omega, hr.many2, by omega, hr.nodes, hr.want, hr.zero, hr.ok64⟩
          · exact ⟨by dsimp only; omega, a2, by dsimp only; omega, addE_nodes hno hA.nodes, zero32_ok, fun _ => rfl, fun _ => a4⟩
        · exact ⟨by omega, a2, by omega, hA.nodes, hA.want, hA.zero, hA.ok64⟩
      · exact ⟨by dsimp only; omega, by dsimp only; omega, by dsimp only; omega, hn, zero32_ok, fun hh => absurd hh (by simp), fun hh => absurd hh (by simp)⟩
    · exact ⟨Nat.le_refl _, by dsimp only; omega, Nat.le_refl _, hn, hk, fun hh => absurd hh (by simp), fun hh => absurd hh (by simp)⟩
theorem entOf_size {d : List Int} (h : nodeOk d) : (entOf d).1.size ≤ 24 ∧ (entOf d).2.size ≤ 64 := by
  unfold entOf nmOf vlOf
  dsimp only
  rw [strOf_size, strOf_size]
  have h1 := h.2.2.2.1
  have h2 := h.2.2.2.2
  unfold nodeName nodeValue
  rw [List.length_take, List.length_drop, List.length_drop]
  exact ⟨by omega, h2⟩
theorem ents_size {ds : List (List Int)} (h : ∀ d ∈ ds, nodeOk d) : sizeEntryS (ds.map entOf) ≤ 89 * ds.length := by
  induction ds with
  | nil => simp [sizeEntryS, sumE]
  | cons d r ih =>
    have h1 := entOf_size (h d (by simp))
    have h2 := ih (fun x hx => h x (by simp [hx]))
    simp only [sizeEntryS, sumE, List.map_cons, List.sum_cons, List.length_cons, List.length_map] at h2 ⊢
    omega

theorem nodeCells_entry {d : List Int} (h : 64 ≤ d.length) : (nodeCells d).toArray.extract 64 (64 + 2) = (entC (entOf d)).toArray := by
  apply Array.ext'
  rw [List.extract_toArray]
  show ((nodeCells d).drop 64).take (64 + 2 - 64) = _
  have e0 : (u8s (part32 d 0) ++ u8s (part32 d 32)).length = 64 := by simp [part32_len (show 0 + 32 ≤ d.length by omega), part32_len (show 32 + 32 ≤ d.length by omega)]
  unfold nodeCells
  rw [List.drop_left' e0]
  rfl

/-! ### The program -/
def WS (w0 w : World) (rest : List Blk) (bl bo : Nat) (p : Addr) (e : List Int) (many : Nat) (loose : Bool) (want : List Int) (es : List PE) : Prop :=
  ∃ (so : Sl) (Lo : List Blk), At w0 w ([(bo, #[.slice so.a so.n so.c], ty_sl_impl_Entry)] ++ ([(bl, mapC p e (many : Int) loose want, ty_impl_mapper)] ++ (Lo ++ rest))) ∧ OwnEntryS so es Lo

theorem c_walk {w0 : World} {rest0 : List Blk} {bl bo : Nat} {p : Addr} {B : List PB} {bs : List BR} {e : List Int} {loose : Bool} {Lt Rt En : ByteArray → Bool} (hs : ShopR w0 p (keysOf B) bs) (hpb : bs.map BR.pb = B) (hv : validS B) (hB : ∀ b ∈ B, bytesOk b.data) (he : keyOk e)
    {gL gR gN gE : FuncId} {cL cR cN cE : Array Value} (iL : isGo Tryz.prog gL = true) (iR : isGo Tryz.prog gR = true) (iN : isGo Tryz.prog gN = true) (iE : isGo Tryz.prog gE = true)
    (hL : ∀ {w'} nm, At w0 w' rest0 → Ret Tryz.prog gL ((#[] : Array Value).toList ++ [Value.string nm] ++ cL.toList) w' [.bool] (fun r _ => r = Lt nm))
    (hR : ∀ {w'} nm, At w0 w' rest0 → Ret Tryz.prog gR ((#[] : Array Value).toList ++ [Value.string nm] ++ cR.toList) w' [.bool] (fun r _ => r = Rt nm))
    (hN : ∀ {w'} d, nodeOk d → Ret Tryz.prog gN ((#[] : Array Value).toList ++ [Value.agg (nodeCells d).toArray] ++ cN.toList) w' [] (fun _ _ => True))
    (hE : ∀ {w' X so Lo es} d, rest0.Sublist X → At w0 w' ((bo, #[.slice so.a so.n so.c], ty_sl_impl_Entry) :: (Lo ++ X)) → OwnEntryS so es Lo → es.length ≤ 100 → Calls Tryz.prog gE ((#[] : Array Value).toList ++ [Value.agg (entC (entOf d)).toArray] ++ cE.toList).toArray w' fun x w'' => ∃ v, x = .returned v ∧ v = .tuple #[] ∧ ∃ so' Lo', At w0 w'' ((bo, #[.slice so'.a so'.n so'.c], ty_sl_impl_Entry) :: (Lo' ++ X)) ∧ OwnEntryS so' (es ++ if En (nmOf d) = true then [entOf d] else []) Lo') :
    ∀ (f : Nat) (k : List Int) (lo hi : Option ByteArray) (low high : Option Addr) (many : Nat) (out : List (List Int)) {w : World} {rest : List Blk}, rest0.Sublist rest → keyOk k → many ≤ 64 → 65 ≤ f + many → out.length ≤ many → (∀ d ∈ out, nodeOk d) →
      (∀ {w'}, At w0 w' rest → PtrS w' low lo) → (∀ {w'}, At w0 w' rest → PtrS w' high hi) → WS w0 w rest bl bo p e many loose zero32 (out.map entOf) →
      Calls Tryz.prog n_ptr_impl_mapper_walk [.pointer (some ⟨bl, 0, none⟩), .agg (u8s k).toArray, .pointer low, .pointer high, .func (.func gL) #[] cL, .func (.func gR) #[] cR, .func (.func gN) #[] cN, .func (.func gE) #[] cE].toArray w fun x w' => ∃ v, x = .returned v ∧ (v = .int .i64 (walkG B e loose Lt Rt En f k lo hi many out).code ∧
        WS w0 w' rest bl bo p e (walkG B e loose Lt Rt En f k lo hi many out).many loose (walkG B e loose Lt Rt En f k lo hi many out).want ((walkG B e loose Lt Rt En f k lo hi many out).out.map entOf))
  | 0, _, _, _, _, _, _, _, _, _, _, _, _, _, _, _, _, _, _ => by omega
  | f + 1, k, lo, hi, low, high, many, out, w, rest, hsub, hk, hm64, hf, hol, hon, hlo, hhi, ⟨so, Lo, h, hO⟩ => ptr_impl_mapper_walk_calls _ _ _ _ _ _ _ _ (by
  unfold ptr_impl_mapper_walk
  have hmsz : (mapC p e (many : Int) loose zero32).size = 67 := mapC_size he zero32_ok
  have hok := walkG_ok (e := e) (loose := loose) (Lt := Lt) (Rt := Rt) (En := En) hB hv (f + 1) k lo hi many out hk hm64 (by omega) hon
  generalize hgo : walkG B e loose Lt Rt En (f + 1) k lo hi many out = R at hok
  rw [walkG_succ] at hgo
  refine r_new h fun b9 w1 h => ?_
  have h : At w0 w1 ([(b9, (u8s k).toArray, ty_impl_Key)] ++ ([(bo, #[.slice so.a so.n so.c], ty_sl_impl_Entry)] ++ ([(bl, mapC p e (many : Int) loose zero32, ty_impl_mapper)] ++ (Lo ++ rest)))) := h
  refine r_draw h fun w2 h => ?_
  refine r_ldA h 0 rfl rfl (by simp [hk.1]) ?_
  refine r_ldP h.pl2 0 rfl (add_lit _ _ _) (by rw [hmsz]; omega) ?_
  rw [show (0 + 1 : Nat) = 1 from rfl, mapC_empty he]
  refine r_pur _ (fun w' => run_eql_key _ _ hk.1 he.1 w') ?_
  by_cases hke : k = e
  · rw [if_pos hke] at hgo
    subst hgo
    refine r_true (by simp [hke]) ?_
    exact r_retR ⟨rfl, so, Lo, h.right, hO⟩
  rw [if_neg hke] at hgo
  refine r_false (by simp [hke]) ?_
  refine r_ldA h 0 rfl rfl (by simp [hk.1]) ?_
  refine r_callR (c_node (low := low) (high := high) (lo := lo) (hi := hi) h.pl2 hs hpb hv hk zero32_ok he (by omega) (fun h => hlo (At.right (A := [_, _]) (At.tail h)).right) (fun h => hhi (At.right (A := [_, _]) (At.tail h)).right)) ?_
  rintro v w3 hq
  rcases hq with ⟨hm, rfl, h⟩ | ⟨hm, h, ⟨hfit, hdok, rfl⟩ | ⟨hn, rfl⟩⟩
  · rw [if_neg hm] at hgo
    subst hgo
    refine ⟨(_, 6), rfl, ?_⟩
    refine r_new h fun b17 w4 h => ?_
    refine r_stA h 0 rfl rfl rfl rfl zeroNode_one fun w5 h => ?_
    have h : At w0 w5 ([(b17, zeroNode, ty_impl_MapNode)] ++ ([(bl, mapC p e (many : Int) loose k, ty_impl_mapper)] ++ ([(b9, (u8s k).toArray, ty_impl_Key)] ++ ([(bo, #[.slice so.a so.n so.c], ty_sl_impl_Entry)] ++ (Lo ++ rest))))) := h
    refine r_true rfl ?_
    exact r_retR ⟨rfl, so, Lo, h.right.dr1.pl1, hO⟩
  · rw [if_pos hm, if_pos hfit] at hgo
    generalize hdd : (blobAt B k).data = d at hgo hdok
    have hno : nodeOk d := by have := hfit.1.2; rw [hdd] at this; exact this
    have h65 := hno.1
    have hnl : (nodeCells d).length = 66 := nodeCells_len (by omega)
    have k0 : keyOk (part32 d 0) := part32_key (by omega) hdok
    have k1 : keyOk (part32 d 32) := part32_key (by omega) hdok
    have hml := hfit.2.1
    have hAok : WOk (many + 1) out (if Lt (nmOf d) = true then walkG B e loose Lt Rt En f (part32 d 0) lo (some (nmOf d)) (many + 1) out else ⟨out, many + 1, zero32, 0⟩) := by
      split
      · exact walkG_ok hB hv f _ _ _ _ _ k0 (by omega) (by omega) hon
      · exact ⟨Nat.le_refl _, by dsimp only; omega, Nat.le_refl _, hon, zero32_ok, fun _ => rfl, fun _ => by dsimp only; omega⟩
    refine ⟨((nodeCells d).toArray, 0), rfl, ?_⟩
    refine r_new h fun b17 w4 h => ?_
    refine r_stA h 0 rfl rfl (by simpa using hnl) rfl (by simpa using nodeCells_one d) fun w5 h => ?_
    refine r_false rfl ?_
    have h : At w0 w5 ([(b17, (nodeCells d).toArray, ty_impl_MapNode)] ++ ([(bl, mapC p e ((many + 1 : Nat) : Int) loose zero32, ty_impl_mapper)] ++ ([(b9, (u8s k).toArray, ty_impl_Key)] ++ ([(bo, #[.slice so.a so.n so.c], ty_sl_impl_Entry)] ++ (Lo ++ rest))))) := h
    refine r_ld h 0 rfl (by rw [add_lit, add_lit]) (nmOf d) (by simp [Sh.emb]) (nodeCells_name (by omega)) ?_
    refine r_new h fun b19 w6 h => ?_
    refine r_st h 0 (o := 0) rfl rfl (by simp [Value.cells]) rfl fun w7 h => ?_
    have h : At w0 w7 ([(b19, #[.string (nmOf d)], ty_string), (b17, (nodeCells d).toArray, ty_impl_MapNode)] ++ ([(bl, mapC p e ((many + 1 : Nat) : Int) loose zero32, ty_impl_mapper)] ++ ([(b9, (u8s k).toArray, ty_impl_Key)] ++ ([(bo, #[.slice so.a so.n so.c], ty_sl_impl_Entry)] ++ (Lo ++ rest))))) := h
    refine r_ldA h 1 rfl rfl (by simpa using hnl) ?_
    refine r_callV h iN (hN d hno) fun _ w8 h _ _ => ?_
    have h : At w0 w8 ([(bo, #[.slice so.a so.n so.c], ty_sl_impl_Entry)] ++ ([(bl, mapC p e ((many + 1 : Nat) : Int) loose zero32, ty_impl_mapper)] ++ (Lo ++ ([(b19, #[.string (nmOf d)], ty_string), (b17, (nodeCells d).toArray, ty_impl_MapNode), (b9, (u8s k).toArray, ty_impl_Key)] ++ rest)))) := h.pl2.pl1.pl4.pl3.pl4
    have hsub' : rest0.Sublist ([(b19, #[.string (nmOf d)], ty_string), (b17, (nodeCells d).toArray, ty_impl_MapNode), (b9, (u8s k).toArray, ty_impl_Key)] ++ rest) := hsub.trans (List.sublist_append_right _ _)
    have hnmP : ∀ {w'}, At w0 w' ([(b19, #[.string (nmOf d)], ty_string), (b17, (nodeCells d).toArray, ty_impl_MapNode), (b9, (u8s k).toArray, ty_impl_Key)] ++ rest) → PtrS w' (some ⟨b19, 0, none⟩) (some (nmOf d)) := fun {w'} h => (show ldOk w' 1 (⟨b19, 0, none⟩ : Addr) .str (nmOf d) from ldOk_own (sh := .str) h 0 rfl 0 rfl (by simp [Sh.emb]))
    have hlo' : ∀ {w'}, At w0 w' ([(b19, #[.string (nmOf d)], ty_string), (b17, (nodeCells d).toArray, ty_impl_MapNode), (b9, (u8s k).toArray, ty_impl_Key)] ++ rest) → PtrS w' low lo := fun h => hlo h.right
    have hhi' : ∀ {w'}, At w0 w' ([(b19, #[.string (nmOf d)], ty_string), (b17, (nodeCells d).toArray, ty_impl_MapNode), (b9, (u8s k).toArray, ty_impl_Key)] ++ rest) → PtrS w' high hi := fun h => hhi h.right
    generalize hLg : (if Lt (nmOf d) = true then walkG B e loose Lt Rt En f (part32 d 0) lo (some (nmOf d)) (many + 1) out else ⟨out, many + 1, zero32, 0⟩) = A at hgo hAok
    have a1 := hAok.many1
    have a2 := hAok.many2
    have a3 := hAok.len
    refine r_join (σ := Unit) (fun _ w' => A.code = 0 ∧ WS w0 w' ([(b19, #[.string (nmOf d)], ty_string), (b17, (nodeCells d).toArray, ty_impl_MapNode), (b9, (u8s k).toArray, ty_impl_Key)] ++ rest) bl bo p e A.many loose zero32 (A.out.map entOf)) (fun _ w9 hJ => ?_) ?_
    · obtain ⟨hc, so, Lo, h, hO⟩ := hJ
      have a4 := hAok.ok64 hc
      unfold afterL at hgo
      rw [if_pos hc] at hgo
      refine r_any fun _ => ?_
      refine r_ldP h.pl3 1 rfl (add_lit _ _ _) (by simp [hnl]) ?_
      rw [show (0 + 64 : Nat) = 64 from rfl, nodeCells_entry (by omega)]
      have h2 : At w0 w9 ((bo, #[.slice so.a so.n so.c], ty_sl_impl_Entry) :: (Lo ++ ([(bl, mapC p e (A.many : Int) loose zero32, ty_impl_mapper)] ++ ([(b19, #[.string (nmOf d)], ty_string), (b17, (nodeCells d).toArray, ty_impl_MapNode), (b9, (u8s k).toArray, ty_impl_Key)] ++ rest)))) := (h.pl1.pl2.pl2 : At w0 w9 ([(bo, #[.slice so.a so.n so.c], ty_sl_impl_Entry)] ++ _))
      refine r_callVR iE (hE d (hsub'.trans (List.sublist_append_right _ _)) h2 hO (by rw [List.length_map]; omega)) ?_
      rintro v w10 ⟨rfl, so2, Lo2, h, hO⟩
      refine ⟨(), rfl, ?_⟩
      have h : At w0 w10 ([(bo, #[.slice so2.a so2.n so2.c], ty_sl_impl_Entry)] ++ (Lo2 ++ ([(bl, mapC p e (A.many : Int) loose zero32, ty_impl_mapper)] ++ ([(b19, #[.string (nmOf d)], ty_string), (b17, (nodeCells d).toArray, ty_impl_MapNode), (b9, (u8s k).toArray, ty_impl_Key)] ++ rest)))) := h
      have h := h.pl2.pl1
      rw [← addE_map] at hO
      have al := addE_len En d A.out
      refine r_ld h.pl3 0 rfl rfl (nmOf d) (by simp [Sh.emb]) rfl ?_
      refine r_callV h iR (hR _ (h.take _ (hsub'.trans ((List.sublist_append_right _ _).trans ((List.sublist_append_right _ _).trans (List.sublist_append_right _ _)))))) fun r65 w11 h _ hr => ?_
      subst hr
      by_cases hrt : Rt (nmOf d) = true
      · rw [if_pos hrt] at hgo
        refine r_true hrt ?_
        refine r_ldP h.pl3 1 rfl (add_lit _ _ _) (by simp [hnl]) ?_
        rw [show (0 + 32 : Nat) = 32 from rfl, nodeCells_right (by omega)]
        refine r_callR (c_walk hs hpb hv hB he iL iR iN iE hL hR hN hE f (part32 d 32) (some (nmOf d)) hi (some ⟨b19, 0, none⟩) high A.many (addE En d A.out) hsub' k1 a4 (by omega) (by omega) (addE_nodes hno hAok.nodes) hnmP hhi' ⟨so2, Lo2, h, hO⟩) ?_
        dsimp only at hgo
        rw [hgo]
        rintro v w12 ⟨rfl, so3, Lo3, h, hO⟩
        refine ⟨_, rfl, ?_⟩
        exact r_retR ⟨rfl, so3, Lo3, h.dr3, hO⟩
      · rw [if_neg hrt] at hgo
        subst hgo
        refine r_false (by simpa using hrt) ?_
        exact r_retR ⟨rfl, so2, Lo2, h.dr3, hO⟩
    · refine r_ld h.pl3 0 rfl rfl (nmOf d) (by simp [Sh.emb]) rfl ?_
      refine r_callV h iL (hL _ (h.take _ (hsub'.trans ((List.sublist_append_right _ _).trans ((List.sublist_append_right _ _).trans (List.sublist_append_right _ _)))))) fun r46 w9 h _ hr => ?_
      subst hr
      by_cases hlt : Lt (nmOf d) = true
      · rw [if_pos hlt] at hLg
        refine r_true hlt ?_
        refine r_ldP h.pl3 1 rfl (add_lit _ _ _) (by simp [hnl]) ?_
        rw [show (0 + 0 : Nat) = 0 from rfl, nodeCells_left (by omega)]
        refine r_callR (c_walk hs hpb hv hB he iL iR iN iE hL hR hN hE f (part32 d 0) lo (some (nmOf d)) low (some ⟨b19, 0, none⟩) (many + 1) out hsub' k0 (by omega) (by omega) (by omega) hon hlo' hnmP ⟨so, Lo, h, hO⟩) ?_
        rw [hLg]
        rintro v w10 ⟨rfl, hW⟩
        refine ⟨_, rfl, ?_⟩
        by_cases hc : A.code = 0
        · refine r_ne (fun hne => absurd hc hne) (fun _ => ?_)
          exact ⟨(), rfl, hc, by rw [← hAok.zero hc]; exact hW⟩
        · refine r_ne (fun _ => ?_) (fun heq => absurd heq hc)
          unfold afterL at hgo
          rw [if_neg hc] at hgo
          subst hgo
          obtain ⟨so3, Lo3, h, hO⟩ := hW
          exact r_retR ⟨rfl, so3, Lo3, h.dr3, hO⟩
      · rw [if_neg hlt] at hLg
        subst hLg
        refine r_false (by simpa using hlt) ?_
        exact ⟨(), rfl, rfl, so, Lo, h, hO⟩
  · rw [if_pos hm, if_neg hn] at hgo
    subst hgo
    refine ⟨(_, 8), rfl, ?_⟩
    refine r_new h fun b17 w4 h => ?_
    refine r_stA h 0 rfl rfl rfl rfl zeroNode_one fun w5 h => ?_
    have h : At w0 w5 ([(b17, zeroNode, ty_impl_MapNode)] ++ ([(bl, mapC p e ((many + 1 : Nat) : Int) loose zero32, ty_impl_mapper)] ++ ([(b9, (u8s k).toArray, ty_impl_Key)] ++ ([(bo, #[.slice so.a so.n so.c], ty_sl_impl_Entry)] ++ (Lo ++ rest))))) := h
    refine r_true rfl ?_
    exact r_retR ⟨rfl, so, Lo, h.right.dr1.pl1, hO⟩)
end Go.Proofs.YtffedfdhhglmkaaGreat
