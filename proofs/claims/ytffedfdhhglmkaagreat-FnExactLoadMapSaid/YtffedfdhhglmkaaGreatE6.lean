/- LoadMap: the reference. -/
import Derived.Test.YtffedfdhhglmkaaGreatE5
namespace Go.Proofs.YtffedfdhhglmkaaGreat
open Go.Sx Go.RowKit

def ldH (p : Addr) (so : Sl) (seen : Int) : List Value := [.pointer (some p), .slice so.a so.n so.c, .int .i64 seen]
theorem ldH_len (p : Addr) (so : Sl) (seen : Int) : (ldH p so seen).length = 3 := rfl
theorem run_mkLd (p : Addr) (so : Sl) (w : World) : (Instr.build ty_spec_l05Load #[(0, (.pointer (some p))), (1, (.slice so.a so.n so.c))]).run Tryz.prog w = .ok (.agg (stC (ldH p so 0) zero32 0)) w := by kernel_rfl

theorem c_mtree_stop {w0 w : World} {rest : List Blk} {bl : Nat} {p : Addr} {low high : ByteArray} {bd : Bool} {so : Sl} {seen : Int} {want k : List Int} {code : Int} (hc : code ≠ 0) (hw : keyOk want) (h : At w0 w ((bl, stC (ldH p so seen) want code, ty_spec_l05Load) :: rest)) :
    Calls Tryz.prog n_ptr_spec_l05Load_tree [.pointer (some ⟨bl, 0, none⟩), .agg (u8s k).toArray, .string low, .string high, .bool bd].toArray w fun x w' => ∃ v, x = .returned v ∧ v = .tuple #[] ∧ At w0 w' ((bl, stC (ldH p so seen) want code, ty_spec_l05Load) :: rest) := ptr_spec_l05Load_tree_calls _ _ _ _ _ (by
  unfold ptr_spec_l05Load_tree
  refine r_new h fun b6 w1 h => ?_
  have h : At w0 w1 ([(b6, (u8s k).toArray, ty_impl_Key)] ++ ((bl, stC (ldH p so seen) want code, ty_spec_l05Load) :: rest)) := h
  refine r_joinI ?_
  refine r_draw h fun w2 h => ?_
  have lc : ∀ {w' : World}, At w0 w' ([(b6, (u8s k).toArray, ty_impl_Key)] ++ ((bl, stC (ldH p so seen) want code, ty_spec_l05Load) :: rest)) → ldOk w' 1 ((⟨bl, 0, none⟩ : Addr).add 35) (.int .i64) code := fun h => ldOk_own h 1 rfl 35 (stC_code hw rfl) (by simp [Sh.emb])
  refine r_ldN (sh := .int .i64) code (lc h) ?_
  refine r_all2 ?_ ?_
  · refine r_ne (fun _ => ?_) (fun he => absurd he hc)
    refine r_chk1 (lc h) ?_
    refine r_chk1 (lc h) ?_
    exact r_retR ⟨rfl, h.right⟩
  · refine r_ne (fun _ => ?_) (fun he => absurd he hc)
    refine r_chk1 (lc h) ?_
    refine r_chk1 (lc h) ?_
    exact r_retR ⟨rfl, h.right⟩)

def MTreeQ (w0 : World) (rest : List Blk) (bl : Nat) (p : Addr) (many : Nat) (out : List (List Int)) (R : WR) (w' : World) : Prop :=
  ∃ (so : Sl) (Lo : List Blk) (m' : Nat) (out' : List (List Int)), At w0 w' ([(bl, stC (ldH p so (m' : Int)) R.want R.code, ty_spec_l05Load)] ++ (Lo ++ rest)) ∧ OwnEntryS so (out'.map entOf) Lo ∧ (R.code = 0 → out' = R.out ∧ m' = R.many) ∧ out'.length + many ≤ out.length + m' ∧ m' ≤ 65 ∧ many ≤ m'
/-- How the reference tells the names between which a tree's names lie. -/
def LowR (lo : Option ByteArray) (low : ByteArray) : Prop := (lo = none ∧ low = ⟨#[]⟩) ∨ lo = some low
def HighR (hi : Option ByteArray) (bd : Bool) (high : ByteArray) : Prop := (hi = none ∧ bd = false) ∨ (hi = some high ∧ bd = true)
theorem loop_len (b : ByteArray) : ∀ (n i : Nat) (r : List UInt8), b.size - i = n → (ByteArray.toList.loop b i r).length = r.length + n
  | 0, i, r, h => by
    unfold ByteArray.toList.loop
    rw [if_neg (by omega), List.length_reverse]
    rfl
  | n + 1, i, r, h => by
    unfold ByteArray.toList.loop
    rw [if_pos (by omega), loop_len b n (i + 1) _ (by omega), List.length_cons]
    omega
theorem toList_len (b : ByteArray) : b.toList.length = b.size := by
  unfold ByteArray.toList
  rw [loop_len b b.size 0 [] (by omega)]
  simp
theorem toList_ne {d : List Int} (h : 1 ≤ (nodeName d).length) : (nmOf d).toList ≠ [] := by
  intro hh
  have h1 : (nmOf d).size = (nodeName d).length := strOf_size _
  have h2 := toList_len (nmOf d)
  rw [hh] at h2
  simp at h2
  omega
theorem lowR_bad {lo : Option ByteArray} {low : ByteArray} (h : LowR lo low) {d : List Int} (hd : nodeOk d) : (Op.bytesLess (nmOf d).toList low.toList || (nmOf d).toList == low.toList) = lowBad lo (nmOf d) := by
  rcases h with ⟨rfl, rfl⟩ | rfl
  · have hn : 1 ≤ (nodeName d).length := by
      unfold nodeName
      rw [List.length_take, List.length_drop]
      have := hd.2.1
      have := hd.2.2.1
      omega
    have hne := toList_ne hn
    have h0 : (⟨#[]⟩ : ByteArray).toList = [] := List.eq_nil_of_length_eq_zero (by rw [toList_len]; rfl)
    rw [h0]
    unfold lowBad
    cases hl : (nmOf d).toList with
    | nil => exact absurd hl hne
    | cons a r => simp [Op.bytesLess]
  · rfl

theorem c_mtree {w0 : World} {bl : Nat} {p : Addr} {B : List PB} {bs : List BR} (hs : SpecR w0 p (keysOf B) bs) (hpb : bs.map BR.pb = B) (hv : validS B) (hB : ∀ b ∈ B, bytesOk b.data) :
    ∀ (f : Nat) (k : List Int) (lo hi : Option ByteArray) (low high : ByteArray) (bd : Bool) (many : Nat) (out : List (List Int)) {w : World} {rest : List Blk} {so : Sl} {Lo : List Blk}, LowR lo low → HighR hi bd high → keyOk k → many ≤ 64 → 65 ≤ f + many → out.length ≤ many → (∀ d ∈ out, nodeOk d) →
      At w0 w ([(bl, stC (ldH p so (many : Int)) zero32 0, ty_spec_l05Load)] ++ (Lo ++ rest)) → OwnEntryS so (out.map entOf) Lo →
      Calls Tryz.prog n_ptr_spec_l05Load_tree [.pointer (some ⟨bl, 0, none⟩), .agg (u8s k).toArray, .string low, .string high, .bool bd].toArray w fun x w' => ∃ v, x = .returned v ∧ v = .tuple #[] ∧ MTreeQ w0 rest bl p many out (walkG B emptyKey false (fun _ => true) (fun _ => true) (fun _ => true) f k lo hi many out) w'
  | 0, _, _, _, _, _, _, _, _, _, _, _, _, _, _, _, _, _, _, _, _, _ => by omega
  | f + 1, k, lo, hi, low, high, bd, many, out, w, rest, so, Lo, hlow, hhigh, hk, hm64, hf, hol, hon, h, hO => ptr_spec_l05Load_tree_calls _ _ _ _ _ (by
  unfold ptr_spec_l05Load_tree
  have hB128 : B.length ≤ 128 := hv.1
  have hkl : (keysOf B).length = B.length := keysOf_len B
  have hasc : Asc (keysOf B) := hv.2.2
  have hbl : bs.length = B.length := by rw [← hpb]; simp
  obtain ⟨sk, sb, e1, e2, hK, hBs⟩ := hs.ex
  have hsbn := hBs.n
  generalize hgo : walkG B emptyKey false (fun _ => true) (fun _ => true) (fun _ => true) (f + 1) k lo hi many out = R
  rw [walkG_succ] at hgo
  refine r_new h fun b6 w1 h => ?_
  have h : At w0 w1 ([(b6, (u8s k).toArray, ty_impl_Key)] ++ ([(bl, stC (ldH p so (many : Int)) zero32 0, ty_spec_l05Load)] ++ (Lo ++ rest))) := h
  refine r_join (σ := Unit) (fun _ w' => k ≠ emptyKey ∧ At w0 w' ([(b6, (u8s k).toArray, ty_impl_Key)] ++ ([(bl, stC (ldH p so (many : Int)) zero32 0, ty_spec_l05Load)] ++ (Lo ++ rest)))) (fun _ w2 hJ => ?_) ?_
  · obtain ⟨hke, h⟩ := hJ
    rw [if_neg hke] at hgo
    refine r_any fun _ => ?_
    refine r_joinI ?_
    refine r_draw h fun w3 h => ?_
    have lp : ∀ {w' : World} {V X : List Blk} {so : Sl} {m : Int}, At w0 w' (V ++ ([(bl, stC (ldH p so m) zero32 0, ty_spec_l05Load)] ++ X)) → ldOk w' 1 ((⟨bl, 0, none⟩ : Addr).add 0) .ptr p := fun h => ldOk_own h.right 0 rfl 0 (by rw [stC_get (by rw [ldH_len]; omega)]; rfl) (by simp [Sh.emb])
    refine r_ldN (sh := .ptr) p (lp h) ?_
    refine r_ldA h 0 rfl rfl (by simp [hk.1]) ?_
    refine r_call h (c_spec_find (hs.at h) hasc hk (by omega)) fun r28 w4 h _ hr => ?_
    subst hr
    refine ⟨_, rfl, ?_⟩
    refine r_any fun _ => ?_
    have h : At w0 w4 ([(bl, stC (ldH p so (many : Int)) zero32 0, ty_spec_l05Load)] ++ ([(b6, (u8s k).toArray, ty_impl_Key)] ++ (Lo ++ rest))) := h.pl1
    by_cases hm : k ∈ keysOf B
    · rw [if_pos hm] at hgo ⊢
      have hpos := (posK_mem hasc).1 hm
      have hplt := (List.getElem?_eq_some_iff.1 hpos).1
      refine r_if ((posK (keysOf B) k : Int) < 0) rfl (fun hh => by omega) (fun _ => ?_)
      obtain ⟨bb, pb, hbb, hbm, hpb', hbat, _⟩ := hBs.bat (i := posK (keysOf B) k) (by omega)
      have hBb := pb_get hpb hbb
      have hbe : blobAt B k = bb.pb := by unfold blobAt; simp [List.getD, hBb]
      have hpt : bb.pb.tag = bb.tag := rfl
      have hpd : bb.pb.data = bb.data := rfl
      have hdb : bb.data.length ≤ 1024 := hv.2.1 bb.pb (List.mem_of_getElem? hBb)
      rw [hbe] at hgo
      refine r_ld h 0 rfl (add_lit _ _ _) (many : Int) (by simp [Sh.emb]) (by rw [Nat.zero_add, stC_get (by rw [ldH_len]; omega)]; rfl) ?_
      rw [w64 (n := (many : Int) + 1) (by omega) (by omega)]
      refine r_st h 0 (o := 2) rfl (by rw [add_lit, Nat.zero_add]) (by rw [stC_size zero32_ok, ldH_len]; omega) rfl fun w5 h => ?_
      rw [stC_set (by rw [ldH_len]; omega)] at h
      have h : At w0 w5 ([(bl, stC (ldH p so ((many + 1 : Nat) : Int)) zero32 0, ty_spec_l05Load)] ++ ([(b6, (u8s k).toArray, ty_impl_Key)] ++ (Lo ++ rest))) := h
      refine r_ldN (sh := .ptr) p (lp (V := []) h) ?_
      refine r_ldN sb (ldOk_below h.below (e2 1)) ?_
      refine r_ix pb hpb' (by omega) (by omega) ?_
      simp only [Int.toNat_natCast]
      refine r_ldN bb.d (ldOk_below h.below (hbat.d 1)) ?_
      refine r_call h (c_l04Read (hbat.ok.bytes.at h) (by omega)) fun r57 w6 h _ ⟨hr1, hr2, hr3, hr4⟩ => ?_
      refine r_new h fun b11 w7 h => ?_
      refine r_stA h 0 rfl rfl hr2 rfl hr3 fun w8 h => ?_
      have h : At w0 w8 ([(b11, r57.1, ty_impl_MapNode)] ++ ([(bl, stC (ldH p so ((many + 1 : Nat) : Int)) zero32 0, ty_spec_l05Load)] ++ ([(b6, (u8s k).toArray, ty_impl_Key)] ++ (Lo ++ rest)))) := h
      have h := h.pl1
      have bad_ : ∀ {w' : World}, At w0 w' ([(bl, stC (ldH p so ((many + 1 : Nat) : Int)) zero32 0, ty_spec_l05Load)] ++ ([(b11, r57.1, ty_impl_MapNode)] ++ ([(b6, (u8s k).toArray, ty_impl_Key)] ++ (Lo ++ rest)))) → ¬ nodeFits bb.pb many false lo hi →
          ((real Tryz.prog (fun v w' => v = .tuple #[] ∧ MTreeQ w0 rest bl p many out R w')).st 1 ((Addr.mk bl 0 none).add 35) (.int .i64 8) <| (real Tryz.prog (fun v w' => v = .tuple #[] ∧ MTreeQ w0 rest bl p many out R w')).ret (.tuple #[]) : World → Prop) w' := by
        intro w' h hnf
        rw [if_neg hnf] at hgo
        subst hgo
        refine r_st h 0 (o := 35) rfl (by rw [add_lit, Nat.zero_add]) (by rw [stC_size zero32_ok, ldH_len]; omega) rfl fun w9 h => ?_
        rw [stC_setCode zero32_ok (by rw [ldH_len])] at h
        have h : At w0 w9 ([(bl, stC (ldH p so ((many + 1 : Nat) : Int)) zero32 8, ty_spec_l05Load)] ++ ([(b11, r57.1, ty_impl_MapNode)] ++ ([(b6, (u8s k).toArray, ty_impl_Key)] ++ (Lo ++ rest)))) := h
        exact r_retR ⟨rfl, so, Lo, many + 1, out, h.dr1.dr1, hO, fun hh => absurd hh (by simp), by omega, by omega, by omega⟩
      refine r_join (σ := Unit) (fun _ w' => nodeFits bb.pb many false lo hi ∧ At w0 w' ([(bl, stC (ldH p so ((many + 1 : Nat) : Int)) zero32 0, ty_spec_l05Load)] ++ ([(b11, r57.1, ty_impl_MapNode)] ++ ([(b6, (u8s k).toArray, ty_impl_Key)] ++ (Lo ++ rest))))) (fun _ w9 hJ => ?_) ?_
      · obtain ⟨hfit, h⟩ := hJ
        rw [if_pos hfit, hpd] at hgo
        have hno : nodeOk bb.data := hfit.1.2
        have hdok := hbat.ok.bytes.ok
        have hre := hr4 hno
        rw [hre] at h
        generalize bb.data = d at hgo hno hdok h
        have h65 := hno.1
        have hnl : (nodeCells d).length = 66 := nodeCells_len (by omega)
        have k0 : keyOk (part32 d 0) := part32_key (by omega) hdok
        have k1 : keyOk (part32 d 32) := part32_key (by omega) hdok
        have hml := hfit.2.1
        refine r_any fun _ => ?_
        rw [if_pos (show true = true from rfl)] at hgo
        have hAok : WOk (many + 1) out (walkG B emptyKey false (fun _ => true) (fun _ => true) (fun _ => true) f (part32 d 0) lo (some (nmOf d)) (many + 1) out) := walkG_ok hB hv f _ _ _ _ _ k0 (by omega) (by omega) hon
        generalize hLg : walkG B emptyKey false (fun _ => true) (fun _ => true) (fun _ => true) f (part32 d 0) lo (some (nmOf d)) (many + 1) out = A at hgo hAok
        have a1 := hAok.many1
        have a2 := hAok.many2
        have a3 := hAok.len
        have hw := hAok.want
        have h : At w0 w9 ([(bl, stC (ldH p so ((many + 1 : Nat) : Int)) zero32 0, ty_spec_l05Load)] ++ (Lo ++ ([(b11, (nodeCells d).toArray, ty_impl_MapNode), (b6, (u8s k).toArray, ty_impl_Key)] ++ rest))) := h.pl3.pl1
        refine r_ldP h.pl2 0 rfl (add_lit _ _ _) (by simp [hnl]) ?_
        rw [show (0 + 0 : Nat) = 0 from rfl, nodeCells_left (by omega)]
        refine r_ld h.pl2 0 rfl (by rw [add_lit, add_lit]) (nmOf d) (by simp [Sh.emb]) (nodeCells_name (by omega)) ?_
        refine r_callR (c_mtree hs hpb hv hB f (part32 d 0) lo (some (nmOf d)) low (nmOf d) true (many + 1) out hlow (.inr ⟨rfl, rfl⟩) k0 (by omega) (by omega) (by omega) hon h hO) ?_
        rw [hLg]
        rintro v w10 ⟨rfl, so, Lo, m', out', h, hO, hex, hlen, hm65, hmm⟩
        refine ⟨(), rfl, ?_⟩
        have al := addE_len (fun _ => true) d out'
        have hn := hO.n
        rw [List.length_map] at hn
        refine r_joinI ?_
        have ls : ∀ {w' : World} {V X : List Blk}, At w0 w' (V ++ ([(bl, stC (ldH p so (m' : Int)) A.want A.code, ty_spec_l05Load)] ++ X)) → ldOk w' 1 ((⟨bl, 0, none⟩ : Addr).add 1) .slice so := fun h => ldOk_own h.right 0 rfl 1 (by rw [stC_get (by rw [ldH_len]; omega)]; rfl) (by simp [Sh.emb])
        refine r_draw h fun w11 h => ?_
        refine r_ldN so (ls (V := []) h) ?_
        refine r_ldP h.pl2 0 rfl (add_lit _ _ _) (by simp [hnl]) ?_
        rw [show (0 + 64 : Nat) = 64 from rfl, nodeCells_entry (by omega)]
        refine r_bs1 T_sl_Entry h rfl (by omega) fun y86 w12 hy hyn => ?_
        rw [show (Value.agg (entC (entOf d)).toArray).cells.toList = entC (entOf d) by simp [Value.cells]] at hy
        obtain ⟨Ly, hOy, h⟩ := hy.split
        refine r_chk1 (ls h) ?_
        refine r_append T_sl_Entry (OwnS.slo hO h.pl2) (hOy.sl h (List.sublist_append_left _ _)) (entC_one _) (by omega) (by omega) fun y87 w13 hS hn87 => ?_
        obtain ⟨Lo', hO', h⟩ := hS.split
        have h : At w0 w13 (Lo' ++ (Ly ++ ([(bl, stC (ldH p so (m' : Int)) A.want A.code, ty_spec_l05Load)] ++ ([(b11, (nodeCells d).toArray, ty_impl_MapNode), (b6, (u8s k).toArray, ty_impl_Key)] ++ rest)))) := h
        have h := h.dr1.pl1
        refine r_st h 0 (o := 1) rfl (by rw [add_lit, Nat.zero_add]) (by rw [stC_size hw, ldH_len]; omega) rfl fun w14 h => ?_
        rw [stC_set (by rw [ldH_len]; omega)] at h
        have h : At w0 w14 ([(bl, stC (ldH p y87 (m' : Int)) A.want A.code, ty_spec_l05Load)] ++ (Lo' ++ ([(b11, (nodeCells d).toArray, ty_impl_MapNode), (b6, (u8s k).toArray, ty_impl_Key)] ++ rest))) := h
        have hO2 : OwnEntryS y87 ((addE (fun _ => true) d out').map entOf) Lo' := by
          rw [addE_map, if_pos rfl]
          unfold OwnEntryS
          rw [List.flatMap_append]
          simpa using hO'
        refine ⟨(), rfl, ?_⟩
        refine r_any fun _ => ?_
        refine r_ldP h.pl2 0 rfl (add_lit _ _ _) (by simp [hnl]) ?_
        rw [show (0 + 32 : Nat) = 32 from rfl, nodeCells_right (by omega)]
        refine r_ld h.pl2 0 rfl (by rw [add_lit, add_lit]) (nmOf d) (by simp [Sh.emb]) (nodeCells_name (by omega)) ?_
        by_cases hc : A.code = 0
        · obtain ⟨rfl, rfl⟩ := hex hc
          have a4 := hAok.ok64 hc
          unfold afterL at hgo
          rw [if_pos hc, if_pos rfl] at hgo
          dsimp only at hgo
          have hz := hAok.zero hc
          have h : At w0 w14 ([(bl, stC (ldH p y87 (A.many : Int)) zero32 0, ty_spec_l05Load)] ++ (Lo' ++ ([(b11, (nodeCells d).toArray, ty_impl_MapNode), (b6, (u8s k).toArray, ty_impl_Key)] ++ rest))) := by
            rw [hz, hc] at h
            exact h
          refine r_callR (c_mtree hs hpb hv hB f (part32 d 32) (some (nmOf d)) hi (nmOf d) high bd A.many (addE (fun _ => true) d A.out) (.inr rfl) hhigh k1 a4 (by omega) (by omega) (addE_nodes hno hAok.nodes) h hO2) ?_
          rw [hgo]
          rintro v w15 ⟨rfl, so3, Lo3, m3, out3, h, hO, hex3, hlen3, hm3, hmm3⟩
          refine ⟨(), rfl, ?_⟩
          exact r_retR ⟨rfl, so3, Lo3, m3, out3, h.dr2, hO, hex3, by omega, hm3, by omega⟩
        · unfold afterL at hgo
          rw [if_neg hc] at hgo
          subst hgo
          refine r_callR (c_mtree_stop hc hw h) ?_
          rintro v w15 ⟨rfl, h⟩
          refine ⟨(), rfl, ?_⟩
          have h : At w0 w15 ([(bl, stC (ldH p y87 (m' : Int)) A.want A.code, ty_spec_l05Load)] ++ (Lo' ++ ([(b11, (nodeCells d).toArray, ty_impl_MapNode), (b6, (u8s k).toArray, ty_impl_Key)] ++ rest))) := h
          exact r_retR ⟨rfl, y87, Lo', m', addE (fun _ => true) d out', h.dr2, hO2, fun hh => absurd hh hc, by omega, hm65, by omega⟩
      · by_cases hno : nodeOk bb.data
        · have h65 := hno.1
          have hre := hr4 hno
          have hnm : r57.1[64]? = some (Value.string (nmOf bb.data)) := by rw [hre]; exact nodeCells_name (by omega)
          refine r_false (by rw [hr1, decide_eq_true hno]; rfl) ?_
          refine r_ldN (sh := .ptr) p (lp (V := []) h) ?_
          refine r_ldN sb (ldOk_below h.below (e2 1)) ?_
          refine r_ix pb hpb' (by omega) (by omega) ?_
          simp only [Int.toNat_natCast]
          refine r_ldN (sh := .int .u8) bb.tag (ldOk_below h.below (hbat.tag 1)) ?_
          refine r_ne (fun hne => ?_) (fun heq => ?_)
          · exact bad_ h (fun hh => hne hh.1.1)
          refine r_ld h 0 rfl (add_lit _ _ _) ((many + 1 : Nat) : Int) (by simp [Sh.emb]) (by rw [Nat.zero_add, stC_get (by rw [ldH_len]; omega)]; rfl) ?_
          refine r_if (((many + 1 : Nat) : Int) > 64) rfl (fun hgt => ?_) (fun hle => ?_)
          · exact bad_ h (fun hh => by have := hh.2.1; omega)
          refine r_ld h 1 rfl (by rw [add_lit, add_lit]) (nmOf bb.data) (by simp [Sh.emb]) hnm ?_
          refine r_pur _ (fun w' => run_leq_str _ _ _ _ _ w') ?_
          have hlb := lowR_bad hlow hno
          by_cases hb1 : lowBad lo (nmOf bb.data) = true
          · refine r_true (by rw [hlb]; exact hb1) ?_
            refine bad_ h (fun hh => ?_)
            rcases hh.2.2 with h3 | ⟨h3, _⟩
            · exact absurd h3 (by decide)
            · rw [hpd, hb1] at h3; cases h3
          have hb1' : lowBad lo (nmOf bb.data) = false := by simpa using hb1
          refine r_false (by rw [hlb]; exact hb1') ?_
          rcases hhigh with ⟨rfl, rfl⟩ | ⟨rfl, rfl⟩
          · refine r_false rfl ?_
            exact ⟨(), rfl, ⟨⟨heq, hno⟩, by omega, .inr ⟨hb1', rfl⟩⟩, h⟩
          · refine r_true rfl ?_
            refine r_ld h 1 rfl (by rw [add_lit, add_lit]) (nmOf bb.data) (by simp [Sh.emb]) hnm ?_
            refine r_pur _ (fun w' => run_geq_str _ _ _ _ _ w') ?_
            by_cases hb2 : highBad (some high) (nmOf bb.data) = true
            · refine r_true hb2 ?_
              refine bad_ h (fun hh => ?_)
              rcases hh.2.2 with h3 | ⟨_, h3⟩
              · exact absurd h3 (by decide)
              · rw [hpd, hb2] at h3; cases h3
            · have hb2' : highBad (some high) (nmOf bb.data) = false := by simpa using hb2
              refine r_false hb2' ?_
              exact ⟨(), rfl, ⟨⟨heq, hno⟩, by omega, .inr ⟨hb1', hb2'⟩⟩, h⟩
        · refine r_true (by rw [hr1, decide_eq_false hno]; rfl) ?_
          exact bad_ h (fun hh => hno hh.1.2)
    · rw [if_neg hm] at hgo ⊢
      subst hgo
      refine r_true rfl ?_
      refine r_ldA h 1 rfl rfl (by simp [hk.1]) ?_
      refine r_stP h 0 (o := 3) rfl (add_lit _ _ _) (by simp [hk.1]) (by rw [stC_size zero32_ok, ldH_len]; omega) (by simpa using u8s_one) fun w5 h => ?_
      rw [stC_setWant zero32_ok (by rw [ldH_len])] at h
      have h : At w0 w5 ([(bl, stC (ldH p so (many : Int)) k 0, ty_spec_l05Load)] ++ ([(b6, (u8s k).toArray, ty_impl_Key)] ++ (Lo ++ rest))) := h
      refine r_st h 0 (o := 35) rfl (by rw [add_lit, Nat.zero_add]) (by rw [stC_size hk, ldH_len]; omega) rfl fun w6 h => ?_
      rw [stC_setCode hk (by rw [ldH_len])] at h
      have h : At w0 w6 ([(bl, stC (ldH p so (many : Int)) k 6, ty_spec_l05Load)] ++ ([(b6, (u8s k).toArray, ty_impl_Key)] ++ (Lo ++ rest))) := h
      exact r_retR ⟨rfl, so, Lo, many, out, h.dr1, hO, fun hh => absurd hh (by simp), Nat.le_refl _, by omega, Nat.le_refl _⟩
  · refine r_draw h fun w2 h => ?_
    have lc : ∀ {w' : World}, At w0 w' ([(b6, (u8s k).toArray, ty_impl_Key)] ++ ([(bl, stC (ldH p so (many : Int)) zero32 0, ty_spec_l05Load)] ++ (Lo ++ rest))) → ldOk w' 1 ((⟨bl, 0, none⟩ : Addr).add 35) (.int .i64) (0 : Int) := fun h => ldOk_own h.right 0 rfl 35 (stC_code zero32_ok rfl) (by simp [Sh.emb])
    refine r_ldN (sh := .int .i64) (0 : Int) (lc h) ?_
    have ends : ∀ {w' : World}, At w0 w' ([(b6, (u8s k).toArray, ty_impl_Key)] ++ ([(bl, stC (ldH p so (many : Int)) zero32 0, ty_spec_l05Load)] ++ (Lo ++ rest))) → k = emptyKey → MTreeQ w0 rest bl p many out R w' := fun h hke => by
      rw [if_pos hke] at hgo
      subst hgo
      exact ⟨so, Lo, many, out, h.right, hO, fun _ => ⟨rfl, rfl⟩, Nat.le_refl _, by omega, Nat.le_refl _⟩
    refine r_all2 ?_ ?_
    · refine r_false rfl ?_
      refine r_ldA h 0 rfl rfl (by simp [hk.1]) ?_
      refine r_chk1 (lc h) ?_
      refine r_call h (c_l04Empty _) fun r14 w3 h _ hr => ?_
      subst hr
      refine r_chk1 (lc h) ?_
      refine r_pur _ (fun w' => run_eql_key _ _ hk.1 emptyKey_ok.1 w') ?_
      by_cases hke : k = emptyKey
      · refine r_true (by simp [hke]) ?_
        exact r_retR ⟨rfl, ends h hke⟩
      · refine r_false (by simp [hke]) ?_
        exact ⟨(), rfl, hke, h⟩
    · refine r_false rfl ?_
      refine r_call h (c_l04Empty _) fun r14 w3 h _ hr => ?_
      subst hr
      refine r_chk1 (lc h) ?_
      refine r_ldA h 0 rfl rfl (by simp [hk.1]) ?_
      refine r_chk1 (lc h) ?_
      refine r_pur _ (fun w' => run_eql_key _ _ hk.1 emptyKey_ok.1 w') ?_
      by_cases hke : k = emptyKey
      · refine r_true (by simp [hke]) ?_
        exact r_retR ⟨rfl, ends h hke⟩
      · refine r_false (by simp [hke]) ?_
        exact ⟨(), rfl, hke, h⟩)

theorem c_l05LoadMap {w : World} {p : Addr} {B : List PB} {bs : List BR} {k : List Int} (hs : SpecR w p (keysOf B) bs) (hpb : bs.map BR.pb = B) (hv : validS B) (hB : ∀ b ∈ B, bytesOk b.data) (hk : keyOk k) :
    Ret Tryz.prog n_spec_l05LoadMap [.pointer (some p), .agg (u8s k).toArray] w [.slice, .agg, .int .i64] (fun x w' => ∃ L, At w w' L ∧ OwnEntryS x.1 (if (loadM B k).code = 0 then ((loadM B k).out.map entOf, zero32, (0 : Int)) else ([], (loadM B k).want, (loadM B k).code)).1 L ∧ RdKey w x.2.1 (if (loadM B k).code = 0 then ((loadM B k).out.map entOf, zero32, (0 : Int)) else ([], (loadM B k).want, (loadM B k).code)).2.1 ∧ x.2.2 = (if (loadM B k).code = 0 then ((loadM B k).out.map entOf, zero32, (0 : Int)) else ([], (loadM B k).want, (loadM B k).code)).2.2) := spec_l05LoadMap_calls _ _ (by
  unfold spec_l05LoadMap
  have hok := loadM_ok hB hv hk
  refine r_new (At.refl w) fun b3 w1 h => ?_
  refine r_new h fun b5 w2 h => ?_
  refine r_bs0 T_sl_Entry h fun y9 w3 hy hyn => ?_
  obtain ⟨Lo, hO, h⟩ := hy.split
  refine r_pur (sh := .agg) _ (run_mkLd p y9) ?_
  refine r_new h fun b11 w4 h => ?_
  have h : At w w4 ([(b11, stC (ldH p y9 ((0 : Nat) : Int)) zero32 0, ty_spec_l05Load)] ++ (Lo ++ [(b5, Array.replicate 32 (.int .u8 0), ty_impl_Key), (b3, (u8s k).toArray, ty_impl_Key)])) := h
  refine r_ldA h.right.right 1 rfl rfl (by simp [hk.1]) ?_
  refine r_callR (c_mtree (out := []) (lo := none) (hi := none) (low := ⟨#[]⟩) (high := ⟨#[]⟩) (bd := false) hs hpb hv hB 65 k 0 (.inl ⟨rfl, rfl⟩) (.inl ⟨rfl, rfl⟩) hk (by omega) (by omega) (by simp) (by simp) h hO) ?_
  rw [show walkG B emptyKey false (fun _ => true) (fun _ => true) (fun _ => true) 65 k none none 0 [] = loadM B k from rfl]
  generalize loadM B k = R at hok
  rintro v w5 ⟨rfl, so, Lo', m', out', h, hO5, hex, _, _, _⟩
  refine ⟨(), rfl, ?_⟩
  have hw := hok.want
  have lc : ∀ {w' : World} {V X : List Blk}, At w w' (V ++ ([(b11, stC (ldH p so (m' : Int)) R.want R.code, ty_spec_l05Load)] ++ X)) → ldOk w' 1 ((⟨b11, 0, none⟩ : Addr).add 35) (.int .i64) R.code := fun h => ldOk_own h.right 0 rfl 35 (stC_code hw rfl) (by simp [Sh.emb])
  have h : At w w5 ([(b11, stC (ldH p so (m' : Int)) R.want R.code, ty_spec_l05Load)] ++ (Lo' ++ ([(b5, Array.replicate 32 (.int .u8 0), ty_impl_Key), (b3, (u8s k).toArray, ty_impl_Key)] ++ []))) := h
  refine r_ldN (sh := .int .i64) _ (lc (V := []) h) ?_
  by_cases hc0 : R.code = 0
  · obtain ⟨rfl, rfl⟩ := hex hc0
    refine r_ne (fun hne => absurd hc0 hne) (fun _ => ?_)
    refine r_ld h 0 rfl (add_lit _ _ _) so (by simp [Sh.emb]) (by rw [Nat.zero_add, stC_get (by rw [ldH_len]; omega)]; rfl) ?_
    have h := h.pl2
    refine r_stA h 0 rfl rfl (by simp) (by simp) (by simp [oneC]) fun w8 h => ?_
    refine r_ldA h 0 rfl rfl (by simp) ?_
    refine r_ret h.nil (so, _, (0 : Int)) rfl ?_
    rw [if_pos hc0]
    have h : At w w8 ([(b5, Array.replicate 32 (.int .u8 0), ty_impl_Key), (b3, (u8s k).toArray, ty_impl_Key)] ++ ([(b11, stC (ldH p so (R.many : Int)) R.want R.code, ty_spec_l05Load)] ++ (Lo' ++ []))) := h
    exact ⟨Lo', h.right.right.left, hO5, ⟨rfl, zero32_ok⟩, rfl⟩
  · refine r_ne (fun _ => ?_) (fun heq => absurd heq hc0)
    refine r_draw h fun w8 h => ?_
    have lw : ∀ {w' : World} {V X : List Blk}, At w w' (V ++ ([(b11, stC (ldH p so (m' : Int)) R.want R.code, ty_spec_l05Load)] ++ X)) → ldOk w' 32 ((⟨b11, 0, none⟩ : Addr).add 3) .agg (u8s R.want).toArray := fun h => ldOk_part h.right 0 rfl (by rw [stC_size hw, ldH_len]; omega) (stC_want hw (by rw [ldH_len]))
    refine r_ldN (u8s R.want).toArray (lw (V := []) h) ?_
    refine r_ldN (sh := .int .i64) _ (lc (V := []) h) ?_
    refine r_bs0 T_sl_Entry h fun y36 w9 hy hyn => ?_
    obtain ⟨Ly, hOy, h⟩ := hy.split
    refine r_chk2 (lc h) (lw h) ?_
    have h := h.pl3
    refine r_stA h 0 rfl rfl (by simp [hw.1]) (by simp) (by simpa using u8s_one) fun w10 h => ?_
    have h : At w w10 ([(b5, (u8s R.want).toArray, ty_impl_Key), (b3, (u8s k).toArray, ty_impl_Key)] ++ (Ly ++ ([(b11, stC (ldH p so (m' : Int)) R.want R.code, ty_spec_l05Load)] ++ (Lo' ++ [])))) := h
    refine r_chk1 (lc h.right) ?_
    refine r_ldA h 0 rfl rfl (by simp [hw.1]) ?_
    refine r_ret h.nil (y36, _, _) rfl ?_
    rw [if_neg hc0]
    exact ⟨Ly, h.right.left, hOy, ⟨rfl, hw⟩, rfl⟩)

theorem c_spec_LoadMap {w : World} {r a : Array Value} {B : List PB} {k : List Int} (hr : RdStore w r B) (ha : RdKey w a k) (hz : sizeBs B ≤ 1073741824) :
    Ret Tryz.prog n_spec_LoadMap [.agg r, .agg a] w [.slice, .agg, .int .i64] (fun x w' => ∃ L, At w w' L ∧ OwnEntryS x.1 (loadMAns B k).1 L ∧ RdKey w x.2.1 (loadMAns B k).2.1 ∧ x.2.2 = (loadMAns B k).2.2) := spec_LoadMap_calls _ _ (by
  unfold spec_LoadMap
  have hB := rdStore_bytes hr
  obtain ⟨s, bs, rfl, hpb, hs⟩ := hr
  obtain ⟨rfl, hk⟩ := ha
  have hl := le_sizeBs B
  have hbl : bs.length = B.length := by rw [← hpb]; simp
  refine r_new (At.refl w) fun b2 w1 h => ?_
  refine r_new h fun b3 w2 h => ?_
  refine r_new h fun b5 w3 h => ?_
  have h : At w w3 [(b5, Array.replicate 32 (.int .u8 0), ty_impl_Key), (b3, (u8s k).toArray, ty_impl_Key), (b2, #[.slice s.a s.n s.c], ty_impl_Store)] := h
  refine r_call h (c_l05Open (p := ⟨b2, 0, none⟩) (fun n => ldOk_own h 2 rfl 0 rfl (by simp [Sh.emb])) (hs.at h.nil)) fun r10 w4 h4 _ ⟨hr2, b, hr1, hr⟩ => ?_
  rw [hpb] at hr hr2
  by_cases hv : validS B
  · obtain ⟨L, hL, hO⟩ := hr hv
    rw [hr2, decide_eq_true hv, hr1]
    refine r_false rfl ?_
    have hc : loadMAns B k = (if (loadM B k).code = 0 then ((loadM B k).out.map entOf, zero32, 0) else ([], (loadM B k).want, (loadM B k).code)) := by unfold loadMAns; rw [if_pos hv]
    rw [hc]
    have h : At w w4 ([(b5, Array.replicate 32 (.int .u8 0), ty_impl_Key), (b3, (u8s k).toArray, ty_impl_Key), (b2, #[.slice s.a s.n s.c], ty_impl_Store)] ++ (L ++ [])) := by rw [List.append_nil]; exact (h.join hL).swap
    have hSh := hO.rd h.pl1 (keysOf_ok _) (fun b hb => (hs.at h.nil).ok b hb)
    refine r_ldA h 1 rfl rfl (by simp [hk.1]) ?_
    refine r_call h (c_l05LoadMap hSh hpb hv hB hk) fun r19 w5 h5 _ ⟨L5, hL5, hO5, hk5, hc5⟩ => ?_
    generalize (if (loadM B k).code = 0 then ((loadM B k).out.map entOf, zero32, (0 : Int)) else ([], (loadM B k).want, (loadM B k).code)) = G at hO5 hk5 hc5 ⊢
    obtain ⟨q1, q2⟩ := hk5
    have h : At w w5 ([(b5, Array.replicate 32 (.int .u8 0), ty_impl_Key), (b3, (u8s k).toArray, ty_impl_Key), (b2, #[.slice s.a s.n s.c], ty_impl_Store)] ++ (L5 ++ (L ++ []))) := (h.join hL5).rot
    refine r_stA h 0 rfl rfl (by rw [q1]; simp [q2.1]) (by simp) (by rw [q1]; simpa using u8s_one) fun w6 h => ?_
    refine r_ldA h 0 rfl rfl (by rw [q1]; simp [q2.1]) ?_
    have h : At w w6 ([(b5, r19.2.1, ty_impl_Key), (b3, (u8s k).toArray, ty_impl_Key), (b2, #[.slice s.a s.n s.c], ty_impl_Store)] ++ (L5 ++ (L ++ []))) := h
    exact r_ret h.nil (r19.1, r19.2.1, r19.2.2) rfl ⟨L5, h.right.left, hO5, ⟨q1, q2⟩, hc5⟩
  · rw [hr2, decide_eq_false hv]
    refine r_true rfl ?_
    refine r_bs0 T_sl_Entry h4 fun y20 w5 hy hyn => ?_
    obtain ⟨Ly, hOy, h⟩ := hy.split
    have h := h.swap
    refine r_stA h 0 rfl rfl (by simp) (by simp) (by simp [oneC]) fun w6 h => ?_
    refine r_ldA h 0 rfl rfl (by simp) ?_
    refine r_ret h.nil (y20, _, (1 : Int)) rfl ?_
    unfold loadMAns
    rw [if_neg hv]
    exact ⟨Ly, At.right (A := [_, _, _]) h, hOy, ⟨rfl, zero32_ok⟩, rfl⟩)
end Go.Proofs.YtffedfdhhglmkaaGreat
