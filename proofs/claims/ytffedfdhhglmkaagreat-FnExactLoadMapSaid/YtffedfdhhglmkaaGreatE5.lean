/- RangePartial: the reference. -/
import Derived.Test.YtffedfdhhglmkaaGreatE4
namespace Go.Proofs.YtffedfdhhglmkaaGreat
open Go.Sx Go.RowKit

/-! ### The state of a reference's walk: some cells, a key that is missing, and a code -/
def stC (H : List Value) (want : List Int) (code : Int) : Array Value := (H ++ (u8s want ++ [Value.int .i64 code])).toArray
theorem stC_size {H : List Value} {want : List Int} {code : Int} (hw : keyOk want) : (stC H want code).size = H.length + 33 := by simp [stC, hw.1]
theorem stC_get {H : List Value} {want : List Int} {code : Int} {i : Nat} (hi : i < H.length) : (stC H want code)[i]? = H[i]? := by
  unfold stC
  rw [List.getElem?_toArray, List.getElem?_append_left hi]
theorem stC_code {H : List Value} {want : List Int} {code : Int} {n : Nat} (hw : keyOk want) (hn : n = H.length + 32) : (stC H want code)[n]? = some (.int .i64 code) := by
  have h1 : (u8s want).length = 32 := by rw [u8s_len]; exact hw.1
  unfold stC
  rw [List.getElem?_toArray, List.getElem?_append_right (by omega), List.getElem?_append_right (by omega), h1, hn, show H.length + 32 - H.length - 32 = 0 by omega]
  rfl
theorem stC_setCode {H : List Value} {want : List Int} {code : Int} {n : Nat} (hw : keyOk want) (hn : n = H.length + 32) (c : Int) : (stC H want code).setIfInBounds n (.int .i64 c) = stC H want c := by
  have h1 : (u8s want).length = 32 := by rw [u8s_len]; exact hw.1
  apply Array.ext'
  rw [Array.toList_setIfInBounds]
  show (H ++ (u8s want ++ _)).set n _ = _
  rw [List.set_append_right _ _ (by omega), List.set_append_right _ _ (by omega), h1, hn, show H.length + 32 - H.length - 32 = 0 by omega]
  rfl
theorem stC_set {H : List Value} {want : List Int} {code : Int} {i : Nat} (hi : i < H.length) (v : Value) : (stC H want code).setIfInBounds i v = stC (H.set i v) want code := by
  apply Array.ext'
  rw [Array.toList_setIfInBounds]
  show (H ++ _).set i _ = _
  rw [List.set_append_left _ _ hi]
  rfl
theorem stC_want {H : List Value} {want : List Int} {code : Int} {n : Nat} (hw : keyOk want) (hn : n = H.length) : (stC H want code).extract n (n + 32) = (u8s want).toArray := by
  have h1 : (u8s want).length = 32 := by rw [u8s_len]; exact hw.1
  apply Array.ext'
  unfold stC
  rw [List.extract_toArray]
  show ((H ++ (u8s want ++ _)).drop n).take (n + 32 - n) = _
  rw [List.drop_left' hn.symm, List.take_append_of_le_length (by omega), List.take_of_length_le (by omega)]
theorem stC_setWant {H : List Value} {want k : List Int} {code : Int} {n : Nat} (hw : keyOk want) (hn : n = H.length) : ((stC H want code).toList.take n ++ (u8s k).toArray.toList ++ (stC H want code).toList.drop (n + 32)).toArray = stC H k code := by
  have h1 : (u8s want).length = 32 := by rw [u8s_len]; exact hw.1
  have hd : (stC H want code).toList = (H ++ u8s want) ++ [Value.int .i64 code] := by simp [stC]
  have ht : ((H ++ u8s want) ++ [Value.int .i64 code]).take n = H := by rw [List.append_assoc, List.take_left' hn.symm]
  rw [hd, ht, List.drop_left' (by rw [List.length_append]; omega)]
  simp [stC]
theorem ldOk_part {w0 w : World} {ls : List Blk} (hA : At w0 w ls) (i : Nat) {b n o : Nat} {cs : Array Value} {t : TypeId} {x : Array Value} (hl : ls[i]? = some (b, cs, t)) (hn : o + n ≤ cs.size) (hx : cs.extract o (o + n) = x) : ldOk w n ((⟨b, 0, none⟩ : Addr).add o) .agg x := by
  subst hx
  refine ⟨by simp; omega, fun j v hv => ?_⟩
  rw [add_lit, Nat.zero_add]
  have : (⟨b, o, none⟩ : Addr).add j = ⟨b, o + j, none⟩ := by unfold Addr.add; split <;> simp_all
  rw [this]
  rw [Array.getElem?_extract] at hv
  split at hv
  · simp [World.cell?, hA.get hl, hv]
  · cases hv

/-! ### The walk of RangePartial -/
def lwH (p : Addr) (fr to_ : ByteArray) (so : Sl) (seen : Int) : List Value := [.pointer (some p), .string fr, .string to_, .slice so.a so.n so.c, .int .i64 seen]
theorem lwH_len (p : Addr) (fr to_ : ByteArray) (so : Sl) (seen : Int) : (lwH p fr to_ so seen).length = 5 := rfl
theorem run_mkLw (p : Addr) (fr to_ : ByteArray) (so : Sl) (w : World) : (Instr.build ty_spec_l08Walk #[(0, (.pointer (some p))), (1, (.string fr)), (2, (.string to_)), (3, (.slice so.a so.n so.c))]).run Tryz.prog w = .ok (.agg (stC (lwH p fr to_ so 0) zero32 0)) w := by kernel_rfl

theorem c_ltree_stop {w0 w : World} {rest : List Blk} {bl : Nat} {p : Addr} {fr to_ : ByteArray} {so : Sl} {seen : Int} {want k : List Int} {code : Int} (hc : code ≠ 0) (hw : keyOk want) (h : At w0 w ((bl, stC (lwH p fr to_ so seen) want code, ty_spec_l08Walk) :: rest)) :
    Calls Tryz.prog n_ptr_spec_l08Walk_tree [.pointer (some ⟨bl, 0, none⟩), .agg (u8s k).toArray].toArray w fun x w' => ∃ v, x = .returned v ∧ v = .tuple #[] ∧ At w0 w' ((bl, stC (lwH p fr to_ so seen) want code, ty_spec_l08Walk) :: rest) := ptr_spec_l08Walk_tree_calls _ _ (by
  unfold ptr_spec_l08Walk_tree
  refine r_new h fun b3 w1 h => ?_
  have h : At w0 w1 ([(b3, (u8s k).toArray, ty_impl_Key)] ++ ((bl, stC (lwH p fr to_ so seen) want code, ty_spec_l08Walk) :: rest)) := h
  refine r_joinI ?_
  refine r_draw h fun w2 h => ?_
  have lc : ∀ {w' : World}, At w0 w' ([(b3, (u8s k).toArray, ty_impl_Key)] ++ ((bl, stC (lwH p fr to_ so seen) want code, ty_spec_l08Walk) :: rest)) → ldOk w' 1 ((⟨bl, 0, none⟩ : Addr).add 37) (.int .i64) code := fun h => ldOk_own h 1 rfl 37 (stC_code hw rfl) (by simp [Sh.emb])
  refine r_ldN (sh := .int .i64) code (lc h) ?_
  refine r_all2 ?_ ?_
  · refine r_ne (fun _ => ?_) (fun he => absurd he hc)
    refine r_chk1 (lc h) ?_
    refine r_chk1 (lc h) ?_
    exact r_retR ⟨rfl, h.right⟩
  · refine r_ne (fun _ => ?_) (fun he => absurd he hc)
    refine r_chk1 (lc h) ?_
    refine r_chk1 (lc h) ?_
    exact r_retR ⟨rfl, h.right⟩)

theorem nodeFits_loose {b : PB} {many : Nat} {lo hi : Option ByteArray} : nodeFits b many true lo hi ↔ nodeGood b ∧ many < 64 := ⟨fun h => ⟨h.1, h.2.1⟩, fun h => ⟨h.1, h.2, .inl rfl⟩⟩

/-- What the reference's walk yields. -/
def TreeQ (w0 : World) (rest : List Blk) (bl : Nat) (p : Addr) (fr to_ : ByteArray) (many : Nat) (out : List (List Int)) (R : WR) (w' : World) : Prop :=
  ∃ (so : Sl) (Lo : List Blk) (m' : Nat) (out' : List (List Int)), At w0 w' ([(bl, stC (lwH p fr to_ so (m' : Int)) R.want (told6 R.code), ty_spec_l08Walk)] ++ (Lo ++ rest)) ∧ OwnEntryS so (out'.map entOf) Lo ∧ (R.code = 0 → out' = R.out ∧ m' = R.many) ∧ out'.length + many ≤ out.length + m' ∧ m' ≤ 65 ∧ many ≤ m'
theorem told6_zero {c : Int} : told6 c = 0 ↔ c = 0 := by unfold told6; split <;> omega

theorem c_ltree {w0 : World} {bl : Nat} {p : Addr} {B : List PB} {bs : List BR} {fr to_ : ByteArray} (hs : SpecR w0 p (keysOf B) bs) (hpb : bs.map BR.pb = B) (hv : validS B) (hB : ∀ b ∈ B, bytesOk b.data) :
    ∀ (f : Nat) (k : List Int) (lo hi : Option ByteArray) (many : Nat) (out : List (List Int)) {w : World} {rest : List Blk} {so : Sl} {Lo : List Blk}, keyOk k → many ≤ 64 → 65 ≤ f + many → out.length ≤ many → (∀ d ∈ out, nodeOk d) →
      At w0 w ([(bl, stC (lwH p fr to_ so (many : Int)) zero32 0, ty_spec_l08Walk)] ++ (Lo ++ rest)) → OwnEntryS so (out.map entOf) Lo →
      Calls Tryz.prog n_ptr_spec_l08Walk_tree [.pointer (some ⟨bl, 0, none⟩), .agg (u8s k).toArray].toArray w fun x w' => ∃ v, x = .returned v ∧ v = .tuple #[] ∧ TreeQ w0 rest bl p fr to_ many out (walkG B emptyKey true (gtN fr) (ltT to_) (inN fr to_) f k lo hi many out) w'
  | 0, _, _, _, _, _, _, _, _, _, _, _, _, _, _, _, _ => by omega
  | f + 1, k, lo, hi, many, out, w, rest, so, Lo, hk, hm64, hf, hol, hon, h, hO => ptr_spec_l08Walk_tree_calls _ _ (by
  unfold ptr_spec_l08Walk_tree
  generalize hgo : walkG B emptyKey true (gtN fr) (ltT to_) (inN fr to_) (f + 1) k lo hi many out = R
  rw [walkG_succ] at hgo
  refine r_new h fun b3 w1 h => ?_
  have h : At w0 w1 ([(b3, (u8s k).toArray, ty_impl_Key)] ++ ([(bl, stC (lwH p fr to_ so (many : Int)) zero32 0, ty_spec_l08Walk)] ++ (Lo ++ rest))) := h
  refine r_join (σ := Unit) (fun _ w' => k ≠ emptyKey ∧ At w0 w' ([(b3, (u8s k).toArray, ty_impl_Key)] ++ ([(bl, stC (lwH p fr to_ so (many : Int)) zero32 0, ty_spec_l08Walk)] ++ (Lo ++ rest)))) (fun _ w2 hJ => ?_) ?_
  · obtain ⟨hke, h⟩ := hJ
    rw [if_neg hke] at hgo
    refine r_any fun _ => ?_
    refine r_join (σ := Addr × Int) (fun s w' => ∃ (b4 : Nat) (r : Array Value), s.1 = ⟨b4, 0, none⟩ ∧ At w0 w' ([(b4, r, ty_impl_MapNode), (b3, (u8s k).toArray, ty_impl_Key)] ++ ([(bl, stC (lwH p fr to_ so (many : Int)) zero32 0, ty_spec_l08Walk)] ++ (Lo ++ rest))) ∧ ((k ∉ keysOf B ∧ s.2 = 4) ∨ (k ∈ keysOf B ∧ ¬ nodeGood (blobAt B k) ∧ s.2 = 8) ∨ (k ∈ keysOf B ∧ nodeGood (blobAt B k) ∧ bytesOk (blobAt B k).data ∧ r = (nodeCells (blobAt B k).data).toArray ∧ s.2 = 0))) (fun s w3 hJ => ?_) ?_
    · obtain ⟨b4, r, hs1, h, hr⟩ := hJ
      obtain ⟨sa, sc⟩ := s
      dsimp only at hs1 hr
      subst hs1
      refine r_any fun _ => ?_
      dsimp only
      refine r_join (σ := Int) (fun s w' => ∃ m' : Nat, At w0 w' ([(b4, r, ty_impl_MapNode), (b3, (u8s k).toArray, ty_impl_Key)] ++ ([(bl, stC (lwH p fr to_ so (m' : Int)) zero32 0, ty_spec_l08Walk)] ++ (Lo ++ rest))) ∧ m' ≤ 65 ∧ many ≤ m' ∧ ((k ∉ keysOf B ∧ s = 4) ∨ (k ∈ keysOf B ∧ ¬ nodeFits (blobAt B k) many true lo hi ∧ s = 8) ∨ (k ∈ keysOf B ∧ nodeFits (blobAt B k) many true lo hi ∧ bytesOk (blobAt B k).data ∧ r = (nodeCells (blobAt B k).data).toArray ∧ s = 0 ∧ m' = many + 1))) (fun s w4 hJ => ?_) ?_
      · obtain ⟨m', h, hm65, hmm, hr⟩ := hJ
        refine r_any fun _ => ?_
        have h : At w0 w4 ([(bl, stC (lwH p fr to_ so (m' : Int)) zero32 0, ty_spec_l08Walk)] ++ ([(b4, r, ty_impl_MapNode), (b3, (u8s k).toArray, ty_impl_Key)] ++ (Lo ++ rest))) := h.pl1
        rcases hr with ⟨hm, rfl⟩ | ⟨hm, hnf, rfl⟩ | ⟨hm, hfit, hdok, hre, rfl, hm'⟩
        · rw [if_neg hm] at hgo
          subst hgo
          refine r_true rfl ?_
          refine r_st h 0 (o := 37) rfl (by rw [add_lit, Nat.zero_add]) (by rw [stC_size zero32_ok, lwH_len]; omega) rfl fun w5 h => ?_
          rw [stC_setCode zero32_ok (by rw [lwH_len])] at h
          have h : At w0 w5 ([(bl, stC (lwH p fr to_ so (m' : Int)) zero32 4, ty_spec_l08Walk)] ++ ([(b4, r, ty_impl_MapNode), (b3, (u8s k).toArray, ty_impl_Key)] ++ (Lo ++ rest))) := h
          refine r_true rfl ?_
          refine r_ldA h 2 rfl rfl (by simp [hk.1]) ?_
          refine r_stP h 0 (o := 5) rfl (add_lit _ _ _) (by simp [hk.1]) (by rw [stC_size zero32_ok, lwH_len]; omega) (by simpa using u8s_one) fun w6 h => ?_
          rw [stC_setWant zero32_ok (by rw [lwH_len])] at h
          have h : At w0 w6 ([(bl, stC (lwH p fr to_ so (m' : Int)) k 4, ty_spec_l08Walk)] ++ ([(b4, r, ty_impl_MapNode), (b3, (u8s k).toArray, ty_impl_Key)] ++ (Lo ++ rest))) := h
          exact r_retR ⟨rfl, so, Lo, m', out, h.dr1, hO, fun hh => absurd hh (by simp), by omega, hm65, hmm⟩
        · rw [if_pos hm, if_neg hnf] at hgo
          subst hgo
          refine r_true rfl ?_
          refine r_st h 0 (o := 37) rfl (by rw [add_lit, Nat.zero_add]) (by rw [stC_size zero32_ok, lwH_len]; omega) rfl fun w5 h => ?_
          rw [stC_setCode zero32_ok (by rw [lwH_len])] at h
          have h : At w0 w5 ([(bl, stC (lwH p fr to_ so (m' : Int)) zero32 8, ty_spec_l08Walk)] ++ ([(b4, r, ty_impl_MapNode), (b3, (u8s k).toArray, ty_impl_Key)] ++ (Lo ++ rest))) := h
          refine r_false rfl ?_
          exact r_retR ⟨rfl, so, Lo, m', out, h.dr1, hO, fun hh => absurd hh (by simp), by omega, hm65, hmm⟩
        · rw [if_pos hm, if_pos hfit] at hgo
          subst hre
          subst hm'
          generalize hdd : (blobAt B k).data = d at hgo hdok h
          have hno : nodeOk d := by have := hfit.1.2; rw [hdd] at this; exact this
          have h65 := hno.1
          have hnl : (nodeCells d).length = 66 := nodeCells_len (by omega)
          have k0 : keyOk (part32 d 0) := part32_key (by omega) hdok
          have k1 : keyOk (part32 d 32) := part32_key (by omega) hdok
          have hml := hfit.2.1
          refine r_false rfl ?_
          refine r_ld h 1 rfl (by rw [add_lit, add_lit]) (nmOf d) (by simp [Sh.emb]) (nodeCells_name (by omega)) ?_
          have hAok : WOk (many + 1) out (if gtN fr (nmOf d) = true then walkG B emptyKey true (gtN fr) (ltT to_) (inN fr to_) f (part32 d 0) lo (some (nmOf d)) (many + 1) out else ⟨out, many + 1, zero32, 0⟩) := by
            split
            · exact walkG_ok hB hv f _ _ _ _ _ k0 (by omega) (by omega) hon
            · exact ⟨Nat.le_refl _, by dsimp only; omega, Nat.le_refl _, hon, zero32_ok, fun _ => rfl, fun _ => by dsimp only; omega⟩
          generalize hLg : (if gtN fr (nmOf d) = true then walkG B emptyKey true (gtN fr) (ltT to_) (inN fr to_) f (part32 d 0) lo (some (nmOf d)) (many + 1) out else ⟨out, many + 1, zero32, 0⟩) = A at hgo hAok
          have a1 := hAok.many1
          have a2 := hAok.many2
          have a3 := hAok.len
          have hw := hAok.want
          have h : At w0 w4 ([(bl, stC (lwH p fr to_ so ((many + 1 : Nat) : Int)) zero32 0, ty_spec_l08Walk)] ++ (Lo ++ ([(b4, (nodeCells d).toArray, ty_impl_MapNode), (b3, (u8s k).toArray, ty_impl_Key)] ++ rest))) := h.pl2.pl1
          refine r_join (σ := Unit) (fun _ w' => TreeQ w0 ([(b4, (nodeCells d).toArray, ty_impl_MapNode), (b3, (u8s k).toArray, ty_impl_Key)] ++ rest) bl p fr to_ (many + 1) out A w') (fun _ w5 hJ => ?_) ?_
          · obtain ⟨so, Lo, m', out', h, hO, hex, hlen, hm65, hmm⟩ := hJ
            refine r_any fun _ => ?_
            have al := addE_len (inN fr to_) d out'
            -- the entry itself
            refine r_join (σ := Unit) (fun _ w' => ∃ (so : Sl) (Lo : List Blk), At w0 w' ([(bl, stC (lwH p fr to_ so (m' : Int)) A.want (told6 A.code), ty_spec_l08Walk)] ++ (Lo ++ ([(b4, (nodeCells d).toArray, ty_impl_MapNode), (b3, (u8s k).toArray, ty_impl_Key)] ++ rest))) ∧ OwnEntryS so ((addE (inN fr to_) d out').map entOf) Lo) (fun _ w6 hJ => ?_) ?_
            · obtain ⟨so, Lo, h, hO⟩ := hJ
              refine r_any fun _ => ?_
              refine r_ld h 0 rfl (add_lit _ _ _) to_ (by simp [Sh.emb]) (by rw [Nat.zero_add, stC_get (by rw [lwH_len]; omega)]; rfl) ?_
              refine r_pur _ (fun w' => run_lss_str _ _ _ _ _ w') ?_
              by_cases hrt : ltT to_ (nmOf d) = true
              · refine r_true hrt ?_
                refine r_ldP h.pl2 0 rfl (add_lit _ _ _) (by simp [hnl]) ?_
                rw [show (0 + 32 : Nat) = 32 from rfl, nodeCells_right (by omega)]
                by_cases hc : A.code = 0
                · obtain ⟨rfl, rfl⟩ := hex hc
                  have a4 := hAok.ok64 hc
                  unfold afterL at hgo
                  rw [if_pos hc, if_pos hrt] at hgo
                  dsimp only at hgo
                  have hz := hAok.zero hc
                  have h : At w0 w6 ([(bl, stC (lwH p fr to_ so (A.many : Int)) zero32 0, ty_spec_l08Walk)] ++ (Lo ++ ([(b4, (nodeCells d).toArray, ty_impl_MapNode), (b3, (u8s k).toArray, ty_impl_Key)] ++ rest))) := by
                    rw [hz, hc] at h
                    exact h
                  refine r_callR (c_ltree hs hpb hv hB f (part32 d 32) (some (nmOf d)) hi A.many (addE (inN fr to_) d A.out) k1 a4 (by omega) (by omega) (addE_nodes hno hAok.nodes) h hO) ?_
                  rw [hgo]
                  rintro v w7 ⟨rfl, so3, Lo3, m3, out3, h, hO, hex3, hlen3, hm3, hmm3⟩
                  refine ⟨(), rfl, ?_⟩
                  exact r_retR ⟨rfl, so3, Lo3, m3, out3, h.dr2, hO, hex3, by omega, hm3, by omega⟩
                · unfold afterL at hgo
                  rw [if_neg hc] at hgo
                  subst hgo
                  refine r_callR (c_ltree_stop (fun hh => hc (told6_zero.1 hh)) hw h) ?_
                  rintro v w7 ⟨rfl, h⟩
                  refine ⟨(), rfl, ?_⟩
                  have h : At w0 w7 ([(bl, stC (lwH p fr to_ so (m' : Int)) A.want (told6 A.code), ty_spec_l08Walk)] ++ (Lo ++ ([(b4, (nodeCells d).toArray, ty_impl_MapNode), (b3, (u8s k).toArray, ty_impl_Key)] ++ rest))) := h
                  exact r_retR ⟨rfl, so, Lo, m', addE (inN fr to_) d out', h.dr2, hO, fun hh => absurd hh hc, by omega, hm65, by omega⟩
              · refine r_false (by simpa [ltT] using hrt) ?_
                by_cases hc : A.code = 0
                · obtain ⟨rfl, rfl⟩ := hex hc
                  unfold afterL at hgo
                  rw [if_pos hc, if_neg hrt] at hgo
                  subst hgo
                  have hz := hAok.zero hc
                  rw [hz, hc] at h
                  exact r_retR ⟨rfl, so, Lo, A.many, _, h.dr2, hO, fun _ => ⟨rfl, rfl⟩, by omega, hm65, by omega⟩
                · unfold afterL at hgo
                  rw [if_neg hc] at hgo
                  subst hgo
                  exact r_retR ⟨rfl, so, Lo, m', addE (inN fr to_) d out', h.dr2, hO, fun hh => absurd hh hc, by omega, hm65, by omega⟩
            · refine r_join (σ := Bool) (fun s w' => s = inN fr to_ (nmOf d) ∧ At w0 w' ([(bl, stC (lwH p fr to_ so (m' : Int)) A.want (told6 A.code), ty_spec_l08Walk)] ++ (Lo ++ ([(b4, (nodeCells d).toArray, ty_impl_MapNode), (b3, (u8s k).toArray, ty_impl_Key)] ++ rest)))) (fun s w6 hJ => ?_) ?_
              · obtain ⟨rfl, h⟩ := hJ
                refine r_any fun _ => ?_
                rw [addE_map]
                by_cases hin : inN fr to_ (nmOf d) = true
                · refine r_true hin ?_
                  rw [if_pos hin]
                  have hn := hO.n
                  rw [List.length_map] at hn
                  have ls : ∀ {w' : World} {V X : List Blk}, At w0 w' (V ++ ([(bl, stC (lwH p fr to_ so (m' : Int)) A.want (told6 A.code), ty_spec_l08Walk)] ++ X)) → ldOk w' 1 ((⟨bl, 0, none⟩ : Addr).add 3) .slice so := fun h => ldOk_own h.right 0 rfl 3 (by rw [stC_get (by rw [lwH_len]; omega)]; rfl) (by simp [Sh.emb])
                  refine r_draw h fun w7 h => ?_
                  refine r_ldN so (ls (V := []) h) ?_
                  refine r_ldP h.pl2 0 rfl (add_lit _ _ _) (by simp [hnl]) ?_
                  rw [show (0 + 64 : Nat) = 64 from rfl, nodeCells_entry (by omega)]
                  refine r_bs1 T_sl_Entry h rfl (by omega) fun y86 w8 hy hyn => ?_
                  rw [show (Value.agg (entC (entOf d)).toArray).cells.toList = entC (entOf d) by simp [Value.cells]] at hy
                  obtain ⟨Ly, hOy, h⟩ := hy.split
                  refine r_chk1 (ls h) ?_
                  refine r_append T_sl_Entry (OwnS.slo hO h.pl2) (hOy.sl h (List.sublist_append_left _ _)) (entC_one _) (by omega) (by omega) fun y87 w9 hS hn87 => ?_
                  obtain ⟨Lo', hO', h⟩ := hS.split
                  have h : At w0 w9 (Lo' ++ (Ly ++ ([(bl, stC (lwH p fr to_ so (m' : Int)) A.want (told6 A.code), ty_spec_l08Walk)] ++ ([(b4, (nodeCells d).toArray, ty_impl_MapNode), (b3, (u8s k).toArray, ty_impl_Key)] ++ rest)))) := h
                  have h := h.dr1.pl1
                  refine r_st h 0 (o := 3) rfl (by rw [add_lit, Nat.zero_add]) (by rw [stC_size hw, lwH_len]; omega) rfl fun w10 h => ?_
                  rw [stC_set (by rw [lwH_len]; omega)] at h
                  refine ⟨(), rfl, y87, Lo', h, ?_⟩
                  unfold OwnEntryS
                  rw [List.flatMap_append]
                  simpa using hO'
                · refine r_false (by simpa using hin) ?_
                  rw [if_neg hin, List.append_nil]
                  exact ⟨(), rfl, so, Lo, h, hO⟩
              · refine r_ld h 0 rfl (add_lit _ _ _) fr (by simp [Sh.emb]) (by rw [Nat.zero_add, stC_get (by rw [lwH_len]; omega)]; rfl) ?_
                refine r_pur _ (fun w' => run_geq_str _ _ _ _ _ w') ?_
                by_cases hge : Op.bytesLess (nmOf d).toList fr.toList = true
                · refine r_false (by rw [hge]; rfl) ?_
                  exact ⟨false, rfl, by unfold inN; rw [hge]; rfl, h⟩
                · have hge' : Op.bytesLess (nmOf d).toList fr.toList = false := by simpa using hge
                  refine r_true (by rw [hge']; rfl) ?_
                  refine r_ld h 0 rfl (add_lit _ _ _) to_ (by simp [Sh.emb]) (by rw [Nat.zero_add, stC_get (by rw [lwH_len]; omega)]; rfl) ?_
                  refine r_pur _ (fun w' => run_lss_str _ _ _ _ _ w') ?_
                  exact ⟨_, rfl, by unfold inN; rw [hge']; rfl, h⟩
          · refine r_ld h 0 rfl (add_lit _ _ _) fr (by simp [Sh.emb]) (by rw [Nat.zero_add, stC_get (by rw [lwH_len]; omega)]; rfl) ?_
            refine r_pur _ (fun w' => run_gtr_str _ _ _ _ _ w') ?_
            by_cases hlt : gtN fr (nmOf d) = true
            · rw [if_pos hlt] at hLg
              refine r_true hlt ?_
              refine r_ldP h.pl2 0 rfl (add_lit _ _ _) (by simp [hnl]) ?_
              rw [show (0 + 0 : Nat) = 0 from rfl, nodeCells_left (by omega)]
              refine r_callR (c_ltree hs hpb hv hB f (part32 d 0) lo (some (nmOf d)) (many + 1) out k0 (by omega) (by omega) (by omega) hon h hO) ?_
              rw [hLg]
              rintro v w5 ⟨rfl, hT⟩
              refine ⟨(), rfl, ?_⟩
              exact ⟨(), rfl, hT⟩
            · rw [if_neg hlt] at hLg
              subst hLg
              refine r_false (show gtN fr (nmOf d) = false by simpa using hlt) ?_
              exact ⟨(), rfl, so, Lo, many + 1, out, h, hO, fun _ => ⟨rfl, rfl⟩, by omega, by omega, Nat.le_refl _⟩
      · rcases hr with ⟨hm, rfl⟩ | ⟨hm, hng, rfl⟩ | ⟨hm, hng, hdok, hre, rfl⟩
        · refine r_false rfl ?_
          exact ⟨4, rfl, many, h, by omega, Nat.le_refl _, .inl ⟨hm, rfl⟩⟩
        · refine r_false rfl ?_
          exact ⟨8, rfl, many, h, by omega, Nat.le_refl _, .inr (.inl ⟨hm, fun hh => hng hh.1, rfl⟩)⟩
        · refine r_true rfl ?_
          have h := h.pl1
          refine r_ld h 0 rfl (add_lit _ _ _) (many : Int) (by simp [Sh.emb]) (by rw [Nat.zero_add, stC_get (by rw [lwH_len]; omega)]; rfl) ?_
          rw [w64 (n := (many : Int) + 1) (by omega) (by omega)]
          refine r_st h 0 (o := 4) rfl (by rw [add_lit, Nat.zero_add]) (by rw [stC_size zero32_ok, lwH_len]; omega) rfl fun w4 h => ?_
          rw [stC_set (by rw [lwH_len]; omega)] at h
          have h : At w0 w4 ([(bl, stC (lwH p fr to_ so ((many + 1 : Nat) : Int)) zero32 0, ty_spec_l08Walk)] ++ ([(b4, r, ty_impl_MapNode), (b3, (u8s k).toArray, ty_impl_Key)] ++ (Lo ++ rest))) := h
          refine r_ld h 0 rfl (add_lit _ _ _) ((many + 1 : Nat) : Int) (by simp [Sh.emb]) (by rw [Nat.zero_add, stC_get (by rw [lwH_len]; omega)]; rfl) ?_
          refine r_if (((many + 1 : Nat) : Int) > 64) rfl (fun hgt => ?_) (fun hle => ?_)
          · exact ⟨8, rfl, many + 1, h.pl1, by omega, by omega, .inr (.inl ⟨hm, fun hh => by have := hh.2.1; omega, rfl⟩)⟩
          · exact ⟨0, rfl, many + 1, h.pl1, by omega, by omega, .inr (.inr ⟨hm, ⟨hng, by omega, .inl rfl⟩, hdok, hre, rfl, rfl⟩)⟩
    · refine r_draw h fun w3 h => ?_
      have lp : ∀ {w' : World} {V X : List Blk}, At w0 w' (V ++ ([(bl, stC (lwH p fr to_ so (many : Int)) zero32 0, ty_spec_l08Walk)] ++ X)) → ldOk w' 1 ((⟨bl, 0, none⟩ : Addr).add 0) .ptr p := fun h => ldOk_own h.right 0 rfl 0 (by rw [stC_get (by rw [lwH_len]; omega)]; rfl) (by simp [Sh.emb])
      refine r_ldN (sh := .ptr) p (lp h) ?_
      refine r_ldA h 0 rfl rfl (by simp [hk.1]) ?_
      have fin : ∀ {r : Array Value × Int} {b4 : Nat} {w' : World}, At w0 w' ([(b4, r.1, ty_impl_MapNode), (b3, (u8s k).toArray, ty_impl_Key)] ++ ([(bl, stC (lwH p fr to_ so (many : Int)) zero32 0, ty_spec_l08Walk)] ++ (Lo ++ rest))) → ((k ∉ keysOf B ∧ r.2 = 4) ∨ (k ∈ keysOf B ∧ ¬ nodeGood (blobAt B k) ∧ r.2 = 8) ∨ (k ∈ keysOf B ∧ nodeGood (blobAt B k) ∧ bytesOk (blobAt B k).data ∧ r = ((nodeCells (blobAt B k).data).toArray, 0))) →
          ∃ (b : Nat) (x : Array Value), (⟨b4, 0, none⟩ : Addr) = ⟨b, 0, none⟩ ∧ At w0 w' ([(b, x, ty_impl_MapNode), (b3, (u8s k).toArray, ty_impl_Key)] ++ ([(bl, stC (lwH p fr to_ so (many : Int)) zero32 0, ty_spec_l08Walk)] ++ (Lo ++ rest))) ∧ ((k ∉ keysOf B ∧ r.2 = 4) ∨ (k ∈ keysOf B ∧ ¬ nodeGood (blobAt B k) ∧ r.2 = 8) ∨ (k ∈ keysOf B ∧ nodeGood (blobAt B k) ∧ bytesOk (blobAt B k).data ∧ x = (nodeCells (blobAt B k).data).toArray ∧ r.2 = 0)) := fun {r b4 w'} h hr => ⟨b4, r.1, rfl, h, by
            rcases hr with hr | hr | ⟨h1, h2, h3, rfl⟩
            · exact .inl hr
            · exact .inr (.inl hr)
            · exact .inr (.inr ⟨h1, h2, h3, rfl, rfl⟩)⟩
      refine r_all2 ?_ ?_
      · refine r_call h (c_l08Node (hs.at h) hpb hv hk) fun r23 w4 h _ ⟨hr1, hr2, hr3⟩ => ?_
        refine r_new h fun b4 w5 h => ?_
        refine r_stA h 0 rfl rfl hr1 rfl hr2 fun w6 h => ?_
        exact ⟨(⟨b4, 0, none⟩, r23.2), rfl, fin h hr3⟩
      · refine r_new h fun b4 w4 h => ?_
        have h : At w0 w4 ([(b4, zeroNode, ty_impl_MapNode), (b3, (u8s k).toArray, ty_impl_Key)] ++ ([(bl, stC (lwH p fr to_ so (many : Int)) zero32 0, ty_spec_l08Walk)] ++ (Lo ++ rest))) := h
        refine r_chk2 ?_ ?_ ?_
        · exact ldOk_blk h 1 rfl (by simp [hk.1])
        · exact lp h
        refine r_call h (c_l08Node (hs.at h) hpb hv hk) fun r23 w5 h _ ⟨hr1, hr2, hr3⟩ => ?_
        refine r_stA h 0 rfl rfl hr1 rfl hr2 fun w6 h => ?_
        exact ⟨(⟨b4, 0, none⟩, r23.2), rfl, fin h hr3⟩
  · refine r_draw h fun w2 h => ?_
    have lc : ∀ {w' : World}, At w0 w' ([(b3, (u8s k).toArray, ty_impl_Key)] ++ ([(bl, stC (lwH p fr to_ so (many : Int)) zero32 0, ty_spec_l08Walk)] ++ (Lo ++ rest))) → ldOk w' 1 ((⟨bl, 0, none⟩ : Addr).add 37) (.int .i64) (0 : Int) := fun h => ldOk_own h.right 0 rfl 37 (stC_code zero32_ok rfl) (by simp [Sh.emb])
    refine r_ldN (sh := .int .i64) (0 : Int) (lc h) ?_
    have ends : ∀ {w' : World}, At w0 w' ([(b3, (u8s k).toArray, ty_impl_Key)] ++ ([(bl, stC (lwH p fr to_ so (many : Int)) zero32 0, ty_spec_l08Walk)] ++ (Lo ++ rest))) → k = emptyKey → TreeQ w0 rest bl p fr to_ many out R w' := fun h hke => by
      rw [if_pos hke] at hgo
      subst hgo
      exact ⟨so, Lo, many, out, h.right, hO, fun _ => ⟨rfl, rfl⟩, Nat.le_refl _, by omega, Nat.le_refl _⟩
    refine r_all2 ?_ ?_
    · refine r_false rfl ?_
      refine r_ldA h 0 rfl rfl (by simp [hk.1]) ?_
      refine r_chk1 (lc h) ?_
      refine r_call h (c_l04Empty _) fun r14 w3 h _ hr => ?_
      subst hr
      refine r_chk1 (lc h) ?_
      refine r_pur _ (fun w' => run_eql_key _ _ hk.1 emptyKey_ok.1 w') ?_
      by_cases hke : k = emptyKey
      · refine r_true (by simp [hke]) ?_
        exact r_retR ⟨rfl, ends h hke⟩
      · refine r_false (by simp [hke]) ?_
        exact ⟨(), rfl, hke, h⟩
    · refine r_false rfl ?_
      refine r_call h (c_l04Empty _) fun r14 w3 h _ hr => ?_
      subst hr
      refine r_chk1 (lc h) ?_
      refine r_ldA h 0 rfl rfl (by simp [hk.1]) ?_
      refine r_chk1 (lc h) ?_
      refine r_pur _ (fun w' => run_eql_key _ _ hk.1 emptyKey_ok.1 w') ?_
      by_cases hke : k = emptyKey
      · refine r_true (by simp [hke]) ?_
        exact r_retR ⟨rfl, ends h hke⟩
      · refine r_false (by simp [hke]) ?_
        exact ⟨(), rfl, hke, h⟩)

theorem c_spec_RangePartial {w : World} {r a : Array Value} {B : List PB} {k : List Int} {fr to_ : ByteArray} (hr : RdStore w r B) (ha : RdKey w a k) (hz : sizeBs B ≤ 1073741824) :
    Ret Tryz.prog n_spec_RangePartial [.agg r, .agg a, .string fr, .string to_] w [.slice, .agg, .int .i64] (fun x w' => ∃ L, At w w' L ∧ OwnEntryS x.1 (rangeMAns B k fr to_).1 L ∧ RdKey w x.2.1 (rangeMAns B k fr to_).2.1 ∧ x.2.2 = (rangeMAns B k fr to_).2.2) := spec_RangePartial_calls _ _ _ _ (by
  unfold spec_RangePartial
  have hB := rdStore_bytes hr
  obtain ⟨s, bs, rfl, hpb, hs⟩ := hr
  obtain ⟨rfl, hk⟩ := ha
  have hl := le_sizeBs B
  have hbl : bs.length = B.length := by rw [← hpb]; simp
  refine r_new (At.refl w) fun b4 w1 h => ?_
  refine r_new h fun b5 w2 h => ?_
  refine r_new h fun b9 w3 h => ?_
  have h : At w w3 [(b9, Array.replicate 32 (.int .u8 0), ty_impl_Key), (b5, (u8s k).toArray, ty_impl_Key), (b4, #[.slice s.a s.n s.c], ty_impl_Store)] := h
  refine r_call h (c_l05Open (p := ⟨b4, 0, none⟩) (fun n => ldOk_own h 2 rfl 0 rfl (by simp [Sh.emb])) (hs.at h.nil)) fun r15 w4 h4 _ ⟨hr2, b, hr1, hr⟩ => ?_
  rw [hpb] at hr hr2
  by_cases hv : validS B
  · obtain ⟨L, hL, hO⟩ := hr hv
    rw [hr2, decide_eq_true hv, hr1]
    refine r_false rfl ?_
    have hok := rangeM_ok hB hv hk fr to_
    have hc : rangeMAns B k fr to_ = (if (rangeM B k fr to_).code = 0 then ((rangeM B k fr to_).out.map entOf, zero32, 0) else ([], (rangeM B k fr to_).want, told6 (rangeM B k fr to_).code)) := by unfold rangeMAns; rw [if_pos hv]
    rw [hc]
    have h : At w w4 ([(b9, Array.replicate 32 (.int .u8 0), ty_impl_Key), (b5, (u8s k).toArray, ty_impl_Key), (b4, #[.slice s.a s.n s.c], ty_impl_Store)] ++ (L ++ [])) := by rw [List.append_nil]; exact (h.join hL).swap
    have hSh := hO.rd h.pl1 (keysOf_ok _) (fun b hb => (hs.at h.nil).ok b hb)
    refine r_bs0 T_sl_Entry (At.refl w4) fun y25 w5 hy hyn => ?_
    obtain ⟨Lo, hO5, hM⟩ := hy.split
    refine r_pur (sh := .agg) _ (run_mkLw ⟨b, 0, none⟩ fr to_ y25) ?_
    refine r_new hM fun b27 w6 hM => ?_
    have hM : At w4 w6 ([(b27, stC (lwH ⟨b, 0, none⟩ fr to_ y25 ((0 : Nat) : Int)) zero32 0, ty_spec_l08Walk)] ++ (Lo ++ [])) := hM
    refine r_ldA (h.trans hM.below) 1 rfl rfl (by simp [hk.1]) ?_
    refine r_callR (c_ltree (out := []) (lo := none) (hi := none) hSh hpb hv hB 65 k 0 hk (by omega) (by omega) (by simp) (by simp) hM hO5) ?_
    rw [show walkG B emptyKey true (gtN fr) (ltT to_) (inN fr to_) 65 k none none 0 [] = rangeM B k fr to_ from rfl]
    generalize rangeM B k fr to_ = R at hok
    rintro v w7 ⟨rfl, so, Lo', m', out', hX, hO7, hex, _, _, _⟩
    refine ⟨(), rfl, ?_⟩
    have hw := hok.want
    have h : At w w7 ([(b27, stC (lwH ⟨b, 0, none⟩ fr to_ so (m' : Int)) R.want (told6 R.code), ty_spec_l08Walk)] ++ (Lo' ++ ([(b9, Array.replicate 32 (.int .u8 0), ty_impl_Key), (b5, (u8s k).toArray, ty_impl_Key), (b4, #[.slice s.a s.n s.c], ty_impl_Store)] ++ (L ++ [])))) := by
      have := h.join hX
      simpa [List.append_assoc] using this
    have lc : ∀ {w' : World} {V X : List Blk}, At w w' (V ++ ([(b27, stC (lwH ⟨b, 0, none⟩ fr to_ so (m' : Int)) R.want (told6 R.code), ty_spec_l08Walk)] ++ X)) → ldOk w' 1 ((⟨b27, 0, none⟩ : Addr).add 37) (.int .i64) (told6 R.code) := fun h => ldOk_own h.right 0 rfl 37 (stC_code hw rfl) (by simp [Sh.emb])
    refine r_ldN (sh := .int .i64) _ (lc (V := []) h) ?_
    by_cases hc0 : R.code = 0
    · obtain ⟨rfl, rfl⟩ := hex hc0
      refine r_ne (fun hne => absurd (told6_zero.2 hc0) hne) (fun _ => ?_)
      refine r_ld h 0 rfl (add_lit _ _ _) so (by simp [Sh.emb]) (by rw [Nat.zero_add, stC_get (by rw [lwH_len]; omega)]; rfl) ?_
      have h := h.pl2
      refine r_stA h 0 rfl rfl (by simp) (by simp) (by simp [oneC]) fun w8 h => ?_
      refine r_ldA h 0 rfl rfl (by simp) ?_
      refine r_ret h.nil (so, _, (0 : Int)) rfl ?_
      rw [if_pos hc0]
      have h : At w w8 ([(b9, Array.replicate 32 (.int .u8 0), ty_impl_Key), (b5, (u8s k).toArray, ty_impl_Key), (b4, #[.slice s.a s.n s.c], ty_impl_Store)] ++ ([(b27, stC (lwH ⟨b, 0, none⟩ fr to_ so (R.many : Int)) R.want (told6 R.code), ty_spec_l08Walk)] ++ (Lo' ++ (L ++ [])))) := h
      exact ⟨Lo', h.right.right.left, hO7, ⟨rfl, zero32_ok⟩, rfl⟩
    · refine r_ne (fun _ => ?_) (fun heq => absurd (told6_zero.1 heq) hc0)
      refine r_draw h fun w8 h => ?_
      have lw : ∀ {w' : World} {V X : List Blk}, At w w' (V ++ ([(b27, stC (lwH ⟨b, 0, none⟩ fr to_ so (m' : Int)) R.want (told6 R.code), ty_spec_l08Walk)] ++ X)) → ldOk w' 32 ((⟨b27, 0, none⟩ : Addr).add 5) .agg (u8s R.want).toArray := fun h => ldOk_part h.right 0 rfl (by rw [stC_size hw, lwH_len]; omega) (stC_want hw (by rw [lwH_len]))
      refine r_ldN (u8s R.want).toArray (lw (V := []) h) ?_
      refine r_ldN (sh := .int .i64) _ (lc (V := []) h) ?_
      refine r_bs0 T_sl_Entry h fun y36 w9 hy hyn => ?_
      obtain ⟨Ly, hOy, h⟩ := hy.split
      refine r_chk2 (lc h) (lw h) ?_
      have h := h.pl3
      refine r_stA h 0 rfl rfl (by simp [hw.1]) (by simp) (by simpa using u8s_one) fun w10 h => ?_
      have h : At w w10 ([(b9, (u8s R.want).toArray, ty_impl_Key), (b5, (u8s k).toArray, ty_impl_Key), (b4, #[.slice s.a s.n s.c], ty_impl_Store)] ++ (Ly ++ ([(b27, stC (lwH ⟨b, 0, none⟩ fr to_ so (m' : Int)) R.want (told6 R.code), ty_spec_l08Walk)] ++ (Lo' ++ (L ++ []))))) := h
      refine r_chk1 (lc h.right) ?_
      refine r_ldA h 0 rfl rfl (by simp [hw.1]) ?_
      refine r_ret h.nil (y36, _, _) rfl ?_
      rw [if_neg hc0]
      exact ⟨Ly, h.right.left, hOy, ⟨rfl, hw⟩, rfl⟩
  · rw [hr2, decide_eq_false hv]
    refine r_true rfl ?_
    refine r_bs0 T_sl_Entry h4 fun y20 w5 hy hyn => ?_
    obtain ⟨Ly, hOy, h⟩ := hy.split
    have h := h.swap
    refine r_stA h 0 rfl rfl (by simp) (by simp) (by simp [oneC]) fun w6 h => ?_
    refine r_ldA h 0 rfl rfl (by simp) ?_
    refine r_ret h.nil (y20, _, (1 : Int)) rfl ?_
    unfold rangeMAns
    rw [if_neg hv]
    exact ⟨Ly, At.right (A := [_, _, _]) h, hOy, ⟨rfl, zero32_ok⟩, rfl⟩)
end Go.Proofs.YtffedfdhhglmkaaGreat
