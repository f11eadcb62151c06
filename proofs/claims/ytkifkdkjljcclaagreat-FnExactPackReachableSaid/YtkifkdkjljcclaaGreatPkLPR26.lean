/- The links of a blob: what both sides answer. -/
import Derived.Test.YtkifkdkjljcclaaGreatPkLPR24
import Derived.Test.YtkifkdkjljcclaaGreatPkLPR25
namespace Go.Sx
theorem SlO.base {w0 w : World} {ls : List Blk} {e z : Nat} {s : Sl} {xs : List Value} (h : SlO w0 w ls e z s xs) : SlO w0 w [] e z s xs := by
  obtain ⟨L, hO, hA⟩ := h.split
  exact hO.slo (ls := []) (by simpa using hA.left)
end Go.Sx
namespace Go.Proofs.YtkifkdkjljcclaaGreat
open Go.Sx Go.RowKit

def notEmpty (k : List Int) : Bool := !decide (k = emptyKey)
def byte0 (d : List Int) : Nat := (d.getD 0 0).toNat
def links (b : PB) : List (List Int) :=
  if b.tag = 2 then (if b.data.length = 64 then keysN b.data 0 2 else [])
  else if b.tag = 5 then (if nodeOk b.data then [part32 b.data 0, part32 b.data 32].filter notEmpty else [])
  else if b.tag = 6 then (if b.data.length % 32 = 0 then keysN b.data 0 (b.data.length / 32) else [])
  else if b.tag = 7 then (if 1 ≤ b.data.length ∧ 1 + 32 * byte0 b.data ≤ b.data.length then keysN b.data 1 (byte0 b.data) else [])
  else []
theorem links_ok {b : PB} (hb : bytesOk b.data) : ∀ k ∈ links b, keyOk k := by
  intro k hk
  unfold links at hk
  split at hk
  · split at hk
    · exact keysN_ok (by omega) hb k hk
    · cases hk
  split at hk
  · split at hk
    · rename_i hn
      have h1 := hn.1
      have := (List.mem_filter.1 hk).1
      simp only [List.mem_cons, List.not_mem_nil, or_false] at this
      rcases this with rfl | rfl
      · exact part32_key (by omega) hb
      · exact part32_key (by omega) hb
    · cases hk
  split at hk
  · split at hk
    · exact keysN_ok (by omega) hb k hk
    · cases hk
  split at hk
  · split at hk
    · exact keysN_ok (by omega) hb k hk
    · cases hk
  · cases hk
theorem links_len (b : PB) : (links b).length ≤ b.data.length := by
  unfold links
  split
  · split
    · rw [keysN_len]; omega
    · simp
  split
  · split
    · rename_i hn
      have h1 := hn.1
      have := List.length_filter_le notEmpty [part32 b.data 0, part32 b.data 32]
      simp only [List.length_cons, List.length_nil] at this
      omega
    · simp
  split
  · split
    · rw [keysN_len]; omega
    · simp
  split
  · split
    · rw [keysN_len]; omega
    · simp
  · simp

theorem slO_none {w0 w : World} {ls : List Blk} (h : At w0 w ls) : SlO w0 w ls ty_impl_Key 32 ⟨none, 0, 0⟩ (([] : List (List Int)).flatMap u8s) := SlO.nil h _ _

theorem c_links_1 {w : World} {p : Addr} {k q : List Int} (hk : keyOk k) (hq : keyOk q) (hp : ldOk w 32 p .agg (u8s q).toArray) : Ret Tryz.prog n_impl_Blob_links_1 [.agg (u8s k).toArray, .pointer (some p)] w [.bool] (fun r _ => r = decide (k = q)) := impl_Blob_links_1_calls _ _ (by
  unfold impl_Blob_links_1
  refine r_new (At.refl w) fun b2 w1 h => ?_
  refine r_ldA h 0 rfl rfl (by simp [Value.cells, hk.1]) ?_
  refine r_ldN (u8s q).toArray (ldOk_below h.below hp) ?_
  refine r_pur _ (fun w' => run_eql_key _ _ hk.1 hq.1 w') ?_
  exact r_ret h _ rfl rfl)

theorem getD_byte {d : List Int} (hb : bytesOk d) {i : Nat} (h : i < d.length) : 0 ≤ d.getD i 0 ∧ d.getD i 0 < 256 := hb _ (by simp only [List.getD, List.getElem?_eq_getElem h, Option.getD_some]; exact List.getElem_mem _)

theorem bsl_part {w : World} {s : Sl} {d : List Int} (hs : BSl w s d) (l k : Nat) (h1 : l ≤ k) (h2 : k ≤ d.length) : BSl w ⟨if s.c = l then s.a else s.a.map (·.add (l * 1)), k - l, s.c - l⟩ ((d.drop l).take (k - l)) :=
  ⟨bsl_sub hs l k h1 h2, fun b hb => hs.ok b (List.mem_of_mem_drop (List.mem_of_mem_take hb)), by have := hs.cap; have := hs.n; dsimp only; omega⟩

theorem nodeCells_left {d : List Int} (h : 64 ≤ d.length) : (nodeCells d).toArray.extract 0 (0 + 32) = (u8s (part32 d 0)).toArray := by
  apply Array.ext'
  rw [List.extract_toArray]
  show ((nodeCells d).drop 0).take (0 + 32 - 0) = _
  have e : (u8s (part32 d 0)).length = 32 := by rw [u8s_len]; exact part32_len (by omega)
  unfold nodeCells
  rw [List.drop_zero, List.append_assoc, List.take_append_of_le_length (by omega), List.take_of_length_le (by omega)]
theorem nodeCells_right {d : List Int} (h : 64 ≤ d.length) : (nodeCells d).toArray.extract 32 (32 + 32) = (u8s (part32 d 32)).toArray := by
  apply Array.ext'
  rw [List.extract_toArray]
  show ((nodeCells d).drop 32).take (32 + 32 - 32) = _
  have e : (u8s (part32 d 0)).length = 32 := by rw [u8s_len]; exact part32_len (by omega)
  have e2 : (u8s (part32 d 32)).length = 32 := by rw [u8s_len]; exact part32_len (by omega)
  unfold nodeCells
  rw [List.append_assoc, List.drop_left' e, List.take_append_of_le_length (by omega), List.take_of_length_le (by omega)]

theorem c_impl_links {w : World} {b : BR} (hb : b.Ok w) (hmax : b.data.length ≤ 1073741824) : Ret Tryz.prog n_impl_Blob_links [.agg b.cells.toArray] w [.slice] (fun r w' => SlO w w' [] ty_impl_Key 32 r ((links b.pb).flatMap u8s) ∧ r.n = (links b.pb).length) := impl_Blob_links_calls _ (by
  unfold impl_Blob_links
  have hdn := hb.bytes.n
  have hl : links b.pb = (if b.tag = 2 then (if b.data.length = 64 then keysN b.data 0 2 else [])
    else if b.tag = 5 then (if nodeOk b.data then [part32 b.data 0, part32 b.data 32].filter notEmpty else [])
    else if b.tag = 6 then (if b.data.length % 32 = 0 then keysN b.data 0 (b.data.length / 32) else [])
    else if b.tag = 7 then (if 1 ≤ b.data.length ∧ 1 + 32 * byte0 b.data ≤ b.data.length then keysN b.data 1 (byte0 b.data) else [])
    else []) := rfl
  rw [hl]
  refine r_new (At.refl w) fun b1 w1 h => ?_
  have h : At w w1 [(b1, b.cells.toArray, ty_impl_Blob)] := h
  have none_ : ∀ {w' : World} {ls : List Blk}, At w w' ls → ((real Tryz.prog (RR w [.slice] (fun r w' => SlO w w' [] ty_impl_Key 32 r (([] : List (List Int)).flatMap u8s) ∧ r.n = ([] : List (List Int)).length))).ret (.slice none 0 0) : World → Prop) w' := fun h => r_ret h.nil ⟨none, 0, 0⟩ rfl ⟨slO_none h.nil, rfl⟩
  refine r_ld h 0 rfl (add_lit _ _ _) b.d (by simp [Sh.emb]) rfl ?_
  refine r_ld h 0 rfl (add_lit _ _ _) b.tag (by simp [Sh.emb]) rfl ?_
  refine r_eq (fun ht => ?_) (fun ht => ?_)
  · rw [if_pos ht]
    refine r_eq (fun h64 => ?_) (fun h64 => ?_)
    · rw [if_pos (by omega)]
      refine r_ld h 0 rfl (add_lit _ _ _) b.d (by simp [Sh.emb]) rfl ?_
      refine r_call h (c_keysIn (hb.bytes.below h.below) hmax) fun r w2 h2 hb2 ⟨hr, hrn⟩ => ?_
      rw [show b.data.length / 32 = 2 by omega] at hr hrn
      exact r_ret h2.nil r rfl ⟨(SlO.lift h hr).base, by rw [hrn, keysN_len]⟩
    · rw [if_neg (by omega)]
      exact none_ h
  rw [if_neg ht]
  refine r_eq (fun ht5 => ?_) (fun ht5 => ?_)
  · rw [if_pos ht5]
    refine r_ld h 0 rfl (add_lit _ _ _) b.d (by simp [Sh.emb]) rfl ?_
    refine r_call h (c_ReadMapNode (hb.bytes.below h.below) hmax) fun r w2 h _ hr => ?_
    subst hr
    refine r_new h fun b4 w3 h => ?_
    by_cases hok : nodeOk b.data
    · simp only [if_pos hok]
      rw [if_pos hok]
      have h65 := hok.1
      have hnl : (nodeCells b.data).length = 66 := nodeCells_len (by omega)
      refine r_stA h 0 rfl rfl hnl rfl (nodeCells_one b.data) fun w4 h => ?_
      refine r_eq (fun _ => ?_) (fun hh => absurd rfl hh)
      refine r_call h (c_EmptyMapKey _) fun r w5 h _ hr => ?_
      subst hr
      refine r_new h fun b6 w6 h => ?_
      refine r_stA h 0 rfl rfl (by simp [emptyKey_ok.1]) (by simp [Value.cells]) (by simpa using u8s_one) fun w7 h => ?_
      have h : At w w7 [(b6, (u8s emptyKey).toArray, ty_impl_Key), (b4, (nodeCells b.data).toArray, ty_impl_MapNode), (b1, b.cells.toArray, ty_impl_Blob)] := h
      refine r_ldP h 1 rfl (add_lit _ _ _) (by simp [hnl]) ?_
      rw [show (0 + 0 : Nat) = 0 from rfl, nodeCells_left (by omega)]
      refine r_ldP h 1 rfl (add_lit _ _ _) (by simp [hnl]) ?_
      rw [show (0 + 32 : Nat) = 32 from rfl, nodeCells_right (by omega)]
      have hl0 : keyOk (part32 b.data 0) := part32_key (by omega) hb.bytes.ok
      have hl1 : keyOk (part32 b.data 32) := part32_key (by omega) hb.bytes.ok
      refine r_bs2 T_sl_Key h (by simp [Value.cells, hl0.1]) (by simp [Value.cells, hl1.1]) (by omega) fun y w8 hy hyn => ?_
      refine r_callR (c_DeleteFunc (cap := #[.pointer (some ⟨b6, 0, none⟩)]) (ks := [part32 b.data 0, part32 b.data 32]) (by simpa [Value.cells] using hy) (fun k hk => by
        simp only [List.mem_cons, List.not_mem_nil, or_false] at hk
        rcases hk with rfl | rfl
        · exact hl0
        · exact hl1) hyn (by simp) (g := n_impl_Blob_links_1) (by kernel_rfl) (fun k => decide (k = emptyKey)) (fun w' k hA hk => c_links_1 hk emptyKey_ok (ldOk_blk hA 0 rfl (by simp [emptyKey_ok.1])))) ?_
      rintro v w9 ⟨r, rfl, hS, hrn⟩
      refine ⟨r, rfl, ?_⟩
      exact r_ret hS.at_.nil r rfl ⟨hS.base, hrn⟩
    · simp only [if_neg hok]
      rw [if_neg hok]
      refine r_stA h 0 rfl rfl rfl rfl zeroNode_one fun w4 h => ?_
      refine r_eq (fun hh => absurd hh (by decide)) (fun _ => ?_)
      exact none_ h
  rw [if_neg ht5]
  refine r_eq (fun ht6 => ?_) (fun ht6 => ?_)
  · rw [if_pos ht6]
    have em : Int.tmod (b.d.n : Int) 32 = ((b.d.n % 32 : Nat) : Int) := rfl
    rw [em]
    refine r_eq (fun h64 => ?_) (fun h64 => ?_)
    · rw [if_pos (by omega)]
      refine r_ld h 0 rfl (add_lit _ _ _) b.d (by simp [Sh.emb]) rfl ?_
      refine r_call h (c_keysIn (hb.bytes.below h.below) hmax) fun r w2 h2 hb2 ⟨hr, hrn⟩ => ?_
      exact r_ret h2.nil r rfl ⟨(SlO.lift h hr).base, by rw [hrn, keysN_len]⟩
    · rw [if_neg (by omega)]
      exact none_ h
  rw [if_neg ht6]
  refine r_eq (fun ht7 => ?_) (fun ht7 => ?_)
  · rw [if_pos ht7]
    have e1 : ∀ x : Int, 0 ≤ x → x < 256 → IntKind.wrap .i64 (1 + IntKind.wrap .i64 (32 * IntKind.wrap .i64 x)) = ((1 + 32 * x.toNat : Nat) : Int) := fun x h0 h1 => by rw [w64 (n := x) (by omega) (by omega), w64 (n := 32 * x) (by omega) (by omega), w64 (by omega) (by omega)]; omega
    refine r_join (σ := Bool) (fun s w' => s = decide (1 ≤ b.data.length ∧ 1 + 32 * byte0 b.data ≤ b.data.length) ∧ At w w' [(b1, b.cells.toArray, ty_impl_Blob)]) (fun s w2 hJ => ?_) ?_
    · obtain ⟨rfl, h⟩ := hJ
      refine r_any fun _ => ?_
      by_cases hc : 1 ≤ b.data.length ∧ 1 + 32 * byte0 b.data ≤ b.data.length
      · rw [if_pos hc]
        have hg := getD_byte hb.bytes.ok (i := 0) (by omega)
        have hcap := hb.bytes.cap
        have hby : byte0 b.data = (b.data.getD 0 0).toNat := rfl
        refine r_true (decide_eq_true hc) ?_
        refine r_draw h fun w3 h => ?_
        refine r_ld h 0 rfl (add_lit _ _ _) b.d (by simp [Sh.emb]) rfl ?_
        refine r_ld h 0 rfl (add_lit _ _ _) b.d (by simp [Sh.emb]) rfl ?_
        obtain ⟨p, hp, hc0⟩ := hb.bytes.sl.cell 0 (.int .u8 (b.data.getD 0 0)) (u8s_get (by omega))
        have l0 : ∀ {w' : World} {ls : List Blk}, At w w' ls → ldOk w' 1 (p.add ((0 : Int).toNat * 1)) (.int .u8) (b.data.getD 0 0) := fun h => ldOk_below h.below (show ldOk w 1 (p.add 0) (.int .u8) _ from hc0)
        refine r_ix p hp (by omega) (by omega) ?_
        refine r_ldN (sh := .int .u8) (b.data.getD 0 0) (l0 h) ?_
        rw [e1 _ hg.1 hg.2]
        refine r_sl 1 (1 + 32 * byte0 b.data) rfl rfl (by omega) (by omega) ?_
        have hsub := bsl_part hb.bytes 1 (1 + 32 * byte0 b.data) (by omega) (by omega)
        rw [show 1 + 32 * byte0 b.data - 1 = 32 * byte0 b.data by omega] at hsub ⊢
        have hsl : ((b.data.drop 1).take (32 * byte0 b.data)).length = 32 * byte0 b.data := by rw [List.length_take, List.length_drop]; omega
        refine r_call h (c_keysIn (hsub.below h.below) (by omega)) fun r w4 h4 hb4 ⟨hr, hrn⟩ => ?_
        rw [hsl, show 32 * byte0 b.data / 32 = byte0 b.data by omega] at hr hrn
        rw [keysN_sub] at hr
        refine r_chk3 ?_ ?_ ?_ ?_
        · exact l0 h4
        · exact ldOk_own h4 0 rfl 1 rfl (by simp [Sh.emb])
        · exact ldOk_own h4 0 rfl 1 rfl (by simp [Sh.emb])
        exact r_ret h4.nil r rfl ⟨(SlO.lift h hr).base, by rw [hrn, keysN_len]⟩
      · rw [if_neg hc]
        refine r_false (decide_eq_false hc) ?_
        exact none_ h
    · refine r_if ((b.d.n : Int) > 0) rfl (fun hgt => ?_) (fun hle => ?_)
      · have hg := getD_byte hb.bytes.ok (i := 0) (by omega)
        refine r_ld h 0 rfl (add_lit _ _ _) b.d (by simp [Sh.emb]) rfl ?_
        obtain ⟨p, hp, hc0⟩ := (hb.bytes.sl.below h.below).cell 0 (.int .u8 (b.data.getD 0 0)) (u8s_get (by omega))
        refine r_ix p hp (by omega) (by omega) ?_
        refine r_ldN (sh := .int .u8) (b.data.getD 0 0) hc0 ?_
        rw [e1 _ hg.1 hg.2]
        refine ⟨_, rfl, ?_, h⟩
        have hby : byte0 b.data = (b.data.getD 0 0).toNat := rfl
        congr 1
        apply propext
        omega
      · refine ⟨false, rfl, ?_, h⟩
        rw [decide_eq_false]
        omega
  · rw [if_neg ht7]
    exact none_ h)

theorem c_l05Links {w : World} {p : Addr} {b : BR} (hb : BAt w p b) (hmax : b.data.length ≤ 1073741824) : Ret Tryz.prog n_spec_l05Links [.pointer (some p)] w [.slice] (fun r w' => SlO w w' [] ty_impl_Key 32 r ((links b.pb).flatMap u8s) ∧ r.n = (links b.pb).length) := spec_l05Links_calls _ (by
  unfold spec_l05Links
  have hdn := hb.ok.bytes.n
  have hl : links b.pb = (if b.tag = 2 then (if b.data.length = 64 then keysN b.data 0 2 else [])
    else if b.tag = 5 then (if nodeOk b.data then [part32 b.data 0, part32 b.data 32].filter notEmpty else [])
    else if b.tag = 6 then (if b.data.length % 32 = 0 then keysN b.data 0 (b.data.length / 32) else [])
    else if b.tag = 7 then (if 1 ≤ b.data.length ∧ 1 + 32 * byte0 b.data ≤ b.data.length then keysN b.data 1 (byte0 b.data) else [])
    else []) := rfl
  rw [hl]
  have none_ : ∀ {w' : World} {ls : List Blk}, At w w' ls → ((real Tryz.prog (RR w [.slice] (fun r w' => SlO w w' [] ty_impl_Key 32 r (([] : List (List Int)).flatMap u8s) ∧ r.n = ([] : List (List Int)).length))).sem (Instr.buildSlice ty_sl_impl_Key 0 #[]) .slice fun y => (real Tryz.prog (RR w [.slice] (fun r w' => SlO w w' [] ty_impl_Key 32 r (([] : List (List Int)).flatMap u8s) ∧ r.n = ([] : List (List Int)).length))).ret (.slice y.a y.n y.c) : World → Prop) w' := fun h => r_bs0 T_sl_Key h fun y w2 hy hyn => r_ret hy.at_.nil y rfl ⟨by simpa using hy.base, hyn⟩
  have h := At.refl w
  refine r_ldN b.d (hb.d 1) ?_
  refine r_ldN (sh := .int .u8) b.tag (hb.tag 1) ?_
  refine r_eq (fun ht => ?_) (fun ht => ?_)
  · rw [if_pos ht]
    refine r_eq (fun h64 => ?_) (fun h64 => ?_)
    · rw [if_pos (by omega)]
      refine r_ldN b.d (hb.d 1) ?_
      refine r_call h (c_l05Keys hb.ok.bytes 0 2 (by omega) hmax) fun r w2 h2 hb2 ⟨hr, hrn⟩ => ?_
      exact r_ret h2.nil r rfl ⟨(SlO.lift h hr).base, by rw [hrn, keysN_len]⟩
    · rw [if_neg (by omega)]
      exact none_ h
  rw [if_neg ht]
  refine r_eq (fun ht5 => ?_) (fun ht5 => ?_)
  · rw [if_pos ht5]
    refine r_bs0 T_sl_Key h fun y w1 hy hyn => ?_
    obtain ⟨Ly, hOy, hA⟩ := hy.split
    refine r_ldN b.d (ldOk_below hA.below (hb.d 1)) ?_
    refine r_call hA (c_l04Read (hb.ok.bytes.below hA.below) hmax) fun r w2 h _ ⟨hr2, hrs, hr1, hrok⟩ => ?_
    refine r_new h fun b5 w3 h => ?_
    refine r_stA h 0 rfl rfl hrs rfl hr1 fun w4 h => ?_
    have h : At w w4 (Ly ++ [(b5, r.1, ty_impl_MapNode)]) := At.mid h
    have eqn : (if nodeOk b.data then [part32 b.data 0, part32 b.data 32].filter notEmpty else []) = (if nodeOk b.data then [part32 b.data 0].filter notEmpty else []) ++ (if nodeOk b.data then [part32 b.data 32].filter notEmpty else []) := by
      split
      · rw [← List.filter_append]; rfl
      · rfl
    rw [eqn, hr2]
    refine r_join (σ := Sl) (fun s w' => ∃ L, OwnS ty_impl_Key 32 s ((if nodeOk b.data then [part32 b.data 0].filter notEmpty else []).flatMap u8s) L ∧ s.n = (if nodeOk b.data then [part32 b.data 0].filter notEmpty else []).length ∧ At w w' (L ++ [(b5, r.1, ty_impl_MapNode)])) (fun s w5 hJ => ?_) ?_
    · obtain ⟨L, hO, hsn, h⟩ := hJ
      refine r_any fun _ => ?_
      refine r_draw h fun w6 h => ?_
      by_cases hok : nodeOk b.data
      · have h65 := hok.1
        have hnl : (nodeCells b.data).length = 66 := nodeCells_len (by omega)
        have hl1 : keyOk (part32 b.data 32) := part32_key (by omega) hb.ok.bytes.ok
        rw [hrok hok] at h
        rw [if_pos hok] at hO hsn
        rw [if_pos hok, if_pos hok]
        refine r_true (decide_eq_true hok) ?_
        have step : ∀ {w' : World}, At w w' (L ++ [(b5, (nodeCells b.data).toArray, ty_impl_MapNode)]) → (cond (!decide (part32 b.data 32 = emptyKey)) ((real Tryz.prog (RR w [.slice] (fun r w' => SlO w w' [] ty_impl_Key 32 r (([part32 b.data 0].filter notEmpty ++ [part32 b.data 32].filter notEmpty).flatMap u8s) ∧ r.n = ([part32 b.data 0].filter notEmpty ++ [part32 b.data 32].filter notEmpty).length))).ld .agg 32 ((Addr.mk b5 0 none).add 32) fun v57 =>
              (real Tryz.prog (RR w [.slice] (fun r w' => SlO w w' [] ty_impl_Key 32 r (([part32 b.data 0].filter notEmpty ++ [part32 b.data 32].filter notEmpty).flatMap u8s) ∧ r.n = ([part32 b.data 0].filter notEmpty ++ [part32 b.data 32].filter notEmpty).length))).sem (Instr.buildSlice ty_sl_impl_Key 1 #[(0, (.agg v57))]) .slice fun y58 =>
              (real Tryz.prog (RR w [.slice] (fun r w' => SlO w w' [] ty_impl_Key 32 r (([part32 b.data 0].filter notEmpty ++ [part32 b.data 32].filter notEmpty).flatMap u8s) ∧ r.n = ([part32 b.data 0].filter notEmpty ++ [part32 b.data 32].filter notEmpty).length))).sem (Builtin.append_ #[ty_sl_impl_Key, ty_sl_impl_Key] ty_sl_impl_Key #[(.slice s.a s.n s.c), (.slice y58.a y58.n y58.c)]) .slice fun y59 =>
              (real Tryz.prog (RR w [.slice] (fun r w' => SlO w w' [] ty_impl_Key 32 r (([part32 b.data 0].filter notEmpty ++ [part32 b.data 32].filter notEmpty).flatMap u8s) ∧ r.n = ([part32 b.data 0].filter notEmpty ++ [part32 b.data 32].filter notEmpty).length))).ret (.slice y59.a y59.n y59.c))
            ((real Tryz.prog (RR w [.slice] (fun r w' => SlO w w' [] ty_impl_Key 32 r (([part32 b.data 0].filter notEmpty ++ [part32 b.data 32].filter notEmpty).flatMap u8s) ∧ r.n = ([part32 b.data 0].filter notEmpty ++ [part32 b.data 32].filter notEmpty).length))).ret (.slice s.a s.n s.c)) : World → Prop) w' := by
          intro w' h
          by_cases he : part32 b.data 32 = emptyKey
          · have hf : [part32 b.data 32].filter notEmpty = [] := by simp [notEmpty, he]
            rw [hf, List.append_nil]
            refine r_false (by simp [he]) ?_
            exact r_ret h.nil s rfl ⟨(hO.slo h).base, hsn⟩
          · have hf : [part32 b.data 32].filter notEmpty = [part32 b.data 32] := by simp [notEmpty, he]
            rw [hf]
            refine r_true (by simp [he]) ?_
            refine r_ldP h.swap 0 rfl (add_lit _ _ _) (by simp [hnl]) ?_
            rw [show (0 + 32 : Nat) = 32 from rfl, nodeCells_right (by omega)]
            have hs1 : s.n ≤ 1 := by rw [hsn]; exact List.length_filter_le _ _
            refine r_push T_sl_Key (hO.slo h) (v := .agg (u8s (part32 b.data 32)).toArray) (by simp [Value.cells, hl1.1]) (by omega) (by simpa [Value.cells] using u8s_one) (by omega) (by omega) fun o2 w9 h9 hn9 => ?_
            refine r_ret h9.at_.nil o2 rfl ⟨?_, by rw [hn9, hsn, List.length_append]; rfl⟩
            rw [List.flatMap_append]
            simpa [Value.cells] using h9.base
        refine ⟨?_, ?_⟩
        · refine r_ldP h.swap 0 rfl (add_lit _ _ _) (by simp [hnl]) ?_
          rw [show (0 + 32 : Nat) = 32 from rfl, nodeCells_right (by omega)]
          refine r_call h (c_l04Empty _) fun r w7 h _ hr => ?_
          subst hr
          refine r_pur _ (fun w' => run_neq_key _ _ hl1.1 emptyKey_ok.1 w') ?_
          exact step h
        · refine r_call h (c_l04Empty _) fun r w7 h _ hr => ?_
          subst hr
          refine r_ldP h.swap 0 rfl (add_lit _ _ _) (by simp [hnl]) ?_
          rw [show (0 + 32 : Nat) = 32 from rfl, nodeCells_right (by omega)]
          refine r_pur _ (fun w' => run_neq_key _ _ hl1.1 emptyKey_ok.1 w') ?_
          exact step h
      · rw [if_neg hok] at hO hsn
        rw [if_neg hok, if_neg hok, List.append_nil]
        refine r_false (decide_eq_false hok) ?_
        exact ⟨r_ret h.nil s rfl ⟨(hO.slo h).base, hsn⟩, r_ret h.nil s rfl ⟨(hO.slo h).base, hsn⟩⟩
    · refine r_draw h fun w6 h => ?_
      by_cases hok : nodeOk b.data
      · have h65 := hok.1
        have hnl : (nodeCells b.data).length = 66 := nodeCells_len (by omega)
        have hl1 : keyOk (part32 b.data 0) := part32_key (by omega) hb.ok.bytes.ok
        have hre := hrok hok
        rw [hre] at h ⊢
        rw [if_pos hok]
        refine r_true (decide_eq_true hok) ?_
        have nope : part32 b.data 0 = emptyKey → ∀ {w' : World}, At w w' (Ly ++ [(b5, (nodeCells b.data).toArray, ty_impl_MapNode)]) → ∃ s' : Sl, (embL [Sh.slice] s' : List Value) = [Value.slice y.a y.n y.c] ∧ ∃ L, OwnS ty_impl_Key 32 s' (([part32 b.data 0].filter notEmpty).flatMap u8s) L ∧ s'.n = ([part32 b.data 0].filter notEmpty).length ∧ At w w' (L ++ [(b5, (nodeCells b.data).toArray, ty_impl_MapNode)]) := fun he w' h => by
          have hf : [part32 b.data 0].filter notEmpty = [] := by simp [notEmpty, he]
          rw [hf]
          exact ⟨y, rfl, Ly, by simpa using hOy, hyn, h⟩
        refine ⟨?_, ?_⟩
        · refine r_ldP h.swap 0 rfl (add_lit _ _ _) (by simp [hnl]) ?_
          rw [show (0 + 0 : Nat) = 0 from rfl, nodeCells_left (by omega)]
          refine r_call h (c_l04Empty _) fun r w7 h _ hr => ?_
          subst hr
          refine r_pur _ (fun w' => run_neq_key _ _ hl1.1 emptyKey_ok.1 w') ?_
          by_cases he : part32 b.data 0 = emptyKey
          · refine r_false (by simp [he]) ?_
            exact nope he h
          · refine r_true (by simp [he]) ?_
            refine r_ldP h.swap 0 rfl (add_lit _ _ _) (by simp [hnl]) ?_
            rw [show (0 + 0 : Nat) = 0 from rfl, nodeCells_left (by omega)]
            refine r_push T_sl_Key (hOy.slo h) (v := .agg (u8s (part32 b.data 0)).toArray) (by simp [Value.cells, hl1.1]) (by omega) (by simpa [Value.cells] using u8s_one) (by omega) (by omega) fun o2 w9 h9 hn9 => ?_
            obtain ⟨L9, hO9, h⟩ := h9.split
            have hf : [part32 b.data 0].filter notEmpty = [part32 b.data 0] := by simp [notEmpty, he]
            rw [hf]
            exact ⟨o2, rfl, L9, by simpa [Value.cells] using hO9, by rw [hn9, hyn]; rfl, h⟩
        · refine r_call h (c_l04Empty _) fun r w7 h _ hr => ?_
          subst hr
          refine r_ldP h.swap 0 rfl (add_lit _ _ _) (by simp [hnl]) ?_
          rw [show (0 + 0 : Nat) = 0 from rfl, nodeCells_left (by omega)]
          refine r_pur _ (fun w' => run_neq_key _ _ hl1.1 emptyKey_ok.1 w') ?_
          by_cases he : part32 b.data 0 = emptyKey
          · refine r_false (by simp [he]) ?_
            exact nope he h
          · refine r_true (by simp [he]) ?_
            refine r_ldP h.swap 0 rfl (add_lit _ _ _) (by simp [hnl]) ?_
            rw [show (0 + 0 : Nat) = 0 from rfl, nodeCells_left (by omega)]
            refine r_push T_sl_Key (hOy.slo h) (v := .agg (u8s (part32 b.data 0)).toArray) (by simp [Value.cells, hl1.1]) (by omega) (by simpa [Value.cells] using u8s_one) (by omega) (by omega) fun o2 w9 h9 hn9 => ?_
            obtain ⟨L9, hO9, h⟩ := h9.split
            have hf : [part32 b.data 0].filter notEmpty = [part32 b.data 0] := by simp [notEmpty, he]
            rw [hf]
            exact ⟨o2, rfl, L9, by simpa [Value.cells] using hO9, by rw [hn9, hyn]; rfl, h⟩
      · rw [if_neg hok]
        refine r_false (decide_eq_false hok) ?_
        exact ⟨⟨y, rfl, Ly, by simpa using hOy, hyn, h⟩, ⟨y, rfl, Ly, by simpa using hOy, hyn, h⟩⟩
  rw [if_neg ht5]
  refine r_eq (fun ht6 => ?_) (fun ht6 => ?_)
  · rw [if_pos ht6]
    have em : Int.tmod (b.d.n : Int) 32 = ((b.d.n % 32 : Nat) : Int) := rfl
    have ed : IntKind.wrap .i64 (Int.tdiv (b.d.n : Int) 32) = ((b.data.length / 32 : Nat) : Int) := by
      have : Int.tdiv (b.d.n : Int) 32 = ((b.d.n / 32 : Nat) : Int) := rfl
      rw [this, w64 (by omega) (by omega), hdn]
    rw [em, ed]
    refine r_eq (fun h64 => ?_) (fun h64 => ?_)
    · rw [if_pos (by omega)]
      refine r_ldN b.d (hb.d 1) ?_
      refine r_call h (c_l05Keys hb.ok.bytes 0 (b.data.length / 32) (by omega) hmax) fun r w2 h2 hb2 ⟨hr, hrn⟩ => ?_
      exact r_ret h2.nil r rfl ⟨(SlO.lift h hr).base, by rw [hrn, keysN_len]⟩
    · rw [if_neg (by omega)]
      exact none_ h
  rw [if_neg ht6]
  refine r_eq (fun ht7 => ?_) (fun ht7 => ?_)
  · rw [if_pos ht7]
    have e1 : ∀ x : Int, 0 ≤ x → x < 256 → IntKind.wrap .i64 (1 + IntKind.wrap .i64 (32 * IntKind.wrap .i64 x)) = ((1 + 32 * x.toNat : Nat) : Int) := fun x h0 h1 => by rw [w64 (n := x) (by omega) (by omega), w64 (n := 32 * x) (by omega) (by omega), w64 (by omega) (by omega)]; omega
    refine r_join (σ := Bool) (fun s w' => s = decide (1 ≤ b.data.length ∧ 1 + 32 * byte0 b.data ≤ b.data.length) ∧ At w w' []) (fun s w2 hJ => ?_) ?_
    · obtain ⟨rfl, h⟩ := hJ
      refine r_any fun _ => ?_
      by_cases hc : 1 ≤ b.data.length ∧ 1 + 32 * byte0 b.data ≤ b.data.length
      · rw [if_pos hc]
        have hg := getD_byte hb.ok.bytes.ok (i := 0) (by omega)
        have hby : byte0 b.data = (b.data.getD 0 0).toNat := rfl
        refine r_true (decide_eq_true hc) ?_
        refine r_draw h fun w3 h => ?_
        refine r_ldN b.d (ldOk_below h.below (hb.d 1)) ?_
        refine r_ldN b.d (ldOk_below h.below (hb.d 1)) ?_
        obtain ⟨q, hq, hc0⟩ := hb.ok.bytes.sl.cell 0 (.int .u8 (b.data.getD 0 0)) (u8s_get (by omega))
        have l0 : ∀ {w' : World} {ls : List Blk}, At w w' ls → ldOk w' 1 (q.add ((0 : Int).toNat * 1)) (.int .u8) (b.data.getD 0 0) := fun h => ldOk_below h.below (show ldOk w 1 (q.add 0) (.int .u8) _ from hc0)
        refine r_ix q hq (by omega) (by omega) ?_
        refine r_ldN (sh := .int .u8) (b.data.getD 0 0) (l0 h) ?_
        have e2 : IntKind.wrap .i64 (b.data.getD 0 0) = ((byte0 b.data : Nat) : Int) := by rw [w64 (by omega) (by omega)]; omega
        rw [e2]
        refine r_call h (c_l05Keys (hb.ok.bytes.below h.below) 1 (byte0 b.data) (by omega) hmax) fun r w4 h4 hb4 ⟨hr, hrn⟩ => ?_
        refine r_chk2 ?_ ?_ ?_
        · exact l0 h4
        · exact ldOk_below h4.below (hb.d 1)
        exact r_ret h4.nil r rfl ⟨(SlO.lift h hr).base, by rw [hrn, keysN_len]⟩
      · rw [if_neg hc]
        refine r_false (decide_eq_false hc) ?_
        exact none_ h
    · refine r_if ((b.d.n : Int) > 0) rfl (fun hgt => ?_) (fun hle => ?_)
      · have hg := getD_byte hb.ok.bytes.ok (i := 0) (by omega)
        refine r_ldN b.d (hb.d 1) ?_
        obtain ⟨q, hq, hc0⟩ := hb.ok.bytes.sl.cell 0 (.int .u8 (b.data.getD 0 0)) (u8s_get (by omega))
        refine r_ix q hq (by omega) (by omega) ?_
        refine r_ldN (sh := .int .u8) (b.data.getD 0 0) hc0 ?_
        rw [e1 _ hg.1 hg.2]
        refine ⟨_, rfl, ?_, h⟩
        have hby : byte0 b.data = (b.data.getD 0 0).toNat := rfl
        congr 1
        apply propext
        omega
      · refine ⟨false, rfl, ?_, h⟩
        rw [decide_eq_false]
        omega
  · rw [if_neg ht7]
    exact none_ h)

end Go.Proofs.YtkifkdkjljcclaaGreat
