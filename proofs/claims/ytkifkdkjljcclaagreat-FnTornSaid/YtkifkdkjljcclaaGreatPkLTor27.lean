/- StoreList: the reference. -/
import Derived.Test.YtkifkdkjljcclaaGreatPkLTor26
namespace Go.Proofs.YtkifkdkjljcclaaGreat
open Go.Sx Go.RowKit

def putsSt : List PB → List PB → List PB × Int
  | B, [] => (B, 0)
  | B, c :: r => if (putAns B c).2.2 ≠ 0 then ((putAns B c).1, (putAns B c).2.2) else putsSt (putAns B c).1 r
theorem putsSt_cons (B : List PB) (c : PB) (r : List PB) : putsSt B (c :: r) = if (putAns B c).2.2 ≠ 0 then ((putAns B c).1, (putAns B c).2.2) else putsSt (putAns B c).1 r := rfl
theorem putsSt_one (B : List PB) (c : PB) : putsSt B [c] = ((putAns B c).1, (putAns B c).2.2) := by
  rw [putsSt_cons]
  split
  · rfl
  · rename_i h
    have h : (putAns B c).2.2 = 0 := by omega
    rw [h]
    rfl
theorem putsSt_append : ∀ (A B C : List PB), putsSt B (A ++ C) = if (putsSt B A).2 ≠ 0 then putsSt B A else putsSt (putsSt B A).1 C
  | [], B, C => by simp [putsSt]
  | c :: r, B, C => by
    rw [List.cons_append, putsSt_cons, putsSt_cons]
    by_cases h : (putAns B c).2.2 ≠ 0
    · simp only [if_pos h]
    · simp only [if_neg h]
      exact putsSt_append r _ C
theorem putsAns_st : ∀ (cs B : List PB) (k : List Int), (putsAns B k cs).2.2 = (putsSt B cs).2 ∧ ((putsSt B cs).2 = 0 → (putsAns B k cs).1 = (putsSt B cs).1)
  | [], B, k => ⟨rfl, fun _ => rfl⟩
  | c :: r, B, k => by
    have e : putsAns B k (c :: r) = if (putAns B c).2.2 ≠ 0 then ([], zero32, (putAns B c).2.2) else putsAns (putAns B c).1 (putAns B c).2.1 r := rfl
    rw [e, putsSt_cons]
    by_cases h : (putAns B c).2.2 ≠ 0
    · rw [if_pos h, if_pos h]
      exact ⟨rfl, fun hh => absurd hh h⟩
    · rw [if_neg h, if_neg h]
      exact putsAns_st r _ _
theorem putAns_all2 {p : PB → Prop} {B : List PB} {c : PB} (h : ∀ b ∈ B, p b) (hc : p c) : ∀ b ∈ (putAns B c).1, p b := by
  unfold putAns
  split
  · split <;> exact h
  · split
    · exact h
    · intro b hb
      rcases mem_insAt hb with rfl | hb
      · exact hc
      · exact h b hb
theorem putAns_k {B : List PB} {c : PB} (h : (putAns B c).2.2 = 0) : (putAns B c).2.1 = c.key := by
  unfold putAns at h ⊢
  by_cases h1 : c.key ∈ keysOf B
  · rw [if_pos h1] at h ⊢
    by_cases h2 : B[posK (keysOf B) c.key]? = some c
    · rw [if_pos h2]
    · rw [if_neg h2] at h; simp at h
  · rw [if_neg h1] at h ⊢
    by_cases h2 : 128 ≤ B.length
    · rw [if_pos h2] at h; simp at h
    · rw [if_neg h2]
theorem putAns_kz {B : List PB} {c : PB} (h : (putAns B c).2.2 ≠ 0) : (putAns B c).2.1 = zero32 := by
  unfold putAns at h ⊢
  by_cases h1 : c.key ∈ keysOf B
  · rw [if_pos h1] at h ⊢
    by_cases h2 : B[posK (keysOf B) c.key]? = some c
    · rw [if_pos h2] at h; simp at h
    · rw [if_neg h2]
  · rw [if_neg h1] at h ⊢
    by_cases h2 : 128 ≤ B.length
    · rw [if_pos h2]
    · rw [if_neg h2] at h; simp at h

def SpecSt (w0 w : World) (ls : List Blk) (b : Nat) (B : List PB) : Prop := ∃ (bs : List BR) (L Ld : List Blk), At w0 w (L ++ (Ld ++ ls)) ∧ SpecO b (keysOf B) bs L ∧ bs.map BR.pb = B ∧ (∀ x ∈ bs, ∀ w' : World, At w0 w' Ld → x.Ok w') ∧ good B ∧ ∀ x ∈ B, x.data.length ≤ 1073741824
theorem c_put2 {w0 w : World} {ls L Ld : List Blk} {b : Nat} {B : List PB} {bs : List BR} {c : BR} (hA : At w0 w (L ++ (Ld ++ ls))) (hO : SpecO b (keysOf B) bs L) (hpb : bs.map BR.pb = B) (hbs : ∀ x ∈ bs, ∀ w' : World, At w0 w' Ld → x.Ok w') (hg : good B) (hbd : ∀ x ∈ B, x.data.length ≤ 1073741824) (hc : ∀ w' : World, At w0 w' Ld → c.Ok w') (hcd : c.data.length ≤ 1073741824) :
    Calls Tryz.prog n_ptr_spec_l05Store_put [.pointer (some ⟨b, 0, none⟩), .agg c.cells.toArray].toArray w fun e w' => ∃ v, e = .returned v ∧ v = .tuple #[.agg (u8s (putAns B c.pb).2.1).toArray, .int .i64 (putAns B c.pb).2.2] ∧ SpecSt w0 w' ls b (putAns B c.pb).1 := by
  refine (c_spec_put hA hO hpb (fun x hx w' h => hbs x hx w' h.left) (fun w' h => hc w' h.left) (by omega) hg hbd).mono fun e w' ⟨v, he, bs', L', hv, h, hO', hpb', hbs'⟩ => ?_
  have hcok : c.pb.ok := (hc w (by simpa using (hA.take Ld ((List.sublist_append_left _ _).trans (List.sublist_append_right _ _))))).pb
  refine ⟨v, he, hv, bs', L', Ld, h, hO', hpb', fun x hx w'' h' => ?_, putAns_good hg ⟨by show c.data.length ≤ _; omega, hcok⟩, putAns_all2 hbd hcd⟩
  rcases hbs' x hx with rfl | hx
  · exact hc w'' h'
  · exact hbs x hx w'' h'

theorem snoc_u8 {a : List Int} {k : Nat} (h : k < a.length) : u8s (a.take k) ++ [Value.int .u8 (a.getD k 0)] = u8s (a.take (k + 1)) := by
  rw [List.take_add_one, u8s_append]
  simp [List.getElem?_eq_getElem h, List.getD, u8s]

theorem c_specList : ∀ (f : Nat) {w0 w : World} {ls : List Blk} {b : Nat} {B : List PB} {s : Sl} {ks : List (List Int)}, SpecSt w0 w ls b B → (∀ {w'}, At w0 w' ls → KsR w' s ks) → ks.length < f → 1 ≤ ks.length → ks.length ≤ 65536 →
    Calls Tryz.prog n_ptr_spec_l05Store_list [.pointer (some ⟨b, 0, none⟩), .slice s.a s.n s.c].toArray w fun e w' => ∃ v, e = .returned v ∧ v = .tuple #[.agg (u8s (if (putsSt B (nodesF f ks)).2 = 0 then keyF f ks else zero32)).toArray, .int .i64 (putsSt B (nodesF f ks)).2] ∧ SpecSt w0 w' ls b (putsSt B (nodesF f ks)).1
  | 0, _, _, _, _, _, _, _, _, _, h, _, _ => by omega
  | f + 1, w0, w, ls, b, B, s, ks, hS, hks, hf, h1, hm => ptr_spec_l05Store_list_calls _ _ (by
    unfold ptr_spec_l05Store_list
    obtain ⟨bs, L, Ld, h, hO, hpb, hbs, hg, hbd⟩ := hS
    have hs0 := hks h.right.right
    have hn := hs0.n
    have hcap := hs0.of.cap
    have hkok := hs0.ok
    refine r_new h fun b4 w1 h => ?_
    have h : At w0 w1 ([(b4, Array.replicate 32 (.int .u8 0), ty_impl_Key)] ++ (L ++ (Ld ++ ls))) := h
    rw [show s.n = ks.length from hn]
    refine r_eq (fun he1 => ?_) (fun hne1 => ?_)
    · have hnil : nodesF (f + 1) ks = [] := by rw [nodesF_succ, if_pos (by omega)]
      rw [hnil]
      obtain ⟨k, p, hk, _, hp, hko, hag⟩ := (hks h.right.right.right).get (i := 0) (by omega)
      have hT : keyF (f + 1) ks = k := by
        rw [keyF_succ, if_neg (by omega), if_pos (by omega)]
        cases ks with
        | nil => simp at hk
        | cons x r => simpa using hk
      rw [hT]
      refine r_ix p hp (by omega) (by omega) ?_
      refine r_ldN (u8s k).toArray hag ?_
      refine r_stA h 0 rfl rfl (by simp [hko.1]) (by simp) (by simpa using u8s_one) fun w2 h => ?_
      refine r_ldA h 0 rfl rfl (by simp [hko.1]) ?_
      have h : At w0 w2 ([(b4, (u8s k).toArray, ty_impl_Key)] ++ (L ++ (Ld ++ ls))) := h
      exact r_retR ⟨rfl, bs, L, Ld, h.right, hO, hpb, hbs, hg, hbd⟩
    obtain ⟨hh1, hh2⟩ := half_lt (n := ks.length) (by omega)
    generalize hP : putsSt B (nodesF (f + 1) ks) = P
    generalize hT : keyF (f + 1) ks = T
    rw [nodesF_succ, if_neg (by omega), List.append_assoc, putsSt_append] at hP
    rw [keyF_succ, if_neg (by omega), if_neg (by omega)] at hT
    refine r_callp (c_l03Half ks.length (by omega) (by omega)) ?_
    refine r_sl 0 (half ks.length) rfl rfl (by omega) (by omega) ?_
    have sub1 : ∀ {w'}, At w0 w' ([(b4, Array.replicate 32 (.int .u8 0), ty_impl_Key)] ++ ls) → KsR w' ⟨if s.c = 0 then s.a else s.a.map (·.add (0 * 32)), half ks.length - 0, s.c - 0⟩ (ks.take (half ks.length)) := fun h => by
      have hs1 := (hks h.right).sub 0 (half ks.length) (by omega) (by omega)
      rw [List.drop_zero, Nat.sub_zero] at hs1
      exact hs1
    generalize (⟨if s.c = 0 then s.a else s.a.map (·.add (0 * 32)), half ks.length - 0, s.c - 0⟩ : Sl) = y27 at sub1 ⊢
    have k1 := keyF_ok f (ks.take (half ks.length)) (fun k hk => hkok k (List.mem_of_mem_take hk))
    have k2 := keyF_ok f (ks.drop (half ks.length)) (fun k hk => hkok k (List.mem_of_mem_drop hk))
    refine r_callR (c_specList f (ls := [(b4, Array.replicate 32 (.int .u8 0), ty_impl_Key)] ++ ls) ⟨bs, L, Ld, h.pl1.pl2.pl1, hO, hpb, hbs, hg, hbd⟩ sub1 (by rw [List.length_take]; omega) (by rw [List.length_take]; omega) (by rw [List.length_take]; omega)) ?_
    clear hbs hO h
    generalize putsSt B (nodesF f (ks.take (half ks.length))) = P1 at hP
    generalize keyF f (ks.take (half ks.length)) = K1 at hT k1 hP
    rintro v w2 ⟨rfl, bs1, L1, Ld1, h, hO1, hpb1, hbs1, hg1, hbd1⟩
    refine ⟨(_, P1.2), rfl, ?_⟩
    refine r_new h fun b7 w3 h => ?_
    have kk1 : keyOk (if P1.2 = 0 then K1 else zero32) := by
      split
      · exact k1
      · exact zero32_ok
    refine r_stA h 0 rfl rfl (by simp [kk1.1]) (by simp [Value.cells]) (by simpa using u8s_one) fun w4 h => ?_
    by_cases hc1 : P1.2 = 0
    · rw [if_neg (fun hh => hh hc1)] at hP
      rw [if_pos hc1] at h
      refine r_ne (fun hne => absurd hc1 hne) (fun _ => ?_)
      have h : At w0 w4 ([(b7, (u8s K1).toArray, ty_impl_Key)] ++ (L1 ++ (Ld1 ++ ([(b4, Array.replicate 32 (.int .u8 0), ty_impl_Key)] ++ ls)))) := h
      refine r_sl (half ks.length) ks.length rfl rfl (by omega) (by omega) ?_
      have sub2 : ∀ {w'}, At w0 w' ([(b7, (u8s K1).toArray, ty_impl_Key), (b4, Array.replicate 32 (.int .u8 0), ty_impl_Key)] ++ ls) → KsR w' ⟨if s.c = half ks.length then s.a else s.a.map (·.add (half ks.length * 32)), ks.length - half ks.length, s.c - half ks.length⟩ (ks.drop (half ks.length)) := fun h => by
        have hs2 := (hks h.right).sub (half ks.length) ks.length (by omega) (by omega)
        rw [List.take_of_length_le (by rw [List.length_drop]; omega)] at hs2
        exact hs2
      generalize (⟨if s.c = half ks.length then s.a else s.a.map (·.add (half ks.length * 32)), ks.length - half ks.length, s.c - half ks.length⟩ : Sl) = y39 at sub2 ⊢
      refine r_callR (c_specList f (ls := [(b7, (u8s K1).toArray, ty_impl_Key), (b4, Array.replicate 32 (.int .u8 0), ty_impl_Key)] ++ ls) ⟨bs1, L1, Ld1, h.pl1.pl2.pl1, hO1, hpb1, hbs1, hg1, hbd1⟩ sub2 (by rw [List.length_drop]; omega) (by rw [List.length_drop]; omega) (by rw [List.length_drop]; omega)) ?_
      clear hbs1 hO1 h
      rw [putsSt_append] at hP
      generalize putsSt P1.1 (nodesF f (ks.drop (half ks.length))) = P2 at hP
      generalize keyF f (ks.drop (half ks.length)) = K2 at hT k2 hP
      rintro v w5 ⟨rfl, bs2, L2, Ld2, h, hO2, hpb2, hbs2, hg2, hbd2⟩
      refine ⟨(_, P2.2), rfl, ?_⟩
      refine r_new h fun b9 w6 h => ?_
      have kk2 : keyOk (if P2.2 = 0 then K2 else zero32) := by
        split
        · exact k2
        · exact zero32_ok
      refine r_stA h 0 rfl rfl (by simp [kk2.1]) (by simp [Value.cells]) (by simpa using u8s_one) fun w7 h => ?_
      by_cases hc2 : P2.2 = 0
      · rw [if_neg (fun hh => hh hc2), putsSt_one] at hP
        rw [if_pos hc2] at h
        refine r_ne (fun hne => absurd hc2 hne) (fun _ => ?_)
        have h : At w0 w7 ([(b9, (u8s K2).toArray, ty_impl_Key)] ++ (L2 ++ (Ld2 ++ ([(b7, (u8s K1).toArray, ty_impl_Key), (b4, Array.replicate 32 (.int .u8 0), ty_impl_Key)] ++ ls)))) := h
        have h : At w0 w7 ([(b9, (u8s K2).toArray, ty_impl_Key), (b7, (u8s K1).toArray, ty_impl_Key), (b4, Array.replicate 32 (.int .u8 0), ty_impl_Key)] ++ (L2 ++ (Ld2 ++ ls))) := h.pl3.pl1
        have hk1 := k1.1
        have hk2 := k2.1
        refine r_bs0 T_sl_uint8' h fun y w8 hy hyn => ?_
        refine r_loop (σ := Sl × Int) (fun i w' => ∃ k : Nat, i.2 = k ∧ k ≤ 32 ∧ SlO w0 w' ([(b9, (u8s K2).toArray, ty_impl_Key), (b7, (u8s K1).toArray, ty_impl_Key), (b4, Array.replicate 32 (.int .u8 0), ty_impl_Key)] ++ (L2 ++ (Ld2 ++ ls))) ty_uint8 1 i.1 (u8s (K1.take k)) ∧ i.1.n = k) (fun i _ => (32 - i.2).toNat) (y, 0) rfl
          ⟨0, rfl, by omega, by simpa [u8s] using hy, hyn⟩ ?_
        clear hy h
        rintro ⟨s3, i⟩ w9 ⟨k, hi, hk, h, hsn⟩
        dsimp only at hi h hsn
        subst hi
        refine r_any fun _ => ?_
        dsimp only
        refine r_if ((k : Int) < 32) rfl (fun hlt => ?_) (fun hge => ?_)
        · refine r_ix ⟨b7, 0, none⟩ rfl (by omega) (by omega) ?_
          refine r_ld h.at_ 1 rfl (add_lit _ _ _) (K1.getD k 0) (by simp [Sh.emb]) (by simp only [Int.toNat_natCast, Nat.zero_add, Nat.mul_one]; exact u8s_arr (by omega)) ?_
          refine r_push T_sl_uint8' h rfl (by omega) (by simp [Value.cells, oneC]) (by omega) (by omega) fun s2 w6 h6 hn6 => ?_
          exact ⟨(s2, ((k + 1 : Nat) : Int)), by rw [w64 (by omega) (by omega)]; rfl, ⟨k + 1, rfl, by omega, by rw [← snoc_u8 (by omega)]; simpa [Value.cells] using h6, by dsimp only; omega⟩, by dsimp only; omega⟩
        have hk32 : k = 32 := by omega
        subst hk32
        rw [List.take_of_length_le (by omega)] at h
        refine r_loop (σ := Sl × Int) (fun i w' => ∃ k : Nat, i.2 = k ∧ k ≤ 32 ∧ SlO w0 w' ([(b9, (u8s K2).toArray, ty_impl_Key), (b7, (u8s K1).toArray, ty_impl_Key), (b4, Array.replicate 32 (.int .u8 0), ty_impl_Key)] ++ (L2 ++ (Ld2 ++ ls))) ty_uint8 1 i.1 (u8s (K1 ++ K2.take k)) ∧ i.1.n = 32 + k) (fun i _ => (32 - i.2).toNat) (s3, 0) rfl
          ⟨0, rfl, by omega, by simpa using h, by dsimp only; omega⟩ ?_
        clear h
        rintro ⟨s4, i⟩ w10 ⟨k, hi, hk, h, hsn⟩
        dsimp only at hi h hsn
        subst hi
        refine r_any fun _ => ?_
        dsimp only
        refine r_if ((k : Int) < 32) rfl (fun hlt => ?_) (fun hge => ?_)
        · refine r_ix ⟨b9, 0, none⟩ rfl (by omega) (by omega) ?_
          refine r_ld h.at_ 0 rfl (add_lit _ _ _) (K2.getD k 0) (by simp [Sh.emb]) (by simp only [Int.toNat_natCast, Nat.zero_add, Nat.mul_one]; exact u8s_arr (by omega)) ?_
          refine r_push T_sl_uint8' h rfl (by omega) (by simp [Value.cells, oneC]) (by omega) (by omega) fun s2 w6 h6 hn6 => ?_
          exact ⟨(s2, ((k + 1 : Nat) : Int)), by rw [w64 (by omega) (by omega)]; rfl, ⟨k + 1, rfl, by omega, by dsimp only; rw [show u8s (K1 ++ K2.take (k + 1)) = u8s (K1 ++ K2.take k) ++ [Value.int .u8 (K2.getD k 0)] by rw [u8s_append, ← snoc_u8 (by omega), u8s_append, List.append_assoc]]; simpa [Value.cells] using h6, by dsimp only; omega⟩, by dsimp only; omega⟩
        have hk32 : k = 32 := by omega
        subst hk32
        rw [List.take_of_length_le (by omega)] at h
        obtain ⟨Ly, hOy, h⟩ := h.split
        have h : At w0 w10 (Ly ++ ([(b9, (u8s K2).toArray, ty_impl_Key), (b7, (u8s K1).toArray, ty_impl_Key), (b4, Array.replicate 32 (.int .u8 0), ty_impl_Key)] ++ (L2 ++ (Ld2 ++ ls)))) := h
        refine r_pur (sh := .agg) _ (run_mkBlob 2 s4) ?_
        have hkb : bytesOk (K1 ++ K2) := k1.2.append k2.2
        have h : At w0 w10 (L2 ++ ((Ly ++ Ld2) ++ ([(b9, (u8s K2).toArray, ty_impl_Key), (b7, (u8s K1).toArray, ty_impl_Key), (b4, Array.replicate 32 (.int .u8 0), ty_impl_Key)] ++ ls))) := by
          have := h.pl1.pl3.pl2.pl3
          simpa [List.append_assoc] using this
        refine r_callR (c_put2 (c := ⟨2, s4, K1 ++ K2⟩) h hO2 hpb2 (fun x hx w' hA => hbs2 x hx w' hA.right) hg2 hbd2 (fun w' hA => ⟨ownS_bytes hOy hA (List.sublist_append_left _ _) hkb, by show (0 : Int) ≤ 2; omega, by show (2 : Int) < 256; omega⟩) (by show (K1 ++ K2).length ≤ _; rw [List.length_append]; omega)) ?_
        rw [show (⟨2, s4, K1 ++ K2⟩ : BR).pb = ⟨2, K1 ++ K2⟩ from rfl]
        rintro v w11 ⟨rfl, bs3, L3, Ld3, h, hO3, hpb3, hbs3, hg3, hbd3⟩
        refine ⟨(_, _), rfl, ?_⟩
        have hpk := putAns_key P2.1 ⟨2, K1 ++ K2⟩ (PB.key_ok _)
        have h : At w0 w11 ([(b9, (u8s K2).toArray, ty_impl_Key), (b7, (u8s K1).toArray, ty_impl_Key), (b4, Array.replicate 32 (.int .u8 0), ty_impl_Key)] ++ (L3 ++ (Ld3 ++ ls))) := h.pl2
        refine r_stA h 2 rfl rfl (by simp [hpk.1]) (by simp) (by simpa using u8s_one) fun w12 h => ?_
        refine r_ldA h 2 rfl rfl (by simp [hpk.1]) ?_
        have h : At w0 w12 ([(b9, (u8s K2).toArray, ty_impl_Key), (b7, (u8s K1).toArray, ty_impl_Key), (b4, (u8s (putAns P2.1 ⟨2, K1 ++ K2⟩).2.1).toArray, ty_impl_Key)] ++ (L3 ++ (Ld3 ++ ls))) := h
        refine r_retR ⟨?_, ?_⟩
        · rw [← hP]
          by_cases hc3 : (putAns P2.1 ⟨2, K1 ++ K2⟩).2.2 = 0
          · rw [if_pos hc3, putAns_k hc3, ← hT]
            rfl
          · rw [if_neg hc3, putAns_kz hc3]
        · rw [← hP]
          exact ⟨bs3, L3, Ld3, h.right, hO3, hpb3, hbs3, hg3, hbd3⟩
      · rw [if_pos hc2] at hP
        subst hP
        refine r_ne (fun _ => ?_) (fun heq => absurd heq hc2)
        have h : At w0 w7 ([(b9, (u8s (if P2.2 = 0 then K2 else zero32)).toArray, ty_impl_Key)] ++ (L2 ++ (Ld2 ++ ([(b7, (u8s K1).toArray, ty_impl_Key), (b4, Array.replicate 32 (.int .u8 0), ty_impl_Key)] ++ ls)))) := h
        have h : At w0 w7 ([(b7, (u8s K1).toArray, ty_impl_Key), (b4, Array.replicate 32 (.int .u8 0), ty_impl_Key)] ++ (L2 ++ (Ld2 ++ ls))) := h.right.pl2
        refine r_stA h 1 rfl rfl (by simp) (by simp) (by simp [oneC]) fun w8 h => ?_
        refine r_ldA h 1 rfl rfl (by simp) ?_
        have h : At w0 w8 ([(b7, (u8s K1).toArray, ty_impl_Key), (b4, Array.replicate 32 (.int .u8 0), ty_impl_Key)] ++ (L2 ++ (Ld2 ++ ls))) := h
        exact r_retR ⟨by simp only [if_neg hc2]; rfl, bs2, L2, Ld2, h.right, hO2, hpb2, hbs2, hg2, hbd2⟩
    · rw [if_pos hc1] at hP
      subst hP
      refine r_ne (fun _ => ?_) (fun heq => absurd heq hc1)
      have h : At w0 w4 ([(b7, (u8s (if P1.2 = 0 then K1 else zero32)).toArray, ty_impl_Key)] ++ (L1 ++ (Ld1 ++ ([(b4, Array.replicate 32 (.int .u8 0), ty_impl_Key)] ++ ls)))) := h
      have h : At w0 w4 ([(b4, Array.replicate 32 (.int .u8 0), ty_impl_Key)] ++ (L1 ++ (Ld1 ++ ls))) := h.right.pl2
      refine r_stA h 0 rfl rfl (by simp) (by simp) (by simp [oneC]) fun w8 h => ?_
      refine r_ldA h 0 rfl rfl (by simp) ?_
      have h : At w0 w8 ([(b4, Array.replicate 32 (.int .u8 0), ty_impl_Key)] ++ (L1 ++ (Ld1 ++ ls))) := h
      exact r_retR ⟨by simp only [if_neg hc1]; rfl, bs1, L1, Ld1, h.right, hO1, hpb1, hbs1, hg1, hbd1⟩)
end Go.Proofs.YtkifkdkjljcclaaGreat
