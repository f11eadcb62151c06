/- A blob is put into the program's store with its keys. Printed by a program of this claim's author (s2.py). -/
import Derived.Test.YthaecdelaifccaaGreatPkLSM23
namespace Go.Proofs.YthaecdelaifccaaGreat
open Go.Sx Go.RowKit

def insAt {α : Type} (i : Nat) (x : α) (l : List α) : List α := l.take i ++ [x] ++ l.drop i
theorem insAt_map {α β : Type} (f : α → β) (i : Nat) (x : α) (l : List α) : (insAt i x l).map f = insAt i (f x) (l.map f) := by simp [insAt, List.map_take, List.map_drop]
theorem mem_insAt {α : Type} {i : Nat} {x y : α} {l : List α} (h : y ∈ insAt i x l) : y = x ∨ y ∈ l := by
  simp only [insAt, List.mem_append, List.mem_singleton] at h
  rcases h with (h | h) | h
  · exact .inr (List.mem_of_mem_take h)
  · exact .inl h
  · exact .inr (List.mem_of_mem_drop h)
theorem insAt_len {α : Type} {i : Nat} {x : α} {l : List α} (h : i ≤ l.length) : (insAt i x l).length = l.length + 1 := by simp [insAt]; omega

theorem ltL_of_not {a b : List Int} (h : ¬ ltL a b) (hne : a ≠ b) : ltL b a := by
  unfold ltL at *
  have := cmpL_range a b
  have h0 : cmpL a b ≠ 0 := fun hh => hne (cmpL_eq.1 hh)
  rw [cmpL_neg a b]
  omega
theorem asc_insAt {ks : List (List Int)} {k : List Int} (h : Asc ks) (hk : k ∉ ks) : Asc (insAt (posK ks k) k ks) := by
  have hl : ∀ x ∈ ks.take (posK ks k), ltL x k := by
    intro x hx
    obtain ⟨i, hi⟩ := List.mem_iff_getElem?.1 hx
    rw [List.getElem?_take] at hi
    split at hi
    · exact (posK_lt h hi).1 (by assumption)
    · cases hi
  have hr : ∀ x ∈ ks.drop (posK ks k), ltL k x := by
    intro x hx
    obtain ⟨i, hi⟩ := List.mem_iff_getElem?.1 hx
    rw [List.getElem?_drop] at hi
    refine ltL_of_not (fun hh => ?_) (fun hh => hk (hh ▸ List.mem_of_getElem? hi))
    have := (posK_lt h hi).2 hh
    omega
  unfold Asc insAt
  rw [List.append_assoc]
  refine List.pairwise_append.2 ⟨List.Pairwise.sublist (List.take_sublist _ _) h, List.pairwise_cons.2 ⟨hr, List.Pairwise.sublist (List.drop_sublist _ _) h⟩, ?_⟩
  intro a ha b hb
  rcases List.mem_cons.1 hb with rfl | hb
  · exact hl a ha
  · exact ltL_trans (hl a ha) (hr b hb)

def zero32 : List Int := List.replicate 32 0
theorem zero32_ok : keyOk zero32 := ⟨rfl, by intro b hb; simp [zero32] at hb; omega⟩

/-- What putting a blob comes to: the store, the key, the code. -/
def putAns (B : List PB) (c : PB) : List PB × List Int × Int :=
  if c.key ∈ keysOf B then (if B[posK (keysOf B) c.key]? = some c then (B, c.key, 0) else (B, zero32, 8))
  else if 128 ≤ B.length then (B, zero32, 3) else (insAt (posK (keysOf B) c.key) c B, c.key, 0)
theorem putAns_key (B : List PB) (c : PB) (hc : keyOk c.key) : keyOk (putAns B c).2.1 := by
  unfold putAns
  split
  · split
    · exact hc
    · exact zero32_ok
  · split
    · exact zero32_ok
    · exact hc

theorem flatMap_insAt {α : Type} {z : Nat} {f : α → List Value} {l : List α} (hl : ∀ x ∈ l, (f x).length = z) (i : Nat) (x : α) : (l.flatMap f).take (i * z) ++ f x ++ (l.flatMap f).drop (i * z) = (insAt i x l).flatMap f := by
  have key : ∀ (n : Nat) (ys : List α), (∀ x ∈ ys, (f x).length = z) → (ys.flatMap f).take (n * z) = (ys.take n).flatMap f ∧ (ys.flatMap f).drop (n * z) = (ys.drop n).flatMap f := by
    intro n
    induction n with
    | zero => intro ys _; simp
    | succ n ih =>
      intro ys hy
      cases ys with
      | nil => simp
      | cons y r =>
        have hz := hy y (by simp)
        obtain ⟨i1, i2⟩ := ih r (fun x hx => hy x (by simp [hx]))
        rw [List.flatMap_cons, Nat.add_mul, Nat.one_mul, Nat.add_comm, List.take_succ_cons, List.drop_succ_cons, List.flatMap_cons]
        constructor
        · rw [List.take_append, hz, List.take_of_length_le (by omega), Nat.add_sub_cancel_left, i1]
        · rw [List.drop_append, hz, List.drop_eq_nil_of_le (by omega), Nat.add_sub_cancel_left, i2, List.nil_append]
  rw [(key i l hl).1, (key i l hl).2]
  simp [insAt]

theorem flatU8_one (ks : List (List Int)) : ∀ v ∈ ks.flatMap u8s, oneC v = true := by
  intro v hv
  obtain ⟨k, _, hk⟩ := List.mem_flatMap.1 hv
  exact u8s_one v hk

theorem c_impl_put {w0 w : World} {ls L : List Blk} {b : Nat} {B : List PB} {bs : List BR} {c : BR} (hA : At w0 w (L ++ ls)) (hO : ShopO b (keysOf B) bs L) (hpb : bs.map BR.pb = B) (hbs : ∀ x ∈ bs, ∀ w' : World, At w0 w' ls → x.Ok w') (hc : ∀ w' : World, At w0 w' ls → c.Ok w') (hcd : c.data.length ≤ 35184372088832) (hasc : Asc (keysOf B)) (hmax : B.length ≤ 128) :
    Calls Tryz.prog n_ptr_impl_shop_put [.pointer (some ⟨b, 0, none⟩), .agg c.cells.toArray].toArray w fun e w' => ∃ v, e = .returned v ∧ ∃ (bs' : List BR) (L' : List Blk), v = .tuple #[.agg (u8s (putAns B c.pb).2.1).toArray, .int .i64 (putAns B c.pb).2.2] ∧ At w0 w' (L' ++ ls) ∧
      ShopO b (keysOf (putAns B c.pb).1) bs' L' ∧ bs'.map BR.pb = (putAns B c.pb).1 ∧ ∀ x ∈ bs', x = c ∨ x ∈ bs := ptr_impl_shop_put_calls _ _ (by
  unfold ptr_impl_shop_put
  have hkl : c.pb.key.length = 32 := c.pb.key_ok.1
  have hko : keyOk c.pb.key := c.pb.key_ok
  have hbl : bs.length = B.length := by rw [← hpb]; simp
  have hkB : (keysOf B).length = B.length := keysOf_len B
  have rd : ∀ {w' : World} {M : List Blk}, At w0 w' (L ++ (M ++ ls)) → ShopR w' ⟨b, 0, none⟩ (keysOf B) bs := fun hA => hO.rd hA (keysOf_ok _) (fun b hb => hbs b hb _ hA.right.right)
  refine r_new hA fun b3 w1 h => ?_
  refine r_new h fun b4 w2 h => ?_
  refine r_ldA h 1 rfl rfl rfl ?_
  refine r_call h (c_Blob_key (hc _ h.tail.tail.right) hcd) fun r w3 h _ hr => ?_
  subst hr
  refine r_new h fun b6 w4 h => ?_
  refine r_stA h 0 rfl rfl (by simp [hkl]) (by simp [Value.cells]) (by simpa using u8s_one) fun w5 h => ?_
  have h : At w0 w5 ([(b6, (u8s c.pb.key).toArray, ty_impl_Key), (b4, Array.replicate 32 (.int .u8 0), ty_impl_Key), (b3, c.cells.toArray, ty_impl_Blob)] ++ (L ++ ls)) := h
  refine r_ldA h 0 rfl rfl (by simp [hkl]) ?_
  refine r_call h (c_find (rd h.pl1) hasc hko (by omega)) fun r w6 h _ hr => ?_
  subst hr
  refine r_join (σ := Bool) (fun s w' => s = decide (c.pb.key ∈ keysOf B ∧ B[posK (keysOf B) c.pb.key]? ≠ some c.pb) ∧ At w0 w' ([(b6, (u8s c.pb.key).toArray, ty_impl_Key), (b4, Array.replicate 32 (.int .u8 0), ty_impl_Key), (b3, c.cells.toArray, ty_impl_Blob)] ++ (L ++ ls))) (fun s w7 hJ => ?_) ?_
  · obtain ⟨hs, h⟩ := hJ
    refine r_any fun _ => ?_
    by_cases hm : c.pb.key ∈ keysOf B
    · by_cases he : B[posK (keysOf B) c.pb.key]? = some c.pb
      · have hans : putAns B c.pb = (B, c.pb.key, 0) := by unfold putAns; rw [if_pos hm, if_pos he]
        rw [hans]
        refine r_false (by rw [hs, decide_eq_false]; rintro ⟨_, hh⟩; exact hh he) ?_
        refine r_true (decide_eq_true hm) ?_
        refine r_ldA h 0 rfl rfl (by simp [hkl]) ?_
        refine r_stA h 1 rfl rfl (by simp [hkl]) (by simp) (by simpa using u8s_one) fun w8 h8 => ?_
        refine r_ldA h8 1 rfl rfl (by simp [hkl]) ?_
        exact r_retR ⟨bs, L, rfl, At.right (A := [_, _, _]) h8, hO, hpb, fun x hx => .inr hx⟩
      · have hans : putAns B c.pb = (B, zero32, 8) := by unfold putAns; rw [if_pos hm, if_neg he]
        rw [hans]
        refine r_true (by rw [hs]; exact decide_eq_true ⟨hm, he⟩) ?_
        refine r_stA h 1 rfl rfl (by simp) (by simp) (by simp [oneC]) fun w8 h8 => ?_
        refine r_ldA h8 1 rfl rfl (by simp) ?_
        exact r_retR ⟨bs, L, rfl, At.right (A := [_, _, _]) h8, hO, hpb, fun x hx => .inr hx⟩
    · refine r_false (by rw [hs, decide_eq_false]; rintro ⟨hh, _⟩; exact hm hh) ?_
      refine r_false (decide_eq_false hm) ?_
      obtain ⟨sk, sb, Lk, Lb, rfl, hOk, hOb⟩ := hO
      have h : At w0 w7 ([(b6, (u8s c.pb.key).toArray, ty_impl_Key), (b4, Array.replicate 32 (.int .u8 0), ty_impl_Key), (b3, c.cells.toArray, ty_impl_Blob), (b, #[.slice sk.a sk.n sk.c, .slice sb.a sb.n sb.c], ty_impl_shop)] ++ (Lk ++ (Lb ++ ls))) := by simpa [List.append_assoc] using h
      have hskn : sk.n = B.length := by have := hOk.1; rw [flatMap_length (z := 32) (fun x hx => by rw [u8s_len]; exact (keysOf_ok B x hx).1)] at this; omega
      have hsbn : sb.n = B.length := by have := hOb.1; rw [flatMap_length (z := 2) (fun x _ => cells_len x)] at this; omega
      refine r_ld h 3 (o := 0) rfl (by simp [add_zero]) sk (by simp [Sh.emb]) rfl ?_
      refine r_eq (fun hfull => ?_) (fun hroom => ?_)
      · have hans : putAns B c.pb = (B, zero32, 3) := by unfold putAns; rw [if_neg hm, if_pos (by omega)]
        rw [hans]
        refine r_stA h 1 rfl rfl (by simp) (by simp) (by simp [oneC]) fun w8 h8 => ?_
        refine r_ldA h8 1 rfl rfl (by simp) ?_
        refine r_retR ⟨bs, (b, #[.slice sk.a sk.n sk.c, .slice sb.a sb.n sb.c], ty_impl_shop) :: (Lk ++ Lb), rfl, ?_, ⟨sk, sb, Lk, Lb, rfl, hOk, hOb⟩, hpb, fun x hx => .inr hx⟩
        have := At.right (A := [_, _, _]) h8
        simpa [List.append_assoc] using this
      · have hans : putAns B c.pb = (insAt (posK (keysOf B) c.pb.key) c.pb B, c.pb.key, 0) := by unfold putAns; rw [if_neg hm, if_neg (by omega)]
        rw [hans]
        have hple : posK (keysOf B) c.pb.key ≤ B.length := by have := posK_le (keysOf B) c.pb.key; omega
        have fin : ∀ (w9 : World) (tk tb : Sl) (Lk' Lb' : List Blk), At w0 w9 ([(b6, (u8s c.pb.key).toArray, ty_impl_Key), (b4, Array.replicate 32 (.int .u8 0), ty_impl_Key), (b3, c.cells.toArray, ty_impl_Blob), (b, #[.slice sk.a sk.n sk.c, .slice sb.a sb.n sb.c], ty_impl_shop)] ++ (Lk' ++ (Lb' ++ ls))) → OwnS ty_impl_Key 32 tk (((keysOf B).flatMap u8s).take (posK (keysOf B) c.pb.key * 32) ++ (Value.agg (u8s c.pb.key).toArray).cells.toList ++ ((keysOf B).flatMap u8s).drop (posK (keysOf B) c.pb.key * 32)) Lk' →
            OwnS ty_impl_Blob 2 tb ((bs.flatMap BR.cells).take (posK (keysOf B) c.pb.key * 2) ++ (Value.agg c.cells.toArray).cells.toList ++ (bs.flatMap BR.cells).drop (posK (keysOf B) c.pb.key * 2)) Lb' → tk.n = sk.n + 1 →
            ((real Tryz.prog (fun v w' => ∃ (bs' : List BR) (L' : List Blk), v = .tuple #[.agg (u8s c.pb.key).toArray, .int .i64 0] ∧ At w0 w' (L' ++ ls) ∧ ShopO b (keysOf (insAt (posK (keysOf B) c.pb.key) c.pb B)) bs' L' ∧ bs'.map BR.pb = insAt (posK (keysOf B) c.pb.key) c.pb B ∧ ∀ x ∈ bs', x = c ∨ x ∈ bs)).st 1 ((⟨b, 0, none⟩ : Addr).add 0) (.slice tk.a tk.n tk.c) <|
             (real Tryz.prog (fun v w' => ∃ (bs' : List BR) (L' : List Blk), v = .tuple #[.agg (u8s c.pb.key).toArray, .int .i64 0] ∧ At w0 w' (L' ++ ls) ∧ ShopO b (keysOf (insAt (posK (keysOf B) c.pb.key) c.pb B)) bs' L' ∧ bs'.map BR.pb = insAt (posK (keysOf B) c.pb.key) c.pb B ∧ ∀ x ∈ bs', x = c ∨ x ∈ bs)).st 1 ((⟨b, 0, none⟩ : Addr).add 1) (.slice tb.a tb.n tb.c) <|
             (real Tryz.prog (fun v w' => ∃ (bs' : List BR) (L' : List Blk), v = .tuple #[.agg (u8s c.pb.key).toArray, .int .i64 0] ∧ At w0 w' (L' ++ ls) ∧ ShopO b (keysOf (insAt (posK (keysOf B) c.pb.key) c.pb B)) bs' L' ∧ bs'.map BR.pb = insAt (posK (keysOf B) c.pb.key) c.pb B ∧ ∀ x ∈ bs', x = c ∨ x ∈ bs)).ld .agg 32 (Addr.mk b6 0 none) fun v65 =>
             (real Tryz.prog (fun v w' => ∃ (bs' : List BR) (L' : List Blk), v = .tuple #[.agg (u8s c.pb.key).toArray, .int .i64 0] ∧ At w0 w' (L' ++ ls) ∧ ShopO b (keysOf (insAt (posK (keysOf B) c.pb.key) c.pb B)) bs' L' ∧ bs'.map BR.pb = insAt (posK (keysOf B) c.pb.key) c.pb B ∧ ∀ x ∈ bs', x = c ∨ x ∈ bs)).st 32 (Addr.mk b4 0 none) (.agg v65) <|
             (real Tryz.prog (fun v w' => ∃ (bs' : List BR) (L' : List Blk), v = .tuple #[.agg (u8s c.pb.key).toArray, .int .i64 0] ∧ At w0 w' (L' ++ ls) ∧ ShopO b (keysOf (insAt (posK (keysOf B) c.pb.key) c.pb B)) bs' L' ∧ bs'.map BR.pb = insAt (posK (keysOf B) c.pb.key) c.pb B ∧ ∀ x ∈ bs', x = c ∨ x ∈ bs)).ld .agg 32 (Addr.mk b4 0 none) fun z =>
             (real Tryz.prog (fun v w' => ∃ (bs' : List BR) (L' : List Blk), v = .tuple #[.agg (u8s c.pb.key).toArray, .int .i64 0] ∧ At w0 w' (L' ++ ls) ∧ ShopO b (keysOf (insAt (posK (keysOf B) c.pb.key) c.pb B)) bs' L' ∧ bs'.map BR.pb = insAt (posK (keysOf B) c.pb.key) c.pb B ∧ ∀ x ∈ bs', x = c ∨ x ∈ bs)).ret (.tuple #[(.agg z), (.int .i64 0)]) : World → Prop) w9 := by
          intro w9 tk tb Lk' Lb' h hOk' hOb' hn'
          refine r_st h 3 (o := 0) rfl (by simp [add_zero]) (by simp) rfl fun w7 h => ?_
          refine r_st h 3 (o := 1) rfl (add_lit _ _ _) (by simp) rfl fun w8 h => ?_
          refine r_ldA h 0 rfl rfl (by simp [hkl]) ?_
          refine r_stA h 1 rfl rfl (by simp [hkl]) (by simp) (by simpa using u8s_one) fun w9 h => ?_
          refine r_ldA h 1 rfl rfl (by simp [hkl]) ?_
          have ek : keysOf (insAt (posK (keysOf B) c.pb.key) c.pb B) = insAt (posK (keysOf B) c.pb.key) c.pb.key (keysOf B) := by unfold keysOf; rw [insAt_map]
          refine r_retR ⟨insAt (posK (keysOf B) c.pb.key) c bs, (b, #[.slice tk.a tk.n tk.c, .slice tb.a tb.n tb.c], ty_impl_shop) :: (Lk' ++ Lb'), rfl, ?_, ⟨tk, tb, Lk', Lb', rfl, ?_, ?_⟩, ?_, ?_⟩
          · have := At.right (A := [_, _, _]) h
            simpa [List.append_assoc] using this
          · rw [ek, ← flatMap_insAt (z := 32) (fun x hx => by rw [u8s_len]; exact (keysOf_ok B x hx).1)]
            exact hOk'
          · rw [← flatMap_insAt (z := 2) (fun x _ => cells_len x)]
            exact hOb'
          · rw [insAt_map, hpb]
          · exact fun x hx => mem_insAt hx
        refine r_draw h fun w8 h => ?_
        refine r_ld h 3 (o := 0) rfl (by simp [add_zero]) sk (by simp [Sh.emb]) rfl ?_
        refine r_ldA h 0 rfl rfl (by simp [hkl]) ?_
        refine r_ld h 3 (o := 1) rfl (add_lit _ _ _) sb (by simp [Sh.emb]) rfl ?_
        refine r_ldA h 2 rfl rfl rfl ?_
        refine ⟨?_, ?_⟩
        · refine r_bs1 T_sl_Key h (by simp [Value.cells, hkl]) (by omega) fun v1 w1 hS hv1n => ?_
          obtain ⟨L1, hOv1, h⟩ := hS.split
          have h : At w0 _ ([(b6, (u8s c.pb.key).toArray, ty_impl_Key), (b4, Array.replicate 32 (.int .u8 0), ty_impl_Key), (b3, c.cells.toArray, ty_impl_Blob), (b, #[.slice sk.a sk.n sk.c, .slice sb.a sb.n sb.c], ty_impl_shop)] ++ (L1 ++ (Lk ++ (Lb ++ (ls))))) := At.rot h
          refine r_chk3 ?_ ?_ ?_ ?_
          · exact ldOk_blk h 2 rfl rfl
          · exact ldOk_own h 3 rfl 1 rfl (by simp [Sh.emb])
          · simpa [add_zero] using ldOk_own (sh := .slice) h 3 rfl 0 rfl (by simp [Sh.emb])
          refine ⟨?_, ?_⟩
          · refine r_callR (c_InsertKey h.pl2 ((List.sublist_append_left _ _).trans (List.sublist_append_right _ _)) hOk hOv1 hv1n (posK (keysOf B) c.pb.key) (by omega) (flatU8_one _) (by simpa [Value.cells] using u8s_one) (by omega)) ?_
            rintro v w' ⟨tk, Lk', rfl, h, hOk', hnk'⟩
            refine ⟨tk, rfl, ?_⟩
            have h := h.ps2
            have h : At w0 _ ([(b6, (u8s c.pb.key).toArray, ty_impl_Key), (b4, Array.replicate 32 (.int .u8 0), ty_impl_Key), (b3, c.cells.toArray, ty_impl_Blob), (b, #[.slice sk.a sk.n sk.c, .slice sb.a sb.n sb.c], ty_impl_shop)] ++ (L1 ++ (Lk' ++ (Lb ++ (ls))))) := h
            refine r_chk2 ?_ ?_ ?_
            · exact ldOk_blk h 2 rfl rfl
            · exact ldOk_own h 3 rfl 1 rfl (by simp [Sh.emb])
            refine r_bs1 T_sl_Blob h (by simp [Value.cells, BR.cells]) (by omega) fun v2 w2 hS hv2n => ?_
            obtain ⟨L2, hOv2, h⟩ := hS.split
            have h : At w0 _ ([(b6, (u8s c.pb.key).toArray, ty_impl_Key), (b4, Array.replicate 32 (.int .u8 0), ty_impl_Key), (b3, c.cells.toArray, ty_impl_Blob), (b, #[.slice sk.a sk.n sk.c, .slice sb.a sb.n sb.c], ty_impl_shop)] ++ (L2 ++ (L1 ++ (Lk' ++ (Lb ++ (ls)))))) := At.rot h
            refine r_chk1 ?_ ?_
            · exact ldOk_own h 3 rfl 1 rfl (by simp [Sh.emb])
            refine r_callR (c_InsertBlob h.pl4 ((List.sublist_append_left _ _).trans (List.sublist_append_right _ _)) hOb hOv2 hv2n (posK (keysOf B) c.pb.key) (by omega) (flatCells_one _) (by simpa [Value.cells] using cells_one c) (by omega)) ?_
            rintro v w' ⟨tb, Lb', rfl, h, hOb', hnb'⟩
            refine ⟨tb, rfl, ?_⟩
            have h := h.ps4
            have h : At w0 _ ([(b6, (u8s c.pb.key).toArray, ty_impl_Key), (b4, Array.replicate 32 (.int .u8 0), ty_impl_Key), (b3, c.cells.toArray, ty_impl_Blob), (b, #[.slice sk.a sk.n sk.c, .slice sb.a sb.n sb.c], ty_impl_shop)] ++ (L2 ++ (L1 ++ (Lk' ++ (Lb' ++ (ls)))))) := h
            have h : At w0 _ ([(b6, (u8s c.pb.key).toArray, ty_impl_Key), (b4, Array.replicate 32 (.int .u8 0), ty_impl_Key), (b3, c.cells.toArray, ty_impl_Blob), (b, #[.slice sk.a sk.n sk.c, .slice sb.a sb.n sb.c], ty_impl_shop)] ++ (L2 ++ (L1 ++ (Lk' ++ (Lb' ++ (ls)))))) := h
            have h := h.dr1
            have h := h.dr1
            have h : At w0 _ ([(b6, (u8s c.pb.key).toArray, ty_impl_Key), (b4, Array.replicate 32 (.int .u8 0), ty_impl_Key), (b3, c.cells.toArray, ty_impl_Blob), (b, #[.slice sk.a sk.n sk.c, .slice sb.a sb.n sb.c], ty_impl_shop)] ++ (Lk' ++ (Lb' ++ (ls)))) := h
            exact fin _ tk tb Lk' Lb' h hOk' hOb' hnk'
          · refine r_bs1 T_sl_Blob h (by simp [Value.cells, BR.cells]) (by omega) fun v2 w2 hS hv2n => ?_
            obtain ⟨L2, hOv2, h⟩ := hS.split
            have h : At w0 _ ([(b6, (u8s c.pb.key).toArray, ty_impl_Key), (b4, Array.replicate 32 (.int .u8 0), ty_impl_Key), (b3, c.cells.toArray, ty_impl_Blob), (b, #[.slice sk.a sk.n sk.c, .slice sb.a sb.n sb.c], ty_impl_shop)] ++ (L2 ++ (L1 ++ (Lk ++ (Lb ++ (ls)))))) := At.rot h
            refine r_chk2 ?_ ?_ ?_
            · exact ldOk_own h 3 rfl 1 rfl (by simp [Sh.emb])
            · simpa [add_zero] using ldOk_own (sh := .slice) h 3 rfl 0 rfl (by simp [Sh.emb])
            refine r_callR (c_InsertKey h.pl3 (((List.sublist_append_left _ _).trans (List.sublist_append_right _ _)).trans (List.sublist_append_right _ _)) hOk hOv1 hv1n (posK (keysOf B) c.pb.key) (by omega) (flatU8_one _) (by simpa [Value.cells] using u8s_one) (by omega)) ?_
            rintro v w' ⟨tk, Lk', rfl, h, hOk', hnk'⟩
            refine ⟨tk, rfl, ?_⟩
            have h := h.ps3
            have h : At w0 _ ([(b6, (u8s c.pb.key).toArray, ty_impl_Key), (b4, Array.replicate 32 (.int .u8 0), ty_impl_Key), (b3, c.cells.toArray, ty_impl_Blob), (b, #[.slice sk.a sk.n sk.c, .slice sb.a sb.n sb.c], ty_impl_shop)] ++ (L2 ++ (L1 ++ (Lk' ++ (Lb ++ (ls)))))) := h
            refine r_chk1 ?_ ?_
            · exact ldOk_own h 3 rfl 1 rfl (by simp [Sh.emb])
            refine r_callR (c_InsertBlob h.pl4 ((List.sublist_append_left _ _).trans (List.sublist_append_right _ _)) hOb hOv2 hv2n (posK (keysOf B) c.pb.key) (by omega) (flatCells_one _) (by simpa [Value.cells] using cells_one c) (by omega)) ?_
            rintro v w' ⟨tb, Lb', rfl, h, hOb', hnb'⟩
            refine ⟨tb, rfl, ?_⟩
            have h := h.ps4
            have h : At w0 _ ([(b6, (u8s c.pb.key).toArray, ty_impl_Key), (b4, Array.replicate 32 (.int .u8 0), ty_impl_Key), (b3, c.cells.toArray, ty_impl_Blob), (b, #[.slice sk.a sk.n sk.c, .slice sb.a sb.n sb.c], ty_impl_shop)] ++ (L2 ++ (L1 ++ (Lk' ++ (Lb' ++ (ls)))))) := h
            have h : At w0 _ ([(b6, (u8s c.pb.key).toArray, ty_impl_Key), (b4, Array.replicate 32 (.int .u8 0), ty_impl_Key), (b3, c.cells.toArray, ty_impl_Blob), (b, #[.slice sk.a sk.n sk.c, .slice sb.a sb.n sb.c], ty_impl_shop)] ++ (L2 ++ (L1 ++ (Lk' ++ (Lb' ++ (ls)))))) := h
            have h := h.dr1
            have h := h.dr1
            have h : At w0 _ ([(b6, (u8s c.pb.key).toArray, ty_impl_Key), (b4, Array.replicate 32 (.int .u8 0), ty_impl_Key), (b3, c.cells.toArray, ty_impl_Blob), (b, #[.slice sk.a sk.n sk.c, .slice sb.a sb.n sb.c], ty_impl_shop)] ++ (Lk' ++ (Lb' ++ (ls)))) := h
            exact fin _ tk tb Lk' Lb' h hOk' hOb' hnk'
        · refine r_bs1 T_sl_Blob h (by simp [Value.cells, BR.cells]) (by omega) fun v2 w2 hS hv2n => ?_
          obtain ⟨L2, hOv2, h⟩ := hS.split
          have h : At w0 _ ([(b6, (u8s c.pb.key).toArray, ty_impl_Key), (b4, Array.replicate 32 (.int .u8 0), ty_impl_Key), (b3, c.cells.toArray, ty_impl_Blob), (b, #[.slice sk.a sk.n sk.c, .slice sb.a sb.n sb.c], ty_impl_shop)] ++ (L2 ++ (Lk ++ (Lb ++ (ls))))) := At.rot h
          refine r_chk3 ?_ ?_ ?_ ?_
          · exact ldOk_own h 3 rfl 1 rfl (by simp [Sh.emb])
          · exact ldOk_blk h 0 rfl (by simp [hkl])
          · simpa [add_zero] using ldOk_own (sh := .slice) h 3 rfl 0 rfl (by simp [Sh.emb])
          refine r_bs1 T_sl_Key h (by simp [Value.cells, hkl]) (by omega) fun v1 w1 hS hv1n => ?_
          obtain ⟨L1, hOv1, h⟩ := hS.split
          have h : At w0 _ ([(b6, (u8s c.pb.key).toArray, ty_impl_Key), (b4, Array.replicate 32 (.int .u8 0), ty_impl_Key), (b3, c.cells.toArray, ty_impl_Blob), (b, #[.slice sk.a sk.n sk.c, .slice sb.a sb.n sb.c], ty_impl_shop)] ++ (L1 ++ (L2 ++ (Lk ++ (Lb ++ (ls)))))) := At.rot h
          refine r_chk2 ?_ ?_ ?_
          · exact ldOk_own h 3 rfl 1 rfl (by simp [Sh.emb])
          · simpa [add_zero] using ldOk_own (sh := .slice) h 3 rfl 0 rfl (by simp [Sh.emb])
          refine r_callR (c_InsertKey h.pl3 ((List.sublist_append_left _ _).trans (List.sublist_append_right _ _)) hOk hOv1 hv1n (posK (keysOf B) c.pb.key) (by omega) (flatU8_one _) (by simpa [Value.cells] using u8s_one) (by omega)) ?_
          rintro v w' ⟨tk, Lk', rfl, h, hOk', hnk'⟩
          refine ⟨tk, rfl, ?_⟩
          have h := h.ps3
          have h : At w0 _ ([(b6, (u8s c.pb.key).toArray, ty_impl_Key), (b4, Array.replicate 32 (.int .u8 0), ty_impl_Key), (b3, c.cells.toArray, ty_impl_Blob), (b, #[.slice sk.a sk.n sk.c, .slice sb.a sb.n sb.c], ty_impl_shop)] ++ (L1 ++ (L2 ++ (Lk' ++ (Lb ++ (ls)))))) := h
          refine r_chk1 ?_ ?_
          · exact ldOk_own h 3 rfl 1 rfl (by simp [Sh.emb])
          refine r_callR (c_InsertBlob h.pl4 (((List.sublist_append_left _ _).trans (List.sublist_append_right _ _)).trans (List.sublist_append_right _ _)) hOb hOv2 hv2n (posK (keysOf B) c.pb.key) (by omega) (flatCells_one _) (by simpa [Value.cells] using cells_one c) (by omega)) ?_
          rintro v w' ⟨tb, Lb', rfl, h, hOb', hnb'⟩
          refine ⟨tb, rfl, ?_⟩
          have h := h.ps4
          have h : At w0 _ ([(b6, (u8s c.pb.key).toArray, ty_impl_Key), (b4, Array.replicate 32 (.int .u8 0), ty_impl_Key), (b3, c.cells.toArray, ty_impl_Blob), (b, #[.slice sk.a sk.n sk.c, .slice sb.a sb.n sb.c], ty_impl_shop)] ++ (L1 ++ (L2 ++ (Lk' ++ (Lb' ++ (ls)))))) := h
          have h : At w0 _ ([(b6, (u8s c.pb.key).toArray, ty_impl_Key), (b4, Array.replicate 32 (.int .u8 0), ty_impl_Key), (b3, c.cells.toArray, ty_impl_Blob), (b, #[.slice sk.a sk.n sk.c, .slice sb.a sb.n sb.c], ty_impl_shop)] ++ (L1 ++ (L2 ++ (Lk' ++ (Lb' ++ (ls)))))) := h
          have h := h.dr1
          have h := h.dr1
          have h : At w0 _ ([(b6, (u8s c.pb.key).toArray, ty_impl_Key), (b4, Array.replicate 32 (.int .u8 0), ty_impl_Key), (b3, c.cells.toArray, ty_impl_Blob), (b, #[.slice sk.a sk.n sk.c, .slice sb.a sb.n sb.c], ty_impl_shop)] ++ (Lk' ++ (Lb' ++ (ls)))) := h
          exact fin _ tk tb Lk' Lb' h hOk' hOb' hnk'
  · refine r_draw h fun w7 h => ?_
    by_cases hm : c.pb.key ∈ keysOf B
    · refine r_true (decide_eq_true hm) ?_
      have hp := (posK_mem hasc).1 hm
      have hplt := (List.getElem?_eq_some_iff.1 hp).1
      have same : ∀ {x : BR} {r : Bool}, bs[posK (keysOf B) c.pb.key]? = some x → (r = true ↔ x.pb = c.pb) → (!r) = decide (c.pb.key ∈ keysOf B ∧ B[posK (keysOf B) c.pb.key]? ≠ some c.pb) := by
        intro x r hx hr
        rw [pb_get hpb hx]
        by_cases he : x.pb = c.pb
        · rw [hr.2 he, decide_eq_false]
          · rfl
          · rintro ⟨_, hh⟩
            exact hh (by rw [he])
        · have : r = false := by cases r with
            | false => rfl
            | true => exact absurd (hr.1 rfl) he
          rw [this, decide_eq_true]
          · rfl
          · exact ⟨hm, fun hh => he (Option.some.inj hh)⟩
      obtain ⟨sk, sb, e1, e2, hK, hB⟩ := (rd h.pl1).ex
      obtain ⟨x, q, hx, _, hq, hxo, hag, _, _⟩ := hB.get (i := posK (keysOf B) c.pb.key) (by omega)
      have hsn := hB.n
      refine ⟨?_, ?_⟩
      · refine r_ldN sb (e2 1) ?_
        refine r_ix q hq (by omega) (by omega) ?_
        refine ⟨?_, ?_⟩
        · refine r_ldN x.cells.toArray (by simp only [Int.toNat_natCast]; exact hag) ?_
          refine r_ldA h 2 rfl rfl rfl ?_
          refine r_call h (c_SameBlob hxo (hc _ h.right.right)) fun r w8 h _ hr => ?_
          exact ⟨!r, rfl, same hx hr, h⟩
        · refine r_ldA h 2 rfl rfl rfl ?_
          refine r_ldN x.cells.toArray (by simp only [Int.toNat_natCast]; exact hag) ?_
          refine r_call h (c_SameBlob hxo (hc _ h.right.right)) fun r w8 h _ hr => ?_
          exact ⟨!r, rfl, same hx hr, h⟩
      · refine r_ldA h 2 rfl rfl rfl ?_
        refine r_ldN sb (e2 1) ?_
        refine r_ix q hq (by omega) (by omega) ?_
        refine r_ldN x.cells.toArray (by simp only [Int.toNat_natCast]; exact hag) ?_
        refine r_call h (c_SameBlob hxo (hc _ h.right.right)) fun r w8 h _ hr => ?_
        exact ⟨!r, rfl, same hx hr, h⟩
    · refine r_false (decide_eq_false hm) ?_
      have : false = decide (c.pb.key ∈ keysOf B ∧ B[posK (keysOf B) c.pb.key]? ≠ some c.pb) := (decide_eq_false fun hh => hm hh.1).symm
      exact ⟨⟨⟨false, rfl, this, h⟩, ⟨false, rfl, this, h⟩⟩, ⟨false, rfl, this, h⟩⟩)

end Go.Proofs.YthaecdelaifccaaGreat
