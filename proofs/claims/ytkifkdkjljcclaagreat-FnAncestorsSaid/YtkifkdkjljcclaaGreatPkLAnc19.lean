/- What a blob links to: both sides. The links of a blob: what both sides answer. -/
import Derived.Test.YtkifkdkjljcclaaGreatPkLAnc17
namespace Go.Proofs.YtkifkdkjljcclaaGreat
open Go.Sx Go.RowKit

def emptyKey : List Int := hashL 5 []
theorem emptyKey_ok : keyOk emptyKey := ⟨hashL_len _ _, hashL_ok _ _⟩
theorem c_EmptyMapKey (w : World) : Ret Tryz.prog n_impl_EmptyMapKey [] w [.agg] (fun r _ => r = (u8s emptyKey).toArray) := impl_EmptyMapKey_calls (by
  unfold impl_EmptyMapKey
  refine r_new (At.refl w) fun b0 w1 h => ?_
  refine r_call h (c_hash 5 (s := ⟨none, 0, 0⟩) (d := []) ⟨by simp [u8s], fun j v hv => by simp [u8s] at hv⟩ (fun b hb => by cases hb) (by simp)) fun r w2 h _ hr => ?_
  subst hr
  refine r_stA h 0 rfl rfl (by simp [hashL_len]) (by simp [Value.cells]) (by simpa using u8s_one) fun w3 h => ?_
  refine r_ldA h 0 rfl rfl (by simp [hashL_len]) ?_
  exact r_ret h.nil _ rfl rfl)
theorem c_l04Empty (w : World) : Ret Tryz.prog n_spec_l04Empty [] w [.agg] (fun r _ => r = (u8s emptyKey).toArray) := spec_l04Empty_calls (by
  unfold spec_l04Empty
  refine r_new (At.refl w) fun b0 w1 h => ?_
  refine r_bs0 T_sl_uint8' h fun y w2 hy hyn => ?_
  refine r_call hy.at_ (c_l01Hash 5 (d := []) hy.sl (fun b hb => by cases hb) (by simp)) fun r w2 h _ hr => ?_
  subst hr
  refine r_stA h 0 rfl rfl (by simp [hashL_len]) (by simp [Value.cells]) (by simpa using u8s_one) fun w3 h => ?_
  refine r_ldA h 0 rfl rfl (by simp [hashL_len]) ?_
  exact r_ret h.nil _ rfl rfl)

theorem c_IndexFuncK {w0 w : World} {ls : List Blk} {s : Sl} {ks : List (List Int)} (hA : At w0 w ls) (hs : KsR w s ks) (hmax : ks.length ≤ 1073741824) {g : FuncId} {cap : Array Value} (hg : isGo Tryz.prog g = true) (f : List Int → Bool)
    (hf : ∀ (w' : World) (k : List Int), At w0 w' ls → keyOk k → Ret Tryz.prog g ((#[] : Array Value).toList ++ [.agg (u8s k).toArray] ++ cap.toList) w' [.bool] (fun r _ => r = f k)) :
    Ret Tryz.prog n_slices_IndexFunc_sl_impl_Key_impl_Key [.slice s.a s.n s.c, .func (.func g) #[] cap] w [.int .i64] (fun r _ => (∃ i : Nat, r = i ∧ ∃ h : i < ks.length, (∀ x ∈ ks.take i, f x = false) ∧ f ks[i] = true) ∨ (r = -1 ∧ ∀ x ∈ ks, f x = false)) := slices_IndexFunc_sl_impl_Key_impl_Key_calls _ _ (by
  unfold slices_IndexFunc_sl_impl_Key_impl_Key
  have hn := hs.n
  refine r_loop (σ := Int) (fun i w' => ∃ j : Nat, i = j ∧ j ≤ ks.length ∧ (∀ x ∈ ks.take j, f x = false) ∧ At w w' []) (fun i _ => (s.n - i).toNat) 0 rfl ⟨0, rfl, by omega, by simp, At.refl w⟩ ?_
  rintro i w1 ⟨j, rfl, hj, hpre, h⟩
  refine r_any fun _ => ?_
  refine r_if ((j : Int) < (s.n : Int)) rfl (fun hlt => ?_) (fun hge => ?_)
  · obtain ⟨k, q, hk, hkm, hq, hko, hkl⟩ := (hs.at h).get (i := j) (by omega)
    refine r_ix q hq (by omega) (by omega) ?_
    refine r_ldN (u8s k).toArray (by simp only [Int.toNat_natCast]; exact hkl) ?_
    refine r_callV h hg (hf w1 k (hA.trans h.below) hko) fun r w2 h2 _ hr => ?_
    subst hr
    obtain ⟨hlt', hget⟩ := List.getElem?_eq_some_iff.1 hk
    refine r_cond (fun ht => ?_) (fun ht => ?_)
    · exact r_ret h2 (j : Int) rfl (.inl ⟨j, rfl, hlt', hpre, by rw [hget]; exact ht⟩)
    · refine ⟨((j + 1 : Nat) : Int), by rw [w64 (by omega) (by omega)]; rfl, ⟨j + 1, rfl, by omega, ?_, h2⟩, by omega⟩
      rw [take_succ_get hk]
      intro x hx
      rcases List.mem_append.1 hx with hx | hx
      · exact hpre x hx
      · rw [List.mem_singleton.1 hx]; exact ht
  · have : j = ks.length := by omega
    subst this
    rw [List.take_of_length_le (Nat.le_refl _)] at hpre
    exact r_ret h (-1 : Int) rfl (.inr ⟨rfl, hpre⟩))

theorem c_DeleteFunc {w0 w : World} {ls : List Blk} {s : Sl} {ks : List (List Int)} (hS : SlO w0 w ls ty_impl_Key 32 s (ks.flatMap u8s)) (hk : ∀ k ∈ ks, keyOk k) (hn : s.n = ks.length) (hmax : ks.length ≤ 1073741824) {g : FuncId} {cap : Array Value} (hg : isGo Tryz.prog g = true) (f : List Int → Bool)
    (hf : ∀ (w' : World) (k : List Int), At w0 w' ls → keyOk k → Ret Tryz.prog g ((#[] : Array Value).toList ++ [.agg (u8s k).toArray] ++ cap.toList) w' [.bool] (fun r _ => r = f k)) :
    Calls Tryz.prog n_slices_DeleteFunc_sl_impl_Key_impl_Key [.slice s.a s.n s.c, .func (.func g) #[] cap].toArray w fun e w' => ∃ v, e = .returned v ∧ ∃ r : Sl, v = .slice r.a r.n r.c ∧ SlO w0 w' ls ty_impl_Key 32 r ((ks.filter fun k => !f k).flatMap u8s) ∧ r.n = (ks.filter fun k => !f k).length := slices_DeleteFunc_sl_impl_Key_impl_Key_calls _ _ (by
  unfold slices_DeleteFunc_sl_impl_Key_impl_Key
  refine r_call hS.at_ (c_IndexFuncK hS.at_ (slO_ks hS hk) hmax hg f hf) fun r w1 h1 hb1 hr => ?_
  have hS := hS.trans hb1
  rcases hr with ⟨i0, rfl, hi0, hpre, hfi⟩ | ⟨rfl, hall⟩
  · refine r_eq (fun hh => by omega) (fun _ => ?_)
    obtain ⟨L, hO, hA⟩ := hS.split
    obtain ⟨p, hp⟩ := hO.addr (by omega)
    have hpre' : (ks.take i0).filter (fun k => !f k) = ks.take i0 := List.filter_eq_self.2 fun x hx => by simp [hpre x hx]
    refine r_loop (σ := Int × Int) (fun i w' => ∃ (kk j : Nat) (out tl : List (List Int)) (L : List Blk), i = ((kk : Int), (j : Int)) ∧ kk < j ∧ j ≤ ks.length ∧ out.length = kk ∧ tl.length = ks.length - kk ∧ tl.drop (j - kk) = ks.drop j ∧
        out = (ks.take j).filter (fun k => !f k) ∧ (∀ x ∈ out ++ tl, keyOk x) ∧ OwnS ty_impl_Key 32 s ((out ++ tl).flatMap u8s) L ∧ At w0 w' (L ++ ls)) (fun i _ => (s.n - i.2).toNat) ((i0 : Int), ((i0 + 1 : Nat) : Int)) (by rw [w64 (by omega) (by omega)]; rfl)
        ⟨i0, i0 + 1, ks.take i0, ks.drop i0, L, rfl, by omega, by omega, by simp; omega, by simp, by simp, ?_, by simpa using hk, by simpa using hO, hA⟩ ?_
    · rw [List.take_succ_eq_append_getElem hi0, List.filter_append, hpre']
      simp [hfi]
    rintro i w2 ⟨kk, j, out, tl, L, rfl, h1, h2, hol, htl, hdrop, hout, hok, hO, hA⟩
    refine r_any fun _ => ?_
    dsimp only
    have hzz : ∀ x ∈ out ++ tl, (u8s x).length = 32 := fun x hx => by simp [(hok x hx).1]
    refine r_if ((j : Int) < (s.n : Int)) rfl (fun hlt => ?_) (fun hge => ?_)
    · have rd := hO.of hA (List.sublist_append_left _ _) hzz (by omega)
      have hx : ks[j]? = some ks[j] := List.getElem?_eq_getElem (by omega)
      have hkx : keyOk ks[j] := hk _ (List.getElem_mem _)
      have hcur : (out ++ tl)[j]? = some ks[j] := by
        rw [List.getElem?_append_right (by omega), hol]
        have := congrArg (·[0]?) hdrop
        simp only [List.getElem?_drop, Nat.add_zero] at this
        rw [this, hx]
      refine r_ix p hp (by omega) (by omega) ?_
      refine r_ldN (u8s ks[j]).toArray (by simp only [Int.toNat_natCast]; exact rd.agg hcur hp) ?_
      refine r_new hA fun b7 w3 h => ?_
      refine r_stA h 0 rfl rfl (by simp [hkx.1]) (by simp [Value.cells]) (by simpa using u8s_one) fun w4 h => ?_
      have h : At w0 w4 ((b7, (u8s ks[j]).toArray, ty_impl_Key) :: (L ++ ls)) := h
      refine r_ldA h 0 rfl rfl (by simp [hkx.1]) ?_
      refine r_callV h hg (hf w4 _ h.tail.right hkx) fun r w5 h _ hr => ?_
      subst hr
      have hsn : (ks.take (j + 1)).filter (fun k => !f k) = if f ks[j] then out else out ++ [ks[j]] := by
        rw [take_succ_get hx, List.filter_append, ← hout]
        cases hfk : f ks[j] <;> simp [hfk]
      have htl2 : tl.drop (j + 1 - kk) = ks.drop (j + 1) := by
        have := congrArg (·.drop 1) hdrop
        simp only [List.drop_drop] at this
        rw [show j - kk + 1 = j + 1 - kk by omega] at this
        exact this
      cases hfk : f ks[j] with
      | true =>
        rw [hfk, if_pos rfl] at hsn
        refine r_false rfl ?_
        exact ⟨((kk : Int), ((j + 1 : Nat) : Int)), by rw [w64 (by omega) (by omega)]; rfl, ⟨kk, j + 1, out, tl, L, rfl, by omega, by omega, hol, htl, htl2, hsn.symm, hok, hO, h.tail⟩, by dsimp only; omega⟩
      | false =>
        rw [hfk, if_neg (by simp)] at hsn
        refine r_true rfl ?_
        refine r_ldA h 0 rfl rfl (by simp [hkx.1]) ?_
        refine r_ix p hp (by omega) (by omega) ?_
        have hol32 : (out.flatMap u8s).length = kk * 32 := by rw [flatMap_length (z := 32) (fun x hx => hzz x (by simp [hx])), hol]
        refine r_stO h.mid hO hp (kk * 32) (by simp) (by simp [Value.cells, hkx.1]) (by rw [flatMap_length hzz]; simp; omega) (by simpa [Value.cells] using u8s_one) fun w6 L6 hA6 hO6 => ?_
        refine ⟨(((kk + 1 : Nat) : Int), ((j + 1 : Nat) : Int)), by rw [w64 (by omega) (by omega), w64 (by omega) (by omega)]; rfl, ⟨kk + 1, j + 1, out ++ [ks[j]], tl.drop 1, L6, rfl, by omega, by omega, by simp [hol], by simp; omega, ?_, hsn.symm, ?_, ?_, hA6.unmid.tail⟩, by dsimp only; omega⟩
        · rw [List.drop_drop, show 1 + (j + 1 - (kk + 1)) = j + 1 - kk by omega]
          exact htl2
        · intro x hx
          simp only [List.mem_append, List.mem_singleton] at hx
          rcases hx with (hx | hx) | hx
          · exact hok x (by simp [hx])
          · subst hx; exact hkx
          · exact hok x (by simp [List.mem_of_mem_drop hx])
        · have e3 : ((out ++ tl).flatMap u8s).take (kk * 32) = out.flatMap u8s := by rw [List.flatMap_append, ← hol32, List.take_left]
          have e4 : ((out ++ tl).flatMap u8s).drop (kk * 32 + 32) = (tl.drop 1).flatMap u8s := by
            rw [List.flatMap_append, ← hol32, List.drop_append]
            cases tl with
            | nil => simp
            | cons t tl =>
              have ht : (u8s t).length = 32 := hzz t (by simp)
              rw [List.flatMap_cons, List.drop_eq_nil_of_le (by omega), List.nil_append, Nat.add_sub_cancel_left, ← ht, List.drop_left]
              rfl
          rw [e3, e4] at hO6
          simpa [Value.cells, List.flatMap_append] using hO6
    · have hj : j = ks.length := by omega
      subst hj
      rw [List.take_of_length_le (Nat.le_refl _)] at hout
      have hcap := hO.cap
      refine r_slSuf kk rfl rfl (by omega) hcap fun y2 hy2n hy2c hy2a => ?_
      refine r_clearO T_sl_Key (by kernel_rfl) hA hO kk (by omega) (fun _ => hy2a (by omega)) fun v w3 L3 xs3 hA3 hO3 htk => ?_
      refine r_slPre kk rfl rfl (by omega) ?_
      have hO4 := hO3.shrink kk (by omega)
      have hol32 : (out.flatMap u8s).length = kk * 32 := by rw [flatMap_length (z := 32) (fun x hx => hzz x (by simp [hx])), hol]
      rw [htk, List.flatMap_append, ← hol32, List.take_left] at hO4
      refine r_retR ⟨⟨s.a, kk, s.c⟩, rfl, ?_, by rw [← hout, hol]⟩
      rw [← hout]
      exact hO4.slo hA3
  · refine r_true rfl ?_
    have : ks.filter (fun k => !f k) = ks := List.filter_eq_self.2 fun x hx => by simp [hall x hx]
    exact r_retR ⟨s, rfl, by rw [this]; exact hS, by rw [this]; exact hn⟩)

end Go.Proofs.YtkifkdkjljcclaaGreat

namespace Go.Sx
theorem SlO.base {w0 w : World} {ls : List Blk} {e z : Nat} {s : Sl} {xs : List Value} (h : SlO w0 w ls e z s xs) : SlO w0 w [] e z s xs := by
  obtain ⟨L, hO, hA⟩ := h.split
  exact hO.slo (ls := []) (by simpa using hA.left)
end Go.Sx
namespace Go.Proofs.YtkifkdkjljcclaaGreat
open Go.Sx Go.RowKit

def notEmpty (k : List Int) : Bool := !decide (k = emptyKey)
def byte0 (d : List Int) : Nat := (d.getD 0 0).toNat
def links (b : PB) : List (List Int) :=
  if b.tag = 2 then (if b.data.length = 64 then keysN b.data 0 2 else [])
  else if b.tag = 5 then (if nodeOk b.data then [part32 b.data 0, part32 b.data 32].filter notEmpty else [])
  else if b.tag = 6 then (if b.data.length % 32 = 0 then keysN b.data 0 (b.data.length / 32) else [])
  else if b.tag = 7 then (if 1 ≤ b.data.length ∧ 1 + 32 * byte0 b.data ≤ b.data.length then keysN b.data 1 (byte0 b.data) else [])
  else []
theorem links_len (b : PB) : (links b).length ≤ b.data.length := by
  unfold links
  split
  · split
    · rw [keysN_len]; omega
    · simp
  split
  · split
    · rename_i hn
      have h1 := hn.1
      have := List.length_filter_le notEmpty [part32 b.data 0, part32 b.data 32]
      simp only [List.length_cons, List.length_nil] at this
      omega
    · simp
  split
  · split
    · rw [keysN_len]; omega
    · simp
  split
  · split
    · rw [keysN_len]; omega
    · simp
  · simp

theorem getD_byte {d : List Int} (hb : bytesOk d) {i : Nat} (h : i < d.length) : 0 ≤ d.getD i 0 ∧ d.getD i 0 < 256 := hb _ (by simp only [List.getD, List.getElem?_eq_getElem h, Option.getD_some]; exact List.getElem_mem _)

end Go.Proofs.YtkifkdkjljcclaaGreat
