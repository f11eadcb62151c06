/- What is needed: both sides; DeadIn, Collect: what they answer. Printed in part by a program of this claim's author (z5.py). -/
import Derived.Test.YtkifkdkjljcclaaGreatPkLCol37
import Derived.Test.YtkifkdkjljcclaaGreatPkLCol23
namespace Go.Sx
open Go.RowKit (Below)
theorem setCell_keep {w : World} {a : Addr} {v : Value} {rm : Nat} {o : Obj} (hM : w.heap[rm]? = some o) (hmo : ∀ c e f, o ≠ .cells c e f) : (w.setCell a v).heap[rm]? = some o := by
  unfold World.setCell
  show (w.heap.modify a.block _)[rm]? = some o
  rw [Array.getElem?_modify]
  split
  · rw [hM]
    cases o with
    | cells c e f => exact absurd rfl (hmo c e f)
    | _ => rfl
  · exact hM
theorem stW_keep {rm : Nat} {o : Obj} (hmo : ∀ c e f, o ≠ .cells c e f) : ∀ (l : List Value) (p : Addr) (i : Nat) (w : World), w.heap[rm]? = some o → (stW w p l i).heap[rm]? = some o
  | [], _, _, _, h => h
  | _ :: r, p, i, _, h => stW_keep hmo r p (i + 1) _ (setCell_keep h hmo)
theorem r_stOM {P : Program} {R : Value → World → Prop} {w0 w : World} {ls : List Blk} {rm : Nat} {o' : Obj} (hM : w.heap[rm]? = some o') (hmo : ∀ c e f, o' ≠ .cells c e f) {L : List Blk} {e z n : Nat} {s : Sl} {xs : List Value} {p q : Addr} {v : Value} {k : World → Prop}
    (hA : At w0 w (L ++ ls)) (hO : OwnS e z s xs L) (hp : s.a = some p) (o : Nat) (hq : q = p.add o) (hn : v.cells.size = n) (ho : o + n ≤ xs.length) (h1 : ∀ u ∈ v.cells.toList, oneC u = true)
    (h : ∀ w' L', At w0 w' (L' ++ ls) → OwnS e z s (xs.take o ++ v.cells.toList ++ xs.drop (o + n)) L' → w'.heap[rm]? = some o' → k w') : ((real P R).st n q v k : World → Prop) w := by
  have key := r_stO (P := P) (R := R) (k := fun w' => w'.heap[rm]? = some o' → k w') hA hO hp o hq hn ho h1 (fun w' L' hA' hO' hM' => h w' L' hA' hO' hM')
  obtain ⟨k1, k2, k3⟩ := key
  exact ⟨k1, k2, k3 (stW_keep hmo _ _ _ _ hM)⟩
end Go.Sx
namespace Go.Proofs.YtkifkdkjljcclaaGreat
open Go.Sx Go.RowKit

theorem c_IndexFuncKM {w0 w : World} {ls : List Blk} {s : Sl} {ks : List (List Int)} {rm : Nat} {o : Obj} (hM : w.heap[rm]? = some o) (hA : At w0 w ls) (hs : KsR w s ks) (hmax : ks.length ≤ 1073741824) {g : FuncId} {cap : Array Value} (hg : isGo Tryz.prog g = true) (f : List Int → Bool)
    (hf : ∀ (w' : World) (k : List Int), At w0 w' ls → w'.heap[rm]? = some o → keyOk k → Ret Tryz.prog g ((#[] : Array Value).toList ++ [.agg (u8s k).toArray] ++ cap.toList) w' [.bool] (fun r _ => r = f k)) :
    Ret Tryz.prog n_slices_IndexFunc_sl_impl_Key_impl_Key [.slice s.a s.n s.c, .func (.func g) #[] cap] w [.int .i64] (fun r _ => (∃ i : Nat, r = i ∧ ∃ h : i < ks.length, (∀ x ∈ ks.take i, f x = false) ∧ f ks[i] = true) ∨ (r = -1 ∧ ∀ x ∈ ks, f x = false)) := slices_IndexFunc_sl_impl_Key_impl_Key_calls _ _ (by
  unfold slices_IndexFunc_sl_impl_Key_impl_Key
  have hn := hs.n
  refine r_loop (σ := Int) (fun i w' => ∃ j : Nat, i = j ∧ j ≤ ks.length ∧ (∀ x ∈ ks.take j, f x = false) ∧ At w w' []) (fun i _ => (s.n - i).toNat) 0 rfl ⟨0, rfl, by omega, by simp, At.refl w⟩ ?_
  rintro i w1 ⟨j, rfl, hj, hpre, h⟩
  refine r_any fun _ => ?_
  refine r_if ((j : Int) < (s.n : Int)) rfl (fun hlt => ?_) (fun hge => ?_)
  · obtain ⟨k, q, hk, hkm, hq, hko, hkl⟩ := (hs.at h).get (i := j) (by omega)
    refine r_ix q hq (by omega) (by omega) ?_
    refine r_ldN (u8s k).toArray (by simp only [Int.toNat_natCast]; exact hkl) ?_
    refine r_callV h hg (hf w1 k (hA.trans h.below) (h.below.keeps hM) hko) fun r w2 h2 _ hr => ?_
    subst hr
    obtain ⟨hlt', hget⟩ := List.getElem?_eq_some_iff.1 hk
    refine r_cond (fun ht => ?_) (fun ht => ?_)
    · exact r_ret h2 (j : Int) rfl (.inl ⟨j, rfl, hlt', hpre, by rw [hget]; exact ht⟩)
    · refine ⟨((j + 1 : Nat) : Int), by rw [w64 (by omega) (by omega)]; rfl, ⟨j + 1, rfl, by omega, ?_, h2⟩, by omega⟩
      rw [take_succ_get hk]
      intro x hx
      rcases List.mem_append.1 hx with hx | hx
      · exact hpre x hx
      · rw [List.mem_singleton.1 hx]; exact ht
  · have : j = ks.length := by omega
    subst this
    rw [List.take_of_length_le (Nat.le_refl _)] at hpre
    exact r_ret h (-1 : Int) rfl (.inr ⟨rfl, hpre⟩))

theorem c_DeleteFuncM {w0 w : World} {ls : List Blk} {s : Sl} {ks : List (List Int)} {rm : Nat} {o : Obj} (hM : w.heap[rm]? = some o) (hmo : ∀ c e f, o ≠ .cells c e f) (hS : SlO w0 w ls ty_impl_Key 32 s (ks.flatMap u8s)) (hk : ∀ k ∈ ks, keyOk k) (hn : s.n = ks.length) (hmax : ks.length ≤ 1073741824) {g : FuncId} {cap : Array Value} (hg : isGo Tryz.prog g = true) (f : List Int → Bool)
    (hf : ∀ (w' : World) (k : List Int), At w0 w' ls → w'.heap[rm]? = some o → keyOk k → Ret Tryz.prog g ((#[] : Array Value).toList ++ [.agg (u8s k).toArray] ++ cap.toList) w' [.bool] (fun r _ => r = f k)) :
    Calls Tryz.prog n_slices_DeleteFunc_sl_impl_Key_impl_Key [.slice s.a s.n s.c, .func (.func g) #[] cap].toArray w fun e w' => ∃ v, e = .returned v ∧ ∃ r : Sl, v = .slice r.a r.n r.c ∧ SlO w0 w' ls ty_impl_Key 32 r ((ks.filter fun k => !f k).flatMap u8s) ∧ r.n = (ks.filter fun k => !f k).length := slices_DeleteFunc_sl_impl_Key_impl_Key_calls _ _ (by
  unfold slices_DeleteFunc_sl_impl_Key_impl_Key
  refine r_call hS.at_ (c_IndexFuncKM hM hS.at_ (slO_ks hS hk) hmax hg f hf) fun r w1 h1 hb1 hr => ?_
  have hS := hS.trans hb1
  have hM := hb1.keeps hM
  rcases hr with ⟨i0, rfl, hi0, hpre, hfi⟩ | ⟨rfl, hall⟩
  · refine r_eq (fun hh => by omega) (fun _ => ?_)
    obtain ⟨L, hO, hA⟩ := hS.split
    obtain ⟨p, hp⟩ := hO.addr (by omega)
    have hpre' : (ks.take i0).filter (fun k => !f k) = ks.take i0 := List.filter_eq_self.2 fun x hx => by simp [hpre x hx]
    refine r_loop (σ := Int × Int) (fun i w' => ∃ (kk j : Nat) (out tl : List (List Int)) (L : List Blk), i = ((kk : Int), (j : Int)) ∧ kk < j ∧ j ≤ ks.length ∧ out.length = kk ∧ tl.length = ks.length - kk ∧ tl.drop (j - kk) = ks.drop j ∧
        out = (ks.take j).filter (fun k => !f k) ∧ (∀ x ∈ out ++ tl, keyOk x) ∧ OwnS ty_impl_Key 32 s ((out ++ tl).flatMap u8s) L ∧ At w0 w' (L ++ ls) ∧ w'.heap[rm]? = some o) (fun i _ => (s.n - i.2).toNat) ((i0 : Int), ((i0 + 1 : Nat) : Int)) (by rw [w64 (by omega) (by omega)]; rfl)
        ⟨i0, i0 + 1, ks.take i0, ks.drop i0, L, rfl, by omega, by omega, by simp; omega, by simp, by simp, ?_, by simpa using hk, by simpa using hO, hA, hM⟩ ?_
    · rw [List.take_succ_eq_append_getElem hi0, List.filter_append, hpre']
      simp [hfi]
    rintro i w2 ⟨kk, j, out, tl, L, rfl, h1, h2, hol, htl, hdrop, hout, hok, hO, hA, hM⟩
    refine r_any fun _ => ?_
    dsimp only
    have hzz : ∀ x ∈ out ++ tl, (u8s x).length = 32 := fun x hx => by simp [(hok x hx).1]
    refine r_if ((j : Int) < (s.n : Int)) rfl (fun hlt => ?_) (fun hge => ?_)
    · have rd := hO.of hA (List.sublist_append_left _ _) hzz (by omega)
      have hx : ks[j]? = some ks[j] := List.getElem?_eq_getElem (by omega)
      have hkx : keyOk ks[j] := hk _ (List.getElem_mem _)
      have hcur : (out ++ tl)[j]? = some ks[j] := by
        rw [List.getElem?_append_right (by omega), hol]
        have := congrArg (·[0]?) hdrop
        simp only [List.getElem?_drop, Nat.add_zero] at this
        rw [this, hx]
      refine r_ix p hp (by omega) (by omega) ?_
      refine r_ldN (u8s ks[j]).toArray (by simp only [Int.toNat_natCast]; exact rd.agg hcur hp) ?_
      refine r_newM hA hM fun b7 w3 h hM => ?_
      refine r_stAM hM hmo h 0 rfl rfl (by simp [hkx.1]) (by simp [Value.cells]) (by simpa using u8s_one) fun w4 h hM => ?_
      have h : At w0 w4 ((b7, (u8s ks[j]).toArray, ty_impl_Key) :: (L ++ ls)) := h
      refine r_ldA h 0 rfl rfl (by simp [hkx.1]) ?_
      refine r_callV h hg (hf w4 _ h.tail.right hM hkx) fun r w5 h hb5 hr => ?_
      have hM := hb5.keeps hM
      subst hr
      have hsn : (ks.take (j + 1)).filter (fun k => !f k) = if f ks[j] then out else out ++ [ks[j]] := by
        rw [take_succ_get hx, List.filter_append, ← hout]
        cases hfk : f ks[j] <;> simp [hfk]
      have htl2 : tl.drop (j + 1 - kk) = ks.drop (j + 1) := by
        have := congrArg (·.drop 1) hdrop
        simp only [List.drop_drop] at this
        rw [show j - kk + 1 = j + 1 - kk by omega] at this
        exact this
      cases hfk : f ks[j] with
      | true =>
        rw [hfk, if_pos rfl] at hsn
        refine r_false rfl ?_
        exact ⟨((kk : Int), ((j + 1 : Nat) : Int)), by rw [w64 (by omega) (by omega)]; rfl, ⟨kk, j + 1, out, tl, L, rfl, by omega, by omega, hol, htl, htl2, hsn.symm, hok, hO, h.tail, hM⟩, by dsimp only; omega⟩
      | false =>
        rw [hfk, if_neg (by simp)] at hsn
        refine r_true rfl ?_
        refine r_ldA h 0 rfl rfl (by simp [hkx.1]) ?_
        refine r_ix p hp (by omega) (by omega) ?_
        have hol32 : (out.flatMap u8s).length = kk * 32 := by rw [flatMap_length (z := 32) (fun x hx => hzz x (by simp [hx])), hol]
        refine r_stOM hM hmo h.mid hO hp (kk * 32) (by simp) (by simp [Value.cells, hkx.1]) (by rw [flatMap_length hzz]; simp; omega) (by simpa [Value.cells] using u8s_one) fun w6 L6 hA6 hO6 hM6 => ?_
        refine ⟨(((kk + 1 : Nat) : Int), ((j + 1 : Nat) : Int)), by rw [w64 (by omega) (by omega), w64 (by omega) (by omega)]; rfl, ⟨kk + 1, j + 1, out ++ [ks[j]], tl.drop 1, L6, rfl, by omega, by omega, by simp [hol], by simp; omega, ?_, hsn.symm, ?_, ?_, hA6.unmid.tail, hM6⟩, by dsimp only; omega⟩
        · rw [List.drop_drop, show 1 + (j + 1 - (kk + 1)) = j + 1 - kk by omega]
          exact htl2
        · intro x hx
          simp only [List.mem_append, List.mem_singleton] at hx
          rcases hx with (hx | hx) | hx
          · exact hok x (by simp [hx])
          · subst hx; exact hkx
          · exact hok x (by simp [List.mem_of_mem_drop hx])
        · have e3 : ((out ++ tl).flatMap u8s).take (kk * 32) = out.flatMap u8s := by rw [List.flatMap_append, ← hol32, List.take_left]
          have e4 : ((out ++ tl).flatMap u8s).drop (kk * 32 + 32) = (tl.drop 1).flatMap u8s := by
            rw [List.flatMap_append, ← hol32, List.drop_append]
            cases tl with
            | nil => simp
            | cons t tl =>
              have ht : (u8s t).length = 32 := hzz t (by simp)
              rw [List.flatMap_cons, List.drop_eq_nil_of_le (by omega), List.nil_append, Nat.add_sub_cancel_left, ← ht, List.drop_left]
              rfl
          rw [e3, e4] at hO6
          simpa [Value.cells, List.flatMap_append] using hO6
    · have hj : j = ks.length := by omega
      subst hj
      rw [List.take_of_length_le (Nat.le_refl _)] at hout
      have hcap := hO.cap
      refine r_slSuf kk rfl rfl (by omega) hcap fun y2 hy2n hy2c hy2a => ?_
      refine r_clearO T_sl_Key (by kernel_rfl) hA hO kk (by omega) (fun _ => hy2a (by omega)) fun v w3 L3 xs3 hA3 hO3 htk => ?_
      refine r_slPre kk rfl rfl (by omega) ?_
      have hO4 := hO3.shrink kk (by omega)
      have hol32 : (out.flatMap u8s).length = kk * 32 := by rw [flatMap_length (z := 32) (fun x hx => hzz x (by simp [hx])), hol]
      rw [htk, List.flatMap_append, ← hol32, List.take_left] at hO4
      refine r_retR ⟨⟨s.a, kk, s.c⟩, rfl, ?_, by rw [← hout, hol]⟩
      rw [← hout]
      exact hO4.slo hA3
  · refine r_true rfl ?_
    have : ks.filter (fun k => !f k) = ks := List.filter_eq_self.2 fun x hx => by simp [hall x hx]
    exact r_retR ⟨s, rfl, by rw [this]; exact hS, by rw [this]; exact hn⟩)

def isTime (t : Int) : Bool := decide (t ≥ 0 ∧ t ≤ 1000000000000)
def timely (ls : List PL) : Bool := ls.all fun l => isTime l.2
def leaseKeys (now : Int) (ls : List PL) : List (List Int) := (ls.filter fun l => decide (l.2 ≥ now)).map (·.1)
theorem leaseKeys_snoc (now : Int) (ls : List PL) (l : PL) : leaseKeys now (ls ++ [l]) = leaseKeys now ls ++ if l.2 ≥ now then [l.1] else [] := by
  unfold leaseKeys
  rw [List.filter_append, List.map_append]
  congr 1
  by_cases h : l.2 ≥ now
  · rw [if_pos h]; simp [h]
  · rw [if_neg h]; simp [h]
theorem leaseKeys_len (now : Int) (ls : List PL) : (leaseKeys now ls).length ≤ ls.length := by
  unfold leaseKeys
  rw [List.length_map]
  exact List.length_filter_le _ _
theorem leaseKeys_ok {now : Int} {ls : List PL} (h : ∀ l ∈ ls, keyOk l.1) : ∀ k ∈ leaseKeys now ls, keyOk k := by
  intro k hk
  obtain ⟨l, hl, rfl⟩ := List.mem_map.1 hk
  exact h l (List.mem_filter.1 hl).1
def aliveCode (B : List PB) (roots : List (List Int)) (ls : List PL) (now : Int) : Int :=
  if validS B ∧ timely ls = true then (if 256 < roots.length ∨ 32 < ls.length then 3 else if isTime now = true then 0 else 2) else 1
def needRoots (roots : List (List Int)) (ls : List PL) (now : Int) : List (List Int) := roots ++ leaseKeys now ls
theorem timely_take {ls : List PL} {j : Nat} {l : PL} (h : ls[j]? = some l) : timely (ls.take (j + 1)) = (timely (ls.take j) && isTime l.2) := by
  unfold timely
  rw [take_succ_get h, List.all_append]
  simp
theorem code1 {B : List PB} {roots : List (List Int)} {ls : List PL} {now : Int} (h : ¬ (validS B ∧ timely ls = true)) : aliveCode B roots ls now = 1 := if_neg h
theorem code3 {B : List PB} {roots : List (List Int)} {ls : List PL} {now : Int} (h : validS B ∧ timely ls = true) (h3 : 256 < roots.length ∨ 32 < ls.length) : aliveCode B roots ls now = 3 := by unfold aliveCode; rw [if_pos h, if_pos h3]
theorem code2 {B : List PB} {roots : List (List Int)} {ls : List PL} {now : Int} (h : validS B ∧ timely ls = true) (h3 : ¬ (256 < roots.length ∨ 32 < ls.length)) (ht : ¬ isTime now = true) : aliveCode B roots ls now = 2 := by unfold aliveCode; rw [if_pos h, if_neg h3, if_neg ht]
theorem code0 {B : List PB} {roots : List (List Int)} {ls : List PL} {now : Int} (h : validS B ∧ timely ls = true) (h3 : ¬ (256 < roots.length ∨ 32 < ls.length)) (ht : isTime now = true) : aliveCode B roots ls now = 0 := by unfold aliveCode; rw [if_pos h, if_neg h3, if_pos ht]
theorem new_key {out : List (List Int)} {j : Nat} {k : List Int} (hn : out.Nodup) (h : out[j]? = some k) : k ∉ out.take j := fun hk => by
  obtain ⟨i, hi⟩ := List.mem_iff_getElem?.1 hk
  have hlt := (List.getElem?_eq_some_iff.1 hi).1
  rw [List.length_take] at hlt
  rw [List.getElem?_take, if_pos (by omega)] at hi
  have := idxK_of hn hi
  rw [idxK_of hn h] at this
  omega

theorem c_alive_1 (t : Int) (w : World) : Ret Tryz.prog n_impl_alive_1 [.int .i64 t] w [.bool] (fun r _ => r = isTime t) := impl_alive_1_calls _ (by
  unfold impl_alive_1
  refine r_callp (c_within t 0 1000000000000) ?_
  exact r_ret (At.refl w) _ rfl rfl)
theorem c_alive_2 {w : World} {l : PL} (hk : keyOk l.1) {p : Addr} (hp : ldOk w 1 p .val (.func (.func n_impl_alive_1) #[] #[])) : Ret Tryz.prog n_impl_alive_2 [.agg (leaseC l).toArray, .pointer (some p)] w [.bool] (fun r _ => r = !isTime l.2) := impl_alive_2_calls _ _ (by
  unfold impl_alive_2
  refine r_new (At.refl w) fun b2 w1 h => ?_
  refine r_ldN (sh := .val) (.func (.func n_impl_alive_1) #[] #[]) (ldOk_below h.below hp) ?_
  refine r_ld h 0 rfl (add_lit _ _ _) l.2 (by simp [Sh.emb]) (by rw [Nat.zero_add]; show (leaseC l).toArray[32]? = _; rw [List.getElem?_toArray]; exact lease_til hk) ?_
  have hc : Ret Tryz.prog n_impl_alive_1 ((#[] : Array Value).toList ++ [.int .i64 l.2] ++ (#[] : Array Value).toList) w1 [.bool] (fun r _ => r = isTime l.2) := c_alive_1 l.2 w1
  refine r_callV h (by kernel_rfl) hc fun r w2 h _ hr => ?_
  subst hr
  exact r_ret h.nil _ rfl rfl)
theorem c_anyLease {w0 w : World} {bl : List Blk} {s : Sl} {ls : List PL} (hA : At w0 w bl) (hs : LsR w s ls) (hmax : ls.length ≤ 1073741824) {g : FuncId} {cap : Array Value} (hg : isGo Tryz.prog g = true) (f : PL → Bool)
    (hf : ∀ (w' : World) (l : PL), At w0 w' bl → keyOk l.1 → Ret Tryz.prog g ((#[] : Array Value).toList ++ [.agg (leaseC l).toArray] ++ cap.toList) w' [.bool] (fun r _ => r = f l)) :
    Ret Tryz.prog n_slices_ContainsFunc_sl_impl_Lease_impl_Lease [.slice s.a s.n s.c, .func (.func g) #[] cap] w [.bool] (fun r _ => r = ls.any f) := slices_ContainsFunc_sl_impl_Lease_impl_Lease_calls _ _ (by
  unfold slices_ContainsFunc_sl_impl_Lease_impl_Lease
  have hidx : Ret Tryz.prog n_slices_IndexFunc_sl_impl_Lease_impl_Lease [.slice s.a s.n s.c, .func (.func g) #[] cap] w [.int .i64] (fun r _ => (r ≥ 0 ∧ ls.any f = true) ∨ (r = -1 ∧ ls.any f = false)) := slices_IndexFunc_sl_impl_Lease_impl_Lease_calls _ _ (by
    unfold slices_IndexFunc_sl_impl_Lease_impl_Lease
    have hn := hs.n
    refine r_loop (σ := Int) (fun i w' => ∃ j : Nat, i = j ∧ j ≤ ls.length ∧ (ls.take j).any f = false ∧ At w w' []) (fun i _ => (s.n - i).toNat) 0 rfl ⟨0, rfl, by omega, by simp, At.refl w⟩ ?_
    rintro i w1 ⟨j, rfl, hj, hpre, h⟩
    refine r_any fun _ => ?_
    refine r_if ((j : Int) < (s.n : Int)) rfl (fun hlt => ?_) (fun hge => ?_)
    · obtain ⟨l, q, hl, hlm, hq, hlo, hlc, _, _⟩ := (hs.at h).get (i := j) (by omega)
      refine r_ix q hq (by omega) (by omega) ?_
      refine r_ldN (leaseC l).toArray (by simp only [Int.toNat_natCast]; exact hlc) ?_
      refine r_callV h hg (hf w1 l (hA.trans h.below) hlo) fun r w2 h2 _ hr => ?_
      subst hr
      refine r_cond (fun ht => ?_) (fun ht => ?_)
      · exact r_ret h2 (j : Int) rfl (.inl ⟨(by show (0 : Int) ≤ (j : Int); omega), List.any_eq_true.2 ⟨l, hlm, ht⟩⟩)
      · refine ⟨((j + 1 : Nat) : Int), by rw [w64 (by omega) (by omega)]; rfl, ⟨j + 1, rfl, by omega, ?_, h2⟩, by omega⟩
        rw [take_succ_get hl, List.any_append, hpre]
        simpa using ht
    · have : j = ls.length := by omega
      subst this
      rw [List.take_of_length_le (Nat.le_refl _)] at hpre
      exact r_ret h (-1 : Int) rfl (.inr ⟨rfl, hpre⟩))
  refine r_call (At.refl w) hidx fun r w1 h _ hr => ?_
  refine r_ret h _ rfl ?_
  rcases hr with ⟨h1, h2⟩ | ⟨h1, h2⟩
  · rw [h2, decide_eq_true h1]
  · rw [h2, h1]; rfl)

def AliveQ (w : World) (B : List PB) (bs : List BR) (roots : List (List Int)) (ls : List PL) (now : Int) (r : Option Addr × Value × Int) (w' : World) : Prop :=
  r.2.2 = aliveCode B roots ls now ∧ (∃ m, r.2.1 = .map m) ∧ (aliveCode B roots ls now = 0 → validS B ∧ ∃ (b : Nat) (L : List Blk) (rm : Nat) (o : Obj) (out : List (List Int)), r.1 = some ⟨b, 0, none⟩ ∧ r.2.1 = .map (some rm) ∧ At w w' L ∧ ShopO b (keysOf B) bs L ∧ w'.heap[rm]? = some o ∧ MapIs o (yesOf out) ∧ (∀ k ∈ out, keyOk k) ∧ ∀ k, k ∈ out ↔ GetsTo B (needRoots roots ls now) k)

theorem c_alive {w : World} {s x y : Sl} {bs : List BR} {B : List PB} {roots : List (List Int)} {ls : List PL} {now : Int} (hs : BsR w s bs) (hpb : bs.map BR.pb = B) (hx : KsR w x roots) (hy : LsR w y ls) (hmax : B.length ≤ 1073741824) (hxl : roots.length ≤ 1073741824) (hyl : ls.length ≤ 1073741824) :
    Ret Tryz.prog n_impl_alive [.agg #[.slice s.a s.n s.c], .slice x.a x.n x.c, .slice y.a y.n y.c, .int .i64 now] w [.optr, .val, .int .i64] (AliveQ w B bs roots ls now) := impl_alive_calls _ _ _ _ (by
  unfold impl_alive
  have hbl : bs.length = B.length := by rw [← hpb]; simp
  have hxn := hx.n
  have hyn := hy.n
  have bad_ : ∀ {w' : World} {bl : List Blk} {c : Int}, At w w' bl → aliveCode B roots ls now = c → c ≠ 0 → ((real Tryz.prog (RR w [.optr, .val, .int .i64] (AliveQ w B bs roots ls now))).ret (.tuple #[.pointer none, .map none, .int .i64 c]) : World → Prop) w' := fun h hc h0 =>
    r_ret h.nil (none, .map none, _) rfl ⟨hc.symm, ⟨none, rfl⟩, fun hh => absurd (hc.symm.trans hh) h0⟩
  refine r_new (At.refl w) fun b4 w1 h => ?_
  refine r_new h fun b11 w2 h => ?_
  refine r_st h 0 (o := 0) rfl rfl (by simp [Value.cells]) rfl fun w3 h => ?_
  have h : At w w3 [(b11, #[.func (.func n_impl_alive_1) #[] #[]], ty_func_int64_bool), (b4, #[.slice s.a s.n s.c], ty_impl_Store)] := h
  refine r_ldA h 1 rfl rfl rfl ?_
  refine r_call h (c_newShop (hs.at h) (by omega)) fun r w4 h4 _ hr => ?_
  rw [hpb] at hr
  refine r_joinI ?_
  rcases hr with ⟨hv, b, L, rfl, hL, hO⟩ | ⟨hv, rfl⟩
  · have h : At w w4 ([(b11, #[.func (.func n_impl_alive_1) #[] #[]], ty_func_int64_bool), (b4, #[.slice s.a s.n s.c], ty_impl_Store)] ++ (L ++ [])) := by rw [List.append_nil]; exact (h.join hL).swap
    refine r_false rfl ?_
    refine r_call h (c_anyLease (g := n_impl_alive_2) (cap := #[.pointer (some ⟨b11, 0, none⟩)]) h (hy.at h.nil) hyl (by kernel_rfl) (fun l => !isTime l.2) (fun w' l hA hk => c_alive_2 hk (ldOk_own hA 0 rfl 0 rfl (by simp [Sh.emb])))) fun r31 w5 h _ hr => ?_
    subst hr
    refine ⟨_, rfl, r_any fun _ => ?_⟩
    by_cases hall : timely ls = true
    · have hany : (ls.any fun l => !isTime l.2) = false := by
        unfold timely at hall
        rw [List.all_eq_true] at hall
        rw [List.any_eq_false]
        intro l hl
        rw [hall l hl]
        simp
      refine r_false hany ?_
      refine r_joinI ?_
      refine r_if ((x.n : Int) > 256) rfl (fun hgt => ⟨true, rfl, r_any fun _ => r_true rfl (bad_ h (code3 ⟨hv, hall⟩ (.inl (by omega))) (by decide))⟩) (fun hle => ⟨_, rfl, r_any fun _ => ?_⟩)
      refine r_if ((y.n : Int) > 32) rfl (fun hgt => bad_ h (code3 ⟨hv, hall⟩ (.inr (by omega))) (by decide)) (fun hle2 => ?_)
      have h3 : ¬ (256 < roots.length ∨ 32 < ls.length) := by omega
      refine r_ld h 0 rfl rfl (.func (.func n_impl_alive_1) #[] #[]) (by simp [Sh.emb]) rfl ?_
      have hc1 : Ret Tryz.prog n_impl_alive_1 ((#[] : Array Value).toList ++ [.int .i64 now] ++ (#[] : Array Value).toList) w5 [.bool] (fun r _ => r = isTime now) := c_alive_1 now w5
      refine r_callV h (by kernel_rfl) hc1 fun r45 w6 h _ hr => ?_
      subst hr
      by_cases ht : isTime now = true
      · refine r_false (by simp [ht]) ?_
        have hcode := code0 ⟨hv, hall⟩ h3 ht
        refine r_call h (c_CloneKeys (hx.at h.nil) hxl) fun r48 w7 _ _ ⟨hS, hn48⟩ => ?_
        obtain ⟨Lk, hOk, h⟩ := SlO.own_of h hS
        refine r_loop (σ := Sl × Int) (fun i w' => ∃ (j : Nat) (Lk : List Blk), i.2 = j ∧ j ≤ ls.length ∧ i.1.n = (roots ++ leaseKeys now (ls.take j)).length ∧ OwnS ty_impl_Key 32 i.1 ((roots ++ leaseKeys now (ls.take j)).flatMap u8s) Lk ∧ At w w' ([(b11, #[.func (.func n_impl_alive_1) #[] #[]], ty_func_int64_bool), (b4, #[.slice s.a s.n s.c], ty_impl_Store)] ++ (Lk ++ (L ++ [])))) (fun i _ => (y.n - i.2).toNat) (r48, 0) rfl
          ⟨0, Lk, rfl, by omega, by simpa [leaseKeys] using hn48, by simpa [leaseKeys] using hOk, h.rot⟩ ?_
        clear hOk hS h
        rintro ⟨sl, i⟩ w8 ⟨j, Lk, hij, hj, hsn, hOk, h⟩
        dsimp only at hij hsn hOk
        subst hij
        refine r_any fun _ => ?_
        dsimp only
        have hlk := leaseKeys_len now (ls.take j)
        rw [List.length_take] at hlk
        rw [List.length_append] at hsn
        refine r_if ((j : Int) < (y.n : Int)) rfl (fun hlt => ?_) (fun hge => ?_)
        · obtain ⟨l, q, hl, hlm, hq, hlo, hlc, _, _⟩ := (hy.at h.nil).get (i := j) (by omega)
          have hll := leaseC_len hlo
          have hstep := leaseKeys_snoc now (ls.take j) l
          rw [← take_succ_get hl] at hstep
          refine r_ix q hq (by omega) (by omega) ?_
          refine r_ldN (leaseC l).toArray (by simp only [Int.toNat_natCast]; exact hlc) ?_
          refine r_new h fun b16 w9 h => ?_
          refine r_stA h 0 rfl rfl (by simp [hll]) (by simp [Value.cells]) (by simpa using leaseC_one l) fun w10 h => ?_
          have h : At w w10 ([(b16, (leaseC l).toArray, ty_impl_Lease)] ++ ([(b11, #[.func (.func n_impl_alive_1) #[] #[]], ty_func_int64_bool), (b4, #[.slice s.a s.n s.c], ty_impl_Store)] ++ (Lk ++ (L ++ [])))) := h
          refine r_ld h 0 rfl (add_lit _ _ _) l.2 (by simp [Sh.emb]) (by rw [Nat.zero_add, List.getElem?_toArray]; exact lease_til hlo) ?_
          refine r_if (l.2 ≥ now) rfl (fun hge => ?_) (fun hlt' => ?_)
          · rw [if_pos hge] at hstep
            refine r_ldP h 0 rfl (add_lit _ _ _) (by simp [hll]) ?_
            rw [show (0 + 0 : Nat) = 0 from rfl, lease_key hlo]
            refine r_push T_sl_Key (hOk.slo h.pl2) (v := .agg (u8s l.1).toArray) (by simp [Value.cells, hlo.1]) (by omega) (by simpa [Value.cells] using u8s_one) (by omega) (by omega) fun y63 w11 hS hn => ?_
            obtain ⟨Lk', hOk', h⟩ := hS.split
            have h := At.right (A := [_]) h.ps2
            refine ⟨(y63, ((j + 1 : Nat) : Int)), by rw [w64 (by omega) (by omega)]; rfl, ⟨j + 1, Lk', rfl, by omega, ?_, ?_, h⟩, by dsimp only; omega⟩
            · rw [hstep, List.length_append, List.length_append]
              simp only [List.length_cons, List.length_nil]
              omega
            · rw [hstep, ← List.append_assoc, List.flatMap_append]
              simpa [Value.cells] using hOk'
          · rw [if_neg hlt', List.append_nil] at hstep
            exact ⟨(sl, ((j + 1 : Nat) : Int)), by rw [w64 (by omega) (by omega)]; rfl, ⟨j + 1, Lk, rfl, by omega, by rw [hstep, List.length_append]; exact hsn, by rw [hstep]; exact hOk, At.tail h⟩, by dsimp only; omega⟩
        · have hjl : j = ls.length := by omega
          subst hjl
          rw [List.take_of_length_le (Nat.le_refl _)] at hOk hsn hlk
          have hall' : ∀ k ∈ needRoots roots ls now, keyOk k := fun k hk => by
            rcases List.mem_append.1 hk with hk | hk
            · exact hx.ok k hk
            · exact leaseKeys_ok hy.ok k hk
          have hnl : (needRoots roots ls now).length ≤ 1000000 := by
            show (roots ++ leaseKeys now ls).length ≤ _
            rw [List.length_append]
            omega
          refine r_makeMap h fun rm w9 h hM hrm => ?_
          have hbok := fun {w' : World} {bl : List Blk} (h : At w w' bl) b hb => (hs.at h.nil).ok b hb
          refine r_call h (c_reach (roots := needRoots roots ls now) (hO.rd h.pl2 (keysOf_ok _) (hbok h)) hpb hv (ownS_ks hOk h.pl1 (List.sublist_append_left _ _) hall') hnl) fun r68 w10 _ hb10 ⟨out, hmem, hnd, hok, holen, hS, hn68⟩ => ?_
          have hM := hb10.keeps hM
          obtain ⟨Lo, hOo, h⟩ := SlO.own_of h hS
          refine r_loop (σ := Int) (fun i w' => ∃ (j : Nat) (o : Obj), i = j ∧ j ≤ out.length ∧ At w w' (Lo ++ ([(b11, #[.func (.func n_impl_alive_1) #[] #[]], ty_func_int64_bool), (b4, #[.slice s.a s.n s.c], ty_impl_Store)] ++ (Lk ++ (L ++ [])))) ∧ w'.heap[rm]? = some o ∧ MapIs o (yesOf (out.take j))) (fun i _ => (r68.n - i).toNat) 0 rfl
            ⟨0, _, rfl, by omega, h, hM, by simpa [yesOf] using MapIs.nil 0⟩ ?_
          clear hM h hS
          rintro i w11 ⟨j, o, rfl, hj, h, hM, hm⟩
          refine r_any fun _ => ?_
          refine r_if ((j : Int) < (r68.n : Int)) rfl (fun hlt => ?_) (fun hge2 => ?_)
          · obtain ⟨k, q, hk, hkm, hq, hko, hkc⟩ := (ownS_ks hOo h (List.sublist_append_left _ _) hok).get (i := j) (by omega)
            refine r_ix q hq (by omega) (by omega) ?_
            refine r_ldN (u8s k).toArray (by simp only [Int.toNat_natCast]; exact hkc) ?_
            refine r_newM h hM fun b19 w12 h hM => ?_
            refine r_stAM hM hm.no h 0 rfl rfl (by simp [hko.1]) (by simp [Value.cells]) (by simpa using u8s_one) fun w13 h hM => ?_
            refine r_ldA h 0 rfl rfl (by simp [hko.1]) ?_
            refine r_mapNew (k := k) (v := .bool true) ut_mapB ut_Key tyOf_byte hko.1 h hM hm hrm (fun p hp => (hok _ (List.mem_of_mem_take (by rw [← yesOf_keys (out.take j)]; exact List.mem_map_of_mem hp))).1) (lookup_none (by rw [yesOf_keys]; exact new_key hnd hk)) fun w14 o' h hM hm' => ?_
            refine ⟨((j + 1 : Nat) : Int), by rw [w64 (by omega) (by omega)]; rfl, ⟨j + 1, o', rfl, by omega, At.tail h, hM, ?_⟩, by omega⟩
            rw [take_succ_get hk]
            unfold yesOf at hm' ⊢
            rw [List.map_append]
            exact hm'
          · have hjl : j = out.length := by omega
            subst hjl
            rw [List.take_of_length_le (Nat.le_refl _)] at hm
            exact r_ret h.nil (some ⟨b, 0, none⟩, .map (some rm), (0 : Int)) rfl ⟨hcode.symm, ⟨_, rfl⟩, fun _ => ⟨hv, b, L, rm, o, out, rfl, rfl, h.pl3.left, hO, hM, hm, hok, hmem⟩⟩
      · refine r_true (by simp [ht]) ?_
        exact bad_ h (code2 ⟨hv, hall⟩ h3 ht) (by decide)
    · have hany : (ls.any fun l => !isTime l.2) = true := by
        unfold timely at hall
        simpa using hall
      refine r_true hany ?_
      exact bad_ h (code1 fun hh => hall hh.2) (by decide)
  · refine r_true rfl ?_
    exact ⟨true, rfl, r_any fun _ => r_true rfl (bad_ h4 (code1 fun hh => hv hh.1) (by decide))⟩)

theorem c_l05Lease {w : World} {p : Addr} {t : Int} (h : ldOk w 1 (p.add 32) (.int .i64) t) : Ret Tryz.prog n_spec_l05Lease [.pointer (some p)] w [.bool] (fun r _ => r = isTime t) := spec_l05Lease_calls _ (by
  unfold spec_l05Lease
  refine r_ldN (sh := .int .i64) t h ?_
  refine r_callp (c_l00In t 0 1000000000000) ?_
  exact r_ret (At.refl w) _ rfl rfl)

def NeedQ (w : World) (B : List PB) (bs : List BR) (roots : List (List Int)) (ls : List PL) (now : Int) (r : Option Addr × Sl × Int) (w' : World) : Prop :=
  r.2.2 = aliveCode B roots ls now ∧ (aliveCode B roots ls now = 0 → validS B ∧ ∃ (b : Nat) (L Lf : List Blk) (D : List (List Int)), r.1 = some ⟨b, 0, none⟩ ∧ At w w' (Lf ++ (L ++ [])) ∧ SpecO b (keysOf B) bs L ∧ OwnS ty_bool 1 r.2.1 (bools (flagsOf B D)) Lf ∧ ∀ k ∈ keysOf B, (k ∈ D ↔ GetsTo B (needRoots roots ls now) k))

theorem c_l05Needed {w : World} {p : Addr} {s x y : Sl} {bs : List BR} {B : List PB} {roots : List (List Int)} {ls : List PL} {now : Int} (hp : ∀ n, ldOk w n (p.add 0) .slice s) (hs : BsR w s bs) (hpb : bs.map BR.pb = B) (hx : KsR w x roots) (hy : LsR w y ls) (hyl : ls.length ≤ 1073741824) :
    Ret Tryz.prog n_spec_l05Needed [.pointer (some p), .slice x.a x.n x.c, .slice y.a y.n y.c, .int .i64 now] w [.optr, .slice, .int .i64] (NeedQ w B bs roots ls now) := spec_l05Needed_calls _ _ _ _ (by
  unfold spec_l05Needed
  have hbl : bs.length = B.length := by rw [← hpb]; simp
  have hxn := hx.n
  have hyn := hy.n
  refine r_call (At.refl w) (c_l05Open hp hs) fun r20 w1 h1 _ ⟨hr2, b, hr1, hr⟩ => ?_
  rw [hpb] at hr hr2
  obtain ⟨rp, rb⟩ := r20
  dsimp only at hr1 hr2 ⊢
  subst hr1 hr2
  have bad_ : ∀ {w' : World} {bl : List Blk} {c : Int}, At w w' bl → aliveCode B roots ls now = c → c ≠ 0 → ((real Tryz.prog (RR w [.optr, .slice, .int .i64] (NeedQ w B bs roots ls now))).sem (Instr.buildSlice ty_sl_bool 0 #[]) .slice fun y => (real Tryz.prog (RR w [.optr, .slice, .int .i64] (NeedQ w B bs roots ls now))).ret (.tuple #[.pointer (some ⟨b, 0, none⟩), .slice y.a y.n y.c, .int .i64 c]) : World → Prop) w' := fun h hc h0 =>
    r_bs0 T_sl_bool' h fun y _ hy' _ => r_ret hy'.at_.nil (some ⟨b, 0, none⟩, y, _) rfl ⟨hc.symm, fun hh => absurd (hc.symm.trans hh) h0⟩
  refine r_join (σ := Bool) (fun sb w' => sb = (decide (validS B) && timely ls) ∧ At w1 w' []) (fun sb w2 hJ => ?_) ?_
  · obtain ⟨rfl, hA⟩ := hJ
    refine r_any fun _ => ?_
    have h := h1.trans hA.below
    by_cases hvt : validS B ∧ timely ls = true
    · obtain ⟨hv, hall⟩ := hvt
      refine r_false (by rw [decide_eq_true hv, hall]; rfl) ?_
      refine r_joinI ?_
      refine r_if ((x.n : Int) > 256) rfl (fun hgt => bad_ h (code3 ⟨hv, hall⟩ (.inl (by omega))) (by decide)) (fun hle => ?_)
      refine r_if ((y.n : Int) > 32) rfl (fun hgt => bad_ h (code3 ⟨hv, hall⟩ (.inr (by omega))) (by decide)) (fun hle2 => ?_)
      have h3 : ¬ (256 < roots.length ∨ 32 < ls.length) := by omega
      refine ⟨(), rfl, r_any fun _ => ?_⟩
      refine r_callp (c_l00In now 0 1000000000000) ?_
      by_cases ht : isTime now = true
      · refine r_false (by show (!isTime now) = false; simp [ht]) ?_
        have hcode := code0 ⟨hv, hall⟩ h3 ht
        obtain ⟨L, hL, hO⟩ := hr hv
        have h : At w w2 (L ++ []) := by rw [List.append_nil]; exact hL.trans hA.below
        refine r_bs0 T_sl_Key h fun y55 w3 hy55 hyn55 => ?_
        refine r_append T_sl_Key hy55 (hx.at hy55.at_.nil).of.sl (fun v hv => by
          obtain ⟨z, _, hz⟩ := List.mem_flatMap.1 hv
          exact u8s_one v hz) (by omega) (by omega) fun y57 w4 hS hn57 => ?_
        obtain ⟨Lk, hOk, h⟩ := hS.split
        refine r_loop (σ := Sl × Int) (fun i w' => ∃ (j : Nat) (Lk : List Blk), i.2 = j ∧ j ≤ ls.length ∧ i.1.n = (roots ++ leaseKeys now (ls.take j)).length ∧ OwnS ty_impl_Key 32 i.1 ((roots ++ leaseKeys now (ls.take j)).flatMap u8s) Lk ∧ At w w' (Lk ++ (L ++ []))) (fun i _ => (y.n - i.2).toNat) (y57, 0) rfl
          ⟨0, Lk, rfl, by omega, by simp only [leaseKeys, List.take_zero, List.filter_nil, List.map_nil, List.append_nil]; omega, by simpa [leaseKeys] using hOk, h⟩ ?_
        clear hOk hS h hy55 hn57 hyn55
        rintro ⟨sl, i⟩ w8 ⟨j, Lk, hij, hj, hsn, hOk, h⟩
        dsimp only at hij hsn hOk
        subst hij
        refine r_any fun _ => ?_
        dsimp only
        have hlk := leaseKeys_len now (ls.take j)
        rw [List.length_take] at hlk
        rw [List.length_append] at hsn
        refine r_if ((j : Int) < (y.n : Int)) rfl (fun hlt => ?_) (fun hge => ?_)
        · obtain ⟨l, q, hl, hlm, hq, hlo, hlc, hlk1, hlt1⟩ := (hy.at h.nil).get (i := j) (by omega)
          have hstep := leaseKeys_snoc now (ls.take j) l
          rw [← take_succ_get hl] at hstep
          refine r_ix q hq (by omega) (by omega) ?_
          refine r_ldN (sh := .int .i64) l.2 (by simp only [Int.toNat_natCast]; exact hlt1) ?_
          refine r_if (l.2 ≥ now) rfl (fun hge => ?_) (fun hlt' => ?_)
          · rw [if_pos hge] at hstep
            refine r_ix q hq (by omega) (by omega) ?_
            refine r_ldN (u8s l.1).toArray (by simp only [Int.toNat_natCast]; exact hlk1) ?_
            refine r_push T_sl_Key (hOk.slo h) (v := .agg (u8s l.1).toArray) (by simp [Value.cells, hlo.1]) (by omega) (by simpa [Value.cells] using u8s_one) (by omega) (by omega) fun y63 w11 hS hn => ?_
            obtain ⟨Lk', hOk', h⟩ := hS.split
            refine ⟨(y63, ((j + 1 : Nat) : Int)), by rw [w64 (by omega) (by omega)]; rfl, ⟨j + 1, Lk', rfl, by omega, ?_, ?_, h⟩, by dsimp only; omega⟩
            · rw [hstep, List.length_append, List.length_append]
              simp only [List.length_cons, List.length_nil]
              omega
            · rw [hstep, ← List.append_assoc, List.flatMap_append]
              simpa [Value.cells] using hOk'
          · rw [if_neg hlt', List.append_nil] at hstep
            exact ⟨(sl, ((j + 1 : Nat) : Int)), by rw [w64 (by omega) (by omega)]; rfl, ⟨j + 1, Lk, rfl, by omega, by rw [hstep, List.length_append]; exact hsn, by rw [hstep]; exact hOk, h⟩, by dsimp only; omega⟩
        · have hjl : j = ls.length := by omega
          subst hjl
          rw [List.take_of_length_le (Nat.le_refl _)] at hOk hsn hlk
          have hall' : ∀ k ∈ needRoots roots ls now, keyOk k := fun k hk => by
            rcases List.mem_append.1 hk with hk | hk
            · exact hx.ok k hk
            · exact leaseKeys_ok hy.ok k hk
          have hnl : (needRoots roots ls now).length ≤ 1000000 := by
            show (roots ++ leaseKeys now ls).length ≤ _
            rw [List.length_append]
            omega
          have hbok := fun {w' : World} {bl : List Blk} (h : At w w' bl) b hb => (hs.at h.nil).ok b hb
          refine r_call h (c_spec_reach (roots := needRoots roots ls now) (hO.rd h.pl1 (keysOf_ok _) (hbok h)) hpb hv (ownS_ks hOk h (List.sublist_append_left _ _) hall') hnl) fun r82 w9 _ _ ⟨D, out, Lf, Lm, hL9, hOf, hOm, hmn, hml, hD, hout, hok⟩ => ?_
          have h := h.join hL9
          have h : At w w9 (Lm ++ (Lf ++ (Lk ++ (L ++ [])))) := by simpa using h
          exact r_ret h.nil (some ⟨b, 0, none⟩, r82.1, (0 : Int)) rfl ⟨hcode.symm, fun _ => ⟨hv, b, L, Lf, D, rfl, h.right.dr1, hO, hOf, hD⟩⟩
      · refine r_true (by show (!isTime now) = true; simp [ht]) ?_
        exact bad_ h (code2 ⟨hv, hall⟩ h3 ht) (by decide)
    · refine r_true ?_ ?_
      · by_cases hv : validS B
        · have : timely ls = false := by simpa [hv] using hvt
          rw [decide_eq_true hv, this]; rfl
        · rw [decide_eq_false hv]; rfl
      · exact bad_ h (code1 hvt) (by decide)
  · refine r_loop (σ := Bool × Int) (fun i w' => ∃ j : Nat, i.2 = j ∧ j ≤ ls.length ∧ i.1 = (decide (validS B) && timely (ls.take j)) ∧ At w1 w' []) (fun i _ => (y.n - i.2).toNat) (decide (validS B), 0) rfl
      ⟨0, rfl, by omega, by simp [timely], At.refl w1⟩ ?_
    rintro ⟨sb, i⟩ w2 ⟨j, hij, hj, hsb, hA⟩
    dsimp only at hij hsb
    subst hij
    refine r_any fun _ => ?_
    dsimp only
    refine r_joinI ?_
    refine r_if ((j : Int) < (y.n : Int)) rfl (fun hlt => ?_) (fun hge => ?_)
    · cases sb with
      | true =>
        refine r_true rfl ?_
        refine ⟨(), rfl, r_any fun _ => ?_⟩
        obtain ⟨l, q, hl, hlm, hq, hlo, _, _, hlt1⟩ := (hy.at (h1.trans hA.below)).get (i := j) (by omega)
        refine r_ix q hq (by omega) (by omega) ?_
        refine r_call hA (c_l05Lease (t := l.2) (by simp only [Int.toNat_natCast]; exact hlt1)) fun r35 w3 hA _ hr => ?_
        subst hr
        refine ⟨(isTime l.2, ((j + 1 : Nat) : Int)), by rw [w64 (by omega) (by omega)]; rfl, ⟨j + 1, rfl, by omega, ?_, hA⟩, by dsimp only; omega⟩
        dsimp only
        rw [timely_take hl, ← Bool.and_assoc, ← hsb, Bool.true_and]
      | false =>
        refine r_false rfl ?_
        refine ⟨false, rfl, ?_, hA⟩
        by_cases hv : validS B
        · rw [decide_eq_true hv, Bool.true_and] at hsb ⊢
          have ht := hsb.symm
          unfold timely at ht ⊢
          symm
          rw [List.all_eq_false] at ht ⊢
          obtain ⟨l, hl, hh⟩ := ht
          exact ⟨l, List.mem_of_mem_take hl, hh⟩
        · rw [decide_eq_false hv]; rfl
    · have hjl : j = ls.length := by omega
      subst hjl
      rw [List.take_of_length_le (Nat.le_refl _)] at hsb
      exact ⟨sb, rfl, hsb, hA⟩)


end Go.Proofs.YtkifkdkjljcclaaGreat
