/- What a blob links to: both sides. The links of a blob: what both sides answer. Rules beside an own map. Printed in part (mp0.py). LinkPath's plain law: a search in breadth. Is a key in a slice of keys (reference); a slice of keys turned round (library). LinkPath's plain law: the path. LinkPath: the program's map of predecessors, plain. LinkPath: what both sides answer, plain. The nodes of maps by their keys: the program's mapper and the reference's l08Node. The program's walk over the nodes of a map. More kinds of values of which laws speak: bytes. More kinds of values of which laws speak: slices of bytes in slices. -/
import Derived.WideKeyRuns
import Derived.Test.YtaadgdbegpmlmaaGreatPkLBO18
import Derived.Test.YtaadgdbegpmlmaaGreatPkLBO19
import Derived.Test.YtaadgdbegpmlmaaGreatPkLBO06
import Derived.Test.YtaadgdbegpmlmaaGreatPkLBO17
namespace Go.Proofs.YtaadgdbegpmlmaaGreat
open Go.Sx Go.RowKit

def emptyKey : List Int := hashL 5 []
theorem emptyKey_ok : keyOk emptyKey := ⟨hashL_len _ _, hashL_ok _ _⟩
theorem c_EmptyMapKey (w : World) : Ret Tryz.prog n_impl_EmptyMapKey [] w [.agg] (fun r _ => r = (u8s emptyKey).toArray) := impl_EmptyMapKey_calls (by
  unfold impl_EmptyMapKey
  refine r_new (At.refl w) fun b0 w1 h => ?_
  refine r_call h (c_hash 5 (s := ⟨none, 0, 0⟩) (d := []) ⟨by simp [u8s], fun j v hv => by simp [u8s] at hv⟩ (fun b hb => by cases hb) (by simp)) fun r w2 h _ hr => ?_
  subst hr
  refine r_stA h 0 rfl rfl (by simp [hashL_len]) (by simp [Value.cells]) (by simpa using u8s_one) fun w3 h => ?_
  refine r_ldA h 0 rfl rfl (by simp [hashL_len]) ?_
  exact r_ret h.nil _ rfl rfl)
theorem c_l04Empty (w : World) : Ret Tryz.prog n_spec_l04Empty [] w [.agg] (fun r _ => r = (u8s emptyKey).toArray) := spec_l04Empty_calls (by
  unfold spec_l04Empty
  refine r_new (At.refl w) fun b0 w1 h => ?_
  refine r_bs0 T_sl_uint8' h fun y w2 hy hyn => ?_
  refine r_call hy.at_ (c_l01Hash 5 (d := []) hy.sl (fun b hb => by cases hb) (by simp)) fun r w2 h _ hr => ?_
  subst hr
  refine r_stA h 0 rfl rfl (by simp [hashL_len]) (by simp [Value.cells]) (by simpa using u8s_one) fun w3 h => ?_
  refine r_ldA h 0 rfl rfl (by simp [hashL_len]) ?_
  exact r_ret h.nil _ rfl rfl)

theorem c_IndexFuncK {w0 w : World} {ls : List Blk} {s : Sl} {ks : List (List Int)} (hA : At w0 w ls) (hs : KsR w s ks) (hmax : ks.length ≤ 1073741824) {g : FuncId} {cap : Array Value} (hg : isGo Tryz.prog g = true) (f : List Int → Bool)
    (hf : ∀ (w' : World) (k : List Int), At w0 w' ls → keyOk k → Ret Tryz.prog g ((#[] : Array Value).toList ++ [.agg (u8s k).toArray] ++ cap.toList) w' [.bool] (fun r _ => r = f k)) :
    Ret Tryz.prog n_slices_IndexFunc_sl_impl_Key_impl_Key [.slice s.a s.n s.c, .func (.func g) #[] cap] w [.int .i64] (fun r _ => (∃ i : Nat, r = i ∧ ∃ h : i < ks.length, (∀ x ∈ ks.take i, f x = false) ∧ f ks[i] = true) ∨ (r = -1 ∧ ∀ x ∈ ks, f x = false)) := slices_IndexFunc_sl_impl_Key_impl_Key_calls _ _ (by
  unfold slices_IndexFunc_sl_impl_Key_impl_Key
  have hn := hs.n
  refine r_loop (σ := Int) (fun i w' => ∃ j : Nat, i = j ∧ j ≤ ks.length ∧ (∀ x ∈ ks.take j, f x = false) ∧ At w w' []) (fun i _ => (s.n - i).toNat) 0 rfl ⟨0, rfl, by omega, by simp, At.refl w⟩ ?_
  rintro i w1 ⟨j, rfl, hj, hpre, h⟩
  refine r_any fun _ => ?_
  refine r_if ((j : Int) < (s.n : Int)) rfl (fun hlt => ?_) (fun hge => ?_)
  · obtain ⟨k, q, hk, hkm, hq, hko, hkl⟩ := (hs.at h).get (i := j) (by omega)
    refine r_ix q hq (by omega) (by omega) ?_
    refine r_ldN (u8s k).toArray (by simp only [Int.toNat_natCast]; exact hkl) ?_
    refine r_callV h hg (hf w1 k (hA.trans h.below) hko) fun r w2 h2 _ hr => ?_
    subst hr
    obtain ⟨hlt', hget⟩ := List.getElem?_eq_some_iff.1 hk
    refine r_cond (fun ht => ?_) (fun ht => ?_)
    · exact r_ret h2 (j : Int) rfl (.inl ⟨j, rfl, hlt', hpre, by rw [hget]; exact ht⟩)
    · refine ⟨((j + 1 : Nat) : Int), by rw [w64 (by omega) (by omega)]; rfl, ⟨j + 1, rfl, by omega, ?_, h2⟩, by omega⟩
      rw [take_succ_get hk]
      intro x hx
      rcases List.mem_append.1 hx with hx | hx
      · exact hpre x hx
      · rw [List.mem_singleton.1 hx]; exact ht
  · have : j = ks.length := by omega
    subst this
    rw [List.take_of_length_le (Nat.le_refl _)] at hpre
    exact r_ret h (-1 : Int) rfl (.inr ⟨rfl, hpre⟩))

theorem c_DeleteFunc {w0 w : World} {ls : List Blk} {s : Sl} {ks : List (List Int)} (hS : SlO w0 w ls ty_impl_Key 32 s (ks.flatMap u8s)) (hk : ∀ k ∈ ks, keyOk k) (hn : s.n = ks.length) (hmax : ks.length ≤ 1073741824) {g : FuncId} {cap : Array Value} (hg : isGo Tryz.prog g = true) (f : List Int → Bool)
    (hf : ∀ (w' : World) (k : List Int), At w0 w' ls → keyOk k → Ret Tryz.prog g ((#[] : Array Value).toList ++ [.agg (u8s k).toArray] ++ cap.toList) w' [.bool] (fun r _ => r = f k)) :
    Calls Tryz.prog n_slices_DeleteFunc_sl_impl_Key_impl_Key [.slice s.a s.n s.c, .func (.func g) #[] cap].toArray w fun e w' => ∃ v, e = .returned v ∧ ∃ r : Sl, v = .slice r.a r.n r.c ∧ SlO w0 w' ls ty_impl_Key 32 r ((ks.filter fun k => !f k).flatMap u8s) ∧ r.n = (ks.filter fun k => !f k).length := slices_DeleteFunc_sl_impl_Key_impl_Key_calls _ _ (by
  unfold slices_DeleteFunc_sl_impl_Key_impl_Key
  refine r_call hS.at_ (c_IndexFuncK hS.at_ (slO_ks hS hk) hmax hg f hf) fun r w1 h1 hb1 hr => ?_
  have hS := hS.trans hb1
  rcases hr with ⟨i0, rfl, hi0, hpre, hfi⟩ | ⟨rfl, hall⟩
  · refine r_eq (fun hh => by omega) (fun _ => ?_)
    obtain ⟨L, hO, hA⟩ := hS.split
    obtain ⟨p, hp⟩ := hO.addr (by omega)
    have hpre' : (ks.take i0).filter (fun k => !f k) = ks.take i0 := List.filter_eq_self.2 fun x hx => by simp [hpre x hx]
    refine r_loop (σ := Int × Int) (fun i w' => ∃ (kk j : Nat) (out tl : List (List Int)) (L : List Blk), i = ((kk : Int), (j : Int)) ∧ kk < j ∧ j ≤ ks.length ∧ out.length = kk ∧ tl.length = ks.length - kk ∧ tl.drop (j - kk) = ks.drop j ∧
        out = (ks.take j).filter (fun k => !f k) ∧ (∀ x ∈ out ++ tl, keyOk x) ∧ OwnS ty_impl_Key 32 s ((out ++ tl).flatMap u8s) L ∧ At w0 w' (L ++ ls)) (fun i _ => (s.n - i.2).toNat) ((i0 : Int), ((i0 + 1 : Nat) : Int)) (by rw [w64 (by omega) (by omega)]; rfl)
        ⟨i0, i0 + 1, ks.take i0, ks.drop i0, L, rfl, by omega, by omega, by simp; omega, by simp, by simp, ?_, by simpa using hk, by simpa using hO, hA⟩ ?_
    · rw [List.take_succ_eq_append_getElem hi0, List.filter_append, hpre']
      simp [hfi]
    rintro i w2 ⟨kk, j, out, tl, L, rfl, h1, h2, hol, htl, hdrop, hout, hok, hO, hA⟩
    refine r_any fun _ => ?_
    dsimp only
    have hzz : ∀ x ∈ out ++ tl, (u8s x).length = 32 := fun x hx => by simp [(hok x hx).1]
    refine r_if ((j : Int) < (s.n : Int)) rfl (fun hlt => ?_) (fun hge => ?_)
    · have rd := hO.of hA (List.sublist_append_left _ _) hzz (by omega)
      have hx : ks[j]? = some ks[j] := List.getElem?_eq_getElem (by omega)
      have hkx : keyOk ks[j] := hk _ (List.getElem_mem _)
      have hcur : (out ++ tl)[j]? = some ks[j] := by
        rw [List.getElem?_append_right (by omega), hol]
        have := congrArg (·[0]?) hdrop
        simp only [List.getElem?_drop, Nat.add_zero] at this
        rw [this, hx]
      refine r_ix p hp (by omega) (by omega) ?_
      refine r_ldN (u8s ks[j]).toArray (by simp only [Int.toNat_natCast]; exact rd.agg hcur hp) ?_
      refine r_new hA fun b7 w3 h => ?_
      refine r_stA h 0 rfl rfl (by simp [hkx.1]) (by simp [Value.cells]) (by simpa using u8s_one) fun w4 h => ?_
      have h : At w0 w4 ((b7, (u8s ks[j]).toArray, ty_impl_Key) :: (L ++ ls)) := h
      refine r_ldA h 0 rfl rfl (by simp [hkx.1]) ?_
      refine r_callV h hg (hf w4 _ h.tail.right hkx) fun r w5 h _ hr => ?_
      subst hr
      have hsn : (ks.take (j + 1)).filter (fun k => !f k) = if f ks[j] then out else out ++ [ks[j]] := by
        rw [take_succ_get hx, List.filter_append, ← hout]
        cases hfk : f ks[j] <;> simp [hfk]
      have htl2 : tl.drop (j + 1 - kk) = ks.drop (j + 1) := by
        have := congrArg (·.drop 1) hdrop
        simp only [List.drop_drop] at this
        rw [show j - kk + 1 = j + 1 - kk by omega] at this
        exact this
      cases hfk : f ks[j] with
      | true =>
        rw [hfk, if_pos rfl] at hsn
        refine r_false rfl ?_
        exact ⟨((kk : Int), ((j + 1 : Nat) : Int)), by rw [w64 (by omega) (by omega)]; rfl, ⟨kk, j + 1, out, tl, L, rfl, by omega, by omega, hol, htl, htl2, hsn.symm, hok, hO, h.tail⟩, by dsimp only; omega⟩
      | false =>
        rw [hfk, if_neg (by simp)] at hsn
        refine r_true rfl ?_
        refine r_ldA h 0 rfl rfl (by simp [hkx.1]) ?_
        refine r_ix p hp (by omega) (by omega) ?_
        have hol32 : (out.flatMap u8s).length = kk * 32 := by rw [flatMap_length (z := 32) (fun x hx => hzz x (by simp [hx])), hol]
        refine r_stO h.mid hO hp (kk * 32) (by simp) (by simp [Value.cells, hkx.1]) (by rw [flatMap_length hzz]; simp; omega) (by simpa [Value.cells] using u8s_one) fun w6 L6 hA6 hO6 => ?_
        refine ⟨(((kk + 1 : Nat) : Int), ((j + 1 : Nat) : Int)), by rw [w64 (by omega) (by omega), w64 (by omega) (by omega)]; rfl, ⟨kk + 1, j + 1, out ++ [ks[j]], tl.drop 1, L6, rfl, by omega, by omega, by simp [hol], by simp; omega, ?_, hsn.symm, ?_, ?_, hA6.unmid.tail⟩, by dsimp only; omega⟩
        · rw [List.drop_drop, show 1 + (j + 1 - (kk + 1)) = j + 1 - kk by omega]
          exact htl2
        · intro x hx
          simp only [List.mem_append, List.mem_singleton] at hx
          rcases hx with (hx | hx) | hx
          · exact hok x (by simp [hx])
          · subst hx; exact hkx
          · exact hok x (by simp [List.mem_of_mem_drop hx])
        · have e3 : ((out ++ tl).flatMap u8s).take (kk * 32) = out.flatMap u8s := by rw [List.flatMap_append, ← hol32, List.take_left]
          have e4 : ((out ++ tl).flatMap u8s).drop (kk * 32 + 32) = (tl.drop 1).flatMap u8s := by
            rw [List.flatMap_append, ← hol32, List.drop_append]
            cases tl with
            | nil => simp
            | cons t tl =>
              have ht : (u8s t).length = 32 := hzz t (by simp)
              rw [List.flatMap_cons, List.drop_eq_nil_of_le (by omega), List.nil_append, Nat.add_sub_cancel_left, ← ht, List.drop_left]
              rfl
          rw [e3, e4] at hO6
          simpa [Value.cells, List.flatMap_append] using hO6
    · have hj : j = ks.length := by omega
      subst hj
      rw [List.take_of_length_le (Nat.le_refl _)] at hout
      have hcap := hO.cap
      refine r_slSuf kk rfl rfl (by omega) hcap fun y2 hy2n hy2c hy2a => ?_
      refine r_clearO T_sl_Key (by kernel_rfl) hA hO kk (by omega) (fun _ => hy2a (by omega)) fun v w3 L3 xs3 hA3 hO3 htk => ?_
      refine r_slPre kk rfl rfl (by omega) ?_
      have hO4 := hO3.shrink kk (by omega)
      have hol32 : (out.flatMap u8s).length = kk * 32 := by rw [flatMap_length (z := 32) (fun x hx => hzz x (by simp [hx])), hol]
      rw [htk, List.flatMap_append, ← hol32, List.take_left] at hO4
      refine r_retR ⟨⟨s.a, kk, s.c⟩, rfl, ?_, by rw [← hout, hol]⟩
      rw [← hout]
      exact hO4.slo hA3
  · refine r_true rfl ?_
    have : ks.filter (fun k => !f k) = ks := List.filter_eq_self.2 fun x hx => by simp [hall x hx]
    exact r_retR ⟨s, rfl, by rw [this]; exact hS, by rw [this]; exact hn⟩)

end Go.Proofs.YtaadgdbegpmlmaaGreat

namespace Go.Sx
theorem SlO.base {w0 w : World} {ls : List Blk} {e z : Nat} {s : Sl} {xs : List Value} (h : SlO w0 w ls e z s xs) : SlO w0 w [] e z s xs := by
  obtain ⟨L, hO, hA⟩ := h.split
  exact hO.slo (ls := []) (by simpa using hA.left)
end Go.Sx
namespace Go.Proofs.YtaadgdbegpmlmaaGreat
open Go.Sx Go.RowKit

def notEmpty (k : List Int) : Bool := !decide (k = emptyKey)
def byte0 (d : List Int) : Nat := (d.getD 0 0).toNat
def links (b : PB) : List (List Int) :=
  if b.tag = 2 then (if b.data.length = 64 then keysN b.data 0 2 else [])
  else if b.tag = 5 then (if nodeOk b.data then [part32 b.data 0, part32 b.data 32].filter notEmpty else [])
  else if b.tag = 6 then (if b.data.length % 32 = 0 then keysN b.data 0 (b.data.length / 32) else [])
  else if b.tag = 7 then (if 1 ≤ b.data.length ∧ 1 + 32 * byte0 b.data ≤ b.data.length then keysN b.data 1 (byte0 b.data) else [])
  else []
theorem links_len (b : PB) : (links b).length ≤ b.data.length := by
  unfold links
  split
  · split
    · rw [keysN_len]; omega
    · simp
  split
  · split
    · rename_i hn
      have h1 := hn.1
      have := List.length_filter_le notEmpty [part32 b.data 0, part32 b.data 32]
      simp only [List.length_cons, List.length_nil] at this
      omega
    · simp
  split
  · split
    · rw [keysN_len]; omega
    · simp
  split
  · split
    · rw [keysN_len]; omega
    · simp
  · simp

theorem getD_byte {d : List Int} (hb : bytesOk d) {i : Nat} (h : i < d.length) : 0 ≤ d.getD i 0 ∧ d.getD i 0 < 256 := hb _ (by simp only [List.getD, List.getElem?_eq_getElem h, Option.getD_some]; exact List.getElem_mem _)

end Go.Proofs.YtaadgdbegpmlmaaGreat

namespace Go.Sx
open Go.RowKit (Below)
variable {P : Program} {R : Value → World → Prop} {w0 w : World} {ls : List Blk}

theorem lt_of_get {h : Array Obj} {r : Nat} {o : Obj} (hM : h[r]? = some o) : r < h.size := by
  rcases Nat.lt_or_ge r h.size with h' | h'
  · exact h'
  · rw [Array.getElem?_eq_none h'] at hM; cases hM
theorem _root_.Go.RowKit.Below.keeps {w w' : World} {r : Nat} {o : Obj} (hb : Below w.heap.size w w') (hM : w.heap[r]? = some o) : w'.heap[r]? = some o := by rw [hb.block r (lt_of_get hM)]; exact hM

theorem r_bs1M {r : Nat} {o : Obj} {t e z by_ : Nat} (hM : w.heap[r]? = some o) (hT : SlT P t e z by_) (hA : At w0 w ls) {v : Value} (hv : v.cells.size = z) (hz : z ≤ 16777216) {k : Sl → World → Prop} (h : ∀ s w', SlO w0 w' ls e z s v.cells.toList → s.n = 1 → w'.heap[r]? = some o → k s w') :
    ((real P R).sem (Instr.buildSlice t 1 #[(0, v)]) .slice k : World → Prop) w :=
  ⟨⟨some ⟨w.heap.size, 0, none⟩, 1, 1⟩, _, run_bs1 hT hv hz w, h _ _ (SlO.made hA (below_alloc w _) (heap_alloc_self w _) (Nat.le_refl _) (by simp [hv]) (Nat.le_refl _) (by unfold maxLen; omega) (by simp [hv]) (by rw [List.take_of_length_le (by simp)])) rfl ((below_alloc w _).keeps hM)⟩

def arrK (k : List Int) : Value := .agg (k.map (Value.int .u8)).toArray
/-- The entries of a map. -/
def MapIs (o : Obj) (m : List (List Int × Value)) : Prop := ∃ es clk, o = .map es clk ∧ es.toList.map (fun e => (e.key, e.val)) = m.map fun p => (arrK p.1, p.2)
theorem MapIs.no {o : Obj} {m : List (List Int × Value)} (h : MapIs o m) : ∀ c e f, o ≠ .cells c e f := by obtain ⟨es, clk, rfl, _⟩ := h; intro c e f hh; cases hh
theorem MapIs.nil (c : Nat) : MapIs (.map #[] c) [] := ⟨#[], c, rfl, rfl⟩

end Go.Sx

namespace Go.Proofs.YtaadgdbegpmlmaaGreat
open Go.Sx Go.RowKit

def blobAt (B : List PB) (k : List Int) : PB := B.getD (posK (keysOf B) k) ⟨0, []⟩
/-- What holds of all states of the search. -/
structure MetOk (B : List PB) (x : List Int) (s : List (List Int) × List Nat) : Prop where
  nodup : s.1.Nodup
  inB : ∀ k ∈ s.1, k ∈ keysOf B
  len : s.1.length = s.2.length
  first : s.1[0]? = some x
  par : ∀ j p, 0 < j → s.2[j]? = some p → p < j
end Go.Proofs.YtaadgdbegpmlmaaGreat

namespace Go.Proofs.YtaadgdbegpmlmaaGreat
open Go.Sx Go.RowKit

theorem c_l01Has {w : World} {s : Sl} {ks : List (List Int)} {k : List Int} (hs : KsR w s ks) (hk : keyOk k) (hmax : ks.length ≤ 1073741824) : Ret Tryz.prog n_spec_l01Has [.slice s.a s.n s.c, .agg (u8s k).toArray] w [.bool] (fun r _ => r = decide (k ∈ ks)) := spec_l01Has_calls _ _ (by
  unfold spec_l01Has
  have hn := hs.n
  refine r_new (At.refl w) fun b3 w1 h => ?_
  refine r_loop (σ := Int) (fun i w' => ∃ j : Nat, i = j ∧ j ≤ ks.length ∧ k ∉ ks.take j ∧ At w w' [(b3, (u8s k).toArray, ty_impl_Key)]) (fun i _ => (s.n - i).toNat) 0 rfl ⟨0, rfl, by omega, by simp, h⟩ ?_
  rintro i w2 ⟨j, rfl, hj, hnot, h⟩
  refine r_any fun _ => ?_
  refine r_if ((j : Int) < (s.n : Int)) rfl (fun hlt => ?_) (fun hge => ?_)
  · refine r_draw h fun w3 h => ?_
    obtain ⟨x, q, hx, hxm, hq, hxo, hxl⟩ := (hs.at h).get (i := j) (by omega)
    refine r_ix q hq (by omega) (by omega) ?_
    refine r_ldN (u8s x).toArray (by simp only [Int.toNat_natCast]; exact hxl) ?_
    refine r_ldA h 0 rfl rfl (by simp [hk.1]) ?_
    refine r_pur _ (fun w' => run_eql_key _ _ hxo.1 hk.1 w') ?_
    by_cases he : x = k
    · subst he
      refine r_true (decide_eq_true rfl) ?_
      exact r_ret h.nil true rfl (decide_eq_true hxm).symm
    · refine r_false (decide_eq_false he) ?_
      refine ⟨((j + 1 : Nat) : Int), by rw [w64 (by omega) (by omega)]; rfl, ⟨j + 1, rfl, by omega, ?_, h⟩, by omega⟩
      rw [take_succ_get hx, List.mem_append, List.mem_singleton]
      rintro (hh | hh)
      · exact hnot hh
      · exact he hh.symm
  · have : j = ks.length := by omega
    subst this
    rw [List.take_of_length_le (Nat.le_refl _)] at hnot
    exact r_ret h.nil false rfl (decide_eq_false hnot).symm)

theorem flatMap_cut {α : Type} {z : Nat} {f : α → List Value} (n : Nat) : ∀ ys : List α, (∀ x ∈ ys, (f x).length = z) → (ys.flatMap f).take (n * z) = (ys.take n).flatMap f ∧ (ys.flatMap f).drop (n * z) = (ys.drop n).flatMap f := by
  induction n with
  | zero => intro ys _; simp
  | succ n ih =>
    intro ys hy
    cases ys with
    | nil => simp
    | cons y r =>
      have hz := hy y (by simp)
      obtain ⟨i1, i2⟩ := ih r (fun x hx => hy x (by simp [hx]))
      rw [List.flatMap_cons, Nat.add_mul, Nat.one_mul, Nat.add_comm, List.take_succ_cons, List.drop_succ_cons, List.flatMap_cons]
      constructor
      · rw [List.take_append, hz, List.take_of_length_le (by omega), Nat.add_sub_cancel_left, i1]
      · rw [List.drop_append, hz, List.drop_eq_nil_of_le (by omega), Nat.add_sub_cancel_left, i2, List.nil_append]
theorem flatMap_set {α : Type} {z : Nat} {f : α → List Value} {l : List α} (hl : ∀ x ∈ l, (f x).length = z) {i : Nat} (hi : i < l.length) (y : α) : (l.flatMap f).take (i * z) ++ f y ++ (l.flatMap f).drop (i * z + z) = (l.set i y).flatMap f := by
  rw [show i * z + z = (i + 1) * z by rw [Nat.add_mul, Nat.one_mul], (flatMap_cut i l hl).1, (flatMap_cut (i + 1) l hl).2, List.set_eq_take_append_cons_drop, if_pos hi]
  simp

end Go.Proofs.YtaadgdbegpmlmaaGreat

namespace Go.Proofs.YtaadgdbegpmlmaaGreat
open Go.Sx Go.RowKit

end Go.Proofs.YtaadgdbegpmlmaaGreat

namespace Go.Proofs.YtaadgdbegpmlmaaGreat
open Go.Sx Go.RowKit

end Go.Proofs.YtaadgdbegpmlmaaGreat

namespace Go.Proofs.YtaadgdbegpmlmaaGreat
open Go.Sx Go.RowKit

theorem nodup_le {α : Type} [DecidableEq α] : ∀ {s t : List α}, s.Nodup → (∀ x ∈ s, x ∈ t) → s.length ≤ t.length
  | [], t, _, _ => Nat.zero_le _
  | x :: s, t, hn, hs => by
    rw [List.nodup_cons] at hn
    have hx : x ∈ t := hs x (by simp)
    have ih := nodup_le (s := s) (t := t.erase x) hn.2 fun y hy => (List.mem_erase_of_ne (fun e : y = x => hn.1 (by rw [← e]; exact hy))).2 (hs y (by simp [hy]))
    rw [List.length_erase_of_mem hx] at ih
    have : 0 < t.length := List.length_pos_of_mem hx
    rw [List.length_cons]
    omega

theorem MetOk.le {B : List PB} {x : List Int} {s : List (List Int) × List Nat} (h : MetOk B x s) : s.1.length ≤ B.length := by
  have := nodup_le h.nodup h.inB
  rwa [keysOf_len] at this
end Go.Proofs.YtaadgdbegpmlmaaGreat

namespace Go.Proofs.YtaadgdbegpmlmaaGreat
open Go.Sx Go.RowKit

def nmOf (d : List Int) : ByteArray := strOf (nodeName d)
def lowBad (lo : Option ByteArray) (nm : ByteArray) : Bool := match lo with
  | none => false
  | some s => Op.bytesLess nm.toList s.toList || nm.toList == s.toList
def highBad (hi : Option ByteArray) (nm : ByteArray) : Bool := match hi with
  | none => false
  | some s => !Op.bytesLess nm.toList s.toList
def nodeGood (b : PB) : Prop := b.tag = 5 ∧ nodeOk b.data
instance (b : PB) : Decidable (nodeGood b) := inferInstanceAs (Decidable (b.tag = 5 ∧ nodeOk b.data))
def nodeFits (b : PB) (many : Nat) (loose : Bool) (lo hi : Option ByteArray) : Prop := nodeGood b ∧ many < 64 ∧ (loose = true ∨ (lowBad lo (nmOf b.data) = false ∧ highBad hi (nmOf b.data) = false))
end Go.Proofs.YtaadgdbegpmlmaaGreat

namespace Go.Proofs.YtaadgdbegpmlmaaGreat
open Go.Sx Go.RowKit

instance (b : PB) (many : Nat) (loose : Bool) (lo hi : Option ByteArray) : Decidable (nodeFits b many loose lo hi) := inferInstanceAs (Decidable (nodeGood b ∧ many < 64 ∧ (loose = true ∨ (lowBad lo (nmOf b.data) = false ∧ highBad hi (nmOf b.data) = false))))
end Go.Proofs.YtaadgdbegpmlmaaGreat

namespace Go.Proofs.YtaadgdbegpmlmaaGreat
open Go.Sx Go.RowKit

def RdByteS (w : World) (s : Sl) (l : List Int) : Prop := BSl w s l
theorem RdByteS.at {w w' : World} {ls : List Blk} {s : Sl} {l : List Int} (h : RdByteS w s l) (hA : At w w' ls) : RdByteS w' s l := BSl.at h hA
def OwnByteS (s : Sl) (l : List Int) (L : List Blk) : Prop := OwnS ty_uint8 1 s (u8s l) L ∧ bytesOk l
theorem OwnByteS.rd {w0 w : World} {s : Sl} {l : List Int} {L ls : List Blk} (h : OwnByteS s l L) (hA : At w0 w (L ++ ls)) : RdByteS w s l := ownS_bytes h.1 hA (List.sublist_append_left _ _) h.2
theorem OwnByteS.none : OwnByteS ⟨none, 0, 0⟩ [] [] := ⟨OwnS.nil _ _, by intro b hb; cases hb⟩
def RawByteS (w : World) (s : Sl) (l : List Int) : Prop := BSl w s l ∧ s.c ≤ maxLen
theorem RawByteS.rd {w : World} {s : Sl} {l : List Int} (h : RawByteS w s l) : RdByteS w s l := h.1
end Go.Proofs.YtaadgdbegpmlmaaGreat

namespace Go.Proofs.YtaadgdbegpmlmaaGreat
open Go.Sx Go.RowKit
open Go.ChangeShapes Go.WideShapes Go.ChangeAt Go.Deep

structure SR where
  d : Sl
  data : List Int
instance : Inhabited SR := ⟨⟨⟨none, 0, 0⟩, []⟩⟩
def SR.cells (r : SR) : List Value := [.slice r.d.a r.d.n r.d.c]
theorem scells_len (r : SR) : r.cells.length = 1 := rfl
structure SsR (w : World) (s : Sl) (rs : List SR) : Prop where
  of : SlOf w s 1 SR.cells rs
  ok : ∀ r ∈ rs, BSl w r.d r.data
theorem SsR.at {w w' : World} {ls : List Blk} {s : Sl} {rs : List SR} (h : SsR w s rs) (hA : At w w' ls) : SsR w' s rs := ⟨h.of.below hA.below, fun r hr => (h.ok r hr).at hA⟩
theorem SsR.n {w : World} {s : Sl} {rs : List SR} (h : SsR w s rs) : s.n = rs.length := h.of.n
theorem SsR.get {w : World} {s : Sl} {rs : List SR} (h : SsR w s rs) {i : Nat} (hi : i < rs.length) : ∃ r p, rs[i]? = some r ∧ r ∈ rs ∧ s.a = some p ∧ BSl w r.d r.data ∧ ldOk w 1 (p.add (i * 1)) .slice r.d := by
  have hk : rs[i]? = some rs[i] := List.getElem?_eq_getElem hi
  obtain ⟨p, hp, _⟩ := h.of.cell hk
  refine ⟨_, p, hk, List.getElem_mem hi, hp, h.ok _ (List.getElem_mem hi), ?_⟩
  have := h.of.fld hk hp (n := 1) 0 (sh := .slice) (y := rs[i].d) rfl (by simp [Sh.emb])
  rwa [Nat.add_zero] at this

/-- Data that are one's own. -/
inductive OwnSD : List SR → List Blk → Prop where
  | nil : OwnSD [] []
  | cons {b : SR} {r : List SR} {L1 L2 : List Blk} : OwnS ty_uint8 1 b.d (u8s b.data) L1 → OwnSD r L2 → OwnSD (b :: r) (L1 ++ L2)
theorem OwnSD.append {r t : List SR} {L M : List Blk} (h : OwnSD r L) (k : OwnSD t M) : OwnSD (r ++ t) (L ++ M) := by
  induction h with
  | nil => exact k
  | cons h1 _ ih => rw [List.append_assoc]; exact .cons h1 ih
theorem OwnSD.snoc {r : List SR} {b : SR} {L M : List Blk} (h : OwnSD r L) (k : OwnS ty_uint8 1 b.d (u8s b.data) M) : OwnSD (r ++ [b]) (L ++ M) := by
  have := h.append (OwnSD.cons k .nil)
  simpa using this
theorem OwnSD.ok {w0 w : World} {ls L : List Blk} {rs : List SR} (h : OwnSD rs L) (hA : At w0 w ls) (hs : L.Sublist ls) (hb : ∀ x ∈ rs.map SR.data, bytesOk x) : ∀ r ∈ rs, BSl w r.d r.data := by
  induction h with
  | nil => simp
  | @cons b r L1 L2 h1 h2 ih =>
    intro x hx
    cases hx with
    | head => exact ownS_bytes h1 hA ((List.sublist_append_left _ _).trans hs) (hb b.data (by simp))
    | tail _ hx => exact ih ((List.sublist_append_right _ _).trans hs) (fun b hx => hb b (by simp only [List.map_cons, List.mem_cons]; exact .inr hx)) x hx
def OwnSs (s : Sl) (rs : List SR) (L : List Blk) : Prop := ∃ Lb Ld, L = Lb ++ Ld ∧ OwnS ty_sl_uint8 1 s (rs.flatMap SR.cells) Lb ∧ OwnSD rs Ld
theorem OwnSs.rd {w0 w : World} {ls L : List Blk} {s : Sl} {rs : List SR} (h : OwnSs s rs L) (hA : At w0 w (L ++ ls)) (hb : ∀ x ∈ rs.map SR.data, bytesOk x) : SsR w s rs := by
  obtain ⟨Lb, Ld, rfl, h1, h2⟩ := h
  rw [List.append_assoc] at hA
  exact ⟨h1.of hA (List.sublist_append_left _ _) (fun b _ => scells_len b) (by omega), h2.ok hA ((List.sublist_append_left _ _).trans (List.sublist_append_right _ _)) hb⟩
def RdByteSS (w : World) (s : Sl) (X : List (List Int)) : Prop := ∃ rs, rs.map SR.data = X ∧ SsR w s rs
theorem RdByteSS.at {w w' : World} {ls : List Blk} {s : Sl} {X : List (List Int)} (h : RdByteSS w s X) (hA : At w w' ls) : RdByteSS w' s X := let ⟨rs, h1, h2⟩ := h; ⟨rs, h1, h2.at hA⟩
def OwnByteSS (s : Sl) (X : List (List Int)) (L : List Blk) : Prop := ∃ rs, rs.map SR.data = X ∧ OwnSs s rs L ∧ ∀ x ∈ X, bytesOk x
theorem OwnByteSS.rd {w0 w : World} {s : Sl} {X : List (List Int)} {L ls : List Blk} (h : OwnByteSS s X L) (hA : At w0 w (L ++ ls)) : RdByteSS w s X := let ⟨rs, h1, h2, h3⟩ := h; ⟨rs, h1, h2.rd hA (h1 ▸ h3)⟩
theorem OwnByteSS.none : OwnByteSS ⟨none, 0, 0⟩ [] [] := ⟨[], rfl, ⟨[], [], rfl, OwnS.nil _ _, .nil⟩, by simp⟩
def RawByteSS (w : World) (s : Sl) (X : List (List Int)) : Prop := ∃ rs, rs.map SR.data = X ∧ SsR w s rs ∧ s.c ≤ maxLen ∧ ∀ r ∈ rs, r.d.c ≤ maxLen
theorem RawByteSS.rd {w : World} {s : Sl} {X : List (List Int)} (h : RawByteSS w s X) : RdByteSS w s X := let ⟨rs, h1, h2, _⟩ := h; ⟨rs, h1, h2⟩
end Go.Proofs.YtaadgdbegpmlmaaGreat
