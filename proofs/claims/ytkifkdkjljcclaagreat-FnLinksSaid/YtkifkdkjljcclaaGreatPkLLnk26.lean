/- LinkCounts, RootsOf: what the program and the reference answer. Printed in part by a program of this claim's author (y3.py). -/
import Derived.Test.YtkifkdkjljcclaaGreatPkLLnk25
import Derived.Test.YtkifkdkjljcclaaGreatPkLLnk21
namespace Go.Sx
theorem r_mkI {P : Program} {R : Value → World → Prop} {w0 w : World} {ls : List Blk} {t e by_ : Nat} {k0 : IntKind} (hT : SlT P t e 1 by_) (hz0 : (P.info? e).bind (·.zero) = some (.int k0 0)) (hA : At w0 w ls) {n : Nat} (hb : by_ * n ≤ 281474976710656) (hn : n ≤ 281474976710656) {k : Sl → World → Prop}
    (h : ∀ s L w', At w0 w' (L ++ ls) → OwnS e 1 s (List.replicate n (.int k0 0)) L → s.n = n → (∃ p, s.a = some p) → k s w') :
    ((real P R).sem (Instr.makeSlice t (.int .i64 (n : Int)) (.int .i64 (n : Int))) .slice k : World → Prop) w := by
  obtain ⟨i, zv, hi, hzv, hsz, hby, hzs⟩ := hT.ex
  have hm : ((by_ : Int) * (n : Int)) = ((by_ * n : Nat) : Int) := by simp
  have hr := run_make w t e i zv hT.ut hi hzv .i64 .i64 (n : Int) (n : Int) (by omega) (Int.le_refl _) (by rw [hby, hm]; omega) (by omega)
  have hzv' : zv = .int k0 0 := by rw [hi] at hz0; simpa [hzv] using hz0
  have hcur : (madeCells zv.cells (n * 1)).toList = List.replicate n (.int k0 0) := by
    subst hzv'
    apply List.ext_getElem?
    intro j
    simp only [madeCells, Nat.mul_one, Array.toList_map, List.getElem?_map, Array.toList_range]
    rcases Nat.lt_or_ge j n with hj | hj
    · simp [hj, Value.cells, Nat.mod_one]
    · rw [List.getElem?_eq_none (by simp; omega), List.getElem?_eq_none (by simp; omega)]; rfl
  refine ⟨⟨some ⟨w.heap.size, 0, none⟩, n, n⟩, w.alloc (.cells (madeCells zv.cells (n * 1)) e), ?_, h ⟨some ⟨w.heap.size, 0, none⟩, n, n⟩ [(w.heap.size, madeCells zv.cells (n * 1), e)] _ ((hA.trans (below_alloc w _)).add (heap_alloc_self w _) hA.size (hA.fresh (Nat.le_refl _))) ⟨by simp, .inr ⟨_, _, rfl, rfl, Nat.le_refl _, by unfold maxLen; show n ≤ _; omega, by rw [size_madeCells], by rw [hcur, List.length_replicate, List.take_of_length_le (by simp)]⟩⟩ rfl ⟨_, rfl⟩⟩
  rw [hr, hsz]
  rfl
end Go.Sx
namespace Go.Proofs.YtkifkdkjljcclaaGreat
open Go.Sx Go.RowKit

def incr (ks : List (List Int)) (c : List Int) (k : List Int) : List Int := if k ∈ ks then c.set (posK ks k) (c.getD (posK ks k) 0 + 1) else c
def countsOf (B : List PB) : List Int := (B.flatMap links).foldl (incr (keysOf B)) (List.replicate B.length 0)
theorem incr_len (ks : List (List Int)) (c : List Int) (k : List Int) : (incr ks c k).length = c.length := by unfold incr; split <;> simp
theorem incr_bd {ks : List (List Int)} {c : List Int} {t : Nat} (k : List Int) (h : ∀ x ∈ c, 0 ≤ x ∧ x ≤ (t : Int)) : ∀ x ∈ incr ks c k, 0 ≤ x ∧ x ≤ ((t + 1 : Nat) : Int) := by
  intro x hx
  unfold incr at hx
  split at hx
  · rcases List.mem_or_eq_of_mem_set hx with hx | rfl
    · have := h x hx; omega
    · have : 0 ≤ c.getD (posK ks k) 0 ∧ c.getD (posK ks k) 0 ≤ (t : Int) := by
        simp only [List.getD]
        cases hg : c[posK ks k]? with
        | none => simp
        | some y => simpa using h y (List.mem_of_getElem? hg)
      omega
  · have := h x hx; omega
theorem links_total {l : List PB} (h : ∀ b ∈ l, b.data.length ≤ 1024) : (l.flatMap links).length ≤ l.length * 1024 := by
  induction l with
  | nil => simp
  | cons b r ih =>
    have h1 := links_len b
    have h2 := h b (by simp)
    have := ih (fun x hx => h x (by simp [hx]))
    rw [List.flatMap_cons, List.length_append, List.length_cons]
    omega
theorem foldl_len (ks ls : List (List Int)) (c : List Int) : (ls.foldl (incr ks) c).length = c.length := by
  induction ls generalizing c with
  | nil => rfl
  | cons a r ih => rw [List.foldl_cons, ih, incr_len]
theorem countsOf_len (B : List PB) : (countsOf B).length = B.length := by unfold countsOf; rw [foldl_len, List.length_replicate]

theorem c_impl_counts {w : World} {p : Addr} {B : List PB} {bs : List BR} (hs : ShopR w p (keysOf B) bs) (hpb : bs.map BR.pb = B) (hasc : Asc (keysOf B)) (hmax : B.length ≤ 128) (hd : ∀ b ∈ B, b.data.length ≤ 1024) :
    Ret Tryz.prog n_ptr_impl_shop_counts [.pointer (some p)] w [.slice] (fun r w' => ∃ L, At w w' L ∧ OwnInt64S r (countsOf B) L) := ptr_impl_shop_counts_calls _ (by
  unfold ptr_impl_shop_counts
  obtain ⟨sk, sb, e1, e2, hK, hB⟩ := hs.ex
  have hkn := hK.n
  rw [keysOf_len] at hkn
  have hbn := hB.n
  have hbl : bs.length = B.length := by rw [← hpb]; simp
  refine r_ldN sk (e1 1) ?_
  refine r_mkI (k0 := .i64) T_sl_int64 (by kernel_rfl) (At.refl w) (by omega) (by omega) fun y Ly w1 h hO hyn hya => ?_
  refine r_ldN sb (ldOk_below h.below (e2 1)) ?_
  refine r_loop (σ := Int) (fun i w' => ∃ (j : Nat) (c : List Int) (Ly : List Blk), i = j ∧ j ≤ B.length ∧ At w w' (Ly ++ []) ∧ OwnInt64S y c Ly ∧ c = ((B.take j).flatMap links).foldl (incr (keysOf B)) (List.replicate B.length 0) ∧ c.length = B.length ∧ ∀ x ∈ c, 0 ≤ x ∧ x ≤ (((B.take j).flatMap links).length : Int)) (fun i _ => (sb.n - i).toNat) 0 rfl
    ⟨0, List.replicate B.length 0, Ly, rfl, by omega, h, by unfold OwnInt64S i64s; rw [List.map_replicate, ← hkn]; exact hO, by simp, by simp, by simp⟩ ?_
  rintro i w2 ⟨j, c, Ly, rfl, hj, h, hO, hc, hcl, hcb⟩
  refine r_any fun _ => ?_
  refine r_if ((j : Int) < (sb.n : Int)) rfl (fun hlt => ?_) (fun hge => ?_)
  · obtain ⟨b, q, hb, hbm, hq, hok, hag, _, _⟩ := (hB.at h.nil).get (i := j) (by omega)
    have hBb := pb_get hpb hb
    have hbk : bytesOk b.data := hok.bytes.ok
    refine r_ix q hq (by omega) (by omega) ?_
    refine r_ldN b.cells.toArray (by simp only [Int.toNat_natCast]; exact hag) ?_
    refine r_new h fun b5 w3 h => ?_
    refine r_stA h 0 rfl rfl rfl rfl (by simpa using cells_one b) fun w4 h => ?_
    have h : At w w4 ((b5, b.cells.toArray, ty_impl_Blob) :: (Ly ++ [])) := h
    refine r_ldA h 0 rfl rfl rfl ?_
    have h := h.tail
    have hdb0 := hd b.pb (List.mem_of_getElem? hBb)
    simp only [BR.pb] at hdb0
    refine r_call h (c_impl_links ((hB.at h.nil).ok b hbm) (by omega)) fun r26 w5 _ _ ⟨hr, hrn⟩ => ?_
    obtain ⟨Lr, hOr, h⟩ := SlO.own_of h hr
    have hlk := links_ok (b := b.pb) hbk
    have htot := links_total (l := B.take j) (fun x hx => hd x (List.mem_of_mem_take hx))
    have htl : (B.take j).length = j := by rw [List.length_take]; omega
    rw [htl] at htot
    have hll := links_len b.pb
    have hdb := hd b.pb (List.mem_of_getElem? hBb)
    refine r_loop (σ := Int) (fun i w' => ∃ (m : Nat) (c : List Int) (Ly : List Blk), i = m ∧ m ≤ (links b.pb).length ∧ At w w' (Lr ++ (Ly ++ [])) ∧ OwnInt64S y c Ly ∧ c = ((links b.pb).take m).foldl (incr (keysOf B)) (((B.take j).flatMap links).foldl (incr (keysOf B)) (List.replicate B.length 0)) ∧ c.length = B.length ∧ ∀ x ∈ c, 0 ≤ x ∧ x ≤ ((((B.take j).flatMap links).length + m : Nat) : Int)) (fun i _ => (r26.n - i).toNat) 0 rfl
      ⟨0, c, Ly, rfl, by omega, h, hO, by simpa using hc, hcl, hcb⟩ ?_
    rintro i w8 ⟨m, c, Ly, rfl, hm, h, hO, hc, hcl, hcb⟩
    refine r_any fun _ => ?_
    refine r_if ((m : Int) < (r26.n : Int)) rfl (fun hlt2 => ?_) (fun hge2 => ?_)
    · obtain ⟨k, qk, hk, hkm, hqk, hko, hkl⟩ := (ownS_ks hOr h (List.sublist_append_left _ _) hlk).get (i := m) (by omega)
      refine r_ix qk hqk (by omega) (by omega) ?_
      refine r_ldN (u8s k).toArray (by simp only [Int.toNat_natCast]; exact hkl) ?_
      refine r_new h fun b7 w9 h9 => ?_
      refine r_stA h9 0 rfl rfl (by simp [hko.1]) (by simp [Value.cells]) (by simpa using u8s_one) fun w10 h9 => ?_
      refine r_ldA h9 0 rfl rfl (by simp [hko.1]) ?_
      have h : At w w10 (Lr ++ (Ly ++ [])) := At.tail h9
      refine r_call h (c_find (hs.at h) hasc hko (by rw [keysOf_len]; omega)) fun r w11 h _ hr => ?_
      subst hr
      have hstep : ((links b.pb).take (m + 1)).foldl (incr (keysOf B)) (((B.take j).flatMap links).foldl (incr (keysOf B)) (List.replicate B.length 0)) = incr (keysOf B) c k := by
        rw [take_succ_get hk, List.foldl_append, ← hc]
        rfl
      have hO' : OwnS ty_int64 1 y (i64s c) Ly := hO
      by_cases hmem : k ∈ keysOf B
      · refine r_true (decide_eq_true hmem) ?_
        have hp := (List.getElem?_eq_some_iff.1 ((posK_mem hasc).1 hmem)).1
        rw [keysOf_len] at hp
        obtain ⟨py, hpy⟩ := hO'.addr (by omega)
        have hyn' : y.n = c.length := by have := hO'.1; rw [i64s_len] at this; omega
        have hg : 0 ≤ c.getD (posK (keysOf B) k) 0 ∧ c.getD (posK (keysOf B) k) 0 ≤ ((((B.take j).flatMap links).length + m : Nat) : Int) := hcb _ (by simp only [List.getD, List.getElem?_eq_getElem (show posK (keysOf B) k < c.length by omega), Option.getD_some]; exact List.getElem_mem _)
        obtain ⟨py2, hpy2, hcell⟩ := (hO.rd h.rot).get (i := posK (keysOf B) k) (by omega)
        rw [hpy] at hpy2
        cases hpy2
        refine r_ix py hpy (by omega) (by omega) ?_
        refine r_ldN (sh := .int .i64) (c.getD (posK (keysOf B) k) 0) (by simp only [Int.toNat_natCast, Nat.mul_one]; exact hcell) ?_
        refine r_ix py hpy (by omega) (by omega) ?_
        rw [w64 (n := c.getD (posK (keysOf B) k) 0 + 1) (by omega) (by omega)]
        refine r_stO h.rot hO' hpy (posK (keysOf B) k) (by simp) (by simp [Value.cells]) (by rw [i64s_len]; omega) (by simp [Value.cells, oneC]) fun w10 L10 h hO10 => ?_
        have hset : (i64s c).take (posK (keysOf B) k) ++ (Value.int .i64 (c.getD (posK (keysOf B) k) 0 + 1)).cells.toList ++ (i64s c).drop (posK (keysOf B) k + 1) = i64s (incr (keysOf B) c k) := by
          unfold incr
          rw [if_pos hmem, List.set_eq_take_append_cons_drop, if_pos (by omega)]
          simp [i64s, Value.cells]
        rw [hset] at hO10
        refine ⟨((m + 1 : Nat) : Int), by rw [w64 (by omega) (by omega)]; rfl, ⟨m + 1, _, L10, rfl, by omega, h.rot, hO10, hstep.symm, by rw [incr_len]; exact hcl, incr_bd k hcb⟩, by omega⟩
      · refine r_false (decide_eq_false hmem) ?_
        have hsame : incr (keysOf B) c k = c := by unfold incr; rw [if_neg hmem]
        rw [hsame] at hstep
        exact ⟨((m + 1 : Nat) : Int), by rw [w64 (by omega) (by omega)]; rfl, ⟨m + 1, c, Ly, rfl, by omega, h, hO, hstep.symm, hcl, fun x hx => by have := hcb x hx; omega⟩, by omega⟩
    · have hml : m = (links b.pb).length := by omega
      subst hml
      rw [List.take_of_length_le (Nat.le_refl _)] at hc
      refine ⟨((j + 1 : Nat) : Int), by rw [w64 (by omega) (by omega)]; rfl, ⟨j + 1, c, Ly, rfl, by omega, h.right, hO, ?_, hcl, ?_⟩, by omega⟩
      · rw [hc, take_succ_get hBb, List.flatMap_append, List.foldl_append]
        simp
      · rw [take_succ_get hBb, List.flatMap_append, List.length_append]
        simpa using hcb
  · have hjl : j = B.length := by omega
    subst hjl
    rw [List.take_of_length_le (Nat.le_refl _)] at hc
    subst hc
    exact r_ret h.nil y rfl ⟨Ly, by simpa using h, hO⟩)

theorem c_spec_counts {w : World} {p : Addr} {B : List PB} {bs : List BR} (hs : SpecR w p (keysOf B) bs) (hpb : bs.map BR.pb = B) (hasc : Asc (keysOf B)) (hmax : B.length ≤ 128) (hd : ∀ b ∈ B, b.data.length ≤ 1024) :
    Ret Tryz.prog n_ptr_spec_l05Store_counts [.pointer (some p)] w [.slice] (fun r w' => ∃ L, At w w' L ∧ OwnInt64S r (countsOf B) L) := ptr_spec_l05Store_counts_calls _ (by
  unfold ptr_spec_l05Store_counts
  obtain ⟨sk, sb, e1, e2, hK, hB⟩ := hs.ex
  have hkn := hK.n
  rw [keysOf_len] at hkn
  have hbn := hB.n
  have hbl : bs.length = B.length := by rw [← hpb]; simp
  refine r_ldN sk (e1 1) ?_
  refine r_mkI (k0 := .i64) T_sl_int64 (by kernel_rfl) (At.refl w) (by omega) (by omega) fun y Ly w1 h hO hyn hya => ?_
  refine r_loop (σ := Int) (fun i w' => ∃ (j : Nat) (c : List Int) (Ly : List Blk), i = j ∧ j ≤ B.length ∧ At w w' (Ly ++ []) ∧ OwnInt64S y c Ly ∧ c = ((B.take j).flatMap links).foldl (incr (keysOf B)) (List.replicate B.length 0) ∧ c.length = B.length ∧ ∀ x ∈ c, 0 ≤ x ∧ x ≤ (((B.take j).flatMap links).length : Int)) (fun i _ => (sb.n - i).toNat) 0 rfl
    ⟨0, List.replicate B.length 0, Ly, rfl, by omega, h, by unfold OwnInt64S i64s; rw [List.map_replicate, ← hkn]; exact hO, by simp, by simp, by simp⟩ ?_
  rintro i w2 ⟨j, c, Ly, rfl, hj, h, hO, hc, hcl, hcb⟩
  refine r_any fun _ => ?_
  refine r_ldN sb (ldOk_below h.below (e2 1)) ?_
  refine r_if ((j : Int) < (sb.n : Int)) rfl (fun hlt => ?_) (fun hge => ?_)
  · refine r_ldN sb (ldOk_below h.below (e2 1)) ?_
    obtain ⟨b, q, hb, hbm, hq, hbat, _⟩ := (hB.at h.nil).bat (i := j) (by omega)
    have hBb := pb_get hpb hb
    have hbk : bytesOk b.data := hbat.ok.bytes.ok
    have hdb0 := hd b.pb (List.mem_of_getElem? hBb)
    simp only [BR.pb] at hdb0
    refine r_ix q hq (by omega) (by omega) ?_
    refine r_call h (c_l05Links (b := b) (by simpa only [Int.toNat_natCast] using hbat) (by omega)) fun r29 w5 _ _ ⟨hr, hrn⟩ => ?_
    obtain ⟨Lr, hOr, h⟩ := SlO.own_of h hr
    have hlk := links_ok (b := b.pb) hbk
    have htot := links_total (l := B.take j) (fun x hx => hd x (List.mem_of_mem_take hx))
    have htl : (B.take j).length = j := by rw [List.length_take]; omega
    rw [htl] at htot
    have hll := links_len b.pb
    have hdb := hd b.pb (List.mem_of_getElem? hBb)
    refine r_loop (σ := Int) (fun i w' => ∃ (m : Nat) (c : List Int) (Ly : List Blk), i = m ∧ m ≤ (links b.pb).length ∧ At w w' (Lr ++ (Ly ++ [])) ∧ OwnInt64S y c Ly ∧ c = ((links b.pb).take m).foldl (incr (keysOf B)) (((B.take j).flatMap links).foldl (incr (keysOf B)) (List.replicate B.length 0)) ∧ c.length = B.length ∧ ∀ x ∈ c, 0 ≤ x ∧ x ≤ ((((B.take j).flatMap links).length + m : Nat) : Int)) (fun i _ => (r29.n - i).toNat) 0 rfl
      ⟨0, c, Ly, rfl, by omega, h, hO, by simpa using hc, hcl, hcb⟩ ?_
    rintro i w8 ⟨m, c, Ly, rfl, hm, h, hO, hc, hcl, hcb⟩
    refine r_any fun _ => ?_
    refine r_if ((m : Int) < (r29.n : Int)) rfl (fun hlt2 => ?_) (fun hge2 => ?_)
    · obtain ⟨k, qk, hk, hkm, hqk, hko, hkl⟩ := (ownS_ks hOr h (List.sublist_append_left _ _) hlk).get (i := m) (by omega)
      refine r_ix qk hqk (by omega) (by omega) ?_
      refine r_ldN (u8s k).toArray (by simp only [Int.toNat_natCast]; exact hkl) ?_
      refine r_call h (c_spec_find (hs.at h) hasc hko (by rw [keysOf_len]; omega)) fun r w11 h _ hr => ?_
      subst hr
      have hstep : ((links b.pb).take (m + 1)).foldl (incr (keysOf B)) (((B.take j).flatMap links).foldl (incr (keysOf B)) (List.replicate B.length 0)) = incr (keysOf B) c k := by
        rw [take_succ_get hk, List.foldl_append, ← hc]
        rfl
      have hO' : OwnS ty_int64 1 y (i64s c) Ly := hO
      by_cases hmem : k ∈ keysOf B
      · rw [if_pos hmem]
        refine r_if ((posK (keysOf B) k : Int) ≥ 0) rfl (fun _ => ?_) (fun hh => by omega)
        have hp := (List.getElem?_eq_some_iff.1 ((posK_mem hasc).1 hmem)).1
        rw [keysOf_len] at hp
        obtain ⟨py, hpy⟩ := hO'.addr (by omega)
        have hyn' : y.n = c.length := by have := hO'.1; rw [i64s_len] at this; omega
        have hg : 0 ≤ c.getD (posK (keysOf B) k) 0 ∧ c.getD (posK (keysOf B) k) 0 ≤ ((((B.take j).flatMap links).length + m : Nat) : Int) := hcb _ (by simp only [List.getD, List.getElem?_eq_getElem (show posK (keysOf B) k < c.length by omega), Option.getD_some]; exact List.getElem_mem _)
        obtain ⟨py2, hpy2, hcell⟩ := (hO.rd h.rot).get (i := posK (keysOf B) k) (by omega)
        rw [hpy] at hpy2
        cases hpy2
        refine r_ix py hpy (by omega) (by omega) ?_
        refine r_ldN (sh := .int .i64) (c.getD (posK (keysOf B) k) 0) (by simp only [Int.toNat_natCast, Nat.mul_one]; exact hcell) ?_
        refine r_ix py hpy (by omega) (by omega) ?_
        rw [w64 (n := c.getD (posK (keysOf B) k) 0 + 1) (by omega) (by omega)]
        refine r_stO h.rot hO' hpy (posK (keysOf B) k) (by simp) (by simp [Value.cells]) (by rw [i64s_len]; omega) (by simp [Value.cells, oneC]) fun w10 L10 h hO10 => ?_
        have hset : (i64s c).take (posK (keysOf B) k) ++ (Value.int .i64 (c.getD (posK (keysOf B) k) 0 + 1)).cells.toList ++ (i64s c).drop (posK (keysOf B) k + 1) = i64s (incr (keysOf B) c k) := by
          unfold incr
          rw [if_pos hmem, List.set_eq_take_append_cons_drop, if_pos (by omega)]
          simp [i64s, Value.cells]
        rw [hset] at hO10
        refine ⟨((m + 1 : Nat) : Int), by rw [w64 (by omega) (by omega)]; rfl, ⟨m + 1, _, L10, rfl, by omega, h.rot, hO10, hstep.symm, by rw [incr_len]; exact hcl, incr_bd k hcb⟩, by omega⟩
      · rw [if_neg hmem]
        refine r_false (by decide) ?_
        have hsame : incr (keysOf B) c k = c := by unfold incr; rw [if_neg hmem]
        rw [hsame] at hstep
        exact ⟨((m + 1 : Nat) : Int), by rw [w64 (by omega) (by omega)]; rfl, ⟨m + 1, c, Ly, rfl, by omega, h, hO, hstep.symm, hcl, fun x hx => by have := hcb x hx; omega⟩, by omega⟩
    · have hml : m = (links b.pb).length := by omega
      subst hml
      rw [List.take_of_length_le (Nat.le_refl _)] at hc
      refine ⟨((j + 1 : Nat) : Int), by rw [w64 (by omega) (by omega)]; rfl, ⟨j + 1, c, Ly, rfl, by omega, h.right, hO, ?_, hcl, ?_⟩, by omega⟩
      · rw [hc, take_succ_get hBb, List.flatMap_append, List.foldl_append]
        simp
      · rw [take_succ_get hBb, List.flatMap_append, List.length_append]
        simpa using hcb
  · have hjl : j = B.length := by omega
    subst hjl
    rw [List.take_of_length_le (Nat.le_refl _)] at hc
    subst hc
    exact r_ret h.nil y rfl ⟨Ly, by simpa using h, hO⟩)

def linkAns (B : List PB) : List Int × Int := if validS B then (countsOf B, 0) else ([], 1)
theorem c_impl_LinkCounts {w : World} {r : Array Value} {B : List PB} (hr : RdStore w r B) (hz : sizeBs B ≤ 1073741824) :
    Ret Tryz.prog n_impl_LinkCounts [.agg r] w [.slice, .int .i64] (fun x w' => ∃ L, At w w' L ∧ OwnInt64S x.1 (linkAns B).1 L ∧ x.2 = (linkAns B).2) := impl_LinkCounts_calls _ (by
  unfold impl_LinkCounts
  obtain ⟨s, bs, rfl, hpb, hs⟩ := hr
  have hl := le_sizeBs B
  have hbl : bs.length = B.length := by rw [← hpb]; simp
  refine r_new (At.refl w) fun b1 w1 h => ?_
  refine r_ldA h 0 rfl rfl rfl ?_
  refine r_call h (c_newShop (hs.at h) (by omega)) fun r w4 h4 hb4 hr => ?_
  rw [hpb] at hr
  rcases hr with ⟨hv, b, L, rfl, hL, hO⟩ | ⟨hv, rfl⟩
  · have hans : linkAns B = (countsOf B, 0) := by unfold linkAns; rw [if_pos hv]
    rw [hans]
    refine r_false rfl ?_
    have h := h.join hL
    refine r_call h (c_impl_counts (hO.rd h (keysOf_ok _) (fun b hb => (hs.at h.nil).ok b hb)) hpb hv.2.2 hv.1 hv.2.1) fun r w5 h5 _ ⟨L', hL', hO'⟩ => ?_
    exact r_ret h5.nil (_, _) rfl ⟨L', (h.join hL').left, hO', rfl⟩
  · have hans : linkAns B = ([], 1) := by unfold linkAns; rw [if_neg hv]
    rw [hans]
    refine r_true rfl ?_
    exact r_ret h4.nil (⟨none, 0, 0⟩, (1 : Int)) rfl ⟨[], h4.nil, OwnInt64S.none, rfl⟩)

theorem T_own_nil64 {w0 w : World} {ls : List Blk} {s : Sl} (h : SlO w0 w ls ty_int64 1 s []) : ∃ L, At w0 w L ∧ OwnInt64S s [] L := by
  obtain ⟨L, hO, hA⟩ := h.split
  exact ⟨L, hA.left, hO⟩

theorem c_spec_LinkCounts {w : World} {r : Array Value} {B : List PB} (hr : RdStore w r B) (hz : sizeBs B ≤ 1073741824) :
    Ret Tryz.prog n_spec_LinkCounts [.agg r] w [.slice, .int .i64] (fun x w' => ∃ L, At w w' L ∧ OwnInt64S x.1 (linkAns B).1 L ∧ x.2 = (linkAns B).2) := spec_LinkCounts_calls _ (by
  unfold spec_LinkCounts
  obtain ⟨s, bs, rfl, hpb, hs⟩ := hr
  have hl := le_sizeBs B
  have hbl : bs.length = B.length := by rw [← hpb]; simp
  refine r_new (At.refl w) fun b1 w1 h => ?_
  refine r_call h (c_l05Open (p := ⟨b1, 0, none⟩) (fun n => ldOk_own h 0 rfl 0 rfl (by simp [Sh.emb])) (hs.at h.nil)) fun r w4 h4 hb4 ⟨hr2, b, hr1, hr⟩ => ?_
  rw [hpb] at hr hr2
  by_cases hv : validS B
  · have hans : linkAns B = (countsOf B, 0) := by unfold linkAns; rw [if_pos hv]
    rw [hans, hr2, decide_eq_true hv, hr1]
    obtain ⟨L, hL, hO⟩ := hr hv
    refine r_false rfl ?_
    have h := h.join hL
    refine r_call h (c_spec_counts (hO.rd h (keysOf_ok _) (fun b hb => (hs.at h.nil).ok b hb)) hpb hv.2.2 hv.1 hv.2.1) fun r w5 h5 _ ⟨L', hL', hO'⟩ => ?_
    exact r_ret h5.nil (_, _) rfl ⟨L', (h.join hL').left, hO', rfl⟩
  · have hans : linkAns B = ([], 1) := by unfold linkAns; rw [if_neg hv]
    rw [hans, hr2, decide_eq_false hv]
    refine r_true rfl ?_
    refine r_bs0 T_sl_int64 h4 fun y w5 hy hyn => ?_
    obtain ⟨L, hA, hO⟩ := T_own_nil64 hy
    exact r_ret hA.nil (_, _) rfl ⟨L, hA, hO, rfl⟩)

def rootFlags (B : List PB) : List Bool := (countsOf B).map fun x => decide (x = 0)
def rootsAns (B : List PB) : List (List Int) × Int := if validS B then (keepL (rootFlags B) (keysOf B), 0) else ([], 1)
theorem rootFlags_len (B : List PB) : (rootFlags B).length = B.length := by unfold rootFlags; rw [List.length_map, countsOf_len]
theorem c_impl_RootsOf {w : World} {r : Array Value} {B : List PB} (hr : RdStore w r B) (hz : sizeBs B ≤ 1073741824) :
    Ret Tryz.prog n_impl_RootsOf [.agg r] w [.slice, .int .i64] (fun x w' => ∃ L, At w w' L ∧ OwnKeyS x.1 (rootsAns B).1 L ∧ x.2 = (rootsAns B).2) := impl_RootsOf_calls _ (by
  unfold impl_RootsOf
  obtain ⟨s, bs, rfl, hpb, hs⟩ := hr
  have hl := le_sizeBs B
  have hbl : bs.length = B.length := by rw [← hpb]; simp
  refine r_new (At.refl w) fun b1 w1 h => ?_
  refine r_ldA h 0 rfl rfl rfl ?_
  refine r_call h (c_newShop (hs.at h) (by omega)) fun r w4 h4 hb4 hr => ?_
  rw [hpb] at hr
  rcases hr with ⟨hv, b, L, rfl, hL, hO⟩ | ⟨hv, rfl⟩
  · have hans : rootsAns B = (keepL (rootFlags B) (keysOf B), 0) := by unfold rootsAns; rw [if_pos hv]
    rw [hans]
    refine r_false rfl ?_
    have h : At w w4 ([(b1, #[.slice s.a s.n s.c], ty_impl_Store)] ++ (L ++ [])) := by rw [List.append_nil]; exact (h.join hL).swap
    obtain ⟨sk, sb, rx⟩ := hO.ex (keysOf_ok _)
    replace rx := fun {w' : World} {ls : List Blk} (hA : At w w' (L ++ ls)) => rx hA (fun b hb => (hs.at hA.nil).ok b hb)
    refine r_bs0 T_sl_Key h fun y w5 hy hyn => ?_
    obtain ⟨Ly, hOy, h⟩ := hy.split
    refine r_call h (c_impl_counts (hO.rd h.pl2 (keysOf_ok _) (fun b hb => (hs.at h.nil).ok b hb)) hpb hv.2.2 hv.1 hv.2.1) fun rc w6 _ _ ⟨Lc, hLc, hOc⟩ => ?_
    have h := (h.join hLc).rot
    refine r_loop (σ := Sl × Int) (fun i w' => ∃ (j : Nat) (Ls : List Blk), i.2 = j ∧ j ≤ B.length ∧ i.1.n ≤ j ∧ OwnS ty_impl_Key 32 i.1 ((keepL ((rootFlags B).take j) ((keysOf B).take j)).flatMap u8s) Ls ∧ At w w' (Ls ++ (Lc ++ ([(b1, #[.slice s.a s.n s.c], ty_impl_Store)] ++ (L ++ []))))) (fun i _ => (rc.n - i.2).toNat) (y, 0) rfl
      ⟨0, Ly, rfl, by omega, by dsimp only; omega, by simpa [keepL] using hOy, h⟩ ?_
    rintro ⟨x, i⟩ w7 ⟨j, Ls, hij, hj, hxn, hOx, h⟩
    dsimp only at hij hxn hOx
    subst hij
    refine r_any fun _ => ?_
    dsimp only
    have hrc := hOc.rd h.rot
    have hcn := hrc.n
    rw [countsOf_len] at hcn
    refine r_if ((j : Int) < (rc.n : Int)) rfl (fun hlt => ?_) (fun hge => ?_)
    · obtain ⟨pc, hpc, hcell⟩ := hrc.get (i := j) (by rw [countsOf_len]; omega)
      refine r_ix pc hpc (by omega) (by omega) ?_
      refine r_ldN (sh := .int .i64) ((countsOf B).getD j 0) (by simp only [Int.toNat_natCast, Nat.mul_one]; exact hcell) ?_
      obtain ⟨k, q, hk, hkm, hq, hko, hkl⟩ := (rx h.pl3).2.2.1.get (i := j) (by rw [keysOf_len]; omega)
      have hf : (rootFlags B)[j]? = some (decide ((countsOf B).getD j 0 = 0)) := by
        unfold rootFlags
        rw [List.getElem?_map, List.getElem?_eq_getElem (show j < (countsOf B).length by rw [countsOf_len]; omega)]
        simp [List.getD, List.getElem?_eq_getElem (show j < (countsOf B).length by rw [countsOf_len]; omega)]
      have hsk := (rx h.pl3).2.2.1.n
      rw [keysOf_len] at hsk
      have hks := keepL_succ hf hk (by rw [rootFlags_len, keysOf_len])
      refine r_eq (fun h0 => ?_) (fun h0 => ?_)
      · rw [decide_eq_true h0, if_pos rfl] at hks
        refine r_dp rfl ?_
        refine r_ldN sk ((rx h.pl3).1 1) ?_
        refine r_ix q hq (by omega) (by omega) ?_
        refine r_ldN (u8s k).toArray (by simp only [Int.toNat_natCast]; exact hkl) ?_
        refine r_push T_sl_Key (hOx.slo h) (v := .agg (u8s k).toArray) (by simp [Value.cells, hko.1]) (by omega) (by simpa [Value.cells] using u8s_one) (by omega) (by omega) fun o2 w9 h9 hn9 => ?_
        obtain ⟨L9, hO9, h⟩ := h9.split
        refine ⟨(o2, ((j + 1 : Nat) : Int)), by rw [w64 (by omega) (by omega)]; rfl, ⟨j + 1, L9, rfl, by omega, by dsimp only; omega, ?_, h⟩, by dsimp only; omega⟩
        rw [hks, List.flatMap_append]
        simpa [Value.cells] using hO9
      · rw [decide_eq_false h0, if_neg (by simp), List.append_nil] at hks
        exact ⟨(x, ((j + 1 : Nat) : Int)), by rw [w64 (by omega) (by omega)]; rfl, ⟨j + 1, Ls, rfl, by omega, by dsimp only; omega, by rw [hks]; exact hOx, h⟩, by dsimp only; omega⟩
    · have hjl : j = B.length := by omega
      subst hjl
      rw [List.take_of_length_le (by rw [rootFlags_len]; omega), List.take_of_length_le (by rw [keysOf_len]; omega)] at hOx
      exact r_ret h.nil (x, (0 : Int)) rfl ⟨Ls, h.left, ⟨hOx, fun k hk => keysOf_ok B k ((keepL_sub _ _).subset hk)⟩, rfl⟩
  · have hans : rootsAns B = ([], 1) := by unfold rootsAns; rw [if_neg hv]
    rw [hans]
    refine r_true rfl ?_
    exact r_ret h4.nil (⟨none, 0, 0⟩, (1 : Int)) rfl ⟨[], h4.nil, OwnKeyS.none, rfl⟩)

end Go.Proofs.YtkifkdkjljcclaaGreat
