/- More kinds of values of which laws speak: slices of keys, slices of counts. LinkCounts, RootsOf: what the program and the reference answer. Printed in part by a program of this claim's author (y3.py). -/
import Derived.Test.YtkifkdkjljcclaaGreatPkLPR27
import Derived.Test.YtkifkdkjljcclaaGreatPkLPR23
import Derived.Test.YtkifkdkjljcclaaGreatPkLPR26
namespace Go.Proofs.YtkifkdkjljcclaaGreat
open Go.Sx Go.RowKit

theorem keysN_flat {d : List Int} {n : Nat} (h : d.length = 32 * n) : (keysN d 0 n).flatMap u8s = u8s d := by
  rw [flatU8]
  congr 1
  have : ∀ m, m ≤ n → (keysN d 0 m).flatten = d.take (32 * m) := by
    intro m
    induction m with
    | zero => simp [keysN]
    | succ m ih =>
      intro hm
      rw [keysN_succ, List.flatten_append, ih (by omega)]
      simp only [List.flatten_cons, List.flatten_nil, List.append_nil, part32]
      rw [Nat.zero_add, show 32 * (m + 1) = 32 * m + 32 by omega, List.take_add]
  rw [this n (Nat.le_refl _), List.take_of_length_le (by omega)]
theorem flat_len {ks : List (List Int)} (h : ∀ k ∈ ks, keyOk k) : ks.flatten.length = 32 * ks.length := by
  induction ks with
  | nil => rfl
  | cons k r ih =>
    rw [List.flatten_cons, List.length_append, (h k (by simp)).1, ih (fun x hx => h x (by simp [hx])), List.length_cons]
    omega
def RdKeyS (w : World) (s : Sl) (ks : List (List Int)) : Prop := KsR w s ks
theorem RdKeyS.at {w w' : World} {ls : List Blk} {s : Sl} {ks : List (List Int)} (h : RdKeyS w s ks) (hA : At w w' ls) : RdKeyS w' s ks := KsR.at h hA
def OwnKeyS (s : Sl) (ks : List (List Int)) (L : List Blk) : Prop := OwnS ty_impl_Key 32 s (ks.flatMap u8s) L ∧ ∀ k ∈ ks, keyOk k
theorem OwnKeyS.rd {w0 w : World} {s : Sl} {ks : List (List Int)} {L ls : List Blk} (h : OwnKeyS s ks L) (hA : At w0 w (L ++ ls)) : RdKeyS w s ks := ownS_ks h.1 hA (List.sublist_append_left _ _) h.2
def RawKeyS (w : World) (s : Sl) (ks : List (List Int)) : Prop := KsR w s ks ∧ s.n ≤ s.c ∧ s.c ≤ maxLen
theorem RawKeyS.rd {w : World} {s : Sl} {ks : List (List Int)} (h : RawKeyS w s ks) : RdKeyS w s ks := h.1
def sizeKeyS (ks : List (List Int)) : Nat := ks.length
def msizeKeyS (ks : List (List Int)) : Nat := 32 * ks.length
def markKeyS (k : Int) (ks : List (List Int)) : List (List Int) := keysN (marks k (32 * ks.length)) 0 ks.length
theorem OwnKeyS.none : OwnKeyS ⟨none, 0, 0⟩ [] [] := ⟨OwnS.nil _ _, by simp⟩
theorem c_szKeySV {w : World} {s : Sl} {ks : List (List Int)} (h : RawKeyS w s ks) {w1 : World} (_ : Below w.heap.size w w1) (m : Int) (hm : 0 ≤ m ∧ m ≤ 1073741824) : Ret Tryz.prog n_laws_szKeyS [.slice s.a s.n s.c, .int .i64 m] w1 [.int .i64] (fun x _ => x = if (sizeKeyS ks : Int) ≤ m then m - sizeKeyS ks else -1) := laws_szKeyS_calls s m (by
  unfold laws_szKeyS
  have hn := h.1.n
  have h2 := h.2
  unfold maxLen at h2
  rw [w64 (by omega) (by omega)]
  refine r_if (m - (s.n : Int) < 0) rfl (fun h => ?_) (fun h => ?_)
  · exact r_ret (At.refl w1) (-1 : Int) rfl (by rw [if_neg (by unfold sizeKeyS; omega)])
  · exact r_ret (At.refl w1) (m - (s.n : Int)) rfl (by rw [if_pos (by unfold sizeKeyS; omega)]; unfold sizeKeyS; rw [hn]))

theorem c_toKeySV {w : World} {s : Sl} {ks : List (List Int)} (h : RdKeyS w s ks) (hz : sizeKeyS ks ≤ 1073741824) : Ret Tryz.prog n_laws_toKeyS [.slice s.a s.n s.c] w [.slice] (fun r w' => ∃ L, At w w' L ∧ OwnKeyS r ks L) := laws_toKeyS_calls s (by
  unfold laws_toKeyS
  have hs : KsR w s ks := h
  have hn := hs.n
  unfold sizeKeyS at hz
  refine r_mkO T_sl_Key (At.refl w) (by omega) (by omega) fun y xs L w1 h hO hyn ⟨p, hp⟩ => ?_
  refine r_loop (σ := Int) (fun i w' => ∃ (j : Nat) (xs : List Value) (L : List Blk), i = j ∧ j ≤ ks.length ∧ OwnS ty_impl_Key 32 y xs L ∧ xs.take (j * 32) = (ks.take j).flatMap u8s ∧ At w w' (L ++ [])) (fun i _ => (s.n - i).toNat) 0 rfl
    ⟨0, xs, L, rfl, by omega, hO, by simp, h⟩ ?_
  rintro i w2 ⟨j, xs, L, rfl, hj, hO, htk, h⟩
  refine r_any fun _ => ?_
  have hxl := hO.1
  refine r_if ((j : Int) < (s.n : Int)) rfl (fun hlt => ?_) (fun hge => ?_)
  · obtain ⟨k, q, hk, hkm, hq, hko, hkl⟩ := (hs.at h.nil).get (i := j) (by omega)
    refine r_ix q hq (by omega) (by omega) ?_
    refine r_ldN (u8s k).toArray (by simp only [Int.toNat_natCast]; exact hkl) ?_
    refine r_call h (c_toKey hko.1 _) fun r w3 h _ hr => ?_
    subst hr
    refine r_ix p hp (by omega) (by omega) ?_
    refine r_stO h hO hp (j * 32) (by simp) (by simp [Value.cells, hko.1]) (by omega) (by simpa [Value.cells] using u8s_one) fun w4 L4 h4 hO4 => ?_
    refine ⟨((j + 1 : Nat) : Int), by rw [w64 (by omega) (by omega)]; rfl, ⟨j + 1, _, L4, rfl, by omega, hO4, ?_, h4⟩, by omega⟩
    have hvl : (Value.agg (u8s k).toArray).cells.toList.length = 32 := by simp [Value.cells, hko.1]
    rw [Nat.add_mul, Nat.one_mul, seg_take (by omega) hvl, htk, take_succ_get hk, List.flatMap_append]
    simp [Value.cells]
  · have : j = ks.length := by omega
    subst this
    rw [List.take_of_length_le (by omega), List.take_of_length_le (Nat.le_refl _)] at htk
    subst htk
    exact r_ret h.nil y rfl ⟨L, by simpa using h, hO, hs.ok⟩)

theorem c_eqKeySV {w : World} {s t : Sl} {ks : List (List Int)} (h : RdKeyS w s ks) (h' : RdKeyS w t ks) (hz : sizeKeyS ks ≤ 1073741824) : Ret Tryz.prog n_laws_eqKeyS [.slice s.a s.n s.c, .slice t.a t.n t.c] w [.bool] (fun x _ => x = true) := laws_eqKeyS_calls _ _ (by
  unfold laws_eqKeyS
  have hs : KsR w s ks := h
  have ht : KsR w t ks := h'
  have h1 := hs.n
  have h2 := ht.n
  unfold sizeKeyS at hz
  refine r_ne (fun hh => by omega) fun _ => ?_
  refine r_loop (σ := Int) (fun i w' => ∃ j : Nat, i = j ∧ j ≤ ks.length ∧ At w w' []) (fun i _ => (s.n - i).toNat) 0 rfl ⟨0, rfl, by omega, At.refl w⟩ ?_
  rintro i w8 ⟨j, rfl, hj, h⟩
  refine r_any fun _ => ?_
  refine r_if ((j : Int) < (s.n : Int)) rfl (fun hlt => ?_) (fun hge => ?_)
  · refine r_draw h fun w3 h => ?_
    obtain ⟨k, q, hk, hkm, hq, hko, hkl⟩ := (hs.at h).get (i := j) (by omega)
    obtain ⟨k2, q2, hk2, _, hq2, _, hkl2⟩ := (ht.at h).get (i := j) (by omega)
    rw [hk] at hk2
    cases hk2
    refine r_ix q hq (by omega) (by omega) ?_
    refine r_ldN (u8s k).toArray (by simp only [Int.toNat_natCast]; exact hkl) ?_
    refine r_ix q2 hq2 (by omega) (by omega) ?_
    refine r_ldN (u8s k).toArray (by simp only [Int.toNat_natCast]; exact hkl2) ?_
    refine r_call h (c_eqKey_same hko.1 _) fun r w4 h _ hr => ?_
    subst hr
    refine r_false rfl ?_
    exact ⟨((j + 1 : Nat) : Int), by rw [w64 (by omega) (by omega)]; rfl, ⟨j + 1, rfl, by omega, h⟩, by omega⟩
  · exact r_ret h _ rfl rfl)

theorem marks_flat (k : Int) (ks : List (List Int)) : (markKeyS k ks).flatMap u8s = u8s (marks k (32 * ks.length)) := keysN_flat (marks_len _ _)
theorem markKeyS_ok (k : Int) (ks : List (List Int)) : ∀ x ∈ markKeyS k ks, keyOk x := keysN_ok (by rw [marks_len]; omega) (marks_ok _ _)

theorem c_markKeySV {w0 w : World} {ls L : List Blk} {s : Sl} {ks : List (List Int)} (hA : At w0 w (L ++ ls)) (hO : OwnKeyS s ks L) (k : Int) (h0 : 0 ≤ k) (hmax : k + msizeKeyS ks ≤ 4611686018427387904) :
    Calls Tryz.prog n_laws_markKeyS [.slice s.a s.n s.c, .int .i64 k].toArray w fun e w' => ∃ v, e = .returned v ∧ v = .int .i64 (k + msizeKeyS ks) ∧ ∃ L', At w0 w' (L' ++ ls) ∧ OwnKeyS s (markKeyS k ks) L' := laws_markKeyS_calls s k (by
  unfold laws_markKeyS
  obtain ⟨hO, hk⟩ := hO
  have hfl := flat_len hk
  have hn : s.n = ks.length := by have := hO.1; rw [flatU8, u8s_len, hfl] at this; omega
  unfold msizeKeyS at hmax ⊢
  have hfl' : ∀ t, t ≤ 32 * ks.length → (marks k t ++ ks.flatten.drop t).length = 32 * ks.length := fun t ht => by rw [List.length_append, marks_len, List.length_drop, hfl]; omega
  refine r_loop (σ := Int × Int) (fun i w' => ∃ (j : Nat) (L : List Blk), i = (k + ((32 * j : Nat) : Int), (j : Int)) ∧ j ≤ ks.length ∧ At w0 w' (L ++ ls) ∧ OwnS ty_impl_Key 32 s (u8s (marks k (32 * j) ++ ks.flatten.drop (32 * j))) L) (fun i _ => (s.n - i.2).toNat) (k, 0) rfl
    ⟨0, L, by simp, by omega, hA, by simpa [marks, flatU8] using hO⟩ ?_
  rintro i w4 ⟨j, L, rfl, hj, h, hO⟩
  refine r_any fun _ => ?_
  dsimp only
  refine r_if ((j : Int) < (s.n : Int)) rfl (fun hlt => ?_) (fun hge => ?_)
  · obtain ⟨p, hp⟩ := hO.addr (by omega)
    refine r_loop (σ := Int × Int) (fun i w' => ∃ (m : Nat) (L : List Blk), i = (k + ((32 * j + m : Nat) : Int), (m : Int)) ∧ m ≤ 32 ∧ At w0 w' (L ++ ls) ∧ OwnS ty_impl_Key 32 s (u8s (marks k (32 * j + m) ++ ks.flatten.drop (32 * j + m))) L) (fun i _ => (32 - i.2).toNat) (k + ((32 * j : Nat) : Int), 0) rfl
      ⟨0, L, by simp, by omega, h, hO⟩ ?_
    rintro i w5 ⟨m, L, rfl, hm, h, hO⟩
    refine r_any fun _ => ?_
    dsimp only
    refine r_if ((m : Int) < 32) rfl (fun hlt2 => ?_) (fun hge2 => ?_)
    · have hl := hfl' (32 * j + m) (by omega)
      refine r_ix p hp (by omega) (by omega) ?_
      refine r_ix _ rfl (by omega) (by omega) ?_
      refine r_stO h hO hp (32 * j + m) (by rw [Go.Deep.add_add]; simp only [Int.toNat_natCast]; congr 1; omega) (by simp [Value.cells]) (by rw [u8s_len, hl]; omega) (by simp [Value.cells, oneC]) fun w6 L6 h6 hO6 => ?_
      refine ⟨(k + ((32 * j + (m + 1) : Nat) : Int), ((m + 1 : Nat) : Int)), ?_, ⟨m + 1, L6, rfl, by omega, h6, ?_⟩, by dsimp only; omega⟩
      · rw [w64 (by omega) (by omega), w64 (by omega) (by omega)]
        simp only [embL, Sh.emb]
        congr 2
        omega
      · have e1 : (u8s (marks k (32 * j + m) ++ ks.flatten.drop (32 * j + m))).take (32 * j + m) = u8s (marks k (32 * j + m)) := by simp [u8s]
        have e2 : (u8s (marks k (32 * j + m) ++ ks.flatten.drop (32 * j + m))).drop (32 * j + m + 1) = u8s (ks.flatten.drop (32 * j + (m + 1))) := by
          simp only [u8s, ← List.map_drop]
          rw [List.drop_append, marks_len, List.drop_eq_nil_of_le (by rw [marks_len]; omega), List.nil_append, List.drop_drop]
          congr 2
          omega
        rw [e1, e2, wrapu8] at hO6
        rw [show 32 * j + (m + 1) = 32 * j + m + 1 by omega, marks_succ]
        simpa [u8s, Value.cells, Nat.add_assoc] using hO6
    · have hm32 : m = 32 := by omega
      subst hm32
      refine ⟨(k + ((32 * (j + 1) : Nat) : Int), ((j + 1 : Nat) : Int)), ?_, ⟨j + 1, L, rfl, by omega, h, ?_⟩, by dsimp only; omega⟩
      · rw [w64 (by omega) (by omega)]
        simp only [embL, Sh.emb]
        congr 2
      · rw [show 32 * (j + 1) = 32 * j + 32 by omega]
        exact hO
  · have hjl : j = ks.length := by omega
    subst hjl
    rw [List.drop_of_length_le (by omega), List.append_nil] at hO
    exact r_retR ⟨rfl, L, h, by rw [marks_flat]; exact hO, markKeyS_ok k ks⟩)

set_option maxRecDepth 100000 in
theorem open_KeyS {H : Type} {enc : TypeId × Value → H} {w : World} {base : Nat} {spare : Nat → Bool} {held : Bool} {r : Reach} {b0 : Nat} {v : Value} {d : DataW H} {ps : List MemPlace} (hval : Value.okWide Tryz.prog w r b0 ty_sl_arr32_uint8 v) (hd : DataW.Trod enc Tryz.prog w base spare held ty_sl_arr32_uint8 v d ps) : ∃ (s : Sl) (ks : List (List Int)), v = .slice s.a s.n s.c ∧ RawKeyS w s ks := by
  obtain ⟨s, l, rfl, h1, h2, h3, h4⟩ := open_arrs (n := 32) (u := ty_arr32_uint8) (e := ty_uint8) (by kernel_rfl) (by kernel_rfl) (by kernel_rfl) (by kernel_rfl) (by kernel_rfl) (by decide) hval hd
  have hl : l.length = 32 * s.n := by have := h1.len; rw [List.length_map] at this; omega
  refine ⟨s, keysN l 0 s.n, rfl, ⟨⟨by rw [keysN_flat hl]; exact h1, fun k hk => ?_, h3, by omega⟩, keysN_ok (by omega) h2⟩, h3, h4⟩
  rw [u8s_len]
  exact (keysN_ok (d := l) (o := 0) (n := s.n) (by omega) h2 k hk).1

def i64s (l : List Int) : List Value := l.map (Value.int .i64)
theorem i64s_len (l : List Int) : (i64s l).length = l.length := by simp [i64s]
theorem i64s_get {l : List Int} {i : Nat} (h : i < l.length) : (i64s l)[i]? = some (.int .i64 (l.getD i 0)) := by simp [i64s, List.getD, h]
def RdInt64S (w : World) (s : Sl) (l : List Int) : Prop := SlAt w s 1 (i64s l)
theorem RdInt64S.n {w : World} {s : Sl} {l : List Int} (h : RdInt64S w s l) : s.n = l.length := by have := SlAt.len h; rw [i64s_len] at this; omega
theorem RdInt64S.at {w w' : World} {ls : List Blk} {s : Sl} {l : List Int} (h : RdInt64S w s l) (hA : At w w' ls) : RdInt64S w' s l := SlAt.below h hA.below
theorem RdInt64S.get {w : World} {s : Sl} {l : List Int} (h : RdInt64S w s l) {i : Nat} (hi : i < l.length) : ∃ p, s.a = some p ∧ w.cell? (p.add i) = some (.int .i64 (l.getD i 0)) := SlAt.cell h i _ (i64s_get hi)
def OwnInt64S (s : Sl) (l : List Int) (L : List Blk) : Prop := OwnS ty_int64 1 s (i64s l) L
theorem OwnInt64S.rd {w0 w : World} {s : Sl} {l : List Int} {L ls : List Blk} (h : OwnInt64S s l L) (hA : At w0 w (L ++ ls)) : RdInt64S w s l := OwnS.sl h hA (List.sublist_append_left _ _)
theorem OwnInt64S.none : OwnInt64S ⟨none, 0, 0⟩ [] [] := OwnS.nil _ _
end Go.Proofs.YtkifkdkjljcclaaGreat

namespace Go.Sx
end Go.Sx
namespace Go.Proofs.YtkifkdkjljcclaaGreat
open Go.Sx Go.RowKit

theorem links_total {l : List PB} (h : ∀ b ∈ l, b.data.length ≤ 1024) : (l.flatMap links).length ≤ l.length * 1024 := by
  induction l with
  | nil => simp
  | cons b r ih =>
    have h1 := links_len b
    have h2 := h b (by simp)
    have := ih (fun x hx => h x (by simp [hx]))
    rw [List.flatMap_cons, List.length_append, List.length_cons]
    omega
end Go.Proofs.YtkifkdkjljcclaaGreat
