/- What laws do with bytes, blobs and stores: told, copied, compared, marked, held. -/
import Derived.Test.YtkifkdkjljcclaaPkLPS11
import Derived.Test.YtkifkdkjljcclaaPkLPS12
namespace Go.Proofs.Ytkifkdkjljcclaa
open Go.Sx Go.RowKit

structure BSl (w : World) (s : Sl) (l : List Int) : Prop where
  sl : SlAt w s 1 (u8s l)
  ok : bytesOk l
  cap : s.n ≤ s.c
theorem BSl.n {w : World} {s : Sl} {l : List Int} (h : BSl w s l) : s.n = l.length := by have := h.sl.len; simp at this; omega
theorem BSl.below {w w' : World} {s : Sl} {l : List Int} (h : BSl w s l) (hb : Below w.heap.size w w') : BSl w' s l := ⟨h.sl.below hb, h.ok, h.cap⟩
theorem BSl.at {w w' : World} {ls : List Blk} {s : Sl} {l : List Int} (h : BSl w s l) (hA : At w w' ls) : BSl w' s l := h.below hA.below
theorem BSl.byte {w : World} {s : Sl} {l : List Int} (h : BSl w s l) {i : Nat} (hi : i < l.length) : ∃ p, s.a = some p ∧ ∀ n, ldOk w n (p.add (i * 1)) (.int .u8) (l.getD i 0) := by
  obtain ⟨p, hp, hc⟩ := h.sl.cell i _ (u8s_get hi)
  exact ⟨p, hp, fun n => by rw [Nat.mul_one]; exact hc⟩
theorem ownS_bytes {w0 w : World} {ls L : List Blk} {s : Sl} {l : List Int} (h : OwnS ty_uint8 1 s (u8s l) L) (hA : At w0 w ls) (hs : L.Sublist ls) (hb : bytesOk l) : BSl w s l := ⟨h.sl hA hs, hb, h.cap⟩

def marks (k : Int) (n : Nat) : List Int := (List.range n).map fun (i : Nat) => (k + (i : Int)) % 256
@[simp] theorem marks_len (k : Int) (n : Nat) : (marks k n).length = n := by simp [marks]
theorem marks_ok (k : Int) (n : Nat) : bytesOk (marks k n) := by
  intro b hb
  simp only [marks, List.mem_map, List.mem_range] at hb
  obtain ⟨i, _, rfl⟩ := hb
  omega
theorem marks_succ (k : Int) (n : Nat) : marks k (n + 1) = marks k n ++ [(k + n) % 256] := by simp [marks, List.range_succ]
theorem marks_get (k : Int) {n i : Nat} (h : i < n) : (marks k n).getD i 0 = (k + i) % 256 := by simp [marks, List.getD, h]
theorem T_sl_uint8' : SlT Try.prog ty_sl_uint8 ty_uint8 1 1 := slT_of (by kernel_rfl)

theorem c_szByteS (s : Sl) (m : Int) (hm : 0 ≤ m ∧ m ≤ 1073741824) (hn : s.n ≤ 9223372036854775807) : RetP Try.prog n_laws_szByteS [.slice s.a s.n s.c, .int .i64 m] [.int .i64] (if (s.n : Int) ≤ m then m - s.n else -1) := fun w => laws_szByteS_calls s m (by
  unfold laws_szByteS
  rw [w64 (by omega) (by omega)]
  refine r_if (m - (s.n : Int) < 0) rfl (fun h => ?_) (fun h => ?_)
  · rw [if_neg (by omega)]; exact r_retP rfl
  · rw [if_pos (by omega)]; exact r_retP rfl)

theorem c_toByteS {s : Sl} {l : List Int} {w : World} (hs : BSl w s l) (hmax : l.length ≤ 1073741824) : Ret Try.prog n_laws_toByteS [.slice s.a s.n s.c] w [.slice] (fun r w' => ∃ L, At w w' L ∧ OwnS ty_uint8 1 r (u8s l) L) := laws_toByteS_calls s (by
  unfold laws_toByteS
  have hn := hs.n
  refine r_mkO T_sl_uint8' (At.refl w) (by omega) (by omega) fun y xs L w1 h hO hyn ⟨p, hp⟩ => ?_
  refine r_loop (σ := Int) (fun i w' => ∃ (k : Nat) (xs : List Value) (L : List Blk), i = k ∧ k ≤ l.length ∧ At w w' (L ++ []) ∧ OwnS ty_uint8 1 y xs L ∧ xs.take k = u8s (l.take k)) (fun i _ => (s.n - i).toNat) 0 rfl
    ⟨0, xs, L, rfl, by omega, h, hO, by simp [u8s]⟩ ?_
  rintro i w4 ⟨k, xs, L, rfl, hk, h, hO, htk⟩
  refine r_any fun _ => ?_
  have hxl := hO.1
  refine r_if ((k : Int) < (s.n : Int)) rfl (fun hlt => ?_) (fun hge => ?_)
  · obtain ⟨q, hq, hl⟩ := hs.byte (i := k) (by omega)
    refine r_ix q hq (by omega) (by omega) ?_
    refine r_ldO h _ (by simp only [Int.toNat_natCast]; exact hl 1) (by simp) ?_
    refine r_ix p hp (by omega) (by omega) ?_
    refine r_stO h hO hp k (by simp) (by simp [Value.cells]) (by omega) (by simp [Value.cells, oneC]) fun w5 L5 h5 hO5 => ?_
    refine ⟨((k + 1 : Nat) : Int), by rw [w64 (by omega) (by omega)]; rfl, ⟨k + 1, _, L5, rfl, by omega, h5, hO5, ?_⟩, by omega⟩
    rw [seg_take (by omega) (by simp [Value.cells]), htk]
    have : l.take (k + 1) = l.take k ++ [l.getD k 0] := by rw [List.take_add_one]; simp [List.getD, show k < l.length by omega]
    rw [this]
    simp [u8s, Value.cells]
  · have hkl : k = l.length := by omega
    subst hkl
    have hxs : xs = u8s l := by
      rw [List.take_of_length_le (by omega), List.take_of_length_le (Nat.le_refl _)] at htk
      exact htk
    subst hxs
    exact r_ret h.right y rfl ⟨L, by simpa using h, hO⟩)

theorem c_eqByteS {s t : Sl} {l : List Int} {w : World} (hs : BSl w s l) (ht : BSl w t l) (hmax : l.length ≤ 1073741824) : Ret Try.prog n_laws_eqByteS [.slice s.a s.n s.c, .slice t.a t.n t.c] w [.bool] (fun r _ => r = true) := laws_eqByteS_calls _ _ (by
  unfold laws_eqByteS
  have h1 := hs.n
  have h2 := ht.n
  refine r_ne (fun hh => by omega) fun _ => ?_
  refine r_loop (σ := Int) (fun i w' => ∃ j : Nat, i = j ∧ j ≤ l.length ∧ At w w' []) (fun i _ => (s.n - i).toNat) 0 rfl ⟨0, rfl, by omega, At.refl w⟩ ?_
  rintro i w8 ⟨j, rfl, hj, h⟩
  refine r_any fun _ => ?_
  refine r_if ((j : Int) < (s.n : Int)) rfl (fun hlt => ?_) (fun hge => ?_)
  · refine r_draw h fun w3 h => ?_
    obtain ⟨p, hp, hk⟩ := hs.byte (i := j) (by omega)
    obtain ⟨q, hq, hk2⟩ := ht.byte (i := j) (by omega)
    refine r_ix p hp (by omega) (by omega) ?_
    refine r_ldO h _ (by simp only [Int.toNat_natCast]; exact hk 1) (by simp) ?_
    refine r_ix q hq (by omega) (by omega) ?_
    refine r_ldO h _ (by simp only [Int.toNat_natCast]; exact hk2 1) (by simp) ?_
    refine r_ne (fun hh => absurd rfl hh) fun _ => ?_
    exact ⟨((j + 1 : Nat) : Int), by rw [w64 (by omega) (by omega)]; rfl, ⟨j + 1, rfl, by omega, h⟩, by omega⟩
  · exact r_ret h _ rfl rfl)

theorem c_markByteS {w0 w : World} {ls L : List Blk} {s : Sl} {l : List Int} (hA : At w0 w (L ++ ls)) (hO : OwnS ty_uint8 1 s (u8s l) L) (k : Int) (h0 : 0 ≤ k) (hmax : k + l.length ≤ 4611686018427387904) :
    Calls Try.prog n_laws_markByteS [.slice s.a s.n s.c, .int .i64 k].toArray w fun e w' => ∃ v, e = .returned v ∧ v = .int .i64 (k + l.length) ∧ ∃ L', At w0 w' (L' ++ ls) ∧ OwnS ty_uint8 1 s (u8s (marks k l.length)) L' := laws_markByteS_calls s k (by
  unfold laws_markByteS
  have hn : s.n = l.length := by have := hO.1; simp at this; omega
  refine r_loop (σ := Int × Int) (fun i w' => ∃ (j : Nat) (L : List Blk), i = (k + j, (j : Int)) ∧ j ≤ l.length ∧ At w0 w' (L ++ ls) ∧ OwnS ty_uint8 1 s (u8s (marks k j ++ l.drop j)) L) (fun i _ => (s.n - i.2).toNat) (k, 0) rfl
    ⟨0, L, by simp, by omega, hA, by simpa [marks] using hO⟩ ?_
  rintro i w4 ⟨j, L, rfl, hj, h, hO⟩
  refine r_any fun _ => ?_
  dsimp only
  refine r_if ((j : Int) < (s.n : Int)) rfl (fun hlt => ?_) (fun hge => ?_)
  · obtain ⟨p, hp⟩ := hO.addr (by omega)
    refine r_ix p hp (by omega) (by omega) ?_
    refine r_stO h hO hp j (by simp) (by simp [Value.cells]) (by simp; omega) (by simp [Value.cells, oneC]) fun w5 L5 h5 hO5 => ?_
    refine ⟨(k + ((j + 1 : Nat) : Int), ((j + 1 : Nat) : Int)), by rw [w64 (by omega) (by omega), w64 (by omega) (by omega), Int.add_assoc]; rfl, ⟨j + 1, L5, rfl, by omega, h5, ?_⟩, by dsimp only; omega⟩
    have e1 : (u8s (marks k j ++ l.drop j)).take j = u8s (marks k j) := by simp [u8s]
    have e2 : (u8s (marks k j ++ l.drop j)).drop (j + 1) = u8s (l.drop (j + 1)) := by simp [u8s, List.drop_append]
    rw [e1, e2, wrapu8] at hO5
    rw [marks_succ]
    simpa [u8s, Value.cells] using hO5
  · have hjl : j = l.length := by omega
    subst hjl
    rw [List.drop_length, List.append_nil] at hO
    exact r_retR ⟨rfl, L, h, hO⟩)

theorem c_heldByteS {w : World} {s : Sl} {n : Nat} (k : Int) (hs : BSl w s (marks k n)) (h0 : 0 ≤ k) (hmax : k + n ≤ 4611686018427387904) :
    Ret Try.prog n_laws_heldByteS [.slice s.a s.n s.c, .int .i64 k] w [.int .i64] (fun r _ => r = k + n) := laws_heldByteS_calls s k (by
  unfold laws_heldByteS
  have hn := hs.n
  rw [marks_len] at hn
  refine r_loop (σ := Int × Int) (fun i w' => ∃ (j : Nat), i = (k + j, (j : Int)) ∧ j ≤ n ∧ At w w' []) (fun i _ => (s.n - i.2).toNat) (k, 0) rfl ⟨0, by simp, by omega, At.refl w⟩ ?_
  rintro i w4 ⟨j, rfl, hj, h⟩
  refine r_any fun _ => ?_
  dsimp only
  refine r_if ((j : Int) < (s.n : Int)) rfl (fun hlt => ?_) (fun hge => ?_)
  · obtain ⟨p, hp, hk⟩ := hs.byte (i := j) (by simp; omega)
    refine r_ix p hp (by omega) (by omega) ?_
    refine r_ldO h _ (by simp only [Int.toNat_natCast]; exact hk 1) (by simp) ?_
    rw [marks_get k (by omega), wrapu8]
    refine r_ne (fun hh => absurd rfl hh) fun _ => ?_
    exact ⟨(k + ((j + 1 : Nat) : Int), ((j + 1 : Nat) : Int)), by rw [w64 (by omega) (by omega), w64 (by omega) (by omega), Int.add_assoc]; rfl, ⟨j + 1, rfl, by omega, h⟩, by dsimp only; omega⟩
  · have hjl : j = n := by omega
    subst hjl
    exact r_ret h _ rfl rfl)

end Go.Proofs.Ytkifkdkjljcclaa
