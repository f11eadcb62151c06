/- The links of a blob: what both sides answer. -/
import Derived.Test.YtffedfdhhglmkaaGreatY1
import Derived.Test.YtffedfdhhglmkaaGreatS0
namespace Go.Sx
theorem SlO.base {w0 w : World} {ls : List Blk} {e z : Nat} {s : Sl} {xs : List Value} (h : SlO w0 w ls e z s xs) : SlO w0 w [] e z s xs := by
  obtain ⟨L, hO, hA⟩ := h.split
  exact hO.slo (ls := []) (by simpa using hA.left)
end Go.Sx
namespace Go.Proofs.YtffedfdhhglmkaaGreat
open Go.Sx Go.RowKit

def notEmpty (k : List Int) : Bool := !decide (k = emptyKey)
def byte0 (d : List Int) : Nat := (d.getD 0 0).toNat
def links (b : PB) : List (List Int) :=
  if b.tag = 2 then (if b.data.length = 64 then keysN b.data 0 2 else [])
  else if b.tag = 5 then (if nodeOk b.data then [part32 b.data 0, part32 b.data 32].filter notEmpty else [])
  else if b.tag = 6 then (if b.data.length % 32 = 0 then keysN b.data 0 (b.data.length / 32) else [])
  else if b.tag = 7 then (if 1 ≤ b.data.length ∧ 1 + 32 * byte0 b.data ≤ b.data.length then keysN b.data 1 (byte0 b.data) else [])
  else []
theorem links_ok {b : PB} (hb : bytesOk b.data) : ∀ k ∈ links b, keyOk k := by
  intro k hk
  unfold links at hk
  split at hk
  · split at hk
    · exact keysN_ok (by omega) hb k hk
    · cases hk
  split at hk
  · split at hk
    · rename_i hn
      have h1 := hn.1
      have := (List.mem_filter.1 hk).1
      simp only [List.mem_cons, List.not_mem_nil, or_false] at this
      rcases this with rfl | rfl
      · exact part32_key (by omega) hb
      · exact part32_key (by omega) hb
    · cases hk
  split at hk
  · split at hk
    · exact keysN_ok (by omega) hb k hk
    · cases hk
  split at hk
  · split at hk
    · exact keysN_ok (by omega) hb k hk
    · cases hk
  · cases hk
theorem links_len (b : PB) : (links b).length ≤ b.data.length := by
  unfold links
  split
  · split
    · rw [keysN_len]; omega
    · simp
  split
  · split
    · rename_i hn
      have h1 := hn.1
      have := List.length_filter_le notEmpty [part32 b.data 0, part32 b.data 32]
      simp only [List.length_cons, List.length_nil] at this
      omega
    · simp
  split
  · split
    · rw [keysN_len]; omega
    · simp
  split
  · split
    · rw [keysN_len]; omega
    · simp
  · simp

theorem slO_none {w0 w : World} {ls : List Blk} (h : At w0 w ls) : SlO w0 w ls ty_impl_Key 32 ⟨none, 0, 0⟩ (([] : List (List Int)).flatMap u8s) := SlO.nil h _ _

theorem getD_byte {d : List Int} (hb : bytesOk d) {i : Nat} (h : i < d.length) : 0 ≤ d.getD i 0 ∧ d.getD i 0 < 256 := hb _ (by simp only [List.getD, List.getElem?_eq_getElem h, Option.getD_some]; exact List.getElem_mem _)

theorem bsl_part {w : World} {s : Sl} {d : List Int} (hs : BSl w s d) (l k : Nat) (h1 : l ≤ k) (h2 : k ≤ d.length) : BSl w ⟨if s.c = l then s.a else s.a.map (·.add (l * 1)), k - l, s.c - l⟩ ((d.drop l).take (k - l)) :=
  ⟨bsl_sub hs l k h1 h2, fun b hb => hs.ok b (List.mem_of_mem_drop (List.mem_of_mem_take hb)), by have := hs.cap; have := hs.n; dsimp only; omega⟩

theorem nodeCells_left {d : List Int} (h : 64 ≤ d.length) : (nodeCells d).toArray.extract 0 (0 + 32) = (u8s (part32 d 0)).toArray := by
  apply Array.ext'
  rw [List.extract_toArray]
  show ((nodeCells d).drop 0).take (0 + 32 - 0) = _
  have e : (u8s (part32 d 0)).length = 32 := by rw [u8s_len]; exact part32_len (by omega)
  unfold nodeCells
  rw [List.drop_zero, List.append_assoc, List.take_append_of_le_length (by omega), List.take_of_length_le (by omega)]
theorem nodeCells_right {d : List Int} (h : 64 ≤ d.length) : (nodeCells d).toArray.extract 32 (32 + 32) = (u8s (part32 d 32)).toArray := by
  apply Array.ext'
  rw [List.extract_toArray]
  show ((nodeCells d).drop 32).take (32 + 32 - 32) = _
  have e : (u8s (part32 d 0)).length = 32 := by rw [u8s_len]; exact part32_len (by omega)
  have e2 : (u8s (part32 d 32)).length = 32 := by rw [u8s_len]; exact part32_len (by omega)
  unfold nodeCells
  rw [List.append_assoc, List.drop_left' e, List.take_append_of_le_length (by omega), List.take_of_length_le (by omega)]

end Go.Proofs.YtffedfdhhglmkaaGreat
