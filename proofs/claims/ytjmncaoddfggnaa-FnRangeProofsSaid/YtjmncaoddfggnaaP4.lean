/- Clashes: what the program finds is one. -/
import Derived.Test.YtjmncaoddfggnaaP3
namespace Go.Proofs.Ytjmncaoddfggnaa
open Go.Sx Go.RowKit

/-- Four keys, two and two, unlike, with one key. -/
structure IsClash (x : List Int) : Prop where
  len : x.length = 128
  ok : bytesOk x
  ne : keyAt x 0 ≠ keyAt x 2 ∨ keyAt x 1 ≠ keyAt x 3
  eq : hashL 2 (keyAt x 0 ++ keyAt x 1) = hashL 2 (keyAt x 2 ++ keyAt x 3)

theorem extract_key {x : List Int} {k : Nat} : (u8s x).toArray.extract (32 * k) (32 * k + 32) = (u8s (keyAt x k)).toArray := by
  apply Array.ext'
  simp only [Array.toList_extract, List.extract_eq_take_drop, keyAt, u8s, List.map_take, List.map_drop]
  rw [show 32 * k + 32 - 32 * k = 32 by omega]

theorem r_ldK {P : Program} {R : Value → World → Prop} {w0 w : World} {ls : List Blk} {p : Addr} {f : Array Value → World → Prop} (hA : At w0 w ls) (i k : Nat) {b : Nat} {x : List Int} {t : TypeId} (hl : ls[i]? = some (b, (u8s x).toArray, t)) (hp : p = ⟨b, 32 * k, none⟩)
    (hx : 32 * k + 32 ≤ x.length) (h : f (u8s (keyAt x k)).toArray w) : ((real P R).ld .agg 32 p f : World → Prop) w := by
  refine r_ldP hA i hl hp (by simpa using hx) ?_
  rw [extract_key]
  exact h

/-! ### The program's search -/
theorem run_build_struct {P : Program} {t : TypeId} {w : World} {parts : Array (Nat × Value)} {z : Value} {places : Array (Nat × Nat)} {cells : Array Value} (hu : P.underlying t = some (.struct (P.fieldsOf t))) (hz : (zeroValue t).run P w = .ok z w)
    (hp : ((P.fieldsOf t).mapM fun f => (do pure (f.offset, ← sizeOf f.type) : Sem (Nat × Nat))).run P w = .ok places w) (hf : Instr.fill (places[·]?) z.cells parts.toList = some cells) : (Instr.build t parts).run P w = .ok (.agg cells) w := by
  unfold Instr.build
  rw [Sem.run_bind, hz, Result.andThen_ok, Sem.run_bind, run_underlying hu, Result.andThen_ok]
  dsimp only
  rw [Sem.run_bind, hp, Result.andThen_ok, hf]
  rfl

theorem fill4 {a b c d : List Value} (ha : a.length = 32) (hb : b.length = 32) (hc : c.length = 32) (hd : d.length = 32) (cs : Array Value) (hcs : cs.size = 128) :
    Instr.fill (fun i => (#[(0, 32), (32, 32), (64, 32), (96, 32)] : Array (Nat × Nat))[i]?) cs [(0, .agg a.toArray), (1, .agg b.toArray), (2, .agg c.toArray), (3, .agg d.toArray)] = some (a ++ b ++ c ++ d).toArray := by
  have t0 : (cs.toList.take 0 ++ a ++ cs.toList.drop (0 + 32)) = a ++ cs.toList.drop 32 := by simp
  rw [fill_one (off := 0) (z := 32) (by simpa [Value.cells] using ha) (by omega) _ 0 rfl]
  rw [fill_one (off := 32) (z := 32) (by simpa [Value.cells] using hb) (by simp [Value.cells]; omega) _ 1 rfl]
  rw [fill_one (off := 64) (z := 32) (by simpa [Value.cells] using hc) (by simp [Value.cells]; omega) _ 2 rfl]
  rw [fill_one (off := 96) (z := 32) (by simpa [Value.cells] using hd) (by simp [Value.cells]; omega) _ 3 rfl]
  simp only [Instr.fill, Value.cells, t0]
  congr 2
  have e1 : (a ++ cs.toList.drop 32).take 32 = a := by rw [List.take_append_of_le_length (by omega), List.take_of_length_le (by omega)]
  have e2 : (a ++ b ++ (a ++ cs.toList.drop 32).drop (32 + 32)).take 64 = a ++ b := by rw [List.take_append_of_le_length (by simp; omega), List.take_of_length_le (by simp; omega)]
  have e3 : ∀ r : List Value, (a ++ b ++ c ++ r).take 96 = a ++ b ++ c := fun r => by rw [List.take_append_of_le_length (by simp; omega), List.take_of_length_le (by simp; omega)]
  simp only [e1, e2, e3]
  rw [List.drop_eq_nil_of_le (by simp; omega), List.append_nil]

theorem run_clash {a b c d : List Int} (ha : a.length = 32) (hb : b.length = 32) (hc : c.length = 32) (hd : d.length = 32) (w : World) :
    (Instr.build ty_impl_Clash #[(0, (.agg (u8s a).toArray)), (1, (.agg (u8s b).toArray)), (2, (.agg (u8s c).toArray)), (3, (.agg (u8s d).toArray))]).run Try.prog w = .ok (.agg (u8s (a ++ b ++ c ++ d)).toArray) w := by
  have hf := fill4 (a := u8s a) (b := u8s b) (c := u8s c) (d := u8s d) (by simpa using ha) (by simpa using hb) (by simpa using hc) (by simpa using hd) (Array.replicate 128 (.int .u8 0)) (by simp)
  rw [← u8s_append, ← u8s_append, ← u8s_append] at hf
  exact run_build_struct (z := .agg (Array.replicate 128 (.int .u8 0))) (places := #[(0, 32), (32, 32), (64, 32), (96, 32)]) (by kernel_rfl) (by kernel_rfl) (by kernel_rfl) hf

theorem four_keys {a b c d : List Int} (ha : a.length = 32) (hb : b.length = 32) (hc : c.length = 32) (hd : d.length = 32) :
    keyAt (a ++ b ++ c ++ d) 0 = a ∧ keyAt (a ++ b ++ c ++ d) 1 = b ∧ keyAt (a ++ b ++ c ++ d) 2 = c ∧ keyAt (a ++ b ++ c ++ d) 3 = d := by
  simp only [List.append_assoc]
  refine ⟨keyAt_zero ha, ?_, ?_, ?_⟩
  · rw [keyAt_app ha, keyAt_zero hb]
  · rw [keyAt_app ha, keyAt_app hb, keyAt_zero hc]
  · rw [keyAt_app ha, keyAt_app hb, keyAt_app hc]
    unfold keyAt
    rw [Nat.mul_zero, List.drop_zero, List.take_of_length_le (by omega)]

end Go.Proofs.Ytjmncaoddfggnaa
