/- StoreList: what is answered, and the program. StoreList: the reference. -/
import Derived.Test.YthaecdelaifccaaGreatPkLSM29
import Derived.Test.YthaecdelaifccaaGreatPkLSM27
import Derived.Test.YthaecdelaifccaaGreatPkLSM32
namespace Go.Proofs.YthaecdelaifccaaGreat
open Go.Sx Go.RowKit

def shortX (X : List (List Int)) : Prop := ∀ c ∈ X, c.length ≤ 1024
instance (X : List (List Int)) : Decidable (shortX X) := inferInstanceAs (Decidable (∀ c ∈ X, c.length ≤ 1024))
theorem sizeBs_le {A : List PB} {m : Nat} (h : ∀ b ∈ A, b.data.length ≤ m) : sizeBs A ≤ A.length * (m + 1) := by
  induction A with
  | nil => simp [sizeBs]
  | cons a r ih =>
    have e : ∀ (a : PB) (r : List PB), sizeBs (a :: r) = 1 + a.data.length + sizeBs r := fun a r => by simp [sizeBs]; omega
    have h1 := h a (by simp)
    have h2 := ih (fun b hb => h b (by simp [hb]))
    rw [e, List.length_cons, Nat.add_mul]
    omega
end Go.Proofs.YthaecdelaifccaaGreat

namespace Go.Proofs.YthaecdelaifccaaGreat
open Go.Sx Go.RowKit

def putsSt : List PB → List PB → List PB × Int
  | B, [] => (B, 0)
  | B, c :: r => if (putAns B c).2.2 ≠ 0 then ((putAns B c).1, (putAns B c).2.2) else putsSt (putAns B c).1 r
theorem putsSt_cons (B : List PB) (c : PB) (r : List PB) : putsSt B (c :: r) = if (putAns B c).2.2 ≠ 0 then ((putAns B c).1, (putAns B c).2.2) else putsSt (putAns B c).1 r := rfl
theorem putsSt_one (B : List PB) (c : PB) : putsSt B [c] = ((putAns B c).1, (putAns B c).2.2) := by
  rw [putsSt_cons]
  split
  · rfl
  · rename_i h
    have h : (putAns B c).2.2 = 0 := by omega
    rw [h]
    rfl
theorem putsSt_append : ∀ (A B C : List PB), putsSt B (A ++ C) = if (putsSt B A).2 ≠ 0 then putsSt B A else putsSt (putsSt B A).1 C
  | [], B, C => by simp [putsSt]
  | c :: r, B, C => by
    rw [List.cons_append, putsSt_cons, putsSt_cons]
    by_cases h : (putAns B c).2.2 ≠ 0
    · simp only [if_pos h]
    · simp only [if_neg h]
      exact putsSt_append r _ C
theorem putsAns_st : ∀ (cs B : List PB) (k : List Int), (putsAns B k cs).2.2 = (putsSt B cs).2 ∧ ((putsSt B cs).2 = 0 → (putsAns B k cs).1 = (putsSt B cs).1)
  | [], B, k => ⟨rfl, fun _ => rfl⟩
  | c :: r, B, k => by
    have e : putsAns B k (c :: r) = if (putAns B c).2.2 ≠ 0 then ([], zero32, (putAns B c).2.2) else putsAns (putAns B c).1 (putAns B c).2.1 r := rfl
    rw [e, putsSt_cons]
    by_cases h : (putAns B c).2.2 ≠ 0
    · rw [if_pos h, if_pos h]
      exact ⟨rfl, fun hh => absurd hh h⟩
    · rw [if_neg h, if_neg h]
      exact putsAns_st r _ _
theorem putAns_all2 {p : PB → Prop} {B : List PB} {c : PB} (h : ∀ b ∈ B, p b) (hc : p c) : ∀ b ∈ (putAns B c).1, p b := by
  unfold putAns
  split
  · split <;> exact h
  · split
    · exact h
    · intro b hb
      rcases mem_insAt hb with rfl | hb
      · exact hc
      · exact h b hb
def SpecSt (w0 w : World) (ls : List Blk) (b : Nat) (B : List PB) : Prop := ∃ (bs : List BR) (L Ld : List Blk), At w0 w (L ++ (Ld ++ ls)) ∧ SpecO b (keysOf B) bs L ∧ bs.map BR.pb = B ∧ (∀ x ∈ bs, ∀ w' : World, At w0 w' Ld → x.Ok w') ∧ good B ∧ ∀ x ∈ B, x.data.length ≤ 1073741824
theorem c_put2 {w0 w : World} {ls L Ld : List Blk} {b : Nat} {B : List PB} {bs : List BR} {c : BR} (hA : At w0 w (L ++ (Ld ++ ls))) (hO : SpecO b (keysOf B) bs L) (hpb : bs.map BR.pb = B) (hbs : ∀ x ∈ bs, ∀ w' : World, At w0 w' Ld → x.Ok w') (hg : good B) (hbd : ∀ x ∈ B, x.data.length ≤ 1073741824) (hc : ∀ w' : World, At w0 w' Ld → c.Ok w') (hcd : c.data.length ≤ 1073741824) :
    Calls Tryz.prog n_ptr_spec_l05Store_put [.pointer (some ⟨b, 0, none⟩), .agg c.cells.toArray].toArray w fun e w' => ∃ v, e = .returned v ∧ v = .tuple #[.agg (u8s (putAns B c.pb).2.1).toArray, .int .i64 (putAns B c.pb).2.2] ∧ SpecSt w0 w' ls b (putAns B c.pb).1 := by
  refine (c_spec_put hA hO hpb (fun x hx w' h => hbs x hx w' h.left) (fun w' h => hc w' h.left) (by omega) hg hbd).mono fun e w' ⟨v, he, bs', L', hv, h, hO', hpb', hbs'⟩ => ?_
  have hcok : c.pb.ok := (hc w (by simpa using (hA.take Ld ((List.sublist_append_left _ _).trans (List.sublist_append_right _ _))))).pb
  refine ⟨v, he, hv, bs', L', Ld, h, hO', hpb', fun x hx w'' h' => ?_, putAns_good hg ⟨by show c.data.length ≤ _; omega, hcok⟩, putAns_all2 hbd hcd⟩
  rcases hbs' x hx with rfl | hx
  · exact hc w'' h'
  · exact hbs x hx w'' h'

end Go.Proofs.YthaecdelaifccaaGreat
