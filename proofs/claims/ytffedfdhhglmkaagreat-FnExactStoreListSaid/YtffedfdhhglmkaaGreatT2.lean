/- IsPartOf: what the program and the reference answer. Printed in part by a program of this claim's author. -/
import Derived.Test.YtffedfdhhglmkaaGreatT1
namespace Go.Proofs.YtffedfdhhglmkaaGreat
open Go.Sx Go.RowKit

def samePart (B : List PB) (a : PB) : Bool := decide (a.key ∈ keysOf B ∧ B[posK (keysOf B) a.key]? = some a)
def partAns (A B : List PB) : Bool × Int := if validS A ∧ validS B then (A.all (samePart B), 0) else (false, 1)

theorem all_false {α : Type} {l : List α} {f : α → Bool} {i : Nat} {x : α} (hx : l[i]? = some x) (h : f x = false) : l.all f = false := by
  rw [List.all_eq_false]
  exact ⟨x, List.mem_of_getElem? hx, by simp [h]⟩
theorem all_take {α : Type} {l : List α} {f : α → Bool} {i : Nat} {x : α} (hx : l[i]? = some x) (ht : (l.take i).all f = true) (h : f x = true) : (l.take (i + 1)).all f = true := by
  rw [take_succ_get hx, List.all_append, ht]
  simp [h]

theorem ShopO.ex {b : Nat} {ks : List (List Int)} {bs : List BR} {L : List Blk} (h : ShopO b ks bs L) (hk : ∀ k ∈ ks, keyOk k) : ∃ sk sb : Sl, ∀ {w0 w : World} {ls : List Blk}, At w0 w (L ++ ls) → (∀ b ∈ bs, b.Ok w) →
    (∀ n, ldOk w n ((⟨b, 0, none⟩ : Addr).add 0) .slice sk) ∧ (∀ n, ldOk w n ((⟨b, 0, none⟩ : Addr).add 1) .slice sb) ∧ KsR w sk ks ∧ BsR w sb bs := by
  obtain ⟨sk, sb, Lk, Lb, rfl, h1, h2⟩ := h
  refine ⟨sk, sb, fun hA hb => ⟨fun n => ldOk_own hA 0 rfl 0 rfl (by simp [Sh.emb]), fun n => ldOk_own hA 0 rfl 1 rfl (by simp [Sh.emb]), ownS_ks h1 hA ?_ hk, ⟨h2.of hA ?_ (fun b _ => cells_len b) (by omega), hb⟩⟩⟩
  · exact ((List.sublist_append_left _ _).trans (List.sublist_cons_self _ _)).trans (List.sublist_append_left _ _)
  · exact ((List.sublist_append_right _ _).trans (List.sublist_cons_self _ _)).trans (List.sublist_append_left _ _)
theorem SpecO.ex {b : Nat} {ks : List (List Int)} {bs : List BR} {L : List Blk} (h : SpecO b ks bs L) (hk : ∀ k ∈ ks, keyOk k) : ∃ sk sb : Sl, ∀ {w0 w : World} {ls : List Blk}, At w0 w (L ++ ls) → (∀ b ∈ bs, b.Ok w) →
    (∀ n, ldOk w n ((⟨b, 0, none⟩ : Addr).add 1) .slice sk) ∧ (∀ n, ldOk w n ((⟨b, 0, none⟩ : Addr).add 0) .slice sb) ∧ KsR w sk ks ∧ BsR w sb bs := by
  obtain ⟨sk, sb, Lk, Lb, rfl, h1, h2⟩ := h
  refine ⟨sk, sb, fun hA hb => ⟨fun n => ldOk_own hA 0 rfl 1 rfl (by simp [Sh.emb]), fun n => ldOk_own hA 0 rfl 0 rfl (by simp [Sh.emb]), ownS_ks h1 hA ?_ hk, ⟨h2.of hA ?_ (fun b _ => cells_len b) (by omega), hb⟩⟩⟩
  · exact ((List.sublist_append_right _ _).trans (List.sublist_append_right _ _)).trans (List.sublist_append_left _ _)
  · exact ((List.sublist_append_left _ _).trans (List.sublist_append_right _ _)).trans (List.sublist_append_left _ _)

end Go.Proofs.YtffedfdhhglmkaaGreat
