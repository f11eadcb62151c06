/- FnCollected: the given statement. Printed by lawcm.py. -/
import Derived.Test.YtkifkdkjljcclaaGreatRows
import Derived.Test.YtkifkdkjljcclaaGreatPkLCol40
import Derived.Test.YtkifkdkjljcclaaGreatPkLCol18
namespace Go.Proofs.YtkifkdkjljcclaaGreat
open Go.Sx Go.RowKit

set_option maxRecDepth 100000 in
theorem lifted_FnCollected (os : Os) (started : os.Started) (H : Type) (enc : TypeId × Value → H) :
    ReturnsInHanded {} Tryz.checked os 5 .any (Rows.fnCollectedSpec.pre6 enc Tryz.prog Tryz.f5 Rows.fnCollectedRow.domain false) (Rows.fnCollectedSpec.post enc Tryz.prog Tryz.f5 false true false false) := by
  refine law_lifted (C := Tryz.checked) (tb := ty_bool) (by kernel_rfl) started (by kernel_rfl) Tryz.func5 (by kernel_rfl) (by kernel_rfl) (by kernel_rfl) (by kernel_rfl) rfl
    (fun ds hd => by
      rw [Tryz.params5] at hd
      match ds, hd with
      | [_, _], _ => exact ⟨rfl, rfl, rfl⟩)
    (ChangeSpec.witness6 (enc := enc) (C := Tryz.checked) false ⟨#[], #[.slice none 0 0, .slice none 0 0], []⟩ 8 (by kernel_rfl) (by kernel_rfl) (by kernel_rfl) (by kernel_rfl)) ?_
  intro W base args ds p hval0 hA0
  have hval : ∀ (j : Nat) t v, Tryz.f5.params[j]? = some t → args[j]? = some v → Value.okWide Tryz.prog W .any base t v := hval0
  have hA : DataW.TrodAll enc Tryz.prog W 0 (fun _ => true) true Tryz.f5.params.toList args.toList ds p := hA0
  rw [Tryz.params5] at hA hval
  obtain ⟨v0, vs0, d0, ds0, p0, q0, hargs, rfl, rfl, h0, r0⟩ := ChangeShapes.trodAll_cons hA
  obtain ⟨v1, vs1, d1, ds1, p1, q1, rfl, rfl, rfl, h1, r1⟩ := ChangeShapes.trodAll_cons r0
  obtain ⟨rfl, rfl, rfl⟩ := ChangeShapes.trodAll_nil r1
  obtain rfl : args = #[v0, v1] := by cases args; simp_all
  obtain ⟨sc, dc, rfl, hc, hcb, _, _⟩ := open_u8s (e := ty_uint8) (by kernel_rfl) (by kernel_rfl) (by kernel_rfl) (hval 0 _ _ rfl rfl) h0
  obtain ⟨sm, dm, rfl, hm, hmb, _, _⟩ := open_u8s (e := ty_uint8) (by kernel_rfl) (by kernel_rfl) (by kernel_rfl) (hval 1 _ _ rfl rfl) h1
  exact c_lawCollected hc hcb hm hmb

set_option maxHeartbeats 400000000 in
theorem joined_FnCollected : joinedFacts Tryz.pinned.checked.prog 5 Tryz.f5 Rows.fnCollectedSpec Rows.fnCollectedRow = true := by
  unfold joinedFacts
  simp only [Bool.and_eq_true]
  repeat' (apply And.intro)
  all_goals (as_aux_lemma => kernel_rfl)

theorem over_FnCollected : Rows.fnCollectedRow.holds Tryz.pinned (OpenSpec.ofChange Rows.fnCollectedSpec) :=
  OpenClaim.holds_of_wide 5 Tryz.f5 rfl rfl rfl rfl rfl rfl rfl ⟨rfl, rfl, rfl, rfl, rfl⟩ rfl rfl rfl rfl rfl (by as_aux_lemma => kernel_rfl) Tryz.func5 joined_FnCollected
    (of_decide_eq_true (by as_aux_lemma => kernel_rfl)) (by unfold Func.isWrapper; first | (rw [if_pos (by as_aux_lemma => decide +kernel)]; as_aux_lemma => kernel_rfl) | (rw [if_neg (by as_aux_lemma => decide +kernel)]; exact ⟨rfl, rfl⟩))
    (fun os started H enc _ => lifted_FnCollected os started H enc)

theorem fnCollected_holds : Rows.FnCollectedSaid := over_FnCollected
#print axioms fnCollected_holds
end Go.Proofs.YtkifkdkjljcclaaGreat
