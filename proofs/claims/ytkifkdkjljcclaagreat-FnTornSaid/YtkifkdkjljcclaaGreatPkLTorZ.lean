/- FnTorn: the given statement. Printed by lawcm.py. -/
import Derived.Test.YtkifkdkjljcclaaGreatRows
import Derived.Test.YtkifkdkjljcclaaGreatPkLTor42
import Derived.Test.YtkifkdkjljcclaaGreatPkLTor17
namespace Go.Proofs.YtkifkdkjljcclaaGreat
open Go.Sx Go.RowKit

set_option maxRecDepth 100000 in
theorem lifted_FnTorn (os : Os) (started : os.Started) (H : Type) (enc : TypeId × Value → H) :
    ReturnsInHanded {} Tryz.checked os 3 .any (Rows.fnTornSpec.pre6 enc Tryz.prog Tryz.f3 Rows.fnTornRow.domain false) (Rows.fnTornSpec.post enc Tryz.prog Tryz.f3 false true false false) := by
  refine law_lifted (C := Tryz.checked) (tb := ty_bool) (by kernel_rfl) started (by kernel_rfl) Tryz.func3 (by kernel_rfl) (by kernel_rfl) (by kernel_rfl) (by kernel_rfl) rfl
    (fun ds hd => by
      rw [Tryz.params3] at hd
      match ds, hd with
      | [_, _], _ => exact ⟨rfl, rfl, rfl⟩)
    (ChangeSpec.witness6 (enc := enc) (C := Tryz.checked) false ⟨#[], #[.slice none 0 0, .slice none 0 0], []⟩ 8 (by kernel_rfl) (by kernel_rfl) (by kernel_rfl) (by kernel_rfl)) ?_
  intro W base args ds p hval0 hA0
  have hval : ∀ (j : Nat) t v, Tryz.f3.params[j]? = some t → args[j]? = some v → Value.okWide Tryz.prog W .any base t v := hval0
  have hA : DataW.TrodAll enc Tryz.prog W 0 (fun _ => true) true Tryz.f3.params.toList args.toList ds p := hA0
  rw [Tryz.params3] at hA hval
  obtain ⟨v0, vs0, d0, ds0, p0, q0, hargs, rfl, rfl, h0, r0⟩ := ChangeShapes.trodAll_cons hA
  obtain ⟨v1, vs1, d1, ds1, p1, q1, rfl, rfl, rfl, h1, r1⟩ := ChangeShapes.trodAll_cons r0
  obtain ⟨rfl, rfl, rfl⟩ := ChangeShapes.trodAll_nil r1
  obtain rfl : args = #[v0, v1] := by cases args; simp_all
  obtain ⟨sc, dc, rfl, hc, hcb, _, _⟩ := open_u8s (e := ty_uint8) (by kernel_rfl) (by kernel_rfl) (by kernel_rfl) (hval 0 _ _ rfl rfl) h0
  obtain ⟨sm, dm, rfl, hm, hmb, _, _⟩ := open_u8s (e := ty_uint8) (by kernel_rfl) (by kernel_rfl) (by kernel_rfl) (hval 1 _ _ rfl rfl) h1
  exact c_lawTorn hc hcb hm hmb

set_option maxHeartbeats 400000000 in
theorem joined_FnTorn : joinedFacts Tryz.pinned.checked.prog 3 Tryz.f3 Rows.fnTornSpec Rows.fnTornRow = true := by
  unfold joinedFacts
  simp only [Bool.and_eq_true]
  repeat' (apply And.intro)
  all_goals (as_aux_lemma => kernel_rfl)

theorem over_FnTorn : Rows.fnTornRow.holds Tryz.pinned (OpenSpec.ofChange Rows.fnTornSpec) :=
  OpenClaim.holds_of_wide 3 Tryz.f3 rfl rfl rfl rfl rfl rfl rfl ⟨rfl, rfl, rfl, rfl, rfl⟩ rfl rfl rfl rfl rfl (by as_aux_lemma => kernel_rfl) Tryz.func3 joined_FnTorn
    (of_decide_eq_true (by as_aux_lemma => kernel_rfl)) (by unfold Func.isWrapper; first | (rw [if_pos (by as_aux_lemma => decide +kernel)]; as_aux_lemma => kernel_rfl) | (rw [if_neg (by as_aux_lemma => decide +kernel)]; exact ⟨rfl, rfl⟩))
    (fun os started H enc _ => lifted_FnTorn os started H enc)

theorem fnTorn_holds : Rows.FnTornSaid := over_FnTorn
#print axioms fnTorn_holds
end Go.Proofs.YtkifkdkjljcclaaGreat
