/- The reference's test of a clash takes what is one. -/
import Derived.Test.YtjmncaoddfggnaaP4
namespace Go.Proofs.Ytjmncaoddfggnaa
open Go.Sx Go.RowKit

set_option maxHeartbeats 4000000 in
theorem c_ValidClash {x : List Int} (hx : x.length = 128) (hb : bytesOk x) (w : World) : Ret Try.prog n_spec_ValidClash [.agg (u8s x).toArray] w [.bool] (fun r _ => IsClash x → r = true) := spec_ValidClash_calls _ (by
  have q1 : Try.prog.underlying ty_impl_Key = some (.array 32 ty_uint8) := by kernel_rfl
  have q2 : tyOf Try.prog ty_uint8 = some (.int .u8, 1) := by kernel_rfl
  have q3 : Try.prog.eqGuardType Try.prog.depth ty_impl_Key = false := by kernel_rfl
  unfold spec_ValidClash
  refine r_new (At.refl w) fun b1 w1 h => ?_
  have k0 : (keyAt x 0).length = 32 := keyAt_len (by omega)
  have k1 : (keyAt x 1).length = 32 := keyAt_len (by omega)
  have k2 : (keyAt x 2).length = 32 := keyAt_len (by omega)
  have k3 : (keyAt x 3).length = 32 := keyAt_len (by omega)
  have o0 := keyAt_ok hb 0
  have o1 := keyAt_ok hb 1
  have o2 := keyAt_ok hb 2
  have o3 := keyAt_ok hb 3
  have h : At w w1 [(b1, (u8s x).toArray, ty_impl_Clash)] := h
  refine r_join (σ := Bool) (fun s w' => s = decide (keyAt x 0 ≠ keyAt x 2 ∨ keyAt x 1 ≠ keyAt x 3) ∧ At w w' [(b1, (u8s x).toArray, ty_impl_Clash)]) (fun s w2 hs => ?_) ?_
  · obtain ⟨rfl, h⟩ := hs
    refine r_any fun _ => ?_
    refine r_draw h fun w3 h => ?_
    refine r_if (keyAt x 0 ≠ keyAt x 2 ∨ keyAt x 1 ≠ keyAt x 3) rfl (fun hne => ?_) (fun hne => ?_)
    · clear hne
      refine r_all4 ?_ ?_ ?_ ?_
      · refine r_ldK h 0 0 rfl (add_lit _ _ _) (by omega) ?_
        refine r_all3 ?_ ?_ ?_
        · refine r_ldK h 0 1 rfl (add_lit _ _ _) (by omega) ?_
          refine r_all3 ?_ ?_ ?_
          · refine r_call h (c_l03Node k0 k1 o0 o1 _) fun r22 v1 h _ hr => ?_
            subst hr
            refine r_all2 ?_ ?_
            · refine r_ldK h 0 2 rfl (add_lit _ _ _) (by omega) ?_
              refine r_ldK h 0 3 rfl (add_lit _ _ _) (by omega) ?_
              refine r_call h (c_l03Node k2 k3 o2 o3 _) fun r27 v2 h _ hr => ?_
              subst hr
              refine r_eqK (n := 32) (e := ty_uint8) q1 q2 q3 (hashL_len _ _) (hashL_len _ _) ?_
              exact r_ret h _ rfl (fun hc => decide_eq_true hc.eq)
            · refine r_ldK h 0 3 rfl (add_lit _ _ _) (by omega) ?_
              refine r_ldK h 0 2 rfl (add_lit _ _ _) (by omega) ?_
              refine r_call h (c_l03Node k2 k3 o2 o3 _) fun r27 v3 h _ hr => ?_
              subst hr
              refine r_eqK (n := 32) (e := ty_uint8) q1 q2 q3 (hashL_len _ _) (hashL_len _ _) ?_
              exact r_ret h _ rfl (fun hc => decide_eq_true hc.eq)
          · refine r_ldK h 0 2 rfl (add_lit _ _ _) (by omega) ?_
            refine r_all2 ?_ ?_
            · refine r_call h (c_l03Node k0 k1 o0 o1 _) fun r22 v4 h _ hr => ?_
              subst hr
              refine r_ldK h 0 3 rfl (add_lit _ _ _) (by omega) ?_
              refine r_call h (c_l03Node k2 k3 o2 o3 _) fun r27 v5 h _ hr => ?_
              subst hr
              refine r_eqK (n := 32) (e := ty_uint8) q1 q2 q3 (hashL_len _ _) (hashL_len _ _) ?_
              exact r_ret h _ rfl (fun hc => decide_eq_true hc.eq)
            · refine r_ldK h 0 3 rfl (add_lit _ _ _) (by omega) ?_
              refine r_call h (c_l03Node k0 k1 o0 o1 _) fun r22 v6 h _ hr => ?_
              subst hr
              refine r_call h (c_l03Node k2 k3 o2 o3 _) fun r27 v7 h _ hr => ?_
              subst hr
              refine r_eqK (n := 32) (e := ty_uint8) q1 q2 q3 (hashL_len _ _) (hashL_len _ _) ?_
              exact r_ret h _ rfl (fun hc => decide_eq_true hc.eq)
          · refine r_ldK h 0 3 rfl (add_lit _ _ _) (by omega) ?_
            refine r_all2 ?_ ?_
            · refine r_call h (c_l03Node k0 k1 o0 o1 _) fun r22 v8 h _ hr => ?_
              subst hr
              refine r_ldK h 0 2 rfl (add_lit _ _ _) (by omega) ?_
              refine r_call h (c_l03Node k2 k3 o2 o3 _) fun r27 v9 h _ hr => ?_
              subst hr
              refine r_eqK (n := 32) (e := ty_uint8) q1 q2 q3 (hashL_len _ _) (hashL_len _ _) ?_
              exact r_ret h _ rfl (fun hc => decide_eq_true hc.eq)
            · refine r_ldK h 0 2 rfl (add_lit _ _ _) (by omega) ?_
              refine r_call h (c_l03Node k0 k1 o0 o1 _) fun r22 v10 h _ hr => ?_
              subst hr
              refine r_call h (c_l03Node k2 k3 o2 o3 _) fun r27 v11 h _ hr => ?_
              subst hr
              refine r_eqK (n := 32) (e := ty_uint8) q1 q2 q3 (hashL_len _ _) (hashL_len _ _) ?_
              exact r_ret h _ rfl (fun hc => decide_eq_true hc.eq)
        · refine r_ldK h 0 2 rfl (add_lit _ _ _) (by omega) ?_
          refine r_all2 ?_ ?_
          · refine r_ldK h 0 1 rfl (add_lit _ _ _) (by omega) ?_
            refine r_all2 ?_ ?_
            · refine r_call h (c_l03Node k0 k1 o0 o1 _) fun r22 v12 h _ hr => ?_
              subst hr
              refine r_ldK h 0 3 rfl (add_lit _ _ _) (by omega) ?_
              refine r_call h (c_l03Node k2 k3 o2 o3 _) fun r27 v13 h _ hr => ?_
              subst hr
              refine r_eqK (n := 32) (e := ty_uint8) q1 q2 q3 (hashL_len _ _) (hashL_len _ _) ?_
              exact r_ret h _ rfl (fun hc => decide_eq_true hc.eq)
            · refine r_ldK h 0 3 rfl (add_lit _ _ _) (by omega) ?_
              refine r_call h (c_l03Node k0 k1 o0 o1 _) fun r22 v14 h _ hr => ?_
              subst hr
              refine r_call h (c_l03Node k2 k3 o2 o3 _) fun r27 v15 h _ hr => ?_
              subst hr
              refine r_eqK (n := 32) (e := ty_uint8) q1 q2 q3 (hashL_len _ _) (hashL_len _ _) ?_
              exact r_ret h _ rfl (fun hc => decide_eq_true hc.eq)
          · refine r_ldK h 0 3 rfl (add_lit _ _ _) (by omega) ?_
            refine r_ldK h 0 1 rfl (add_lit _ _ _) (by omega) ?_
            refine r_call h (c_l03Node k0 k1 o0 o1 _) fun r22 v16 h _ hr => ?_
            subst hr
            refine r_call h (c_l03Node k2 k3 o2 o3 _) fun r27 v17 h _ hr => ?_
            subst hr
            refine r_eqK (n := 32) (e := ty_uint8) q1 q2 q3 (hashL_len _ _) (hashL_len _ _) ?_
            exact r_ret h _ rfl (fun hc => decide_eq_true hc.eq)
        · refine r_ldK h 0 3 rfl (add_lit _ _ _) (by omega) ?_
          refine r_all2 ?_ ?_
          · refine r_ldK h 0 1 rfl (add_lit _ _ _) (by omega) ?_
            refine r_all2 ?_ ?_
            · refine r_call h (c_l03Node k0 k1 o0 o1 _) fun r22 v18 h _ hr => ?_
              subst hr
              refine r_ldK h 0 2 rfl (add_lit _ _ _) (by omega) ?_
              refine r_call h (c_l03Node k2 k3 o2 o3 _) fun r27 v19 h _ hr => ?_
              subst hr
              refine r_eqK (n := 32) (e := ty_uint8) q1 q2 q3 (hashL_len _ _) (hashL_len _ _) ?_
              exact r_ret h _ rfl (fun hc => decide_eq_true hc.eq)
            · refine r_ldK h 0 2 rfl (add_lit _ _ _) (by omega) ?_
              refine r_call h (c_l03Node k0 k1 o0 o1 _) fun r22 v20 h _ hr => ?_
              subst hr
              refine r_call h (c_l03Node k2 k3 o2 o3 _) fun r27 v21 h _ hr => ?_
              subst hr
              refine r_eqK (n := 32) (e := ty_uint8) q1 q2 q3 (hashL_len _ _) (hashL_len _ _) ?_
              exact r_ret h _ rfl (fun hc => decide_eq_true hc.eq)
          · refine r_ldK h 0 2 rfl (add_lit _ _ _) (by omega) ?_
            refine r_ldK h 0 1 rfl (add_lit _ _ _) (by omega) ?_
            refine r_call h (c_l03Node k0 k1 o0 o1 _) fun r22 v22 h _ hr => ?_
            subst hr
            refine r_call h (c_l03Node k2 k3 o2 o3 _) fun r27 v23 h _ hr => ?_
            subst hr
            refine r_eqK (n := 32) (e := ty_uint8) q1 q2 q3 (hashL_len _ _) (hashL_len _ _) ?_
            exact r_ret h _ rfl (fun hc => decide_eq_true hc.eq)
      · refine r_ldK h 0 1 rfl (add_lit _ _ _) (by omega) ?_
        refine r_all3 ?_ ?_ ?_
        · refine r_ldK h 0 0 rfl (add_lit _ _ _) (by omega) ?_
          refine r_all3 ?_ ?_ ?_
          · refine r_call h (c_l03Node k0 k1 o0 o1 _) fun r22 v24 h _ hr => ?_
            subst hr
            refine r_all2 ?_ ?_
            · refine r_ldK h 0 2 rfl (add_lit _ _ _) (by omega) ?_
              refine r_ldK h 0 3 rfl (add_lit _ _ _) (by omega) ?_
              refine r_call h (c_l03Node k2 k3 o2 o3 _) fun r27 v25 h _ hr => ?_
              subst hr
              refine r_eqK (n := 32) (e := ty_uint8) q1 q2 q3 (hashL_len _ _) (hashL_len _ _) ?_
              exact r_ret h _ rfl (fun hc => decide_eq_true hc.eq)
            · refine r_ldK h 0 3 rfl (add_lit _ _ _) (by omega) ?_
              refine r_ldK h 0 2 rfl (add_lit _ _ _) (by omega) ?_
              refine r_call h (c_l03Node k2 k3 o2 o3 _) fun r27 v26 h _ hr => ?_
              subst hr
              refine r_eqK (n := 32) (e := ty_uint8) q1 q2 q3 (hashL_len _ _) (hashL_len _ _) ?_
              exact r_ret h _ rfl (fun hc => decide_eq_true hc.eq)
          · refine r_ldK h 0 2 rfl (add_lit _ _ _) (by omega) ?_
            refine r_all2 ?_ ?_
            · refine r_call h (c_l03Node k0 k1 o0 o1 _) fun r22 v27 h _ hr => ?_
              subst hr
              refine r_ldK h 0 3 rfl (add_lit _ _ _) (by omega) ?_
              refine r_call h (c_l03Node k2 k3 o2 o3 _) fun r27 v28 h _ hr => ?_
              subst hr
              refine r_eqK (n := 32) (e := ty_uint8) q1 q2 q3 (hashL_len _ _) (hashL_len _ _) ?_
              exact r_ret h _ rfl (fun hc => decide_eq_true hc.eq)
            · refine r_ldK h 0 3 rfl (add_lit _ _ _) (by omega) ?_
              refine r_call h (c_l03Node k0 k1 o0 o1 _) fun r22 v29 h _ hr => ?_
              subst hr
              refine r_call h (c_l03Node k2 k3 o2 o3 _) fun r27 v30 h _ hr => ?_
              subst hr
              refine r_eqK (n := 32) (e := ty_uint8) q1 q2 q3 (hashL_len _ _) (hashL_len _ _) ?_
              exact r_ret h _ rfl (fun hc => decide_eq_true hc.eq)
          · refine r_ldK h 0 3 rfl (add_lit _ _ _) (by omega) ?_
            refine r_all2 ?_ ?_
            · refine r_call h (c_l03Node k0 k1 o0 o1 _) fun r22 v31 h _ hr => ?_
              subst hr
              refine r_ldK h 0 2 rfl (add_lit _ _ _) (by omega) ?_
              refine r_call h (c_l03Node k2 k3 o2 o3 _) fun r27 v32 h _ hr => ?_
              subst hr
              refine r_eqK (n := 32) (e := ty_uint8) q1 q2 q3 (hashL_len _ _) (hashL_len _ _) ?_
              exact r_ret h _ rfl (fun hc => decide_eq_true hc.eq)
            · refine r_ldK h 0 2 rfl (add_lit _ _ _) (by omega) ?_
              refine r_call h (c_l03Node k0 k1 o0 o1 _) fun r22 v33 h _ hr => ?_
              subst hr
              refine r_call h (c_l03Node k2 k3 o2 o3 _) fun r27 v34 h _ hr => ?_
              subst hr
              refine r_eqK (n := 32) (e := ty_uint8) q1 q2 q3 (hashL_len _ _) (hashL_len _ _) ?_
              exact r_ret h _ rfl (fun hc => decide_eq_true hc.eq)
        · refine r_ldK h 0 2 rfl (add_lit _ _ _) (by omega) ?_
          refine r_all2 ?_ ?_
          · refine r_ldK h 0 0 rfl (add_lit _ _ _) (by omega) ?_
            refine r_all2 ?_ ?_
            · refine r_call h (c_l03Node k0 k1 o0 o1 _) fun r22 v35 h _ hr => ?_
              subst hr
              refine r_ldK h 0 3 rfl (add_lit _ _ _) (by omega) ?_
              refine r_call h (c_l03Node k2 k3 o2 o3 _) fun r27 v36 h _ hr => ?_
              subst hr
              refine r_eqK (n := 32) (e := ty_uint8) q1 q2 q3 (hashL_len _ _) (hashL_len _ _) ?_
              exact r_ret h _ rfl (fun hc => decide_eq_true hc.eq)
            · refine r_ldK h 0 3 rfl (add_lit _ _ _) (by omega) ?_
              refine r_call h (c_l03Node k0 k1 o0 o1 _) fun r22 v37 h _ hr => ?_
              subst hr
              refine r_call h (c_l03Node k2 k3 o2 o3 _) fun r27 v38 h _ hr => ?_
              subst hr
              refine r_eqK (n := 32) (e := ty_uint8) q1 q2 q3 (hashL_len _ _) (hashL_len _ _) ?_
              exact r_ret h _ rfl (fun hc => decide_eq_true hc.eq)
          · refine r_ldK h 0 3 rfl (add_lit _ _ _) (by omega) ?_
            refine r_ldK h 0 0 rfl (add_lit _ _ _) (by omega) ?_
            refine r_call h (c_l03Node k0 k1 o0 o1 _) fun r22 v39 h _ hr => ?_
            subst hr
            refine r_call h (c_l03Node k2 k3 o2 o3 _) fun r27 v40 h _ hr => ?_
            subst hr
            refine r_eqK (n := 32) (e := ty_uint8) q1 q2 q3 (hashL_len _ _) (hashL_len _ _) ?_
            exact r_ret h _ rfl (fun hc => decide_eq_true hc.eq)
        · refine r_ldK h 0 3 rfl (add_lit _ _ _) (by omega) ?_
          refine r_all2 ?_ ?_
          · refine r_ldK h 0 0 rfl (add_lit _ _ _) (by omega) ?_
            refine r_all2 ?_ ?_
            · refine r_call h (c_l03Node k0 k1 o0 o1 _) fun r22 v41 h _ hr => ?_
              subst hr
              refine r_ldK h 0 2 rfl (add_lit _ _ _) (by omega) ?_
              refine r_call h (c_l03Node k2 k3 o2 o3 _) fun r27 v42 h _ hr => ?_
              subst hr
              refine r_eqK (n := 32) (e := ty_uint8) q1 q2 q3 (hashL_len _ _) (hashL_len _ _) ?_
              exact r_ret h _ rfl (fun hc => decide_eq_true hc.eq)
            · refine r_ldK h 0 2 rfl (add_lit _ _ _) (by omega) ?_
              refine r_call h (c_l03Node k0 k1 o0 o1 _) fun r22 v43 h _ hr => ?_
              subst hr
              refine r_call h (c_l03Node k2 k3 o2 o3 _) fun r27 v44 h _ hr => ?_
              subst hr
              refine r_eqK (n := 32) (e := ty_uint8) q1 q2 q3 (hashL_len _ _) (hashL_len _ _) ?_
              exact r_ret h _ rfl (fun hc => decide_eq_true hc.eq)
          · refine r_ldK h 0 2 rfl (add_lit _ _ _) (by omega) ?_
            refine r_ldK h 0 0 rfl (add_lit _ _ _) (by omega) ?_
            refine r_call h (c_l03Node k0 k1 o0 o1 _) fun r22 v45 h _ hr => ?_
            subst hr
            refine r_call h (c_l03Node k2 k3 o2 o3 _) fun r27 v46 h _ hr => ?_
            subst hr
            refine r_eqK (n := 32) (e := ty_uint8) q1 q2 q3 (hashL_len _ _) (hashL_len _ _) ?_
            exact r_ret h _ rfl (fun hc => decide_eq_true hc.eq)
      · refine r_ldK h 0 2 rfl (add_lit _ _ _) (by omega) ?_
        refine r_all3 ?_ ?_ ?_
        · refine r_ldK h 0 0 rfl (add_lit _ _ _) (by omega) ?_
          refine r_all2 ?_ ?_
          · refine r_ldK h 0 1 rfl (add_lit _ _ _) (by omega) ?_
            refine r_all2 ?_ ?_
            · refine r_call h (c_l03Node k0 k1 o0 o1 _) fun r22 v47 h _ hr => ?_
              subst hr
              refine r_ldK h 0 3 rfl (add_lit _ _ _) (by omega) ?_
              refine r_call h (c_l03Node k2 k3 o2 o3 _) fun r27 v48 h _ hr => ?_
              subst hr
              refine r_eqK (n := 32) (e := ty_uint8) q1 q2 q3 (hashL_len _ _) (hashL_len _ _) ?_
              exact r_ret h _ rfl (fun hc => decide_eq_true hc.eq)
            · refine r_ldK h 0 3 rfl (add_lit _ _ _) (by omega) ?_
              refine r_call h (c_l03Node k0 k1 o0 o1 _) fun r22 v49 h _ hr => ?_
              subst hr
              refine r_call h (c_l03Node k2 k3 o2 o3 _) fun r27 v50 h _ hr => ?_
              subst hr
              refine r_eqK (n := 32) (e := ty_uint8) q1 q2 q3 (hashL_len _ _) (hashL_len _ _) ?_
              exact r_ret h _ rfl (fun hc => decide_eq_true hc.eq)
          · refine r_ldK h 0 3 rfl (add_lit _ _ _) (by omega) ?_
            refine r_ldK h 0 1 rfl (add_lit _ _ _) (by omega) ?_
            refine r_call h (c_l03Node k0 k1 o0 o1 _) fun r22 v51 h _ hr => ?_
            subst hr
            refine r_call h (c_l03Node k2 k3 o2 o3 _) fun r27 v52 h _ hr => ?_
            subst hr
            refine r_eqK (n := 32) (e := ty_uint8) q1 q2 q3 (hashL_len _ _) (hashL_len _ _) ?_
            exact r_ret h _ rfl (fun hc => decide_eq_true hc.eq)
        · refine r_ldK h 0 1 rfl (add_lit _ _ _) (by omega) ?_
          refine r_all2 ?_ ?_
          · refine r_ldK h 0 0 rfl (add_lit _ _ _) (by omega) ?_
            refine r_all2 ?_ ?_
            · refine r_call h (c_l03Node k0 k1 o0 o1 _) fun r22 v53 h _ hr => ?_
              subst hr
              refine r_ldK h 0 3 rfl (add_lit _ _ _) (by omega) ?_
              refine r_call h (c_l03Node k2 k3 o2 o3 _) fun r27 v54 h _ hr => ?_
              subst hr
              refine r_eqK (n := 32) (e := ty_uint8) q1 q2 q3 (hashL_len _ _) (hashL_len _ _) ?_
              exact r_ret h _ rfl (fun hc => decide_eq_true hc.eq)
            · refine r_ldK h 0 3 rfl (add_lit _ _ _) (by omega) ?_
              refine r_call h (c_l03Node k0 k1 o0 o1 _) fun r22 v55 h _ hr => ?_
              subst hr
              refine r_call h (c_l03Node k2 k3 o2 o3 _) fun r27 v56 h _ hr => ?_
              subst hr
              refine r_eqK (n := 32) (e := ty_uint8) q1 q2 q3 (hashL_len _ _) (hashL_len _ _) ?_
              exact r_ret h _ rfl (fun hc => decide_eq_true hc.eq)
          · refine r_ldK h 0 3 rfl (add_lit _ _ _) (by omega) ?_
            refine r_ldK h 0 0 rfl (add_lit _ _ _) (by omega) ?_
            refine r_call h (c_l03Node k0 k1 o0 o1 _) fun r22 v57 h _ hr => ?_
            subst hr
            refine r_call h (c_l03Node k2 k3 o2 o3 _) fun r27 v58 h _ hr => ?_
            subst hr
            refine r_eqK (n := 32) (e := ty_uint8) q1 q2 q3 (hashL_len _ _) (hashL_len _ _) ?_
            exact r_ret h _ rfl (fun hc => decide_eq_true hc.eq)
        · refine r_ldK h 0 3 rfl (add_lit _ _ _) (by omega) ?_
          refine r_all2 ?_ ?_
          · refine r_ldK h 0 0 rfl (add_lit _ _ _) (by omega) ?_
            refine r_ldK h 0 1 rfl (add_lit _ _ _) (by omega) ?_
            refine r_call h (c_l03Node k0 k1 o0 o1 _) fun r22 v59 h _ hr => ?_
            subst hr
            refine r_call h (c_l03Node k2 k3 o2 o3 _) fun r27 v60 h _ hr => ?_
            subst hr
            refine r_eqK (n := 32) (e := ty_uint8) q1 q2 q3 (hashL_len _ _) (hashL_len _ _) ?_
            exact r_ret h _ rfl (fun hc => decide_eq_true hc.eq)
          · refine r_ldK h 0 1 rfl (add_lit _ _ _) (by omega) ?_
            refine r_ldK h 0 0 rfl (add_lit _ _ _) (by omega) ?_
            refine r_call h (c_l03Node k0 k1 o0 o1 _) fun r22 v61 h _ hr => ?_
            subst hr
            refine r_call h (c_l03Node k2 k3 o2 o3 _) fun r27 v62 h _ hr => ?_
            subst hr
            refine r_eqK (n := 32) (e := ty_uint8) q1 q2 q3 (hashL_len _ _) (hashL_len _ _) ?_
            exact r_ret h _ rfl (fun hc => decide_eq_true hc.eq)
      · refine r_ldK h 0 3 rfl (add_lit _ _ _) (by omega) ?_
        refine r_all3 ?_ ?_ ?_
        · refine r_ldK h 0 0 rfl (add_lit _ _ _) (by omega) ?_
          refine r_all2 ?_ ?_
          · refine r_ldK h 0 1 rfl (add_lit _ _ _) (by omega) ?_
            refine r_all2 ?_ ?_
            · refine r_call h (c_l03Node k0 k1 o0 o1 _) fun r22 v63 h _ hr => ?_
              subst hr
              refine r_ldK h 0 2 rfl (add_lit _ _ _) (by omega) ?_
              refine r_call h (c_l03Node k2 k3 o2 o3 _) fun r27 v64 h _ hr => ?_
              subst hr
              refine r_eqK (n := 32) (e := ty_uint8) q1 q2 q3 (hashL_len _ _) (hashL_len _ _) ?_
              exact r_ret h _ rfl (fun hc => decide_eq_true hc.eq)
            · refine r_ldK h 0 2 rfl (add_lit _ _ _) (by omega) ?_
              refine r_call h (c_l03Node k0 k1 o0 o1 _) fun r22 v65 h _ hr => ?_
              subst hr
              refine r_call h (c_l03Node k2 k3 o2 o3 _) fun r27 v66 h _ hr => ?_
              subst hr
              refine r_eqK (n := 32) (e := ty_uint8) q1 q2 q3 (hashL_len _ _) (hashL_len _ _) ?_
              exact r_ret h _ rfl (fun hc => decide_eq_true hc.eq)
          · refine r_ldK h 0 2 rfl (add_lit _ _ _) (by omega) ?_
            refine r_ldK h 0 1 rfl (add_lit _ _ _) (by omega) ?_
            refine r_call h (c_l03Node k0 k1 o0 o1 _) fun r22 v67 h _ hr => ?_
            subst hr
            refine r_call h (c_l03Node k2 k3 o2 o3 _) fun r27 v68 h _ hr => ?_
            subst hr
            refine r_eqK (n := 32) (e := ty_uint8) q1 q2 q3 (hashL_len _ _) (hashL_len _ _) ?_
            exact r_ret h _ rfl (fun hc => decide_eq_true hc.eq)
        · refine r_ldK h 0 1 rfl (add_lit _ _ _) (by omega) ?_
          refine r_all2 ?_ ?_
          · refine r_ldK h 0 0 rfl (add_lit _ _ _) (by omega) ?_
            refine r_all2 ?_ ?_
            · refine r_call h (c_l03Node k0 k1 o0 o1 _) fun r22 v69 h _ hr => ?_
              subst hr
              refine r_ldK h 0 2 rfl (add_lit _ _ _) (by omega) ?_
              refine r_call h (c_l03Node k2 k3 o2 o3 _) fun r27 v70 h _ hr => ?_
              subst hr
              refine r_eqK (n := 32) (e := ty_uint8) q1 q2 q3 (hashL_len _ _) (hashL_len _ _) ?_
              exact r_ret h _ rfl (fun hc => decide_eq_true hc.eq)
            · refine r_ldK h 0 2 rfl (add_lit _ _ _) (by omega) ?_
              refine r_call h (c_l03Node k0 k1 o0 o1 _) fun r22 v71 h _ hr => ?_
              subst hr
              refine r_call h (c_l03Node k2 k3 o2 o3 _) fun r27 v72 h _ hr => ?_
              subst hr
              refine r_eqK (n := 32) (e := ty_uint8) q1 q2 q3 (hashL_len _ _) (hashL_len _ _) ?_
              exact r_ret h _ rfl (fun hc => decide_eq_true hc.eq)
          · refine r_ldK h 0 2 rfl (add_lit _ _ _) (by omega) ?_
            refine r_ldK h 0 0 rfl (add_lit _ _ _) (by omega) ?_
            refine r_call h (c_l03Node k0 k1 o0 o1 _) fun r22 v73 h _ hr => ?_
            subst hr
            refine r_call h (c_l03Node k2 k3 o2 o3 _) fun r27 v74 h _ hr => ?_
            subst hr
            refine r_eqK (n := 32) (e := ty_uint8) q1 q2 q3 (hashL_len _ _) (hashL_len _ _) ?_
            exact r_ret h _ rfl (fun hc => decide_eq_true hc.eq)
        · refine r_ldK h 0 2 rfl (add_lit _ _ _) (by omega) ?_
          refine r_all2 ?_ ?_
          · refine r_ldK h 0 0 rfl (add_lit _ _ _) (by omega) ?_
            refine r_ldK h 0 1 rfl (add_lit _ _ _) (by omega) ?_
            refine r_call h (c_l03Node k0 k1 o0 o1 _) fun r22 v75 h _ hr => ?_
            subst hr
            refine r_call h (c_l03Node k2 k3 o2 o3 _) fun r27 v76 h _ hr => ?_
            subst hr
            refine r_eqK (n := 32) (e := ty_uint8) q1 q2 q3 (hashL_len _ _) (hashL_len _ _) ?_
            exact r_ret h _ rfl (fun hc => decide_eq_true hc.eq)
          · refine r_ldK h 0 1 rfl (add_lit _ _ _) (by omega) ?_
            refine r_ldK h 0 0 rfl (add_lit _ _ _) (by omega) ?_
            refine r_call h (c_l03Node k0 k1 o0 o1 _) fun r22 v77 h _ hr => ?_
            subst hr
            refine r_call h (c_l03Node k2 k3 o2 o3 _) fun r27 v78 h _ hr => ?_
            subst hr
            refine r_eqK (n := 32) (e := ty_uint8) q1 q2 q3 (hashL_len _ _) (hashL_len _ _) ?_
            exact r_ret h _ rfl (fun hc => decide_eq_true hc.eq)
    · refine r_all4 ?_ ?_ ?_ ?_
      · refine r_all3 ?_ ?_ ?_
        · refine r_all3 ?_ ?_ ?_
          · refine r_all2 ?_ ?_
            · exact r_ret h false rfl (fun hc => absurd hc.ne hne)
            · exact r_ret h false rfl (fun hc => absurd hc.ne hne)
          · refine r_all2 ?_ ?_
            · exact r_ret h false rfl (fun hc => absurd hc.ne hne)
            · exact r_ret h false rfl (fun hc => absurd hc.ne hne)
          · refine r_all2 ?_ ?_
            · exact r_ret h false rfl (fun hc => absurd hc.ne hne)
            · exact r_ret h false rfl (fun hc => absurd hc.ne hne)
        · refine r_all2 ?_ ?_
          · refine r_all2 ?_ ?_
            · exact r_ret h false rfl (fun hc => absurd hc.ne hne)
            · exact r_ret h false rfl (fun hc => absurd hc.ne hne)
          · exact r_ret h false rfl (fun hc => absurd hc.ne hne)
        · refine r_all2 ?_ ?_
          · refine r_all2 ?_ ?_
            · exact r_ret h false rfl (fun hc => absurd hc.ne hne)
            · exact r_ret h false rfl (fun hc => absurd hc.ne hne)
          · exact r_ret h false rfl (fun hc => absurd hc.ne hne)
      · refine r_all3 ?_ ?_ ?_
        · refine r_all3 ?_ ?_ ?_
          · refine r_all2 ?_ ?_
            · exact r_ret h false rfl (fun hc => absurd hc.ne hne)
            · exact r_ret h false rfl (fun hc => absurd hc.ne hne)
          · refine r_all2 ?_ ?_
            · exact r_ret h false rfl (fun hc => absurd hc.ne hne)
            · exact r_ret h false rfl (fun hc => absurd hc.ne hne)
          · refine r_all2 ?_ ?_
            · exact r_ret h false rfl (fun hc => absurd hc.ne hne)
            · exact r_ret h false rfl (fun hc => absurd hc.ne hne)
        · refine r_all2 ?_ ?_
          · refine r_all2 ?_ ?_
            · exact r_ret h false rfl (fun hc => absurd hc.ne hne)
            · exact r_ret h false rfl (fun hc => absurd hc.ne hne)
          · exact r_ret h false rfl (fun hc => absurd hc.ne hne)
        · refine r_all2 ?_ ?_
          · refine r_all2 ?_ ?_
            · exact r_ret h false rfl (fun hc => absurd hc.ne hne)
            · exact r_ret h false rfl (fun hc => absurd hc.ne hne)
          · exact r_ret h false rfl (fun hc => absurd hc.ne hne)
      · refine r_all3 ?_ ?_ ?_
        · refine r_all2 ?_ ?_
          · refine r_all2 ?_ ?_
            · exact r_ret h false rfl (fun hc => absurd hc.ne hne)
            · exact r_ret h false rfl (fun hc => absurd hc.ne hne)
          · exact r_ret h false rfl (fun hc => absurd hc.ne hne)
        · refine r_all2 ?_ ?_
          · refine r_all2 ?_ ?_
            · exact r_ret h false rfl (fun hc => absurd hc.ne hne)
            · exact r_ret h false rfl (fun hc => absurd hc.ne hne)
          · exact r_ret h false rfl (fun hc => absurd hc.ne hne)
        · refine r_all2 ?_ ?_
          · exact r_ret h false rfl (fun hc => absurd hc.ne hne)
          · exact r_ret h false rfl (fun hc => absurd hc.ne hne)
      · refine r_all3 ?_ ?_ ?_
        · refine r_all2 ?_ ?_
          · refine r_all2 ?_ ?_
            · exact r_ret h false rfl (fun hc => absurd hc.ne hne)
            · exact r_ret h false rfl (fun hc => absurd hc.ne hne)
          · exact r_ret h false rfl (fun hc => absurd hc.ne hne)
        · refine r_all2 ?_ ?_
          · refine r_all2 ?_ ?_
            · exact r_ret h false rfl (fun hc => absurd hc.ne hne)
            · exact r_ret h false rfl (fun hc => absurd hc.ne hne)
          · exact r_ret h false rfl (fun hc => absurd hc.ne hne)
        · refine r_all2 ?_ ?_
          · exact r_ret h false rfl (fun hc => absurd hc.ne hne)
          · exact r_ret h false rfl (fun hc => absurd hc.ne hne)
  · refine r_ldK h 0 0 rfl (add_lit _ _ _) (by omega) ?_
    refine r_ldK h 0 2 rfl (add_lit _ _ _) (by omega) ?_
    refine r_neK (n := 32) (e := ty_uint8) (by kernel_rfl) (by kernel_rfl) (by kernel_rfl) k0 k2 ?_
    by_cases h02 : keyAt x 0 = keyAt x 2
    · refine r_false (by simp [h02]) ?_
      refine r_ldK h 0 1 rfl (add_lit _ _ _) (by omega) ?_
      refine r_ldK h 0 3 rfl (add_lit _ _ _) (by omega) ?_
      refine r_neK (n := 32) (e := ty_uint8) (by kernel_rfl) (by kernel_rfl) (by kernel_rfl) k1 k3 ?_
      exact ⟨_, rfl, by simp [h02], h⟩
    · refine r_true (by simp [h02]) ?_
      exact ⟨true, rfl, by simp [h02], h⟩)


end Go.Proofs.Ytjmncaoddfggnaa
