/- ChunkPartial, ListProofFromCopy: what both sides answer. Printed by a program of this claim's author (l4.py). -/
import Derived.Test.YtffedfdhhglmkaaGreatL2
namespace Go.Proofs.YtffedfdhhglmkaaGreat
open Go.Sx Go.RowKit

theorem chunkAns_small {B : List PB} (hB : ∀ b ∈ B, bytesOk b.data) {k : List Int} (hk : keyOk k) (n i : Int) : sizeByteS (chunkAns B k n i).1 ≤ 1024 := (chunkAll_ok hB hk n i).size
theorem proofAns_small {B : List PB} (hB : ∀ b ∈ B, bytesOk b.data) {k : List Int} (hk : keyOk k) (n i : Int) : sizeKeyS (proofAns B k n i).1 ≤ 256 := by have := (chunkAll_ok hB hk n i).many; unfold sizeKeyS; show (chunkAll B k n i).2.1.length ≤ _; omega
theorem proofAns_msmall {B : List PB} (hB : ∀ b ∈ B, bytesOk b.data) {k : List Int} (hk : keyOk k) (n i : Int) : msizeKeyS (proofAns B k n i).1 ≤ 8192 := by have := proofAns_small hB hk n i; unfold sizeKeyS at this; unfold msizeKeyS; omega
theorem rawStore_bytes {w : World} {r : Array Value} {B : List PB} (h : RawStore w r B) : ∀ b ∈ B, bytesOk b.data := fun b hb => (h.rd.ok b hb).1

theorem c_impl_ChunkPartial {w : World} {r a : Array Value} {B : List PB} {k : List Int} {n i : Int} (hr : RdStore w r B) (ha : RdKey w a k) (hz : sizeBs B ≤ 1073741824) :
    Ret Tryz.prog n_impl_ChunkPartial [.agg r, .agg a, .int .i64 n, .int .i64 i] w [.slice, .agg, .int .i64] (fun x w' => ∃ L, At w w' L ∧ OwnByteS x.1 (chunkAns B k n i).1 L ∧ RdKey w x.2.1 (chunkAns B k n i).2.1 ∧ x.2.2 = (chunkAns B k n i).2.2) := impl_ChunkPartial_calls _ _ _ _ (by
  unfold impl_ChunkPartial
  obtain ⟨s, bs, rfl, hpb, hs⟩ := hr
  obtain ⟨rfl, hk⟩ := ha
  have hl := le_sizeBs B
  have hbl : bs.length = B.length := by rw [← hpb]; simp
  refine r_new (At.refl w) fun b4 w1 h => ?_
  refine r_new h fun b5 w2 h => ?_
  refine r_new h fun b9 w3 h => ?_
  have h : At w w3 [(b9, Array.replicate 32 (.int .u8 0), ty_impl_Key), (b5, (u8s k).toArray, ty_impl_Key), (b4, #[.slice s.a s.n s.c], ty_impl_Store)] := h
  refine r_ldA h 2 rfl rfl rfl ?_
  refine r_call h (c_openChunk (hs.at h) (by omega) n i) fun r20 w4 h4 _ hr => ?_
  rw [hpb] at hr
  have bad_ : ∀ {c : Int}, c ≠ 0 → chunkAll B k n i = ([], [], zero32, c) → ((real Tryz.prog (RR w [.slice, .agg, .int .i64] (fun x w' => ∃ L, At w w' L ∧ OwnByteS x.1 (chunkAns B k n i).1 L ∧ RdKey w x.2.1 (chunkAns B k n i).2.1 ∧ x.2.2 = (chunkAns B k n i).2.2))).st 32 ⟨b9, 0, none⟩ (.agg (Array.replicate 32 (.int .u8 0))) <| (real Tryz.prog (RR w [.slice, .agg, .int .i64] (fun x w' => ∃ L, At w w' L ∧ OwnByteS x.1 (chunkAns B k n i).1 L ∧ RdKey w x.2.1 (chunkAns B k n i).2.1 ∧ x.2.2 = (chunkAns B k n i).2.2))).ld .agg 32 ⟨b9, 0, none⟩ fun z6 => (real Tryz.prog (RR w [.slice, .agg, .int .i64] (fun x w' => ∃ L, At w w' L ∧ OwnByteS x.1 (chunkAns B k n i).1 L ∧ RdKey w x.2.1 (chunkAns B k n i).2.1 ∧ x.2.2 = (chunkAns B k n i).2.2))).ret (.tuple #[.slice none 0 0, .agg z6, .int .i64 c]) : World → Prop) w4 := fun {c} h0 hc => by
    refine r_stA h4 0 rfl rfl (by simp) (by simp) (by simp [oneC]) fun w5 h => ?_
    refine r_ldA h 0 rfl rfl (by simp) ?_
    refine r_ret h.nil (⟨none, 0, 0⟩, _, c) rfl ?_
    unfold chunkAns
    rw [hc]
    exact ⟨[], h.nil, OwnByteS.none, ⟨rfl, zero32_ok⟩, rfl⟩
  rcases hr with ⟨hv, hlf, b, L, rfl, hL, hO⟩ | ⟨hv, hlf, rfl⟩ | ⟨hv, rfl⟩
  · refine r_false rfl ?_
    have hc : chunkAll B k n i = chunkGo B n.toNat k n.toNat i.toNat [] := by unfold chunkAll; rw [if_pos hv, if_pos hlf]
    obtain ⟨N, rfl⟩ : ∃ N : Nat, n = N := ⟨n.toNat, by have := hlf.1.1; omega⟩
    obtain ⟨I, rfl⟩ : ∃ I : Nat, i = I := ⟨i.toNat, by have := hlf.2.1; omega⟩
    simp only [Int.toNat_natCast] at hc
    have l1 := hlf.1
    have l2 := hlf.2
    have h : At w w4 ([(b9, Array.replicate 32 (.int .u8 0), ty_impl_Key), (b5, (u8s k).toArray, ty_impl_Key), (b4, #[.slice s.a s.n s.c], ty_impl_Store)] ++ (L ++ [])) := by rw [List.append_nil]; exact (h.join hL).swap
    refine r_ldA h 1 rfl rfl (by simp [hk.1]) ?_
    refine r_call h (c_chunk (hO.rd h.pl1 (keysOf_ok _) (fun b hb => (hs.at h.nil).ok b hb)) hpb hv hk (n := N) (i := I) (by omega) (by omega) (by omega)) fun r32 w5 h5 _ ⟨L1, L2, hL5, hO1, hO2, hk3, hc4⟩ => ?_
    have h := (h.join hL5).rot
    unfold chunkAns
    rw [hc]
    generalize chunkGo B N k N I [] = R at hO1 hO2 hk3 hc4
    obtain ⟨hr3, hko⟩ := hk3
    refine r_new h fun b15 w6 h => ?_
    refine r_stA h 0 rfl rfl (by rw [hr3]; simp [hko.1]) (by simp [Value.cells]) (by rw [hr3]; simpa using u8s_one) fun w7 h => ?_
    refine r_draw h fun w8 h => ?_
    refine r_ldA h 0 rfl rfl (by rw [hr3]; simp [hko.1]) ?_
    refine r_stA h 1 rfl rfl (by rw [hr3]; simp [hko.1]) (by simp) (by rw [hr3]; simpa using u8s_one) fun w9 h => ?_
    refine r_ldA h 1 rfl rfl (by rw [hr3]; simp [hko.1]) ?_
    have h : At w w9 ([(b15, r32.2.2.1, ty_impl_Key), (b9, r32.2.2.1, ty_impl_Key), (b5, (u8s k).toArray, ty_impl_Key), (b4, #[.slice s.a s.n s.c], ty_impl_Store)] ++ ((L1 ++ (L2 ++ [])) ++ (L ++ []))) := h
    exact r_ret h.nil (r32.1, r32.2.2.1, r32.2.2.2) rfl ⟨L1, (At.right (A := [_, _, _, _]) h).left.left, hO1, ⟨hr3, hko⟩, hc4⟩
  · exact r_true rfl (bad_ (by decide) (by unfold chunkAll; rw [if_pos hv, if_neg hlf]))
  · exact r_true rfl (bad_ (by decide) (by unfold chunkAll; rw [if_neg hv])))

theorem c_spec_ChunkPartial {w : World} {r a : Array Value} {B : List PB} {k : List Int} {n i : Int} (hr : RdStore w r B) (ha : RdKey w a k) (hz : sizeBs B ≤ 1073741824) :
    Ret Tryz.prog n_spec_ChunkPartial [.agg r, .agg a, .int .i64 n, .int .i64 i] w [.slice, .agg, .int .i64] (fun x w' => ∃ L, At w w' L ∧ OwnByteS x.1 (chunkAns B k n i).1 L ∧ RdKey w x.2.1 (chunkAns B k n i).2.1 ∧ x.2.2 = (chunkAns B k n i).2.2) := spec_ChunkPartial_calls _ _ _ _ (by
  unfold spec_ChunkPartial
  obtain ⟨s, bs, rfl, hpb, hs⟩ := hr
  obtain ⟨rfl, hk⟩ := ha
  have hl := le_sizeBs B
  have hbl : bs.length = B.length := by rw [← hpb]; simp
  refine r_new (At.refl w) fun b4 w1 h => ?_
  refine r_new h fun b5 w2 h => ?_
  refine r_new h fun b9 w3 h => ?_
  have h : At w w3 [(b9, Array.replicate 32 (.int .u8 0), ty_impl_Key), (b5, (u8s k).toArray, ty_impl_Key), (b4, #[.slice s.a s.n s.c], ty_impl_Store)] := h
  refine r_call h (c_l05Open (p := ⟨b4, 0, none⟩) (fun n => ldOk_own h 2 rfl 0 rfl (by simp [Sh.emb])) (hs.at h.nil)) fun r18 w4 h4 _ ⟨hr2, b, hr1, hr⟩ => ?_
  rw [hpb] at hr hr2
  have bad_ : ∀ {c : Int} {w' : World}, chunkAll B k n i = ([], [], zero32, c) → At w w' [(b9, Array.replicate 32 (.int .u8 0), ty_impl_Key), (b5, (u8s k).toArray, ty_impl_Key), (b4, #[.slice s.a s.n s.c], ty_impl_Store)] → ((real Tryz.prog (RR w [.slice, .agg, .int .i64] (fun x w' => ∃ L, At w w' L ∧ OwnByteS x.1 (chunkAns B k n i).1 L ∧ RdKey w x.2.1 (chunkAns B k n i).2.1 ∧ x.2.2 = (chunkAns B k n i).2.2))).sem (Instr.buildSlice ty_sl_uint8 0 #[]) .slice fun y => (real Tryz.prog (RR w [.slice, .agg, .int .i64] (fun x w' => ∃ L, At w w' L ∧ OwnByteS x.1 (chunkAns B k n i).1 L ∧ RdKey w x.2.1 (chunkAns B k n i).2.1 ∧ x.2.2 = (chunkAns B k n i).2.2))).st 32 ⟨b9, 0, none⟩ (.agg (Array.replicate 32 (.int .u8 0))) <| (real Tryz.prog (RR w [.slice, .agg, .int .i64] (fun x w' => ∃ L, At w w' L ∧ OwnByteS x.1 (chunkAns B k n i).1 L ∧ RdKey w x.2.1 (chunkAns B k n i).2.1 ∧ x.2.2 = (chunkAns B k n i).2.2))).ld .agg 32 ⟨b9, 0, none⟩ fun z6 => (real Tryz.prog (RR w [.slice, .agg, .int .i64] (fun x w' => ∃ L, At w w' L ∧ OwnByteS x.1 (chunkAns B k n i).1 L ∧ RdKey w x.2.1 (chunkAns B k n i).2.1 ∧ x.2.2 = (chunkAns B k n i).2.2))).ret (.tuple #[.slice y.a y.n y.c, .agg z6, .int .i64 c]) : World → Prop) w' := fun {c w'} hc h4 => by
    refine r_bs0 T_sl_uint8' h4 fun y w5 hy hyn => ?_
    obtain ⟨Ly, hOy, h⟩ := hy.split
    have h := h.swap
    refine r_stA h 0 rfl rfl (by simp) (by simp) (by simp [oneC]) fun w6 h => ?_
    refine r_ldA h 0 rfl rfl (by simp) ?_
    refine r_ret h.nil (y, _, c) rfl ?_
    unfold chunkAns
    rw [hc]
    exact ⟨Ly, At.right (A := [_, _, _]) h, ⟨hOy, (by intro b hb; cases hb)⟩, ⟨rfl, zero32_ok⟩, rfl⟩
  by_cases hv : validS B
  · obtain ⟨L, hL, hO⟩ := hr hv
    rw [hr2, decide_eq_true hv, hr1]
    refine r_false rfl ?_
    refine r_call h4 (c_l08Leaf n i _) fun r27 w5 h5 hb5 hr27 => ?_
    subst hr27
    by_cases hlf : leafOk n i
    · refine r_false (by simp [hlf]) ?_
      have hc : chunkAll B k n i = chunkGo B n.toNat k n.toNat i.toNat [] := by unfold chunkAll; rw [if_pos hv, if_pos hlf]
      obtain ⟨N, rfl⟩ : ∃ N : Nat, n = N := ⟨n.toNat, by have := hlf.1.1; omega⟩
      obtain ⟨I, rfl⟩ : ∃ I : Nat, i = I := ⟨i.toNat, by have := hlf.2.1; omega⟩
      simp only [Int.toNat_natCast] at hc
      have l1 := hlf.1
      have l2 := hlf.2
      have h : At w w5 ([(b9, Array.replicate 32 (.int .u8 0), ty_impl_Key), (b5, (u8s k).toArray, ty_impl_Key), (b4, #[.slice s.a s.n s.c], ty_impl_Store)] ++ (L ++ [])) := by
        rw [List.append_nil]
        exact ((h.join hL).trans hb5).swap
      refine r_ldA h 1 rfl rfl (by simp [hk.1]) ?_
      refine r_call h (c_l08Chunk (hO.rd h.pl1 (keysOf_ok _) (fun b hb => (hs.at h.nil).ok b hb)) hpb hv hk (n := N) (i := I) (by omega) (by omega) (by omega)) fun r32 w5 _ _ ⟨L1, L2, hL5, hO1, hO2, hk3, hc4⟩ => ?_
      have h := (h.join hL5).rot
      unfold chunkAns
      rw [hc]
      generalize chunkGo B N k N I [] = R at hO1 hO2 hk3 hc4
      obtain ⟨hr3, hko⟩ := hk3
      refine r_new h fun b15 w6 h => ?_
      refine r_stA h 0 rfl rfl (by rw [hr3]; simp [hko.1]) (by simp [Value.cells]) (by rw [hr3]; simpa using u8s_one) fun w7 h => ?_
      refine r_draw h fun w8 h => ?_
      refine r_ldA h 0 rfl rfl (by rw [hr3]; simp [hko.1]) ?_
      refine r_stA h 1 rfl rfl (by rw [hr3]; simp [hko.1]) (by simp) (by rw [hr3]; simpa using u8s_one) fun w9 h => ?_
      refine r_ldA h 1 rfl rfl (by rw [hr3]; simp [hko.1]) ?_
      have h : At w w9 ([(b15, r32.2.2.1, ty_impl_Key), (b9, r32.2.2.1, ty_impl_Key), (b5, (u8s k).toArray, ty_impl_Key), (b4, #[.slice s.a s.n s.c], ty_impl_Store)] ++ ((L1 ++ (L2 ++ [])) ++ (L ++ []))) := h
      exact r_ret h.nil (r32.1, r32.2.2.1, r32.2.2.2) rfl ⟨L1, (At.right (A := [_, _, _, _]) h).left.left, hO1, ⟨hr3, hko⟩, hc4⟩
    · refine r_true (by simp [hlf]) ?_
      exact bad_ (by unfold chunkAll; rw [if_pos hv, if_neg hlf]) h5
  · rw [hr2, decide_eq_false hv]
    refine r_true rfl ?_
    exact bad_ (by unfold chunkAll; rw [if_neg hv]) h4)

theorem c_impl_ListProofFromCopy {w : World} {r a : Array Value} {B : List PB} {k : List Int} {n i : Int} (hr : RdStore w r B) (ha : RdKey w a k) (hz : sizeBs B ≤ 1073741824) :
    Ret Tryz.prog n_impl_ListProofFromCopy [.agg r, .agg a, .int .i64 n, .int .i64 i] w [.slice, .agg, .int .i64] (fun x w' => ∃ L, At w w' L ∧ OwnKeyS x.1 (proofAns B k n i).1 L ∧ RdKey w x.2.1 (proofAns B k n i).2.1 ∧ x.2.2 = (proofAns B k n i).2.2) := impl_ListProofFromCopy_calls _ _ _ _ (by
  unfold impl_ListProofFromCopy
  obtain ⟨s, bs, rfl, hpb, hs⟩ := hr
  obtain ⟨rfl, hk⟩ := ha
  have hl := le_sizeBs B
  have hbl : bs.length = B.length := by rw [← hpb]; simp
  refine r_new (At.refl w) fun b4 w1 h => ?_
  refine r_new h fun b5 w2 h => ?_
  refine r_new h fun b9 w3 h => ?_
  have h : At w w3 [(b9, Array.replicate 32 (.int .u8 0), ty_impl_Key), (b5, (u8s k).toArray, ty_impl_Key), (b4, #[.slice s.a s.n s.c], ty_impl_Store)] := h
  refine r_ldA h 2 rfl rfl rfl ?_
  refine r_call h (c_openChunk (hs.at h) (by omega) n i) fun r20 w4 h4 _ hr => ?_
  rw [hpb] at hr
  have bad_ : ∀ {c : Int}, c ≠ 0 → chunkAll B k n i = ([], [], zero32, c) → ((real Tryz.prog (RR w [.slice, .agg, .int .i64] (fun x w' => ∃ L, At w w' L ∧ OwnKeyS x.1 (proofAns B k n i).1 L ∧ RdKey w x.2.1 (proofAns B k n i).2.1 ∧ x.2.2 = (proofAns B k n i).2.2))).st 32 ⟨b9, 0, none⟩ (.agg (Array.replicate 32 (.int .u8 0))) <| (real Tryz.prog (RR w [.slice, .agg, .int .i64] (fun x w' => ∃ L, At w w' L ∧ OwnKeyS x.1 (proofAns B k n i).1 L ∧ RdKey w x.2.1 (proofAns B k n i).2.1 ∧ x.2.2 = (proofAns B k n i).2.2))).ld .agg 32 ⟨b9, 0, none⟩ fun z6 => (real Tryz.prog (RR w [.slice, .agg, .int .i64] (fun x w' => ∃ L, At w w' L ∧ OwnKeyS x.1 (proofAns B k n i).1 L ∧ RdKey w x.2.1 (proofAns B k n i).2.1 ∧ x.2.2 = (proofAns B k n i).2.2))).ret (.tuple #[.slice none 0 0, .agg z6, .int .i64 c]) : World → Prop) w4 := fun {c} h0 hc => by
    refine r_stA h4 0 rfl rfl (by simp) (by simp) (by simp [oneC]) fun w5 h => ?_
    refine r_ldA h 0 rfl rfl (by simp) ?_
    refine r_ret h.nil (⟨none, 0, 0⟩, _, c) rfl ?_
    unfold proofAns
    rw [hc]
    exact ⟨[], h.nil, OwnKeyS.none, ⟨rfl, zero32_ok⟩, rfl⟩
  rcases hr with ⟨hv, hlf, b, L, rfl, hL, hO⟩ | ⟨hv, hlf, rfl⟩ | ⟨hv, rfl⟩
  · refine r_false rfl ?_
    have hc : chunkAll B k n i = chunkGo B n.toNat k n.toNat i.toNat [] := by unfold chunkAll; rw [if_pos hv, if_pos hlf]
    obtain ⟨N, rfl⟩ : ∃ N : Nat, n = N := ⟨n.toNat, by have := hlf.1.1; omega⟩
    obtain ⟨I, rfl⟩ : ∃ I : Nat, i = I := ⟨i.toNat, by have := hlf.2.1; omega⟩
    simp only [Int.toNat_natCast] at hc
    have l1 := hlf.1
    have l2 := hlf.2
    have h : At w w4 ([(b9, Array.replicate 32 (.int .u8 0), ty_impl_Key), (b5, (u8s k).toArray, ty_impl_Key), (b4, #[.slice s.a s.n s.c], ty_impl_Store)] ++ (L ++ [])) := by rw [List.append_nil]; exact (h.join hL).swap
    refine r_ldA h 1 rfl rfl (by simp [hk.1]) ?_
    refine r_call h (c_chunk (hO.rd h.pl1 (keysOf_ok _) (fun b hb => (hs.at h.nil).ok b hb)) hpb hv hk (n := N) (i := I) (by omega) (by omega) (by omega)) fun r32 w5 h5 _ ⟨L1, L2, hL5, hO1, hO2, hk3, hc4⟩ => ?_
    have h := (h.join hL5).rot
    unfold proofAns
    rw [hc]
    generalize chunkGo B N k N I [] = R at hO1 hO2 hk3 hc4
    obtain ⟨hr3, hko⟩ := hk3
    refine r_new h fun b15 w6 h => ?_
    refine r_stA h 0 rfl rfl (by rw [hr3]; simp [hko.1]) (by simp [Value.cells]) (by rw [hr3]; simpa using u8s_one) fun w7 h => ?_
    refine r_draw h fun w8 h => ?_
    refine r_ldA h 0 rfl rfl (by rw [hr3]; simp [hko.1]) ?_
    refine r_stA h 1 rfl rfl (by rw [hr3]; simp [hko.1]) (by simp) (by rw [hr3]; simpa using u8s_one) fun w9 h => ?_
    refine r_ldA h 1 rfl rfl (by rw [hr3]; simp [hko.1]) ?_
    have h : At w w9 ([(b15, r32.2.2.1, ty_impl_Key), (b9, r32.2.2.1, ty_impl_Key), (b5, (u8s k).toArray, ty_impl_Key), (b4, #[.slice s.a s.n s.c], ty_impl_Store)] ++ ((L1 ++ (L2 ++ [])) ++ (L ++ []))) := h
    exact r_ret h.nil (r32.2.1, r32.2.2.1, r32.2.2.2) rfl ⟨L2, (At.right (A := [_, _, _, _]) h).left.right.left, hO2, ⟨hr3, hko⟩, hc4⟩
  · exact r_true rfl (bad_ (by decide) (by unfold chunkAll; rw [if_pos hv, if_neg hlf]))
  · exact r_true rfl (bad_ (by decide) (by unfold chunkAll; rw [if_neg hv])))

theorem c_spec_ListProofFromCopy {w : World} {r a : Array Value} {B : List PB} {k : List Int} {n i : Int} (hr : RdStore w r B) (ha : RdKey w a k) (hz : sizeBs B ≤ 1073741824) :
    Ret Tryz.prog n_spec_ListProofFromCopy [.agg r, .agg a, .int .i64 n, .int .i64 i] w [.slice, .agg, .int .i64] (fun x w' => ∃ L, At w w' L ∧ OwnKeyS x.1 (proofAns B k n i).1 L ∧ RdKey w x.2.1 (proofAns B k n i).2.1 ∧ x.2.2 = (proofAns B k n i).2.2) := spec_ListProofFromCopy_calls _ _ _ _ (by
  unfold spec_ListProofFromCopy
  obtain ⟨s, bs, rfl, hpb, hs⟩ := hr
  obtain ⟨rfl, hk⟩ := ha
  have hl := le_sizeBs B
  have hbl : bs.length = B.length := by rw [← hpb]; simp
  refine r_new (At.refl w) fun b4 w1 h => ?_
  refine r_new h fun b5 w2 h => ?_
  refine r_new h fun b9 w3 h => ?_
  have h : At w w3 [(b9, Array.replicate 32 (.int .u8 0), ty_impl_Key), (b5, (u8s k).toArray, ty_impl_Key), (b4, #[.slice s.a s.n s.c], ty_impl_Store)] := h
  refine r_call h (c_l05Open (p := ⟨b4, 0, none⟩) (fun n => ldOk_own h 2 rfl 0 rfl (by simp [Sh.emb])) (hs.at h.nil)) fun r18 w4 h4 _ ⟨hr2, b, hr1, hr⟩ => ?_
  rw [hpb] at hr hr2
  have bad_ : ∀ {c : Int} {w' : World}, chunkAll B k n i = ([], [], zero32, c) → At w w' [(b9, Array.replicate 32 (.int .u8 0), ty_impl_Key), (b5, (u8s k).toArray, ty_impl_Key), (b4, #[.slice s.a s.n s.c], ty_impl_Store)] → ((real Tryz.prog (RR w [.slice, .agg, .int .i64] (fun x w' => ∃ L, At w w' L ∧ OwnKeyS x.1 (proofAns B k n i).1 L ∧ RdKey w x.2.1 (proofAns B k n i).2.1 ∧ x.2.2 = (proofAns B k n i).2.2))).sem (Instr.buildSlice ty_sl_impl_Key 0 #[]) .slice fun y => (real Tryz.prog (RR w [.slice, .agg, .int .i64] (fun x w' => ∃ L, At w w' L ∧ OwnKeyS x.1 (proofAns B k n i).1 L ∧ RdKey w x.2.1 (proofAns B k n i).2.1 ∧ x.2.2 = (proofAns B k n i).2.2))).st 32 ⟨b9, 0, none⟩ (.agg (Array.replicate 32 (.int .u8 0))) <| (real Tryz.prog (RR w [.slice, .agg, .int .i64] (fun x w' => ∃ L, At w w' L ∧ OwnKeyS x.1 (proofAns B k n i).1 L ∧ RdKey w x.2.1 (proofAns B k n i).2.1 ∧ x.2.2 = (proofAns B k n i).2.2))).ld .agg 32 ⟨b9, 0, none⟩ fun z6 => (real Tryz.prog (RR w [.slice, .agg, .int .i64] (fun x w' => ∃ L, At w w' L ∧ OwnKeyS x.1 (proofAns B k n i).1 L ∧ RdKey w x.2.1 (proofAns B k n i).2.1 ∧ x.2.2 = (proofAns B k n i).2.2))).ret (.tuple #[.slice y.a y.n y.c, .agg z6, .int .i64 c]) : World → Prop) w' := fun {c w'} hc h4 => by
    refine r_bs0 T_sl_Key h4 fun y w5 hy hyn => ?_
    obtain ⟨Ly, hOy, h⟩ := hy.split
    have h := h.swap
    refine r_stA h 0 rfl rfl (by simp) (by simp) (by simp [oneC]) fun w6 h => ?_
    refine r_ldA h 0 rfl rfl (by simp) ?_
    refine r_ret h.nil (y, _, c) rfl ?_
    unfold proofAns
    rw [hc]
    exact ⟨Ly, At.right (A := [_, _, _]) h, ⟨by simpa using hOy, by simp⟩, ⟨rfl, zero32_ok⟩, rfl⟩
  by_cases hv : validS B
  · obtain ⟨L, hL, hO⟩ := hr hv
    rw [hr2, decide_eq_true hv, hr1]
    refine r_false rfl ?_
    refine r_call h4 (c_l08Leaf n i _) fun r27 w5 h5 hb5 hr27 => ?_
    subst hr27
    by_cases hlf : leafOk n i
    · refine r_false (by simp [hlf]) ?_
      have hc : chunkAll B k n i = chunkGo B n.toNat k n.toNat i.toNat [] := by unfold chunkAll; rw [if_pos hv, if_pos hlf]
      obtain ⟨N, rfl⟩ : ∃ N : Nat, n = N := ⟨n.toNat, by have := hlf.1.1; omega⟩
      obtain ⟨I, rfl⟩ : ∃ I : Nat, i = I := ⟨i.toNat, by have := hlf.2.1; omega⟩
      simp only [Int.toNat_natCast] at hc
      have l1 := hlf.1
      have l2 := hlf.2
      have h : At w w5 ([(b9, Array.replicate 32 (.int .u8 0), ty_impl_Key), (b5, (u8s k).toArray, ty_impl_Key), (b4, #[.slice s.a s.n s.c], ty_impl_Store)] ++ (L ++ [])) := by
        rw [List.append_nil]
        exact ((h.join hL).trans hb5).swap
      refine r_ldA h 1 rfl rfl (by simp [hk.1]) ?_
      refine r_call h (c_l08Chunk (hO.rd h.pl1 (keysOf_ok _) (fun b hb => (hs.at h.nil).ok b hb)) hpb hv hk (n := N) (i := I) (by omega) (by omega) (by omega)) fun r32 w5 _ _ ⟨L1, L2, hL5, hO1, hO2, hk3, hc4⟩ => ?_
      have h := (h.join hL5).rot
      unfold proofAns
      rw [hc]
      generalize chunkGo B N k N I [] = R at hO1 hO2 hk3 hc4
      obtain ⟨hr3, hko⟩ := hk3
      refine r_new h fun b15 w6 h => ?_
      refine r_stA h 0 rfl rfl (by rw [hr3]; simp [hko.1]) (by simp [Value.cells]) (by rw [hr3]; simpa using u8s_one) fun w7 h => ?_
      refine r_draw h fun w8 h => ?_
      refine r_ldA h 0 rfl rfl (by rw [hr3]; simp [hko.1]) ?_
      refine r_stA h 1 rfl rfl (by rw [hr3]; simp [hko.1]) (by simp) (by rw [hr3]; simpa using u8s_one) fun w9 h => ?_
      refine r_ldA h 1 rfl rfl (by rw [hr3]; simp [hko.1]) ?_
      have h : At w w9 ([(b15, r32.2.2.1, ty_impl_Key), (b9, r32.2.2.1, ty_impl_Key), (b5, (u8s k).toArray, ty_impl_Key), (b4, #[.slice s.a s.n s.c], ty_impl_Store)] ++ ((L1 ++ (L2 ++ [])) ++ (L ++ []))) := h
      exact r_ret h.nil (r32.2.1, r32.2.2.1, r32.2.2.2) rfl ⟨L2, (At.right (A := [_, _, _, _]) h).left.right.left, hO2, ⟨hr3, hko⟩, hc4⟩
    · refine r_true (by simp [hlf]) ?_
      exact bad_ (by unfold chunkAll; rw [if_pos hv, if_neg hlf]) h5
  · rw [hr2, decide_eq_false hv]
    refine r_true rfl ?_
    exact bad_ (by unfold chunkAll; rw [if_neg hv]) h4)

end Go.Proofs.YtffedfdhhglmkaaGreat
