/- StoreList: what is answered, and the program. -/
import Derived.Test.YtffedfdhhglmkaaGreatF0
import Derived.Test.YtffedfdhhglmkaaGreatV8
import Derived.Test.YtffedfdhhglmkaaGreatS4
namespace Go.Proofs.YtffedfdhhglmkaaGreat
open Go.Sx Go.RowKit

/-! ### What is answered -/
def chunkB (c : List Int) : PB := ⟨1, c⟩
def chunkKeys (X : List (List Int)) : List (List Int) := X.map fun c => (chunkB c).key
def stBlobs (X : List (List Int)) : List PB := X.map chunkB ++ (nodesF (X.length + 1) (chunkKeys X) ++ if X.length = 0 then [⟨3, []⟩] else [])
def shortX (X : List (List Int)) : Prop := ∀ c ∈ X, c.length ≤ 1024
instance (X : List (List Int)) : Decidable (shortX X) := inferInstanceAs (Decidable (∀ c ∈ X, c.length ≤ 1024))
def stListAns (B : List PB) (X : List (List Int)) : List PB × List Int × Int :=
  if X.length > 256 then ([], zero32, 3) else if validS B ∧ shortX X then
    (if (putsAns B zero32 (stBlobs X)).2.2 = 0 then ((putsAns B zero32 (stBlobs X)).1, keyF (X.length + 1) (chunkKeys X), 0) else ([], zero32, (putsAns B zero32 (stBlobs X)).2.2))
  else ([], zero32, 1)
theorem chunkKeys_ok (X : List (List Int)) : ∀ k ∈ chunkKeys X, keyOk k := fun k hk => by
  obtain ⟨c, _, rfl⟩ := List.mem_map.1 hk
  exact PB.key_ok _
theorem chunkKeys_len (X : List (List Int)) : (chunkKeys X).length = X.length := by simp [chunkKeys]
theorem sizeBs_le {A : List PB} {m : Nat} (h : ∀ b ∈ A, b.data.length ≤ m) : sizeBs A ≤ A.length * (m + 1) := by
  induction A with
  | nil => simp [sizeBs]
  | cons a r ih =>
    have e : ∀ (a : PB) (r : List PB), sizeBs (a :: r) = 1 + a.data.length + sizeBs r := fun a r => by simp [sizeBs]; omega
    have h1 := h a (by simp)
    have h2 := ih (fun b hb => h b (by simp [hb]))
    rw [e, List.length_cons, Nat.add_mul]
    omega
theorem stListAns_size (B : List PB) (X : List (List Int)) : sizeBs (stListAns B X).1 ≤ sizeBs B + 300000 := by
  unfold stListAns
  split
  · simp [sizeBs]
  split
  · rename_i hl hv
    split
    · refine Nat.le_trans (putsAns_size B zero32 (stBlobs X)) ?_
      unfold stBlobs
      rw [sizeBs_append, sizeBs_append]
      have h1 : sizeBs (X.map chunkB) ≤ (X.map chunkB).length * (1024 + 1) := sizeBs_le fun b hb => by
        obtain ⟨c, hc, rfl⟩ := List.mem_map.1 hb
        exact hv.2 c hc
      have h2 : sizeBs (nodesF (X.length + 1) (chunkKeys X)) ≤ (nodesF (X.length + 1) (chunkKeys X)).length * (64 + 1) := sizeBs_le fun b hb => by
        have := (nodesF_ok _ _ (chunkKeys_ok X) b hb).2.1
        omega
      have h3 := nodesF_len (X.length + 1) (chunkKeys X)
      rw [chunkKeys_len] at h3
      rw [List.length_map] at h1
      have h4 : sizeBs (if X.length = 0 then [(⟨3, []⟩ : PB)] else []) ≤ 1 := by split <;> simp [sizeBs]
      have h5 : (nodesF (X.length + 1) (chunkKeys X)).length * (64 + 1) ≤ 256 * 65 := Nat.mul_le_mul (by omega) (Nat.le_refl _)
      have h6 : X.length * (1024 + 1) ≤ 256 * 1025 := Nat.mul_le_mul (by omega) (Nat.le_refl _)
      omega
    · simp [sizeBs]
  · simp [sizeBs]

/-! ### The program -/
def SR.br (t : Int) (r : SR) : BR := ⟨t, r.d, r.data⟩
theorem run_mkEmptyB (w : World) : (Instr.build ty_impl_Blob #[(0, (.int .u8 3))]).run Tryz.prog w = .ok (.agg #[.int .u8 3, .slice none 0 0]) w := by kernel_rfl
theorem c_SL1 (s : Sl) (w : World) : Ret Tryz.prog n_impl_StoreList_1 [.slice s.a s.n s.c] w [.bool] (fun r _ => r = decide (s.n > 1024)) := impl_StoreList_1_calls _ (by
  unfold impl_StoreList_1
  exact r_ret (At.refl w) _ rfl (by rw [decide_eq_decide]; omega))
theorem c_longX {w : World} {s : Sl} {rs : List SR} (hs : SsR w s rs) (hmax : rs.length ≤ 1073741824) : Ret Tryz.prog n_slices_ContainsFunc_sl_sl_byte_sl_byte [.slice s.a s.n s.c, .func (.func n_impl_StoreList_1) #[] #[]] w [.bool] (fun r _ => r = !decide (shortX (rs.map SR.data))) := slices_ContainsFunc_sl_sl_byte_sl_byte_calls _ _ (by
  unfold slices_ContainsFunc_sl_sl_byte_sl_byte
  have hn := hs.n
  have hidx : Ret Tryz.prog n_slices_IndexFunc_sl_sl_byte_sl_byte [.slice s.a s.n s.c, .func (.func n_impl_StoreList_1) #[] #[]] w [.int .i64] (fun r _ => (shortX (rs.map SR.data) ∧ r = -1) ∨ (¬ shortX (rs.map SR.data) ∧ 0 ≤ r)) := slices_IndexFunc_sl_sl_byte_sl_byte_calls _ _ (by
    unfold slices_IndexFunc_sl_sl_byte_sl_byte
    refine r_loop (σ := Int) (fun i w' => ∃ j : Nat, i = j ∧ j ≤ rs.length ∧ (∀ r ∈ rs.take j, r.data.length ≤ 1024) ∧ At w w' []) (fun i _ => (s.n - i).toNat) 0 rfl ⟨0, rfl, by omega, by simp, At.refl w⟩ ?_
    rintro i w1 ⟨j, rfl, hj, hall, h⟩
    refine r_any fun _ => ?_
    refine r_if ((j : Int) < (s.n : Int)) rfl (fun hlt => ?_) (fun hge => ?_)
    · obtain ⟨r, p, hr, hrm, hp, hok, hld⟩ := (hs.at h).get (i := j) (by omega)
      have hrn := hok.n
      refine r_ix p hp (by omega) (by omega) ?_
      refine r_ldN r.d (by simp only [Int.toNat_natCast]; exact hld) ?_
      refine r_callV h (by kernel_rfl) (c_SL1 r.d _) fun r16 w2 h _ hr16 => ?_
      subst hr16
      by_cases hbig : r.d.n > 1024
      · refine r_true (decide_eq_true hbig) ?_
        refine r_ret h (j : Int) rfl (.inr ⟨fun hh => ?_, Int.natCast_nonneg j⟩)
        have := hh r.data (List.mem_map_of_mem hrm)
        omega
      · refine r_false (decide_eq_false hbig) ?_
        refine ⟨((j + 1 : Nat) : Int), by rw [w64 (by omega) (by omega)]; rfl, ⟨j + 1, rfl, by omega, fun x hx => ?_, h⟩, by omega⟩
        rw [take_succ_get hr] at hx
        rcases List.mem_append.1 hx with hx | hx
        · exact hall x hx
        · rw [List.mem_singleton.1 hx]; omega
    · have : j = rs.length := by omega
      subst this
      rw [List.take_of_length_le (Nat.le_refl _)] at hall
      refine r_ret h (-1 : Int) rfl (.inl ⟨fun c hc => ?_, rfl⟩)
      obtain ⟨r, hr, rfl⟩ := List.mem_map.1 hc
      exact hall r hr)
  refine r_call (At.refl w) hidx fun r7 w1 h _ hr => ?_
  refine r_ret h _ rfl ?_
  rcases hr with ⟨hs1, rfl⟩ | ⟨hs1, h0⟩
  · rw [decide_eq_true hs1]; rfl
  · rw [decide_eq_false hs1, decide_eq_true (show r7 ≥ 0 from h0)]; rfl)

theorem c_impl_StoreList {w : World} {r : Array Value} {s' : Sl} {B : List PB} {X : List (List Int)} (hr : RdStore w r B) (hx : RdByteSS w s' X) (hz : sizeBs B ≤ 1073741824) (hzx : sizeByteSS X ≤ 1073741824) :
    Ret Tryz.prog n_impl_StoreList [.agg r, .slice s'.a s'.n s'.c] w [.agg, .agg, .int .i64] (fun x w' => ∃ L, At w w' L ∧ OwnStore x.1 (stListAns B X).1 L ∧ RdKey w x.2.1 (stListAns B X).2.1 ∧ x.2.2 = (stListAns B X).2.2) := impl_StoreList_calls _ _ (by
  unfold impl_StoreList
  have hBok := hr.ok
  obtain ⟨s, bs, rfl, hpb, hs⟩ := hr
  obtain ⟨rs, hX, hss⟩ := hx
  have hl := le_sizeBs B
  have hbl : bs.length = B.length := by rw [← hpb]; simp
  have hXl : X.length = rs.length := by rw [← hX]; simp
  have hsn := hss.n
  unfold sizeByteSS at hzx
  refine r_new (At.refl w) fun b2 w1 h => ?_
  refine r_new h fun b4 w2 h => ?_
  refine r_new h fun b5 w3 h => ?_
  have h : At w w3 [(b5, Array.replicate 32 (.int .u8 0), ty_impl_Key), (b4, #[.slice none 0 0], ty_impl_Store), (b2, #[.slice s.a s.n s.c], ty_impl_Store)] := h
  have bad_ : ∀ {w' : World} {G : List PB × List Int × Int} {c : Int} {V : List Blk}, G = ([], zero32, c) → At w w' ([(b5, Array.replicate 32 (.int .u8 0), ty_impl_Key), (b4, #[.slice none 0 0], ty_impl_Store), (b2, #[.slice s.a s.n s.c], ty_impl_Store)] ++ V) →
      ((real Tryz.prog (RR w [.agg, .agg, .int .i64] (fun x w' => ∃ L, At w w' L ∧ OwnStore x.1 G.1 L ∧ RdKey w x.2.1 G.2.1 ∧ x.2.2 = G.2.2))).pur (Instr.build ty_impl_Store #[]) .agg fun y20 => (real Tryz.prog (RR w [.agg, .agg, .int .i64] (fun x w' => ∃ L, At w w' L ∧ OwnStore x.1 G.1 L ∧ RdKey w x.2.1 G.2.1 ∧ x.2.2 = G.2.2))).st 1 (Addr.mk b4 0 none) (.agg y20) <| (real Tryz.prog (RR w [.agg, .agg, .int .i64] (fun x w' => ∃ L, At w w' L ∧ OwnStore x.1 G.1 L ∧ RdKey w x.2.1 G.2.1 ∧ x.2.2 = G.2.2))).st 32 (Addr.mk b5 0 none) (.agg (Array.replicate 32 (.int .u8 0))) <| (real Tryz.prog (RR w [.agg, .agg, .int .i64] (fun x w' => ∃ L, At w w' L ∧ OwnStore x.1 G.1 L ∧ RdKey w x.2.1 G.2.1 ∧ x.2.2 = G.2.2))).ld .agg 1 (Addr.mk b4 0 none) fun z5 => (real Tryz.prog (RR w [.agg, .agg, .int .i64] (fun x w' => ∃ L, At w w' L ∧ OwnStore x.1 G.1 L ∧ RdKey w x.2.1 G.2.1 ∧ x.2.2 = G.2.2))).ld .agg 32 (Addr.mk b5 0 none) fun z6 => (real Tryz.prog (RR w [.agg, .agg, .int .i64] (fun x w' => ∃ L, At w w' L ∧ OwnStore x.1 G.1 L ∧ RdKey w x.2.1 G.2.1 ∧ x.2.2 = G.2.2))).ret (.tuple #[(.agg z5), (.agg z6), (.int .i64 c)]) : World → Prop) w' := by
    rintro w' _ c V rfl h
    refine r_pur (sh := .agg) _ run_noStore ?_
    refine r_stA h 1 rfl rfl rfl rfl (by simp [oneC]) fun w8 h => ?_
    refine r_stA h 0 rfl rfl (by simp) (by simp) (by simp [oneC]) fun w9 h => ?_
    refine r_ldA h 1 rfl rfl rfl ?_
    refine r_ldA h 0 rfl rfl (by simp) ?_
    exact r_ret h.nil (_, _, c) rfl ⟨[], h.nil, OwnStore.nil, ⟨rfl, zero32_ok⟩, rfl⟩
  refine r_if ((s'.n : Int) > 256) rfl (fun hgt => ?_) (fun hle => ?_)
  · exact bad_ (V := []) (by unfold stListAns; rw [if_pos (by omega)]) h
  have hans : stListAns B X = (if validS B ∧ shortX X then (if (putsAns B zero32 (stBlobs X)).2.2 = 0 then ((putsAns B zero32 (stBlobs X)).1, keyF (X.length + 1) (chunkKeys X), 0) else ([], zero32, (putsAns B zero32 (stBlobs X)).2.2)) else ([], zero32, 1)) := by unfold stListAns; rw [if_neg (by omega)]
  rw [hans]
  refine r_ldA h 2 rfl rfl rfl ?_
  refine r_call h (c_newShop (hs.at h) (by omega)) fun r24 w4 h4 _ hr => ?_
  rw [hpb] at hr
  refine r_joinI ?_
  rcases hr with ⟨hv, b, L, rfl, hL, hO⟩ | ⟨hv, rfl⟩
  · refine r_false rfl ?_
    have h : At w w4 (L ++ ([(b5, Array.replicate 32 (.int .u8 0), ty_impl_Key), (b4, #[.slice none 0 0], ty_impl_Store), (b2, #[.slice s.a s.n s.c], ty_impl_Store)] ++ [])) := h.join hL
    refine r_call h (c_longX (hss.at h) (by omega)) fun r31 w5 h _ hr31 => ?_
    rw [hX] at hr31
    subst hr31
    by_cases hsh : shortX X
    · rw [if_pos ⟨hv, hsh⟩]
      refine r_false (by rw [decide_eq_true hsh]; rfl) ?_
      refine ⟨(), rfl, ?_⟩
      refine r_any fun _ => ?_
      have hdl : ∀ x ∈ rs, x.data.length ≤ 1024 := fun x hx => hsh _ (by rw [← hX]; exact List.mem_map_of_mem hx)
      refine r_bs0 T_sl_Blob h fun y35 w6 hy hyn => ?_
      obtain ⟨Lb, hOb, h⟩ := hy.split
      refine r_bs0 T_sl_Key h fun y36 w7 hy2 hyn2 => ?_
      obtain ⟨Lk, hOk, h⟩ := hy2.split
      have h : At w w7 (Lk ++ (Lb ++ (L ++ ([(b5, Array.replicate 32 (.int .u8 0), ty_impl_Key), (b4, #[.slice none 0 0], ty_impl_Store), (b2, #[.slice s.a s.n s.c], ty_impl_Store)] ++ [])))) := h
      refine r_loop (σ := Sl × Sl × Int) (fun x w' => ∃ (j : Nat) (Lb Lk : List Blk), x.2.2 = j ∧ j ≤ rs.length ∧ At w w' (Lk ++ (Lb ++ (L ++ ([(b5, Array.replicate 32 (.int .u8 0), ty_impl_Key), (b4, #[.slice none 0 0], ty_impl_Store), (b2, #[.slice s.a s.n s.c], ty_impl_Store)] ++ [])))) ∧
          OwnS ty_impl_Blob 2 x.1 (((rs.take j).map (SR.br 1)).flatMap BR.cells) Lb ∧ x.1.n = j ∧ OwnS ty_impl_Key 32 x.2.1 ((chunkKeys (X.take j)).flatMap u8s) Lk ∧ x.2.1.n = j) (fun x _ => (s'.n - x.2.2).toNat) (y35, y36, 0) rfl
        ⟨0, Lb, Lk, rfl, by omega, h, by simpa using hOb, hyn, by simpa [chunkKeys] using hOk, hyn2⟩ ?_
      clear hOb hOk h hyn hyn2 hy hy2
      rintro ⟨sb, sk, i⟩ w8 ⟨j, Lb, Lk, hi, hj, h, hOb, hbn, hOk, hkn⟩
      dsimp only at hi hOb hbn hOk hkn
      subst hi
      refine r_any fun _ => ?_
      dsimp only
      refine r_if ((j : Int) < (s'.n : Int)) rfl (fun hlt => ?_) (fun hge => ?_)
      · obtain ⟨r, p, hr, hrm, hp, hok, hld⟩ := (hss.at h.nil).get (i := j) (by omega)
        have hxr := smap_get hX hr
        have hrd := hdl r hrm
        refine r_ix p hp (by omega) (by omega) ?_
        refine r_ldN r.d (by simp only [Int.toNat_natCast]; exact hld) ?_
        refine r_pur (sh := .agg) _ (run_mkBlob 1 r.d) ?_
        refine r_new h fun b13 w9 h => ?_
        refine r_stA h 0 rfl rfl rfl rfl (by simp [oneC]) fun w10 h => ?_
        have h : At w w10 ([(b13, (r.br 1).cells.toArray, ty_impl_Blob)] ++ (Lk ++ (Lb ++ (L ++ ([(b5, Array.replicate 32 (.int .u8 0), ty_impl_Key), (b4, #[.slice none 0 0], ty_impl_Store), (b2, #[.slice s.a s.n s.c], ty_impl_Store)] ++ []))))) := h
        refine r_draw h fun w11 h => ?_
        refine r_ldA h 0 rfl rfl rfl ?_
        refine r_ldA h 0 rfl rfl rfl ?_
        refine r_bs1 T_sl_Blob h rfl (by omega) fun y47 w12 hy hyn => ?_
        rw [show (Value.agg (r.br 1).cells.toArray).cells.toList = (r.br 1).cells by simp [Value.cells]] at hy
        obtain ⟨Ly, hOy, h⟩ := hy.split
        have h : At w w12 (Ly ++ ([(b13, (r.br 1).cells.toArray, ty_impl_Blob)] ++ (Lk ++ (Lb ++ (L ++ ([(b5, Array.replicate 32 (.int .u8 0), ty_impl_Key), (b4, #[.slice none 0 0], ty_impl_Store), (b2, #[.slice s.a s.n s.c], ty_impl_Store)] ++ [])))))) := h
        refine r_chk1 ?_ ?_
        · exact ldOk_blk h.pl1 0 rfl rfl
        refine r_append T_sl_Blob (hOb.slo h.pl3) (hOy.sl h (List.sublist_append_left _ _)) (cells_one _) (by omega) (by omega) fun y48 w13 hS hn48 => ?_
        obtain ⟨Lb', hOb', h⟩ := hS.split
        have h : At w w13 (Lb' ++ (Ly ++ ([(b13, (r.br 1).cells.toArray, ty_impl_Blob)] ++ (Lk ++ (L ++ ([(b5, Array.replicate 32 (.int .u8 0), ty_impl_Key), (b4, #[.slice none 0 0], ty_impl_Store), (b2, #[.slice s.a s.n s.c], ty_impl_Store)] ++ [])))))) := h
        refine r_chk1 ?_ ?_
        · exact ldOk_blk h.pl2 0 rfl rfl
        have h := h.dr1
        refine r_call h (c_Blob_key (b := r.br 1) ⟨(hss.at h.nil).ok r hrm, by show (0 : Int) ≤ 1; omega, by show (1 : Int) < 256; omega⟩ (by show r.data.length ≤ _; omega)) fun r51 w14 h _ hr51 => ?_
        subst hr51
        have hko := (r.br 1).pb.key_ok
        refine r_bs1 T_sl_Key h (by simp [Value.cells, hko.1]) (by omega) fun y52 w15 hy hyn52 => ?_
        rw [show (Value.agg (u8s (r.br 1).pb.key).toArray).cells.toList = u8s (r.br 1).pb.key by simp [Value.cells]] at hy
        obtain ⟨Lz, hOz, h⟩ := hy.split
        have h : At w w15 (Lz ++ (Lb' ++ ([(b13, (r.br 1).cells.toArray, ty_impl_Blob)] ++ (Lk ++ (L ++ ([(b5, Array.replicate 32 (.int .u8 0), ty_impl_Key), (b4, #[.slice none 0 0], ty_impl_Store), (b2, #[.slice s.a s.n s.c], ty_impl_Store)] ++ [])))))) := h
        refine r_append T_sl_Key (hOk.slo h.pl3) (hOz.sl h (List.sublist_append_left _ _)) u8s_one (by omega) (by omega) fun y53 w16 hS hn53 => ?_
        obtain ⟨Lk', hOk', h⟩ := hS.split
        have h : At w w16 (Lk' ++ (Lz ++ (Lb' ++ ([(b13, (r.br 1).cells.toArray, ty_impl_Blob)] ++ (L ++ ([(b5, Array.replicate 32 (.int .u8 0), ty_impl_Key), (b4, #[.slice none 0 0], ty_impl_Store), (b2, #[.slice s.a s.n s.c], ty_impl_Store)] ++ [])))))) := h
        refine ⟨(y48, y53, ((j + 1 : Nat) : Int)), by rw [w64 (by omega) (by omega)]; rfl, ⟨j + 1, Lb', Lk', rfl, by omega, h.dr1.dr2, ?_, by dsimp only; omega, ?_, by dsimp only; omega⟩, by dsimp only; omega⟩
        · rw [take_succ_get hr, List.map_append, List.flatMap_append]
          simpa using hOb'
        · have e : chunkKeys (X.take j ++ [r.data]) = chunkKeys (X.take j) ++ [(r.br 1).pb.key] := by unfold chunkKeys; rw [List.map_append]; rfl
          rw [take_succ_get hxr, e, List.flatMap_append, List.flatMap_singleton]
          exact hOk'
      · have hjl : j = rs.length := by omega
        subst hjl
        rw [List.take_of_length_le (Nat.le_refl _)] at hOb
        rw [List.take_of_length_le (by omega)] at hOk
        have kr : ∀ {w' : World} {V W : List Blk}, At w w' (V ++ (Lk ++ W)) → KsR w' sk (chunkKeys X) := fun {w' V W} h => ownS_ks hOk h ((List.sublist_append_left _ _).trans (List.sublist_append_right _ _)) (chunkKeys_ok X)
        refine r_call h (c_listBlobs (X.length + 1) (kr (V := []) h) (by rw [chunkKeys_len]; omega) (by rw [chunkKeys_len]; omega)) fun r57 w9 _ _ ⟨cs, Lc, Ld, hLc, hOc, hDc, hpc⟩ => ?_
        have h : At w w9 (Lc ++ (Ld ++ (Lk ++ (Lb ++ (L ++ ([(b5, Array.replicate 32 (.int .u8 0), ty_impl_Key), (b4, #[.slice none 0 0], ty_impl_Store), (b2, #[.slice s.a s.n s.c], ty_impl_Store)] ++ [])))))) := by simpa [List.append_assoc] using h.join hLc
        have hnl := nodesF_len (X.length + 1) (chunkKeys X)
        rw [chunkKeys_len, ← hpc, List.length_map] at hnl
        have hnc : r57.n = cs.length := by have := hOc.1; rw [flatMap_length (z := 2) (fun x _ => cells_len x)] at this; omega
        have one : ∀ cs : List BR, ∀ v ∈ cs.flatMap BR.cells, oneC v = true := fun cs v hv => by
          obtain ⟨c, _, hc⟩ := List.mem_flatMap.1 hv
          exact cells_one c v hc
        refine r_append T_sl_Blob (hOb.slo h.pl3) (hOc.sl h (List.sublist_append_left _ _)) (one _) (by omega) (by omega) fun y58 w10 hS hn58 => ?_
        obtain ⟨Lb', hOb', h⟩ := hS.split
        have h : At w w10 (Lb' ++ (Lc ++ (Ld ++ (Lk ++ (L ++ ([(b5, Array.replicate 32 (.int .u8 0), ty_impl_Key), (b4, #[.slice none 0 0], ty_impl_Store), (b2, #[.slice s.a s.n s.c], ty_impl_Store)] ++ [])))))) := h
        have h := h.dr1
        rw [← List.flatMap_append] at hOb'
        obtain ⟨es, hes⟩ : ∃ es : List BR, es = if X.length = 0 then [(⟨3, ⟨none, 0, 0⟩, []⟩ : BR)] else [] := ⟨_, rfl⟩
        refine r_join (σ := Sl) (fun y w' => ∃ Lb : List Blk, At w w' (Lb ++ (Ld ++ (Lk ++ (L ++ ([(b5, Array.replicate 32 (.int .u8 0), ty_impl_Key), (b4, #[.slice none 0 0], ty_impl_Store), (b2, #[.slice s.a s.n s.c], ty_impl_Store)] ++ []))))) ∧ OwnS ty_impl_Blob 2 y ((rs.map (SR.br 1) ++ cs ++ es).flatMap BR.cells) Lb) (fun y w11 hJ => ?_) ?_
        · obtain ⟨Lb, h, hOb⟩ := hJ
          refine r_any fun _ => ?_
          have hpm : (rs.map (SR.br 1) ++ cs ++ es).map BR.pb = stBlobs X := by
            unfold stBlobs
            rw [List.map_append, List.map_append, hpc, List.append_assoc, hes, ← hX, List.map_map, List.map_map]
            congr 2
            split <;> rfl
          have hlen : (rs.map (SR.br 1) ++ cs ++ es).length ≤ 1073741824 := by
            have : es.length ≤ 1 := by rw [hes]; split <;> simp
            simp only [List.length_append, List.length_map]
            omega
          have hcsb : ∀ b ∈ cs.map BR.pb, b.ok := fun b hb => by
            rw [hpc] at hb
            have := nodesF_ok _ _ (chunkKeys_ok X) b hb
            exact ⟨this.2.2, by omega, by omega⟩
          have h := h.pl3
          have hok3 : ∀ x ∈ rs.map (SR.br 1) ++ cs ++ es, (∀ w' : World, At w w' (Lb ++ (Ld ++ (Lk ++ ([(b5, Array.replicate 32 (.int .u8 0), ty_impl_Key), (b4, #[.slice none 0 0], ty_impl_Store), (b2, #[.slice s.a s.n s.c], ty_impl_Store)] ++ [])))) → x.Ok w') ∧ x.data.length ≤ 35184372088832 := fun x hx => by
            rcases List.mem_append.1 hx with hx | hx
            · rcases List.mem_append.1 hx with hx | hx
              · obtain ⟨y, hy, rfl⟩ := List.mem_map.1 hx
                exact ⟨fun w' hA => ⟨(hss.at hA.nil).ok y hy, by show (0 : Int) ≤ 1; omega, by show (1 : Int) < 256; omega⟩, by have := hdl y hy; show y.data.length ≤ _; omega⟩
              · refine ⟨fun w' hA => hDc.ok hA ((List.sublist_append_left _ _).trans (List.sublist_append_right _ _)) hcsb x hx, ?_⟩
                have hxp : x.pb ∈ nodesF (X.length + 1) (chunkKeys X) := by rw [← hpc]; exact List.mem_map_of_mem hx
                have := (nodesF_ok _ _ (chunkKeys_ok X) _ hxp).2.1
                show x.pb.data.length ≤ _
                omega
            · rw [hes] at hx
              split at hx
              · rw [List.mem_singleton.1 hx]
                exact ⟨fun w' _ => ⟨⟨⟨by simp [u8s], fun j v hv => by simp [u8s] at hv⟩, (by intro b hb; cases hb), Nat.le_refl _⟩, by show (0 : Int) ≤ 3; omega, by show (3 : Int) < 256; omega⟩, by show (0 : Nat) ≤ _; omega⟩
              · cases hx
          refine r_callR (c_impl_putAll h (List.sublist_append_left _ _) hO hpb (fun x hx w' hA => (hs.ok x hx).below hA.below) hOb hok3 hlen (good_of hv hBok)) ?_
          rw [hpm]
          generalize putsAns B zero32 (stBlobs X) = P
          rintro v w12 ⟨r, L', rfl, h, hOS, hko⟩
          refine ⟨(_, _, _), rfl, ?_⟩
          have h : At w w12 (L' ++ (Lb ++ (Ld ++ (Lk ++ ([(b5, Array.replicate 32 (.int .u8 0), ty_impl_Key), (b4, #[.slice none 0 0], ty_impl_Store), (b2, #[.slice s.a s.n s.c], ty_impl_Store)] ++ []))))) := h
          refine r_new h fun b14 w13 h => ?_
          refine r_new h fun b15 w14 h => ?_
          refine r_stA h 1 rfl rfl hOS.sz rfl hOS.one fun w15 h => ?_
          refine r_stA h 0 rfl rfl (by simp [hko.1]) (by simp [Value.cells]) (by simpa using u8s_one) fun w16 h => ?_
          have h : At w w16 ([(b15, (u8s P.2.1).toArray, ty_impl_Key), (b14, r, ty_impl_Store)] ++ (L' ++ (Lb ++ (Ld ++ (Lk ++ ([(b5, Array.replicate 32 (.int .u8 0), ty_impl_Key), (b4, #[.slice none 0 0], ty_impl_Store), (b2, #[.slice s.a s.n s.c], ty_impl_Store)] ++ [])))))) := h
          by_cases hc0 : P.2.2 = 0
          · refine r_ne (fun hne => absurd hc0 hne) (fun _ => ?_)
            rw [if_pos hc0]
            refine r_draw h fun w17 h => ?_
            refine r_ldA h 1 rfl rfl hOS.sz ?_
            have hk4 : KsR w17 sk (chunkKeys X) := ownS_ks hOk h ((List.sublist_append_left _ _).trans ((List.sublist_append_right _ _).trans ((List.sublist_append_right _ _).trans ((List.sublist_append_right _ _).trans (List.sublist_append_right _ _))))) (chunkKeys_ok X)
            refine r_call h (c_listKeyL (X.length + 1) hk4 (by rw [chunkKeys_len]; omega) (by rw [chunkKeys_len]; omega)) fun r80 w18 h _ hr80 => ?_
            subst hr80
            have hrk := keyF_ok (X.length + 1) (chunkKeys X) (chunkKeys_ok X)
            generalize keyF (X.length + 1) (chunkKeys X) = RK at hrk ⊢
            refine r_chk1 ?_ ?_
            · exact ldOk_blk h 1 rfl hOS.sz
            have h := h.pl5
            refine r_stA h 1 rfl rfl hOS.sz rfl hOS.one fun w19 h => ?_
            refine r_stA h 0 rfl rfl (by simp [hrk.1]) (by simp) (by simpa using u8s_one) fun w20 h => ?_
            refine r_ldA h 1 rfl rfl hOS.sz ?_
            refine r_ldA h 0 rfl rfl (by simp [hrk.1]) ?_
            have h : At w w20 ([(b5, (u8s RK).toArray, ty_impl_Key), (b4, r, ty_impl_Store), (b2, #[.slice s.a s.n s.c], ty_impl_Store)] ++ ([(b15, (u8s P.2.1).toArray, ty_impl_Key), (b14, r, ty_impl_Store)] ++ (L' ++ (Lb ++ (Ld ++ (Lk ++ [])))))) := h
            exact r_ret h.nil (r, _, (0 : Int)) rfl ⟨L', h.right.right.left, hOS, ⟨rfl, hrk⟩, rfl⟩
          · refine r_ne (fun _ => ?_) (fun heq => absurd heq hc0)
            rw [if_neg hc0]
            exact bad_ rfl h.pl5
        · refine r_eq (fun h0 => ?_) (fun h0 => ?_)
          · refine r_pur (sh := .agg) _ run_mkEmptyB ?_
            refine r_bs1 T_sl_Blob h rfl (by omega) fun y64 w11 hy hyn => ?_
            obtain ⟨Ly, hOy, h⟩ := hy.split
            refine r_append T_sl_Blob (hOb'.slo h.pl1) (hOy.sl h (List.sublist_append_left _ _)) (by simp [Value.cells, oneC]) (by omega) (by omega) fun y65 w12 hS hn65 => ?_
            obtain ⟨Lb2, hOb2, h⟩ := hS.split
            have h : At w w12 (Lb2 ++ (Ly ++ (Ld ++ (Lk ++ (L ++ ([(b5, Array.replicate 32 (.int .u8 0), ty_impl_Key), (b4, #[.slice none 0 0], ty_impl_Store), (b2, #[.slice s.a s.n s.c], ty_impl_Store)] ++ [])))))) := h
            refine ⟨y65, rfl, Lb2, h.dr1, ?_⟩
            rw [hes, if_pos (by omega), List.flatMap_append]
            simpa [Value.cells, BR.cells] using hOb2
          · refine ⟨y58, rfl, Lb', h, ?_⟩
            rw [hes, if_neg (by omega), List.append_nil]
            exact hOb'
    · rw [if_neg (fun hh => hsh hh.2)]
      refine r_true (by rw [decide_eq_false hsh]; rfl) ?_
      exact bad_ rfl h.pl1
  · refine r_true rfl ?_
    rw [if_neg (fun hh => hv hh.1)]
    exact bad_ (V := []) rfl h4)
end Go.Proofs.YtffedfdhhglmkaaGreat
