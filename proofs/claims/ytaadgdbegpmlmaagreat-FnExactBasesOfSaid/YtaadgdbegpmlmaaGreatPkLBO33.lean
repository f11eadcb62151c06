/- History: BasesOf: both sides. -/
import Derived.Test.YtaadgdbegpmlmaaGreatPkLBO32
namespace Go.Proofs.YtaadgdbegpmlmaaGreat
open Go.Sx Go.RowKit

/-- Whether a function says yes of a key that is there. -/
theorem c_ContainsFK {w0 w : World} {ls : List Blk} {s : Sl} {ks : List (List Int)} (hA : At w0 w ls) (hs : KsR w s ks) (hmax : ks.length ≤ 1073741824) {g : FuncId} {cap : Array Value} (hg : isGo Tryz.prog g = true) (f : List Int → Bool)
    (hf : ∀ (w' : World) (k : List Int), At w0 w' ls → k ∈ ks → keyOk k → Ret Tryz.prog g ((#[] : Array Value).toList ++ [.agg (u8s k).toArray] ++ cap.toList) w' [.bool] (fun r _ => r = f k)) :
    Ret Tryz.prog n_slices_ContainsFunc_sl_impl_Key_impl_Key [.slice s.a s.n s.c, .func (.func g) #[] cap] w [.bool] (fun x _ => x = ks.any f) := slices_ContainsFunc_sl_impl_Key_impl_Key_calls _ _ (by
  unfold slices_ContainsFunc_sl_impl_Key_impl_Key
  have ix : Ret Tryz.prog n_slices_IndexFunc_sl_impl_Key_impl_Key [.slice s.a s.n s.c, .func (.func g) #[] cap] w [.int .i64] (fun r _ => (0 ≤ r ∧ ks.any f = true) ∨ (r = -1 ∧ ks.any f = false)) := slices_IndexFunc_sl_impl_Key_impl_Key_calls _ _ (by
    unfold slices_IndexFunc_sl_impl_Key_impl_Key
    have hn := hs.n
    refine r_loop (σ := Int) (fun i w' => ∃ j : Nat, i = j ∧ j ≤ ks.length ∧ (∀ x ∈ ks.take j, f x = false) ∧ At w w' []) (fun i _ => (s.n - i).toNat) 0 rfl ⟨0, rfl, by omega, by simp, At.refl w⟩ ?_
    rintro i w1 ⟨j, rfl, hj, hpre, h⟩
    refine r_any fun _ => ?_
    refine r_if ((j : Int) < (s.n : Int)) rfl (fun hlt => ?_) (fun hge => ?_)
    · obtain ⟨k, q, hk, hkm, hq, hko, hkl⟩ := (hs.at h).get (i := j) (by omega)
      refine r_ix q hq (by omega) (by omega) ?_
      refine r_ldN (u8s k).toArray (by simp only [Int.toNat_natCast]; exact hkl) ?_
      refine r_callV h hg (hf w1 k (hA.trans h.below) hkm hko) fun x w2 h2 _ hx => ?_
      subst hx
      refine r_cond (fun ht => ?_) (fun ht => ?_)
      · exact r_ret h2 (j : Int) rfl (.inl ⟨by show (0 : Int) ≤ j; omega, List.any_eq_true.2 ⟨k, hkm, ht⟩⟩)
      · refine ⟨((j + 1 : Nat) : Int), by rw [w64 (by omega) (by omega)]; rfl, ⟨j + 1, rfl, by omega, ?_, h2⟩, by omega⟩
        rw [take_succ_get hk]
        intro x hx
        rcases List.mem_append.1 hx with hx | hx
        · exact hpre x hx
        · rw [List.mem_singleton.1 hx]; exact ht
    · have : j = ks.length := by omega
      subst this
      rw [List.take_of_length_le (Nat.le_refl _)] at hpre
      exact r_ret h (-1 : Int) rfl (.inr ⟨rfl, List.any_eq_false.2 fun x hx => by rw [hpre x hx]; simp⟩))
  refine r_call (At.refl w) ix fun r w1 h _ hr => ?_
  rcases hr with ⟨h0, ht⟩ | ⟨rfl, hf0⟩
  · exact r_ret h _ rfl (by rw [ht]; exact decide_eq_true h0)
  · exact r_ret h _ rfl (by rw [hf0]; rfl))

def bothB (b : PBk) (a k : List Int) : List (List Int) := (ancB b a).filter fun x => decide (x ∈ ancB b k)
def belowB (b : PBk) (ks : List (List Int)) (x : List Int) : Bool := ks.any fun y => decide (x ≠ y) && decide (x ∈ ancB b y)
theorem basesB_eq (b : PBk) (a k : List Int) : basesB b a k = (bothB b a k).filter fun x => !belowB b (bothB b a k) x := rfl
theorem bothB_sub {b : PBk} (hv : validB b) {a k x : List Int} (ha : a ∈ keysB b) (hx : x ∈ bothB b a k) : x ∈ keysB b := ancB_sub hv ha (List.mem_filter.1 hx).1
theorem bothB_len {b : PBk} (hv : validB b) {a : List Int} (ha : a ∈ keysB b) (k : List Int) : (bothB b a k).length ≤ 40 := Nat.le_trans (List.length_filter_le _ _) (ancB_len hv ha)
theorem bothB_nodup (b : PBk) (a k : List Int) : (bothB b a k).Nodup := (ancB_asc b a).nodup.sublist List.filter_sublist
theorem basesB_len {b : PBk} (hv : validB b) {a : List Int} (ha : a ∈ keysB b) (k : List Int) : (basesB b a k).length ≤ 40 := Nat.le_trans (List.length_filter_le _ _) (bothB_len hv ha k)
theorem basesAns_small (b : PBk) (a k : List Int) : sizeKeyS (basesAns b a k).1 ≤ 40 := by
  unfold basesAns
  split
  · rename_i h
    unfold openCode at h
    split at h
    · rename_i hv
      split at h
      · rename_i hk
        exact basesB_len hv (hk a (by simp)) k
      · cases h
    · cases h
  · simp [sizeKeyS]
theorem basesAns_msmall (b : PBk) (a k : List Int) : msizeKeyS (basesAns b a k).1 ≤ 1280 := by
  have := basesAns_small b a k
  unfold sizeKeyS at this
  unfold msizeKeyS
  omega

theorem go_bases_1 : isGo Tryz.prog n_ptr_impl_ledger_bases_1 = true := by kernel_rfl
theorem go_bases_2 : isGo Tryz.prog n_ptr_impl_ledger_bases_2 = true := by kernel_rfl
theorem go_bases_2_1 : isGo Tryz.prog n_ptr_impl_ledger_bases_2_1 = true := by kernel_rfl
theorem c_bases_1 {w : World} {p : Addr} {s : Sl} {ks : List (List Int)} {k : List Int} (hp : ldOk w 1 p .slice s) (hs : KsR w s ks) (hm : ks.length ≤ 1073741824) (hk : keyOk k) :
    Ret Tryz.prog n_ptr_impl_ledger_bases_1 [.agg (u8s k).toArray, .pointer (some p)] w [.bool] (fun x _ => x = !decide (k ∈ ks)) := ptr_impl_ledger_bases_1_calls _ _ (by
  unfold ptr_impl_ledger_bases_1
  refine r_new (At.refl w) fun b2 w1 h => ?_
  have h : At w w1 [(b2, (u8s k).toArray, ty_impl_Key)] := h
  refine r_ldN s (ldOk_below h.below hp) ?_
  refine r_ldA h 0 rfl rfl (by simp [hk.1]) ?_
  refine r_call h (c_ContainsK (hs.at h) hk hm) fun x w2 h2 _ hx => ?_
  subst hx
  exact r_ret h2.nil _ rfl rfl)
theorem c_bases_2_1 {w : World} {p q pl : Addr} {rs : List CR} {ms : List ER} {b : PBk} {x y : List Int} (hp : ldOk w 32 p .agg (u8s x).toArray) (hq : ldOk w 1 q .ptr pl) (hl : LedR w pl rs ms (keysB b)) (hX : rs.map CR.pc = b.cms) (hv : validB b) (hx : keyOk x) (hy : y ∈ keysB b) :
    Ret Tryz.prog n_ptr_impl_ledger_bases_2_1 [.agg (u8s y).toArray, .pointer (some p), .pointer (some q)] w [.bool] (fun r _ => r = (decide (x ≠ y) && decide (x ∈ ancB b y))) := ptr_impl_ledger_bases_2_1_calls _ _ _ (by
  unfold ptr_impl_ledger_bases_2_1
  have hyo := keysB_ok b y hy
  refine r_new (At.refl w) fun b3 w1 h => ?_
  have h : At w w1 [(b3, (u8s y).toArray, ty_impl_Key)] := h
  refine r_ldN _ (ldOk_below h.below hp) ?_
  refine r_ldA h 0 rfl rfl (by simp [hyo.1]) ?_
  refine r_rootEq hx.1 hyo.1 (fun hne => ?_) (fun heq => ?_)
  · refine r_ldN (sh := .ptr) pl (ldOk_below h.below hq) ?_
    refine r_ldN _ (ldOk_below h.below hp) ?_
    refine r_ldA h 0 rfl rfl (by simp [hyo.1]) ?_
    refine r_call h (c_led_isAncestor (hl.at h) hX hv hx hy) fun r w2 h2 _ hr => ?_
    subst hr
    exact r_ret h2.nil _ rfl (by rw [decide_eq_true hne, Bool.true_and])
  · exact r_ret h.nil false rfl (by rw [decide_eq_false (fun hh => hh heq), Bool.false_and]))
theorem c_bases_2 {w : World} {p q pl : Addr} {s : Sl} {ks : List (List Int)} {rs : List CR} {ms : List ER} {b : PBk} {x : List Int} (hp : ldOk w 1 p .slice s) (hs : KsR w s ks) (hm : ks.length ≤ 1073741824) (hq : ldOk w 1 q .ptr pl) (hl : LedR w pl rs ms (keysB b)) (hX : rs.map CR.pc = b.cms) (hv : validB b) (hin : ∀ k ∈ ks, k ∈ keysB b) (hx : keyOk x) :
    Ret Tryz.prog n_ptr_impl_ledger_bases_2 [.agg (u8s x).toArray, .pointer (some p), .pointer (some q)] w [.bool] (fun r _ => r = belowB b ks x) := ptr_impl_ledger_bases_2_calls _ _ _ (by
  unfold ptr_impl_ledger_bases_2
  refine r_new (At.refl w) fun b3 w1 h => ?_
  have h : At w w1 [(b3, (u8s x).toArray, ty_impl_Key)] := h
  refine r_ldN s (ldOk_below h.below hp) ?_
  refine r_call h (c_ContainsFK (At.refl w1) (hs.at h) hm go_bases_2_1 (fun y => decide (x ≠ y) && decide (x ∈ ancB b y)) (fun w' k hA hk hko => ?_)) fun r w2 h2 _ hr => ?_
  · have h' : At w w' [(b3, (u8s x).toArray, ty_impl_Key)] := h.trans hA.below
    exact c_bases_2_1 (ldOk_blk h' 0 rfl (by simp [hx.1])) (ldOk_below h'.below hq) (hl.at h') hX hv hx (hin k hk)
  · subst hr
    exact r_ret h2.nil _ rfl rfl)

theorem c_led_bases {w : World} {p : Addr} {rs : List CR} {ms : List ER} {b : PBk} {a k : List Int} (hp : LedR w p rs ms (keysB b)) (hX : rs.map CR.pc = b.cms) (hv : validB b) (ha : a ∈ keysB b) (hk : k ∈ keysB b) :
    Ret Tryz.prog n_ptr_impl_ledger_bases [.pointer (some p), .agg (u8s a).toArray, .agg (u8s k).toArray] w [.slice] (fun r w' => SlO w w' [] ty_impl_Key 32 r ((basesB b a k).flatMap u8s) ∧ r.n = (basesB b a k).length) := ptr_impl_ledger_bases_calls _ _ _ (by
  unfold ptr_impl_ledger_bases
  have hao := keysB_ok b a ha
  have hko := keysB_ok b k hk
  have hal := ancB_len hv ha
  have hkl := ancB_len hv hk
  refine r_new (At.refl w) fun b3 w1 h => ?_
  refine r_new h fun b4 w2 h => ?_
  refine r_new h fun b5 w3 h => ?_
  have h : At w w3 ([(b5, (u8s k).toArray, ty_impl_Key), (b4, (u8s a).toArray, ty_impl_Key), (b3, #[.pointer (some p)], ty_ptr_impl_ledger)] ++ []) := h
  refine r_ld h 2 (sh := .ptr) (o := 0) rfl rfl p (by simp [Sh.emb]) rfl ?_
  refine r_ldA h 0 rfl rfl (by simp [hko.1]) ?_
  refine r_call h (c_led_ancestors (hp.at h) hX hv hk) fun r11 w4 _ _ ⟨hS, hn⟩ => ?_
  have hS := SlO.lift h hS
  obtain ⟨Ly, hOy, h⟩ := hS.split
  refine r_new h fun b7 w5 h => ?_
  refine r_st h 0 (o := 0) rfl rfl (by simp [Value.cells]) rfl fun w6 h => ?_
  have h : At w w6 ([(b7, #[.slice r11.a r11.n r11.c], ty_sl_impl_Key)] ++ (Ly ++ ([(b5, (u8s k).toArray, ty_impl_Key), (b4, (u8s a).toArray, ty_impl_Key), (b3, #[.pointer (some p)], ty_ptr_impl_ledger)] ++ []))) := h
  refine r_ld h.pl2 2 (sh := .ptr) (o := 0) rfl rfl p (by simp [Sh.emb]) rfl ?_
  refine r_ldA h.pl2 1 rfl rfl (by simp [hao.1]) ?_
  refine r_call h (c_led_ancestors (hp.at h) hX hv ha) fun r14 w7 _ _ ⟨hS, hn14⟩ => ?_
  have hS := SlO.lift h hS
  have hoka : ∀ x ∈ ancB b a, keyOk x := fun x hx => keysB_ok b x (ancB_sub hv ha hx)
  have hokk : ∀ x ∈ ancB b k, keyOk x := fun x hx => keysB_ok b x (ancB_sub hv hk hx)
  refine r_callR (c_DeleteFunc hS hoka hn14 (by omega) go_bases_1 (fun x => !decide (x ∈ ancB b k)) (fun w' x hA hx => ?_)) ?_
  · have hl : ldOk w' 1 (⟨b7, 0, none⟩ : Addr) .slice r11 := ldOk_own (sh := .slice) hA 0 rfl 0 rfl (by simp [Sh.emb])
    exact c_bases_1 hl (ownS_ks hOy hA ((List.sublist_append_left _ _).trans (List.sublist_append_right _ _)) hokk) (by omega) hx
  rintro v w8 ⟨r16, rfl, hS, hn16⟩
  refine ⟨r16, rfl, ?_⟩
  have hfe : ((ancB b a).filter fun x => !(!decide (x ∈ ancB b k))) = bothB b a k := by
    unfold bothB
    congr 1
    funext x
    simp
  rw [hfe] at hS hn16
  obtain ⟨Lb, hOb, h⟩ := hS.split
  have hbl := bothB_len hv ha k
  have hbo : ∀ x ∈ bothB b a k, keyOk x := fun x hx => keysB_ok b x (bothB_sub hv ha hx)
  refine r_new h fun b8 w9 h => ?_
  refine r_st h 0 (o := 0) rfl rfl (by simp [Value.cells]) rfl fun w10 h => ?_
  have h : At w w10 ([(b8, #[.slice r16.a r16.n r16.c], ty_sl_impl_Key)] ++ (Lb ++ ([(b7, #[.slice r11.a r11.n r11.c], ty_sl_impl_Key)] ++ (Ly ++ ([(b5, (u8s k).toArray, ty_impl_Key), (b4, (u8s a).toArray, ty_impl_Key), (b3, #[.pointer (some p)], ty_ptr_impl_ledger)] ++ []))))) := h
  refine r_ld h 0 (sh := .slice) (o := 0) rfl rfl r16 (by simp [Sh.emb]) rfl ?_
  have both : ∀ {v : World}, At w v ([(b8, #[.slice r16.a r16.n r16.c], ty_sl_impl_Key)] ++ (Lb ++ ([(b7, #[.slice r11.a r11.n r11.c], ty_sl_impl_Key)] ++ (Ly ++ ([(b5, (u8s k).toArray, ty_impl_Key), (b4, (u8s a).toArray, ty_impl_Key), (b3, #[.pointer (some p)], ty_ptr_impl_ledger)] ++ []))))) → KsR v r16 (bothB b a k) := fun h => ownS_ks hOb h ((List.sublist_append_left _ _).trans (List.sublist_append_right _ _)) hbo
  refine r_call h (c_CloneKeys (both h) (by omega)) fun r18 w11 _ _ ⟨hS, hn18⟩ => ?_
  have hS := SlO.lift h hS
  refine r_callR (c_DeleteFunc hS hbo hn18 (by omega) go_bases_2 (fun x => belowB b (bothB b a k) x) (fun w' x hA hx => ?_)) ?_
  · have hl : ldOk w' 1 (⟨b8, 0, none⟩ : Addr) .slice r16 := ldOk_own (sh := .slice) hA 0 rfl 0 rfl (by simp [Sh.emb])
    have hq : ldOk w' 1 (⟨b3, 0, none⟩ : Addr) .ptr p := ldOk_own (sh := .ptr) hA.pl4 2 rfl 0 rfl (by simp [Sh.emb])
    exact c_bases_2 hl (both hA) (by omega) hq (hp.at hA) hX hv (fun y hy => bothB_sub hv ha hy) hx
  rintro v w12 ⟨r20, rfl, hS, hn20⟩
  refine ⟨r20, rfl, ?_⟩
  exact r_ret hS.at_.nil r20 rfl ⟨hS.base, hn20⟩)

theorem c_impl_BasesOf {w : World} {r q q' : Array Value} {b : PBk} {a k : List Int} (hr : RdBook w r b) (hqa : RdKey w q a) (hq : RdKey w q' k) (hz : sizeBook b ≤ 1073741824) :
    Ret Tryz.prog n_impl_BasesOf [.agg r, .agg q, .agg q'] w [.slice, .int .i64] (fun x w' => ∃ L, At w w' L ∧ OwnKeyS x.1 (basesAns b a k).1 L ∧ x.2 = (basesAns b a k).2) := impl_BasesOf_calls _ _ _ (by
  unfold impl_BasesOf
  obtain ⟨rfl, ha⟩ := hqa
  obtain ⟨rfl, hk⟩ := hq
  obtain ⟨s, t, rfl, ⟨rs, hX, hs⟩, ⟨ms, hM, ht⟩⟩ := hr
  refine r_new (At.refl w) fun b3 w1 h => ?_
  refine r_new h fun b4 w2 h => ?_
  refine r_new h fun b5 w3 h => ?_
  have h : At w w3 [(b5, (u8s k).toArray, ty_impl_Key), (b4, (u8s a).toArray, ty_impl_Key), (b3, bkC s t, ty_impl_Book)] := h
  refine r_ldA h 2 rfl rfl rfl ?_
  refine r_ldA h 1 rfl rfl (by simp [ha.1]) ?_
  refine r_ldA h 0 rfl rfl (by simp [hk.1]) ?_
  refine r_bs2 T_sl_Key h (by simp [Value.cells, ha.1]) (by simp [Value.cells, hk.1]) (by omega) fun y14 w4 hy hyn => ?_
  refine r_call hy.at_ (c_open (hs.at hy.at_) (ht.at hy.at_) hX hM (KsR.two hy ha hk) hz (by simp)) fun r15 w5 h _ ⟨h1, h2⟩ => ?_
  obtain ⟨o, c⟩ := r15
  dsimp only at h1 h2 ⊢
  subst h1
  refine r_ne (fun hne => ?_) (fun heq => ?_)
  · exact r_ret h.nil (⟨none, 0, 0⟩, openCode b [a, k]) rfl ⟨[], h.nil, by unfold basesAns; rw [if_neg hne]; exact ⟨OwnKeyS.none, rfl⟩⟩
  · obtain ⟨hv, hin, bl, L, rfl, hL, hO⟩ := h2 heq
    have hkK := hin k (by simp)
    have haK := hin a (by simp)
    refine r_ldA h 1 rfl rfl (by simp [ha.1]) ?_
    refine r_ldA h 0 rfl rfl (by simp [hk.1]) ?_
    refine r_call h (c_led_bases (hO.rd hL (List.Sublist.refl _) (hs.at h) (ht.at h)) hX hv haK hkK) fun r24 w6 _ _ ⟨hS, hn⟩ => ?_
    obtain ⟨Lr, hA, hOr⟩ := slO_ownKeyS (SlO.lift h hS).base (fun x hx => keysB_ok b x (bothB_sub hv haK (List.mem_filter.1 hx).1))
    exact r_ret hA.nil (r24, 0) rfl ⟨Lr, hA, by unfold basesAns; rw [if_pos heq]; exact ⟨hOr, rfl⟩⟩)
end Go.Proofs.YtaadgdbegpmlmaaGreat
