/- History: BasesOf: both sides. History: a book with a further commit is valid; commit's chains of ways; bases. Plain. -/
import Derived.Test.YtkifkdkjljcclaaGreatPkLAnc38
import Derived.Test.YtkifkdkjljcclaaGreatPkLAnc36
namespace Go.Proofs.YtkifkdkjljcclaaGreat
open Go.Sx Go.RowKit

theorem c_ContainsFK {w0 w : World} {ls : List Blk} {s : Sl} {ks : List (List Int)} (hA : At w0 w ls) (hs : KsR w s ks) (hmax : ks.length ≤ 1073741824) {g : FuncId} {cap : Array Value} (hg : isGo Tryz.prog g = true) (f : List Int → Bool)
    (hf : ∀ (w' : World) (k : List Int), At w0 w' ls → k ∈ ks → keyOk k → Ret Tryz.prog g ((#[] : Array Value).toList ++ [.agg (u8s k).toArray] ++ cap.toList) w' [.bool] (fun r _ => r = f k)) :
    Ret Tryz.prog n_slices_ContainsFunc_sl_impl_Key_impl_Key [.slice s.a s.n s.c, .func (.func g) #[] cap] w [.bool] (fun x _ => x = ks.any f) := slices_ContainsFunc_sl_impl_Key_impl_Key_calls _ _ (by
  unfold slices_ContainsFunc_sl_impl_Key_impl_Key
  have ix : Ret Tryz.prog n_slices_IndexFunc_sl_impl_Key_impl_Key [.slice s.a s.n s.c, .func (.func g) #[] cap] w [.int .i64] (fun r _ => (0 ≤ r ∧ ks.any f = true) ∨ (r = -1 ∧ ks.any f = false)) := slices_IndexFunc_sl_impl_Key_impl_Key_calls _ _ (by
    unfold slices_IndexFunc_sl_impl_Key_impl_Key
    have hn := hs.n
    refine r_loop (σ := Int) (fun i w' => ∃ j : Nat, i = j ∧ j ≤ ks.length ∧ (∀ x ∈ ks.take j, f x = false) ∧ At w w' []) (fun i _ => (s.n - i).toNat) 0 rfl ⟨0, rfl, by omega, by simp, At.refl w⟩ ?_
    rintro i w1 ⟨j, rfl, hj, hpre, h⟩
    refine r_any fun _ => ?_
    refine r_if ((j : Int) < (s.n : Int)) rfl (fun hlt => ?_) (fun hge => ?_)
    · obtain ⟨k, q, hk, hkm, hq, hko, hkl⟩ := (hs.at h).get (i := j) (by omega)
      refine r_ix q hq (by omega) (by omega) ?_
      refine r_ldN (u8s k).toArray (by simp only [Int.toNat_natCast]; exact hkl) ?_
      refine r_callV h hg (hf w1 k (hA.trans h.below) hkm hko) fun x w2 h2 _ hx => ?_
      subst hx
      refine r_cond (fun ht => ?_) (fun ht => ?_)
      · exact r_ret h2 (j : Int) rfl (.inl ⟨by show (0 : Int) ≤ j; omega, List.any_eq_true.2 ⟨k, hkm, ht⟩⟩)
      · refine ⟨((j + 1 : Nat) : Int), by rw [w64 (by omega) (by omega)]; rfl, ⟨j + 1, rfl, by omega, ?_, h2⟩, by omega⟩
        rw [take_succ_get hk]
        intro x hx
        rcases List.mem_append.1 hx with hx | hx
        · exact hpre x hx
        · rw [List.mem_singleton.1 hx]; exact ht
    · have : j = ks.length := by omega
      subst this
      rw [List.take_of_length_le (Nat.le_refl _)] at hpre
      exact r_ret h (-1 : Int) rfl (.inr ⟨rfl, List.any_eq_false.2 fun x hx => by rw [hpre x hx]; simp⟩))
  refine r_call (At.refl w) ix fun r w1 h _ hr => ?_
  rcases hr with ⟨h0, ht⟩ | ⟨rfl, hf0⟩
  · exact r_ret h _ rfl (by rw [ht]; exact decide_eq_true h0)
  · exact r_ret h _ rfl (by rw [hf0]; rfl))

def bothB (b : PBk) (a k : List Int) : List (List Int) := (ancB b a).filter fun x => decide (x ∈ ancB b k)
def belowB (b : PBk) (ks : List (List Int)) (x : List Int) : Bool := ks.any fun y => decide (x ≠ y) && decide (x ∈ ancB b y)
theorem basesB_eq (b : PBk) (a k : List Int) : basesB b a k = (bothB b a k).filter fun x => !belowB b (bothB b a k) x := rfl
theorem bothB_sub {b : PBk} (hv : validB b) {a k x : List Int} (ha : a ∈ keysB b) (hx : x ∈ bothB b a k) : x ∈ keysB b := ancB_sub hv ha (List.mem_filter.1 hx).1
theorem bothB_len {b : PBk} (hv : validB b) {a : List Int} (ha : a ∈ keysB b) (k : List Int) : (bothB b a k).length ≤ 40 := Nat.le_trans (List.length_filter_le _ _) (ancB_len hv ha)
theorem basesB_len {b : PBk} (hv : validB b) {a : List Int} (ha : a ∈ keysB b) (k : List Int) : (basesB b a k).length ≤ 40 := Nat.le_trans (List.length_filter_le _ _) (bothB_len hv ha k)
theorem go_bases_1 : isGo Tryz.prog n_ptr_impl_ledger_bases_1 = true := by kernel_rfl
theorem go_bases_2 : isGo Tryz.prog n_ptr_impl_ledger_bases_2 = true := by kernel_rfl
theorem go_bases_2_1 : isGo Tryz.prog n_ptr_impl_ledger_bases_2_1 = true := by kernel_rfl
theorem c_bases_1 {w : World} {p : Addr} {s : Sl} {ks : List (List Int)} {k : List Int} (hp : ldOk w 1 p .slice s) (hs : KsR w s ks) (hm : ks.length ≤ 1073741824) (hk : keyOk k) :
    Ret Tryz.prog n_ptr_impl_ledger_bases_1 [.agg (u8s k).toArray, .pointer (some p)] w [.bool] (fun x _ => x = !decide (k ∈ ks)) := ptr_impl_ledger_bases_1_calls _ _ (by
  unfold ptr_impl_ledger_bases_1
  refine r_new (At.refl w) fun b2 w1 h => ?_
  have h : At w w1 [(b2, (u8s k).toArray, ty_impl_Key)] := h
  refine r_ldN s (ldOk_below h.below hp) ?_
  refine r_ldA h 0 rfl rfl (by simp [hk.1]) ?_
  refine r_call h (c_ContainsK (hs.at h) hk hm) fun x w2 h2 _ hx => ?_
  subst hx
  exact r_ret h2.nil _ rfl rfl)
theorem c_bases_2_1 {w : World} {p q pl : Addr} {rs : List CR} {ms : List ER} {b : PBk} {x y : List Int} (hp : ldOk w 32 p .agg (u8s x).toArray) (hq : ldOk w 1 q .ptr pl) (hl : LedR w pl rs ms (keysB b)) (hX : rs.map CR.pc = b.cms) (hv : validB b) (hx : keyOk x) (hy : y ∈ keysB b) :
    Ret Tryz.prog n_ptr_impl_ledger_bases_2_1 [.agg (u8s y).toArray, .pointer (some p), .pointer (some q)] w [.bool] (fun r _ => r = (decide (x ≠ y) && decide (x ∈ ancB b y))) := ptr_impl_ledger_bases_2_1_calls _ _ _ (by
  unfold ptr_impl_ledger_bases_2_1
  have hyo := keysB_ok b y hy
  refine r_new (At.refl w) fun b3 w1 h => ?_
  have h : At w w1 [(b3, (u8s y).toArray, ty_impl_Key)] := h
  refine r_ldN _ (ldOk_below h.below hp) ?_
  refine r_ldA h 0 rfl rfl (by simp [hyo.1]) ?_
  refine r_rootEq hx.1 hyo.1 (fun hne => ?_) (fun heq => ?_)
  · refine r_ldN (sh := .ptr) pl (ldOk_below h.below hq) ?_
    refine r_ldN _ (ldOk_below h.below hp) ?_
    refine r_ldA h 0 rfl rfl (by simp [hyo.1]) ?_
    refine r_call h (c_led_isAncestor (hl.at h) hX hv hx hy) fun r w2 h2 _ hr => ?_
    subst hr
    exact r_ret h2.nil _ rfl (by rw [decide_eq_true hne, Bool.true_and])
  · exact r_ret h.nil false rfl (by rw [decide_eq_false (fun hh => hh heq), Bool.false_and]))
theorem c_bases_2 {w : World} {p q pl : Addr} {s : Sl} {ks : List (List Int)} {rs : List CR} {ms : List ER} {b : PBk} {x : List Int} (hp : ldOk w 1 p .slice s) (hs : KsR w s ks) (hm : ks.length ≤ 1073741824) (hq : ldOk w 1 q .ptr pl) (hl : LedR w pl rs ms (keysB b)) (hX : rs.map CR.pc = b.cms) (hv : validB b) (hin : ∀ k ∈ ks, k ∈ keysB b) (hx : keyOk x) :
    Ret Tryz.prog n_ptr_impl_ledger_bases_2 [.agg (u8s x).toArray, .pointer (some p), .pointer (some q)] w [.bool] (fun r _ => r = belowB b ks x) := ptr_impl_ledger_bases_2_calls _ _ _ (by
  unfold ptr_impl_ledger_bases_2
  refine r_new (At.refl w) fun b3 w1 h => ?_
  have h : At w w1 [(b3, (u8s x).toArray, ty_impl_Key)] := h
  refine r_ldN s (ldOk_below h.below hp) ?_
  refine r_call h (c_ContainsFK (At.refl w1) (hs.at h) hm go_bases_2_1 (fun y => decide (x ≠ y) && decide (x ∈ ancB b y)) (fun w' k hA hk hko => ?_)) fun r w2 h2 _ hr => ?_
  · have h' : At w w' [(b3, (u8s x).toArray, ty_impl_Key)] := h.trans hA.below
    exact c_bases_2_1 (ldOk_blk h' 0 rfl (by simp [hx.1])) (ldOk_below h'.below hq) (hl.at h') hX hv hx (hin k hk)
  · subst hr
    exact r_ret h2.nil _ rfl rfl)

theorem c_led_bases {w : World} {p : Addr} {rs : List CR} {ms : List ER} {b : PBk} {a k : List Int} (hp : LedR w p rs ms (keysB b)) (hX : rs.map CR.pc = b.cms) (hv : validB b) (ha : a ∈ keysB b) (hk : k ∈ keysB b) :
    Ret Tryz.prog n_ptr_impl_ledger_bases [.pointer (some p), .agg (u8s a).toArray, .agg (u8s k).toArray] w [.slice] (fun r w' => SlO w w' [] ty_impl_Key 32 r ((basesB b a k).flatMap u8s) ∧ r.n = (basesB b a k).length) := ptr_impl_ledger_bases_calls _ _ _ (by
  unfold ptr_impl_ledger_bases
  have hao := keysB_ok b a ha
  have hko := keysB_ok b k hk
  have hal := ancB_len hv ha
  have hkl := ancB_len hv hk
  refine r_new (At.refl w) fun b3 w1 h => ?_
  refine r_new h fun b4 w2 h => ?_
  refine r_new h fun b5 w3 h => ?_
  have h : At w w3 ([(b5, (u8s k).toArray, ty_impl_Key), (b4, (u8s a).toArray, ty_impl_Key), (b3, #[.pointer (some p)], ty_ptr_impl_ledger)] ++ []) := h
  refine r_ld h 2 (sh := .ptr) (o := 0) rfl rfl p (by simp [Sh.emb]) rfl ?_
  refine r_ldA h 0 rfl rfl (by simp [hko.1]) ?_
  refine r_call h (c_led_ancestors (hp.at h) hX hv hk) fun r11 w4 _ _ ⟨hS, hn⟩ => ?_
  have hS := SlO.lift h hS
  obtain ⟨Ly, hOy, h⟩ := hS.split
  refine r_new h fun b7 w5 h => ?_
  refine r_st h 0 (o := 0) rfl rfl (by simp [Value.cells]) rfl fun w6 h => ?_
  have h : At w w6 ([(b7, #[.slice r11.a r11.n r11.c], ty_sl_impl_Key)] ++ (Ly ++ ([(b5, (u8s k).toArray, ty_impl_Key), (b4, (u8s a).toArray, ty_impl_Key), (b3, #[.pointer (some p)], ty_ptr_impl_ledger)] ++ []))) := h
  refine r_ld h.pl2 2 (sh := .ptr) (o := 0) rfl rfl p (by simp [Sh.emb]) rfl ?_
  refine r_ldA h.pl2 1 rfl rfl (by simp [hao.1]) ?_
  refine r_call h (c_led_ancestors (hp.at h) hX hv ha) fun r14 w7 _ _ ⟨hS, hn14⟩ => ?_
  have hS := SlO.lift h hS
  have hoka : ∀ x ∈ ancB b a, keyOk x := fun x hx => keysB_ok b x (ancB_sub hv ha hx)
  have hokk : ∀ x ∈ ancB b k, keyOk x := fun x hx => keysB_ok b x (ancB_sub hv hk hx)
  refine r_callR (c_DeleteFunc hS hoka hn14 (by omega) go_bases_1 (fun x => !decide (x ∈ ancB b k)) (fun w' x hA hx => ?_)) ?_
  · have hl : ldOk w' 1 (⟨b7, 0, none⟩ : Addr) .slice r11 := ldOk_own (sh := .slice) hA 0 rfl 0 rfl (by simp [Sh.emb])
    exact c_bases_1 hl (ownS_ks hOy hA ((List.sublist_append_left _ _).trans (List.sublist_append_right _ _)) hokk) (by omega) hx
  rintro v w8 ⟨r16, rfl, hS, hn16⟩
  refine ⟨r16, rfl, ?_⟩
  have hfe : ((ancB b a).filter fun x => !(!decide (x ∈ ancB b k))) = bothB b a k := by
    unfold bothB
    congr 1
    funext x
    simp
  rw [hfe] at hS hn16
  obtain ⟨Lb, hOb, h⟩ := hS.split
  have hbl := bothB_len hv ha k
  have hbo : ∀ x ∈ bothB b a k, keyOk x := fun x hx => keysB_ok b x (bothB_sub hv ha hx)
  refine r_new h fun b8 w9 h => ?_
  refine r_st h 0 (o := 0) rfl rfl (by simp [Value.cells]) rfl fun w10 h => ?_
  have h : At w w10 ([(b8, #[.slice r16.a r16.n r16.c], ty_sl_impl_Key)] ++ (Lb ++ ([(b7, #[.slice r11.a r11.n r11.c], ty_sl_impl_Key)] ++ (Ly ++ ([(b5, (u8s k).toArray, ty_impl_Key), (b4, (u8s a).toArray, ty_impl_Key), (b3, #[.pointer (some p)], ty_ptr_impl_ledger)] ++ []))))) := h
  refine r_ld h 0 (sh := .slice) (o := 0) rfl rfl r16 (by simp [Sh.emb]) rfl ?_
  have both : ∀ {v : World}, At w v ([(b8, #[.slice r16.a r16.n r16.c], ty_sl_impl_Key)] ++ (Lb ++ ([(b7, #[.slice r11.a r11.n r11.c], ty_sl_impl_Key)] ++ (Ly ++ ([(b5, (u8s k).toArray, ty_impl_Key), (b4, (u8s a).toArray, ty_impl_Key), (b3, #[.pointer (some p)], ty_ptr_impl_ledger)] ++ []))))) → KsR v r16 (bothB b a k) := fun h => ownS_ks hOb h ((List.sublist_append_left _ _).trans (List.sublist_append_right _ _)) hbo
  refine r_call h (c_CloneKeys (both h) (by omega)) fun r18 w11 _ _ ⟨hS, hn18⟩ => ?_
  have hS := SlO.lift h hS
  refine r_callR (c_DeleteFunc hS hbo hn18 (by omega) go_bases_2 (fun x => belowB b (bothB b a k) x) (fun w' x hA hx => ?_)) ?_
  · have hl : ldOk w' 1 (⟨b8, 0, none⟩ : Addr) .slice r16 := ldOk_own (sh := .slice) hA 0 rfl 0 rfl (by simp [Sh.emb])
    have hq : ldOk w' 1 (⟨b3, 0, none⟩ : Addr) .ptr p := ldOk_own (sh := .ptr) hA.pl4 2 rfl 0 rfl (by simp [Sh.emb])
    exact c_bases_2 hl (both hA) (by omega) hq (hp.at hA) hX hv (fun y hy => bothB_sub hv ha hy) hx
  rintro v w12 ⟨r20, rfl, hS, hn20⟩
  refine ⟨r20, rfl, ?_⟩
  exact r_ret hS.at_.nil r20 rfl ⟨hS.base, hn20⟩)

theorem c_impl_BasesOf {w : World} {r q q' : Array Value} {b : PBk} {a k : List Int} (hr : RdBook w r b) (hqa : RdKey w q a) (hq : RdKey w q' k) (hz : sizeBook b ≤ 1073741824) :
    Ret Tryz.prog n_impl_BasesOf [.agg r, .agg q, .agg q'] w [.slice, .int .i64] (fun x w' => ∃ L, At w w' L ∧ OwnKeyS x.1 (basesAns b a k).1 L ∧ x.2 = (basesAns b a k).2) := impl_BasesOf_calls _ _ _ (by
  unfold impl_BasesOf
  obtain ⟨rfl, ha⟩ := hqa
  obtain ⟨rfl, hk⟩ := hq
  obtain ⟨s, t, rfl, ⟨rs, hX, hs⟩, ⟨ms, hM, ht⟩⟩ := hr
  refine r_new (At.refl w) fun b3 w1 h => ?_
  refine r_new h fun b4 w2 h => ?_
  refine r_new h fun b5 w3 h => ?_
  have h : At w w3 [(b5, (u8s k).toArray, ty_impl_Key), (b4, (u8s a).toArray, ty_impl_Key), (b3, bkC s t, ty_impl_Book)] := h
  refine r_ldA h 2 rfl rfl rfl ?_
  refine r_ldA h 1 rfl rfl (by simp [ha.1]) ?_
  refine r_ldA h 0 rfl rfl (by simp [hk.1]) ?_
  refine r_bs2 T_sl_Key h (by simp [Value.cells, ha.1]) (by simp [Value.cells, hk.1]) (by omega) fun y14 w4 hy hyn => ?_
  refine r_call hy.at_ (c_open (hs.at hy.at_) (ht.at hy.at_) hX hM (KsR.two hy ha hk) hz (by simp)) fun r15 w5 h _ ⟨h1, h2⟩ => ?_
  obtain ⟨o, c⟩ := r15
  dsimp only at h1 h2 ⊢
  subst h1
  refine r_ne (fun hne => ?_) (fun heq => ?_)
  · exact r_ret h.nil (⟨none, 0, 0⟩, openCode b [a, k]) rfl ⟨[], h.nil, by unfold basesAns; rw [if_neg hne]; exact ⟨OwnKeyS.none, rfl⟩⟩
  · obtain ⟨hv, hin, bl, L, rfl, hL, hO⟩ := h2 heq
    have hkK := hin k (by simp)
    have haK := hin a (by simp)
    refine r_ldA h 1 rfl rfl (by simp [ha.1]) ?_
    refine r_ldA h 0 rfl rfl (by simp [hk.1]) ?_
    refine r_call h (c_led_bases (hO.rd hL (List.Sublist.refl _) (hs.at h) (ht.at h)) hX hv haK hkK) fun r24 w6 _ _ ⟨hS, hn⟩ => ?_
    obtain ⟨Lr, hA, hOr⟩ := slO_ownKeyS (SlO.lift h hS).base (fun x hx => keysB_ok b x (bothB_sub hv haK (List.mem_filter.1 hx).1))
    exact r_ret hA.nil (r24, 0) rfl ⟨Lr, hA, by unfold basesAns; rw [if_pos heq]; exact ⟨hOr, rfl⟩⟩)
end Go.Proofs.YtkifkdkjljcclaaGreat

namespace Go.Proofs.YtkifkdkjljcclaaGreat
open Go.Sx Go.RowKit

theorem numC_le {X : List PC} {K : List (List Int)} {M : Int} : ∀ {ps : List (List Int)} {o : Int}, o ≤ M → (∀ k ∈ ps, (cAt X K k).num + 1 ≤ M) → ps.foldl (fun o k => max o ((cAt X K k).num + 1)) o ≤ M
  | [], o, h, _ => h
  | k :: r, o, h, hk => by
    rw [List.foldl_cons]
    have h1 := hk k (by simp)
    exact numC_le (by omega) fun x hx => hk x (by simp [hx])
theorem numC_ge {X : List PC} {K : List (List Int)} : ∀ (ps : List (List Int)) (o : Int), o ≤ ps.foldl (fun o k => max o ((cAt X K k).num + 1)) o
  | [], o => Int.le_refl o
  | k :: r, o => by
    rw [List.foldl_cons]
    have := numC_ge (X := X) (K := K) r (max o ((cAt X K k).num + 1))
    omega
theorem numC_congr {X Y : List PC} {K : List (List Int)} : ∀ {ps : List (List Int)} {o : Int}, (∀ k ∈ ps, cAt X K k = cAt Y K k) → ps.foldl (fun o k => max o ((cAt X K k).num + 1)) o = ps.foldl (fun o k => max o ((cAt Y K k).num + 1)) o
  | [], o, _ => rfl
  | k :: r, o, h => by
    rw [List.foldl_cons, List.foldl_cons, h k (by simp)]
    exact numC_congr fun x hx => h x (by simp [hx])
theorem num_le {b : PBk} (hv : validB b) : ∀ (N i : Nat), i < N → i < b.cms.length → (comAt b i).num ≤ i
  | 0, i, h, _ => by omega
  | N + 1, i, h, hi => by
    have hg := hv.2 i hi
    rw [hg.2.2.2.2.1]
    refine numC_le (by omega) fun k hk => ?_
    have hm := hg.2.2.2.1 k hk
    have hl := ixK_lt hm
    rw [List.length_take] at hl
    have := num_le hv N (ixK ((keysC b.cms).take i) k) (by omega) (by omega)
    show (comAt b (ixK ((keysC b.cms).take i) k)).num + 1 ≤ (i : Int)
    omega
theorem comAns_valid {b : PBk} {ps : List (List Int)} {es : List PE} {note : ByteArray} (hv : validB b) (h : (comAns b ps es note).2.2 = 0) :
    comAns b ps es note = (⟨b.cms ++ [comOf b ps es note], b.maps ++ [es]⟩, ckey (comOf b ps es note), 0) ∧ validB ⟨b.cms ++ [comOf b ps es note], b.maps ++ [es]⟩ ∧ keysB ⟨b.cms ++ [comOf b ps es note], b.maps ++ [es]⟩ = keysB b ++ [ckey (comOf b ps es note)] ∧ ckey (comOf b ps es note) ∉ keysB b := by
  unfold comAns at h ⊢
  split at h
  · cases h
  rename_i h1
  split at h
  · rename_i h3
    split at h
    · cases h
    rename_i h4
    split at h
    · rename_i h5
      split at h
      · cases h
      rename_i h6
      rw [if_neg h1, if_pos h3, if_neg h4, if_pos h5, if_neg h6]
      have h40 := hv.1.1
      have hml := hv.1.2
      have hK : keysC (b.cms ++ [comOf b ps es note]) = keysB b ++ [ckey (comOf b ps es note)] := keysC_snoc _ _
      refine ⟨rfl, ⟨⟨by rw [List.length_append]; simp; omega, by simp [hml]⟩, fun i hi => ?_⟩, hK, h6⟩
      have hKl := keysB_len b
      rw [List.length_append, List.length_singleton] at hi
      rcases Nat.lt_or_ge i b.cms.length with hlt | hge
      · have hg := hv.2 i hlt
        have ec : comAt ⟨b.cms ++ [comOf b ps es note], b.maps ++ [es]⟩ i = comAt b i := by
          unfold comAt
          simp [List.getD, List.getElem?_append_left hlt]
        have em : mapAt ⟨b.cms ++ [comOf b ps es note], b.maps ++ [es]⟩ i = mapAt b i := by
          unfold mapAt
          simp [List.getD, List.getElem?_append_left (show i < b.maps.length by omega)]
        have et : (keysC (b.cms ++ [comOf b ps es note])).take i = (keysC b.cms).take i := by
          rw [hK]
          exact List.take_append_of_le_length (by rw [hKl]; omega)
        have en : numC (b.cms ++ [comOf b ps es note]) ((keysC b.cms).take i) (comAt b i).ps = numC b.cms ((keysC b.cms).take i) (comAt b i).ps := by
          refine numC_congr fun k hk => ?_
          have hl := ixK_lt (hg.2.2.2.1 k hk)
          rw [List.length_take] at hl
          unfold cAt
          simp only [List.getD]
          rw [List.getElem?_append_left (by omega)]
        unfold goodC
        rw [ec, em]
        dsimp only
        rw [et, en]
        exact hg
      · have hieq : i = b.cms.length := by omega
        subst hieq
        have ec : comAt ⟨b.cms ++ [comOf b ps es note], b.maps ++ [es]⟩ b.cms.length = comOf b ps es note := by
          unfold comAt
          simp [List.getD]
        have em : mapAt ⟨b.cms ++ [comOf b ps es note], b.maps ++ [es]⟩ b.cms.length = es := by
          unfold mapAt
          simp [List.getD, ← hml]
        have et : (keysC (b.cms ++ [comOf b ps es note])).take b.cms.length = keysB b := by
          rw [hK]
          rw [List.take_append_of_le_length (by rw [hKl]; exact Nat.le_refl _), List.take_of_length_le (by rw [hKl]; exact Nat.le_refl _)]
        have en : numC (b.cms ++ [comOf b ps es note]) (keysB b) (sortK ps) = numC b.cms (keysB b) (sortK ps) := by
          refine numC_congr fun k hk => ?_
          have hl := ixK_lt (h3 k hk)
          unfold cAt
          simp only [List.getD]
          rw [List.getElem?_append_left (by omega)]
        have hnl : numC b.cms (keysB b) (sortK ps) ≤ b.cms.length := numC_le (by omega) fun k hk => by
          have hl := ixK_lt (h3 k hk)
          have := num_le hv _ (ixK (keysB b) k) (Nat.lt_succ_self _) (by omega)
          show (comAt b (ixK (keysB b) k)).num + 1 ≤ _
          omega
        have hng : 0 ≤ numC b.cms (keysB b) (sortK ps) := numC_ge _ _
        unfold goodC
        rw [ec, em]
        dsimp only
        rw [et]
        refine ⟨⟨adj_of_asc (sortK_asc ps), ?_, ⟨hng, ?_⟩, ?_⟩, h5, rfl, h3, en.symm, h6⟩
        · show (sortK ps).length ≤ 3; omega
        · show numC b.cms (keysB b) (sortK ps) ≤ 40; omega
        · show note.size ≤ 64; omega
    · cases h
  · cases h

def chainB (b : PBk) : List (List Int) → Prop
  | p :: q :: r => p ∈ parsB b q ∧ chainB b (q :: r)
  | _ => True
theorem chain_snoc {b : PBk} : ∀ {l : List (List Int)} {x q : List Int}, chainB b l → l.getLast? = some x → x ∈ parsB b q → chainB b (l ++ [q])
  | [], _, _, _, h, _ => by cases h
  | [p], x, q, _, h, hp => by
    cases h
    exact ⟨hp, trivial⟩
  | p :: p2 :: r, x, q, hc, h, hp => by
    have h2 : (p2 :: r).getLast? = some x := by rw [← h]; simp
    exact ⟨hc.1, chain_snoc (l := p2 :: r) hc.2 h2 hp⟩
theorem chain_get {b : PBk} : ∀ {l : List (List Int)} {n : Nat} {p q : List Int}, chainB b l → l[n]? = some p → l[n + 1]? = some q → p ∈ parsB b q
  | [], _, _, _, _, h, _ => by cases h
  | [_], n, _, _, _, _, h => by simp at h
  | p0 :: q0 :: r, 0, p, q, hc, hp, hq => by
    simp at hp hq
    subst hp
    subst hq
    exact hc.1
  | p0 :: q0 :: r, n + 1, p, q, hc, hp, hq => chain_get (l := q0 :: r) (n := n) hc.2 (by simpa using hp) (by simpa using hq)
def wayOk (b : PBk) (a k : List Int) (w : List (List Int)) : Prop := w = [] ∨ (w.head? = some a ∧ w.getLast? = some k ∧ chainB b w ∧ ∀ x ∈ w, x ∈ keysB b)
theorem best_ok {b : PBk} {a own : List Int} {W : Nat → List (List Int)} (ho : own ∈ keysB b) : ∀ {ps cur : List (List Int)}, (∀ p ∈ ps, p ∈ parsB b own ∧ wayOk b a p (W (ixK (keysB b) p))) → wayOk b a own cur → wayOk b a own (ps.foldl (viaW W (keysB b) own) cur)
  | [], _, _, h => h
  | p :: r, cur, hp, h => by
    rw [List.foldl_cons]
    refine best_ok ho (fun q hq => hp q (by simp [hq])) ?_
    obtain ⟨h1, h2⟩ := hp p (by simp)
    unfold viaW
    split
    · exact h
    · rename_i hne
      split
      · rcases h2 with h2 | ⟨h3, h4, h5, h6⟩
        · exact absurd h2 hne
        · refine .inr ⟨?_, by simp, chain_snoc h5 h4 h1, fun x hx => ?_⟩
          · rw [List.head?_append, h3]; rfl
          · rcases List.mem_append.1 hx with hx | hx
            · exact h6 x hx
            · rw [List.mem_singleton.1 hx]; exact ho
      · exact h
theorem waysW_way {b : PBk} (hv : validB b) {a : List Int} (ha : a ∈ keysB b) : ∀ n, n ≤ b.cms.length → ∀ k ∈ keysB b, wayOk b a k (waysW b a n (ixK (keysB b) k)) := by
  intro n
  induction n with
  | zero =>
    intro _ k hk
    rw [waysW_zero]
    split
    · rename_i h
      have : k = a := ixK_inj hk ha h
      subst this
      exact .inr ⟨rfl, rfl, trivial, fun x hx => by rw [List.mem_singleton.1 hx]; exact hk⟩
    · exact .inl rfl
  | succ n ih =>
    intro hn k hk
    have ih := ih (by omega)
    unfold waysW
    split
    · exact ih k hk
    · rename_i hne
      unfold setW
      split
      · rename_i hkn
        have hKn := keysB_get (b := b) (i := n) (by omega)
        have hkk : ckey (comAt b n) = k := by
          have := ixK_get hk
          rw [hkn, hKn] at this
          exact Option.some.inj this
        rw [hkk]
        refine best_ok hk (fun p hp => ?_) (.inl rfl)
        have hpp : p ∈ parsB b k := by
          show p ∈ (comAt b (ixK (keysB b) k)).ps
          rw [hkn]
          exact hp
        exact ⟨hpp, ih p (pars_mem hv hk hpp).1⟩
      · exact ih k hk
theorem wayB_way {b : PBk} (hv : validB b) {a k : List Int} (ha : a ∈ keysB b) (hk : k ∈ keysB b) : wayOk b a k (wayB b a k) := waysW_way hv ha _ (Nat.le_refl _) k hk

theorem bothB_comm {b : PBk} (a k : List Int) : bothB b a k = bothB b k a := by
  refine asc_ext ((ancB_asc b a).sublist List.filter_sublist) ((ancB_asc b k).sublist List.filter_sublist) fun x => ?_
  unfold bothB
  simp only [List.mem_filter, decide_eq_true_eq]
  exact ⟨fun h => ⟨h.2, h.1⟩, fun h => ⟨h.2, h.1⟩⟩
theorem basesB_comm {b : PBk} (a k : List Int) : basesB b a k = basesB b k a := by
  rw [basesB_eq, basesB_eq, bothB_comm]
theorem AncOf.up_ix {b : PBk} (hv : validB b) {k x : List Int} (hk : k ∈ keysB b) (h : AncOf b k x) : x = k ∨ ixK (keysB b) x < ixK (keysB b) k := by
  induction h with
  | self => exact .inl rfl
  | @up y p hy hp ih =>
    have h1 := (pars_mem hv (hy.mem hv hk) hp).2
    rcases ih with rfl | ih
    · exact .inr h1
    · exact .inr (by omega)
theorem mem_both {b : PBk} {a k x : List Int} : x ∈ bothB b a k ↔ x ∈ ancB b a ∧ x ∈ ancB b k := by
  unfold bothB
  rw [List.mem_filter, decide_eq_true_eq]
theorem mem_bases {b : PBk} {a k x : List Int} : x ∈ basesB b a k ↔ x ∈ bothB b a k ∧ ∀ y ∈ bothB b a k, x ≠ y → x ∉ ancB b y := by
  rw [basesB_eq, List.mem_filter]
  unfold belowB
  simp only [Bool.not_eq_true', List.any_eq_false, Bool.and_eq_true, decide_eq_true_eq, not_and]
theorem base_above {b : PBk} (hv : validB b) {a k : List Int} (ha : a ∈ keysB b) : ∀ (N : Nat) (x : List Int), x ∈ bothB b a k → b.cms.length ≤ N + ixK (keysB b) x → ∃ y ∈ basesB b a k, x ∈ ancB b y := by
  intro N
  induction N with
  | zero =>
    intro x hx hN
    have := ixK_lt (bothB_sub hv ha hx)
    rw [keysB_len] at this
    omega
  | succ N ih =>
    intro x hx hN
    have hxK := bothB_sub hv ha hx
    rcases Classical.em (x ∈ basesB b a k) with h | h
    · exact ⟨x, h, (ancB_mem hv hxK x).2 .self⟩
    · obtain ⟨y, hy, hne, hxy⟩ : ∃ y, y ∈ bothB b a k ∧ x ≠ y ∧ x ∈ ancB b y := by
        rcases Classical.em (∃ y, y ∈ bothB b a k ∧ x ≠ y ∧ x ∈ ancB b y) with h1 | h1
        · exact h1
        · exact absurd (mem_bases.2 ⟨hx, fun y hy hne hxy => h1 ⟨y, hy, hne, hxy⟩⟩) h
      have hyK := bothB_sub hv ha hy
      have hanc := (ancB_mem hv hyK x).1 hxy
      have hix := (hanc.up_ix hv hyK).resolve_left hne
      obtain ⟨z, hz, hyz⟩ := ih y hy (by omega)
      have hzK := bothB_sub hv ha (mem_bases.1 hz).1
      exact ⟨z, hz, (ancB_mem hv hzK x).2 (((ancB_mem hv hzK y).1 hyz).trans hanc)⟩
theorem base_exists {b : PBk} (hv : validB b) {a k : List Int} (ha : a ∈ keysB b) {x : List Int} (h1 : x ∈ ancB b a) (h2 : x ∈ ancB b k) : ∃ y ∈ basesB b a k, x ∈ ancB b y := base_above hv ha b.cms.length x (mem_both.2 ⟨h1, h2⟩) (by omega)
theorem base_alone {b : PBk} {a k x y : List Int} (hx : x ∈ basesB b a k) (hy : y ∈ basesB b a k) (hne : x ≠ y) : x ∉ ancB b y := (mem_bases.1 hx).2 y (mem_bases.1 hy).1 hne
end Go.Proofs.YtkifkdkjljcclaaGreat
