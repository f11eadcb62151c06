/- ReachableFrom, MissingFrom: what the program and the reference answer. Printed in part by a program of this claim's author (z4.py). PackStore, PackReachable: both sides. -/
import Derived.Test.YtkifkdkjljcclaaGreatPkLPR33
import Derived.Test.YtkifkdkjljcclaaGreatPkLPR28
import Derived.Test.YtkifkdkjljcclaaGreatPkLPR38
import Derived.Test.YtkifkdkjljcclaaGreatPkLPR30
namespace Go.Proofs.YtkifkdkjljcclaaGreat
open Go.Sx Go.RowKit

def stepR (B : List PB) (s : List (List Int)) (i : Nat) : List (List Int) := match s[i]? with
  | some k => (nextOf B k).foldl meetK s
  | none => s
def walkR (B : List PB) (roots : List (List Int)) : Nat → List (List Int)
  | 0 => roots.foldl meetK []
  | i + 1 => stepR B (walkR B roots i) i
theorem walkR_ok (B : List PB) (roots : List (List Int)) : ∀ i, ∃ j, WalkOk B roots j (walkR B roots i) ∧ (j = i ∨ ((walkR B roots i).length ≤ j ∧ j ≤ i))
  | 0 => ⟨0, WalkOk.first B roots, .inl rfl⟩
  | i + 1 => by
    obtain ⟨j, h, hc⟩ := walkR_ok B roots i
    have he : walkR B roots (i + 1) = stepR B (walkR B roots i) i := rfl
    rw [he]
    generalize walkR B roots i = s at h hc
    unfold stepR
    cases hk : s[i]? with
    | none =>
      have hl : s.length ≤ i := by
        rcases Nat.lt_or_ge i s.length with h' | h'
        · rw [List.getElem?_eq_getElem h'] at hk; cases hk
        · exact h'
      rcases hc with rfl | ⟨h1, h2⟩
      · exact ⟨j, h, .inr ⟨hl, by omega⟩⟩
      · exact ⟨j, h, .inr ⟨h1, by omega⟩⟩
    | some k =>
      have hl := (List.getElem?_eq_some_iff.1 hk).1
      rcases hc with rfl | ⟨h1, h2⟩
      · exact ⟨j + 1, h.next hk, .inl rfl⟩
      · omega
def reachL (B : List PB) (roots : List (List Int)) : List (List Int) := walkR B roots (roots.length + (B.flatMap links).length)
theorem mem_reachL (B : List PB) (roots : List (List Int)) (k : List Int) : k ∈ reachL B roots ↔ GetsTo B roots k := by
  obtain ⟨j, h, hc⟩ := walkR_ok B roots (roots.length + (B.flatMap links).length)
  have hl := h.len
  refine h.all ?_ k
  rcases hc with rfl | ⟨h1, h2⟩
  · exact hl
  · exact h1
def reachedK (B : List PB) (roots : List (List Int)) (t : Bool) : List (List Int) := sortK ((reachL B roots).filter fun k => decide (k ∈ keysOf B) == t)
theorem reachedK_asc (B : List PB) (roots : List (List Int)) (t : Bool) : Asc (reachedK B roots t) := sortK_asc _
theorem reachedK_mem (B : List PB) (roots : List (List Int)) (t : Bool) (k : List Int) : k ∈ reachedK B roots t ↔ GetsTo B roots k ∧ decide (k ∈ keysOf B) = t := by
  unfold reachedK
  rw [sortK_mem, List.mem_filter, mem_reachL]
  simp
theorem reachedK_is {B : List PB} {roots out : List (List Int)} {t : Bool} (ha : Asc out) (h : ∀ k, k ∈ out ↔ GetsTo B roots k ∧ decide (k ∈ keysOf B) = t) : out = reachedK B roots t := asc_ext ha (reachedK_asc B roots t) fun k => (h k).trans (reachedK_mem B roots t k).symm
theorem getsTo_ok {B : List PB} {roots : List (List Int)} (hB : ∀ b ∈ B, bytesOk b.data) (hr : ∀ k ∈ roots, keyOk k) {k : List Int} (h : GetsTo B roots k) : keyOk k := by
  rcases List.mem_append.1 h.sub with h | h
  · exact hr k h
  · obtain ⟨b, hb, hkb⟩ := List.mem_flatMap.1 h
    exact links_ok (hB b hb) k hkb
theorem msizeK_eq (ks : List (List Int)) : msizeKeyS ks = 32 * sizeKeyS ks := rfl
theorem bytes_of {bs : List BR} {B : List PB} {w : World} (hpb : bs.map BR.pb = B) (h : ∀ b ∈ bs, b.Ok w) : ∀ b ∈ B, bytesOk b.data := fun b hb => by
  rw [← hpb] at hb
  obtain ⟨y, hy, rfl⟩ := List.mem_map.1 hb
  exact (h y hy).bytes.ok

theorem c_reached_1 {w : World} {p0 p1 p : Addr} {B : List PB} {bs : List BR} {k : List Int} {t : Bool} (hs : ShopR w p (keysOf B) bs) (hasc : Asc (keysOf B)) (hk : keyOk k) (hmax : B.length ≤ 1073741824) (h1 : ldOk w 1 p0 .ptr p) (h2 : ldOk w 1 p1 .bool t) :
    Ret Tryz.prog n_ptr_impl_shop_reached_1 [.agg (u8s k).toArray, .pointer (some p0), .pointer (some p1)] w [.bool] (fun r _ => r = (decide (k ∈ keysOf B) != t)) := ptr_impl_shop_reached_1_calls _ _ _ (by
  unfold ptr_impl_shop_reached_1
  refine r_new (At.refl w) fun b3 w1 h => ?_
  refine r_draw h fun w2 h => ?_
  refine r_ldN p (ldOk_below h.below h1) ?_
  refine r_ldA h 0 rfl rfl (by simp [Value.cells, hk.1]) ?_
  refine r_ldN (sh := .bool) t (ldOk_below h.below h2) ?_
  refine r_call h (c_has (hs.at h) hasc hk (by rw [keysOf_len]; omega)) fun r w3 h _ hr => ?_
  subst hr
  refine r_chk1 (ldOk_below h.below h2) ?_
  refine r_pur _ (fun w' => run_neqB (by kernel_rfl) _ _ _ _ w') ?_
  exact r_ret h.nil _ rfl rfl)

theorem c_reached {w : World} {p : Addr} {B : List PB} {bs : List BR} {x : Sl} {roots : List (List Int)} {t : Bool} (hs : ShopR w p (keysOf B) bs) (hpb : bs.map BR.pb = B) (hv : validS B) (hx : KsR w x roots) (hmax : roots.length ≤ 1000000) :
    Ret Tryz.prog n_ptr_impl_shop_reached [.pointer (some p), .slice x.a x.n x.c, .bool t] w [.slice] (fun r w' => SlO w w' [] ty_impl_Key 32 r ((reachedK B roots t).flatMap u8s) ∧ r.n = (reachedK B roots t).length) := ptr_impl_shop_reached_calls _ _ _ (by
  unfold ptr_impl_shop_reached
  have hB128 : B.length ≤ 128 := hv.1
  refine r_new (At.refl w) fun b3 w1 h => ?_
  refine r_new h fun b5 w2 h => ?_
  have h : At w w2 [(b5, #[.bool t], ty_bool), (b3, #[.pointer (some p)], ty_ptr_impl_shop)] := h
  refine r_ld h 1 rfl rfl p (by simp [Sh.emb]) rfl ?_
  refine r_call h (c_reach (hs.at h) hpb hv (hx.at h) hmax) fun r9 w3 _ _ ⟨out, hmem, hnd, hok, hlen, hS, hn⟩ => ?_
  have hS := SlO.lift h hS
  refine r_callR (c_DeleteFunc (cap := #[.pointer (some ⟨b3, 0, none⟩), .pointer (some ⟨b5, 0, none⟩)]) hS hok hn (by omega) (g := n_ptr_impl_shop_reached_1) (by kernel_rfl) (fun k => decide (k ∈ keysOf B) != t) (fun w' k hA hk => c_reached_1 (hs.at hA) hv.2.2 hk (by omega) (ldOk_own hA 1 rfl 0 rfl (by simp [Sh.emb])) (ldOk_own hA 0 rfl 0 rfl (by simp [Sh.emb])))) ?_
  rintro v w4 ⟨r11, rfl, hS2, hn2⟩
  refine ⟨r11, rfl, ?_⟩
  have hfl := List.length_filter_le (fun k => !(decide (k ∈ keysOf B) != t)) out
  have hfk : ∀ k ∈ out.filter (fun k => !(decide (k ∈ keysOf B) != t)), keyOk k := fun k hk => hok k (List.mem_filter.1 hk).1
  refine r_call hS2.at_ (c_sorted (slO_ks hS2 hfk) (by omega)) fun r12 w5 h5 _ ⟨o2, ha, hm, _, _, hS3, hn3⟩ => ?_
  have he : o2 = reachedK B roots t := reachedK_is ha fun k => by
    rw [hm, List.mem_filter, hmem]
    simp
  subst he
  exact r_ret h5.nil r12 rfl ⟨(SlO.lift hS2.at_ hS3).base, hn3⟩)

theorem c_tooMany {w : World} {y x : Sl} (hy : SlAt w y 1 [.slice x.a x.n x.c]) : Ret Tryz.prog n_slices_ContainsFunc_sl_sl_impl_Key_sl_impl_Key [.slice y.a y.n y.c, .func (.func n_impl_reachCode_1) #[] #[]] w [.bool] (fun r _ => r = decide (256 < x.n)) := slices_ContainsFunc_sl_sl_impl_Key_sl_impl_Key_calls _ _ (by
  unfold slices_ContainsFunc_sl_sl_impl_Key_sl_impl_Key
  have hidx : Ret Tryz.prog n_slices_IndexFunc_sl_sl_impl_Key_sl_impl_Key [.slice y.a y.n y.c, .func (.func n_impl_reachCode_1) #[] #[]] w [.int .i64] (fun r _ => r = if 256 < x.n then 0 else -1) := slices_IndexFunc_sl_sl_impl_Key_sl_impl_Key_calls _ _ (by
    unfold slices_IndexFunc_sl_sl_impl_Key_sl_impl_Key
    have hn : y.n = 1 := by have := hy.len; simp at this; omega
    refine r_loop (σ := Int) (fun i w' => (i = 0 ∨ (i = 1 ∧ ¬ 256 < x.n)) ∧ At w w' []) (fun i _ => (1 - i).toNat) 0 rfl ⟨.inl rfl, At.refl w⟩ ?_
    rintro i w1 ⟨hi, h⟩
    refine r_any fun _ => ?_
    rcases hi with rfl | ⟨rfl, hx⟩
    · refine r_if ((0 : Int) < (y.n : Int)) rfl (fun _ => ?_) (fun hh => by omega)
      obtain ⟨q, hq, hc⟩ := (hy.below h.below).cell 0 (.slice x.a x.n x.c) rfl
      refine r_ix q hq (by omega) (by omega) ?_
      refine r_ldN (sh := .slice) x hc ?_
      have hcl : ∀ w', Ret Tryz.prog n_impl_reachCode_1 ((#[] : Array Value).toList ++ [.slice x.a x.n x.c] ++ (#[] : Array Value).toList) w' [.bool] (fun r _ => r = decide ((x.n : Int) > 256)) := fun w' => impl_reachCode_1_calls _ (by
        unfold impl_reachCode_1
        exact r_ret (At.refl w') _ rfl rfl)
      refine r_callV h (by kernel_rfl) (hcl w1) fun r w2 h _ hr => ?_
      subst hr
      refine r_if ((x.n : Int) > 256) rfl (fun hgt => ?_) (fun hle => ?_)
      · exact r_ret h (0 : Int) rfl (by rw [if_pos (by omega)])
      · exact ⟨(1 : Int), rfl, ⟨.inr ⟨rfl, by omega⟩, h⟩, by omega⟩
    · refine r_if ((1 : Int) < (y.n : Int)) rfl (fun hh => by omega) (fun _ => ?_)
      exact r_ret h (-1 : Int) rfl (by rw [if_neg hx]))
  refine r_call (At.refl w) hidx fun r w1 h _ hr => ?_
  subst hr
  refine r_ret h _ rfl ?_
  by_cases h256 : 256 < x.n
  · rw [if_pos h256, decide_eq_true h256]; rfl
  · rw [if_neg h256, decide_eq_false h256]; rfl)

theorem c_reachCode {w : World} {s y x : Sl} {bs : List BR} (hs : BsR w s bs) (hmax : bs.length ≤ 1073741824) (hy : SlAt w y 1 [.slice x.a x.n x.c]) :
    Ret Tryz.prog n_impl_reachCode [.agg #[.slice s.a s.n s.c], .slice y.a y.n y.c] w [.optr, .int .i64] (fun r w' => (validS (bs.map BR.pb) ∧ ¬ 256 < x.n ∧ ∃ b L, r = (some ⟨b, 0, none⟩, 0) ∧ At w w' L ∧ ShopO b (keysOf (bs.map BR.pb)) bs L) ∨ (validS (bs.map BR.pb) ∧ 256 < x.n ∧ r = (none, 3)) ∨ (¬ validS (bs.map BR.pb) ∧ r = (none, 1))) := impl_reachCode_calls _ _ (by
  unfold impl_reachCode
  refine r_new (At.refl w) fun b2 w1 h => ?_
  refine r_ldA h 0 rfl rfl rfl ?_
  refine r_call h (c_newShop (hs.at h) hmax) fun r w2 h2 _ hr => ?_
  rcases hr with ⟨hv, b, L, rfl, hL, hO⟩ | ⟨hv, rfl⟩
  · refine r_false rfl ?_
    have hL2 : At w w2 (L ++ []) := by
      rw [List.append_nil]
      exact (h.join hL).left
    refine r_call hL2 (c_tooMany (hy.below hL2.below)) fun r w3 h _ hr => ?_
    subst hr
    by_cases hx : 256 < x.n
    · refine r_true (decide_eq_true hx) ?_
      exact r_ret h.nil (none, (3 : Int)) rfl (.inr (.inl ⟨hv, hx, rfl⟩))
    · refine r_false (decide_eq_false hx) ?_
      exact r_ret h.nil (some ⟨b, 0, none⟩, (0 : Int)) rfl (.inl ⟨hv, hx, b, L, rfl, by simpa using h, hO⟩)
  · refine r_true rfl ?_
    exact r_ret h2.nil (none, (1 : Int)) rfl (.inr (.inr ⟨hv, rfl⟩)))

theorem T_sl_slKey : SlT Tryz.prog ty_sl_sl_impl_Key ty_sl_impl_Key 1 24 := slT_of (by kernel_rfl)

theorem c_l05Asked {w : World} {p : Addr} {s x : Sl} {bs : List BR} (hp : ∀ n, ldOk w n (p.add 0) .slice s) (hs : BsR w s bs) : Ret Tryz.prog n_spec_l05Asked [.pointer (some p), .slice x.a x.n x.c] w [.optr, .int .i64]
    (fun r w' => r.2 = (if validS (bs.map BR.pb) then (if 256 < x.n then 3 else 0) else 1) ∧ (validS (bs.map BR.pb) → ∃ b L, r.1 = some ⟨b, 0, none⟩ ∧ At w w' L ∧ SpecO b (keysOf (bs.map BR.pb)) bs L)) := spec_l05Asked_calls _ _ (by
  unfold spec_l05Asked
  refine r_call (At.refl w) (c_l05Open hp hs) fun r w1 h1 _ ⟨hr2, b, hr1, hr⟩ => ?_
  by_cases hv : validS (bs.map BR.pb)
  · rw [hr2, decide_eq_true hv, hr1]
    obtain ⟨L, hL, hO⟩ := hr hv
    refine r_false rfl ?_
    refine r_if ((x.n : Int) > 256) rfl (fun hgt => ?_) (fun hle => ?_)
    · exact r_ret h1 (some ⟨b, 0, none⟩, (3 : Int)) rfl ⟨by rw [if_pos hv, if_pos (by omega)], fun _ => ⟨b, L, rfl, hL, hO⟩⟩
    · exact r_ret h1 (some ⟨b, 0, none⟩, (0 : Int)) rfl ⟨by rw [if_pos hv, if_neg (by omega)], fun _ => ⟨b, L, rfl, hL, hO⟩⟩
  · rw [hr2, decide_eq_false hv]
    refine r_true rfl ?_
    exact r_ret h1 (r.1, (1 : Int)) rfl ⟨by rw [if_neg hv], fun hh => absurd hh hv⟩)

end Go.Proofs.YtkifkdkjljcclaaGreat

namespace Go.Proofs.YtkifkdkjljcclaaGreat
open Go.Sx Go.RowKit

def packRAns (B : List PB) (roots : List (List Int)) : List Int × Int := if validS B then (if 256 < roots.length then ([], 3) else (packB (B.filter fun b => decide (b.key ∈ reachedK B roots true)), 0)) else ([], 1)
theorem packB_ok {B : List PB} (hv : validS B) (hb : ∀ b ∈ B, b.ok) : bytesOk (packB B) := by
  have h128 := hv.1
  unfold packB
  refine ((recsB_ok hv hb _).append fun x hx => ?_).append (hashL_ok _ _)
  simp only [List.mem_cons, List.not_mem_nil, or_false] at hx
  omega
theorem packB_max {B : List PB} (hv : validS B) : (packB B).length ≤ 140000 := by
  have := (recsB_len hv.2.1 B.length).1
  have := hv.1
  rw [packB_len]
  have h1 : 1033 * B.length ≤ 1033 * 128 := Nat.mul_le_mul_left _ hv.1
  omega
theorem packRAns_small (B : List PB) (roots : List (List Int)) : sizeByteS (packRAns B roots).1 ≤ 140000 := by
  unfold packRAns sizeByteS
  split
  · rename_i hv
    split
    · simp
    · exact packB_max (validS_filter hv _)
  · simp
theorem slO_own {w w' : World} {r : Sl} {l : List Int} (h : SlO w w' [] ty_uint8 1 r (u8s l)) (hb : bytesOk l) : ∃ L, At w w' L ∧ OwnByteS r l L := by
  obtain ⟨L, hO, hA⟩ := h.split
  exact ⟨L, by simpa using hA, hO, hb⟩
theorem ownB_nil : OwnByteS ⟨none, 0, 0⟩ [] [] := ⟨OwnS.nil _ _, fun b hb => by cases hb⟩
theorem c_spec_PackReachable {w : World} {r : Array Value} {x : Sl} {B : List PB} {ks : List (List Int)} (hr : RdStore w r B) (hx : RdKeyS w x ks) (hz : sizeBs B ≤ 1073741824) (hzk : sizeKeyS ks ≤ 1073741824) :
    Ret Tryz.prog n_spec_PackReachable [.agg r, .slice x.a x.n x.c] w [.slice, .int .i64] (fun y w' => ∃ L, At w w' L ∧ OwnByteS y.1 (packRAns B ks).1 L ∧ y.2 = (packRAns B ks).2) := spec_PackReachable_calls _ _ (by
  unfold spec_PackReachable
  have hBok := hr.ok
  obtain ⟨s, bs, rfl, hpb, hs⟩ := hr
  have hx : KsR w x ks := hx
  have hxn := hx.n
  have hl := le_sizeBs B
  have hbl : bs.length = B.length := by rw [← hpb]; simp
  refine r_new (At.refl w) fun b2 w1 h => ?_
  refine r_call h (c_l05Asked (p := ⟨b2, 0, none⟩) (x := x) (fun n => ldOk_own h 0 rfl 0 rfl (by simp [Sh.emb])) (hs.at h.nil)) fun r w3 h3 _ ⟨hr2, hr⟩ => ?_
  rw [hpb] at hr hr2
  have none_ : ∀ {w' : World} {ls : List Blk} {c : Int}, At w w' ls → (packRAns B ks) = ([], c) → ((real Tryz.prog (RR w [.slice, .int .i64] (fun y w' => ∃ L, At w w' L ∧ OwnByteS y.1 (packRAns B ks).1 L ∧ y.2 = (packRAns B ks).2))).sem (Instr.buildSlice ty_sl_uint8 0 #[]) .slice fun y => (real Tryz.prog (RR w [.slice, .int .i64] (fun y w' => ∃ L, At w w' L ∧ OwnByteS y.1 (packRAns B ks).1 L ∧ y.2 = (packRAns B ks).2))).ret (.tuple #[.slice y.a y.n y.c, .int .i64 c]) : World → Prop) w' := fun h hans => by
    rw [hans]
    refine r_bs0 T_sl_uint8 h.nil fun y w2 hy hyn => ?_
    obtain ⟨Ly, hOy, hA⟩ := hy.split
    exact r_ret hA.nil (y, _) rfl ⟨Ly, by simpa using hA, ⟨by simpa [u8s] using hOy, fun b hb => by cases hb⟩, rfl⟩
  by_cases hv : validS B
  · obtain ⟨b, L, hr1, hL, hO⟩ := hr hv
    rw [if_pos hv] at hr2
    by_cases hgt : 256 < x.n
    · rw [if_pos hgt] at hr2
      rw [hr2]
      refine r_true rfl ?_
      exact none_ h3 (by unfold packRAns; rw [if_pos hv, if_pos (by omega)])
    · rw [if_neg hgt] at hr2
      rw [hr2, hr1]
      refine r_false rfl ?_
      have hans : packRAns B ks = (packB (B.filter fun b => decide (b.key ∈ reachedK B ks true)), 0) := by unfold packRAns; rw [if_pos hv, if_neg (by omega)]
      rw [hans]
      have h : At w w3 (L ++ []) := by
        rw [List.append_nil]
        exact (h.join hL).left
      have hbok := fun {w' : World} {ls : List Blk} (h : At w w' ls) b hb => (hs.at h.nil).ok b hb
      have hB128 : B.length ≤ 128 := hv.1
      have hkl : (keysOf B).length = B.length := keysOf_len B
      refine r_call h (c_spec_reach (hO.rd h (keysOf_ok _) (hbok h)) hpb hv (hx.at h) (by omega)) fun r22 w4 h4 _ ⟨D, out, Lf, Lm, hL4, hOf, hOm, hmn, hml, hD, hout, hok⟩ => ?_
      have h := h.join hL4
      have h : At w w4 (Lm ++ (Lf ++ (L ++ []))) := by simpa using h
      have hfl : SlAt w4 r22.1 1 (bools (flagsOf B D)) := hOf.sl h.pl1 (List.sublist_append_left _ _)
      refine r_call h (c_keep (hO.rd h.pl2 (keysOf_ok _) (hbok h)) (by omega) hfl (by rw [flagsOf_len]; omega) (by omega)) fun r27 w5 h5 _ ⟨b2', L2, hr27, hL2, hO2⟩ => ?_
      subst hr27
      have h := h.join hL2
      have hfB : (keepL (flagsOf B D) bs).map BR.pb = B.filter fun b => decide (b.key ∈ reachedK B ks true) := by
        rw [show flagsOf B D = (keysOf B).map (fun k => decide (k ∈ D)) from rfl, keepL_bs hpb]
        refine List.filter_congr fun b hb => ?_
        have hbk : b.key ∈ keysOf B := List.mem_map_of_mem (f := PB.key) hb
        rw [decide_eq_decide, hD _ hbk, reachedK_mem]
        exact ⟨fun hh => ⟨hh, decide_eq_true hbk⟩, fun hh => hh.1⟩
      have hfK : keepL (flagsOf B D) (keysOf B) = keysOf (B.filter fun b => decide (b.key ∈ reachedK B ks true)) := by
        have hkB : keysOf B = (bs.map BR.pb).map PB.key := by rw [hpb]; rfl
        rw [hkB, keepL_map, keepL_map, hfB]
        rfl
      rw [hfK] at hO2
      have hbok2 : ∀ b ∈ keepL (flagsOf B D) bs, b.Ok w5 := fun b hb => hbok h b ((keepL_sub _ _).subset hb)
      have hvF := validS_filter hv (fun b => decide (b.key ∈ reachedK B ks true))
      refine r_call h (c_l06Pack (hO2.rd h (keysOf_ok _) hbok2) hfB hvF) fun r28 w6 h6 _ hS => ?_
      obtain ⟨Lr, hAr, hOr⟩ := slO_own hS (packB_ok hvF fun b hb => hBok b (List.mem_filter.1 hb).1)
      exact r_ret h6.nil (r28, (0 : Int)) rfl ⟨Lr, (h.join hAr).left, hOr, rfl⟩
  · rw [if_neg hv] at hr2
    rw [hr2]
    refine r_true rfl ?_
    exact none_ h3 (by unfold packRAns; rw [if_neg hv]))
theorem c_PackReachable_1 {w : World} {p : Addr} {y : Sl} {ks : List (List Int)} {k : List Int} (hl : ldOk w 1 p .slice y) (hy : KsR w y ks) (hk : keyOk k) (hmax : ks.length ≤ 1073741824) :
    Ret Tryz.prog n_impl_PackReachable_1 [.agg (u8s k).toArray, .pointer (some p)] w [.bool] (fun r _ => r = decide (k ∈ ks)) := impl_PackReachable_1_calls _ _ (by
  unfold impl_PackReachable_1
  refine r_new (At.refl w) fun b2 w1 h => ?_
  have h : At w w1 [(b2, (u8s k).toArray, ty_impl_Key)] := h
  refine r_ldN (sh := .slice) y (ldOk_below h.below hl) ?_
  refine r_ldA h 0 rfl rfl (by simp [hk.1]) ?_
  refine r_call h (c_ContainsK (hy.at h) hk hmax) fun r w2 h _ hr => ?_
  exact r_ret h.nil r rfl hr)
theorem c_impl_PackReachable {w : World} {r : Array Value} {x : Sl} {B : List PB} {ks : List (List Int)} (hr : RdStore w r B) (hx : RdKeyS w x ks) (hz : sizeBs B ≤ 1073741824) (hzk : sizeKeyS ks ≤ 1073741824) :
    Ret Tryz.prog n_impl_PackReachable [.agg r, .slice x.a x.n x.c] w [.slice, .int .i64] (fun y w' => ∃ L, At w w' L ∧ OwnByteS y.1 (packRAns B ks).1 L ∧ y.2 = (packRAns B ks).2) := impl_PackReachable_calls _ _ (by
  unfold impl_PackReachable
  have hBok := hr.ok
  obtain ⟨s, bs, rfl, hpb, hs⟩ := hr
  have hx : KsR w x ks := hx
  have hxn := hx.n
  have hl := le_sizeBs B
  have hbl : bs.length = B.length := by rw [← hpb]; simp
  refine r_new (At.refl w) fun b2 w1 h => ?_
  refine r_ldA h 0 rfl rfl rfl ?_
  refine r_bs1 (t := ty_sl_sl_impl_Key) T_sl_slKey h (v := .slice x.a x.n x.c) (by simp [Value.cells]) (by omega) fun y11 w2 hy hyn => ?_
  have hyat : SlAt w2 y11 1 [.slice x.a x.n x.c] := by
    obtain ⟨Ly, hOy, h⟩ := hy.split
    exact hOy.sl h (List.sublist_append_left _ _)
  have h := hy.at_
  refine r_call h (c_reachCode (hs.at h) (by omega) hyat) fun r12 w3 h3 _ hr => ?_
  rw [hpb] at hr
  rcases hr with ⟨hv, hle, b, L, rfl, hL, hO⟩ | ⟨hv, hgt, rfl⟩ | ⟨hv, rfl⟩
  · have hans : packRAns B ks = (packB (B.filter fun b => decide (b.key ∈ reachedK B ks true)), 0) := by unfold packRAns; rw [if_pos hv, if_neg (by omega)]
    rw [hans]
    refine r_false rfl ?_
    have h : At w w3 (L ++ []) := by
      rw [List.append_nil]
      exact (h.join hL).left
    have hbok := fun {w' : World} {ls : List Blk} (h : At w w' ls) b hb => (hs.at h.nil).ok b hb
    have hvF := validS_filter hv (fun b => decide (b.key ∈ reachedK B ks true))
    have hkok : ∀ k ∈ reachedK B ks true, keyOk k := fun k hk => getsTo_ok (bytes_of hpb (hbok h)) hx.ok ((reachedK_mem B ks _ k).1 hk).1
    have hkl : (reachedK B ks true).length ≤ 128 := by
      have h1 := nodup_le (Asc.nodup (reachedK_asc B ks true)) fun k hk => (of_decide_eq_true ((reachedK_mem B ks true k).1 hk).2 : k ∈ keysOf B)
      have h2 := hv.1
      rw [keysOf_len] at h1
      omega
    refine r_call h (c_reached (t := true) (hO.rd h (keysOf_ok _) (hbok h)) hpb hv (hx.at h) (by omega)) fun r20 w4 h4 _ ⟨hS, hn⟩ => ?_
    obtain ⟨Lr, hOr, h⟩ := SlO.own_of h hS
    refine r_new h fun b8 w5 h => ?_
    refine r_st h 0 rfl rfl (by simp [Value.cells]) rfl fun w6 h => ?_
    have h : At w w6 ([(b8, #[.slice r20.a r20.n r20.c], ty_sl_impl_Key)] ++ (Lr ++ (L ++ []))) := h
    have l8 : ldOk w6 1 (⟨b8, 0, none⟩ : Addr) .slice r20 := ldOk_own (sh := .slice) h 0 rfl 0 rfl (by simp [Sh.emb])
    have hkR : KsR w6 r20 (reachedK B ks true) := ownS_ks hOr h.pl1 (List.sublist_append_left _ _) hkok
    unfold sizeKeyS at hzk
    refine r_call h (c_kept (hO.rd h.pl2 (keysOf_ok _) (hbok h)) (by rw [hpb]) (by omega) (fun b hb => by
      have : b.pb ∈ B := by rw [← hpb]; exact List.mem_map_of_mem (f := BR.pb) hb
      have := hv.2.1 _ this
      have : b.data.length ≤ 1024 := this
      omega) (by kernel_rfl) (fun k => decide (k ∈ reachedK B ks true)) (fun w' k hb hk => c_PackReachable_1 (ldOk_below hb l8) (hkR.below hb) hk (by omega))) fun r24 w7 h7 _ ⟨t, bs', L', hr24, hF, hL', hO'⟩ => ?_
    subst hr24
    have h := h.join hL'
    rw [hpb] at hF
    refine r_call h (c_impl_pack (hO'.rd h (by rw [hF]; exact fun b hb => hBok b (List.mem_filter.1 hb).1)) hF hvF) fun r25 w8 h8 _ hS => ?_
    obtain ⟨Lq, hAq, hOq⟩ := slO_own hS (packB_ok hvF fun b hb => hBok b (List.mem_filter.1 hb).1)
    exact r_ret h8.nil (r25, (0 : Int)) rfl ⟨Lq, (h.join hAq).left, hOq, rfl⟩
  · have hans : packRAns B ks = ([], 3) := by unfold packRAns; rw [if_pos hv, if_pos (by omega)]
    rw [hans]
    refine r_true rfl ?_
    exact r_ret h3.nil (⟨none, 0, 0⟩, (3 : Int)) rfl ⟨[], h3.nil, ownB_nil, rfl⟩
  · have hans : packRAns B ks = ([], 1) := by unfold packRAns; rw [if_neg hv]
    rw [hans]
    refine r_true rfl ?_
    exact r_ret h3.nil (⟨none, 0, 0⟩, (1 : Int)) rfl ⟨[], h3.nil, ownB_nil, rfl⟩)
end Go.Proofs.YtkifkdkjljcclaaGreat
