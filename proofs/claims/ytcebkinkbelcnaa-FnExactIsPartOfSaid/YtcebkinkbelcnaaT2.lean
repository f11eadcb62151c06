/- IsPartOf: what the program and the reference answer. Printed in part by a program of this claim's author. -/
import Derived.Test.YtcebkinkbelcnaaT1
namespace Go.Proofs.Ytcebkinkbelcnaa
open Go.Sx Go.RowKit

def samePart (B : List PB) (a : PB) : Bool := decide (a.key ∈ keysOf B ∧ B[posK (keysOf B) a.key]? = some a)
def partAns (A B : List PB) : Bool × Int := if validS A ∧ validS B then (A.all (samePart B), 0) else (false, 1)

theorem all_false {α : Type} {l : List α} {f : α → Bool} {i : Nat} {x : α} (hx : l[i]? = some x) (h : f x = false) : l.all f = false := by
  rw [List.all_eq_false]
  exact ⟨x, List.mem_of_getElem? hx, by simp [h]⟩
theorem all_take {α : Type} {l : List α} {f : α → Bool} {i : Nat} {x : α} (hx : l[i]? = some x) (ht : (l.take i).all f = true) (h : f x = true) : (l.take (i + 1)).all f = true := by
  rw [take_succ_get hx, List.all_append, ht]
  simp [h]

theorem ShopO.ex {b : Nat} {ks : List (List Int)} {bs : List BR} {L : List Blk} (h : ShopO b ks bs L) (hk : ∀ k ∈ ks, keyOk k) : ∃ sk sb : Sl, ∀ {w0 w : World} {ls : List Blk}, At w0 w (L ++ ls) → (∀ b ∈ bs, b.Ok w) →
    (∀ n, ldOk w n ((⟨b, 0, none⟩ : Addr).add 0) .slice sk) ∧ (∀ n, ldOk w n ((⟨b, 0, none⟩ : Addr).add 1) .slice sb) ∧ KsR w sk ks ∧ BsR w sb bs := by
  obtain ⟨sk, sb, Lk, Lb, rfl, h1, h2⟩ := h
  refine ⟨sk, sb, fun hA hb => ⟨fun n => ldOk_own hA 0 rfl 0 rfl (by simp [Sh.emb]), fun n => ldOk_own hA 0 rfl 1 rfl (by simp [Sh.emb]), ownS_ks h1 hA ?_ hk, ⟨h2.of hA ?_ (fun b _ => cells_len b) (by omega), hb⟩⟩⟩
  · exact ((List.sublist_append_left _ _).trans (List.sublist_cons_self _ _)).trans (List.sublist_append_left _ _)
  · exact ((List.sublist_append_right _ _).trans (List.sublist_cons_self _ _)).trans (List.sublist_append_left _ _)
theorem SpecO.ex {b : Nat} {ks : List (List Int)} {bs : List BR} {L : List Blk} (h : SpecO b ks bs L) (hk : ∀ k ∈ ks, keyOk k) : ∃ sk sb : Sl, ∀ {w0 w : World} {ls : List Blk}, At w0 w (L ++ ls) → (∀ b ∈ bs, b.Ok w) →
    (∀ n, ldOk w n ((⟨b, 0, none⟩ : Addr).add 1) .slice sk) ∧ (∀ n, ldOk w n ((⟨b, 0, none⟩ : Addr).add 0) .slice sb) ∧ KsR w sk ks ∧ BsR w sb bs := by
  obtain ⟨sk, sb, Lk, Lb, rfl, h1, h2⟩ := h
  refine ⟨sk, sb, fun hA hb => ⟨fun n => ldOk_own hA 0 rfl 1 rfl (by simp [Sh.emb]), fun n => ldOk_own hA 0 rfl 0 rfl (by simp [Sh.emb]), ownS_ks h1 hA ?_ hk, ⟨h2.of hA ?_ (fun b _ => cells_len b) (by omega), hb⟩⟩⟩
  · exact ((List.sublist_append_right _ _).trans (List.sublist_append_right _ _)).trans (List.sublist_append_left _ _)
  · exact ((List.sublist_append_left _ _).trans (List.sublist_append_right _ _)).trans (List.sublist_append_left _ _)

theorem c_impl_IsPartOf {w : World} {r r' : Array Value} {A B : List PB} (hr : RdStore w r A) (hr' : RdStore w r' B) (hz : sizeBs A ≤ 1073741824) (hz' : sizeBs B ≤ 1073741824) :
    Ret Try.prog n_impl_IsPartOf [.agg r, .agg r'] w [.bool, .int .i64] (fun x _ => x.1 = (partAns A B).1 ∧ x.2 = (partAns A B).2) := impl_IsPartOf_calls _ _ (by
  unfold impl_IsPartOf
  obtain ⟨s, bs, rfl, hpb, hs⟩ := hr
  obtain ⟨s', bs', rfl, hpb', hs'⟩ := hr'
  have hl := le_sizeBs A
  have hl' := le_sizeBs B
  have hbl : bs.length = A.length := by rw [← hpb]; simp
  have hbl' : bs'.length = B.length := by rw [← hpb']; simp
  have bad : ¬ (validS A ∧ validS B) → ((false, 1) : Bool × Int).1 = (partAns A B).1 ∧ ((false, 1) : Bool × Int).2 = (partAns A B).2 := by
    intro hh
    unfold partAns
    rw [if_neg hh]
    exact ⟨rfl, rfl⟩
  refine r_new (At.refl w) fun b2 w1 h => ?_
  refine r_new h fun b3 w2 h => ?_
  refine r_ldA h 1 rfl rfl rfl ?_
  refine r_call h (c_newShop (hs.at h) (by omega)) fun r w4 h4 hb4 hr => ?_
  rw [hpb] at hr
  rcases hr with ⟨hv, b, L, rfl, hL, hO⟩ | ⟨hv, rfl⟩
  · have h : At w w4 ([(b3, #[.slice s'.a s'.n s'.c], ty_impl_Store), (b2, #[.slice s.a s.n s.c], ty_impl_Store)] ++ (L ++ [])) := by rw [List.append_nil]; exact (h.join hL).swap
    refine r_ldA h 0 rfl rfl rfl ?_
    refine r_call h (c_newShop (hs'.at h.nil) (by omega)) fun r' w5 h5 hb5 hr' => ?_
    rw [hpb'] at hr'
    refine r_joinI ?_
    refine r_false rfl ?_
    rcases hr' with ⟨hv', b', L', rfl, hL', hO'⟩ | ⟨hv', rfl⟩
    · have h := (h.join hL').rot
      refine r_false rfl ?_
      refine ⟨(), rfl, ?_⟩
      refine r_any fun _ => ?_
      have hans : partAns A B = (A.all (samePart B), 0) := by unfold partAns; rw [if_pos ⟨hv, hv'⟩]
      rw [hans]
      have rd2 : ∀ {w' : World} {ls : List Blk}, At w w' (L' ++ ls) → ShopR w' ⟨b', 0, none⟩ (keysOf B) bs' := fun hA => hO'.rd hA (keysOf_ok _) (fun b hb => (hs'.at hA.nil).ok b hb)
      obtain ⟨sk, sb, rx1⟩ := hO.ex (keysOf_ok _)
      obtain ⟨sk2, sb2, rx2⟩ := hO'.ex (keysOf_ok _)
      replace rx1 := fun {w' : World} {ls : List Blk} (hA : At w w' (L ++ ls)) => rx1 hA (fun b hb => (hs.at hA.nil).ok b hb)
      replace rx2 := fun {w' : World} {ls : List Blk} (hA : At w w' (L' ++ ls)) => rx2 hA (fun b hb => (hs'.at hA.nil).ok b hb)
      have hkn := (rx1 h.pl2).2.2.1.n
      rw [keysOf_len] at hkn
      refine r_dp rfl ?_
      refine r_ldN sk ((rx1 h.pl2).1 1) ?_
      refine r_loop (σ := Int) (fun i w' => ∃ (j : Nat), i = j ∧ j ≤ A.length ∧ (A.take j).all (samePart B) = true ∧ At w w' ([(b3, #[.slice s'.a s'.n s'.c], ty_impl_Store), (b2, #[.slice s.a s.n s.c], ty_impl_Store)] ++ (L' ++ (L ++ [])))) (fun i _ => (sk.n - i).toNat) 0 rfl
        ⟨0, rfl, by omega, by simp, h⟩ ?_
      rintro i w7 ⟨j, rfl, hj, hall, h⟩
      refine r_any fun _ => ?_
      refine r_if ((j : Int) < (sk.n : Int)) rfl (fun hlt => ?_) (fun hge => ?_)
      · obtain ⟨x, q, hx, hxm, hq, hxo, hxl⟩ := (rx1 h.pl2).2.2.1.get (i := j) (by rw [keysOf_len]; omega)
        obtain ⟨a, ha⟩ : ∃ a, bs[j]? = some a := ⟨_, List.getElem?_eq_getElem (show j < bs.length by omega)⟩
        have hAa := pb_get hpb ha
        have hxa : x = a.pb.key := by
          have := keysOf_get hAa
          rw [hx] at this
          exact Option.some.inj this
        subst hxa
        refine r_ix q hq (by omega) (by omega) ?_
        refine r_ldN (u8s a.pb.key).toArray (by simp only [Int.toNat_natCast]; exact hxl) ?_
        refine r_new h fun b11 w8 h8 => ?_
        refine r_stA h8 0 rfl rfl (by simp [hxo.1]) (by simp [Value.cells]) (by simpa using u8s_one) fun w9 h9 => ?_
        refine r_ldA h9 0 rfl rfl (by simp [hxo.1]) ?_
        have h9 : At w w9 ([(b3, #[.slice s'.a s'.n s'.c], ty_impl_Store), (b2, #[.slice s.a s.n s.c], ty_impl_Store)] ++ (L' ++ (L ++ []))) := At.tail h9
        refine r_call h9 (c_get (rd2 h9.pl1) hv'.2.2 (by rw [keysOf_len, hbl']) hxo (by rw [keysOf_len]; omega)) fun r w10 h10 hb10 hr => ?_
        refine r_new h10 fun b12 w11 h11 => ?_
        rcases hr with ⟨hm, b, hb, rfl⟩ | ⟨hm, rfl⟩
        · refine r_stA h11 0 rfl rfl rfl rfl (by simpa using cells_one b) fun w12 h12 => ?_
          have h : At w w12 ((b12, b.cells.toArray, ty_impl_Blob) :: [(b3, #[.slice s'.a s'.n s'.c], ty_impl_Store), (b2, #[.slice s.a s.n s.c], ty_impl_Store)] ++ (L' ++ (L ++ []))) := h12
          refine r_draw h fun w13 h => ?_
          refine r_false rfl ?_
          refine r_dp rfl ?_
          refine ⟨?_, ?_⟩
          · refine r_ldA h 0 rfl rfl rfl ?_
            refine r_ldN sb ((rx1 h.pl2).2.1 1) ?_
            obtain ⟨a', qb, ha', _, hqb, _, hag, _, _⟩ := (rx1 h.pl2).2.2.2.get (i := j) (by omega)
            rw [ha] at ha'
            cases ha'
            have hbn := (rx1 h.pl2).2.2.2.n
            refine r_ix qb hqb (by omega) (by omega) ?_
            refine r_ldN a.cells.toArray (by simp only [Int.toNat_natCast]; exact hag) ?_
            refine r_call h (c_SameBlob (c := a) ((rx2 h.pl1).2.2.2.ok _ (List.mem_of_getElem? hb)) ((rx1 h.pl2).2.2.2.ok _ (List.mem_of_getElem? ha))) fun r w12 h12 _ hr => ?_
            have hcell : samePart B a.pb = r := by
              unfold samePart
              have hBb := pb_get hpb' hb
              have : (a.pb.key ∈ keysOf B ∧ B[posK (keysOf B) a.pb.key]? = some a.pb) ↔ r = true := by
                rw [hr, hBb]
                constructor
                · rintro ⟨_, e⟩
                  exact Option.some.inj e
                · intro e
                  exact ⟨hm, by rw [e]⟩
              by_cases hrt : r = true
              · rw [hrt, decide_eq_true (this.2 hrt)]
              · rw [decide_eq_false (fun hh => hrt (this.1 hh))]; simpa using hrt
            by_cases hrt : r = true
            · subst hrt
              refine r_false rfl ?_
              exact ⟨((j + 1 : Nat) : Int), by rw [w64 (by omega) (by omega)]; rfl, ⟨j + 1, rfl, by omega, all_take hAa hall hcell, h12.tail⟩, by omega⟩
            · have hrf : r = false := by simpa using hrt
              subst hrf
              refine r_true rfl ?_
              exact r_ret h12.nil (false, 0) rfl ⟨(all_false hAa hcell).symm, rfl⟩
          · refine r_ldN sb ((rx1 h.pl2).2.1 1) ?_
            obtain ⟨a', qb, ha', _, hqb, _, hag, _, _⟩ := (rx1 h.pl2).2.2.2.get (i := j) (by omega)
            rw [ha] at ha'
            cases ha'
            have hbn := (rx1 h.pl2).2.2.2.n
            refine r_ix qb hqb (by omega) (by omega) ?_
            refine ⟨?_, ?_⟩
            · refine r_ldA h 0 rfl rfl rfl ?_
              refine r_ldN a.cells.toArray (by simp only [Int.toNat_natCast]; exact hag) ?_
              refine r_call h (c_SameBlob (c := a) ((rx2 h.pl1).2.2.2.ok _ (List.mem_of_getElem? hb)) ((rx1 h.pl2).2.2.2.ok _ (List.mem_of_getElem? ha))) fun r w12 h12 _ hr => ?_
              have hcell : samePart B a.pb = r := by
                unfold samePart
                have hBb := pb_get hpb' hb
                have : (a.pb.key ∈ keysOf B ∧ B[posK (keysOf B) a.pb.key]? = some a.pb) ↔ r = true := by
                  rw [hr, hBb]
                  constructor
                  · rintro ⟨_, e⟩
                    exact Option.some.inj e
                  · intro e
                    exact ⟨hm, by rw [e]⟩
                by_cases hrt : r = true
                · rw [hrt, decide_eq_true (this.2 hrt)]
                · rw [decide_eq_false (fun hh => hrt (this.1 hh))]; simpa using hrt
              by_cases hrt : r = true
              · subst hrt
                refine r_false rfl ?_
                exact ⟨((j + 1 : Nat) : Int), by rw [w64 (by omega) (by omega)]; rfl, ⟨j + 1, rfl, by omega, all_take hAa hall hcell, h12.tail⟩, by omega⟩
              · have hrf : r = false := by simpa using hrt
                subst hrf
                refine r_true rfl ?_
                exact r_ret h12.nil (false, 0) rfl ⟨(all_false hAa hcell).symm, rfl⟩
            · refine r_ldN a.cells.toArray (by simp only [Int.toNat_natCast]; exact hag) ?_
              refine r_ldA h 0 rfl rfl rfl ?_
              refine r_call h (c_SameBlob (c := a) ((rx2 h.pl1).2.2.2.ok _ (List.mem_of_getElem? hb)) ((rx1 h.pl2).2.2.2.ok _ (List.mem_of_getElem? ha))) fun r w12 h12 _ hr => ?_
              have hcell : samePart B a.pb = r := by
                unfold samePart
                have hBb := pb_get hpb' hb
                have : (a.pb.key ∈ keysOf B ∧ B[posK (keysOf B) a.pb.key]? = some a.pb) ↔ r = true := by
                  rw [hr, hBb]
                  constructor
                  · rintro ⟨_, e⟩
                    exact Option.some.inj e
                  · intro e
                    exact ⟨hm, by rw [e]⟩
                by_cases hrt : r = true
                · rw [hrt, decide_eq_true (this.2 hrt)]
                · rw [decide_eq_false (fun hh => hrt (this.1 hh))]; simpa using hrt
              by_cases hrt : r = true
              · subst hrt
                refine r_false rfl ?_
                exact ⟨((j + 1 : Nat) : Int), by rw [w64 (by omega) (by omega)]; rfl, ⟨j + 1, rfl, by omega, all_take hAa hall hcell, h12.tail⟩, by omega⟩
              · have hrf : r = false := by simpa using hrt
                subst hrf
                refine r_true rfl ?_
                exact r_ret h12.nil (false, 0) rfl ⟨(all_false hAa hcell).symm, rfl⟩
        · refine r_stA h11 0 rfl rfl rfl rfl (by simp [oneC]) fun w12 h12 => ?_
          refine r_draw h12 fun w13 h => ?_
          refine r_true rfl ?_
          have hcell : samePart B a.pb = false := by unfold samePart; exact decide_eq_false fun hh => hm hh.1
          exact ⟨r_ret h.nil (false, 0) rfl ⟨(all_false hAa hcell).symm, rfl⟩, ⟨r_ret h.nil (false, 0) rfl ⟨(all_false hAa hcell).symm, rfl⟩, r_ret h.nil (false, 0) rfl ⟨(all_false hAa hcell).symm, rfl⟩⟩⟩
      · have : j = A.length := by omega
        subst this
        rw [List.take_of_length_le (Nat.le_refl _)] at hall
        exact r_ret h.nil (true, 0) rfl ⟨hall.symm, rfl⟩
    · refine r_true rfl ?_
      exact r_ret h5.nil (false, 1) rfl (bad fun hh => hv' hh.2)
  · refine r_ldA h4 0 rfl rfl rfl ?_
    refine r_call h4 (c_newShop (hs'.at h4) (by omega)) fun r' w5 h5 hb5 hr' => ?_
    refine r_joinI ?_
    refine r_true rfl ?_
    exact r_ret h5.nil (false, 1) rfl (bad fun hh => hv hh.1))

theorem c_spec_IsPartOf {w : World} {r r' : Array Value} {A B : List PB} (hr : RdStore w r A) (hr' : RdStore w r' B) (hz : sizeBs A ≤ 1073741824) (hz' : sizeBs B ≤ 1073741824) :
    Ret Try.prog n_spec_IsPartOf [.agg r, .agg r'] w [.bool, .int .i64] (fun x _ => x.1 = (partAns A B).1 ∧ x.2 = (partAns A B).2) := spec_IsPartOf_calls _ _ (by
  unfold spec_IsPartOf
  obtain ⟨s, bs, rfl, hpb, hs⟩ := hr
  obtain ⟨s', bs', rfl, hpb', hs'⟩ := hr'
  have hl := le_sizeBs A
  have hl' := le_sizeBs B
  have hbl : bs.length = A.length := by rw [← hpb]; simp
  have hbl' : bs'.length = B.length := by rw [← hpb']; simp
  have bad : ¬ (validS A ∧ validS B) → ((false, 1) : Bool × Int).1 = (partAns A B).1 ∧ ((false, 1) : Bool × Int).2 = (partAns A B).2 := by
    intro hh
    unfold partAns
    rw [if_neg hh]
    exact ⟨rfl, rfl⟩
  refine r_new (At.refl w) fun b2 w1 h => ?_
  refine r_new h fun b3 w2 h => ?_
  refine r_call h (c_l05Open (p := ⟨b2, 0, none⟩) (fun n => ldOk_own h 1 rfl 0 rfl (by simp [Sh.emb])) (hs.at h.nil)) fun r w4 h4 hb4 ⟨hr2, b, hr1, hr⟩ => ?_
  rw [hpb] at hr hr2
  by_cases hv : validS A
  · obtain ⟨L, hL, hO⟩ := hr hv
    have h : At w w4 ([(b3, #[.slice s'.a s'.n s'.c], ty_impl_Store), (b2, #[.slice s.a s.n s.c], ty_impl_Store)] ++ (L ++ [])) := by rw [List.append_nil]; exact (h.join hL).swap
    refine r_call h (c_l05Open (p := ⟨b3, 0, none⟩) (fun n => ldOk_own h 0 rfl 0 rfl (by simp [Sh.emb])) (hs'.at h.nil)) fun r' w5 h5 hb5 ⟨hr2', b', hr1', hr'⟩ => ?_
    rw [hpb'] at hr' hr2'
    refine r_joinI ?_
    rw [hr2, decide_eq_true hv]
    refine r_false rfl ?_
    by_cases hv' : validS B
    · obtain ⟨L', hL', hO'⟩ := hr' hv'
      have h := (h.join hL').rot
      rw [hr2', decide_eq_true hv', hr1, hr1']
      refine r_false rfl ?_
      refine ⟨(), rfl, ?_⟩
      refine r_any fun _ => ?_
      have hans : partAns A B = (A.all (samePart B), 0) := by unfold partAns; rw [if_pos ⟨hv, hv'⟩]
      rw [hans]
      have rd2 : ∀ {w' : World} {ls : List Blk}, At w w' (L' ++ ls) → SpecR w' ⟨b', 0, none⟩ (keysOf B) bs' := fun hA => hO'.rd hA (keysOf_ok _) (fun b hb => (hs'.at hA.nil).ok b hb)
      obtain ⟨sk, sb, rx1⟩ := hO.ex (keysOf_ok _)
      obtain ⟨sk2, sb2, rx2⟩ := hO'.ex (keysOf_ok _)
      replace rx1 := fun {w' : World} {ls : List Blk} (hA : At w w' (L ++ ls)) => rx1 hA (fun b hb => (hs.at hA.nil).ok b hb)
      replace rx2 := fun {w' : World} {ls : List Blk} (hA : At w w' (L' ++ ls)) => rx2 hA (fun b hb => (hs'.at hA.nil).ok b hb)
      have hkn := (rx1 h.pl2).2.2.1.n
      have hsn := (rx1 h.pl2).2.2.2.n
      rw [keysOf_len] at hkn
      refine r_loop (σ := Int) (fun i w' => ∃ (j : Nat), i = j ∧ j ≤ A.length ∧ (A.take j).all (samePart B) = true ∧ At w w' ([(b3, #[.slice s'.a s'.n s'.c], ty_impl_Store), (b2, #[.slice s.a s.n s.c], ty_impl_Store)] ++ (L' ++ (L ++ [])))) (fun i _ => (sb.n - i).toNat) 0 rfl
        ⟨0, rfl, by omega, by simp, h⟩ ?_
      rintro i w7 ⟨j, rfl, hj, hall, h⟩
      refine r_any fun _ => ?_
      refine r_dp rfl ?_
      refine r_ldN sb ((rx1 h.pl2).2.1 1) ?_
      refine r_if ((j : Int) < (sb.n : Int)) rfl (fun hlt => ?_) (fun hge => ?_)
      · obtain ⟨x, q, hx, hxm, hq, hxo, hxl⟩ := (rx1 h.pl2).2.2.1.get (i := j) (by rw [keysOf_len]; omega)
        obtain ⟨a, ha⟩ : ∃ a, bs[j]? = some a := ⟨_, List.getElem?_eq_getElem (show j < bs.length by omega)⟩
        have hAa := pb_get hpb ha
        have hxa : x = a.pb.key := by
          have := keysOf_get hAa
          rw [hx] at this
          exact Option.some.inj this
        subst hxa
        refine r_dp rfl ?_
        refine r_ldN sk ((rx1 h.pl2).1 1) ?_
        refine r_ix q hq (by omega) (by omega) ?_
        refine r_ldN (u8s a.pb.key).toArray (by simp only [Int.toNat_natCast]; exact hxl) ?_
        refine r_call h (c_spec_find (rd2 h.pl1) hv'.2.2 hxo (by rw [keysOf_len]; omega)) fun r w8 h _ hr => ?_
        subst hr
        refine r_draw h fun w9 h => ?_
        by_cases hm : a.pb.key ∈ keysOf B
        · rw [if_pos hm]
          refine r_if ((posK (keysOf B) a.pb.key : Int) < 0) rfl (fun hh => by omega) (fun _ => ?_)
          have hp := (posK_mem hv'.2.2).1 hm
          have hplt := (List.getElem?_eq_some_iff.1 hp).1
          rw [keysOf_len] at hplt
          refine r_dp rfl ?_
          refine r_dp rfl ?_
          refine ⟨?_, ?_⟩
          · refine r_ldN sb ((rx1 h.pl2).2.1 1) ?_
            obtain ⟨a', qa, ha', _, hqa, hat, _⟩ := (rx1 h.pl2).2.2.2.bat (i := j) (by omega)
            rw [ha] at ha'
            cases ha'
            have hbn := (rx1 h.pl2).2.2.2.n
            refine r_ix qa hqa (by omega) (by omega) ?_
            refine r_ldN sb2 ((rx2 h.pl1).2.1 1) ?_
            obtain ⟨b, qb, hb, _, hqb, hbt, _⟩ := (rx2 h.pl1).2.2.2.bat (i := posK (keysOf B) a.pb.key) (by omega)
            have hbn2 := (rx2 h.pl1).2.2.2.n
            refine r_ix qb hqb (by omega) (by omega) ?_
            refine r_call h (c_l05SameBlob (b := a) (c := b) (by simpa only [Int.toNat_natCast] using hat) (by simpa only [Int.toNat_natCast] using hbt) (by have := hv.2.1 _ (List.mem_of_getElem? hAa); simp only [BR.pb] at this; omega)) fun r w12 h12 _ hr => ?_
            have hcell : samePart B a.pb = r := by
              unfold samePart
              have hBb := pb_get hpb' hb
              rw [hr, hBb]
              by_cases he : a.pb = b.pb
              · rw [decide_eq_true he, decide_eq_true ⟨hm, by rw [he]⟩]
              · rw [decide_eq_false he, decide_eq_false (fun hh => he (Option.some.inj hh.2).symm)]
            by_cases hrt : r = true
            · refine r_false (by rw [hrt]; rfl) ?_
              rw [hrt] at hcell
              exact ⟨((j + 1 : Nat) : Int), by rw [w64 (by omega) (by omega)]; rfl, ⟨j + 1, rfl, by omega, all_take hAa hall hcell, h12⟩, by omega⟩
            · have hrf : r = false := by simpa using hrt
              refine r_true (by rw [hrf]; rfl) ?_
              rw [hrf] at hcell
              exact r_ret h12.nil (false, 0) rfl ⟨(all_false hAa hcell).symm, rfl⟩
          · refine r_ldN sb2 ((rx2 h.pl1).2.1 1) ?_
            obtain ⟨b, qb, hb, _, hqb, hbt, _⟩ := (rx2 h.pl1).2.2.2.bat (i := posK (keysOf B) a.pb.key) (by omega)
            have hbn2 := (rx2 h.pl1).2.2.2.n
            refine r_ix qb hqb (by omega) (by omega) ?_
            refine r_ldN sb ((rx1 h.pl2).2.1 1) ?_
            obtain ⟨a', qa, ha', _, hqa, hat, _⟩ := (rx1 h.pl2).2.2.2.bat (i := j) (by omega)
            rw [ha] at ha'
            cases ha'
            have hbn := (rx1 h.pl2).2.2.2.n
            refine r_ix qa hqa (by omega) (by omega) ?_
            refine r_call h (c_l05SameBlob (b := a) (c := b) (by simpa only [Int.toNat_natCast] using hat) (by simpa only [Int.toNat_natCast] using hbt) (by have := hv.2.1 _ (List.mem_of_getElem? hAa); simp only [BR.pb] at this; omega)) fun r w12 h12 _ hr => ?_
            have hcell : samePart B a.pb = r := by
              unfold samePart
              have hBb := pb_get hpb' hb
              rw [hr, hBb]
              by_cases he : a.pb = b.pb
              · rw [decide_eq_true he, decide_eq_true ⟨hm, by rw [he]⟩]
              · rw [decide_eq_false he, decide_eq_false (fun hh => he (Option.some.inj hh.2).symm)]
            by_cases hrt : r = true
            · refine r_false (by rw [hrt]; rfl) ?_
              rw [hrt] at hcell
              exact ⟨((j + 1 : Nat) : Int), by rw [w64 (by omega) (by omega)]; rfl, ⟨j + 1, rfl, by omega, all_take hAa hall hcell, h12⟩, by omega⟩
            · have hrf : r = false := by simpa using hrt
              refine r_true (by rw [hrf]; rfl) ?_
              rw [hrf] at hcell
              exact r_ret h12.nil (false, 0) rfl ⟨(all_false hAa hcell).symm, rfl⟩
        · rw [if_neg hm]
          refine r_true rfl ?_
          have hcell : samePart B a.pb = false := by unfold samePart; exact decide_eq_false fun hh => hm hh.1
          exact ⟨r_ret h.nil (false, 0) rfl ⟨(all_false hAa hcell).symm, rfl⟩, r_ret h.nil (false, 0) rfl ⟨(all_false hAa hcell).symm, rfl⟩⟩
      · have : j = A.length := by omega
        subst this
        rw [List.take_of_length_le (Nat.le_refl _)] at hall
        exact r_ret h.nil (true, 0) rfl ⟨hall.symm, rfl⟩
    · rw [hr2', decide_eq_false hv']
      refine r_true rfl ?_
      exact r_ret h5.nil (false, 1) rfl (bad fun hh => hv' hh.2)
  · refine r_call h4 (c_l05Open (p := ⟨b3, 0, none⟩) (fun n => ldOk_own h4 0 rfl 0 rfl (by simp [Sh.emb])) (hs'.at h4.nil)) fun r' w5 h5 hb5 ⟨hr2', b', hr1', hr'⟩ => ?_
    refine r_joinI ?_
    rw [hr2, decide_eq_false hv]
    refine r_true rfl ?_
    exact r_ret h5.nil (false, 1) rfl (bad fun hh => hv hh.1))

end Go.Proofs.Ytcebkinkbelcnaa
