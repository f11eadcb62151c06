/- JoinStores: what the program and the reference answer. Printed by a program of this claim's author (s5.py). -/
import Derived.Test.YtcebkinkbelcnaaGreatS4
namespace Go.Proofs.YtcebkinkbelcnaaGreat
open Go.Sx Go.RowKit

def clashB (A : List PB) (c : PB) : Bool := decide (c.key ∈ keysOf A ∧ A[posK (keysOf A) c.key]? ≠ some c)
def joinAns (A B : List PB) : List PB × Int := if validS A ∧ validS B then (if B.any (clashB A) = true then ([], 8) else ((putsAns A zero32 B).1, (putsAns A zero32 B).2.2)) else ([], 1)

theorem any_true {α : Type} {l : List α} {f : α → Bool} {i : Nat} {x : α} (hx : l[i]? = some x) (h : f x = true) : l.any f = true := List.any_eq_true.2 ⟨x, List.mem_of_getElem? hx, h⟩
theorem any_take {α : Type} {l : List α} {f : α → Bool} {i : Nat} {x : α} (hx : l[i]? = some x) (ht : (l.take i).any f = false) (h : f x = false) : (l.take (i + 1)).any f = false := by
  rw [take_succ_get hx, List.any_append, ht]
  simp [h]

theorem ShopO.ex3 {b : Nat} {ks : List (List Int)} {bs : List BR} {L : List Blk} (h : ShopO b ks bs L) (hk : ∀ k ∈ ks, keyOk k) : ∃ (sk sb : Sl) (Lb : List Blk), OwnS ty_impl_Blob 2 sb (bs.flatMap BR.cells) Lb ∧ Lb.Sublist L ∧ ∀ {w0 w : World} {ls : List Blk}, At w0 w (L ++ ls) → (∀ b ∈ bs, b.Ok w) →
    (∀ n, ldOk w n ((⟨b, 0, none⟩ : Addr).add 0) .slice sk) ∧ (∀ n, ldOk w n ((⟨b, 0, none⟩ : Addr).add 1) .slice sb) ∧ KsR w sk ks ∧ BsR w sb bs := by
  obtain ⟨sk, sb, Lk, Lb, rfl, h1, h2⟩ := h
  refine ⟨sk, sb, Lb, h2, (List.sublist_append_right _ _).trans (List.sublist_cons_self _ _), fun hA hb => ⟨fun n => ldOk_own hA 0 rfl 0 rfl (by simp [Sh.emb]), fun n => ldOk_own hA 0 rfl 1 rfl (by simp [Sh.emb]), ownS_ks h1 hA ?_ hk, ⟨h2.of hA ?_ (fun b _ => cells_len b) (by omega), hb⟩⟩⟩
  · exact ((List.sublist_append_left _ _).trans (List.sublist_cons_self _ _)).trans (List.sublist_append_left _ _)
  · exact ((List.sublist_append_right _ _).trans (List.sublist_cons_self _ _)).trans (List.sublist_append_left _ _)

/-! ### The reference goes on behind a full store -/
def joinGo : List PB → Bool → List PB → List PB × Int
  | A, full, [] => if full then ([], 3) else (A, 0)
  | A, full, c :: r => if (putAns A c).2.2 = 8 then ([], 8) else joinGo (putAns A c).1 (if full then true else (putAns A c).2.2 == 3) r

theorem mem_at {A : List PB} (h : Asc (keysOf A)) (c : PB) : A[posK (keysOf A) c.key]? = some c ↔ c ∈ A := by
  constructor
  · exact List.mem_of_getElem?
  · intro hc
    obtain ⟨i, hi⟩ := List.mem_iff_getElem?.1 hc
    have hk := keysOf_get hi
    have := asc_inj h hk ((posK_mem h).1 (List.mem_of_getElem? hk))
    rw [← this, hi]
theorem clash_iff {A : List PB} (h : Asc (keysOf A)) (c : PB) : clashB A c = true ↔ c.key ∈ keysOf A ∧ c ∉ A := by
  unfold clashB
  rw [decide_eq_true_iff, ne_eq, mem_at h]
theorem mem_insAt_iff {α : Type} {i : Nat} {x y : α} {l : List α} : y ∈ insAt i x l ↔ y = x ∨ y ∈ l := by
  constructor
  · exact mem_insAt
  · unfold insAt
    rintro (rfl | h)
    · simp
    · rw [← List.take_append_drop i l] at h
      simp only [List.mem_append] at h ⊢
      rcases h with h | h
      · exact .inl (.inl h)
      · exact .inr h
theorem putAns_cases {A : List PB} (h : Asc (keysOf A)) (c : PB) : (clashB A c = true ∧ putAns A c = (A, zero32, 8)) ∨ (clashB A c = false ∧ ((c.key ∈ keysOf A ∧ c ∈ A ∧ putAns A c = (A, c.key, 0)) ∨ (c.key ∉ keysOf A ∧ 128 ≤ A.length ∧ putAns A c = (A, zero32, 3)) ∨ (c.key ∉ keysOf A ∧ ¬ 128 ≤ A.length ∧ putAns A c = (insAt (posK (keysOf A) c.key) c A, c.key, 0)))) := by
  have hc := clash_iff h c
  have hm := mem_at h c
  by_cases hk : c.key ∈ keysOf A
  · by_cases hi : c ∈ A
    · refine .inr ⟨?_, .inl ⟨hk, hi, ?_⟩⟩
      · have : ¬ clashB A c = true := fun hh => (hc.1 hh).2 hi
        simpa using this
      · unfold putAns; rw [if_pos hk, if_pos (hm.2 hi)]
    · refine .inl ⟨hc.2 ⟨hk, hi⟩, ?_⟩
      unfold putAns; rw [if_pos hk, if_neg (fun hh => hi (hm.1 hh))]
  · have h1 : clashB A c = false := by
      have : ¬ clashB A c = true := fun hh => hk (hc.1 hh).1
      simpa using this
    by_cases hl : 128 ≤ A.length
    · exact .inr ⟨h1, .inr (.inl ⟨hk, hl, by unfold putAns; rw [if_neg hk, if_pos hl]⟩)⟩
    · exact .inr ⟨h1, .inr (.inr ⟨hk, hl, by unfold putAns; rw [if_neg hk, if_neg hl]⟩)⟩
theorem clash_ins {A : List PB} {c d : PB} (h : Asc (keysOf A)) (hk : c.key ∉ keysOf A) (hne : d.key ≠ c.key) : clashB (insAt (posK (keysOf A) c.key) c A) d = clashB A d := by
  have ek : keysOf (insAt (posK (keysOf A) c.key) c A) = insAt (posK (keysOf A) c.key) c.key (keysOf A) := by unfold keysOf; rw [insAt_map]
  have h' : Asc (keysOf (insAt (posK (keysOf A) c.key) c A)) := by rw [ek]; exact asc_insAt h hk
  have : clashB (insAt (posK (keysOf A) c.key) c A) d = true ↔ clashB A d = true := by
    rw [clash_iff h', clash_iff h, ek, mem_insAt_iff, mem_insAt_iff]
    constructor
    · rintro ⟨h1 | h1, h2⟩
      · exact absurd h1 hne
      · exact ⟨h1, fun hh => h2 (.inr hh)⟩
    · rintro ⟨h1, h2⟩
      refine ⟨.inr h1, ?_⟩
      rintro (hh | hh)
      · exact hne (by rw [hh])
      · exact h2 hh
  cases h1 : clashB A d <;> cases h2 : clashB (insAt (posK (keysOf A) c.key) c A) d <;> simp_all

theorem any_congr' {α : Type} {l : List α} {f g : α → Bool} (h : ∀ x ∈ l, f x = g x) : l.any f = l.any g := by
  induction l with
  | nil => rfl
  | cons a r ih => simp only [List.any_cons]; rw [h a (by simp), ih (fun x hx => h x (by simp [hx]))]

theorem joinGo_eq (B : List PB) : ∀ (A : List PB) (full : Bool) (k : List Int), good A → (∀ b ∈ B, b.data.length ≤ 35184372088832 ∧ b.ok) → Asc (keysOf B) →
    joinGo A full B = if B.any (clashB A) = true then ([], 8) else if full = true then ([], 3) else ((putsAns A k B).1, (putsAns A k B).2.2) := by
  induction B with
  | nil => intro A full k _ _ _; cases full <;> rfl
  | cons c r ih =>
    intro A full k hg hb ha
    have hda := List.pairwise_cons.1 (show List.Pairwise ltL (c.key :: keysOf r) from ha)
    have hne : ∀ d ∈ r, d.key ≠ c.key := fun d hd hh => ltL_irrefl c.key (by have := hda.1 d.key (List.mem_map_of_mem hd); rwa [hh] at this)
    have hg' := putAns_good (c := c) hg (hb c (by simp))
    have ih' := fun full k => ih (putAns A c).1 full k hg' (fun b hb' => hb b (by simp [hb'])) hda.2
    rw [List.any_cons]
    rcases putAns_cases hg.1 c with ⟨h1, h2⟩ | ⟨h1, h2⟩
    · simp [joinGo, h1, h2]
    · have hany : r.any (clashB (putAns A c).1) = r.any (clashB A) := by
        rcases h2 with ⟨_, _, h2⟩ | ⟨_, _, h2⟩ | ⟨hk, _, h2⟩
        · rw [h2]
        · rw [h2]
        · rw [h2]
          exact any_congr' fun d hd => clash_ins hg.1 hk (hne d hd)
      rw [h1, Bool.false_or]
      have hstep : joinGo A full (c :: r) = if (putAns A c).2.2 = 8 then ([], 8) else joinGo (putAns A c).1 (if full then true else (putAns A c).2.2 == 3) r := rfl
      rw [hstep, ← hany]
      rcases h2 with ⟨_, _, h2⟩ | ⟨_, _, h2⟩ | ⟨_, _, h2⟩
      · rw [if_neg (by rw [h2]; simp), ih' _ c.key]
        have hp : putsAns A k (c :: r) = putsAns (putAns A c).1 c.key r := by simp [putsAns, h2]
        rw [hp]
        cases full <;> simp [h2]
      · rw [if_neg (by rw [h2]; simp), ih' _ k]
        have hp : putsAns A k (c :: r) = ([], zero32, 3) := by simp [putsAns, h2]
        rw [hp]
        cases full <;> simp [h2]
      · rw [if_neg (by rw [h2]; simp), ih' _ c.key]
        have hp : putsAns A k (c :: r) = putsAns (putAns A c).1 c.key r := by simp [putsAns, h2]
        rw [hp]
        cases full <;> simp [h2]

theorem joinAns_go {A B : List PB} (hA : ∀ b ∈ A, b.ok) (hB : ∀ b ∈ B, b.ok) (hv : validS A) (hv' : validS B) : joinAns A B = joinGo A false B := by
  rw [joinGo_eq B A false zero32 (good_of hv hA) (good_of hv' hB).2.2 hv'.2.2]
  unfold joinAns
  rw [if_pos ⟨hv, hv'⟩]
  simp

theorem joinAns_small (A B : List PB) : sizeBs (joinAns A B).1 ≤ sizeBs A + sizeBs B := by
  unfold joinAns
  split
  · split
    · simp [sizeBs]
    · exact putsAns_size A zero32 B
  · simp [sizeBs]

theorem c_impl_JoinStores {w : World} {r r' : Array Value} {A B : List PB} (hr : RdStore w r A) (hr' : RdStore w r' B) (hz : sizeBs A ≤ 1073741824) (hz' : sizeBs B ≤ 1073741824) :
    Ret Tryz.prog n_impl_JoinStores [.agg r, .agg r'] w [.agg, .int .i64] (fun x w' => ∃ L, At w w' L ∧ OwnStore x.1 (joinAns A B).1 L ∧ x.2 = (joinAns A B).2) := impl_JoinStores_calls _ _ (by
  unfold impl_JoinStores
  have hAok := hr.ok
  have hBok := hr'.ok
  obtain ⟨s, bs, rfl, hpb, hs⟩ := hr
  obtain ⟨s', bs', rfl, hpb', hs'⟩ := hr'
  have hl := le_sizeBs A
  have hl' := le_sizeBs B
  have hbl : bs.length = A.length := by rw [← hpb]; simp
  have hbl' : bs'.length = B.length := by rw [← hpb']; simp
  have bad : ∀ {w' : World} {b4 : Nat} {ls : List Blk}, ¬ (validS A ∧ validS B) → At w w' ((b4, #[.slice none 0 0], ty_impl_Store) :: ls) → ((real Tryz.prog (RR w [.agg, .int .i64] (fun x w' => ∃ L, At w w' L ∧ OwnStore x.1 (joinAns A B).1 L ∧ x.2 = (joinAns A B).2))).pur (Instr.build ty_impl_Store #[]) .agg fun y26 => (real Tryz.prog (RR w [.agg, .int .i64] (fun x w' => ∃ L, At w w' L ∧ OwnStore x.1 (joinAns A B).1 L ∧ x.2 = (joinAns A B).2))).st 1 (Addr.mk b4 0 none) (.agg y26) <| (real Tryz.prog (RR w [.agg, .int .i64] (fun x w' => ∃ L, At w w' L ∧ OwnStore x.1 (joinAns A B).1 L ∧ x.2 = (joinAns A B).2))).ld .agg 1 (Addr.mk b4 0 none) fun z10 => (real Tryz.prog (RR w [.agg, .int .i64] (fun x w' => ∃ L, At w w' L ∧ OwnStore x.1 (joinAns A B).1 L ∧ x.2 = (joinAns A B).2))).ret (.tuple #[(.agg z10), (.int .i64 1)]) : World → Prop) w' := by
    intro w' b4 ls hv h
    refine r_pur (sh := .agg) _ run_noStore ?_
    refine r_stA h 0 rfl rfl rfl rfl (by simp [oneC]) fun w5 h5 => ?_
    refine r_ldA h5 0 rfl rfl rfl ?_
    have hans : joinAns A B = ([], 1) := by unfold joinAns; rw [if_neg hv]
    rw [hans]
    exact r_ret h5.nil (_, _) rfl ⟨[], h5.nil, OwnStore.nil, rfl⟩
  refine r_new (At.refl w) fun b2 w1 h => ?_
  refine r_new h fun b3 w2 h => ?_
  refine r_new h fun b4 w3 h => ?_
  refine r_ldA h 2 rfl rfl rfl ?_
  refine r_call h (c_newShop (hs.at h) (by omega)) fun r w4 h4 hb4 hr => ?_
  rw [hpb] at hr
  rcases hr with ⟨hv, b, L, rfl, hL, hO⟩ | ⟨hv, rfl⟩
  · have h : At w w4 ([(b4, #[.slice none 0 0], ty_impl_Store), (b3, #[.slice s'.a s'.n s'.c], ty_impl_Store), (b2, #[.slice s.a s.n s.c], ty_impl_Store)] ++ (L ++ [])) := by rw [List.append_nil]; exact (h.join hL).swap
    refine r_ldA h 1 rfl rfl rfl ?_
    refine r_call h (c_newShop (hs'.at h.nil) (by omega)) fun r' w5 h5 hb5 hr' => ?_
    rw [hpb'] at hr'
    refine r_joinI ?_
    refine r_false rfl ?_
    rcases hr' with ⟨hv', b', L', rfl, hL', hO'⟩ | ⟨hv', rfl⟩
    · have h := (h.join hL').rot
      refine r_false rfl ?_
      refine ⟨(), rfl, ?_⟩
      refine r_any fun _ => ?_
      have hans : joinAns A B = (if B.any (clashB A) = true then ([], 8) else ((putsAns A zero32 B).1, (putsAns A zero32 B).2.2)) := by unfold joinAns; rw [if_pos ⟨hv, hv'⟩]
      rw [hans]
      have rd1 : ∀ {w' : World} {ls : List Blk}, At w w' (L ++ ls) → ShopR w' ⟨b, 0, none⟩ (keysOf A) bs := fun hA => hO.rd hA (keysOf_ok _) (fun b hb => (hs.at hA.nil).ok b hb)
      obtain ⟨sk, sb, rx1⟩ := hO.ex (keysOf_ok _)
      obtain ⟨sk2, sb2, Lb2, hOb2, hsub2, rx2⟩ := hO'.ex3 (keysOf_ok _)
      replace rx1 := fun {w' : World} {ls : List Blk} (hA : At w w' (L ++ ls)) => rx1 hA (fun b hb => (hs.at hA.nil).ok b hb)
      replace rx2 := fun {w' : World} {ls : List Blk} (hA : At w w' (L' ++ ls)) => rx2 hA (fun b hb => (hs'.at hA.nil).ok b hb)
      have hkn := (rx2 h.pl1).2.2.1.n
      rw [keysOf_len] at hkn
      refine r_dp rfl ?_
      refine r_ldN sk2 ((rx2 h.pl1).1 1) ?_
      refine r_loop (σ := Int) (fun i w' => ∃ (j : Nat), i = j ∧ j ≤ B.length ∧ (B.take j).any (clashB A) = false ∧ At w w' ([(b4, #[.slice none 0 0], ty_impl_Store), (b3, #[.slice s'.a s'.n s'.c], ty_impl_Store), (b2, #[.slice s.a s.n s.c], ty_impl_Store)] ++ (L' ++ (L ++ [])))) (fun i _ => (sk2.n - i).toNat) 0 rfl
        ⟨0, rfl, by omega, by simp, h⟩ ?_
      rintro i w7 ⟨j, rfl, hj, hall, h⟩
      refine r_any fun _ => ?_
      refine r_if ((j : Int) < (sk2.n : Int)) rfl (fun hlt => ?_) (fun hge => ?_)
      · obtain ⟨x, q, hx, hxm, hq, hxo, hxl⟩ := (rx2 h.pl1).2.2.1.get (i := j) (by rw [keysOf_len]; omega)
        obtain ⟨a, ha⟩ : ∃ a, bs'[j]? = some a := ⟨_, List.getElem?_eq_getElem (show j < bs'.length by omega)⟩
        have hBa := pb_get hpb' ha
        have hxa : x = a.pb.key := by
          have := keysOf_get hBa
          rw [hx] at this
          exact Option.some.inj this
        subst hxa
        refine r_ix q hq (by omega) (by omega) ?_
        refine r_ldN (u8s a.pb.key).toArray (by simp only [Int.toNat_natCast]; exact hxl) ?_
        refine r_new h fun b11 w8 h8 => ?_
        refine r_stA h8 0 rfl rfl (by simp [hxo.1]) (by simp [Value.cells]) (by simpa using u8s_one) fun w9 h9 => ?_
        refine r_ldA h9 0 rfl rfl (by simp [hxo.1]) ?_
        have h9 : At w w9 ([(b4, #[.slice none 0 0], ty_impl_Store), (b3, #[.slice s'.a s'.n s'.c], ty_impl_Store), (b2, #[.slice s.a s.n s.c], ty_impl_Store)] ++ (L' ++ (L ++ []))) := At.tail h9
        refine r_call h9 (c_get (rd1 h9.pl2) hv.2.2 (by rw [keysOf_len, hbl]) hxo (by rw [keysOf_len]; omega)) fun r w10 h10 hb10 hr => ?_
        refine r_new h10 fun b12 w11 h11 => ?_
        rcases hr with ⟨hm, b, hb, rfl⟩ | ⟨hm, rfl⟩
        · refine r_stA h11 0 rfl rfl rfl rfl (by simpa using cells_one b) fun w12 h12 => ?_
          have h : At w w12 ((b12, b.cells.toArray, ty_impl_Blob) :: [(b4, #[.slice none 0 0], ty_impl_Store), (b3, #[.slice s'.a s'.n s'.c], ty_impl_Store), (b2, #[.slice s.a s.n s.c], ty_impl_Store)] ++ (L' ++ (L ++ []))) := h12
          refine r_draw h fun w13 h => ?_
          refine r_true rfl ?_
          refine r_dp rfl ?_
          refine ⟨?_, ?_⟩
          · refine r_ldA h 0 rfl rfl rfl ?_
            refine r_ldN sb2 ((rx2 h.pl1).2.1 1) ?_
            obtain ⟨a', qb, ha', _, hqb, _, hag, _, _⟩ := (rx2 h.pl1).2.2.2.get (i := j) (by omega)
            rw [ha] at ha'
            cases ha'
            have hbn := (rx2 h.pl1).2.2.2.n
            refine r_ix qb hqb (by omega) (by omega) ?_
            refine r_ldN a.cells.toArray (by simp only [Int.toNat_natCast]; exact hag) ?_
            refine r_call h (c_SameBlob (c := a) ((rx1 h.pl2).2.2.2.ok _ (List.mem_of_getElem? hb)) ((rx2 h.pl1).2.2.2.ok _ (List.mem_of_getElem? ha))) fun r w12 h12 _ hr => ?_
            have hcell : clashB A a.pb = !r := by
              unfold clashB
              rw [pb_get hpb hb]
              by_cases he : b.pb = a.pb
              · rw [hr.2 he, decide_eq_false]
                · rfl
                · rintro ⟨_, hh⟩
                  exact hh (by rw [he])
              · have hrf : r = false := by simpa using fun hh => he (hr.1 hh)
                rw [hrf, decide_eq_true]
                · rfl
                · exact ⟨hm, fun hh => he (Option.some.inj hh)⟩
            by_cases hrt : r = true
            · subst hrt
              refine r_false rfl ?_
              exact ⟨((j + 1 : Nat) : Int), by rw [w64 (by omega) (by omega)]; rfl, ⟨j + 1, rfl, by omega, any_take hBa hall hcell, h12.tail⟩, by omega⟩
            · have hrf : r = false := by simpa using hrt
              subst hrf
              refine r_true rfl ?_
              rw [any_true hBa hcell, if_pos rfl]
              refine r_pur (sh := .agg) _ run_noStore ?_
              refine r_stA h12 1 rfl rfl rfl rfl (by simp [oneC]) fun w5 h5 => ?_
              refine r_ldA h5 1 rfl rfl rfl ?_
              exact r_ret h5.nil (_, _) rfl ⟨[], h5.nil, OwnStore.nil, rfl⟩
          · refine r_ldN sb2 ((rx2 h.pl1).2.1 1) ?_
            obtain ⟨a', qb, ha', _, hqb, _, hag, _, _⟩ := (rx2 h.pl1).2.2.2.get (i := j) (by omega)
            rw [ha] at ha'
            cases ha'
            have hbn := (rx2 h.pl1).2.2.2.n
            refine r_ix qb hqb (by omega) (by omega) ?_
            refine ⟨?_, ?_⟩
            · refine r_ldA h 0 rfl rfl rfl ?_
              refine r_ldN a.cells.toArray (by simp only [Int.toNat_natCast]; exact hag) ?_
              refine r_call h (c_SameBlob (c := a) ((rx1 h.pl2).2.2.2.ok _ (List.mem_of_getElem? hb)) ((rx2 h.pl1).2.2.2.ok _ (List.mem_of_getElem? ha))) fun r w12 h12 _ hr => ?_
              have hcell : clashB A a.pb = !r := by
                unfold clashB
                rw [pb_get hpb hb]
                by_cases he : b.pb = a.pb
                · rw [hr.2 he, decide_eq_false]
                  · rfl
                  · rintro ⟨_, hh⟩
                    exact hh (by rw [he])
                · have hrf : r = false := by simpa using fun hh => he (hr.1 hh)
                  rw [hrf, decide_eq_true]
                  · rfl
                  · exact ⟨hm, fun hh => he (Option.some.inj hh)⟩
              by_cases hrt : r = true
              · subst hrt
                refine r_false rfl ?_
                exact ⟨((j + 1 : Nat) : Int), by rw [w64 (by omega) (by omega)]; rfl, ⟨j + 1, rfl, by omega, any_take hBa hall hcell, h12.tail⟩, by omega⟩
              · have hrf : r = false := by simpa using hrt
                subst hrf
                refine r_true rfl ?_
                rw [any_true hBa hcell, if_pos rfl]
                refine r_pur (sh := .agg) _ run_noStore ?_
                refine r_stA h12 1 rfl rfl rfl rfl (by simp [oneC]) fun w5 h5 => ?_
                refine r_ldA h5 1 rfl rfl rfl ?_
                exact r_ret h5.nil (_, _) rfl ⟨[], h5.nil, OwnStore.nil, rfl⟩
            · refine r_ldN a.cells.toArray (by simp only [Int.toNat_natCast]; exact hag) ?_
              refine r_ldA h 0 rfl rfl rfl ?_
              refine r_call h (c_SameBlob (c := a) ((rx1 h.pl2).2.2.2.ok _ (List.mem_of_getElem? hb)) ((rx2 h.pl1).2.2.2.ok _ (List.mem_of_getElem? ha))) fun r w12 h12 _ hr => ?_
              have hcell : clashB A a.pb = !r := by
                unfold clashB
                rw [pb_get hpb hb]
                by_cases he : b.pb = a.pb
                · rw [hr.2 he, decide_eq_false]
                  · rfl
                  · rintro ⟨_, hh⟩
                    exact hh (by rw [he])
                · have hrf : r = false := by simpa using fun hh => he (hr.1 hh)
                  rw [hrf, decide_eq_true]
                  · rfl
                  · exact ⟨hm, fun hh => he (Option.some.inj hh)⟩
              by_cases hrt : r = true
              · subst hrt
                refine r_false rfl ?_
                exact ⟨((j + 1 : Nat) : Int), by rw [w64 (by omega) (by omega)]; rfl, ⟨j + 1, rfl, by omega, any_take hBa hall hcell, h12.tail⟩, by omega⟩
              · have hrf : r = false := by simpa using hrt
                subst hrf
                refine r_true rfl ?_
                rw [any_true hBa hcell, if_pos rfl]
                refine r_pur (sh := .agg) _ run_noStore ?_
                refine r_stA h12 1 rfl rfl rfl rfl (by simp [oneC]) fun w5 h5 => ?_
                refine r_ldA h5 1 rfl rfl rfl ?_
                exact r_ret h5.nil (_, _) rfl ⟨[], h5.nil, OwnStore.nil, rfl⟩
        · refine r_stA h11 0 rfl rfl rfl rfl (by simp [oneC]) fun w12 h12 => ?_
          refine r_draw h12 fun w13 h => ?_
          refine r_false rfl ?_
          have hcell : clashB A a.pb = false := by unfold clashB; exact decide_eq_false fun hh => hm hh.1
          have go : ∃ si : Int, (embL [Sh.int .i64] si : List Value) = [Value.int .i64 (IntKind.wrap .i64 ((j : Int) + 1))] ∧ (∃ j' : Nat, si = j' ∧ j' ≤ B.length ∧ (B.take j').any (clashB A) = false ∧ At w w13 ([(b4, #[.slice none 0 0], ty_impl_Store), (b3, #[.slice s'.a s'.n s'.c], ty_impl_Store), (b2, #[.slice s.a s.n s.c], ty_impl_Store)] ++ (L' ++ (L ++ [])))) ∧ (sk2.n - si).toNat < (sk2.n - (j : Int)).toNat :=
            ⟨((j + 1 : Nat) : Int), by rw [w64 (by omega) (by omega)]; rfl, ⟨j + 1, rfl, by omega, any_take hBa hall hcell, At.tail h⟩, by omega⟩
          exact ⟨go, go, go⟩
      · have : j = B.length := by omega
        subst this
        rw [List.take_of_length_le (Nat.le_refl _)] at hall
        rw [if_neg (by rw [hall]; simp)]
        refine r_dp rfl ?_
        refine r_ldN sb2 ((rx2 h.pl1).2.1 1) ?_
        refine r_callR (c_impl_putAll (cs := bs') h.pl2 ((hsub2.trans (List.sublist_append_left L' _)).trans (List.sublist_append_right _ _)) hO hpb (fun x hx w' hA => (hs.ok x hx).below hA.below) hOb2 (fun x hx => ⟨fun w' hA => (hs'.ok x hx).below hA.below, by have := hv'.2.1 x.pb (by rw [← hpb']; exact List.mem_map_of_mem hx); simp only [BR.pb] at this; omega⟩) (by omega) (good_of hv hAok)) ?_
        rintro v w8 ⟨r, L9, rfl, h, hOS, hko⟩
        rw [hpb'] at hOS hko ⊢
        refine ⟨(_, _, _), rfl, ?_⟩
        have h : At w w8 ([(b4, #[.slice none 0 0], ty_impl_Store), (b3, #[.slice s'.a s'.n s'.c], ty_impl_Store), (b2, #[.slice s.a s.n s.c], ty_impl_Store)] ++ (L9 ++ (L' ++ []))) := h.rot
        refine r_new h fun b14 w9 h => ?_
        refine r_new h fun b15 w10 h => ?_
        refine r_stA h 1 rfl rfl hOS.sz rfl hOS.one fun w11 h => ?_
        refine r_stA h 0 rfl rfl (by simpa using hko.1) (by simp [Value.cells]) (by simpa using u8s_one) fun w12 h => ?_
        refine r_ldA h 1 rfl rfl hOS.sz ?_
        refine r_stA h 2 rfl rfl hOS.sz rfl hOS.one fun w13 h => ?_
        refine r_ldA h 2 rfl rfl hOS.sz ?_
        exact r_ret h.nil (_, _) rfl ⟨L9, (At.right (A := [_, _, _, _, _]) h).left, hOS, rfl⟩
    · refine r_true rfl ?_
      exact bad (fun hh => hv' hh.2) h5
  · refine r_ldA h4 1 rfl rfl rfl ?_
    refine r_call h4 (c_newShop (hs'.at h4) (by omega)) fun r' w5 h5 hb5 hr' => ?_
    refine r_joinI ?_
    refine r_true rfl ?_
    exact bad (fun hh => hv hh.1) h5)

theorem putAns_all {p : PB → Prop} {B : List PB} {c : PB} (h : ∀ b ∈ B, p b) (hc : p c) : ∀ b ∈ (putAns B c).1, p b := by
  unfold putAns
  split
  · split <;> exact h
  · split
    · exact h
    · intro b hb
      rcases mem_insAt hb with rfl | hb
      · exact hc
      · exact h b hb

theorem c_spec_JoinStores {w : World} {r r' : Array Value} {A B : List PB} (hr : RdStore w r A) (hr' : RdStore w r' B) (hz : sizeBs A ≤ 1073741824) (hz' : sizeBs B ≤ 1073741824) :
    Ret Tryz.prog n_spec_JoinStores [.agg r, .agg r'] w [.agg, .int .i64] (fun x w' => ∃ L, At w w' L ∧ OwnStore x.1 (joinAns A B).1 L ∧ x.2 = (joinAns A B).2) := spec_JoinStores_calls _ _ (by
  unfold spec_JoinStores
  have hAok := hr.ok
  have hBok := hr'.ok
  obtain ⟨s, bs, rfl, hpb, hs⟩ := hr
  obtain ⟨s', bs', rfl, hpb', hs'⟩ := hr'
  have hl := le_sizeBs A
  have hl' := le_sizeBs B
  have hbl : bs.length = A.length := by rw [← hpb]; simp
  have hbl' : bs'.length = B.length := by rw [← hpb']; simp
  have bad : ∀ {w' : World} {b4 : Nat} {ls : List Blk}, ¬ (validS A ∧ validS B) → At w w' ((b4, #[.slice none 0 0], ty_impl_Store) :: ls) → ((real Tryz.prog (RR w [.agg, .int .i64] (fun x w' => ∃ L, At w w' L ∧ OwnStore x.1 (joinAns A B).1 L ∧ x.2 = (joinAns A B).2))).pur (Instr.build ty_impl_Store #[]) .agg fun y26 => (real Tryz.prog (RR w [.agg, .int .i64] (fun x w' => ∃ L, At w w' L ∧ OwnStore x.1 (joinAns A B).1 L ∧ x.2 = (joinAns A B).2))).st 1 (Addr.mk b4 0 none) (.agg y26) <| (real Tryz.prog (RR w [.agg, .int .i64] (fun x w' => ∃ L, At w w' L ∧ OwnStore x.1 (joinAns A B).1 L ∧ x.2 = (joinAns A B).2))).ld .agg 1 (Addr.mk b4 0 none) fun z10 => (real Tryz.prog (RR w [.agg, .int .i64] (fun x w' => ∃ L, At w w' L ∧ OwnStore x.1 (joinAns A B).1 L ∧ x.2 = (joinAns A B).2))).ret (.tuple #[(.agg z10), (.int .i64 1)]) : World → Prop) w' := by
    intro w' b4 ls hv h
    refine r_pur (sh := .agg) _ run_noStore ?_
    refine r_stA h 0 rfl rfl rfl rfl (by simp [oneC]) fun w5 h5 => ?_
    refine r_ldA h5 0 rfl rfl rfl ?_
    have hans : joinAns A B = ([], 1) := by unfold joinAns; rw [if_neg hv]
    rw [hans]
    exact r_ret h5.nil (_, _) rfl ⟨[], h5.nil, OwnStore.nil, rfl⟩
  refine r_new (At.refl w) fun b2 w1 h => ?_
  refine r_new h fun b3 w2 h => ?_
  refine r_new h fun b4 w3 h => ?_
  refine r_call h (c_l05Open (p := ⟨b2, 0, none⟩) (fun n => ldOk_own h 2 rfl 0 rfl (by simp [Sh.emb])) (hs.at h.nil)) fun r w4 h4 hb4 ⟨hr2, b, hr1, hr⟩ => ?_
  rw [hpb] at hr hr2
  by_cases hv : validS A
  · obtain ⟨L, hL, hO⟩ := hr hv
    have h : At w w4 ([(b4, #[.slice none 0 0], ty_impl_Store), (b3, #[.slice s'.a s'.n s'.c], ty_impl_Store), (b2, #[.slice s.a s.n s.c], ty_impl_Store)] ++ (L ++ [])) := by rw [List.append_nil]; exact (h.join hL).swap
    refine r_call h (c_l05Open (p := ⟨b3, 0, none⟩) (fun n => ldOk_own h 1 rfl 0 rfl (by simp [Sh.emb])) (hs'.at h.nil)) fun r' w5 h5 hb5 ⟨hr2', b', hr1', hr'⟩ => ?_
    rw [hpb'] at hr' hr2'
    refine r_joinI ?_
    rw [hr2, decide_eq_true hv]
    refine r_false rfl ?_
    by_cases hv' : validS B
    · obtain ⟨L', hL', hO'⟩ := hr' hv'
      have h := (h.join hL').rot
      rw [hr2', decide_eq_true hv', hr1, hr1']
      refine r_false rfl ?_
      refine ⟨(), rfl, ?_⟩
      refine r_any fun _ => ?_
      rw [joinAns_go hAok hBok hv hv']
      obtain ⟨sk2, sb2, rx2⟩ := hO'.ex (keysOf_ok _)
      replace rx2 := fun {w' : World} {ls : List Blk} (hA : At w w' (L' ++ ls)) => rx2 hA (fun b hb => (hs'.at hA.nil).ok b hb)
      have hsn := (rx2 h.pl1).2.2.2.n
      refine r_loop (σ := Bool × Int) (fun i w' => ∃ (j : Nat) (full : Bool) (Aj : List PB) (baj : List BR) (Lj : List Blk), i = (full, (j : Int)) ∧ j ≤ B.length ∧ At w w' ([(b4, #[.slice none 0 0], ty_impl_Store), (b3, #[.slice s'.a s'.n s'.c], ty_impl_Store), (b2, #[.slice s.a s.n s.c], ty_impl_Store)] ++ (L' ++ (Lj ++ []))) ∧ SpecO b (keysOf Aj) baj Lj ∧ baj.map BR.pb = Aj ∧ (∀ x ∈ baj, x.Ok w) ∧ good Aj ∧ (∀ x ∈ Aj, x.data.length ≤ 1073741824) ∧ joinGo A false B = joinGo Aj full (B.drop j)) (fun i _ => (sb2.n - i.2).toNat) (false, 0) rfl
        ⟨0, false, A, bs, L, rfl, by omega, h, hO, hpb, fun x hx => hs.ok x hx, good_of hv hAok, fun x hx => by have := hv.2.1 x hx; omega, rfl⟩ ?_
      rintro i w7 ⟨j, full, Aj, baj, Lj, rfl, hj, h, hOj, hpbj, hbaj, hgj, hdj, hgo⟩
      refine r_any fun _ => ?_
      dsimp only
      refine r_dp rfl ?_
      refine r_ldN sb2 ((rx2 h.pl1).2.1 1) ?_
      refine r_if ((j : Int) < (sb2.n : Int)) rfl (fun hlt => ?_) (fun hge => ?_)
      · refine r_dp rfl ?_
        refine r_ldN sb2 ((rx2 h.pl1).2.1 1) ?_
        obtain ⟨a, q, ha, ham, hq, _, hag, _, _⟩ := (rx2 h.pl1).2.2.2.get (i := j) (by omega)
        have hBa := pb_get hpb' ha
        have hda := hv'.2.1 a.pb (List.mem_of_getElem? hBa)
        simp only [BR.pb] at hda
        refine r_ix q hq (by omega) (by omega) ?_
        refine r_ldN a.cells.toArray (by simp only [Int.toNat_natCast]; exact hag) ?_
        refine r_callR (c_spec_put (c := a) h.pl2 hOj hpbj (fun x hx w' hA => (hbaj x hx).below hA.below) (fun w' hA => (hs'.ok a ham).below hA.below) (by omega) hgj hdj) ?_
        rintro v w8 ⟨baj', Lj', rfl, h, hOj', hpbj', hbaj'⟩
        refine ⟨(_, _), rfl, ?_⟩
        replace hbaj' : ∀ x ∈ baj', x.Ok w := fun x hx => by
          rcases hbaj' x hx with rfl | hx
          · exact hs'.ok _ ham
          · exact hbaj x hx
        have hk' := putAns_key Aj a.pb a.pb.key_ok
        have h := h.ps2
        refine r_new h fun b12 w9 h => ?_
        refine r_stA h 0 rfl rfl (by simp [hk'.1]) (by simp [Value.cells]) (by simpa using u8s_one) fun w10 h => ?_
        have hstep : joinGo Aj full (B.drop j) = if (putAns Aj a.pb).2.2 = 8 then ([], 8) else joinGo (putAns Aj a.pb).1 (if full then true else (putAns Aj a.pb).2.2 == 3) (B.drop (j + 1)) := by
          obtain ⟨hlt', hget⟩ := List.getElem?_eq_some_iff.1 hBa
          rw [List.drop_eq_getElem_cons hlt', hget]
          rfl
        have hg' := putAns_good (c := a.pb) hgj ⟨by show a.data.length ≤ _; omega, (hs'.ok a ham).pb⟩
        have hd' := putAns_all (c := a.pb) hdj (by show a.data.length ≤ _; omega)
        refine r_eq (fun h8 => ?_) (fun hn8 => ?_)
        · rw [if_pos h8] at hstep
          rw [hgo, hstep]
          refine r_pur (sh := .agg) _ run_noStore ?_
          refine r_stA h 1 rfl rfl rfl rfl (by simp [oneC]) fun w11 h => ?_
          refine r_ldA h 1 rfl rfl rfl ?_
          exact r_ret h.nil (_, _) rfl ⟨[], h.nil, OwnStore.nil, h8⟩
        · rw [if_neg hn8] at hstep
          have h : At w w10 ([(b4, #[.slice none 0 0], ty_impl_Store), (b3, #[.slice s'.a s'.n s'.c], ty_impl_Store), (b2, #[.slice s.a s.n s.c], ty_impl_Store)] ++ (L' ++ (Lj' ++ []))) := At.tail h
          cases full with
          | true =>
            refine r_true rfl ?_
            exact ⟨(true, ((j + 1 : Nat) : Int)), by rw [w64 (by omega) (by omega)]; rfl, ⟨j + 1, true, _, baj', Lj', rfl, by omega, h, hOj', hpbj', hbaj', hg', hd', by rw [hgo, hstep]; rfl⟩, by dsimp only; omega⟩
          | false =>
            refine r_false rfl ?_
            exact ⟨((putAns Aj a.pb).2.2 == 3, ((j + 1 : Nat) : Int)), by rw [w64 (by omega) (by omega)]; rfl, ⟨j + 1, _, _, baj', Lj', rfl, by omega, h, hOj', hpbj', hbaj', hg', hd', by rw [hgo, hstep]; rfl⟩, by dsimp only; omega⟩
      · have : j = B.length := by omega
        subst this
        rw [List.drop_of_length_le (Nat.le_refl _)] at hgo
        rw [hgo]
        cases full with
        | true =>
          refine r_true rfl ?_
          refine r_pur (sh := .agg) _ run_noStore ?_
          refine r_stA h 0 rfl rfl rfl rfl (by simp [oneC]) fun w11 h => ?_
          refine r_ldA h 0 rfl rfl rfl ?_
          exact r_ret h.nil (_, _) rfl ⟨[], h.nil, OwnStore.nil, rfl⟩
        | false =>
          refine r_false rfl ?_
          have hbj : baj.length = Aj.length := by rw [← hpbj]; simp
          refine r_call h (c_spec_store (hOj.rd h.pl2 (keysOf_ok _) (fun x hx => (hbaj x hx).below h.below)) (by have := hgj.2.1; omega) (fun x hx => (hgj.2.2 x.pb (by rw [← hpbj]; exact List.mem_map_of_mem hx)).1)) fun r w8 _ _ ⟨t, bs3, L3, hr, hpb3, hL3, hO3⟩ => ?_
          rw [hpbj] at hpb3
          have hOS := ownStore_of hr hpb3 hO3 (fun x hx => (hgj.2.2 x hx).2)
          have h := (h.join hL3).rot
          refine r_stA h 0 rfl rfl hOS.sz rfl hOS.one fun w9 h => ?_
          refine r_ldA h 0 rfl rfl hOS.sz ?_
          exact r_ret h.nil (_, _) rfl ⟨L3, (At.right (A := [_, _, _]) h).left, hOS, rfl⟩
    · rw [hr2', decide_eq_false hv']
      refine r_true rfl ?_
      exact bad (fun hh => hv' hh.2) h5
  · refine r_call h4 (c_l05Open (p := ⟨b3, 0, none⟩) (fun n => ldOk_own h4 1 rfl 0 rfl (by simp [Sh.emb])) (hs'.at h4.nil)) fun r' w5 h5 hb5 ⟨hr2', b', hr1', hr'⟩ => ?_
    refine r_joinI ?_
    rw [hr2, decide_eq_false hv]
    refine r_true rfl ?_
    exact bad (fun hh => hv hh.1) h5)
end Go.Proofs.YtcebkinkbelcnaaGreat
