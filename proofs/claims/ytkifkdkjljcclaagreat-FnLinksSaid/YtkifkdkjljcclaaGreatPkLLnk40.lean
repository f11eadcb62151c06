/- ReachableFrom, MissingFrom: what the program and the reference answer. Printed in part by a program of this claim's author (z4.py). Plain: paths of links are what is reachable; counts and roots. The laws' own helpers: sizes, picks, stores drawn, keys and stores compared. -/
import Derived.Test.YtkifkdkjljcclaaGreatPkLLnk32
import Derived.Test.YtkifkdkjljcclaaGreatPkLLnk21
import Derived.Test.YtkifkdkjljcclaaGreatPkLLnk31
import Derived.Test.YtkifkdkjljcclaaGreatPkLLnk26
import Derived.Test.YtkifkdkjljcclaaGreatPkLLnk39
import Derived.Test.YtkifkdkjljcclaaGreatPkLLnk23
namespace Go.Proofs.YtkifkdkjljcclaaGreat
open Go.Sx Go.RowKit

def stepR (B : List PB) (s : List (List Int)) (i : Nat) : List (List Int) := match s[i]? with
  | some k => (nextOf B k).foldl meetK s
  | none => s
def walkR (B : List PB) (roots : List (List Int)) : Nat → List (List Int)
  | 0 => roots.foldl meetK []
  | i + 1 => stepR B (walkR B roots i) i
theorem walkR_ok (B : List PB) (roots : List (List Int)) : ∀ i, ∃ j, WalkOk B roots j (walkR B roots i) ∧ (j = i ∨ ((walkR B roots i).length ≤ j ∧ j ≤ i))
  | 0 => ⟨0, WalkOk.first B roots, .inl rfl⟩
  | i + 1 => by
    obtain ⟨j, h, hc⟩ := walkR_ok B roots i
    have he : walkR B roots (i + 1) = stepR B (walkR B roots i) i := rfl
    rw [he]
    generalize walkR B roots i = s at h hc
    unfold stepR
    cases hk : s[i]? with
    | none =>
      have hl : s.length ≤ i := by
        rcases Nat.lt_or_ge i s.length with h' | h'
        · rw [List.getElem?_eq_getElem h'] at hk; cases hk
        · exact h'
      rcases hc with rfl | ⟨h1, h2⟩
      · exact ⟨j, h, .inr ⟨hl, by omega⟩⟩
      · exact ⟨j, h, .inr ⟨h1, by omega⟩⟩
    | some k =>
      have hl := (List.getElem?_eq_some_iff.1 hk).1
      rcases hc with rfl | ⟨h1, h2⟩
      · exact ⟨j + 1, h.next hk, .inl rfl⟩
      · omega
def reachL (B : List PB) (roots : List (List Int)) : List (List Int) := walkR B roots (roots.length + (B.flatMap links).length)
theorem mem_reachL (B : List PB) (roots : List (List Int)) (k : List Int) : k ∈ reachL B roots ↔ GetsTo B roots k := by
  obtain ⟨j, h, hc⟩ := walkR_ok B roots (roots.length + (B.flatMap links).length)
  have hl := h.len
  refine h.all ?_ k
  rcases hc with rfl | ⟨h1, h2⟩
  · exact hl
  · exact h1
theorem reachL_len (B : List PB) (roots : List (List Int)) : (reachL B roots).length ≤ roots.length + (B.flatMap links).length := by
  obtain ⟨j, h, hc⟩ := walkR_ok B roots (roots.length + (B.flatMap links).length)
  exact h.len
theorem flat_size (B : List PB) : (B.flatMap links).length ≤ sizeBs B := by
  induction B with
  | nil => simp [sizeBs]
  | cons b r ih =>
    have := links_len b
    rw [List.flatMap_cons, List.length_append, sizeBs_cons]
    omega
def reachedK (B : List PB) (roots : List (List Int)) (t : Bool) : List (List Int) := sortK ((reachL B roots).filter fun k => decide (k ∈ keysOf B) == t)
theorem reachedK_asc (B : List PB) (roots : List (List Int)) (t : Bool) : Asc (reachedK B roots t) := sortK_asc _
theorem reachedK_mem (B : List PB) (roots : List (List Int)) (t : Bool) (k : List Int) : k ∈ reachedK B roots t ↔ GetsTo B roots k ∧ decide (k ∈ keysOf B) = t := by
  unfold reachedK
  rw [sortK_mem, List.mem_filter, mem_reachL]
  simp
theorem reachedK_is {B : List PB} {roots out : List (List Int)} {t : Bool} (ha : Asc out) (h : ∀ k, k ∈ out ↔ GetsTo B roots k ∧ decide (k ∈ keysOf B) = t) : out = reachedK B roots t := asc_ext ha (reachedK_asc B roots t) fun k => (h k).trans (reachedK_mem B roots t k).symm
theorem reachedK_len (B : List PB) (roots : List (List Int)) (t : Bool) : (reachedK B roots t).length ≤ roots.length + sizeBs B := by
  have h1 := sortK_len ((reachL B roots).filter fun k => decide (k ∈ keysOf B) == t)
  have h2 := List.length_filter_le (fun k => decide (k ∈ keysOf B) == t) (reachL B roots)
  have h3 := reachL_len B roots
  have h4 := flat_size B
  show (sortK _).length ≤ _
  omega
theorem getsTo_ok {B : List PB} {roots : List (List Int)} (hB : ∀ b ∈ B, bytesOk b.data) (hr : ∀ k ∈ roots, keyOk k) {k : List Int} (h : GetsTo B roots k) : keyOk k := by
  rcases List.mem_append.1 h.sub with h | h
  · exact hr k h
  · obtain ⟨b, hb, hkb⟩ := List.mem_flatMap.1 h
    exact links_ok (hB b hb) k hkb
def reachAns (t : Bool) (B : List PB) (roots : List (List Int)) : List (List Int) × Int := if validS B then (if 256 < roots.length then ([], 3) else (reachedK B roots t, 0)) else ([], 1)
theorem bytes_of {bs : List BR} {B : List PB} {w : World} (hpb : bs.map BR.pb = B) (h : ∀ b ∈ bs, b.Ok w) : ∀ b ∈ B, bytesOk b.data := fun b hb => by
  rw [← hpb] at hb
  obtain ⟨y, hy, rfl⟩ := List.mem_map.1 hb
  exact (h y hy).bytes.ok

theorem c_l05Asked {w : World} {p : Addr} {s x : Sl} {bs : List BR} (hp : ∀ n, ldOk w n (p.add 0) .slice s) (hs : BsR w s bs) : Ret Tryz.prog n_spec_l05Asked [.pointer (some p), .slice x.a x.n x.c] w [.optr, .int .i64]
    (fun r w' => r.2 = (if validS (bs.map BR.pb) then (if 256 < x.n then 3 else 0) else 1) ∧ (validS (bs.map BR.pb) → ∃ b L, r.1 = some ⟨b, 0, none⟩ ∧ At w w' L ∧ SpecO b (keysOf (bs.map BR.pb)) bs L)) := spec_l05Asked_calls _ _ (by
  unfold spec_l05Asked
  refine r_call (At.refl w) (c_l05Open hp hs) fun r w1 h1 _ ⟨hr2, b, hr1, hr⟩ => ?_
  by_cases hv : validS (bs.map BR.pb)
  · rw [hr2, decide_eq_true hv, hr1]
    obtain ⟨L, hL, hO⟩ := hr hv
    refine r_false rfl ?_
    refine r_if ((x.n : Int) > 256) rfl (fun hgt => ?_) (fun hle => ?_)
    · exact r_ret h1 (some ⟨b, 0, none⟩, (3 : Int)) rfl ⟨by rw [if_pos hv, if_pos (by omega)], fun _ => ⟨b, L, rfl, hL, hO⟩⟩
    · exact r_ret h1 (some ⟨b, 0, none⟩, (0 : Int)) rfl ⟨by rw [if_pos hv, if_neg (by omega)], fun _ => ⟨b, L, rfl, hL, hO⟩⟩
  · rw [hr2, decide_eq_false hv]
    refine r_true rfl ?_
    exact r_ret h1 (r.1, (1 : Int)) rfl ⟨by rw [if_neg hv], fun hh => absurd hh hv⟩)

theorem keepL_flags {B : List PB} (D : List (List Int)) : keepL (flagsOf B D) (keysOf B) = (keysOf B).filter fun k => decide (k ∈ D) := by
  unfold flagsOf
  induction keysOf B with
  | nil => rfl
  | cons k r ih =>
    rw [List.map_cons, List.filter_cons]
    by_cases h : k ∈ D
    · rw [decide_eq_true h, if_pos rfl]
      exact congrArg (List.cons k) ih
    · rw [decide_eq_false h, if_neg (by simp)]
      exact ih
theorem c_spec_ReachableFrom {w : World} {r : Array Value} {x : Sl} {B : List PB} {ks : List (List Int)} (hr : RdStore w r B) (hx : RdKeyS w x ks) (hz : sizeBs B ≤ 1073741824) (hzk : sizeKeyS ks ≤ 1073741824) :
    Ret Tryz.prog n_spec_ReachableFrom [.agg r, .slice x.a x.n x.c] w [.slice, .int .i64] (fun y w' => ∃ L, At w w' L ∧ OwnKeyS y.1 (reachAns true B ks).1 L ∧ y.2 = (reachAns true B ks).2) := spec_ReachableFrom_calls _ _ (by
  unfold spec_ReachableFrom
  obtain ⟨s, bs, rfl, hpb, hs⟩ := hr
  have hx : KsR w x ks := hx
  have hxn := hx.n
  have hl := le_sizeBs B
  have hbl : bs.length = B.length := by rw [← hpb]; simp
  refine r_new (At.refl w) fun b2 w1 h => ?_
  refine r_call h (c_l05Asked (p := ⟨b2, 0, none⟩) (x := x) (fun n => ldOk_own h 0 rfl 0 rfl (by simp [Sh.emb])) (hs.at h.nil)) fun r w3 h3 _ ⟨hr2, hr⟩ => ?_
  rw [hpb] at hr hr2
  have none_ : ∀ {w' : World} {ls : List Blk} {c : Int}, At w w' ls → (reachAns true B ks) = ([], c) → ((real Tryz.prog (RR w [.slice, .int .i64] (fun y w' => ∃ L, At w w' L ∧ OwnKeyS y.1 (reachAns true B ks).1 L ∧ y.2 = (reachAns true B ks).2))).sem (Instr.buildSlice ty_sl_impl_Key 0 #[]) .slice fun y => (real Tryz.prog (RR w [.slice, .int .i64] (fun y w' => ∃ L, At w w' L ∧ OwnKeyS y.1 (reachAns true B ks).1 L ∧ y.2 = (reachAns true B ks).2))).ret (.tuple #[.slice y.a y.n y.c, .int .i64 c]) : World → Prop) w' := fun h hans => by
    rw [hans]
    refine r_bs0 T_sl_Key h.nil fun y w2 hy hyn => ?_
    obtain ⟨Ly, hOy, hA⟩ := hy.split
    exact r_ret hA.nil (y, _) rfl ⟨Ly, by simpa using hA, ⟨by simpa using hOy, by simp⟩, rfl⟩
  by_cases hv : validS B
  · obtain ⟨b, L, hr1, hL, hO⟩ := hr hv
    rw [if_pos hv] at hr2
    by_cases hgt : 256 < x.n
    · rw [if_pos hgt] at hr2
      rw [hr2]
      refine r_true rfl ?_
      exact none_ h3 (by unfold reachAns; rw [if_pos hv, if_pos (by omega)])
    · rw [if_neg hgt] at hr2
      rw [hr2, hr1]
      refine r_false rfl ?_
      have hans : reachAns true B ks = (reachedK B ks true, 0) := by unfold reachAns; rw [if_pos hv, if_neg (by omega)]
      rw [hans]
      have h : At w w3 (L ++ []) := by
        rw [List.append_nil]
        exact (h.join hL).left
      have hbok := fun {w' : World} {ls : List Blk} (h : At w w' ls) b hb => (hs.at h.nil).ok b hb
      have hB128 : B.length ≤ 128 := hv.1
      have hkl : (keysOf B).length = B.length := keysOf_len B
      have hallok : ∀ k, GetsTo B ks k → keyOk k := fun k hk => getsTo_ok (bytes_of hpb (hbok h)) hx.ok hk
      refine r_call h (c_spec_reach (hO.rd h (keysOf_ok _) (hbok h)) hpb hv (hx.at h) (by omega)) fun r22 w4 h4 _ ⟨D, out, Lf, Lm, hL4, hOf, hOm, hmn, hml, hD, hout, hok⟩ => ?_
      have h := h.join hL4
      have h : At w w4 (Lm ++ (Lf ++ (L ++ []))) := by simpa using h
      have hfl : SlAt w4 r22.1 1 (bools (flagsOf B D)) := hOf.sl h.pl1 (List.sublist_append_left _ _)
      refine r_call h (c_keep (hO.rd h.pl2 (keysOf_ok _) (hbok h)) (by omega) hfl (by rw [flagsOf_len]; omega) (by omega)) fun r27 w5 h5 _ ⟨b2', L2, hr27, hL2, hO2⟩ => ?_
      subst hr27
      have h := h.join hL2
      have hks : keepL (flagsOf B D) (keysOf B) = reachedK B ks true := by
        rw [keepL_flags]
        refine reachedK_is (List.Pairwise.filter _ hv.2.2) fun k => ?_
        rw [List.mem_filter]
        simp only [decide_eq_true_eq]
        constructor
        · rintro ⟨h1, h2⟩
          exact ⟨(hD k h1).1 h2, h1⟩
        · rintro ⟨h1, h2⟩
          exact ⟨h2, (hD k h2).2 h1⟩
      rw [hks] at hO2
      obtain ⟨sk, sb, Lk, Lb, rfl, hOk, _⟩ := hO2
      refine r_ld h 0 rfl (add_lit _ _ _) sk (by simp [Sh.emb]) rfl ?_
      refine r_ret h.nil (sk, (0 : Int)) rfl ⟨Lk, ?_, ⟨hOk, fun k hk => hallok k ((reachedK_mem B ks _ k).1 hk).1⟩, rfl⟩
      exact (At.right (A := Lb) (At.tail h.left))
  · rw [if_neg hv] at hr2
    rw [hr2]
    refine r_true rfl ?_
    exact none_ h3 (by unfold reachAns; rw [if_neg hv]))

end Go.Proofs.YtkifkdkjljcclaaGreat

namespace Go.Proofs.YtkifkdkjljcclaaGreat
open Go.Sx Go.RowKit

def LinkOk (B : List PB) (s : List (List Int) × List Nat) : Prop := ∀ (j p : Nat) (k : List Int), 0 < j → s.1[j]? = some k → s.2[j]? = some p → ∃ q, s.1[p]? = some q ∧ k ∈ links (blobAt B q)
theorem LinkOk.visit {B : List PB} {s : List (List Int) × List Nat} {i : Nat} {l q : List Int} (h : LinkOk B s) (hlen : s.1.length = s.2.length) (hq : s.1[i]? = some q) (hl : l ∈ links (blobAt B q)) : LinkOk B (visit B i s l) := by
  unfold Go.Proofs.YtkifkdkjljcclaaGreat.visit
  split
  · exact h
  · intro j p k hj hk hp
    dsimp only at hk hp ⊢
    have hil := (List.getElem?_eq_some_iff.1 hq).1
    rcases Nat.lt_or_ge j s.1.length with h1 | h1
    · rw [List.getElem?_append_left h1] at hk
      rw [List.getElem?_append_left (by omega)] at hp
      obtain ⟨q', hq', hm⟩ := h j p k hj hk hp
      exact ⟨q', by rw [List.getElem?_append_left (List.getElem?_eq_some_iff.1 hq').1]; exact hq', hm⟩
    · have hjl := (List.getElem?_eq_some_iff.1 hk).1
      rw [List.length_append, List.length_singleton] at hjl
      have hje : j = s.1.length := by omega
      subst hje
      rw [List.getElem?_append_right (Nat.le_refl _), Nat.sub_self] at hk
      rw [List.getElem?_append_right (by omega), show s.1.length - s.2.length = 0 by omega] at hp
      simp at hk hp
      subst hk
      subst hp
      exact ⟨q, by rw [List.getElem?_append_left hil]; exact hq, hl⟩
theorem visit_len {B : List PB} {s : List (List Int) × List Nat} {i : Nat} {l : List Int} (hlen : s.1.length = s.2.length) : (visit B i s l).1.length = (visit B i s l).2.length := by
  obtain ⟨t, u, h1, h2, h3⟩ := visit_grow B i s l
  rw [h1, h2, List.length_append, List.length_append]
  omega
theorem LinkOk.fold {B : List PB} {i : Nat} {q : List Int} : ∀ (ls : List (List Int)) {s : List (List Int) × List Nat}, LinkOk B s → s.1.length = s.2.length → s.1[i]? = some q → (∀ l ∈ ls, l ∈ links (blobAt B q)) → LinkOk B (ls.foldl (Go.Proofs.YtkifkdkjljcclaaGreat.visit B i) s)
  | [], _, h, _, _, _ => h
  | l :: r, s, h, hlen, hq, hl => by
    rw [List.foldl_cons]
    refine LinkOk.fold r (h.visit hlen hq (hl l (by simp))) (visit_len hlen) ?_ fun x hx => hl x (by simp [hx])
    obtain ⟨t, u, h1, _, _⟩ := visit_grow B i s l
    rw [h1, List.getElem?_append_left (List.getElem?_eq_some_iff.1 hq).1]
    exact hq
theorem met_link (B : List PB) (x : List Int) : ∀ i, LinkOk B (met B x i)
  | 0 => fun j p k hj hk _ => by
    unfold met at hk
    rw [List.getElem?_eq_none (by simp; omega)] at hk
    cases hk
  | i + 1 => by
    rw [met_succ]
    split
    · rename_i hi
      refine LinkOk.fold _ (met_link B x i) (met_len B x i) (getD_get hi) fun l hl => hl
    · exact met_link B x i
def DoneTo (B : List PB) (s : List (List Int) × List Nat) (i : Nat) : Prop := ∀ j q, j < i → s.1[j]? = some q → ∀ l ∈ links (blobAt B q), l ∈ keysOf B → l ∈ s.1
theorem fold_has {B : List PB} {i : Nat} : ∀ (ls : List (List Int)) {s : List (List Int) × List Nat}, (∀ x ∈ s.1, x ∈ (ls.foldl (visit B i) s).1) ∧ ∀ l ∈ ls, l ∈ keysOf B → l ∈ (ls.foldl (visit B i) s).1
  | [], s => ⟨fun x hx => hx, by simp⟩
  | l :: r, s => by
    rw [List.foldl_cons]
    obtain ⟨h1, h2⟩ := fold_has (B := B) (i := i) r (s := visit B i s l)
    obtain ⟨t, u, h3, _, _⟩ := visit_grow B i s l
    refine ⟨fun x hx => h1 x (by rw [h3]; exact List.mem_append_left _ hx), fun m hm hk => ?_⟩
    rcases List.mem_cons.1 hm with rfl | hm
    · refine h1 m ?_
      unfold visit
      split
      · rename_i h5
        rcases h5 with h5 | h5
        · exact h5
        · exact absurd hk h5
      · exact List.mem_append_right _ (by simp)
    · exact h2 m hm hk
theorem met_done (B : List PB) (x : List Int) : ∀ i, DoneTo B (met B x i) i
  | 0 => fun j q hj => by omega
  | i + 1 => by
    intro j q hj hq l hl hk
    have ih := met_done B x i
    rw [met_succ] at hq ⊢
    split at hq
    · rename_i hi
      rw [if_pos hi]
      obtain ⟨t, u, h1, _, _⟩ := fold_grow B i (links (blobAt B ((met B x i).1.getD i []))) (met B x i)
      have hq' : (met B x i).1[j]? = some q := by
        rw [h1, List.getElem?_append_left (by omega)] at hq
        exact hq
      obtain ⟨h2, h3⟩ := fold_has (B := B) (i := i) (links (blobAt B ((met B x i).1.getD i []))) (s := met B x i)
      rcases Nat.lt_or_ge j i with h4 | h4
      · exact h2 l (ih j q h4 hq' l hl hk)
      · have : j = i := by omega
        subst this
        rw [getD_of hq'] at h3
        rw [getD_of hq']
        exact h3 l hl hk
    · rename_i hi
      rw [if_neg hi]
      have hjl := (List.getElem?_eq_some_iff.1 hq).1
      exact ih j q (by omega) hq l hl hk
theorem nextOf_links {B : List PB} {k l : List Int} (h : l ∈ nextOf B k) : k ∈ keysOf B ∧ l ∈ links (blobAt B k) := by
  unfold nextOf at h
  split at h
  · rename_i hk; exact ⟨hk, h⟩
  · cases h
theorem met_all {B : List PB} {x : List Int} (hx : x ∈ keysOf B) {k : List Int} (hk : k ∈ keysOf B) : k ∈ (met B x B.length).1 ↔ GetsTo B [x] k := by
  have ok := met_ok hx B.length
  constructor
  · intro hm
    obtain ⟨j, hj⟩ := List.mem_iff_getElem?.1 hm
    have key : ∀ (N j : Nat) (k : List Int), j < N → (met B x B.length).1[j]? = some k → GetsTo B [x] k := by
      intro N
      induction N with
      | zero => intro j k h; omega
      | succ N ih =>
        intro j k hjN hj
        have hjl := (List.getElem?_eq_some_iff.1 hj).1
        rcases Nat.eq_zero_or_pos j with h0 | h0
        · subst h0
          rw [ok.first] at hj
          cases hj
          exact .root (by simp)
        · have hp : (met B x B.length).2[j]? = some ((met B x B.length).2.getD j 0) := by
            have := ok.len
            simp [List.getD, List.getElem?_eq_getElem (show j < (met B x B.length).2.length by omega)]
          have hlt := ok.par j _ h0 hp
          obtain ⟨q, hq, hl⟩ := met_link B x B.length j _ k h0 hj hp
          have hg := ih _ q (by omega) hq
          refine .link hg ?_
          unfold nextOf
          rw [if_pos (ok.inB q (List.mem_of_getElem? hq))]
          exact hl
    exact key (j + 1) j k (by omega) hj
  · intro hg
    have key : ∀ k, GetsTo B [x] k → k ∈ keysOf B → k ∈ (met B x B.length).1 := by
      intro k hg
      induction hg with
      | root h =>
        intro _
        rw [List.mem_singleton.1 h]
        exact List.mem_of_getElem? ok.first
      | @link k l hg hl ih =>
        intro hlB
        obtain ⟨hkB, hlk⟩ := nextOf_links hl
        obtain ⟨j, hj⟩ := List.mem_iff_getElem?.1 (ih hkB)
        have hjl := (List.getElem?_eq_some_iff.1 hj).1
        have hle := ok.le
        exact met_done B x B.length j k (by omega) hj l hlk hlB
    exact key k hg hk
def chainL (B : List PB) : List (List Int) → Prop
  | p :: q :: r => q ∈ links (blobAt B p) ∧ chainL B (q :: r)
  | _ => True
theorem chainL_snoc {B : List PB} : ∀ {l : List (List Int)} {x q : List Int}, chainL B l → l.getLast? = some x → q ∈ links (blobAt B x) → chainL B (l ++ [q])
  | [], _, _, _, h, _ => by cases h
  | [p], x, q, _, h, hp => by
    cases h
    exact ⟨hp, trivial⟩
  | p :: p2 :: r, x, q, hc, h, hp => by
    have h2 : (p2 :: r).getLast? = some x := by rw [← h]; simp
    exact ⟨hc.1, chainL_snoc (l := p2 :: r) hc.2 h2 hp⟩
theorem chainL_get {B : List PB} : ∀ {l : List (List Int)} {n : Nat} {p q : List Int}, chainL B l → l[n]? = some p → l[n + 1]? = some q → q ∈ links (blobAt B p)
  | [], _, _, _, _, h, _ => by cases h
  | [_], n, _, _, _, _, h => by simp at h
  | p0 :: q0 :: r, 0, p, q, hc, hp, hq => by
    simp at hp hq
    subst hp
    subst hq
    exact hc.1
  | p0 :: q0 :: r, n + 1, p, q, hc, hp, hq => chainL_get (l := q0 :: r) (n := n) hc.2 (by simpa using hp) (by simpa using hq)
theorem path_ok {B : List PB} {x : List Int} (hx : x ∈ keysOf B) (n : Nat) : ∀ (N i : Nat), i < N → i < (met B x n).1.length → (pathTo (met B x n) i i).head? = some x ∧ (pathTo (met B x n) i i).getLast? = some ((met B x n).1.getD i []) ∧ chainL B (pathTo (met B x n) i i)
  | 0, i, h, _ => by omega
  | N + 1, i, h, hi => by
    have ok := met_ok hx n
    rcases Nat.eq_zero_or_pos i with h0 | h0
    · subst h0
      have e : pathTo (met B x n) 0 0 = [(met B x n).1.getD 0 []] := rfl
      rw [e, getD_of ok.first]
      exact ⟨rfl, rfl, trivial⟩
    · have hp : (met B x n).2[i]? = some ((met B x n).2.getD i 0) := by
        have := ok.len
        simp [List.getD, List.getElem?_eq_getElem (show i < (met B x n).2.length by omega)]
      have hlt := ok.par i _ h0 hp
      obtain ⟨h1, h2, h3⟩ := path_ok hx n N ((met B x n).2.getD i 0) (by omega) (by omega)
      obtain ⟨q, hq, hl⟩ := met_link B x n i _ _ h0 (getD_get hi) hp
      rw [pathTo_step ok h0 hi]
      rw [getD_of hq] at h2
      refine ⟨?_, by simp, chainL_snoc h3 h2 hl⟩
      rw [List.head?_append, h1]
      rfl
theorem pathAns_spec {B : List PB} (hv : validS B) {a b : List Int} (ha : a ∈ keysOf B) (hb : b ∈ keysOf B) : (GetsTo B [a] b ∧ (pathAns B a b).2 = 0 ∧ (pathAns B a b).1.head? = some a ∧ (pathAns B a b).1.getLast? = some b ∧ chainL B (pathAns B a b).1) ∨ (¬ GetsTo B [a] b ∧ pathAns B a b = ([], 6)) := by
  have e : pathAns B a b = pathOf (met B a B.length) b := by unfold pathAns; rw [if_pos hv, if_pos ⟨ha, hb⟩]
  rw [e]
  by_cases hm : b ∈ (met B a B.length).1
  · have hi := idxK_get hm
    have hil := (List.getElem?_eq_some_iff.1 hi).1
    obtain ⟨h1, h2, h3⟩ := path_ok ha B.length _ (idxK (met B a B.length).1 b) (Nat.lt_succ_self _) hil
    have e2 : pathOf (met B a B.length) b = (pathTo (met B a B.length) (idxK (met B a B.length).1 b) (idxK (met B a B.length).1 b), 0) := by unfold pathOf; rw [if_pos hm]
    rw [e2]
    rw [getD_of hi] at h2
    exact .inl ⟨(met_all ha hb).1 hm, rfl, h1, h2, h3⟩
  · refine .inr ⟨fun hg => hm ((met_all ha hb).2 hg), ?_⟩
    unfold pathOf
    rw [if_neg hm]

theorem keepL_iff {α : Type} : ∀ {fl : List Bool} {xs : List α} {i : Nat} {b : Bool} {x : α}, xs.Nodup → fl[i]? = some b → xs[i]? = some x → (x ∈ keepL fl xs ↔ b = true)
  | [], _, _, _, _, _, h, _ => by cases h
  | _ :: _, [], _, _, _, _, _, h => by cases h
  | c :: fl, y :: xs, 0, b, x, hn, hf, hx => by
    simp at hf hx
    subst hf
    subst hx
    have hno : y ∉ keepL fl xs := fun hm => (List.nodup_cons.1 hn).1 ((keepL_sub _ _).subset hm)
    cases c with
    | true => simp [keepL]
    | false => simp [keepL, hno]
  | c :: fl, y :: xs, i + 1, b, x, hn, hf, hx => by
    have hn' := List.nodup_cons.1 hn
    have hx' : xs[i]? = some x := by simpa using hx
    have ih := keepL_iff (fl := fl) (xs := xs) (i := i) hn'.2 (by simpa using hf) hx'
    have hne : x ≠ y := fun hh => hn'.1 (hh ▸ List.mem_of_getElem? hx')
    cases c with
    | true =>
      show x ∈ y :: keepL fl xs ↔ _
      rw [List.mem_cons]
      constructor
      · rintro (h | h)
        · exact absurd h hne
        · exact ih.1 h
      · exact fun h => .inr (ih.2 h)
    | false => exact ih
theorem keepL_count {α : Type} : ∀ {fl : List Bool} {xs : List α}, fl.length = xs.length → (keepL fl xs).length = (fl.filter id).length
  | [], [], _ => rfl
  | [], _ :: _, h => by cases h
  | _ :: _, [], h => by cases h
  | c :: fl, x :: xs, h => by
    have ih := keepL_count (fl := fl) (xs := xs) (by simpa using h)
    cases c with
    | true =>
      show (x :: keepL fl xs).length = _
      simp [ih]
    | false =>
      show (keepL fl xs).length = _
      simp [ih]
def zerosTo (c : List Int) (i : Nat) : Nat := ((c.take i).filter fun x => decide (x = 0)).length
theorem zerosTo_succ {c : List Int} {i : Nat} {x : Int} (h : c[i]? = some x) : zerosTo c (i + 1) = zerosTo c i + if x = 0 then 1 else 0 := by
  unfold zerosTo
  rw [take_succ_get h, List.filter_append, List.length_append]
  congr 1
  by_cases hx : x = 0 <;> simp [hx]
theorem zerosTo_le (c : List Int) (i : Nat) : zerosTo c i ≤ i := by
  unfold zerosTo
  have h1 := List.length_filter_le (fun x => decide (x = 0)) (c.take i)
  rw [List.length_take] at h1
  omega
theorem roots_count (B : List PB) : (keepL (rootFlags B) (keysOf B)).length = zerosTo (countsOf B) B.length := by
  rw [keepL_count (by rw [rootFlags_len, keysOf_len])]
  unfold rootFlags zerosTo
  rw [List.take_of_length_le (by rw [countsOf_len]; exact Nat.le_refl _), List.filter_map, List.length_map]
  rfl
theorem roots_iff {B : List PB} (hv : validS B) {i : Nat} {x : Int} {k : List Int} (hx : (countsOf B)[i]? = some x) (hk : (keysOf B)[i]? = some k) : k ∈ keepL (rootFlags B) (keysOf B) ↔ x = 0 := by
  rw [keepL_iff (i := i) (b := decide (x = 0)) (Asc.nodup hv.2.2) (by unfold rootFlags; rw [List.getElem?_map, hx]; rfl) hk, decide_eq_true_eq]
end Go.Proofs.YtkifkdkjljcclaaGreat

namespace Go.Proofs.YtkifkdkjljcclaaGreat
open Go.Sx Go.RowKit

theorem c_f6big (s : Sl) : RetP Tryz.prog n_laws_f6big [.slice s.a s.n s.c] [.bool] (decide (4096 < s.n)) := fun w => laws_f6big_calls s (by
  unfold laws_f6big
  refine r_retP ?_
  have e : decide ((s.n : Int) > 4096) = decide (4096 < s.n) := decide_eq_decide.2 (by omega)
  rw [e]; rfl)
theorem c_P6Pick {w : World} {sd : Sl} {d : List Int} (N : Nat) (hd : SlAt w sd 1 (u8s d)) (hb : bytesOk d) (hN : 1 ≤ N) (hN2 : N ≤ 1048576) :
    Ret Tryz.prog n_spec_P6Pick [.slice sd.a sd.n sd.c, .int .i64 (N : Int)] w [.int .i64] (fun r _ => ∃ i : Nat, r = i ∧ i < N) := spec_P6Pick_calls _ _ (by
  unfold spec_P6Pick
  refine r_callR (c_l00From sd w) ?_
  rintro v w2 ⟨b, rfl, hS⟩
  refine ⟨⟨b, 0, none⟩, rfl, ?_⟩
  refine r_callR (c_pick (N : Int) hS hd hb (by omega) (by omega) (by omega)) ?_
  rintro v w3 ⟨r, rfl, h0, h1, a, st, _, _, h⟩
  refine ⟨r, rfl, ?_⟩
  exact r_ret h.nil r rfl ⟨r.toNat, (Int.toNat_of_nonneg h0).symm, by omega⟩)
theorem c_P6Store {w : World} {sd : Sl} {d : List Int} (hd : SlAt w sd 1 (u8s d)) (hb : bytesOk d) :
    Ret Tryz.prog n_spec_P6Store [.slice sd.a sd.n sd.c] w [.agg] (fun r w' => ∃ L B, At w w' L ∧ OwnStore r B L ∧ validS B) := spec_P6Store_calls _ (by
  unfold spec_P6Store
  refine r_new (At.refl w) fun b2 w1 h1 => ?_
  refine r_callR (c_l00From sd w1) ?_
  rintro v w2 ⟨b, rfl, hS⟩
  refine ⟨⟨b, 0, none⟩, rfl, ?_⟩
  refine r_callR (c_l05Drawn hS (hd.at h1) hb (by omega)) ?_
  rintro v w3 ⟨g, sk, B, ks, L, rfl, hv, hkl, ⟨L1, L2, rfl, hO, hOk⟩, a, st, h0, h2, h⟩
  refine ⟨(g, sk), rfl, ?_⟩
  dsimp only
  have h := h1.join h.tail
  rw [List.append_nil] at h
  have h := h.swap
  refine r_new h fun b3 w4 h => ?_
  refine r_stA h 0 rfl rfl hO.sz rfl hO.one fun w5 h => ?_
  refine r_ldA h 0 rfl rfl hO.sz ?_
  refine r_stA h 1 rfl rfl hO.sz rfl hO.one fun w6 h => ?_
  refine r_ldA h 1 rfl rfl hO.sz ?_
  have h : At w w6 ([(b3, g, ty_impl_Store), (b2, g, ty_impl_Store)] ++ (L1 ++ L2)) := h
  exact r_ret h.nil g rfl ⟨L1, B, h.right.left, hO, hv⟩)
theorem c_spec_KeysOfStore {w : World} {r : Array Value} {B : List PB} (hr : RdStore w r B) (hz : sizeBs B ≤ 1073741824) (hv : validS B) :
    Ret Tryz.prog n_spec_KeysOfStore [.agg r] w [.slice, .int .i64] (fun x w' => ∃ L, At w w' L ∧ OwnKeyS x.1 (keysOf B) L ∧ x.2 = 0) := spec_KeysOfStore_calls _ (by
  unfold spec_KeysOfStore
  obtain ⟨s, bs, rfl, hpb, hs⟩ := hr
  refine r_new (At.refl w) fun b1 w1 h => ?_
  refine r_call h (c_l05Open (p := ⟨b1, 0, none⟩) (fun n => ldOk_own h 0 rfl 0 rfl (by simp [Sh.emb])) (hs.at h.nil)) fun r w4 h4 hb4 ⟨hr2, b, hr1, hr⟩ => ?_
  rw [hpb] at hr hr2
  obtain ⟨L, hL, hO⟩ := hr hv
  rw [hr2, decide_eq_true hv, hr1]
  refine r_false rfl ?_
  have h := h.join hL
  obtain ⟨sk, sb, Lk, Lb, rfl, hOk, _⟩ := hO
  refine r_dp rfl ?_
  refine r_ld h 0 rfl (add_lit _ _ _) sk (by simp [Sh.emb]) rfl ?_
  exact r_ret h.nil (sk, (0 : Int)) rfl ⟨Lk, At.right (A := Lb) (At.tail h.left), ⟨hOk, keysOf_ok B⟩, rfl⟩)
theorem c_HasKey {w : World} {s : Sl} {ks : List (List Int)} {k : List Int} (hs : KsR w s ks) (hk : keyOk k) (hmax : ks.length ≤ 1073741824) : Ret Tryz.prog n_spec_HasKey [.slice s.a s.n s.c, .agg (u8s k).toArray] w [.bool] (fun r _ => r = decide (k ∈ ks)) := spec_HasKey_calls _ _ (by
  unfold spec_HasKey
  refine r_new (At.refl w) fun b3 w1 h => ?_
  have h : At w w1 [(b3, (u8s k).toArray, ty_impl_Key)] := h
  refine r_ldA h 0 rfl rfl (by simp [hk.1]) ?_
  refine r_call h (c_l01Has (hs.at h) hk hmax) fun r w2 h _ hr => ?_
  exact r_ret h.nil r rfl hr)
theorem c_EqualKeys {w : World} {s t : Sl} {xs ys : List (List Int)} (hs : KsR w s xs) (ht : KsR w t ys) (hmax : xs.length ≤ 1073741824) : Ret Tryz.prog n_spec_EqualKeys [.slice s.a s.n s.c, .slice t.a t.n t.c] w [.bool] (fun r _ => r = decide (xs = ys)) := spec_EqualKeys_calls _ _ (by
  unfold spec_EqualKeys
  have hn := hs.n
  have hm := ht.n
  refine r_ne (fun hne => ?_) (fun heq => ?_)
  · exact r_ret (At.refl w) false rfl (decide_eq_false fun hh => hne (by rw [hn, hm, hh])).symm
  have hl : xs.length = ys.length := by omega
  refine r_loop (σ := Int) (fun i w' => ∃ j : Nat, i = j ∧ j ≤ xs.length ∧ xs.take j = ys.take j ∧ At w w' []) (fun i _ => (s.n - i).toNat) 0 rfl ⟨0, rfl, by omega, by simp, At.refl w⟩ ?_
  rintro i w2 ⟨j, rfl, hj, hsame, h⟩
  refine r_any fun _ => ?_
  refine r_if ((j : Int) < (s.n : Int)) rfl (fun hlt => ?_) (fun hge => ?_)
  · refine r_draw h fun w3 h => ?_
    obtain ⟨x, p, hx, hxm, hp, hxo, hxl⟩ := (hs.at h).get (i := j) (by omega)
    obtain ⟨y, q, hy, hym, hq, hyo, hyl⟩ := (ht.at h).get (i := j) (by omega)
    refine r_ix p hp (by omega) (by omega) ?_
    simp only [Int.toNat_natCast]
    refine r_ldN (u8s x).toArray hxl ?_
    refine r_ix q hq (by omega) (by omega) ?_
    simp only [Int.toNat_natCast]
    refine r_ldN (u8s y).toArray hyl ?_
    refine r_rootEq hxo.1 hyo.1 (fun hne => ?_) (fun heq => ?_)
    · exact r_ret h.nil false rfl (decide_eq_false fun hh => hne (by rw [hh, hy] at hx; exact (Option.some.inj hx).symm)).symm
    · refine ⟨((j + 1 : Nat) : Int), by rw [w64 (by omega) (by omega)]; rfl, ⟨j + 1, rfl, by omega, ?_, h⟩, by omega⟩
      rw [take_succ_get hx, take_succ_get hy, hsame, heq]
  · rw [List.take_of_length_le (by omega), List.take_of_length_le (by omega)] at hsame
    exact r_ret h.nil true rfl (decide_eq_true hsame).symm)
theorem c_impl_LinksOf {w : World} {b : BR} (hb : b.Ok w) (hl : b.data.length ≤ 1024) : Ret Tryz.prog n_impl_LinksOf [.agg b.cells.toArray] w [.slice, .int .i64] (fun x w' => ∃ L, At w w' L ∧ OwnKeyS x.1 (links b.pb) L ∧ x.2 = 0) := impl_LinksOf_calls _ (by
  unfold impl_LinksOf
  refine r_new (At.refl w) fun b1 w1 h => ?_
  refine r_ldA h 0 rfl rfl rfl ?_
  refine r_call h (c_ValidBlob (hb.below h.below)) fun r5 w2 h _ hr5 => ?_
  subst hr5
  refine r_false (by rw [decide_eq_true hl]; rfl) ?_
  refine r_ldA h 0 rfl rfl rfl ?_
  refine r_call h (c_impl_links (hb.below h.below) (by omega)) fun r8 w3 _ _ ⟨hS, hn⟩ => ?_
  obtain ⟨L, hO, hA⟩ := hS.split
  rw [List.append_nil] at hA
  have h := h.join hA
  exact r_ret h.nil (r8, (0 : Int)) rfl ⟨L, h.left, ⟨hO, links_ok hb.bytes.ok⟩, rfl⟩)
end Go.Proofs.YtkifkdkjljcclaaGreat
