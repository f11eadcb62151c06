/- Plain laws of lists' keys: proofs of ranges and of growth lead to the key of the list. No program in sight. -/
import Derived.Test.YtjmncaoddfggnaaG1
namespace Go.Proofs.Ytjmncaoddfggnaa
open Go.Sx

theorem take_left' {a b : List Int} {k : Nat} (h : a.length = k) : (a ++ b).take k = a := by subst h; exact List.take_left
theorem drop_left' {a b : List Int} {k : Nat} (h : a.length = k) : (a ++ b).drop k = b := by subst h; exact List.drop_left

/-- The key of a list of keys. -/
def lk (l : List Int) : List Int :=
  if h0 : l.length / 32 = 0 then hashL 3 []
  else if h1 : l.length / 32 = 1 then l.take 32
  else hashL 2 (lk (l.take (32 * half (l.length / 32))) ++ lk (l.drop (32 * half (l.length / 32))))
  termination_by l.length
  decreasing_by
    all_goals
      have := half_lt (n := l.length / 32) (by omega)
      simp only [List.length_take, List.length_drop]
      omega

theorem lk_one {l : List Int} (h : l.length = 32) : lk l = l := by
  rw [lk, dif_neg (by omega), dif_pos (by omega)]
  exact List.take_of_length_le (by omega)
theorem lk_two {l : List Int} {n : Nat} (h : l.length = 32 * n) (hn : 2 ≤ n) : lk l = hashL 2 (lk (l.take (32 * half n)) ++ lk (l.drop (32 * half n))) := by
  have e : l.length / 32 = n := by omega
  rw [lk, dif_neg (by omega), dif_neg (by omega), e]
theorem lk_len {l : List Int} {n : Nat} (h : l.length = 32 * n) : (lk l).length = 32 := by
  rw [lk]
  split
  · exact hashL_len _ _
  · split
    · simp; omega
    · exact hashL_len _ _
theorem lk_ok {l : List Int} (hb : bytesOk l) : bytesOk (lk l) := by
  rw [lk]
  split
  · exact hashL_ok _ _
  · split
    · exact hb.take _
    · exact hashL_ok _ _

/-- The proof of a range of a list. -/
def rpr (l : List Int) (i j : Int) : List Int :=
  if j ≤ 0 ∨ ((l.length / 32 : Nat) : Int) ≤ i then lk l
  else if h1 : l.length / 32 ≤ 1 then []
  else rpr (l.take (32 * half (l.length / 32))) i j ++ rpr (l.drop (32 * half (l.length / 32))) (i - half (l.length / 32)) (j - half (l.length / 32))
  termination_by l.length
  decreasing_by
    all_goals
      have := half_lt (n := l.length / 32) (by omega)
      simp only [List.length_take, List.length_drop]
      omega
theorem rpr_out {l : List Int} {n : Nat} {i j : Int} (h : l.length = 32 * n) (hc : j ≤ 0 ∨ (n : Int) ≤ i) : rpr l i j = lk l := by
  rw [rpr, if_pos (by have e : l.length / 32 = n := by omega
                      rw [e]; exact hc)]
theorem rpr_one {l : List Int} {i j : Int} (h : l.length = 32) (hc : ¬ (j ≤ 0 ∨ (1 : Int) ≤ i)) : rpr l i j = [] := by
  rw [rpr, if_neg (by have e : l.length / 32 = 1 := by omega
                      rw [e]; exact hc), dif_pos (by omega)]
theorem rpr_two {l : List Int} {n : Nat} {i j : Int} (h : l.length = 32 * n) (hn : 2 ≤ n) (hc : ¬ (j ≤ 0 ∨ (n : Int) ≤ i)) : rpr l i j = rpr (l.take (32 * half n)) i j ++ rpr (l.drop (32 * half n)) (i - half n) (j - half n) := by
  have e : l.length / 32 = n := by omega
  rw [rpr, if_neg (by rw [e]; exact hc), dif_neg (by omega), e]

theorem half_lens {l : List Int} {n : Nat} (h : l.length = 32 * n) (hn : 2 ≤ n) : (l.take (32 * half n)).length = 32 * half n ∧ (l.drop (32 * half n)).length = 32 * (n - half n) := by
  have := half_lt hn
  constructor
  · rw [List.length_take]; omega
  · rw [List.length_drop]; omega

theorem rpr_all : ∀ (n : Nat) (l : List Int) (i j : Int), l.length = 32 * n → 1 ≤ n → i ≤ 0 → (n : Int) ≤ j → rpr l i j = [] := by
  intro n
  induction n using Nat.strongRecOn with
  | _ n ih =>
    intro l i j h h1 hi hj
    rcases Nat.lt_or_ge n 2 with hlt | hge
    · exact rpr_one (by omega) (by omega)
    · obtain ⟨a, b⟩ := half_lens h hge
      have := half_lt hge
      rw [rpr_two h hge (by omega), ih (half n) (by omega) _ _ _ a (by omega) hi (by omega), ih (n - half n) (by omega) _ _ _ b (by omega) (by omega) (by omega)]
      rfl

/-- The keys of a list's peaks. -/
def pk (l : List Int) : List Int :=
  if h0 : l.length / 32 = 0 then []
  else lk (l.take (32 * 2 ^ Nat.log2 (l.length / 32))) ++ pk (l.drop (32 * 2 ^ Nat.log2 (l.length / 32)))
  termination_by l.length
  decreasing_by
    have := Nat.two_pow_pos (Nat.log2 (l.length / 32))
    simp only [List.length_drop]
    omega
theorem pk_nil {l : List Int} (h : l.length = 0) : pk l = [] := by rw [pk, dif_pos (by omega)]
theorem pk_cons {l : List Int} {n : Nat} (h : l.length = 32 * n) (hn : 1 ≤ n) : pk l = lk (l.take (32 * 2 ^ Nat.log2 n)) ++ pk (l.drop (32 * 2 ^ Nat.log2 n)) := by
  have e : l.length / 32 = n := by omega
  rw [pk, dif_neg (by omega), e]

theorem pk_facts : ∀ n : Fin 1025, 1 ≤ n.val → (2 ^ Nat.log2 n.val ≤ n.val ∧ ones n.val = 1 + ones (n.val - 2 ^ Nat.log2 n.val) ∧ (n.val = 2 ^ Nat.log2 n.val ∨ half n.val = 2 ^ Nat.log2 n.val)) := by decide +kernel
theorem pk_fact {n : Nat} (h : n ≤ 1024) (h1 : 1 ≤ n) : 2 ^ Nat.log2 n ≤ n ∧ ones n = 1 + ones (n - 2 ^ Nat.log2 n) ∧ (n = 2 ^ Nat.log2 n ∨ half n = 2 ^ Nat.log2 n) := pk_facts ⟨n, by omega⟩ h1

theorem pk_pow {l : List Int} {n : Nat} (h : l.length = 32 * n) (hn : 1 ≤ n) (hp : n = 2 ^ Nat.log2 n) : pk l = lk l := by
  rw [pk_cons h hn, ← hp, List.take_of_length_le (by omega), pk_nil (by rw [List.length_drop]; omega), List.append_nil]

theorem pk_len : ∀ (n : Nat) (l : List Int), l.length = 32 * n → n ≤ 1024 → (pk l).length = 32 * ones n := by
  intro n
  induction n using Nat.strongRecOn with
  | _ n ih =>
    intro l h hn
    rcases Nat.eq_zero_or_pos n with h0 | h0
    · subst h0
      rw [pk_nil (by omega)]
      rfl
    · obtain ⟨h1, h2, _⟩ := pk_fact hn h0
      have hp := Nat.two_pow_pos (Nat.log2 n)
      rw [pk_cons h h0, List.length_append, lk_len (n := 2 ^ Nat.log2 n) (by rw [List.length_take]; omega), ih (n - 2 ^ Nat.log2 n) (by omega) _ (by rw [List.length_drop]; omega) (by omega), h2]
      omega
theorem pk_ok : ∀ (n : Nat) (l : List Int), l.length = 32 * n → bytesOk l → bytesOk (pk l) := by
  intro n
  induction n using Nat.strongRecOn with
  | _ n ih =>
    intro l h hb
    rcases Nat.eq_zero_or_pos n with h0 | h0
    · subst h0
      rw [pk_nil (by omega)]
      intro b hb; cases hb
    · have hp := Nat.two_pow_pos (Nat.log2 n)
      have h1 : 2 ^ Nat.log2 n ≤ n := Nat.log2_self_le (by omega)
      rw [pk_cons h h0]
      exact (lk_ok (hb.take _)).append (ih (n - 2 ^ Nat.log2 n) (by omega) _ (by rw [List.length_drop]; omega) (hb.drop _))

theorem keyAt_app {a r : List Int} {i : Nat} (ha : a.length = 32) : keyAt (a ++ r) (i + 1) = keyAt r i := by
  unfold keyAt
  rw [show 32 * (i + 1) = 32 + 32 * i by omega, ← List.drop_drop, drop_left' ha]
theorem keyAt_zero {a r : List Int} (ha : a.length = 32) : keyAt (a ++ r) 0 = a := by
  unfold keyAt
  rw [Nat.mul_zero, List.drop_zero, take_left' ha]
theorem foldK_app {a r : List Int} (ha : a.length = 32) : ∀ (i : Nat) (k : List Int), foldK (a ++ r) (i + 1) k = hashL 2 (a ++ foldK r i k)
  | 0, k => by simp only [foldK]; rw [keyAt_zero ha]
  | i + 1, k => by rw [foldK, foldK_app ha i, keyAt_app ha]; rfl
theorem ofPeaks_cons {a r : List Int} {j : Nat} (ha : a.length = 32) (hr : r.length = 32 * (j + 1)) : ofPeaks (a ++ r) = hashL 2 (a ++ ofPeaks r) := by
  unfold ofPeaks
  have e1 : (a ++ r).length / 32 - 1 = j + 1 := by rw [List.length_append]; omega
  have e2 : r.length / 32 - 1 = j := by omega
  rw [e1, e2, foldK_app ha, keyAt_app ha]
theorem ofPeaks_one {a : List Int} (ha : a.length = 32) : ofPeaks a = a := by
  unfold ofPeaks
  rw [ha]
  show keyAt a 0 = a
  unfold keyAt
  rw [Nat.mul_zero, List.drop_zero, List.take_of_length_le (by omega)]

theorem ofPeaks_pk : ∀ (n : Nat) (l : List Int), l.length = 32 * n → 1 ≤ n → n ≤ 1024 → ofPeaks (pk l) = lk l := by
  intro n
  induction n using Nat.strongRecOn with
  | _ n ih =>
    intro l h h1 hn
    obtain ⟨ha, hb, hc⟩ := pk_fact hn h1
    have hp := Nat.two_pow_pos (Nat.log2 n)
    by_cases hpw : n = 2 ^ Nat.log2 n
    · rw [pk_pow h h1 hpw, ofPeaks_one (lk_len h)]
    · have hh : half n = 2 ^ Nat.log2 n := hc.resolve_left hpw
      have hn2 : 2 ≤ n := by
        rcases Nat.lt_or_ge n 2 with hlt | hge
        · have : n = 1 := by omega
          subst this
          exact absurd rfl hpw
        · exact hge
      obtain ⟨l1, l2⟩ := half_lens h hn2
      have hrest := pk_len (n - half n) _ l2 (by omega)
      have ho : 1 ≤ ones (n - half n) := ones_pos ⟨n - half n, by omega⟩ (by dsimp only; omega)
      rw [pk_cons h h1, lk_two h hn2, ← hh, ofPeaks_cons (j := ones (n - half n) - 1) (lk_len l1) (by rw [hrest]; omega), ih (n - half n) (by omega) _ l2 (by omega) (by omega)]

theorem log_of {M h : Nat} (hp : h = 2 ^ Nat.log2 h) (h1 : h ≤ M) (h2 : M < 2 * h) (h0 : 0 < h) : 2 ^ Nat.log2 M = h := by
  have : Nat.log2 M = Nat.log2 h := (Nat.log2_eq_iff (by omega)).2 ⟨by omega, by rw [Nat.pow_succ]; omega⟩
  rw [this]; exact hp.symm

/-- A growth proof leads to the key of the list. -/
theorem grown_ok : ∀ (f n : Nat) (l : List Int) (m i : Int) (o q : List Int), l.length = 32 * n → 1 ≤ n → n ≤ f → n ≤ 1024 → m ≤ n → i ≤ 0 →
    grown f n m ((if m ≤ 0 then [] else pk (l.take (32 * m.toNat))) ++ o) (rpr l i m ++ q) = some (lk l, o, q)
  | 0, n, l, m, i, o, q, h, h1, hf, hn, hm, hi => by omega
  | f + 1, n, l, m, i, o, q, h, h1, hf, hn, hm, hi => by
    rw [grown]
    have hlk := lk_len h
    by_cases hm0 : m ≤ 0
    · rw [if_pos hm0, if_pos hm0, rpr_out h (.inl hm0), if_neg (by rw [List.length_append]; omega), take_left' hlk, drop_left' hlk]
      rfl
    rw [if_neg hm0, if_neg hm0]
    obtain ⟨M, rfl⟩ : ∃ M : Nat, m = M := ⟨m.toNat, by omega⟩
    rw [Int.toNat_natCast]
    by_cases hc : (n : Int) ≤ (M : Int) ∧ ones n = 1
    · have : M = n := by omega
      subst this
      rw [if_pos hc, rpr_all M l i M h h1 hi (by omega), List.take_of_length_le (by omega), pk_pow h h1 ((ones_pow hn).1 hc.2), if_neg (by rw [List.length_append]; omega), take_left' hlk, drop_left' hlk]
      rfl
    rw [if_neg hc]
    have hn2 : 2 ≤ n := by
      rcases Nat.lt_or_ge n 2 with hlt | hge
      · have : n = 1 := by omega
        subst this
        exact absurd ⟨by omega, rfl⟩ hc
      · exact hge
    obtain ⟨hh1, hh2⟩ := half_lt hn2
    obtain ⟨hp1, hp2, hp3⟩ := half_pow hn hn2
    obtain ⟨l1, l2⟩ := half_lens h hn2
    rw [rpr_two h hn2 (by omega), lk_two h hn2]
    by_cases hMh : M ≤ half n
    · have e1 : min (M : Int) (half n : Int) = M := by omega
      rw [e1]
      have ih1 := grown_ok f (half n) (l.take (32 * half n)) M i o (rpr (l.drop (32 * half n)) (i - half n) (M - half n) ++ q) l1 hh2 (by omega) (by omega) (by omega) hi
      rw [if_neg hm0, Int.toNat_natCast, List.take_take, Nat.min_eq_left (by omega)] at ih1
      rw [List.append_assoc, ih1]
      have ih2 := grown_ok f (n - half n) (l.drop (32 * half n)) (M - half n) (i - half n) o q l2 (by omega) (by omega) (by omega) (by omega) (by omega)
      rw [if_pos (by omega), List.nil_append] at ih2
      simp only [ih2]
    · have e1 : min (M : Int) (half n : Int) = half n := by omega
      rw [e1]
      have hM2 : M < 2 * half n := by
        rcases Nat.lt_or_ge M (2 * half n) with hlt | hge
        · exact hlt
        · have : n = 2 * half n := by omega
          exact absurd ⟨by omega, (ones_pow hn).2 (hp3.1 this)⟩ hc
      have hlog := log_of hp1 (M := M) (by omega) hM2 (by omega)
      have epk : pk (l.take (32 * M)) = lk (l.take (32 * half n)) ++ pk ((l.drop (32 * half n)).take (32 * (M - half n))) := by
        rw [pk_cons (n := M) (by rw [List.length_take]; omega) (by omega), hlog, List.take_take, Nat.min_eq_left (by omega), List.drop_take, show 32 * M - 32 * half n = 32 * (M - half n) by omega]
      have ih1 := grown_ok f (half n) (l.take (32 * half n)) (half n) i (pk ((l.drop (32 * half n)).take (32 * (M - half n))) ++ o) (rpr (l.drop (32 * half n)) (i - half n) (M - half n) ++ q) l1 hh2 (by omega) (by omega) (by omega) hi
      rw [if_neg (by omega), Int.toNat_natCast, List.take_of_length_le (by omega), pk_pow l1 hh2 hp1, rpr_all (half n) _ i _ l1 hh2 hi (Int.le_refl _), List.nil_append] at ih1
      rw [epk, rpr_all (half n) _ i (M : Int) l1 hh2 hi (by omega), List.nil_append, List.append_assoc, ih1]
      have ih2 := grown_ok f (n - half n) (l.drop (32 * half n)) (M - half n) (i - half n) o q l2 (by omega) (by omega) (by omega) (by omega) (by omega)
      rw [if_neg (by omega), show ((M : Int) - half n).toNat = M - half n by omega] at ih2
      simp only [ih2]

theorem keyAt_take {l : List Int} {a k : Nat} (h : a < k) : keyAt (l.take (32 * k)) a = keyAt l a := by
  unfold keyAt
  rw [List.drop_take, List.take_take, Nat.min_eq_left (by omega)]
theorem keyAt_drop {l : List Int} {a k : Nat} : keyAt (l.drop (32 * k)) a = keyAt l (k + a) := by
  unfold keyAt
  rw [List.drop_drop, show 32 * k + 32 * a = 32 * (k + a) by omega]

/-- A proof of a range leads to the key of the list. -/
theorem told_ok (lv : List Int) : ∀ (f n : Nat) (l : List Int) (i : Int) (q : List Int), l.length = 32 * n → 1 ≤ n → n ≤ f →
    (∀ a : Nat, a < n → i ≤ a → (a : Int) < i + (lv.length / 32 : Nat) → keyAt lv ((a : Int) - i).toNat = keyAt l a) →
    told f n i lv (rpr l i (i + (lv.length / 32 : Nat)) ++ q) = some (lk l, q)
  | 0, n, l, i, q, h, h1, hf, hk => by omega
  | f + 1, n, l, i, q, h, h1, hf, hk => by
    rw [told]
    have hlk := lk_len h
    by_cases hc : i + (lv.length / 32 : Nat) ≤ 0 ∨ (n : Int) ≤ i
    · rw [if_pos hc, rpr_out h hc, if_neg (by rw [List.length_append]; omega), take_left' hlk, drop_left' hlk]
    rw [if_neg hc]
    by_cases hn1 : n = 1
    · subst hn1
      rw [if_pos rfl, rpr_one (by omega) hc, lk_one (by omega)]
      have := hk 0 (by omega) (by omega) (by omega)
      rw [show ((0 : Nat) : Int) - i = -i by omega] at this
      rw [this]
      unfold keyAt
      rw [Nat.mul_zero, List.drop_zero, List.take_of_length_le (by omega)]
      rfl
    · rw [if_neg hn1]
      have hn2 : 2 ≤ n := by omega
      obtain ⟨hh1, hh2⟩ := half_lt hn2
      obtain ⟨l1, l2⟩ := half_lens h hn2
      rw [rpr_two h hn2 hc, List.append_assoc, told_ok lv f (half n) (l.take (32 * half n)) i _ l1 hh2 (by omega) (fun a ha h2 h3 => by rw [keyAt_take ha]; exact hk a (by omega) h2 h3)]
      have ih2 := told_ok lv f (n - half n) (l.drop (32 * half n)) (i - half n) q l2 (by omega) (by omega) (fun a ha h2 h3 => by
        rw [keyAt_drop, ← hk (half n + a) (by omega) (by omega) (by omega)]
        congr 1
        omega)
      rw [show i - (half n : Int) + (lv.length / 32 : Nat) = i + (lv.length / 32 : Nat) - half n by omega] at ih2
      rw [lk_two h hn2]
      simp only [ih2]

theorem rpr_len : ∀ (n : Nat) (l : List Int) (i j : Int), l.length = 32 * n → 1 ≤ n → ∃ k, (rpr l i j).length = 32 * k ∧ k ≤ n := by
  intro n
  induction n using Nat.strongRecOn with
  | _ n ih =>
    intro l i j h h1
    by_cases hc : j ≤ 0 ∨ (n : Int) ≤ i
    · exact ⟨1, by rw [rpr_out h hc, lk_len h], h1⟩
    · rcases Nat.lt_or_ge n 2 with hlt | hge
      · have : n = 1 := by omega
        subst this
        exact ⟨0, by rw [rpr_one (by omega) hc]; rfl, by omega⟩
      · obtain ⟨a, b⟩ := half_lens h hge
        have := half_lt hge
        obtain ⟨k1, e1, h1'⟩ := ih (half n) (by omega) _ i j a (by omega)
        obtain ⟨k2, e2, h2'⟩ := ih (n - half n) (by omega) _ (i - half n) (j - half n) b (by omega)
        exact ⟨k1 + k2, by rw [rpr_two h hge hc, List.length_append, e1, e2]; omega, by omega⟩
theorem rpr_ok : ∀ (n : Nat) (l : List Int) (i j : Int), l.length = 32 * n → bytesOk l → bytesOk (rpr l i j) := by
  intro n
  induction n using Nat.strongRecOn with
  | _ n ih =>
    intro l i j h hb
    by_cases hc : j ≤ 0 ∨ (n : Int) ≤ i
    · rw [rpr_out h hc]; exact lk_ok hb
    · rcases Nat.lt_or_ge n 2 with hlt | hge
      · rw [rpr, if_neg (by rw [show l.length / 32 = n by omega]; exact hc), dif_pos (by omega)]
        intro b hb; cases hb
      · obtain ⟨a, b⟩ := half_lens h hge
        have := half_lt hge
        rw [rpr_two h hge hc]
        exact (ih (half n) (by omega) _ i j a (hb.take _)).append (ih (n - half n) (by omega) _ _ _ b (hb.drop _))

/-- How deep a leaf lies. -/
def depth : Nat → Nat → Nat → Nat
  | 0, _, _ => 0
  | f + 1, n, i => if n ≤ 1 then 0 else 1 + (if half n ≤ i then depth f (n - half n) (i - half n) else depth f (half n) i)

theorem rpr_depth : ∀ (f n : Nat) (l : List Int) (i : Nat), l.length = 32 * n → i < n → n ≤ f → (rpr l i ((i : Int) + 1)).length = 32 * depth f n i
  | 0, n, l, i, h, hi, hf => by omega
  | f + 1, n, l, i, h, hi, hf => by
    rw [depth]
    rcases Nat.lt_or_ge n 2 with hlt | hge
    · have : n = 1 := by omega
      subst this
      rw [rpr_one (by omega) (by omega)]
      rfl
    · obtain ⟨a, b⟩ := half_lens h hge
      have := half_lt hge
      rw [rpr_two h hge (by omega), List.length_append, if_neg (by omega)]
      by_cases hc : half n ≤ i
      · rw [if_pos hc, rpr_out a (.inr (by omega)), lk_len a]
        have ih := rpr_depth f (n - half n) (l.drop (32 * half n)) (i - half n) b (by omega) (by omega)
        rw [show ((i - half n : Nat) : Int) = (i : Int) - half n by omega] at ih
        rw [show (i : Int) + 1 - half n = (i : Int) - half n + 1 by omega, ih]
        omega
      · rw [if_neg hc, rpr_out b (.inl (by omega)), lk_len b, rpr_depth f (half n) _ i a (by omega) (by omega)]
        omega

end Go.Proofs.Ytjmncaoddfggnaa
