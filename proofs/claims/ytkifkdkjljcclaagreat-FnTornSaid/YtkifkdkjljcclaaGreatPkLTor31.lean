/- Packs: programs that make data of a base. Plain. -/
import Derived.Test.YtkifkdkjljcclaaGreatPkLTor29
namespace Go.Proofs.YtkifkdkjljcclaaGreat
open Go.Sx Go.RowKit

def matchN : Nat → List Int → List Int → Nat
  | f + 1, x :: a, y :: b => if x = y then matchN f a b + 1 else 0
  | _, _, _ => 0
theorem matchN_le : ∀ (f : Nat) (a b : List Int), matchN f a b ≤ f ∧ matchN f a b ≤ a.length ∧ matchN f a b ≤ b.length ∧ a.take (matchN f a b) = b.take (matchN f a b)
  | 0, a, b => by simp [matchN]
  | f + 1, [], b => by simp [matchN]
  | f + 1, x :: a, [] => by simp [matchN]
  | f + 1, x :: a, y :: b => by
    unfold matchN
    split
    · rename_i h
      obtain ⟨h1, h2, h3, h4⟩ := matchN_le f a b
      subst h
      refine ⟨by omega, by simp; omega, by simp; omega, ?_⟩
      rw [List.take_succ_cons, List.take_succ_cons, h4]
    · simp
theorem matchN_stop : ∀ (n f : Nat) (a b : List Int), n ≤ f → n ≤ a.length → n ≤ b.length → a.take n = b.take n → (n = f ∨ n = a.length ∨ n = b.length ∨ a[n]? ≠ b[n]?) → matchN f a b = n
  | 0, f, a, b, _, _, _, _, h => by
    cases f with
    | zero => simp [matchN]
    | succ f =>
      cases a with
      | nil => simp [matchN]
      | cons x a =>
        cases b with
        | nil => simp [matchN]
        | cons y b =>
          unfold matchN
          rw [if_neg]
          intro hxy
          subst hxy
          simp at h
  | n + 1, 0, _, _, h, _, _, _, _ => by omega
  | n + 1, f + 1, [], _, _, h, _, _, _ => by simp at h
  | n + 1, f + 1, x :: a, [], _, _, h, _, _ => by simp at h
  | n + 1, f + 1, x :: a, y :: b, h1, h2, h3, h4, h5 => by
    rw [List.take_succ_cons, List.take_succ_cons] at h4
    injection h4 with h6 h7
    subst h6
    unfold matchN
    rw [if_pos rfl, matchN_stop n f a b (by omega) (by simpa using h2) (by simpa using h3) h7 (by simpa using h5)]
def bestN (base d : List Int) : Nat → Nat × Nat
  | 0 => (0, 0)
  | i + 1 => if (bestN base d i).1 < matchN 255 (base.drop i) d then (matchN 255 (base.drop i) d, i) else bestN base d i
theorem bestN_ok (base d : List Int) : ∀ i, i ≤ base.length → (bestN base d i).1 ≤ 255 ∧ (bestN base d i).1 ≤ d.length ∧ (bestN base d i).2 ≤ i ∧ (bestN base d i).2 + (bestN base d i).1 ≤ base.length ∧ (base.drop (bestN base d i).2).take (bestN base d i).1 = d.take (bestN base d i).1
  | 0, _ => by simp [bestN]
  | i + 1, h => by
    have ih := bestN_ok base d i (by omega)
    unfold bestN
    split
    · obtain ⟨h1, h2, h3, h4⟩ := matchN_le 255 (base.drop i) d
      rw [List.length_drop] at h2
      exact ⟨h1, h3, by dsimp only; omega, by dsimp only; omega, h4⟩
    · exact ⟨ih.1, ih.2.1, by omega, ih.2.2.2.1, ih.2.2.2.2⟩
def plainGo : Nat → List Int → List Int
  | 0, _ => []
  | f + 1, l => if l = [] then [] else [0, ((min 255 l.length : Nat) : Int)] ++ l.take 255 ++ plainGo f (l.drop 255)
def plainB (l : List Int) : List Int := plainGo l.length l
theorem plainGo_fuel : ∀ (f g : Nat) (l : List Int), l.length ≤ f → l.length ≤ g → plainGo f l = plainGo g l
  | 0, 0, _, _, _ => rfl
  | 0, g + 1, l, h, _ => by
    have : l = [] := List.eq_nil_of_length_eq_zero (by omega)
    subst this
    rfl
  | f + 1, 0, l, _, h => by
    have : l = [] := List.eq_nil_of_length_eq_zero (by omega)
    subst this
    rfl
  | f + 1, g + 1, l, h1, h2 => by
    unfold plainGo
    split
    · rfl
    · rename_i hne
      have : 0 < l.length := by cases l with | nil => exact absurd rfl hne | cons => simp
      rw [plainGo_fuel f g (l.drop 255) (by rw [List.length_drop]; omega) (by rw [List.length_drop]; omega)]
theorem plainB_nil : plainB [] = [] := rfl
theorem plainB_step {l : List Int} (h : l ≠ []) : plainB l = [0, ((min 255 l.length : Nat) : Int)] ++ l.take 255 ++ plainB (l.drop 255) := by
  have hl : 0 < l.length := by cases l with | nil => exact absurd rfl h | cons => simp
  unfold plainB
  obtain ⟨n, hn⟩ : ∃ n, l.length = n + 1 := ⟨l.length - 1, by omega⟩
  rw [hn]
  conv => lhs; unfold plainGo
  rw [if_neg h, hn, plainGo_fuel n _ (l.drop 255) (by rw [List.length_drop]; omega) (Nat.le_refl _)]
def deltaGo (base : List Int) : Nat → List Int → List Int → List Int → List Int
  | 0, out, held, _ => out ++ plainB held
  | _ + 1, out, held, [] => out ++ plainB held
  | f + 1, out, held, x :: r =>
    if (bestN base (x :: r) base.length).1 < 8 then deltaGo base f out (held ++ [x]) r
    else deltaGo base f (out ++ plainB held ++ [1, ((bestN base (x :: r) base.length).2 : Int) % 256, ((bestN base (x :: r) base.length).2 : Int) / 256, ((bestN base (x :: r) base.length).1 : Int)]) [] ((x :: r).drop (bestN base (x :: r) base.length).1)
def deltaB (base data : List Int) : List Int := deltaGo base data.length [] [] data
theorem deltaGo_fuel (base : List Int) : ∀ (f g : Nat) (out held d : List Int), d.length ≤ f → d.length ≤ g → deltaGo base f out held d = deltaGo base g out held d
  | 0, 0, _, _, _, _, _ => rfl
  | 0, g + 1, out, held, d, h, _ => by
    have : d = [] := List.eq_nil_of_length_eq_zero (by omega)
    subst this
    rfl
  | f + 1, 0, out, held, d, _, h => by
    have : d = [] := List.eq_nil_of_length_eq_zero (by omega)
    subst this
    rfl
  | f + 1, g + 1, out, held, [], _, _ => rfl
  | f + 1, g + 1, out, held, x :: r, h1, h2 => by
    unfold deltaGo
    rw [List.length_cons] at h1 h2
    split
    · exact deltaGo_fuel base f g _ _ r (by omega) (by omega)
    · exact deltaGo_fuel base f g _ _ _ (by rw [List.length_drop, List.length_cons]; omega) (by rw [List.length_drop, List.length_cons]; omega)

def stepP (base p : List Int) : Option (List Int × List Int) :=
  if p.getD 0 0 = 0 ∧ 1 < p.length ∧ 0 < p.getD 1 0 ∧ 2 + (p.getD 1 0).toNat ≤ p.length then some ((p.drop 2).take (p.getD 1 0).toNat, p.drop (2 + (p.getD 1 0).toNat))
  else if p.getD 0 0 = 1 ∧ 3 < p.length ∧ 0 < p.getD 3 0 ∧ (p.getD 1 0 + 256 * p.getD 2 0).toNat + (p.getD 3 0).toNat ≤ base.length then
    some ((base.drop (p.getD 1 0 + 256 * p.getD 2 0).toNat).take (p.getD 3 0).toNat, p.drop 4)
  else none
def applyGo (base : List Int) : Nat → List Int → List Int → Option (List Int)
  | 0, out, p => if p = [] then some out else none
  | f + 1, out, p => if p = [] then some out else match stepP base p with
    | some (m, r) => applyGo base f (out ++ m) r
    | none => none
theorem stepP_len {base p m r : List Int} (h : stepP base p = some (m, r)) : r.length < p.length := by
  unfold stepP at h
  split at h
  · rename_i h1
    cases h
    rw [List.length_drop]
    omega
  · split at h
    · rename_i h1
      cases h
      rw [List.length_drop]
      omega
    · cases h
theorem applyGo_fuel (base : List Int) : ∀ (f g : Nat) (out p : List Int), p.length ≤ f → p.length ≤ g → applyGo base f out p = applyGo base g out p
  | 0, 0, _, _, _, _ => rfl
  | 0, g + 1, out, p, h, _ => by
    have : p = [] := List.eq_nil_of_length_eq_zero (by omega)
    subst this
    rfl
  | f + 1, 0, out, p, _, h => by
    have : p = [] := List.eq_nil_of_length_eq_zero (by omega)
    subst this
    rfl
  | f + 1, g + 1, out, p, h1, h2 => by
    unfold applyGo
    split
    · rfl
    · split
      · rename_i m r hs
        have := stepP_len hs
        exact applyGo_fuel base f g _ r (by omega) (by omega)
      · rfl
def applyP (base p : List Int) : Option (List Int) := match applyGo base p.length [] p with
  | some m => if m.length ≤ 1024 then some m else none
  | none => none
inductive Makes (base : List Int) : List Int → List Int → Prop
  | nil : Makes base [] []
  | step {p m r d : List Int} : p ≠ [] → stepP base p = some (m, r) → Makes base r d → Makes base p (m ++ d)
theorem Makes.go {base p d : List Int} (h : Makes base p d) : ∀ (f : Nat) (out : List Int), p.length ≤ f → applyGo base f out p = some (out ++ d) := by
  induction h with
  | nil => intro f out _; cases f <;> simp [applyGo]
  | @step p m r d hne hs _ ih =>
    intro f out hf
    have hl := stepP_len hs
    cases f with
    | zero => omega
    | succ f =>
      unfold applyGo
      rw [if_neg hne, hs]
      dsimp only
      rw [ih f _ (by omega), List.append_assoc]
theorem Makes.append {base p q d e : List Int} (h : Makes base p d) (g : Makes base q e) (hstep : ∀ p m r, p ≠ [] → stepP base p = some (m, r) → stepP base (p ++ q) = some (m, r ++ q)) : Makes base (p ++ q) (d ++ e) := by
  induction h with
  | nil => exact g
  | @step p m r d hne hs _ ih =>
    rw [List.append_assoc]
    exact .step (by simp [hne]) (hstep p m r hne hs) ih
theorem stepP_append {base p q m r : List Int} (h : stepP base p = some (m, r)) : stepP base (p ++ q) = some (m, r ++ q) := by
  unfold stepP at h
  split at h
  · rename_i h1
    obtain ⟨h1, h2, h3, h4⟩ := h1
    cases h
    have e0 : (p ++ q).getD 0 0 = p.getD 0 0 := by simp [List.getD, List.getElem?_append_left (show 0 < p.length by omega)]
    have e1 : (p ++ q).getD 1 0 = p.getD 1 0 := by simp [List.getD, List.getElem?_append_left (show 1 < p.length by omega)]
    unfold stepP
    rw [e0, e1, if_pos ⟨h1, by rw [List.length_append]; omega, h3, by rw [List.length_append]; omega⟩]
    rw [List.drop_append_of_le_length (by omega), List.take_append_of_le_length (by rw [List.length_drop]; omega), List.drop_append_of_le_length (by omega)]
  · rename_i h0
    split at h
    · rename_i h1
      obtain ⟨h1, h2, h3, h4⟩ := h1
      cases h
      have e0 : (p ++ q).getD 0 0 = p.getD 0 0 := by simp [List.getD, List.getElem?_append_left (show 0 < p.length by omega)]
      have e1 : (p ++ q).getD 1 0 = p.getD 1 0 := by simp [List.getD, List.getElem?_append_left (show 1 < p.length by omega)]
      have e2 : (p ++ q).getD 2 0 = p.getD 2 0 := by simp [List.getD, List.getElem?_append_left (show 2 < p.length by omega)]
      have e3 : (p ++ q).getD 3 0 = p.getD 3 0 := by simp [List.getD, List.getElem?_append_left (show 3 < p.length by omega)]
      unfold stepP
      rw [e0, e1, e2, e3, if_neg (fun hh => by rw [h1] at hh; exact absurd hh.1 (by decide)), if_pos ⟨h1, by rw [List.length_append]; omega, h3, h4⟩]
      rw [List.drop_append_of_le_length (by omega)]
    · cases h
theorem makes_plain (base : List Int) : ∀ (n : Nat) (l : List Int), l.length ≤ n → Makes base (plainB l) l
  | 0, l, h => by
    have : l = [] := List.eq_nil_of_length_eq_zero (by omega)
    subst this
    exact .nil
  | n + 1, l, h => by
    by_cases hl : l = []
    · subst hl; exact .nil
    have h0 : 0 < l.length := by cases l with | nil => exact absurd rfl hl | cons => simp
    rw [plainB_step hl]
    have ih := makes_plain base n (l.drop 255) (by rw [List.length_drop]; omega)
    have e : l = l.take 255 ++ l.drop 255 := (List.take_append_drop _ _).symm
    have hs : stepP base ([0, ((min 255 l.length : Nat) : Int)] ++ l.take 255) = some (l.take 255, []) := by
      have hm : (l.take 255).length = min 255 l.length := List.length_take
      unfold stepP
      rw [if_pos (by simp; omega)]
      simp
      exact ⟨hm ▸ List.take_length, by omega⟩
    have := Makes.step (by simp) (stepP_append (q := plainB (l.drop 255)) hs) (by simpa using ih)
    rwa [List.take_append_drop] at this
theorem makes_delta (base : List Int) (hb : base.length ≤ 65536) : ∀ (f : Nat) (held d : List Int), d.length ≤ f → ∃ p, (∀ out, deltaGo base f out held d = out ++ p) ∧ Makes base p (held ++ d)
  | 0, held, d, h => by
    have : d = [] := List.eq_nil_of_length_eq_zero (by omega)
    subst this
    rw [List.append_nil]
    exact ⟨plainB held, fun out => rfl, makes_plain base _ held (Nat.le_refl _)⟩
  | f + 1, held, [], h => by
    rw [List.append_nil]
    exact ⟨plainB held, fun out => rfl, makes_plain base _ held (Nat.le_refl _)⟩
  | f + 1, held, x :: r, h => by
    rw [List.length_cons] at h
    unfold deltaGo
    split
    · obtain ⟨p, h1, h2⟩ := makes_delta base hb f (held ++ [x]) r (by omega)
      exact ⟨p, h1, by simpa using h2⟩
    · rename_i h8
      obtain ⟨b1, b2, b3, b4, b5⟩ := bestN_ok base (x :: r) base.length (Nat.le_refl _)
      generalize bestN base (x :: r) base.length = mp at *
      obtain ⟨m, pl⟩ := mp
      dsimp only at *
      obtain ⟨p, h1, h2⟩ := makes_delta base hb f [] ((x :: r).drop m) (by rw [List.length_drop, List.length_cons]; omega)
      refine ⟨plainB held ++ ([1, (pl : Int) % 256, (pl : Int) / 256, (m : Int)] ++ p), fun out => by rw [h1]; simp [List.append_assoc], ?_⟩
      refine Makes.append (makes_plain base _ held (Nat.le_refl _)) ?_ fun p m r _ hs => stepP_append hs
      have hs : stepP base [1, (pl : Int) % 256, (pl : Int) / 256, (m : Int)] = some ((x :: r).take m, []) := by
        unfold stepP
        have e : ((pl : Int) % 256 + 256 * ((pl : Int) / 256)).toNat = pl := by omega
        simp only [List.getD_cons_zero, List.getD_cons_succ, e, Int.toNat_natCast]
        rw [if_neg (by simp), if_pos ⟨trivial, by simp, by omega, b4⟩, b5]
        rfl
      have := Makes.step (by simp) (stepP_append (q := p) hs) (by simpa using h2)
      rwa [List.take_append_drop] at this
theorem applyP_delta {base data : List Int} (hb : base.length ≤ 1024) (hd : data.length ≤ 1024) : applyP base (deltaB base data) = some data := by
  obtain ⟨p, h1, h2⟩ := makes_delta base (by omega) data.length [] data (Nat.le_refl _)
  have e : deltaB base data = p := by unfold deltaB; rw [h1]; rfl
  unfold applyP
  rw [e, h2.go _ _ (Nat.le_refl _)]
  simp [hd]
theorem plainB_ok : ∀ (n : Nat) (l : List Int), l.length ≤ n → bytesOk l → bytesOk (plainB l)
  | 0, l, h, _ => by
    have : l = [] := List.eq_nil_of_length_eq_zero (by omega)
    subst this
    intro b hb
    cases hb
  | n + 1, l, h, hl => by
    by_cases hn : l = []
    · subst hn
      intro b hb
      cases hb
    rw [plainB_step hn]
    refine bytesOk.append (bytesOk.append (fun b hb => ?_) fun b hb => hl b (List.mem_of_mem_take hb)) (plainB_ok n _ (by rw [List.length_drop]; omega) fun b hb => hl b (List.mem_of_mem_drop hb))
    simp only [List.mem_cons, List.not_mem_nil, or_false] at hb
    omega
theorem deltaGo_ok (base : List Int) (hb : base.length ≤ 1024) : ∀ (f : Nat) (out held d : List Int), bytesOk out → bytesOk held → bytesOk d → bytesOk (deltaGo base f out held d)
  | 0, out, held, d, h1, h2, _ => h1.append (plainB_ok _ _ (Nat.le_refl _) h2)
  | f + 1, out, held, [], h1, h2, _ => h1.append (plainB_ok _ _ (Nat.le_refl _) h2)
  | f + 1, out, held, x :: r, h1, h2, h3 => by
    unfold deltaGo
    obtain ⟨b1, b2, b3, b4, b5⟩ := bestN_ok base (x :: r) base.length (Nat.le_refl _)
    split
    · exact deltaGo_ok base hb f _ _ r h1 (h2.append fun b hb => by rw [List.mem_singleton.1 hb]; exact h3 x (by simp)) fun b hb => h3 b (by simp [hb])
    · refine deltaGo_ok base hb f _ _ _ ((h1.append (plainB_ok _ _ (Nat.le_refl _) h2)).append fun b hb => ?_) (fun b hb => by cases hb) fun b hb => h3 b (List.mem_of_mem_drop hb)
      simp only [List.mem_cons, List.not_mem_nil, or_false] at hb
      omega
theorem deltaB_ok {base data : List Int} (hb : base.length ≤ 1024) (hd : bytesOk data) : bytesOk (deltaB base data) := deltaGo_ok base hb _ _ _ _ (fun b hb => by cases hb) (fun b hb => by cases hb) hd
theorem plainB_len : ∀ (n : Nat) (l : List Int), l.length ≤ n → (plainB l).length ≤ 3 * l.length
  | 0, l, h => by
    have : l = [] := List.eq_nil_of_length_eq_zero (by omega)
    subst this
    simp [plainB_nil]
  | n + 1, l, h => by
    by_cases hn : l = []
    · subst hn; simp [plainB_nil]
    have h0 : 0 < l.length := by cases l with | nil => exact absurd rfl hn | cons => simp
    have ih := plainB_len n (l.drop 255) (by rw [List.length_drop]; omega)
    rw [plainB_step hn]
    simp only [List.length_append, List.length_cons, List.length_nil, List.length_take, List.length_drop] at ih ⊢
    omega
theorem deltaGo_len (base : List Int) : ∀ (f : Nat) (out held d : List Int), (deltaGo base f out held d).length ≤ out.length + 3 * held.length + 4 * d.length
  | 0, out, held, d => by
    have := plainB_len _ held (Nat.le_refl _)
    show (out ++ plainB held).length ≤ _
    rw [List.length_append]
    omega
  | f + 1, out, held, [] => by
    have := plainB_len _ held (Nat.le_refl _)
    show (out ++ plainB held).length ≤ _
    rw [List.length_append]
    simp
    omega
  | f + 1, out, held, x :: r => by
    unfold deltaGo
    split
    · have := deltaGo_len base f out (held ++ [x]) r
      simp only [List.length_append, List.length_cons, List.length_nil] at this ⊢
      omega
    · rename_i h8
      have hp := plainB_len _ held (Nat.le_refl _)
      have := deltaGo_len base f (out ++ plainB held ++ [1, ((bestN base (x :: r) base.length).2 : Int) % 256, ((bestN base (x :: r) base.length).2 : Int) / 256, ((bestN base (x :: r) base.length).1 : Int)]) [] ((x :: r).drop (bestN base (x :: r) base.length).1)
      simp only [List.length_append, List.length_cons, List.length_nil, List.length_drop] at this ⊢
      omega
theorem deltaB_len (base data : List Int) : (deltaB base data).length ≤ 4 * data.length := by
  have := deltaGo_len base data.length [] [] data
  simpa [deltaB] using this
end Go.Proofs.YtkifkdkjljcclaaGreat
