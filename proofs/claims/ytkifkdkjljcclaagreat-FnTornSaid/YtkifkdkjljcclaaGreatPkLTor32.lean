/- Packs: what they are, and what is read of them. Plain. -/
import Derived.Test.YtkifkdkjljcclaaGreatPkLTor31
namespace Go.Proofs.YtkifkdkjljcclaaGreat
open Go.Sx Go.RowKit

def bestBase (B : List PB) (b : PB) : Nat → Option (Nat × List Int)
  | 0 => none
  | k + 1 => match B[k]? with
    | none => bestBase B b k
    | some c => if c.tag ≠ b.tag then bestBase B b k else
      if (deltaB c.data b.data).length ≤ 1024 ∧ (∀ x ∈ bestBase B b k, (deltaB c.data b.data).length < x.2.length) then some (k, deltaB c.data b.data) else bestBase B b k
def chooseB (B : List PB) (b : PB) (k : Nat) : Option (Nat × List Int) := match bestBase B b k with
  | some x => if x.2.length + 1 < b.data.length then some x else none
  | none => none
theorem chooseB_succ (B : List PB) (b : PB) (k : Nat) : chooseB B b (k + 1) = match B[k]? with
    | none => chooseB B b k
    | some c => if c.tag ≠ b.tag then chooseB B b k else
      if (deltaB c.data b.data).length ≤ 1024 ∧ (deltaB c.data b.data).length + 1 < b.data.length ∧ (∀ x ∈ chooseB B b k, (deltaB c.data b.data).length < x.2.length) then some (k, deltaB c.data b.data) else chooseB B b k := by
  unfold chooseB
  rw [bestBase]
  cases hB : B[k]? with
  | none => rfl
  | some c =>
    dsimp only
    by_cases ht : c.tag ≠ b.tag
    · rw [if_pos ht, if_pos ht]
    rw [if_neg ht, if_neg ht]
    generalize deltaB c.data b.data = p
    cases hb : bestBase B b k with
    | none =>
      by_cases h1 : p.length ≤ 1024
      · by_cases h2 : p.length + 1 < b.data.length
        · simp [h1, h2]
        · simp [h1, h2]
      · simp [h1]
    | some x =>
      by_cases h1 : p.length ≤ 1024
      · by_cases h3 : p.length < x.2.length
        · by_cases h2 : p.length + 1 < b.data.length
          · by_cases h4 : x.2.length + 1 < b.data.length
            · simp [h1, h2, h3, h4]
            · simp [h1, h2, h3, h4]
          · have h4 : ¬ x.2.length + 1 < b.data.length := by omega
            simp [h1, h2, h3, h4]
        · by_cases h4 : x.2.length + 1 < b.data.length
          · simp [h1, h3, h4]
          · have h2 : ¬ p.length + 1 < b.data.length := by omega
            simp [h1, h2, h3, h4]
      · simp [h1]
theorem bestBase_ok {B : List PB} {b : PB} : ∀ {k : Nat} {x : Nat × List Int}, bestBase B b k = some x → ∃ c, B[x.1]? = some c ∧ x.1 < k ∧ x.2 = deltaB c.data b.data ∧ x.2.length ≤ 1024
  | 0, _, h => by cases h
  | k + 1, x, h => by
    unfold bestBase at h
    split at h
    · obtain ⟨c, h1, h2, h3⟩ := bestBase_ok h
      exact ⟨c, h1, by omega, h3⟩
    · rename_i c hc
      split at h
      · obtain ⟨c, h1, h2, h3⟩ := bestBase_ok h
        exact ⟨c, h1, by omega, h3⟩
      · split at h
        · rename_i h5
          cases h
          exact ⟨c, hc, by omega, rfl, h5.1⟩
        · obtain ⟨c, h1, h2, h3⟩ := bestBase_ok h
          exact ⟨c, h1, by omega, h3⟩
theorem chooseB_ok {B : List PB} {b : PB} {k : Nat} {x : Nat × List Int} (h : chooseB B b k = some x) : ∃ c, B[x.1]? = some c ∧ x.1 < k ∧ x.2 = deltaB c.data b.data ∧ x.2.length ≤ 1024 := by
  unfold chooseB at h
  split at h
  · rename_i y hy
    split at h
    · cases h
      exact bestBase_ok hy
    · cases h
  · cases h
def headB (B : List PB) (b : PB) (k : Nat) : List Int := match chooseB B b k with
  | some x => [1, b.tag, (x.1 : Int)]
  | none => [0, b.tag]
def bodyB (B : List PB) (b : PB) (k : Nat) : List Int := match chooseB B b k with
  | some x => x.2
  | none => b.data
def recB (B : List PB) (b : PB) (k : Nat) : List Int := headB B b k ++ leB (bodyB B b k).length 2 ++ bodyB B b k ++ b.key.take 4
def recsB (B : List PB) : Nat → List Int
  | 0 => [72, 84, 80, 49]
  | i + 1 => match B[i]? with
    | some b => recsB B i ++ recB B b i
    | none => recsB B i
def packB (B : List PB) : List Int := recsB B B.length ++ [2, (B.length : Int)] ++ hashL 8 (recsB B B.length)
theorem recsB_succ {B : List PB} {i : Nat} {b : PB} (h : B[i]? = some b) : recsB B (i + 1) = recsB B i ++ recB B b i := by
  show (match B[i]? with
    | some b => recsB B i ++ recB B b i
    | none => recsB B i) = _
  rw [h]
theorem key4_len (b : PB) : (b.key.take 4).length = 4 := by
  rw [List.length_take]
  have : b.key.length = 32 := hashL_len _ _
  omega
theorem headB_len (B : List PB) (b : PB) (k : Nat) : (headB B b k).length ≤ 3 := by unfold headB; split <;> simp
theorem bodyB_len {B : List PB} {b : PB} {k : Nat} (h : b.data.length ≤ 1024) : (bodyB B b k).length ≤ 1024 := by
  unfold bodyB
  split
  · rename_i x hx
    exact (chooseB_ok hx).choose_spec.2.2.2
  · exact h
theorem recB_len {B : List PB} {b : PB} {k : Nat} (h : b.data.length ≤ 1024) : (recB B b k).length ≤ 1033 ∧ 8 ≤ (recB B b k).length := by
  have h1 := headB_len B b k
  have h2 := bodyB_len (B := B) (k := k) h
  have h3 := key4_len b
  have h4 : 2 ≤ (headB B b k).length := by unfold headB; split <;> simp
  unfold recB
  rw [List.length_append, List.length_append, List.length_append, leB_len, h3]
  omega
theorem recsB_len {B : List PB} (h : ∀ b ∈ B, b.data.length ≤ 1024) : ∀ i, (recsB B i).length ≤ 4 + 1033 * i ∧ 4 ≤ (recsB B i).length
  | 0 => by simp [recsB]
  | i + 1 => by
    have ih := recsB_len h i
    cases hb : B[i]? with
    | none =>
      have : recsB B (i + 1) = recsB B i := by
        show (match B[i]? with
          | some b => recsB B i ++ recB B b i
          | none => recsB B i) = _
        rw [hb]
      rw [this]
      omega
    | some b =>
      rw [recsB_succ hb, List.length_append]
      have := recB_len (B := B) (k := i) (h b (List.mem_of_getElem? hb))
      omega
theorem recsB_pre {B : List PB} : ∀ {i j : Nat}, i ≤ j → ∃ r, recsB B j = recsB B i ++ r
  | i, 0, h => by
    have : i = 0 := by omega
    subst this
    exact ⟨[], by simp⟩
  | i, j + 1, h => by
    rcases Nat.lt_or_ge i (j + 1) with h1 | h1
    · obtain ⟨r, hr⟩ := recsB_pre (B := B) (i := i) (j := j) (by omega)
      cases hb : B[j]? with
      | none => exact ⟨r, by
          show (match B[j]? with
            | some b => recsB B j ++ recB B b j
            | none => recsB B j) = _
          rw [hb]; exact hr⟩
      | some b => exact ⟨r ++ recB B b j, by rw [recsB_succ hb, hr, List.append_assoc]⟩
    · have : i = j + 1 := by omega
      subst this
      exact ⟨[], by simp⟩
theorem packB_len (B : List PB) : (packB B).length = (recsB B B.length).length + 34 := by
  unfold packB
  rw [List.length_append, List.length_append, hashL_len]
  rfl

def recP (d : List Int) (a : Nat) (B : List PB) : Option (PB × Int × Nat) :=
  if (d.drop a).length < 2 ∨ 1 < (d.drop a).getD 0 0 then none
  else if (d.drop a).getD 0 0 = 1 then
    if (d.drop a).length < 5 then none
    else if (d.drop a).length < 5 + ((d.drop a).getD 3 0 + 256 * (d.drop a).getD 4 0).toNat + 4 then none
    else match B[((d.drop a).getD 2 0).toNat]? with
      | none => none
      | some c => match applyP c.data (((d.drop a).drop 5).take ((d.drop a).getD 3 0 + 256 * (d.drop a).getD 4 0).toNat) with
        | none => none
        | some m => some (⟨(d.drop a).getD 1 0, m⟩, (d.drop a).getD 2 0, a + 5 + ((d.drop a).getD 3 0 + 256 * (d.drop a).getD 4 0).toNat + 4)
  else
    if (d.drop a).length < 4 then none
    else if (d.drop a).length < 4 + ((d.drop a).getD 2 0 + 256 * (d.drop a).getD 3 0).toNat + 4 then none
    else if 1024 < ((d.drop a).getD 2 0 + 256 * (d.drop a).getD 3 0).toNat then none
    else some (⟨(d.drop a).getD 1 0, ((d.drop a).drop 4).take ((d.drop a).getD 2 0 + 256 * (d.drop a).getD 3 0).toNat⟩, -1, a + 4 + ((d.drop a).getD 2 0 + 256 * (d.drop a).getD 3 0).toNat + 4)
def rightP (d : List Int) (B : List PB) (b : PB) (fin : Nat) : Prop := (d.drop (fin - 4)).take 4 = b.key.take 4 ∧ ∀ c ∈ B.getLast?, ltL c.key b.key
instance (d : List Int) (B : List PB) (b : PB) (fin : Nat) : Decidable (rightP d B b fin) := by unfold rightP; infer_instance
def scanGo (d : List Int) : Nat → Nat → List PB → Nat × List PB
  | 0, a, B => (a, B)
  | f + 1, a, B => match recP d a B with
    | none => (a, B)
    | some (b, _, fin) => if rightP d B b fin then scanGo d f fin (B ++ [b]) else (a, B)
def readGo (d : List Int) : Nat → Nat → List PB → List PB × Int
  | 0, _, _ => ([], 5)
  | f + 1, a, B =>
    if 34 ≤ (d.drop a).length ∧ (d.drop a).getD 0 0 = 2 then
      if (d.drop a).getD 1 0 ≠ B.length ∨ 34 < (d.drop a).length then ([], 5)
      else if (d.drop a).drop 2 ≠ hashL 8 (d.take a) then ([], 8) else (B, 0)
    else match recP d a B with
      | none => ([], 5)
      | some (b, _, fin) => if B.length = 128 then ([], 5) else if rightP d B b fin then readGo d f fin (B ++ [b]) else ([], 8)
theorem recP_fin {d : List Int} {a : Nat} {B : List PB} {b : PB} {x : Int} {fin : Nat} (h : recP d a B = some (b, x, fin)) : fin ≤ d.length ∧ a + 8 ≤ fin ∧ b.data.length ≤ 1024 ∧ (x = -1 ∨ (0 ≤ x ∧ x.toNat < B.length) ∨ x < 0) := by
  have hl : ∀ k, k ≤ (d.drop a).length → 0 < k → a + k ≤ d.length := by
    intro k hk h0
    rw [List.length_drop] at hk
    omega
  unfold recP at h
  split at h
  · cases h
  split at h
  · split at h
    · cases h
    split at h
    · cases h
    rename_i h1 h2
    split at h
    · cases h
    · rename_i c hc
      have hcl := (List.getElem?_eq_some_iff.1 hc).1
      split at h
      · cases h
      · rename_i m hm
        cases h
        have := hl _ (Nat.not_lt.1 h2) (by omega)
        refine ⟨by omega, by omega, ?_, by omega⟩
        unfold applyP at hm
        split at hm
        · split at hm
          · rename_i h6
            cases hm
            exact h6
          · cases hm
        · cases hm
  · split at h
    · cases h
    split at h
    · cases h
    rename_i h1 h2
    split at h
    · cases h
    · cases h
      have := hl _ (Nat.not_lt.1 h2) (by omega)
      refine ⟨by omega, by omega, ?_, .inl rfl⟩
      dsimp only
      rw [List.length_take]
      omega
theorem recP_alike {d e : List Int} {a L : Nat} {B : List PB} {b : PB} {x : Int} {fin : Nat} (hde : d.take L = e.take L) (hdl : L ≤ d.length) (hel : L ≤ e.length) (h : recP d a B = some (b, x, fin)) (hf : fin ≤ L) : recP e a B = some (b, x, fin) := by
  obtain ⟨f1, f2, _⟩ := recP_fin h
  have ha : a + 8 ≤ L := by omega
  have hg : ∀ k, a + k < L → (e.drop a).getD k 0 = (d.drop a).getD k 0 := by
    intro k hk
    have : e[a + k]? = d[a + k]? := by
      have := congrArg (fun l => l[a + k]?) hde
      simp only [List.getElem?_take, if_pos hk] at this
      exact this.symm
    simp [List.getD, List.getElem?_drop, this]
  have hs : ∀ s n, a + s + n ≤ L → ((e.drop a).drop s).take n = ((d.drop a).drop s).take n := by
    intro s n hsn
    rw [List.drop_drop, List.drop_drop]
    have : ∀ l : List Int, L ≤ l.length → (l.drop (a + s)).take n = ((l.take L).drop (a + s)).take n := by
      intro l hl
      rw [List.drop_take, List.take_take, Nat.min_eq_left (by omega)]
    rw [this e hel, this d hdl, hde]
  have hld : (d.drop a).length = d.length - a := List.length_drop
  have hle : (e.drop a).length = e.length - a := List.length_drop
  unfold recP at h ⊢
  rw [hg 0 (by omega), hg 1 (by omega), hg 2 (by omega), hg 3 (by omega), hg 4 (by omega)]
  split at h
  · cases h
  rename_i h0
  rw [if_neg (by omega)]
  split at h
  · rename_i h1
    rw [if_pos h1]
    split at h
    · cases h
    rename_i h2
    split at h
    · cases h
    rename_i h3
    generalize hn : ((d.drop a).getD 3 0 + 256 * (d.drop a).getD 4 0).toNat = n at h h3 ⊢
    have hfin : fin = a + 5 + n + 4 := by
      split at h
      · cases h
      · split at h
        · cases h
        · cases h; rfl
    rw [if_neg (by omega), if_neg (by omega), hs 5 n (by omega)]
    exact h
  · rename_i h1
    rw [if_neg h1]
    split at h
    · cases h
    rename_i h2
    split at h
    · cases h
    rename_i h3
    generalize hn : ((d.drop a).getD 2 0 + 256 * (d.drop a).getD 3 0).toNat = n at h h3 ⊢
    split at h
    · cases h
    rename_i h4
    have hfin : fin = a + 4 + n + 4 := by cases h; rfl
    rw [if_neg (by omega), if_neg (by omega), if_neg h4, hs 4 n (by omega)]
    exact h
theorem le2 {n : Nat} (h : n < 65536) : leB (n : Int) 2 = [(n : Int) % 256, (n : Int) / 256] := by
  have e1 : (2 : Int) ^ (8 * 0) = 1 := rfl
  have e2 : (2 : Int) ^ (8 * 1) = 256 := rfl
  show [(n : Int) / 2 ^ (8 * 0) % 256, (n : Int) / 2 ^ (8 * 1) % 256] = _
  rw [e1, e2]
  congr 1
  · simp
  · congr 1
    omega
theorem recP_pack {B : List PB} (hv : validS B) {d : List Int} {i : Nat} {b : PB} (hb : B[i]? = some b) (hd : d.take (recsB B (i + 1)).length = recsB B (i + 1)) :
    ∃ x, recP d (recsB B i).length (B.take i) = some (b, x, (recsB B (i + 1)).length) := by
  have hbl := hv.2.1 b (List.mem_of_getElem? hb)
  have hbo := bodyB_len (B := B) (k := i) hbl
  have h4 := key4_len b
  have hL : (recsB B (i + 1)).length = (recsB B i).length + (recB B b i).length := by rw [recsB_succ hb, List.length_append]
  have hdL : (recsB B (i + 1)).length ≤ d.length := by
    have := congrArg List.length hd
    rw [List.length_take] at this
    omega
  have hr : ∃ t, d.drop (recsB B i).length = recB B b i ++ t := by
    refine ⟨d.drop (recsB B (i + 1)).length, ?_⟩
    have e : d = recsB B i ++ (recB B b i ++ d.drop (recsB B (i + 1)).length) := by
      conv => lhs; rw [← List.take_append_drop (recsB B (i + 1)).length d, hd]
      rw [recsB_succ hb, List.append_assoc]
    conv => lhs; rw [e]
    rw [List.drop_left]
  obtain ⟨t, ht⟩ := hr
  rw [hL]
  unfold recP
  rw [ht]
  unfold recB headB bodyB at *
  cases hc : chooseB B b i with
  | none =>
    rw [hc] at hbo
    dsimp only at hbo ⊢
    rw [le2 (by omega)]
    have en : ((b.data.length : Int) % 256 + 256 * ((b.data.length : Int) / 256)).toNat = b.data.length := by omega
    refine ⟨-1, ?_⟩
    simp only [List.cons_append, List.nil_append, List.append_assoc, List.getD_cons_zero, List.getD_cons_succ, List.length_cons, List.length_append, List.drop_succ_cons, List.drop_zero, en, h4]
    rw [if_neg (by omega), if_neg (by decide), if_neg (by omega), if_neg (by omega), if_neg (by omega), List.take_left]
    congr 3
    omega
  | some x =>
    rw [hc] at hbo
    obtain ⟨c, h1, h2, h3, h5⟩ := chooseB_ok hc
    dsimp only at hbo ⊢
    have hcl := hv.2.1 c (List.mem_of_getElem? h1)
    rw [le2 (by omega)]
    have en : ((x.2.length : Int) % 256 + 256 * ((x.2.length : Int) / 256)).toNat = x.2.length := by omega
    refine ⟨(x.1 : Int), ?_⟩
    simp only [List.cons_append, List.nil_append, List.append_assoc, List.getD_cons_zero, List.getD_cons_succ, List.length_cons, List.length_append, List.drop_succ_cons, List.drop_zero, en, h4, Int.toNat_natCast]
    rw [if_neg (by omega), if_pos trivial, if_neg (by omega), if_neg (by omega), List.take_left, List.getElem?_take, if_pos h2, h1]
    dsimp only
    rw [h3, applyP_delta hcl hbl]
    dsimp only
    congr 3
    rw [← h3]
    omega
theorem rightP_pack {B : List PB} (hv : validS B) {d : List Int} {i : Nat} {b : PB} (hb : B[i]? = some b) (hd : d.take (recsB B (i + 1)).length = recsB B (i + 1)) : rightP d (B.take i) b (recsB B (i + 1)).length := by
  have h4 := key4_len b
  constructor
  · have e : d = (recsB B i ++ (headB B b i ++ leB (bodyB B b i).length 2 ++ bodyB B b i)) ++ (b.key.take 4 ++ d.drop (recsB B (i + 1)).length) := by
      conv => lhs; rw [← List.take_append_drop (recsB B (i + 1)).length d, hd]
      rw [recsB_succ hb]
      unfold recB
      simp only [List.append_assoc]
    have hl : (recsB B (i + 1)).length - 4 = (recsB B i ++ (headB B b i ++ leB (bodyB B b i).length 2 ++ bodyB B b i)).length := by
      rw [recsB_succ hb]
      unfold recB
      simp only [List.length_append, h4]
      omega
    rw [hl]
    conv => lhs; rw [e]
    rw [List.drop_left, List.take_append_of_le_length (by omega), List.take_of_length_le (by omega)]
  · intro c hc
    have hil := (List.getElem?_eq_some_iff.1 hb).1
    rcases Nat.eq_zero_or_pos i with h0 | h0
    · subst h0
      cases hc
    have hlast : (B.take i).getLast? = B[i - 1]? := by
      rw [List.getLast?_eq_getElem?, List.length_take, Nat.min_eq_left (by omega), List.getElem?_take, if_pos (by omega)]
    rw [hlast] at hc
    have hc : B[i - 1]? = some c := hc
    have hp := List.pairwise_iff_getElem.1 hv.2.2
    have h1 := (List.getElem?_eq_some_iff.1 hc)
    have h2 := (List.getElem?_eq_some_iff.1 hb)
    obtain ⟨h1l, h1e⟩ := h1
    obtain ⟨h2l, h2e⟩ := h2
    have := hp (i - 1) i (by rw [keysOf_len]; exact h1l) (by rw [keysOf_len]; exact h2l) (by omega)
    simpa [keysOf, h1e, h2e] using this
theorem take_pre {d : List Int} {B : List PB} {i j : Nat} (hij : i ≤ j) (hd : d.take (recsB B j).length = recsB B j) : d.take (recsB B i).length = recsB B i := by
  obtain ⟨r, hr⟩ := recsB_pre (B := B) hij
  have := congrArg (fun l => l.take (recsB B i).length) hd
  rw [List.take_take, hr, List.length_append, Nat.min_eq_left (by omega), List.take_left] at this
  exact this
theorem scan_reach {B : List PB} (hv : validS B) {d : List Int} : ∀ {i : Nat}, i ≤ B.length → d.take (recsB B i).length = recsB B i → ∀ f, i ≤ f → scanGo d f 4 [] = scanGo d (f - i) (recsB B i).length (B.take i)
  | 0, _, _, f, _ => by simp [recsB]
  | i + 1, hi, hd, f, hf => by
    have hb : B[i]? = some B[i] := List.getElem?_eq_getElem (by omega)
    obtain ⟨x, hx⟩ := recP_pack hv hb hd
    have hr := rightP_pack hv hb hd
    rw [scan_reach hv (by omega) (take_pre (Nat.le_succ i) hd) f (by omega)]
    obtain ⟨g, hg⟩ : ∃ g, f - i = g + 1 := ⟨f - i - 1, by omega⟩
    rw [hg]
    conv => lhs; unfold scanGo
    rw [hx]
    dsimp only
    rw [if_pos hr, take_succ_get hb, show f - (i + 1) = g by omega]
theorem recsB_first {B : List PB} {d : List Int} {i : Nat} {b : PB} (hb : B[i]? = some b) (hd : d.take (recsB B (i + 1)).length = recsB B (i + 1)) : (d.drop (recsB B i).length).getD 0 0 ≠ 2 := by
  have e : d.drop (recsB B i).length = recB B b i ++ d.drop (recsB B (i + 1)).length := by
    have e : d = recsB B i ++ (recB B b i ++ d.drop (recsB B (i + 1)).length) := by
      conv => lhs; rw [← List.take_append_drop (recsB B (i + 1)).length d, hd]
      rw [recsB_succ hb, List.append_assoc]
    conv => lhs; rw [e]
    rw [List.drop_left]
  rw [e]
  unfold recB headB
  split <;> simp
theorem read_reach {B : List PB} (hv : validS B) {d : List Int} : ∀ {i : Nat}, i ≤ B.length → d.take (recsB B i).length = recsB B i → ∀ f, i ≤ f → readGo d f 4 [] = readGo d (f - i) (recsB B i).length (B.take i)
  | 0, _, _, f, _ => by simp [recsB]
  | i + 1, hi, hd, f, hf => by
    have hb : B[i]? = some B[i] := List.getElem?_eq_getElem (by omega)
    obtain ⟨x, hx⟩ := recP_pack hv hb hd
    have hr := rightP_pack hv hb hd
    rw [read_reach hv (by omega) (take_pre (Nat.le_succ i) hd) f (by omega)]
    obtain ⟨g, hg⟩ : ∃ g, f - i = g + 1 := ⟨f - i - 1, by omega⟩
    rw [hg]
    conv => lhs; unfold readGo
    rw [if_neg (fun hh => recsB_first hb hd hh.2), hx]
    dsimp only
    have h128 := hv.1
    rw [if_neg (by rw [List.length_take]; omega), if_pos hr, take_succ_get hb, show f - (i + 1) = g by omega]
theorem read_pack {B : List PB} (hv : validS B) : readGo (packB B) 129 4 [] = (B, 0) := by
  have h128 := hv.1
  have hd : (packB B).take (recsB B B.length).length = recsB B B.length := by
    unfold packB
    rw [List.append_assoc, List.take_left]
  have hdr : (packB B).drop (recsB B B.length).length = [2, (B.length : Int)] ++ hashL 8 (recsB B B.length) := by
    unfold packB
    rw [List.append_assoc, List.drop_left]
  rw [read_reach hv (Nat.le_refl _) hd 129 (by omega)]
  obtain ⟨g, hg⟩ : ∃ g, 129 - B.length = g + 1 := ⟨128 - B.length, by omega⟩
  rw [hg, List.take_length]
  unfold readGo
  rw [hdr, hd]
  have hl : ([2, (B.length : Int)] ++ hashL 8 (recsB B B.length)).length = 34 := by rw [List.length_append, hashL_len]; rfl
  rw [if_pos ⟨by omega, rfl⟩, if_neg (by rw [hl]; simp)]
  rw [if_neg (by simp)]
theorem read_end {d : List Int} {B' : List PB} : ∀ {f a : Nat} {B : List PB}, readGo d f a B = (B', 0) → 34 ≤ d.length ∧ a + 34 ≤ d.length ∧ d.getD (d.length - 34) 0 = 2 ∧ d.drop (d.length - 32) = hashL 8 (d.take (d.length - 34))
  | 0, a, B, h => by simp [readGo] at h
  | f + 1, a, B, h => by
    unfold readGo at h
    split at h
    · rename_i h1
      split at h
      · simp at h
      rename_i h2
      split at h
      · simp at h
      rename_i h3
      have hl : (d.drop a).length = d.length - a := List.length_drop
      have ha : d.length - 34 = a := by omega
      refine ⟨by omega, by omega, ?_, ?_⟩
      · rw [ha]
        have := h1.2
        simpa [List.getD, List.getElem?_drop] using this
      · rw [ha, show d.length - 32 = a + 2 by omega, ← List.drop_drop]
        exact Decidable.of_not_not h3
    · split at h
      · simp at h
      · rename_i b x fin hr
        split at h
        · simp at h
        split at h
        · have hf := recP_fin hr
          obtain ⟨h1, h2, h3, h4⟩ := read_end h
          exact ⟨h1, by omega, h3, h4⟩
        · simp at h
theorem read_code (d : List Int) : ∀ (f a : Nat) (B : List PB), (readGo d f a B).2 = 0 ∨ (readGo d f a B).2 = 5 ∨ (readGo d f a B).2 = 8
  | 0, a, B => by simp [readGo]
  | f + 1, a, B => by
    unfold readGo
    split
    · split
      · simp
      · split <;> simp
    · split
      · simp
      · split
        · simp
        · split
          · exact read_code d f _ _
          · simp
theorem cut_none {B : List PB} (hv : validS B) {c i : Nat} (hi : i ≤ B.length) (hc : (recsB B i).length ≤ c) (hcl : c < (packB B).length) (hn : i < B.length → c < (recsB B (i + 1)).length) : recP ((packB B).take c) (recsB B i).length (B.take i) = none := by
  cases h : recP ((packB B).take c) (recsB B i).length (B.take i) with
  | none => rfl
  | some y =>
    exfalso
    obtain ⟨b, x, fin⟩ := y
    obtain ⟨f1, f2, _⟩ := recP_fin h
    rw [List.length_take, Nat.min_eq_left (by omega)] at f1
    have h' := recP_alike (L := c) (e := packB B) (by rw [List.take_take, Nat.min_self]) (by rw [List.length_take]; omega) (by omega) h f1
    rcases Nat.lt_or_ge i B.length with hlt | hge
    · have hb : B[i]? = some B[i] := List.getElem?_eq_getElem hlt
      obtain ⟨r, hr⟩ := recsB_pre (B := B) (i := i + 1) (j := B.length) (by omega)
      have hd : (packB B).take (recsB B (i + 1)).length = recsB B (i + 1) := by
        unfold packB
        rw [hr]
        simp only [List.append_assoc]
        rw [List.take_left]
      obtain ⟨x', hx'⟩ := recP_pack hv hb hd
      rw [hx'] at h'
      have := hn hlt
      have : fin = (recsB B (i + 1)).length := by
        have h' := Option.some.inj h'
        exact (Prod.mk.inj (Prod.mk.inj h').2).2.symm
      omega
    · have : i = B.length := by omega
      subst this
      have hdr : (packB B).drop (recsB B B.length).length = [2, (B.length : Int)] ++ hashL 8 (recsB B B.length) := by
        unfold packB
        rw [List.append_assoc, List.drop_left]
      unfold recP at h'
      rw [hdr] at h'
      rw [if_pos (.inr (by show (1 : Int) < 2; decide))] at h'
      cases h'
theorem cut_at {B : List PB} {c : Nat} (h4 : 4 ≤ c) : ∃ i, i ≤ B.length ∧ (recsB B i).length ≤ c ∧ (i < B.length → c < (recsB B (i + 1)).length) := by
  have key : ∀ n, n ≤ B.length → (∃ i, i ≤ B.length ∧ (recsB B i).length ≤ c ∧ (i < B.length → c < (recsB B (i + 1)).length)) ∨ (recsB B n).length ≤ c := by
    intro n
    induction n with
    | zero => intro _; exact .inr (by simpa [recsB] using h4)
    | succ n ih =>
      intro hn
      rcases ih (by omega) with h | h
      · exact .inl h
      · rcases Nat.lt_or_ge c (recsB B (n + 1)).length with h1 | h1
        · exact .inl ⟨n, by omega, h, fun _ => h1⟩
        · exact .inr h1
  rcases key B.length (Nat.le_refl _) with h | h
  · exact h
  · exact ⟨B.length, Nat.le_refl _, h, fun hh => by omega⟩
theorem cut_pre {B : List PB} {c i : Nat} (hi : i ≤ B.length) (hc : (recsB B i).length ≤ c) : ((packB B).take c).take (recsB B i).length = recsB B i := by
  obtain ⟨r, hr⟩ := recsB_pre (B := B) (i := i) (j := B.length) hi
  rw [List.take_take, Nat.min_eq_left hc]
  unfold packB
  rw [hr]
  simp only [List.append_assoc]
  rw [List.take_left]
theorem validS_take {B : List PB} (hv : validS B) (i : Nat) : validS (B.take i) := by
  refine ⟨by rw [List.length_take]; have := hv.1; omega, fun b hb => hv.2.1 b (List.mem_of_mem_take hb), ?_⟩
  have : keysOf (B.take i) = (keysOf B).take i := by unfold keysOf; rw [List.map_take]
  rw [this]
  exact List.Pairwise.sublist (List.take_sublist _ _) hv.2.2
theorem scan_cut {B : List PB} (hv : validS B) {c : Nat} (h4 : 4 ≤ c) (hcl : c < (packB B).length) : ∃ i, i ≤ B.length ∧ (recsB B i).length ≤ c ∧ scanGo ((packB B).take c) 128 4 [] = ((recsB B i).length, B.take i) ∧ (readGo ((packB B).take c) 129 4 []).2 = 5 := by
  obtain ⟨i, hi, hc, hn⟩ := cut_at (B := B) h4
  have h128 := hv.1
  have hp := cut_pre hi hc
  have hno := cut_none hv hi hc hcl hn
  refine ⟨i, hi, hc, ?_, ?_⟩
  · rw [scan_reach hv hi hp 128 (by omega)]
    cases 128 - i with
    | zero => rfl
    | succ g =>
      unfold scanGo
      rw [hno]
  · rw [read_reach hv hi hp 129 (by omega)]
    obtain ⟨g, hg⟩ : ∃ g, 129 - i = g + 1 := ⟨128 - i, by omega⟩
    rw [hg]
    unfold readGo
    rw [hno, if_neg]
    rintro ⟨h34, h2⟩
    rw [List.length_drop, List.length_take, Nat.min_eq_left (by omega)] at h34
    rcases Nat.lt_or_ge i B.length with hlt | hge
    · have hlen := packB_len B
      have hb : B[i]? = some B[i] := List.getElem?_eq_getElem hlt
      have e : ((packB B).take c).drop (recsB B i).length = ((packB B).drop (recsB B i).length).take (c - (recsB B i).length) := List.drop_take ..
      have hpp : (packB B).take (recsB B (i + 1)).length = recsB B (i + 1) := by
        have := cut_pre (B := B) (i := i + 1) (c := (packB B).length) (by omega) (by
          obtain ⟨r, hr⟩ := recsB_pre (B := B) (i := i + 1) (j := B.length) (by omega)
          rw [hlen, hr, List.length_append]
          omega)
        rwa [List.take_length] at this
      refine recsB_first hb hpp ?_
      rw [e] at h2
      rw [← h2]
      simp only [List.getD]
      rw [List.getElem?_take, if_pos (by omega)]
    · have hlen := packB_len B
      have : i = B.length := by omega
      subst this
      omega
theorem read_bad {B : List PB} (hv : validS B) {q : Nat} {y : Int} (hq : q < (packB B).length) (hy : (packB B)[q]? ≠ some y) {B' : List PB} (h : readGo ((packB B).set q y) 129 4 [] = (B', 0)) :
    q < (packB B).length - 34 ∧ hashL 8 (((packB B).set q y).take ((packB B).length - 34)) = hashL 8 ((packB B).take ((packB B).length - 34)) ∧ ((packB B).set q y).take ((packB B).length - 34) ≠ (packB B).take ((packB B).length - 34) := by
  have hlen := packB_len B
  have h128 := hv.1
  obtain ⟨h34, _, h2, hk⟩ := read_end h
  rw [List.length_set] at h34 h2 hk
  have hR : (packB B).length - 34 = (recsB B B.length).length := by omega
  have hp : (packB B).take (recsB B B.length).length = recsB B B.length := by
    unfold packB
    rw [List.append_assoc, List.take_left]
  have hdr : (packB B).drop (recsB B B.length).length = [2, (B.length : Int)] ++ hashL 8 (recsB B B.length) := by
    unfold packB
    rw [List.append_assoc, List.drop_left]
  have hlt : q < (packB B).length - 34 := by
    rcases Nat.lt_or_ge q ((packB B).length - 34) with h1 | h1
    · exact h1
    exfalso
    rw [hR] at h1
    have hpre : ((packB B).set q y).take (recsB B B.length).length = recsB B B.length := by
      rw [List.take_set, List.set_eq_of_length_le (by rw [List.length_take]; omega), hp]
    rw [read_reach hv (Nat.le_refl _) hpre 129 (by omega)] at h
    obtain ⟨g, hg⟩ : ∃ g, 129 - B.length = g + 1 := ⟨128 - B.length, by omega⟩
    rw [hg, List.take_length] at h
    have hds : ((packB B).set q y).drop (recsB B B.length).length = ([2, (B.length : Int)] ++ hashL 8 (recsB B B.length)).set (q - (recsB B B.length).length) y := by
      rw [List.drop_set, if_neg (by omega), hdr]
    have hpq : (packB B)[q]? = ([2, (B.length : Int)] ++ hashL 8 (recsB B B.length))[q - (recsB B B.length).length]? := by
      rw [← hdr, List.getElem?_drop]
      congr 1
      omega
    have hl : (([2, (B.length : Int)] ++ hashL 8 (recsB B B.length)).set (q - (recsB B B.length).length) y).length = 34 := by rw [List.length_set, List.length_append, hashL_len]; rfl
    rw [hR] at h2
    have h2' : (((packB B).set q y).drop (recsB B B.length).length).getD 0 0 = 2 := by
      have := h2
      simpa [List.getD, List.getElem?_drop] using this
    unfold readGo at h
    rw [hds] at h h2'
    rw [if_pos ⟨by omega, h2'⟩, hpre] at h
    split at h
    · simp at h
    rename_i h3
    split at h
    · simp at h
    rename_i h4
    have h4 := Decidable.of_not_not h4
    rw [hpq] at hy
    generalize hm : q - (recsB B B.length).length = m at *
    match m with
    | 0 =>
      simp at h2' hy
      omega
    | 1 =>
      simp at h3 hy
      omega
    | m + 2 =>
      have e1 : (([2, (B.length : Int)] ++ hashL 8 (recsB B B.length)).set (m + 2) y).drop 2 = (hashL 8 (recsB B B.length)).set m y := by simp
      rw [e1] at h4
      have hml : m < (hashL 8 (recsB B B.length)).length := by rw [hashL_len]; omega
      have e2 := congrArg (fun l => l[m]?) h4
      simp only [List.getElem?_set_self hml] at e2
      apply hy
      rw [e2]
      simp
  refine ⟨hlt, ?_, fun hh => hy ?_⟩
  · rw [← hk]
    have : ((packB B).set q y).drop ((packB B).length - 32) = (packB B).drop ((packB B).length - 32) := by rw [List.drop_set, if_pos (by omega)]
    rw [this, hR, hp, show (packB B).length - 32 = (recsB B B.length).length + 2 by omega, ← List.drop_drop, hdr]
    rfl
  · have := congrArg (fun l => l[q]?) hh
    simp only [List.getElem?_take, if_pos hlt] at this
    rw [← this, List.getElem?_set_self hq]
end Go.Proofs.YtkifkdkjljcclaaGreat
