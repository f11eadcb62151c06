/- More rules for own slices: shrunk, cleared, copied into, a string made of bytes, a clone. The program: a sorted list's keys each once; is it sorted; a key is found; blobs compared, copied; a store's keys, is it valid. -/
import Derived.Laws.BytesString
import Derived.Test.YtkifkdkjljcclaaPkLPS12
import Derived.Test.YtkifkdkjljcclaaPkLPS16
namespace Go.Sx
open Go.RowKit (Below)
open Go.Deep (add_add)
variable {P : Program} {R : Value → World → Prop} {w0 w : World} {ls L : List Blk} {e z : Nat} {s : Sl} {xs : List Value}

theorem r_drawB {P : Program} {R : Value → World → Prop} {w0 w : World} {ls : List Blk} {s : World → Prop} (hA : At w0 w ls) (h : ∀ w', At w0 w' ls → Below w.heap.size w w' → s w') : ((real P R).draw s : World → Prop) w := h _ hA.drew (drew_below w)

theorem add_zero (p : Addr) : p.add 0 = p := by unfold Addr.add; simp

theorem ldOk_own {w0 w : World} {ls : List Blk} (hA : At w0 w ls) (i : Nat) {b : Nat} {cs : Array Value} {t : TypeId} (hl : ls[i]? = some (b, cs, t)) (o : Nat) {sh : Sh} {x : sh.T} (hx : cs[o]? = some (sh.emb x)) (hs : ∀ ds, sh.emb x ≠ .agg ds) {n : Nat} : ldOk w n ((⟨b, 0, none⟩ : Addr).add o) sh x := by
  have hc : w.cell? ((⟨b, 0, none⟩ : Addr).add o) = some (sh.emb x) := by rw [add_lit, Nat.zero_add]; simp [World.cell?, hA.get hl, hx]
  cases sh
  case agg => exact (hs x rfl).elim
  all_goals exact hc

theorem r_chk2 {P : Program} {R : Value → World → Prop} {w : World} {h1 h2 : Held} {k : World → Prop} (e1 : ldOk w h1.n h1.p h1.sh h1.x) (e2 : ldOk w h2.n h2.p h2.sh h2.x) (h : k w) : ((real P R).chk [h1, h2] k : World → Prop) w :=
  ⟨fun x hx => by
    rcases List.mem_cons.1 hx with e | hx
    · rw [e]; exact e1
    · rw [List.mem_singleton.1 hx]; exact e2, h⟩

theorem r_bs1A {P : Program} {R : Value → World → Prop} {w0 w : World} {ls : List Blk} {t e z by_ : Nat} (hT : SlT P t e z by_) (hA : At w0 w ls) {v : Value} (hv : v.cells.size = z) (hz : z ≤ 16777216) {k : Sl → World → Prop} (h : ∀ s w', At w0 w' ls → Below w.heap.size w w' → SlAt w' s z v.cells.toList → s.n = 1 → k s w') :
    ((real P R).sem (Instr.buildSlice t 1 #[(0, v)]) .slice k : World → Prop) w :=
  r_bs1 hT (At.refl w) hv hz fun s w' hs hn => h s w' (hA.trans hs.at_.below) hs.at_.below hs.sl hn

theorem OwnS.shrink (h : OwnS e z s xs L) (n : Nat) (hn : n ≤ s.n) : OwnS e z ⟨s.a, n, s.c⟩ (xs.take (n * z)) L := by
  obtain ⟨hl, h⟩ := h
  have hm : n * z ≤ xs.length := by rw [hl]; exact Nat.mul_le_mul_right _ hn
  refine ⟨by simp; omega, ?_⟩
  rcases h with ⟨ha, h0, hc, rfl⟩ | ⟨g, cur, rfl, ha, hnc, hcm, hcs, htk⟩
  · exact .inl ⟨ha, by show n = 0; omega, hc, rfl⟩
  · refine .inr ⟨g, cur, rfl, ha, by show n ≤ s.c; omega, hcm, hcs, ?_⟩
    rw [List.length_take, Nat.min_eq_left hm]
    rw [← htk, List.take_take, Nat.min_eq_left hm]

theorem r_slPre {a : Option Addr} {n c z : Nat} {lo hi : Option Int} {k : Sl → World → Prop} (h : Nat) (hl : lo.getD 0 = (0 : Int)) (hh : hi.getD n = (h : Int)) (h2 : h ≤ c)
    (hk : k ⟨a, h, c⟩ w) : ((real P R).sl a n c z lo hi none k : World → Prop) w := by
  refine r_sl 0 h (by simpa using hl) hh (Nat.zero_le _) h2 ?_
  have e1 : (if c = 0 then a else a.map (·.add (0 * z))) = a := by
    split
    · rfl
    · cases a <;> simp [add_zero]
  rw [e1]
  exact hk
theorem r_slSuf {a : Option Addr} {n c z : Nat} {lo hi : Option Int} {k : Sl → World → Prop} (l : Nat) (hl : lo.getD 0 = (l : Int)) (hh : hi.getD n = (n : Int)) (h1 : l ≤ n) (h2 : n ≤ c)
    (hk : ∀ y : Sl, y.n = n - l → y.c = c - l → (l < n → y.a = a.map (·.add (l * z))) → k y w) : ((real P R).sl a n c z lo hi none k : World → Prop) w :=
  r_sl l n hl hh h1 h2 (hk _ rfl rfl fun hlt => by
    show (if c = l then a else _) = _
    rw [if_neg (by omega)])

def zOne (P : Program) (e : TypeId) : Bool := match P.info? e with
  | some i => match i.zero with | some v => v.cells.toList.all oneC | none => false
  | none => false

theorem zeroCells_one {zero : Array Value} (h : ∀ v ∈ zero.toList, oneC v = true) (hz : 0 < zero.size) (n : Nat) : ∀ v ∈ (Builtin.zeroCells zero n).toList, oneC v = true := by
  intro v hv
  simp only [Builtin.zeroCells, Array.toList_map, List.mem_map] at hv
  obtain ⟨i, _, rfl⟩ := hv
  have hi : i % zero.size < zero.size := Nat.mod_lt _ hz
  rw [getElem!_pos zero _ hi]
  exact h _ (by simp)

theorem own_stores {p : Addr} {news : List Value} (hA : At w0 w (L ++ ls)) (hO : OwnS e z s xs L) (hp : s.a = some p) (o : Nat) (ho : o + news.length ≤ xs.length) (h1 : ∀ u ∈ news, oneC u = true) :
    ∃ w' L', (storeCells (p.add o) news 0).run P w = .ok () w' ∧ At w0 w' (L' ++ ls) ∧ OwnS e z s (xs.take o ++ news ++ xs.drop (o + news.length)) L' := by
  have key := r_stO (P := P) (R := fun _ _ => False) (n := news.length) (q := p.add o) (v := .agg news.toArray) (k := fun w' => ∃ L', At w0 w' (L' ++ ls) ∧ OwnS e z s (xs.take o ++ news ++ xs.drop (o + news.length)) L') hA hO hp o rfl (by simp [Value.cells]) ho (by simpa [Value.cells] using h1)
    (fun w' L' hA' hO' => ⟨L', hA', by simpa [Value.cells] using hO'⟩)
  obtain ⟨_, hst, L', hA', hO'⟩ := key
  have hst' : stOk w (p.add o) news 0 := by simpa [Value.cells] using hst
  have hA'' : At w0 (stW w (p.add o) news 0) (L' ++ ls) := by simpa [Value.cells] using hA'
  exact ⟨_, L', run_storeCells _ _ _ _ hst', hA'', hO'⟩

theorem r_clearO {t ty by_ : Nat} (hT : SlT P t e z by_) (hz1 : zOne P e = true) (hA : At w0 w (L ++ ls)) (hO : OwnS e z s xs L) {y : Sl} (m : Nat) (hm : m + y.n ≤ s.n) (hy : 0 < y.n → y.a = s.a.map (·.add (m * z))) {k : Value → World → Prop}
    (h : ∀ v w' L' xs', At w0 w' (L' ++ ls) → OwnS e z s xs' L' → xs'.take (m * z) = xs.take (m * z) → k v w') : ((real P R).sem (Builtin.clear_ #[t] ty #[.slice y.a y.n y.c]) .val k : World → Prop) w := by
  obtain ⟨i, zv, hi, hzv, hsz, _, hzs⟩ := hT.ex
  have hpos := hT.pos
  rcases Nat.eq_zero_or_pos y.n with h0 | h0
  · refine ⟨.tuple #[], w, ?_, h _ w L xs hA hO rfl⟩
    rw [h0]
    cases y.a <;> simp [Builtin.clear_, run_underlying hT.ut, Sh.emb]
  · have hya := hy h0
    obtain ⟨p, hp⟩ := hO.addr (by omega)
    rw [hp] at hya
    simp only [Option.map_some] at hya
    have hall : ∀ v ∈ zv.cells.toList, oneC v = true := by
      unfold zOne at hz1
      rw [hi] at hz1
      simp only [hzv] at hz1
      exact List.all_eq_true.1 hz1
    have hlen : (Builtin.zeroCells zv.cells y.n).toList.length = y.n * z := by simp [size_zeroCells, hzs]
    have hbound : m * z + y.n * z ≤ xs.length := by rw [hO.1, ← Nat.add_mul]; exact Nat.mul_le_mul_right _ hm
    obtain ⟨w', L', hr, hA', hO'⟩ := own_stores (P := P) (news := (Builtin.zeroCells zv.cells y.n).toList) hA hO hp (m * z) (by rw [hlen]; exact hbound) (zeroCells_one hall (by omega) _)
    refine ⟨.tuple #[], w', ?_, h _ w' L' _ hA' hO' ?_⟩
    · rw [hya]
      obtain ⟨q, hq⟩ : ∃ q, y.n = q + 1 := ⟨y.n - 1, by omega⟩
      rw [hq] at hr ⊢
      simp [Builtin.clear_, run_underlying hT.ut, Sh.emb, zeroValue, typeInfo, hi, hzv, hr]
    · rw [List.append_assoc, List.take_append_of_le_length (by simp; omega), List.take_take, Nat.min_self]

def strOf (l : List Int) : ByteArray := l.foldl (fun r n => r.push (UInt8.ofNat n.toNat)) ByteArray.empty
end Go.Sx

namespace Go.Proofs.Ytkifkdkjljcclaa
open Go.Sx Go.RowKit

theorem snocInd {α : Type} {motive : List α → Prop} (nil : motive []) (snoc : ∀ l x, motive l → motive (l ++ [x])) (l : List α) : motive l := by
  have h : ∀ r : List α, motive r.reverse := by
    intro r
    induction r with
    | nil => exact nil
    | cons x r ih => rw [List.reverse_cons]; exact snoc _ _ ih
  have := h l.reverse
  rwa [List.reverse_reverse] at this
def cmpct (l : List (List Int)) : List (List Int) := (l.foldl (fun (s : List (List Int) × Option (List Int)) x => (if s.2 = some x then s.1 else s.1 ++ [x], some x)) ([], none)).1
theorem cmpct_last (l : List (List Int)) (s : List (List Int) × Option (List Int)) : (l.foldl (fun (s : List (List Int) × Option (List Int)) x => (if s.2 = some x then s.1 else s.1 ++ [x], some x)) s).2 = (l.getLast?).or s.2 := by
  induction l generalizing s with
  | nil => simp
  | cons x l ih =>
    rw [List.foldl_cons, ih]
    cases l with
    | nil => simp
    | cons y l => simp [List.getLast?_cons_cons, List.getLast?_eq_some_getLast]
theorem cmpct_snoc (l : List (List Int)) (x : List Int) : cmpct (l ++ [x]) = if l.getLast? = some x then cmpct l else cmpct l ++ [x] := by
  unfold cmpct
  rw [List.foldl_append]
  simp only [List.foldl_cons, List.foldl_nil, cmpct_last, Option.or_none]
theorem cmpct_nil : cmpct [] = [] := rfl
theorem cmpct_mem (l : List (List Int)) (x : List Int) : x ∈ cmpct l ↔ x ∈ l := by
  induction l using snocInd with
  | nil => simp [cmpct_nil]
  | snoc l y ih =>
    rw [cmpct_snoc]
    split
    · rename_i h
      rw [ih]
      have : y ∈ l := List.mem_of_getLast? h
      constructor
      · intro hx; simp [hx]
      · intro hx
        rcases List.mem_append.1 hx with hx | hx
        · exact hx
        · simp at hx; subst hx; exact this
    · simp [ih]
theorem cmpct_asc {l : List (List Int)} (h : l.Pairwise fun a b => ¬ ltL b a) : Asc (cmpct l) := by
  induction l using snocInd with
  | nil => exact .nil
  | snoc l y ih =>
    obtain ⟨h1, _, h2⟩ := List.pairwise_append.1 h
    rw [cmpct_snoc]
    split
    · exact ih h1
    · rename_i hne
      refine List.pairwise_append.2 ⟨ih h1, by simp, fun a ha b hb => ?_⟩
      simp only [List.mem_singleton] at hb
      subst hb
      have hal := (cmpct_mem l a).1 ha
      rcases not_ltL (h2 a hal b (by simp)) with e | hlt
      · exfalso
        subst e
        -- a is the last one of l, for what stands behind it is not less, and a is not less than that
        obtain ⟨i, hi⟩ := List.mem_iff_getElem?.1 hal
        obtain ⟨hil, hia⟩ := List.getElem?_eq_some_iff.1 hi
        have hl0 : l ≠ [] := by intro h0; subst h0; simp at hal
        have hlast : l.getLast? = some (l[l.length - 1]'(by omega)) := by
          rw [List.getLast?_eq_getElem?, List.getElem?_eq_getElem]
        have hla : l[l.length - 1]'(by omega) = a := by
          by_cases hii : i = l.length - 1
          · subst hii; exact hia
          · have h3 := List.pairwise_iff_getElem.1 h1 i (l.length - 1) hil (by omega) (by omega)
            rw [hia] at h3
            have h4 := h2 (l[l.length - 1]'(by omega)) (List.getElem_mem _) a (by simp)
            rcases not_ltL h3 with e | e
            · exact e.symm ▸ rfl
            · exact absurd e h4
        rw [hla] at hlast
        exact hne hlast
      · exact hlt
theorem cmpct_len (l : List (List Int)) : (cmpct l).length ≤ l.length := by
  induction l using snocInd with
  | nil => simp [cmpct_nil]
  | snoc l y ih =>
    rw [cmpct_snoc]
    split <;> simp <;> omega
theorem cmpct_same {l : List (List Int)} (h : (cmpct l).length = l.length) : cmpct l = l := by
  induction l using snocInd with
  | nil => rfl
  | snoc l y ih =>
    rw [cmpct_snoc] at h ⊢
    have := cmpct_len l
    split at h
    · simp at h; omega
    · rename_i hne
      rw [if_neg hne, ih (by simpa using h)]

end Go.Proofs.Ytkifkdkjljcclaa
