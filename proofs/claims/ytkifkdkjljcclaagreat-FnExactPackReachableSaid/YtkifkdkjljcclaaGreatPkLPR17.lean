/- The program: a list of keys is sorted; each once; a key is found. More rules for own slices: shrunk, cleared, copied into, a string made of bytes, a clone. The program: a sorted list's keys each once; is it sorted; a key is found; blobs compared, copied; a store's keys, is it valid. -/
import Derived.Shelf.SlSortCmp.NoneTotal
import Derived.Laws.BytesString
import Derived.Test.YtkifkdkjljcclaaGreatPkLPR16
import Derived.Test.YtkifkdkjljcclaaGreatPkLPR13
namespace Go.Proofs.YtkifkdkjljcclaaGreat
open Go.Sx Go.RowKit
open Go.Sort (Holds grow putRow mapBlock onCells putCells flatK HoldsK putRowK SortedIn PermIn)

theorem flatK_toList {α : Type} [Inhabited α] (enc : α → List Value) (k : Nat) (hk : ∀ x, (enc x).length = k) (d : Array α) : (flatK enc k d).toList = d.toList.flatMap enc := by
  have hlen : (d.toList.flatMap enc).length = d.size * k := by rw [flatMap_length (z := k) (fun x _ => hk x)]; simp
  apply List.ext_getElem?
  intro t
  rcases Nat.lt_or_ge t (d.size * k) with ht | ht
  · have k0 : 0 < k := by
      rcases Nat.eq_zero_or_pos k with h | h
      · subst h; simp at ht
      · exact h
    have hi : t / k < d.size := (Nat.div_lt_iff_lt_mul k0).2 ht
    have hj : t % k < k := Nat.mod_lt _ k0
    have h1 : (enc d[t / k]!)[t % k]? = some ((enc d[t / k]!)[t % k]!) := by
      rw [List.getElem!_eq_getElem?_getD, List.getElem?_eq_getElem (by rw [hk]; exact hj)]
      rfl
    have h2 := flatMap_get (z := k) (cs := enc) (xs := d.toList) (i := t / k) (x := d[t / k]!) (fun x _ => hk x) (by simp [hi]) h1
    rw [Nat.div_add_mod'] at h2
    rw [h2]
    simp [flatK, ht]
  · rw [List.getElem?_eq_none (by simpa using ht), List.getElem?_eq_none (by omega)]

def toK32 (ks : List (List Int)) (h : ∀ k ∈ ks, k.length = 32) : List K32 := ks.attach.map fun x => ⟨x.1, h x.1 x.2⟩
theorem toK32_val (ks : List (List Int)) (h : ∀ k ∈ ks, k.length = 32) : (toK32 ks h).map (·.1) = ks := by simp [toK32]
theorem flat_enc (l : List K32) : l.flatMap encK = (l.map (·.1)).flatMap u8s := by simp [List.flatMap_map, encK]

theorem at_sorted {w0 w : World} {ls : List Blk} {g : Nat} {cur : Array Value} {e : TypeId} {d d' : Array K32} (hA : At w0 w ((g, cur, e) :: ls)) (hd : cur.toList.take (d.size * 32) = d.toList.flatMap encK) (hs : d'.size = d.size) (hc : d.size * 32 ≤ cur.size) (n : Nat) (os : Array Obj) :
    HoldsK encK 32 w g 0 d ∧ ∃ cur', At w0 (sortWorldK encK 32 w g 0 n d' os) ((g, cur', e) :: ls) ∧ cur'.size = cur.size ∧ cur'.toList.take (d'.size * 32) = d'.toList.flatMap encK := by
  have hk : ∀ x : K32, (encK x).length = 32 := fun x => by simp [encK, x.2]
  have hb : w.heap[g]? = some (.cells cur e (0, 0)) := hA.get (i := 0) rfl
  constructor
  · intro j hj
    have hj' : j < d.size * 32 := by simpa using hj
    constructor
    · have : cur[0 + j]? = (d.toList.flatMap encK)[j]? := by rw [← hd, List.getElem?_take, if_pos hj']; simp
      simp only [World.cell?, hb, Option.isSome_none, Bool.false_eq_true, if_false, this, ← flatK_toList encK 32 hk d]
      simp only [Array.getElem?_toList, id]
      rw [getElem!_pos _ j (by simpa using hj), Array.getElem?_eq_getElem (by simpa using hj)]
    · simp [World.frozen?, hb]
  · refine ⟨putCells id 0 (flatK encK 32 d') cur, ?_, by simp [putCells], ?_⟩
    · have h1 : (putRowK encK 32 (Go.Sort.ahead w n) g 0 d').heap[g]? = some (.cells (putCells id 0 (flatK encK 32 d') cur) e (0, 0)) := by
        show (w.heap.modify g (onCells (putCells id 0 (flatK encK 32 d'))))[g]? = _
        rw [Array.getElem?_modify, if_pos rfl, hb]
        rfl
      have h2 := hA.write (i := 0) (w' := putRowK encK 32 (Go.Sort.ahead w n) g 0 d') rfl h1 (fun k hk => by
        show (w.heap.modify g _)[k]? = _
        rw [Array.getElem?_modify, if_neg (Ne.symm hk)]) (by show (w.heap.modify g _).size = _; simp) rfl rfl rfl
      exact h2.trans (Below.mono ⟨rfl, rfl, rfl, by show _ ≤ (_ ++ os).size; rw [Array.size_append]; exact Nat.le_add_right _ _, fun k hk => by show (_ ++ os)[k]? = _; rw [Array.getElem?_append_left hk]⟩ (Nat.le_refl _))
    · rw [← flatK_toList encK 32 hk d']
      apply List.ext_getElem?
      intro j
      rcases Nat.lt_or_ge j (d'.size * 32) with hj | hj
      · rw [List.getElem?_take, if_pos hj]
        have hjc : j < cur.size := by omega
        simp [putCells, hjc, hj]
      · rw [List.getElem?_take, if_neg (by omega), List.getElem?_eq_none (by simpa using hj)]

theorem kSize (w : World) : (Go.sizeOf (Tryz.sortL_ren.t 24)).run Tryz.prog w = .ok 32 w := Go.Sx.run_sizeOf (sh := .agg) (by kernel_rfl) w
theorem kAgg (w : World) : (isAgg (Tryz.sortL_ren.t 24)).run Tryz.prog w = .ok true w := Go.Sx.run_isAgg (sh := .agg) (n := 32) (by kernel_rfl) w

theorem c_SortKeys {w0 w : World} {ls : List Blk} {s : Sl} {ks : List (List Int)} (hS : SlO w0 w ls ty_impl_Key 32 s (ks.flatMap u8s)) (hk : ∀ k ∈ ks, k.length = 32) (hn : s.n = ks.length) (hmax : ks.length ≤ 1073741824) :
    Calls Tryz.prog n_slices_SortFunc_sl_impl_Key_impl_Key [.slice s.a s.n s.c, .func (.func n_impl_compareKeys) #[] #[]].toArray w fun e w' => ∃ v, e = .returned v ∧ v = .tuple #[] ∧ ∃ ks' : List (List Int), ks'.Perm ks ∧ ks'.Pairwise (fun a b => ¬ ltL b a) ∧ SlO w0 w' ls ty_impl_Key 32 s (ks'.flatMap u8s) := by
  have hlen := hS.len
  rcases hS.own with ⟨ha, h0, h1⟩ | ⟨g, cur, ha, hA, hnc, hcm, hcs, htk⟩
  · have hks : ks = [] := List.eq_nil_of_length_eq_zero (by omega)
    subst hks
    have := AnyF.slices_SortFunc_none Tryz.sortL none 0 (.func (.func n_impl_compareKeys) #[] #[]) w
    rw [ha, h0, h1]
    refine Calls.mono this fun e w' ⟨he, hw⟩ => ⟨_, he, rfl, [], .nil, .nil, by rw [hw]; exact hS⟩
  · obtain ⟨d, hd⟩ : ∃ d : Array K32, d = (toK32 ks hk).toArray := ⟨_, rfl⟩
    have hdl : d.toList.map (·.1) = ks := by rw [hd]; exact toK32_val ks hk
    have hds : d.size = ks.length := by rw [← hdl]; simp
    have hflat : d.toList.flatMap encK = ks.flatMap u8s := by rw [flat_enc, hdl]
    have hcur : cur.toList.take (d.size * 32) = d.toList.flatMap encK := by rw [hflat, ← htk, hlen, hn, hds]
    have hfit : d.size * 32 ≤ cur.size := by rw [hcs, hds, ← hn]; exact Nat.mul_le_mul_right _ hnc
    have hH := (at_sorted hA hcur rfl hfit 0 #[]).1
    have hb : w.heap[g]? = some (.cells cur ty_impl_Key (0, 0)) := hA.get (i := 0) rfl
    have := AnyQ.slices_SortFunc Tryz.sortL 32 kAgg kSize encK (fun x => by simp [encK, x.2]) (fun x => oneC_cells.1 u8s_one) cfK swoK n_impl_compareKeys #[] g 0 s.c d w (fun args w => isGo_spec (by kernel_rfl) args w) (cmpLaysK _ _ _ _) hH (lt_of_some hb) (by omega)
    rw [ha, hn, ← hds]
    refine Calls.mono this ?_
    rintro e w' ⟨he, d', n, os, ⟨hs', _, hperm⟩, hsort, rfl⟩
    obtain ⟨cur', hA', hcs', htk'⟩ := (at_sorted (d' := d') hA hcur hs' hfit n os).2
    have hp : (d'.toList.map (·.1)).Perm ks := by
      rw [← hdl]
      have e1 : (d'.extract 0 d.size).toList = d'.toList := by rw [← hs']; simp
      have e2 : (d.extract 0 d.size).toList = d.toList := by simp
      rw [e1, e2] at hperm
      exact hperm.map (·.1)
    have hpl : (d'.toList.map (·.1)).length = ks.length := hp.length_eq
    refine ⟨_, he, rfl, d'.toList.map (·.1), hp, ?_, ⟨hA'.tail, ?_, .inr ⟨g, cur', ha, hA', hnc, hcm, by rw [hcs', hcs], ?_⟩⟩⟩
    · rw [List.pairwise_map]
      refine List.pairwise_iff_getElem.2 fun i j hi hj hij => ?_
      have := hsort i j (Nat.zero_le _) hij (by simpa [hs'] using hj)
      have h' := of_decide_eq_false this
      have e1 : d'[j]! = d'.toList[j] := by rw [getElem!_pos d' j (by simpa using hj)]; simp
      have e2 : d'[i]! = d'.toList[i] := by rw [getElem!_pos d' i (by simpa using hi)]; simp
      rw [e1, e2] at h'
      exact h'
    · rw [← flat_enc, flatMap_length (z := 32) (fun x _ => by simp [encK, x.2]), hn, ← hpl]
      simp
    · rw [← flat_enc, flatMap_length (z := 32) (fun x _ => by simp [encK, x.2]), ← htk']
      simp

end Go.Proofs.YtkifkdkjljcclaaGreat

namespace Go.Sx
open Go.RowKit (Below)
open Go.Deep (add_add)
variable {P : Program} {R : Value → World → Prop} {w0 w : World} {ls L : List Blk} {e z : Nat} {s : Sl} {xs : List Value}

theorem r_drawB {P : Program} {R : Value → World → Prop} {w0 w : World} {ls : List Blk} {s : World → Prop} (hA : At w0 w ls) (h : ∀ w', At w0 w' ls → Below w.heap.size w w' → s w') : ((real P R).draw s : World → Prop) w := h _ hA.drew (drew_below w)

theorem add_zero (p : Addr) : p.add 0 = p := by unfold Addr.add; simp

theorem ldOk_own {w0 w : World} {ls : List Blk} (hA : At w0 w ls) (i : Nat) {b : Nat} {cs : Array Value} {t : TypeId} (hl : ls[i]? = some (b, cs, t)) (o : Nat) {sh : Sh} {x : sh.T} (hx : cs[o]? = some (sh.emb x)) (hs : ∀ ds, sh.emb x ≠ .agg ds) {n : Nat} : ldOk w n ((⟨b, 0, none⟩ : Addr).add o) sh x := by
  have hc : w.cell? ((⟨b, 0, none⟩ : Addr).add o) = some (sh.emb x) := by rw [add_lit, Nat.zero_add]; simp [World.cell?, hA.get hl, hx]
  cases sh
  case agg => exact (hs x rfl).elim
  all_goals exact hc

theorem r_chk2 {P : Program} {R : Value → World → Prop} {w : World} {h1 h2 : Held} {k : World → Prop} (e1 : ldOk w h1.n h1.p h1.sh h1.x) (e2 : ldOk w h2.n h2.p h2.sh h2.x) (h : k w) : ((real P R).chk [h1, h2] k : World → Prop) w :=
  ⟨fun x hx => by
    rcases List.mem_cons.1 hx with e | hx
    · rw [e]; exact e1
    · rw [List.mem_singleton.1 hx]; exact e2, h⟩

theorem r_bs1A {P : Program} {R : Value → World → Prop} {w0 w : World} {ls : List Blk} {t e z by_ : Nat} (hT : SlT P t e z by_) (hA : At w0 w ls) {v : Value} (hv : v.cells.size = z) (hz : z ≤ 16777216) {k : Sl → World → Prop} (h : ∀ s w', At w0 w' ls → Below w.heap.size w w' → SlAt w' s z v.cells.toList → s.n = 1 → k s w') :
    ((real P R).sem (Instr.buildSlice t 1 #[(0, v)]) .slice k : World → Prop) w :=
  r_bs1 hT (At.refl w) hv hz fun s w' hs hn => h s w' (hA.trans hs.at_.below) hs.at_.below hs.sl hn

theorem OwnS.shrink (h : OwnS e z s xs L) (n : Nat) (hn : n ≤ s.n) : OwnS e z ⟨s.a, n, s.c⟩ (xs.take (n * z)) L := by
  obtain ⟨hl, h⟩ := h
  have hm : n * z ≤ xs.length := by rw [hl]; exact Nat.mul_le_mul_right _ hn
  refine ⟨by simp; omega, ?_⟩
  rcases h with ⟨ha, h0, hc, rfl⟩ | ⟨g, cur, rfl, ha, hnc, hcm, hcs, htk⟩
  · exact .inl ⟨ha, by show n = 0; omega, hc, rfl⟩
  · refine .inr ⟨g, cur, rfl, ha, by show n ≤ s.c; omega, hcm, hcs, ?_⟩
    rw [List.length_take, Nat.min_eq_left hm]
    rw [← htk, List.take_take, Nat.min_eq_left hm]

theorem r_slPre {a : Option Addr} {n c z : Nat} {lo hi : Option Int} {k : Sl → World → Prop} (h : Nat) (hl : lo.getD 0 = (0 : Int)) (hh : hi.getD n = (h : Int)) (h2 : h ≤ c)
    (hk : k ⟨a, h, c⟩ w) : ((real P R).sl a n c z lo hi none k : World → Prop) w := by
  refine r_sl 0 h (by simpa using hl) hh (Nat.zero_le _) h2 ?_
  have e1 : (if c = 0 then a else a.map (·.add (0 * z))) = a := by
    split
    · rfl
    · cases a <;> simp [add_zero]
  rw [e1]
  exact hk
theorem r_slSuf {a : Option Addr} {n c z : Nat} {lo hi : Option Int} {k : Sl → World → Prop} (l : Nat) (hl : lo.getD 0 = (l : Int)) (hh : hi.getD n = (n : Int)) (h1 : l ≤ n) (h2 : n ≤ c)
    (hk : ∀ y : Sl, y.n = n - l → y.c = c - l → (l < n → y.a = a.map (·.add (l * z))) → k y w) : ((real P R).sl a n c z lo hi none k : World → Prop) w :=
  r_sl l n hl hh h1 h2 (hk _ rfl rfl fun hlt => by
    show (if c = l then a else _) = _
    rw [if_neg (by omega)])

def zOne (P : Program) (e : TypeId) : Bool := match P.info? e with
  | some i => match i.zero with | some v => v.cells.toList.all oneC | none => false
  | none => false

theorem zeroCells_one {zero : Array Value} (h : ∀ v ∈ zero.toList, oneC v = true) (hz : 0 < zero.size) (n : Nat) : ∀ v ∈ (Builtin.zeroCells zero n).toList, oneC v = true := by
  intro v hv
  simp only [Builtin.zeroCells, Array.toList_map, List.mem_map] at hv
  obtain ⟨i, _, rfl⟩ := hv
  have hi : i % zero.size < zero.size := Nat.mod_lt _ hz
  rw [getElem!_pos zero _ hi]
  exact h _ (by simp)

theorem own_stores {p : Addr} {news : List Value} (hA : At w0 w (L ++ ls)) (hO : OwnS e z s xs L) (hp : s.a = some p) (o : Nat) (ho : o + news.length ≤ xs.length) (h1 : ∀ u ∈ news, oneC u = true) :
    ∃ w' L', (storeCells (p.add o) news 0).run P w = .ok () w' ∧ At w0 w' (L' ++ ls) ∧ OwnS e z s (xs.take o ++ news ++ xs.drop (o + news.length)) L' := by
  have key := r_stO (P := P) (R := fun _ _ => False) (n := news.length) (q := p.add o) (v := .agg news.toArray) (k := fun w' => ∃ L', At w0 w' (L' ++ ls) ∧ OwnS e z s (xs.take o ++ news ++ xs.drop (o + news.length)) L') hA hO hp o rfl (by simp [Value.cells]) ho (by simpa [Value.cells] using h1)
    (fun w' L' hA' hO' => ⟨L', hA', by simpa [Value.cells] using hO'⟩)
  obtain ⟨_, hst, L', hA', hO'⟩ := key
  have hst' : stOk w (p.add o) news 0 := by simpa [Value.cells] using hst
  have hA'' : At w0 (stW w (p.add o) news 0) (L' ++ ls) := by simpa [Value.cells] using hA'
  exact ⟨_, L', run_storeCells _ _ _ _ hst', hA'', hO'⟩

theorem r_clearO {t ty by_ : Nat} (hT : SlT P t e z by_) (hz1 : zOne P e = true) (hA : At w0 w (L ++ ls)) (hO : OwnS e z s xs L) {y : Sl} (m : Nat) (hm : m + y.n ≤ s.n) (hy : 0 < y.n → y.a = s.a.map (·.add (m * z))) {k : Value → World → Prop}
    (h : ∀ v w' L' xs', At w0 w' (L' ++ ls) → OwnS e z s xs' L' → xs'.take (m * z) = xs.take (m * z) → k v w') : ((real P R).sem (Builtin.clear_ #[t] ty #[.slice y.a y.n y.c]) .val k : World → Prop) w := by
  obtain ⟨i, zv, hi, hzv, hsz, _, hzs⟩ := hT.ex
  have hpos := hT.pos
  rcases Nat.eq_zero_or_pos y.n with h0 | h0
  · refine ⟨.tuple #[], w, ?_, h _ w L xs hA hO rfl⟩
    rw [h0]
    cases y.a <;> simp [Builtin.clear_, run_underlying hT.ut, Sh.emb]
  · have hya := hy h0
    obtain ⟨p, hp⟩ := hO.addr (by omega)
    rw [hp] at hya
    simp only [Option.map_some] at hya
    have hall : ∀ v ∈ zv.cells.toList, oneC v = true := by
      unfold zOne at hz1
      rw [hi] at hz1
      simp only [hzv] at hz1
      exact List.all_eq_true.1 hz1
    have hlen : (Builtin.zeroCells zv.cells y.n).toList.length = y.n * z := by simp [size_zeroCells, hzs]
    have hbound : m * z + y.n * z ≤ xs.length := by rw [hO.1, ← Nat.add_mul]; exact Nat.mul_le_mul_right _ hm
    obtain ⟨w', L', hr, hA', hO'⟩ := own_stores (P := P) (news := (Builtin.zeroCells zv.cells y.n).toList) hA hO hp (m * z) (by rw [hlen]; exact hbound) (zeroCells_one hall (by omega) _)
    refine ⟨.tuple #[], w', ?_, h _ w' L' _ hA' hO' ?_⟩
    · rw [hya]
      obtain ⟨q, hq⟩ : ∃ q, y.n = q + 1 := ⟨y.n - 1, by omega⟩
      rw [hq] at hr ⊢
      simp [Builtin.clear_, run_underlying hT.ut, Sh.emb, zeroValue, typeInfo, hi, hzv, hr]
    · rw [List.append_assoc, List.take_append_of_le_length (by simp; omega), List.take_take, Nat.min_self]

def strOf (l : List Int) : ByteArray := l.foldl (fun r n => r.push (UInt8.ofNat n.toNat)) ByteArray.empty
theorem strOf_data (l : List Int) (r : ByteArray) : (l.foldl (fun r n => r.push (UInt8.ofNat n.toNat)) r).data.toList = r.data.toList ++ l.map fun n => UInt8.ofNat n.toNat := by
  induction l generalizing r with
  | nil => simp
  | cons x l ih => rw [List.foldl_cons, ih]; simp
theorem r_toStr {src dst : TypeId} (hs : P.underlying src = some (.slice e)) (he : P.underlying e = some (.int .u8)) (hd : P.underlying dst = some .string) {l : List Int} (hl : SlAt w s 1 (l.map (Value.int .u8))) {k : ByteArray → World → Prop}
    (h : k (strOf l) w) : ((real P R).sem (convert src dst (.slice s.a s.n s.c)) .str k : World → Prop) w := by
  refine ⟨strOf l, w, ?_, h⟩
  rw [run_convert_bytes_string w src dst e _ _ _ hs he hd]
  cases ha : s.a with
  | none =>
    have : l = [] := by
      cases l with
      | nil => rfl
      | cons v r => obtain ⟨p, hp, _⟩ := hl.cell 0 _ rfl; rw [ha] at hp; cases hp
    subst this
    simp [Conv.bytesToString, Sh.emb, strOf]
  | some p =>
    have hlen : l.length = s.n := by have := hl.len; simp at this; omega
    have hlc := run_loadCells_list (P := P) w p (l.map (Value.int .u8)) (fun j v hv => by
      obtain ⟨q, hq, hc⟩ := hl.cell j v hv
      rw [ha] at hq
      cases hq
      exact hc)
    rw [List.length_map, hlen] at hlc
    exact run_bytesToString w p s.n s.c l hlc

end Go.Sx

namespace Go.Proofs.YtkifkdkjljcclaaGreat
open Go.Sx Go.RowKit

theorem snocInd {α : Type} {motive : List α → Prop} (nil : motive []) (snoc : ∀ l x, motive l → motive (l ++ [x])) (l : List α) : motive l := by
  have h : ∀ r : List α, motive r.reverse := by
    intro r
    induction r with
    | nil => exact nil
    | cons x r ih => rw [List.reverse_cons]; exact snoc _ _ ih
  have := h l.reverse
  rwa [List.reverse_reverse] at this
def cmpct (l : List (List Int)) : List (List Int) := (l.foldl (fun (s : List (List Int) × Option (List Int)) x => (if s.2 = some x then s.1 else s.1 ++ [x], some x)) ([], none)).1
theorem cmpct_last (l : List (List Int)) (s : List (List Int) × Option (List Int)) : (l.foldl (fun (s : List (List Int) × Option (List Int)) x => (if s.2 = some x then s.1 else s.1 ++ [x], some x)) s).2 = (l.getLast?).or s.2 := by
  induction l generalizing s with
  | nil => simp
  | cons x l ih =>
    rw [List.foldl_cons, ih]
    cases l with
    | nil => simp
    | cons y l => simp [List.getLast?_cons_cons, List.getLast?_eq_some_getLast]
theorem cmpct_snoc (l : List (List Int)) (x : List Int) : cmpct (l ++ [x]) = if l.getLast? = some x then cmpct l else cmpct l ++ [x] := by
  unfold cmpct
  rw [List.foldl_append]
  simp only [List.foldl_cons, List.foldl_nil, cmpct_last, Option.or_none]
theorem cmpct_nil : cmpct [] = [] := rfl
theorem cmpct_mem (l : List (List Int)) (x : List Int) : x ∈ cmpct l ↔ x ∈ l := by
  induction l using snocInd with
  | nil => simp [cmpct_nil]
  | snoc l y ih =>
    rw [cmpct_snoc]
    split
    · rename_i h
      rw [ih]
      have : y ∈ l := List.mem_of_getLast? h
      constructor
      · intro hx; simp [hx]
      · intro hx
        rcases List.mem_append.1 hx with hx | hx
        · exact hx
        · simp at hx; subst hx; exact this
    · simp [ih]
theorem cmpct_asc {l : List (List Int)} (h : l.Pairwise fun a b => ¬ ltL b a) : Asc (cmpct l) := by
  induction l using snocInd with
  | nil => exact .nil
  | snoc l y ih =>
    obtain ⟨h1, _, h2⟩ := List.pairwise_append.1 h
    rw [cmpct_snoc]
    split
    · exact ih h1
    · rename_i hne
      refine List.pairwise_append.2 ⟨ih h1, by simp, fun a ha b hb => ?_⟩
      simp only [List.mem_singleton] at hb
      subst hb
      have hal := (cmpct_mem l a).1 ha
      rcases not_ltL (h2 a hal b (by simp)) with e | hlt
      · exfalso
        subst e
        -- a is the last one of l, for what stands behind it is not less, and a is not less than that
        obtain ⟨i, hi⟩ := List.mem_iff_getElem?.1 hal
        obtain ⟨hil, hia⟩ := List.getElem?_eq_some_iff.1 hi
        have hl0 : l ≠ [] := by intro h0; subst h0; simp at hal
        have hlast : l.getLast? = some (l[l.length - 1]'(by omega)) := by
          rw [List.getLast?_eq_getElem?, List.getElem?_eq_getElem]
        have hla : l[l.length - 1]'(by omega) = a := by
          by_cases hii : i = l.length - 1
          · subst hii; exact hia
          · have h3 := List.pairwise_iff_getElem.1 h1 i (l.length - 1) hil (by omega) (by omega)
            rw [hia] at h3
            have h4 := h2 (l[l.length - 1]'(by omega)) (List.getElem_mem _) a (by simp)
            rcases not_ltL h3 with e | e
            · exact e.symm ▸ rfl
            · exact absurd e h4
        rw [hla] at hlast
        exact hne hlast
      · exact hlt
theorem cmpct_len (l : List (List Int)) : (cmpct l).length ≤ l.length := by
  induction l using snocInd with
  | nil => simp [cmpct_nil]
  | snoc l y ih =>
    rw [cmpct_snoc]
    split <;> simp <;> omega
theorem cmpct_same {l : List (List Int)} (h : (cmpct l).length = l.length) : cmpct l = l := by
  induction l using snocInd with
  | nil => rfl
  | snoc l y ih =>
    rw [cmpct_snoc] at h ⊢
    have := cmpct_len l
    split at h
    · simp at h; omega
    · rename_i hne
      rw [if_neg hne, ih (by simpa using h)]

end Go.Proofs.YtkifkdkjljcclaaGreat
