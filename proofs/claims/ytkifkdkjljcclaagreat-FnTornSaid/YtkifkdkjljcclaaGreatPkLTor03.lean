/- Rules for the real combinators: what the world holds is told by one assertion ('At': below the heap's size at the start nothing has changed; each block of the call's own holds these cells). -/
import Derived.Below
import Derived.Laws.CopyRow
import Derived.Laws.AppendOwn
import Derived.IntWalk
import Derived.Test.YtkifkdkjljcclaaGreatPkLTor02
namespace Go.Sx
open Go.RowKit (Below)

abbrev Blk := Nat × Array Value × TypeId

structure At (w0 w : World) (l : List Blk) : Prop where
  below : Below w0.heap.size w0 w
  own : ∀ x ∈ l, w.heap[x.1]? = some (.cells x.2.1 x.2.2 (0, 0))
  ge : ∀ x ∈ l, w0.heap.size ≤ x.1
  nodup : (l.map (·.1)).Nodup

def RR (w : World) (l : List Sh) (Q : TL l → World → Prop) (v : Value) (w' : World) : Prop := ∃ x, v = valL (embL l x) ∧ Below w.heap.size w w' ∧ Q x w'
def Ret (P : Program) (f : FuncId) (args : List Value) (w : World) (l : List Sh) (Q : TL l → World → Prop) : Prop :=
  Calls P f args.toArray w fun e w' => ∃ v, e = .returned v ∧ RR w l Q v w'
def RP (l : List Sh) (x : TL l) (w : World) (v : Value) (w' : World) : Prop := v = valL (embL l x) ∧ w' = w
def RetP (P : Program) (f : FuncId) (args : List Value) (l : List Sh) (x : TL l) : Prop :=
  ∀ w, Calls P f args.toArray w fun e w' => ∃ v, e = .returned v ∧ RP l x w v w'

variable {P : Program} {R : Value → World → Prop} {w0 w : World} {ls : List Blk}

theorem Ret.mono {f : FuncId} {args : List Value} {l : List Sh} {Q Q' : TL l → World → Prop} (h : Ret P f args w l Q) (hq : ∀ x w', Below w.heap.size w w' → Q x w' → Q' x w') : Ret P f args w l Q' :=
  Calls.mono h fun _ _ ⟨v, he, x, hv, hb, hx⟩ => ⟨v, he, x, hv, hb, hq x _ hb hx⟩
theorem RetP.ret {f : FuncId} {args : List Value} {l : List Sh} {x : TL l} (h : RetP P f args l x) (w : World) : Ret P f args w l (fun x' w' => x' = x ∧ w' = w) :=
  (h w).mono fun _ _ ⟨v, he, hv, hw⟩ => ⟨v, he, x, hv, by rw [hw]; exact Below.refl _ _, rfl, hw⟩

theorem Below.lt {B : Nat} {w w' : World} (h : Below B w w') {k : Nat} {o : Obj} (hB : k < B) (hk : w.heap[k]? = some o) : w'.heap[k]? = some o := (h.block k hB).trans hk
theorem lt_of_some {w : World} {k : Nat} {o : Obj} (hk : w.heap[k]? = some o) : k < w.heap.size := (Array.getElem?_eq_some_iff.1 hk).1

theorem At.refl (w : World) : At w w [] := ⟨Below.refl _ _, by simp, by simp, by simp⟩
theorem At.drew (h : At w0 w ls) : At w0 w.drew ls := ⟨h.below.drew, h.own, h.ge, h.nodup⟩
theorem At.trans {w' : World} (h : At w0 w ls) (hb : Below w.heap.size w w') : At w0 w' ls :=
  ⟨h.below.trans (hb.mono h.below.size), fun x hx => Below.lt hb (lt_of_some (h.own x hx)) (h.own x hx), h.ge, h.nodup⟩
theorem At.size (h : At w0 w ls) : w0.heap.size ≤ w.heap.size := h.below.size
theorem At.done (h : At w0 w ls) : Below w0.heap.size w0 w := h.below
theorem At.take (h : At w0 w ls) (l' : List Blk) (hs : l'.Sublist ls) : At w0 w l' :=
  ⟨h.below, fun x hx => h.own x (hs.subset hx), fun x hx => h.ge x (hs.subset hx), (hs.map _).nodup h.nodup⟩
theorem At.nil (h : At w0 w ls) : At w0 w [] := ⟨h.below, by simp, by simp, by simp⟩

theorem At.get (h : At w0 w ls) {i b : Nat} {cs : Array Value} {t : TypeId} (hl : ls[i]? = some (b, cs, t)) : w.heap[b]? = some (.cells cs t (0, 0)) := h.own _ (List.mem_of_getElem? hl)

theorem At.add (h : At w0 w ls) {b : Nat} {cs : Array Value} {t : TypeId} (hb : w.heap[b]? = some (.cells cs t (0, 0))) (hge : w0.heap.size ≤ b) (hn : b ∉ ls.map (·.1)) : At w0 w ((b, cs, t) :: ls) :=
  ⟨h.below, fun x hx => by cases hx with | head => exact hb | tail _ hx => exact h.own x hx, fun x hx => by cases hx with | head => exact hge | tail _ hx => exact h.ge x hx,
    by simp only [List.map_cons, List.nodup_cons]; exact ⟨hn, h.nodup⟩⟩

theorem At.fresh (h : At w0 w ls) {b : Nat} (hb : w.heap.size ≤ b) : b ∉ ls.map (·.1) := fun hm => by
  obtain ⟨x, hx, rfl⟩ := List.mem_map.1 hm
  have := lt_of_some (h.own x hx)
  omega

theorem below_alloc (w : World) (o : Obj) : Below w.heap.size w (w.alloc o) := (Below.refl _ _).alloc (Nat.le_refl _) o

theorem heap_alloc_self (w : World) (o : Obj) : (w.alloc o).heap[w.heap.size]? = some o := by
  show (w.heap.push o)[w.heap.size]? = some o
  simp

theorem At.write (h : At w0 w ls) {i b : Nat} {cs cs' : Array Value} {t : TypeId} {w' : World} (hl : ls[i]? = some (b, cs, t))
    (hb : w'.heap[b]? = some (.cells cs' t (0, 0))) (ho : ∀ k, k ≠ b → w'.heap[k]? = w.heap[k]?) (hs : w'.heap.size = w.heap.size) (hos : w'.os = w.os) (htp : w'.tape = w.tape) (hout : w'.output = w.output) :
    At w0 w' (ls.set i (b, cs', t)) := by
  have hmem := List.mem_of_getElem? hl
  have hge := h.ge _ hmem
  have hmap : (ls.set i (b, cs', t)).map (·.1) = ls.map (·.1) := by
    rw [List.map_set]
    apply List.ext_getElem?
    intro k
    simp only [List.getElem?_set]
    split
    · rename_i hik
      subst hik
      split
      · simp [hl]
      · rename_i hh; simp at hh; simp [hh]
    · rfl
  refine ⟨⟨hos.trans h.below.os, htp.trans h.below.tape, hout.trans h.below.output, by rw [hs]; exact h.below.size, fun k hk => ?_⟩, ?_, ?_, by rw [hmap]; exact h.nodup⟩
  · rw [ho k (by simp only at hge; omega)]; exact h.below.block k hk
  · intro x hx
    obtain ⟨j, hj, hjx⟩ := List.mem_iff_getElem.1 hx
    rw [List.getElem_set] at hjx
    split at hjx
    · subst hjx; exact hb
    · rename_i hij
      have hxm : x ∈ ls := by rw [← hjx]; exact List.getElem_mem _
      have hne : x.1 ≠ b := by
        intro he
        have hi : i < ls.length := by
          rcases Nat.lt_or_ge i ls.length with h' | h'
          · exact h'
          · rw [List.getElem?_eq_none h'] at hl; cases hl
        have hj' : j < ls.length := by simpa using hj
        have e1 : (ls.map (·.1))[i]'(by simpa using hi) = b := by
          rw [List.getElem?_eq_getElem hi] at hl
          simp at hl
          simp [hl]
        have e2 : (ls.map (·.1))[j]'(by simpa using hj') = b := by simp [hjx, he]
        have hp := List.pairwise_iff_getElem.1 h.nodup
        rcases Nat.lt_or_gt_of_ne hij with hlt | hlt
        · exact hp i j (by simpa using hi) (by simpa using hj') hlt (e1.trans e2.symm)
        · exact hp j i (by simpa using hj') (by simpa using hi) hlt (e2.trans e1.symm)
      rw [ho x.1 hne]
      exact h.own x hxm
  · intro x hx
    obtain ⟨y, hy, hyx⟩ := List.mem_map.1 (by rw [← hmap]; exact List.mem_map.2 ⟨x, hx, rfl⟩ : x.1 ∈ ls.map (·.1))
    rw [← hyx]
    exact h.ge y hy

theorem r_cond {b : Bool} {x y : World → Prop} (h1 : b = true → x w) (h2 : b = false → y w) : (cond b x y) w := by
  cases b
  · exact h2 rfl
  · exact h1 rfl
theorem r_if {b : Bool} {x y : World → Prop} (p : Prop) [Decidable p] (hb : b = decide p) (h1 : p → x w) (h2 : ¬ p → y w) : (cond b x y) w := by
  subst hb
  by_cases h : p
  · simp only [h, decide_true, cond_true]; exact h1 h
  · simp only [h, decide_false, cond_false]; exact h2 h
theorem r_true {b : Bool} {x y : World → Prop} (hb : b = true) (h : x w) : (cond b x y) w := by subst hb; exact h
theorem r_false {b : Bool} {x y : World → Prop} (hb : b = false) (h : y w) : (cond b x y) w := by subst hb; exact h

theorem r_new {t : TypeId} {v : Value} {k : Nat → World → Prop} (hA : At w0 w ls) (h : ∀ b w', At w0 w' ((b, v.cells, t) :: ls) → k b w') : ((real P R).new t v k : World → Prop) w :=
  h _ _ (((hA.trans (below_alloc w _)).add (heap_alloc_self w _) hA.size (hA.fresh (Nat.le_refl _))))

theorem r_draw {s : World → Prop} (hA : At w0 w ls) (h : ∀ w', At w0 w' ls → s w') : ((real P R).draw s : World → Prop) w := h _ hA.drew

theorem r_ld {sh : Sh} {n : Nat} {p : Addr} {k : sh.T → World → Prop} (hA : At w0 w ls) (i : Nat) {b o : Nat} {cs : Array Value} {t : TypeId} (hl : ls[i]? = some (b, cs, t)) (hp : p = ⟨b, o, none⟩)
    (x : sh.T) (hs : ∀ ds, sh.emb x ≠ .agg ds) (hx : cs[o]? = some (sh.emb x)) (h : k x w) : ((real P R).ld sh n p k : World → Prop) w := by
  refine ⟨x, ?_, h⟩
  subst hp
  have hc : w.cell? ⟨b, o, none⟩ = some (sh.emb x) := by simp [World.cell?, hA.get hl, hx]
  cases sh
  case agg => exact (hs x rfl).elim
  all_goals exact hc

theorem r_ldA {n : Nat} {p : Addr} {k : Array Value → World → Prop} (hA : At w0 w ls) (i : Nat) {b : Nat} {cs : Array Value} {t : TypeId} (hl : ls[i]? = some (b, cs, t)) (hp : p = ⟨b, 0, none⟩)
    (hn : cs.size = n) (h : k cs w) : ((real P R).ld .agg n p k : World → Prop) w := by
  refine ⟨cs, ⟨hn, fun j v hv => ?_⟩, h⟩
  subst hp
  have : (⟨b, 0, none⟩ : Addr).add j = ⟨b, j, none⟩ := by unfold Addr.add; split <;> simp_all
  rw [this]
  simp [World.cell?, hA.get hl, hv]

theorem r_ldO {sh : Sh} {n : Nat} {p : Addr} {k : sh.T → World → Prop} (hA : At w0 w ls) (x : sh.T) (hx : ldOk w0 n p sh x) (hne : sh = .agg → 0 < n) (h : k x w) : ((real P R).ld sh n p k : World → Prop) w := by
  refine ⟨x, ?_, h⟩
  have key : ∀ q v, w0.cell? q = some v → w.cell? q = some v := fun q v hv => by
    rw [hA.below.cell (block_lt_of_cell hv)]; exact hv
  cases sh
  case agg => exact ⟨hx.1, fun j v hv => key _ _ (hx.2 j v hv)⟩
  all_goals exact key _ _ hx

theorem ldOk_below {w w' : World} (hb : Below w.heap.size w w') {n : Nat} {p : Addr} {sh : Sh} {x : sh.T} (hx : ldOk w n p sh x) : ldOk w' n p sh x := by
  have key : ∀ q v, w.cell? q = some v → w'.cell? q = some v := fun q v hv => by rw [hb.cell (block_lt_of_cell hv)]; exact hv
  cases sh
  case agg => exact ⟨hx.1, fun j v hv => key _ _ (hx.2 j v hv)⟩
  all_goals exact key _ _ hx

theorem setCell_heap_self {w : World} {b o : Nat} {cs : Array Value} {t : TypeId} (h : w.heap[b]? = some (.cells cs t (0, 0))) (v : Value) :
    (w.setCell ⟨b, o, none⟩ v).heap[b]? = some (.cells (cs.setIfInBounds o v) t (0, 0)) := heap_setCell_same w b o cs t v h

theorem stW_heap {b : Nat} {t : TypeId} : ∀ (l : List Value) (o i : Nat) (w : World) (cs : Array Value), w.heap[b]? = some (.cells cs t (0, 0)) → o + i + l.length ≤ cs.size → (∀ v ∈ l, oneC v = true) →
    stOk w ⟨b, o, none⟩ l i ∧ (stW w ⟨b, o, none⟩ l i).heap[b]? = some (.cells (cs.toList.take (o + i) ++ l ++ cs.toList.drop (o + i + l.length)).toArray t (0, 0)) ∧
      (∀ k, k ≠ b → (stW w ⟨b, o, none⟩ l i).heap[k]? = w.heap[k]?) ∧ (stW w ⟨b, o, none⟩ l i).heap.size = w.heap.size ∧
      (stW w ⟨b, o, none⟩ l i).os = w.os ∧ (stW w ⟨b, o, none⟩ l i).tape = w.tape ∧ (stW w ⟨b, o, none⟩ l i).output = w.output
  | [], o, i, w, cs, h, hl, h1 => ⟨trivial, by simp [stW, h], fun _ _ => rfl, rfl, rfl, rfl, rfl⟩
  | v :: r, o, i, w, cs, h, hl, h1 => by
    have hi : o + i < cs.size := by simp at hl; omega
    have hadd : (⟨b, o, none⟩ : Addr).add i = ⟨b, o + i, none⟩ := by unfold Addr.add; split <;> simp_all
    have h' := setCell_heap_self (o := o + i) h v
    obtain ⟨k1, k2, k3, k4, k5, k6, k7⟩ := stW_heap r o (i + 1) (w.setCell ⟨b, o + i, none⟩ v) (cs.setIfInBounds (o + i) v) h' (by simp at hl ⊢; omega) (fun u hu => h1 u (by simp [hu]))
    refine ⟨⟨h1 v (by simp), ⟨cs[o + i], by rw [hadd]; simp [World.cell?, h, hi]⟩, by rw [hadd]; simp [World.frozen?, h], by rw [hadd]; exact k1⟩, ?_, ?_, ?_, ?_, ?_, ?_⟩
    · simp only [stW, hadd, k2]
      have e := list_seg_step cs.toList (o + i) v r (by simp at hl ⊢; omega)
      congr 2
      simpa [Array.toList_setIfInBounds, Nat.add_assoc] using e
    · intro k hk
      simp only [stW, hadd]
      rw [k3 k hk, heap_setCell_other _ _ _ _ hk]
    · simp only [stW, hadd]; rw [k4]; simp [World.setCell]
    · simp only [stW, hadd]; rw [k5]; rfl
    · simp only [stW, hadd]; rw [k6]; rfl
    · simp only [stW, hadd]; rw [k7]; rfl

theorem r_st {p : Addr} {v : Value} {k : World → Prop} (hA : At w0 w ls) (i : Nat) {b o : Nat} {cs : Array Value} {t : TypeId} (hl : ls[i]? = some (b, cs, t)) (hp : p = ⟨b, o, none⟩)
    (ho : o < cs.size) (h1 : oneC v = true) (h : ∀ w', At w0 w' (ls.set i (b, cs.setIfInBounds o v, t)) → k w') : ((real P R).st 1 p v k : World → Prop) w := by
  subst hp
  have hc : v.cells = #[v] := by cases v <;> first | rfl | (simp [oneC] at h1)
  have hadd : (⟨b, o, none⟩ : Addr).add 0 = ⟨b, o, none⟩ := rfl
  have hb := hA.get hl
  refine ⟨by rw [hc]; rfl, ?_, ?_⟩
  · rw [hc]
    exact ⟨h1, ⟨cs[o], by rw [hadd]; simp [World.cell?, hb, ho]⟩, by rw [hadd]; simp [World.frozen?, hb], trivial⟩
  · rw [hc]
    exact h _ (hA.write hl (setCell_heap_self hb v) (fun k hk => heap_setCell_other _ _ _ _ hk) (by simp [stW, World.setCell]) rfl rfl rfl)

theorem r_stA {n : Nat} {p : Addr} {ds : Array Value} {k : World → Prop} (hA : At w0 w ls) (i : Nat) {b : Nat} {cs : Array Value} {t : TypeId} (hl : ls[i]? = some (b, cs, t)) (hp : p = ⟨b, 0, none⟩)
    (hn : ds.size = n) (hc : cs.size = n) (h1 : ∀ v ∈ ds.toList, oneC v = true) (h : ∀ w', At w0 w' (ls.set i (b, ds, t)) → k w') : ((real P R).st n p (.agg ds) k : World → Prop) w := by
  subst hp
  have hb := hA.get hl
  obtain ⟨k1, k2, k3, k4, k5, k6, k7⟩ := stW_heap ds.toList 0 0 w cs hb (by simp; omega) h1
  have hfin : (stW w ⟨b, 0, none⟩ ds.toList 0).heap[b]? = some (.cells ds t (0, 0)) := by
    have : cs.toList.drop ds.size = [] := List.drop_eq_nil_of_le (by simp; omega)
    rw [k2]
    simp [this]
  exact ⟨hn, k1, h _ (hA.write hl hfin k3 k4 k5 k6 k7)⟩

theorem r_stP {n : Nat} {p : Addr} {ds : Array Value} {k : World → Prop} (hA : At w0 w ls) (i : Nat) {b o : Nat} {cs : Array Value} {t : TypeId} (hl : ls[i]? = some (b, cs, t)) (hp : p = ⟨b, o, none⟩)
    (hn : ds.size = n) (hc : o + n ≤ cs.size) (h1 : ∀ v ∈ ds.toList, oneC v = true) (h : ∀ w', At w0 w' (ls.set i (b, (cs.toList.take o ++ ds.toList ++ cs.toList.drop (o + n)).toArray, t)) → k w') : ((real P R).st n p (.agg ds) k : World → Prop) w := by
  subst hp
  have hb := hA.get hl
  obtain ⟨k1, k2, k3, k4, k5, k6, k7⟩ := stW_heap ds.toList o 0 w cs hb (by simp; omega) h1
  have hfin : (stW w ⟨b, o, none⟩ ds.toList 0).heap[b]? = some (.cells (cs.toList.take o ++ ds.toList ++ cs.toList.drop (o + n)).toArray t (0, 0)) := by
    rw [k2]
    simp [hn]
  exact ⟨hn, k1, h _ (hA.write hl hfin k3 k4 k5 k6 k7)⟩

theorem r_ix {a : Option Addr} {n z : Nat} {i : Int} {k : Addr → World → Prop} (p : Addr) (ha : a = some p) (h0 : 0 ≤ i) (h1 : i < n) (h : k (p.add (i.toNat * z)) w) : ((real P R).ix a n z i k : World → Prop) w := ⟨p, ha, h0, h1, h⟩

theorem r_call {f : FuncId} {args : List Value} {l : List Sh} {Q : TL l → World → Prop} {k : TL l → World → Prop} (hA : At w0 w ls) (hc : Ret P f args w l Q)
    (h : ∀ x w', At w0 w' ls → Below w.heap.size w w' → Q x w' → k x w') : ((real P R).call f args l k : World → Prop) w :=
  Calls.mono hc fun _ _ ⟨_, he, x, hv, hb, hq⟩ => ⟨x, by rw [he, hv], h x _ (hA.trans hb) hb hq⟩

theorem r_callQ {f : FuncId} {args : List Value} {l : List Sh} {x : TL l} {k : TL l → World → Prop} (hc : RetP P f args l x) (h : k x w) : ((real P R).callQ f args l k : World → Prop) w :=
  ⟨x, (hc w).mono fun _ _ ⟨_, he, hv, hw⟩ => ⟨by rw [he, hv], hw⟩, h⟩
theorem r_callp {f : FuncId} {args : List Value} {l : List Sh} {x : TL l} {k : TL l → World → Prop} (hc : RetP P f args l x) (h : k x w) : ((real P R).call f args l k : World → Prop) w :=
  (hc w).mono fun _ _ ⟨_, he, hv, hw⟩ => ⟨x, by rw [he, hv], by rw [hw]; exact h⟩

theorem r_sem {s : Sem Value} {sh : Sh} {k : sh.T → World → Prop} (x : sh.T) (w' : World) (hr : s.run P w = .ok (sh.emb x) w') (h : k x w') : ((real P R).sem s sh k : World → Prop) w := ⟨x, w', hr, h⟩
theorem r_pur {s : Sem Value} {sh : Sh} {k : sh.T → World → Prop} (x : sh.T) (hr : ∀ w', s.run P w' = .ok (sh.emb x) w') (h : k x w) : ((real P R).pur s sh k : World → Prop) w := ⟨x, hr, h⟩
theorem r_loop {σ : Type} {emb : σ → List Value} {init : List Value} {body : σ → (List Value → World → Prop) → World → Prop} (I : σ → World → Prop) (μ : σ → World → Nat) (s0 : σ) (h0 : emb s0 = init) (hI : I s0 w)
    (hr : ∀ s w, I s w → body s (fun vs w' => ∃ s', emb s' = vs ∧ I s' w' ∧ μ s' w' < μ s w) w) : ((real P R).loop σ emb init body : World → Prop) w := ⟨I, μ, ⟨s0, h0, hI⟩, hr⟩
theorem r_join {σ : Type} {emb : σ → List Value} {rest : σ → World → Prop} {body : (List Value → World → Prop) → World → Prop} (J : σ → World → Prop) (hr : ∀ s w, J s w → rest s w) (hb : body (fun vs w' => ∃ s', emb s' = vs ∧ J s' w') w) :
    ((real P R).join σ emb rest body : World → Prop) w := ⟨J, hr, hb⟩
theorem r_any {f : (Nat → Value) → World → Prop} (h : ∀ j, f j w) : ((real P R).any f : World → Prop) w := h

theorem r_ret {l : List Sh} {Q : TL l → World → Prop} {v : Value} (hA : At w0 w ls) (x : TL l) (hv : v = valL (embL l x)) (hq : Q x w) : ((real P (RR w0 l Q)).ret v : World → Prop) w := ⟨x, hv, hA.below, hq⟩
theorem r_retP {l : List Sh} {x : TL l} {v : Value} (hv : v = valL (embL l x)) : ((real P (RP l x w)).ret v : World → Prop) w := ⟨hv, rfl⟩

end Go.Sx
