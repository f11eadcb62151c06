/- Rules beside an own map. Printed in part (mp0.py). A blob is put into the program's store with its keys. Printed by a program of this claim's author (s2.py). LinkPath's plain law: a search in breadth. Is a key in a slice of keys (reference); a slice of keys turned round (library). LinkPath's plain law: the path. LinkPath: the program's map of predecessors, plain. LinkPath: what both sides answer, plain. The nodes of maps by their keys: the program's mapper and the reference's l08Node. -/
import Derived.WideKeyRuns
import Derived.Test.YtkifkdkjljcclaaGreatPkLPR17
import Derived.Test.YtkifkdkjljcclaaGreatPkLPR25
import Derived.Test.YtkifkdkjljcclaaGreatPkLPR22
import Derived.Test.YtkifkdkjljcclaaGreatPkLPR28
import Derived.Test.YtkifkdkjljcclaaGreatPkLPR26
namespace Go.Sx
open Go.RowKit (Below)
variable {P : Program} {R : Value → World → Prop} {w0 w : World} {ls : List Blk}

theorem lt_of_get {h : Array Obj} {r : Nat} {o : Obj} (hM : h[r]? = some o) : r < h.size := by
  rcases Nat.lt_or_ge r h.size with h' | h'
  · exact h'
  · rw [Array.getElem?_eq_none h'] at hM; cases hM
theorem _root_.Go.RowKit.Below.keeps {w w' : World} {r : Nat} {o : Obj} (hb : Below w.heap.size w w') (hM : w.heap[r]? = some o) : w'.heap[r]? = some o := by rw [hb.block r (lt_of_get hM)]; exact hM

theorem r_appendM {r : Nat} {o : Obj} (hM : w.heap[r]? = some o) (hmo : ∀ c e f, o ≠ .cells c e f) {t ty e z by_ : Nat} (hT : SlT P t e z by_) {s y : Sl} {xs news : List Value} {k : Sl → World → Prop} (hS : SlO w0 w ls e z s xs) (hy : SlAt w y z news) (h1 : ∀ v ∈ news, oneC v = true)
    (hbytes : (s.n + y.n) * by_ ≤ 140737488355328) (hmax : s.n + y.n ≤ 140737488355328) (h : ∀ s' w', SlO w0 w' ls e z s' (xs ++ news) → s'.n = s.n + y.n → w'.heap[r]? = some o → k s' w') :
    ((real P R).sem (Builtin.append_ #[t, t] ty #[.slice s.a s.n s.c, .slice y.a y.n y.c]) .slice k : World → Prop) w := by
  obtain ⟨i, zv, hi, hz, hsz, hby, hzs⟩ := hT.ex
  have hmx : s.n + y.n ≤ maxLen := by unfold maxLen; omega
  have hlen : (xs ++ news).length = (s.n + y.n) * z := by rw [List.length_append, hS.len, hy.len, Nat.add_mul]
  have hfy := run_first (P := P) hy
  have hzero : (zeroValue e).run P w = .ok zv w := by simp [zeroValue, typeInfo, hi, hz]
  by_cases hroom : s.n + y.n ≤ s.c
  · rcases hS.own with ⟨ha, hn, hc⟩ | ⟨g, cur, ha, hA, hnc, hcm, hcs, htk⟩
    · have hy0 : y.n = 0 := by omega
      have hnews : news = [] := List.eq_nil_of_length_eq_zero (by rw [hy.len, hy0, Nat.zero_mul])
      subst hnews
      refine ⟨s, w, ?_, h s w ⟨hS.at_, by simpa using hS.len, ?_⟩ (by omega) hM⟩
      · simp only [Sh.emb, ha, hn, hc, hy0] at hfy ⊢
        simp [Builtin.append_, run_underlying hT.ut, sizeOf, typeInfo, hi, hsz, Builtin.lenOf, hfy]
      · rw [List.append_nil]; exact .inl ⟨ha, hn, hc⟩
    · have hfit : s.n * z + news.length ≤ cur.size := by rw [hy.len, hcs, ← Nat.add_mul]; exact Nat.mul_le_mul_right _ hroom
      have hg : w.heap[g]? = some (.cells cur e (0, 0)) := hA.get (i := 0) rfl
      obtain ⟨k1, k2, k3, k4, k5, k6, k7⟩ := stW_heap news (s.n * z) 0 w cur hg (by simpa using hfit) h1
      have hst := run_storeCells (P := P) ⟨g, s.n * z, none⟩ news 0 w k1
      have hcur' : (cur.toList.take (s.n * z + 0) ++ news ++ cur.toList.drop (s.n * z + 0 + news.length)).toArray.size = s.c * z := by
        simp only [List.size_toArray, List.length_append, List.length_take, List.length_drop, Array.length_toList]; omega
      have hA' := hA.write (i := 0) rfl k2 k3 k4 k5 k6 k7
      refine ⟨⟨s.a, s.n + y.n, s.c⟩, stW w ⟨g, s.n * z, none⟩ news 0, ?_, h _ _ ⟨hA'.take _ (List.sublist_cons_self _ _), hlen, .inr ⟨g, _, ha, hA', hroom, hcm, hcur', ?_⟩⟩ rfl (by rw [k3 r (fun hh => by rw [hh, hg] at hM; exact hmo _ _ _ (Option.some.inj hM).symm)]; exact hM)⟩
      · simp only [Sh.emb]
        simp [Builtin.append_, run_underlying hT.ut, sizeOf, typeInfo, hi, hsz, Builtin.lenOf, hroom, hfy, ha, add_lit, hst]
      · have e1 : xs.length = s.n * z := hS.len
        have e2 : cur.toList.take (s.n * z + 0) = xs := by rw [Nat.add_zero, ← e1]; exact htk
        simp only [e2]
        rw [List.append_assoc, ← List.append_assoc]
        exact List.take_left
  · have hfx := run_first (P := P) hS.sl.drew'
    have h63' : ¬ (9223372036854775807 < ((s.n : Int) + (y.n : Int))) := by omega
    have hfit := growslice_fits (need := s.n + y.n) (old := s.c) (bytes := by_) (by omega) hbytes
    have h48' : ¬ (281474976710656 < Builtin.nextslicecap (s.n + y.n) s.c * i.bytes) := by rw [hby]; omega
    have hge := grownCap_ge w (s.n + y.n) s.c e
    have hcm := grownCap_le_maxLen w (s.n + y.n) s.c e hmx
    have hfy' := run_first (P := P) hy.drew'
    have hsz' : (xs.toArray ++ news.toArray ++ Builtin.zeroCells zv.cells (grownCap w (s.n + y.n) s.c e - (s.n + y.n))).size = grownCap w (s.n + y.n) s.c e * z := by
      simp only [Array.size_append, List.size_toArray, size_zeroCells, hzs, hS.len, hy.len, ← Nat.add_mul]
      congr 1
      omega
    have htk : (xs.toArray ++ news.toArray ++ Builtin.zeroCells zv.cells (grownCap w (s.n + y.n) s.c e - (s.n + y.n))).toList.take (xs ++ news).length = xs ++ news := by
      simp only [Array.toList_append]
      exact List.take_left
    refine ⟨⟨some ⟨w.heap.size, 0, none⟩, s.n + y.n, grownCap w (s.n + y.n) s.c e⟩, w.drew.alloc (.cells (xs.toArray ++ news.toArray ++ Builtin.zeroCells zv.cells (grownCap w (s.n + y.n) s.c e - (s.n + y.n))) e), ?_,
      h _ _ (SlO.made hS.at_ ((drew_below w).trans ((below_alloc w.drew _).mono (Nat.le_refl _))) (heap_alloc_self w.drew _) (Nat.le_refl _) hlen hge hcm hsz' htk) rfl (((drew_below w).trans ((below_alloc w.drew _).mono (Nat.le_refl _))).keeps hM)⟩
    simp only [Sh.emb]
    simp [Builtin.append_, run_underlying hT.ut, sizeOf, typeInfo, zeroValue, hi, hz, hsz, Builtin.lenOf, hroom, h63', h48', Question.forced, hfx, hfy', newRow, grownCap]
    congr 2
    apply Array.ext'
    simp

theorem r_newM {r : Nat} {o : Obj} {t : TypeId} {v : Value} {k : Nat → World → Prop} (hA : At w0 w ls) (hM : w.heap[r]? = some o) (h : ∀ b w', At w0 w' ((b, v.cells, t) :: ls) → w'.heap[r]? = some o → k b w') : ((real P R).new t v k : World → Prop) w :=
  h _ _ (((hA.trans (below_alloc w _)).add (heap_alloc_self w _) hA.size (hA.fresh (Nat.le_refl _)))) ((below_alloc w _).keeps hM)
theorem r_stAM {r : Nat} {o : Obj} (hM : w.heap[r]? = some o) (hmo : ∀ c e f, o ≠ .cells c e f) {n : Nat} {p : Addr} {ds : Array Value} {k : World → Prop} (hA : At w0 w ls) (i : Nat) {b : Nat} {cs : Array Value} {t : TypeId} (hl : ls[i]? = some (b, cs, t)) (hp : p = ⟨b, 0, none⟩)
    (hn : ds.size = n) (hc : cs.size = n) (h1 : ∀ v ∈ ds.toList, oneC v = true) (h : ∀ w', At w0 w' (ls.set i (b, ds, t)) → w'.heap[r]? = some o → k w') : ((real P R).st n p (.agg ds) k : World → Prop) w := by
  subst hp
  have hb := hA.get hl
  obtain ⟨k1, k2, k3, k4, k5, k6, k7⟩ := stW_heap ds.toList 0 0 w cs hb (by simp; omega) h1
  have hfin : (stW w ⟨b, 0, none⟩ ds.toList 0).heap[b]? = some (.cells ds t (0, 0)) := by
    have : cs.toList.drop ds.size = [] := List.drop_eq_nil_of_le (by simp; omega)
    rw [k2]
    simp [this]
  exact ⟨hn, k1, h _ (hA.write hl hfin k3 k4 k5 k6 k7) ((k3 r (fun hh => by rw [hh, hb] at hM; exact hmo _ _ _ (Option.some.inj hM).symm)).trans hM)⟩
theorem r_stM {r : Nat} {o' : Obj} (hM : w.heap[r]? = some o') (hmo : ∀ c e f, o' ≠ .cells c e f) {p : Addr} {v : Value} {k : World → Prop} (hA : At w0 w ls) (i : Nat) {b o : Nat} {cs : Array Value} {t : TypeId} (hl : ls[i]? = some (b, cs, t)) (hp : p = ⟨b, o, none⟩)
    (ho : o < cs.size) (h1 : oneC v = true) (h : ∀ w', At w0 w' (ls.set i (b, cs.setIfInBounds o v, t)) → w'.heap[r]? = some o' → k w') : ((real P R).st 1 p v k : World → Prop) w := by
  subst hp
  have hc : v.cells = #[v] := by cases v <;> first | rfl | (simp [oneC] at h1)
  have hadd : (⟨b, o, none⟩ : Addr).add 0 = ⟨b, o, none⟩ := rfl
  have hb := hA.get hl
  refine ⟨by rw [hc]; rfl, ?_, ?_⟩
  · rw [hc]
    exact ⟨h1, ⟨cs[o], by rw [hadd]; simp [World.cell?, hb, ho]⟩, by rw [hadd]; simp [World.frozen?, hb], trivial⟩
  · rw [hc]
    exact h _ (hA.write hl (setCell_heap_self hb v) (fun k hk => heap_setCell_other _ _ _ _ hk) (by simp [stW, World.setCell]) rfl rfl rfl) (by
      have : (w.setCell ⟨b, o, none⟩ v).heap[r]? = w.heap[r]? := heap_setCell_other _ _ _ _ (fun hh => by subst hh; rw [hb] at hM; exact hmo _ _ _ (Option.some.inj hM).symm)
      exact this.trans hM)
def arrK (k : List Int) : Value := .agg (k.map (Value.int .u8)).toArray
def MapIs (o : Obj) (m : List (List Int × Value)) : Prop := ∃ es clk, o = .map es clk ∧ es.toList.map (fun e => (e.key, e.val)) = m.map fun p => (arrK p.1, p.2)
theorem MapIs.no {o : Obj} {m : List (List Int × Value)} (h : MapIs o m) : ∀ c e f, o ≠ .cells c e f := by obtain ⟨es, clk, rfl, _⟩ := h; intro c e f hh; cases hh
theorem MapIs.nil (c : Nat) : MapIs (.map #[] c) [] := ⟨#[], c, rfl, rfl⟩

theorem r_makeMap {t : TypeId} {k : Value → World → Prop} (hA : At w0 w ls) (h : ∀ r w', At w0 w' ls → w'.heap[r]? = some (.map #[] 0) → w0.heap.size ≤ r → k (.map (some r)) w') : ((real P R).sem (Instr.makeMap t none) .val k : World → Prop) w :=
  ⟨_, _, rfl, h _ _ (hA.trans (below_alloc w _)) (heap_alloc_self w _) hA.size⟩

theorem run_checkKey_u8 {t e n : TypeId} (hu : P.underlying t = some (.array n e)) (he : tyOf P e = some (.int .u8, 1)) {k : List Int} (hk : k.length = n) (em : Bool) (m : Nat) (w : World) : (Instr.checkKey em (m + 2) t (arrK k)).run P w = .ok () w := by
  obtain ⟨dd, ii, hd, hinfo, hsh, hsz⟩ := tyOf_some he
  have hke : P.underlying e = some (.int .u8) := by
    rw [hd]
    cases dd <;> first | (simp_all [shD]; done) | (simp only [shD, ptrSh] at hsh; split at hsh <;> simp_all)
  unfold arrK
  rw [Instr.checkKey]
  simp only [Sem.run_bind, run_underlying hu, Result.andThen_ok]
  simp only [Std.Legacy.Range.forIn_eq_forIn_range', Std.Legacy.Range.size, Nat.sub_zero, Nat.add_one_sub_one, Nat.div_one]
  have each : ∀ j ∈ List.range' 0 n, j < k.length := fun j hj => by rw [List.mem_range'_1] at hj; omega
  generalize List.range' 0 n = is at each
  induction is with
  | nil => simp
  | cons j is ih =>
    have hj : j < k.length := each j (by simp)
    have p1 : (part e (k.map (Value.int .u8)).toArray (j * 1)).run P w = .ok (.int .u8 (k.getD j 0)) w := run_part (sh := .int .u8) he (by simp [aggB]) (by simp [hj, List.getD]) w
    have p2 : (Instr.checkKey em (m + 1) e (.int .u8 (k.getD j 0))).run P w = .ok () w := by simp [Instr.checkKey, run_underlying hke]
    have ps : (sizeOf e).run P w = .ok 1 w := by simp [sizeOf, typeInfo, hinfo, hsz]
    simp only [List.forIn_cons, Sem.run_bind, ps, Result.andThen_ok, p1, p2, Sem.run_pure]
    exact ih (fun y hy => each y (by simp [hy]))

theorem run_equal_u8 {t e n : Nat} (hu : P.underlying t = some (.array n e)) (he : tyOf P e = some (.int .u8, 1)) {a b : List Int} (ha : a.length = n) (hb : b.length = n) (w : World) : (Op.equal t (arrK a) (arrK b)).run P w = .ok (decide (a = b)) w := by
  obtain ⟨dd, ii, hd, hinfo, hsh, hsz⟩ := tyOf_some he
  have h1 := run_equalIn_array w 9999 (a.map (Value.int .u8)).toArray (b.map (Value.int .u8)).toArray hu hinfo
  rw [cellsOf_info hinfo, hsz, ← ha, run_eqItems_u8 he 9998 w (by omega) _ (fun i hi => List.mem_range.1 hi), all_getD (by omega)] at h1
  exact h1

theorem run_findAsking_u8 {t e n : Nat} (hu : P.underlying t = some (.array n e)) (he : tyOf P e = some (.int .u8, 1)) {k : List Int} (hk : k.length = n) (w : World) : ∀ (m : List (List Int × Value)) (es : List MapEntry) (i : Nat), es.map (fun e => (e.key, e.val)) = m.map (fun p => (arrK p.1, p.2)) → (∀ p ∈ m, p.1.length = n) →
    match m.lookup k with
    | some v => ∃ j, (Instr.findAsking t (arrK k) es i).run P w = .ok (some (j, v)) w
    | none => (Instr.findAsking t (arrK k) es i).run P w = .ok none w
  | [], es, i, h, _ => by
    have : es = [] := by cases es <;> simp_all
    subst this
    simp [Instr.findAsking]
  | (a, v) :: m, [], i, h, _ => by simp at h
  | (a, v) :: m, x :: es, i, h, hn => by
    simp only [List.map_cons, List.cons.injEq, Prod.mk.injEq] at h
    obtain ⟨⟨h1, h2⟩, h3⟩ := h
    have he1 := run_equal_u8 hu he hk (hn (a, v) (by simp)) w
    have ih := run_findAsking_u8 hu he hk w m es (i + 1) h3 (fun p hp => hn p (by simp [hp]))
    by_cases hka : k = a
    · subst hka
      rw [List.lookup_cons_self]
      refine ⟨i, ?_⟩
      simp [Instr.findAsking, h1, h2, he1]
    · have hl : ((a, v) :: m).lookup k = m.lookup k := by
        have hb : (k == a) = false := beq_eq_false_iff_ne.2 hka
        show (match (k == a) with | true => some v | false => m.lookup k) = _
        rw [hb]
      rw [hl]
      cases hlk : m.lookup k with
      | none => rw [hlk] at ih; simp [Instr.findAsking, h1, he1, hka, ih]
      | some u =>
        rw [hlk] at ih
        obtain ⟨j, hj⟩ := ih
        exact ⟨j, by simp [Instr.findAsking, h1, he1, hka, hj]⟩

theorem wide_arr {t n e : TypeId} (hu : P.underlying t = some (.array n e)) : (match P.underlying t with | some (.array _ _) | some (.struct _) => true | _ => false) = true := by rw [hu]

theorem run_lookup_u8 {t kt et e n : TypeId} {zv : Value} (ht : P.underlying t = some (.map kt et)) (hu : P.underlying kt = some (.array n e)) (he : tyOf P e = some (.int .u8, 1)) (hz : (P.info? et).bind (·.zero) = some zv) {k : List Int} (hk : k.length = n) {r : Nat} {o : Obj} {m : List (List Int × Value)} (hM : w.heap[r]? = some o) (hm : MapIs o m) (hmn : ∀ p ∈ m, p.1.length = n) (c : Bool) :
    (Instr.lookup t (.map (some r)) (arrK k) c).run P w = .ok (if c then .tuple #[(m.lookup k).getD zv, .bool (m.lookup k).isSome] else (m.lookup k).getD zv) w := by
  obtain ⟨es, clk, rfl, hes⟩ := hm
  have hf := run_findAsking_u8 hu he hk w m es.toList 0 hes hmn
  have hc : (Instr.checkKey es.isEmpty 10000 kt (arrK k)).run P w = .ok () w := run_checkKey_u8 hu he hk _ 9998 w
  have hg : (getObj r).run P w = .ok (.map es clk) w := by simp [getObj, Sem.run, hM]
  have hzr : (zeroValue et).run P w = .ok zv w := by
    cases hi : P.info? et with
    | none => rw [hi] at hz; cases hz
    | some ti =>
      rw [hi] at hz
      have hz' : ti.zero = some zv := hz
      simp [zeroValue, typeInfo, hi, hz']
  cases hl : m.lookup k with
  | none =>
    rw [hl] at hf
    simp [Instr.lookup, run_underlying ht, hg, hc, run_findKey_eq w (wide_arr hu), hf, hzr]
  | some v =>
    rw [hl] at hf
    obtain ⟨j, hj⟩ := hf
    simp [Instr.lookup, run_underlying ht, hg, hc, run_findKey_eq w (wide_arr hu), hj]

theorem At.putMap {r : Nat} {o o' : Obj} (hA : At w0 w ls) (hM : w.heap[r]? = some o) (hmo : ∀ c e f, o ≠ .cells c e f) (hr : w0.heap.size ≤ r) : At w0 { w with heap := w.heap.setIfInBounds r o' } ls := by
  refine ⟨⟨hA.below.os, hA.below.tape, hA.below.output, ?_, fun k hk => ?_⟩, fun x hx => ?_, hA.ge, hA.nodup⟩
  · show w0.heap.size ≤ (w.heap.setIfInBounds r o').size
    rw [Array.size_setIfInBounds]
    exact hA.below.size
  · show (w.heap.setIfInBounds r o')[k]? = w0.heap[k]?
    rw [Array.getElem?_setIfInBounds_ne (by omega)]
    exact hA.below.block k hk
  · have hx' := hA.own x hx
    show (w.heap.setIfInBounds r o')[x.1]? = _
    rw [Array.getElem?_setIfInBounds_ne (fun hh => by rw [← hh, hM] at hx'; exact hmo _ _ _ (Option.some.inj hx'))]
    exact hx'

theorem r_mapNew {t kt et e n : TypeId} (ht : P.underlying t = some (.map kt et)) (hu : P.underlying kt = some (.array n e)) (he : tyOf P e = some (.int .u8, 1)) {k : List Int} (hk : k.length = n) {r : Nat} {o : Obj} {m : List (List Int × Value)} {v : Value} {s : World → Prop} (hA : At w0 w ls) (hM : w.heap[r]? = some o) (hm : MapIs o m) (hr : w0.heap.size ≤ r) (hmn : ∀ p ∈ m, p.1.length = n) (hnew : m.lookup k = none)
    (h : ∀ w' o', At w0 w' ls → w'.heap[r]? = some o' → MapIs o' (m ++ [(k, v)]) → s w') : ((real P R).eff (Instr.mapUpdate t (.map (some r)) (arrK k) v) s : World → Prop) w := by
  have hno := hm.no
  obtain ⟨es, clk, rfl, hes⟩ := hm
  have hf := run_findAsking_u8 hu he hk w m es.toList 0 hes hmn
  rw [hnew] at hf
  have hc : (Instr.checkKey false 10000 kt (arrK k)).run P w = .ok () w := run_checkKey_u8 hu he hk _ 9998 w
  have hg : (getObj r).run P w = .ok (.map es clk) w := by simp [getObj, Sem.run, hM]
  have hs : (setObj r (.map (es.push { key := arrK k, val := v, born := clk }) (clk + 1))).run P w = .ok () { w with heap := w.heap.setIfInBounds r (.map (es.push { key := arrK k, val := v, born := clk }) (clk + 1)) } := by simp [setObj, Sem.run, hM]
  refine ⟨_, ?_, h _ (.map (es.push { key := arrK k, val := v, born := clk }) (clk + 1)) (hA.putMap (o' := .map (es.push { key := arrK k, val := v, born := clk }) (clk + 1)) hM hno hr) ?_ ⟨_, _, rfl, ?_⟩⟩
  · simp [Instr.mapUpdate, run_underlying ht, hg, hc, run_findKey_eq w (wide_arr hu), hf, hs]
  · show (w.heap.setIfInBounds r _)[r]? = _
    rw [Array.getElem?_setIfInBounds_self_of_lt (lt_of_get hM)]
  · rw [Array.toList_push, List.map_append, hes, List.map_append]
    rfl

end Go.Sx

namespace Go.Proofs.YtkifkdkjljcclaaGreat
open Go.Sx Go.RowKit

def insAt {α : Type} (i : Nat) (x : α) (l : List α) : List α := l.take i ++ [x] ++ l.drop i
theorem mem_insAt {α : Type} {i : Nat} {x y : α} {l : List α} (h : y ∈ insAt i x l) : y = x ∨ y ∈ l := by
  simp only [insAt, List.mem_append, List.mem_singleton] at h
  rcases h with (h | h) | h
  · exact .inr (List.mem_of_mem_take h)
  · exact .inl h
  · exact .inr (List.mem_of_mem_drop h)
theorem ltL_of_not {a b : List Int} (h : ¬ ltL a b) (hne : a ≠ b) : ltL b a := by
  unfold ltL at *
  have := cmpL_range a b
  have h0 : cmpL a b ≠ 0 := fun hh => hne (cmpL_eq.1 hh)
  rw [cmpL_neg a b]
  omega
theorem asc_insAt {ks : List (List Int)} {k : List Int} (h : Asc ks) (hk : k ∉ ks) : Asc (insAt (posK ks k) k ks) := by
  have hl : ∀ x ∈ ks.take (posK ks k), ltL x k := by
    intro x hx
    obtain ⟨i, hi⟩ := List.mem_iff_getElem?.1 hx
    rw [List.getElem?_take] at hi
    split at hi
    · exact (posK_lt h hi).1 (by assumption)
    · cases hi
  have hr : ∀ x ∈ ks.drop (posK ks k), ltL k x := by
    intro x hx
    obtain ⟨i, hi⟩ := List.mem_iff_getElem?.1 hx
    rw [List.getElem?_drop] at hi
    refine ltL_of_not (fun hh => ?_) (fun hh => hk (hh ▸ List.mem_of_getElem? hi))
    have := (posK_lt h hi).2 hh
    omega
  unfold Asc insAt
  rw [List.append_assoc]
  refine List.pairwise_append.2 ⟨List.Pairwise.sublist (List.take_sublist _ _) h, List.pairwise_cons.2 ⟨hr, List.Pairwise.sublist (List.drop_sublist _ _) h⟩, ?_⟩
  intro a ha b hb
  rcases List.mem_cons.1 hb with rfl | hb
  · exact hl a ha
  · exact ltL_trans (hl a ha) (hr b hb)

def zero32 : List Int := List.replicate 32 0
end Go.Proofs.YtkifkdkjljcclaaGreat

namespace Go.Proofs.YtkifkdkjljcclaaGreat
open Go.Sx Go.RowKit

def blobAt (B : List PB) (k : List Int) : PB := B.getD (posK (keysOf B) k) ⟨0, []⟩
structure MetOk (B : List PB) (x : List Int) (s : List (List Int) × List Nat) : Prop where
  nodup : s.1.Nodup
  inB : ∀ k ∈ s.1, k ∈ keysOf B
  len : s.1.length = s.2.length
  first : s.1[0]? = some x
  par : ∀ j p, 0 < j → s.2[j]? = some p → p < j
end Go.Proofs.YtkifkdkjljcclaaGreat

namespace Go.Proofs.YtkifkdkjljcclaaGreat
open Go.Sx Go.RowKit

theorem c_l01Has {w : World} {s : Sl} {ks : List (List Int)} {k : List Int} (hs : KsR w s ks) (hk : keyOk k) (hmax : ks.length ≤ 1073741824) : Ret Tryz.prog n_spec_l01Has [.slice s.a s.n s.c, .agg (u8s k).toArray] w [.bool] (fun r _ => r = decide (k ∈ ks)) := spec_l01Has_calls _ _ (by
  unfold spec_l01Has
  have hn := hs.n
  refine r_new (At.refl w) fun b3 w1 h => ?_
  refine r_loop (σ := Int) (fun i w' => ∃ j : Nat, i = j ∧ j ≤ ks.length ∧ k ∉ ks.take j ∧ At w w' [(b3, (u8s k).toArray, ty_impl_Key)]) (fun i _ => (s.n - i).toNat) 0 rfl ⟨0, rfl, by omega, by simp, h⟩ ?_
  rintro i w2 ⟨j, rfl, hj, hnot, h⟩
  refine r_any fun _ => ?_
  refine r_if ((j : Int) < (s.n : Int)) rfl (fun hlt => ?_) (fun hge => ?_)
  · refine r_draw h fun w3 h => ?_
    obtain ⟨x, q, hx, hxm, hq, hxo, hxl⟩ := (hs.at h).get (i := j) (by omega)
    refine r_ix q hq (by omega) (by omega) ?_
    refine r_ldN (u8s x).toArray (by simp only [Int.toNat_natCast]; exact hxl) ?_
    refine r_ldA h 0 rfl rfl (by simp [hk.1]) ?_
    refine r_pur _ (fun w' => run_eql_key _ _ hxo.1 hk.1 w') ?_
    by_cases he : x = k
    · subst he
      refine r_true (decide_eq_true rfl) ?_
      exact r_ret h.nil true rfl (decide_eq_true hxm).symm
    · refine r_false (decide_eq_false he) ?_
      refine ⟨((j + 1 : Nat) : Int), by rw [w64 (by omega) (by omega)]; rfl, ⟨j + 1, rfl, by omega, ?_, h⟩, by omega⟩
      rw [take_succ_get hx, List.mem_append, List.mem_singleton]
      rintro (hh | hh)
      · exact hnot hh
      · exact he hh.symm
  · have : j = ks.length := by omega
    subst this
    rw [List.take_of_length_le (Nat.le_refl _)] at hnot
    exact r_ret h.nil false rfl (decide_eq_false hnot).symm)

end Go.Proofs.YtkifkdkjljcclaaGreat

namespace Go.Proofs.YtkifkdkjljcclaaGreat
open Go.Sx Go.RowKit

end Go.Proofs.YtkifkdkjljcclaaGreat

namespace Go.Proofs.YtkifkdkjljcclaaGreat
open Go.Sx Go.RowKit

theorem lookup_none {m : List (List Int × Value)} {k : List Int} (h : k ∉ m.map (·.1)) : m.lookup k = none := by
  induction m with
  | nil => rfl
  | cons p m ih =>
    obtain ⟨a, v⟩ := p
    simp only [List.map_cons, List.mem_cons, not_or] at h
    have hb : (k == a) = false := beq_eq_false_iff_ne.2 h.1
    show (match (k == a) with | true => some v | false => m.lookup k) = none
    rw [hb]
    exact ih h.2
end Go.Proofs.YtkifkdkjljcclaaGreat

namespace Go.Proofs.YtkifkdkjljcclaaGreat
open Go.Sx Go.RowKit

theorem nodup_le {α : Type} [DecidableEq α] : ∀ {s t : List α}, s.Nodup → (∀ x ∈ s, x ∈ t) → s.length ≤ t.length
  | [], t, _, _ => Nat.zero_le _
  | x :: s, t, hn, hs => by
    rw [List.nodup_cons] at hn
    have hx : x ∈ t := hs x (by simp)
    have ih := nodup_le (s := s) (t := t.erase x) hn.2 fun y hy => (List.mem_erase_of_ne (fun e : y = x => hn.1 (by rw [← e]; exact hy))).2 (hs y (by simp [hy]))
    rw [List.length_erase_of_mem hx] at ih
    have : 0 < t.length := List.length_pos_of_mem hx
    rw [List.length_cons]
    omega

theorem MetOk.le {B : List PB} {x : List Int} {s : List (List Int) × List Nat} (h : MetOk B x s) : s.1.length ≤ B.length := by
  have := nodup_le h.nodup h.inB
  rwa [keysOf_len] at this
end Go.Proofs.YtkifkdkjljcclaaGreat

namespace Go.Proofs.YtkifkdkjljcclaaGreat
open Go.Sx Go.RowKit

def nmOf (d : List Int) : ByteArray := strOf (nodeName d)
def lowBad (lo : Option ByteArray) (nm : ByteArray) : Bool := match lo with
  | none => false
  | some s => Op.bytesLess nm.toList s.toList || nm.toList == s.toList
def highBad (hi : Option ByteArray) (nm : ByteArray) : Bool := match hi with
  | none => false
  | some s => !Op.bytesLess nm.toList s.toList
def nodeGood (b : PB) : Prop := b.tag = 5 ∧ nodeOk b.data
instance (b : PB) : Decidable (nodeGood b) := inferInstanceAs (Decidable (b.tag = 5 ∧ nodeOk b.data))
def nodeFits (b : PB) (many : Nat) (loose : Bool) (lo hi : Option ByteArray) : Prop := nodeGood b ∧ many < 64 ∧ (loose = true ∨ (lowBad lo (nmOf b.data) = false ∧ highBad hi (nmOf b.data) = false))
end Go.Proofs.YtkifkdkjljcclaaGreat
