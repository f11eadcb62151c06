/- The bytes of strings and of the nodes of maps (program). Printed in part by a program of this claim's author (d0.py). The tree over keys: its key, and the blobs of its nodes. -/
import Derived.Laws.IdiomStrings
import Derived.Test.YtkifkdkjljcclaaGreatPkLAnc20
import Derived.Test.YtkifkdkjljcclaaGreatPkLAnc21
import Derived.Test.YtkifkdkjljcclaaGreatPkLAnc19
import Derived.Test.YtkifkdkjljcclaaGreatPkLAnc18
import Derived.Test.YtkifkdkjljcclaaGreatPkLAnc17
namespace Go.Proofs.YtkifkdkjljcclaaGreat
open Go.Sx Go.RowKit

def strL (s : ByteArray) : List Int := s.data.toList.map fun b => (b.toNat : Int)
theorem strL_len (s : ByteArray) : (strL s).length = s.size := by simp [strL]
theorem strL_ok (s : ByteArray) : bytesOk (strL s) := fun x hx => by
  obtain ⟨b, _, rfl⟩ := List.mem_map.1 hx
  have := b.toNat_lt
  omega
theorem r_cvB {P : Program} {R : Value → World → Prop} {w : World} {src dst e : TypeId} {s : ByteArray} (hs : P.underlying src = some .string) (hd : P.underlying dst = some (.slice e)) (he : P.underlying e = some (.int .u8)) {k : Sl → World → Prop}
    (h : ∀ y w', Below w.heap.size w w' → SlAt w' y 1 (u8s (strL s)) → y.n = s.size → k y w') : ((real P R).sem (convert src dst (.string s)) .slice k : World → Prop) w := by
  refine ⟨⟨some ⟨w.heap.size, 0, none⟩, s.size, grownCap w s.size 0 e⟩, _, run_bytes_of_string w src dst e s hs hd he, h _ _ ((drew_below w).trans ((below_alloc w.drew _).mono (Nat.le_refl _))) ⟨by simp [strL_len], fun j v hv => ⟨_, rfl, ?_⟩⟩ rfl⟩
  rw [add_lit, Nat.zero_add]
  have hj : j < s.data.size := by
    have := (List.getElem?_eq_some_iff.1 hv).1
    rw [u8s_len, strL_len] at this
    exact this
  have h1 := bytesRow_at s (grownCap w s.size 0 e) j hj
  have h2 : (w.drew.alloc (.cells (bytesRow s (grownCap w s.size 0 e)) e ((bytesRow s (grownCap w s.size 0 e)).size, (bytesRow s (grownCap w s.size 0 e)).size + 1))).cell? ⟨w.drew.heap.size, j, none⟩ = _ := World.cell?_alloc_mark _ _ _ _ _
  rw [h1] at h2
  refine h2.trans ?_
  rw [← hv]
  unfold u8s strL
  rw [List.map_map, List.getElem?_map, List.getElem?_eq_getElem (by simpa using hj)]
  simp
theorem r_bs1B {P : Program} {R : Value → World → Prop} {w : World} {t e z by_ : Nat} (hT : SlT P t e z by_) {v : Value} (hv : v.cells.size = z) (hz : z ≤ 16777216) {k : Sl → World → Prop} (h : ∀ s w', Below w.heap.size w w' → SlAt w' s z v.cells.toList → s.n = 1 → k s w') :
    ((real P R).sem (Instr.buildSlice t 1 #[(0, v)]) .slice k : World → Prop) w :=
  r_bs1 hT (At.refl w) hv hz fun s w' hS hn => h s w' hS.at_.below hS.sl hn
theorem run_bs5 {P : Program} {t e by_ : Nat} (hT : SlT P t e 1 by_) (a b c d f : Sl) (w : World) :
    (Instr.buildSlice t 5 #[(0, .slice a.a a.n a.c), (1, .slice b.a b.n b.c), (2, .slice c.a c.n c.c), (3, .slice d.a d.n d.c), (4, .slice f.a f.n f.c)]).run P w = .ok (.slice (some ⟨w.heap.size, 0, none⟩) 5 5) (w.alloc (.cells #[.slice a.a a.n a.c, .slice b.a b.n b.c, .slice c.a c.n c.c, .slice d.a d.n d.c, .slice f.a f.n f.c] e)) := by
  obtain ⟨i, zv, hi, hzv, hsz, hby, hzs⟩ := hT.ex
  have hf : ∀ cs : Array Value, cs.size = 5 * 1 → Instr.fill (fun i => some (i * 1, 1)) cs [(0, .slice a.a a.n a.c), (1, .slice b.a b.n b.c), (2, .slice c.a c.n c.c), (3, .slice d.a d.n d.c), (4, .slice f.a f.n f.c)] = some #[.slice a.a a.n a.c, .slice b.a b.n b.c, .slice c.a c.n c.c, .slice d.a d.n d.c, .slice f.a f.n f.c] := by
    intro cs hcs
    obtain ⟨l⟩ := cs
    match l, hcs with
    | [_, _, _, _, _], _ => rfl
  simp [Instr.buildSlice, run_underlying hT.ut, sizeOf, typeInfo, hi, hsz, zeroValue, hzv, newRow]
  simp only [Nat.mul_one] at hf
  rw [hf _ (by simp [hzs])]
  simp
theorem r_bs5B {P : Program} {R : Value → World → Prop} {w : World} {t e by_ : Nat} (hT : SlT P t e 1 by_) (a b c d f : Sl) {k : Sl → World → Prop} (h : ∀ s w', Below w.heap.size w w' → SlAt w' s 1 [.slice a.a a.n a.c, .slice b.a b.n b.c, .slice c.a c.n c.c, .slice d.a d.n d.c, .slice f.a f.n f.c] → s.n = 5 → k s w') :
    ((real P R).sem (Instr.buildSlice t 5 #[(0, .slice a.a a.n a.c), (1, .slice b.a b.n b.c), (2, .slice c.a c.n c.c), (3, .slice d.a d.n d.c), (4, .slice f.a f.n f.c)]) .slice k : World → Prop) w := by
  have hS := SlO.made (w0 := w) (At.refl w) (below_alloc w _) (heap_alloc_self w (.cells #[.slice a.a a.n a.c, .slice b.a b.n b.c, .slice c.a c.n c.c, .slice d.a d.n d.c, .slice f.a f.n f.c] e)) (Nat.le_refl _) (xs := [.slice a.a a.n a.c, .slice b.a b.n b.c, .slice c.a c.n c.c, .slice d.a d.n d.c, .slice f.a f.n f.c]) (z := 1) (n := 5) (c := 5) rfl (Nat.le_refl _) (by decide) rfl rfl
  exact ⟨⟨some ⟨w.heap.size, 0, none⟩, 5, 5⟩, _, run_bs5 hT a b c d f w, h _ _ hS.at_.below hS.sl rfl⟩

theorem flat_take {rs : List SR} {j : Nat} {r : SR} (h : rs[j]? = some r) : (rs.take (j + 1)).flatMap SR.data = (rs.take j).flatMap SR.data ++ r.data := by rw [take_succ_get h, List.flatMap_append]; simp
theorem flat_take_le (rs : List SR) (j : Nat) : ((rs.take j).flatMap SR.data).length ≤ (rs.flatMap SR.data).length := by
  conv => rhs; rw [← List.take_append_drop j rs, List.flatMap_append, List.length_append]
  omega
theorem c_ConcatN {w : World} {x : Sl} {rs : List SR} (hx : SlAt w x 1 (rs.flatMap SR.cells)) (hr : ∀ r ∈ rs, SlAt w r.d 1 (u8s r.data)) (hn : rs.length ≤ 1000) (hm : (rs.flatMap SR.data).length ≤ 1000000) :
    Ret Tryz.prog n_slices_Concat_sl_byte_byte [.slice x.a x.n x.c] w [.slice] (fun s w' => SlO w w' [] ty_uint8 1 s (u8s (rs.flatMap SR.data)) ∧ s.n = (rs.flatMap SR.data).length) := slices_Concat_sl_byte_byte_calls x (by
  unfold slices_Concat_sl_byte_byte
  have hxn : x.n = rs.length := by have := hx.len; rw [flatMap_length (fun b _ => scells_len b)] at this; omega
  have cell : ∀ {j : Nat} {r : SR}, rs[j]? = some r → ∃ p, x.a = some p ∧ ldOk w 1 (p.add (j * 1)) .slice r.d := fun {j r} h => by
    obtain ⟨p, hp, hc⟩ := hx.cell (j * 1 + 0) _ (flatMap_get (fun b _ => scells_len b) h (show r.cells[0]? = some (.slice r.d.a r.d.n r.d.c) from rfl))
    exact ⟨p, hp, hc⟩
  refine r_loop (σ := Int × Int) (fun i w' => ∃ k : Nat, i = ((((rs.take k).flatMap SR.data).length : Int), (k : Int)) ∧ k ≤ rs.length ∧ At w w' []) (fun i _ => (x.n - i.2).toNat) (0, 0) rfl ⟨0, rfl, by omega, At.refl w⟩ ?_
  rintro i w1 ⟨k, rfl, hk, h⟩
  refine r_any fun _ => ?_
  dsimp only
  refine r_if ((k : Int) < (x.n : Int)) rfl (fun hlt => ?_) (fun hge => ?_)
  · have hk' : rs[k]? = some rs[k] := List.getElem?_eq_getElem (by omega)
    obtain ⟨p, hp, hc⟩ := cell hk'
    have hrn := sl_len (hr rs[k] (List.getElem_mem _))
    have hft := congrArg List.length (flat_take hk')
    rw [List.length_append] at hft
    have hle := flat_take_le rs (k + 1)
    refine r_ix p hp (by omega) (by omega) ?_
    refine r_ldN (rs[k]).d (by simp only [Int.toNat_natCast]; exact ldOk_below h.below hc) ?_
    rw [w64 (n := (((rs.take k).flatMap SR.data).length : Int) + _) (by omega) (by omega)]
    refine r_if ((((rs.take k).flatMap SR.data).length : Int) + ((rs[k]).d.n : Int) < 0) rfl (fun hneg => by omega) (fun _ => ?_)
    refine ⟨((((rs.take (k + 1)).flatMap SR.data).length : Int), ((k + 1 : Nat) : Int)), ?_, ⟨k + 1, rfl, by omega, h⟩, by dsimp only; omega⟩
    rw [w64 (n := (k : Int) + 1) (by omega) (by omega)]
    simp only [embL, Sh.emb]
    congr 2
    omega
  · have hkn : k = rs.length := by omega
    subst hkn
    rw [List.take_of_length_le (Nat.le_refl _)]
    refine r_callS h (c_Grow (rs.flatMap SR.data).length (by omega) w1) fun s w2 hs hsn => ?_
    refine r_loop (σ := Sl × Int) (fun i w' => ∃ k : Nat, i.2 = k ∧ k ≤ rs.length ∧ SlO w w' [] ty_uint8 1 i.1 (u8s ((rs.take k).flatMap SR.data)) ∧ i.1.n = ((rs.take k).flatMap SR.data).length) (fun i _ => (x.n - i.2).toNat) (s, 0) rfl
      ⟨0, rfl, by omega, by simpa [u8s] using hs, by simpa using hsn⟩ ?_
    rintro ⟨s1, i⟩ w3 ⟨k, hi, hk, h, hsn⟩
    dsimp only at hi h hsn
    subst hi
    refine r_any fun _ => ?_
    dsimp only
    refine r_if ((k : Int) < (x.n : Int)) rfl (fun hlt => ?_) (fun hge => ?_)
    · have hk' : rs[k]? = some rs[k] := List.getElem?_eq_getElem (by omega)
      obtain ⟨p, hp, hc⟩ := cell hk'
      have hrr := hr rs[k] (List.getElem_mem _)
      have hrn := sl_len hrr
      have hft := flat_take hk'
      have hfl := congrArg List.length hft
      rw [List.length_append] at hfl
      have hle := flat_take_le rs (k + 1)
      refine r_ix p hp (by omega) (by omega) ?_
      refine r_ldN (rs[k]).d (by simp only [Int.toNat_natCast]; exact ldOk_below h.at_.below hc) ?_
      refine r_append T_sl_uint8' h (hrr.at h.at_) u8s_one (by omega) (by omega) fun s2 w4 h4 hn4 => ?_
      exact ⟨(s2, ((k + 1 : Nat) : Int)), by rw [w64 (by omega) (by omega)]; rfl, ⟨k + 1, rfl, by omega, by rw [hft, u8s_append]; exact h4, by dsimp only; omega⟩, by dsimp only; omega⟩
    · have hkn : k = rs.length := by omega
      subst hkn
      rw [List.take_of_length_le (Nat.le_refl _)] at h hsn
      exact r_ret h.at_ s1 rfl ⟨h, hsn⟩)

structure ND where
  l : List Int
  r : List Int
  e : PE
structure ND.ok (n : ND) : Prop where
  l : keyOk n.l
  r : keyOk n.r
  name : n.e.1.size ≤ 24
  value : n.e.2.size ≤ 64
def ndC (n : ND) : List Value := u8s n.l ++ (u8s n.r ++ entC n.e)
def ndB (n : ND) : List Int := n.l ++ (n.r ++ ([(n.e.1.size : Int)] ++ (strL n.e.1 ++ strL n.e.2)))
theorem ndC_len {n : ND} (h : n.ok) : (ndC n).length = 66 := by simp [ndC, h.l.1, h.r.1, entC]
theorem ndC_one (n : ND) : ∀ v ∈ ndC n, oneC v = true := by
  intro v hv
  simp only [ndC, List.mem_append] at hv
  rcases hv with h | h | h
  · exact u8s_one v h
  · exact u8s_one v h
  · exact entC_one _ v h
theorem ndB_len {n : ND} (h : n.ok) : (ndB n).length = 65 + n.e.1.size + n.e.2.size := by simp only [ndB, List.length_append, h.l.1, h.r.1, strL_len, List.length_cons, List.length_nil]; omega
theorem ndB_ok {n : ND} (h : n.ok) : bytesOk (ndB n) := by
  have hn := h.name
  refine h.l.2.append (h.r.2.append (bytesOk.append (fun b hb => ?_) ((strL_ok _).append (strL_ok _))))
  rw [List.mem_singleton.1 hb]
  omega
theorem ndC_left {n : ND} (h : n.ok) : ((ndC n).drop 0).take 32 = u8s n.l := by
  have e : (u8s n.l).length = 32 := by rw [u8s_len]; exact h.l.1
  unfold ndC
  rw [List.drop_zero, List.take_append_of_le_length (by omega), List.take_of_length_le (by omega)]
theorem ndC_right {n : ND} (h : n.ok) : ((ndC n).drop 32).take 32 = u8s n.r := by
  have e : (u8s n.l).length = 32 := by rw [u8s_len]; exact h.l.1
  have e2 : (u8s n.r).length = 32 := by rw [u8s_len]; exact h.r.1
  unfold ndC
  rw [List.drop_left' e, List.take_append_of_le_length (by omega), List.take_of_length_le (by omega)]
theorem ndC_name {n : ND} (h : n.ok) : (ndC n)[64]? = some (.string n.e.1) := by
  have e : (u8s n.l).length = 32 := by rw [u8s_len]; exact h.l.1
  have e2 : (u8s n.r).length = 32 := by rw [u8s_len]; exact h.r.1
  unfold ndC
  rw [List.getElem?_append_right (by omega), List.getElem?_append_right (by omega), e, e2]
  rfl
theorem ndC_value {n : ND} (h : n.ok) : (ndC n)[65]? = some (.string n.e.2) := by
  have e : (u8s n.l).length = 32 := by rw [u8s_len]; exact h.l.1
  have e2 : (u8s n.r).length = 32 := by rw [u8s_len]; exact h.r.1
  unfold ndC
  rw [List.getElem?_append_right (by omega), List.getElem?_append_right (by omega), e, e2]
  rfl

theorem c_ND_bytes {n : ND} (hn : n.ok) (w : World) : Ret Tryz.prog n_impl_MapNode_bytes [.agg (ndC n).toArray] w [.slice] (fun r w' => SlO w w' [] ty_uint8 1 r (u8s (ndB n)) ∧ r.n = (ndB n).length) := impl_MapNode_bytes_calls _ (by
  unfold impl_MapNode_bytes
  have hl := ndC_len hn
  have hnm := hn.name
  have hvl := hn.value
  refine r_new (At.refl w) fun b1 w1 h => ?_
  have h : At w w1 [(b1, (ndC n).toArray, ty_impl_MapNode)] := h
  refine r_draw h fun w2 h => ?_
  refine r_sl 0 32 rfl rfl (by omega) (by omega) ?_
  refine r_sl 0 32 rfl rfl (by omega) (by omega) ?_
  have q0 : ∀ {v : World}, Below w2.heap.size w2 v → ldOk v 1 (((Addr.mk b1 0 none).add 64).add 0) .str n.e.1 := fun hb => ldOk_below hb (by rw [Go.Deep.add_add]; exact ldOk_own (sh := .str) h 0 rfl 64 (by rw [List.getElem?_toArray]; exact ndC_name hn) (by simp [Sh.emb]))
  have q1 : ∀ {v : World}, Below w2.heap.size w2 v → ldOk v 1 (((Addr.mk b1 0 none).add 64).add 1) .str n.e.2 := fun hb => ldOk_below hb (by rw [Go.Deep.add_add]; exact ldOk_own (sh := .str) h 0 rfl 65 (by rw [List.getElem?_toArray]; exact ndC_value hn) (by simp [Sh.emb]))
  have s4 : SlAt w2 ⟨if 32 = 0 then some ((Addr.mk b1 0 none).add 0) else (some ((Addr.mk b1 0 none).add 0)).map (·.add (0 * 1)), 32 - 0, 32 - 0⟩ 1 (u8s n.l) := h.sl 0 (o := 0) rfl rfl (by simp [hn.l.1]) (by rw [u8s_len, hn.l.1]; exact ndC_left hn)
  have s6 : SlAt w2 ⟨if 32 = 0 then some ((Addr.mk b1 0 none).add 32) else (some ((Addr.mk b1 0 none).add 32)).map (·.add (0 * 1)), 32 - 0, 32 - 0⟩ 1 (u8s n.r) := h.sl 0 (o := 32) rfl rfl (by simp [hn.r.1]) (by rw [u8s_len, hn.r.1]; exact ndC_right hn)
  generalize (⟨if 32 = 0 then some ((Addr.mk b1 0 none).add 0) else (some ((Addr.mk b1 0 none).add 0)).map (·.add (0 * 1)), 32 - 0, 32 - 0⟩ : Sl) = y4 at s4 ⊢
  generalize (⟨if 32 = 0 then some ((Addr.mk b1 0 none).add 32) else (some ((Addr.mk b1 0 none).add 32)).map (·.add (0 * 1)), 32 - 0, 32 - 0⟩ : Sl) = y6 at s6 ⊢
  refine r_ldN (sh := .str) n.e.1 (q0 (Below.refl _ _)) ?_
  refine r_ldN (sh := .str) n.e.1 (q0 (Below.refl _ _)) ?_
  refine r_ldN (sh := .str) n.e.2 (q1 (Below.refl _ _)) ?_
  have hlen := ndB_len hn
  have wr : IntKind.wrap .u8 (n.e.1.size : Int) = (n.e.1.size : Int) := by rw [wrapu8]; omega
  rw [wr]
  have fin : ∀ {v : World} {y12 y16 y20 : Sl}, Below w2.heap.size w2 v → SlAt v y12 1 (u8s [(n.e.1.size : Int)]) → SlAt v y16 1 (u8s (strL n.e.1)) → SlAt v y20 1 (u8s (strL n.e.2)) →
      ((real Tryz.prog (RR w [.slice] (fun r w' => SlO w w' [] ty_uint8 1 r (u8s (ndB n)) ∧ r.n = (ndB n).length))).sem (Instr.buildSlice ty_sl_sl_uint8 5 #[(0, (.slice y4.a y4.n y4.c)), (1, (.slice y6.a y6.n y6.c)), (2, (.slice y12.a y12.n y12.c)), (3, (.slice y16.a y16.n y16.c)), (4, (.slice y20.a y20.n y20.c))]) .slice fun y21 =>
       (real Tryz.prog (RR w [.slice] (fun r w' => SlO w w' [] ty_uint8 1 r (u8s (ndB n)) ∧ r.n = (ndB n).length))).chk [⟨6, 1, (((Addr.mk b1 0 none).add 64).add 0), .str, n.e.1⟩] <|
       (real Tryz.prog (RR w [.slice] (fun r w' => SlO w w' [] ty_uint8 1 r (u8s (ndB n)) ∧ r.n = (ndB n).length))).call n_slices_Concat_sl_byte_byte [(.slice y21.a y21.n y21.c)] [.slice] fun r22 =>
       (real Tryz.prog (RR w [.slice] (fun r w' => SlO w w' [] ty_uint8 1 r (u8s (ndB n)) ∧ r.n = (ndB n).length))).chk [⟨6, 1, (((Addr.mk b1 0 none).add 64).add 0), .str, n.e.1⟩] <|
       (real Tryz.prog (RR w [.slice] (fun r w' => SlO w w' [] ty_uint8 1 r (u8s (ndB n)) ∧ r.n = (ndB n).length))).ret (.slice r22.a r22.n r22.c) : World → Prop) v := by
    intro v y12 y16 y20 hb s12 s16 s20
    refine r_bs5B T_sl_sl_uint8 y4 y6 y12 y16 y20 fun y21 v1 hb1 hs21 _ => ?_
    have hb' : Below w2.heap.size w2 v1 := hb.trans (hb1.mono hb.size)
    refine r_chk1 (q0 hb') ?_
    have hrs : ([⟨y4, n.l⟩, ⟨y6, n.r⟩, ⟨y12, [(n.e.1.size : Int)]⟩, ⟨y16, strL n.e.1⟩, ⟨y20, strL n.e.2⟩] : List SR).flatMap SR.data = ndB n := by simp [ndB]
    refine r_call (At.refl v1) (c_ConcatN (rs := [⟨y4, n.l⟩, ⟨y6, n.r⟩, ⟨y12, [(n.e.1.size : Int)]⟩, ⟨y16, strL n.e.1⟩, ⟨y20, strL n.e.2⟩]) (by simpa [SR.cells] using hs21) (fun r hr => ?_) (by simp) (by rw [hrs]; omega)) fun r22 v2 _ hb2 ⟨hS, hn22⟩ => ?_
    · simp only [List.mem_cons, List.not_mem_nil, or_false] at hr
      rcases hr with rfl | rfl | rfl | rfl | rfl
      · exact s4.below hb'
      · exact s6.below hb'
      · exact s12.below hb1
      · exact s16.below hb1
      · exact s20.below hb1
    rw [hrs] at hS hn22
    refine r_chk1 (q0 (hb'.trans (hb2.mono hb'.size))) ?_
    have hA1 : At w v1 [] := ⟨h.below.trans (hb'.mono h.size), by simp, by simp, by simp⟩
    have hS' := SlO.lift hA1 hS
    exact r_ret hS'.at_ r22 rfl ⟨hS', hn22⟩
  clear h
  refine r_all3 ?_ ?_ ?_
  · refine r_bs1B T_sl_uint8' rfl (by omega) fun y12 va hbva s12 _ => ?_
    have s12 : SlAt va y12 1 (u8s [(n.e.1.size : Int)]) := s12
    have hB : Below w2.heap.size w2 va := hbva
    (first | refine r_chk3 (q1 hB) (q0 hB) (q0 hB) ?_ | refine r_chk2 (q1 hB) (q0 hB) ?_ | refine r_chk2 (q0 hB) (q0 hB) ?_ | refine r_chk1 (q0 hB) ?_)
    refine r_all2 ?_ ?_
    · refine r_cvB (src := ty_string) (dst := ty_sl_uint8) (e := ty_uint8) (by kernel_rfl) (by kernel_rfl) (by kernel_rfl) fun y16 vb hbvb s16 _ => ?_
      have s12 := s12.below hbvb
      have hB : Below w2.heap.size w2 vb := hB.trans (hbvb.mono hB.size)
      (first | refine r_chk3 (q1 hB) (q0 hB) (q0 hB) ?_ | refine r_chk2 (q1 hB) (q0 hB) ?_ | refine r_chk2 (q0 hB) (q0 hB) ?_ | refine r_chk1 (q0 hB) ?_)
      refine r_cvB (src := ty_string) (dst := ty_sl_uint8) (e := ty_uint8) (by kernel_rfl) (by kernel_rfl) (by kernel_rfl) fun y20 vc hbvc s20 _ => ?_
      have s12 := s12.below hbvc
      have s16 := s16.below hbvc
      have hB : Below w2.heap.size w2 vc := hB.trans (hbvc.mono hB.size)
      (first | refine r_chk3 (q1 hB) (q0 hB) (q0 hB) ?_ | refine r_chk2 (q1 hB) (q0 hB) ?_ | refine r_chk2 (q0 hB) (q0 hB) ?_ | refine r_chk1 (q0 hB) ?_)
      exact fin hB s12 s16 s20
    · refine r_cvB (src := ty_string) (dst := ty_sl_uint8) (e := ty_uint8) (by kernel_rfl) (by kernel_rfl) (by kernel_rfl) fun y20 vb hbvb s20 _ => ?_
      have s12 := s12.below hbvb
      have hB : Below w2.heap.size w2 vb := hB.trans (hbvb.mono hB.size)
      (first | refine r_chk3 (q1 hB) (q0 hB) (q0 hB) ?_ | refine r_chk2 (q1 hB) (q0 hB) ?_ | refine r_chk2 (q0 hB) (q0 hB) ?_ | refine r_chk1 (q0 hB) ?_)
      refine r_cvB (src := ty_string) (dst := ty_sl_uint8) (e := ty_uint8) (by kernel_rfl) (by kernel_rfl) (by kernel_rfl) fun y16 vc hbvc s16 _ => ?_
      have s12 := s12.below hbvc
      have s20 := s20.below hbvc
      have hB : Below w2.heap.size w2 vc := hB.trans (hbvc.mono hB.size)
      (first | refine r_chk3 (q1 hB) (q0 hB) (q0 hB) ?_ | refine r_chk2 (q1 hB) (q0 hB) ?_ | refine r_chk2 (q0 hB) (q0 hB) ?_ | refine r_chk1 (q0 hB) ?_)
      exact fin hB s12 s16 s20
  · refine r_cvB (src := ty_string) (dst := ty_sl_uint8) (e := ty_uint8) (by kernel_rfl) (by kernel_rfl) (by kernel_rfl) fun y16 va hbva s16 _ => ?_
    have hB : Below w2.heap.size w2 va := hbva
    (first | refine r_chk3 (q1 hB) (q0 hB) (q0 hB) ?_ | refine r_chk2 (q1 hB) (q0 hB) ?_ | refine r_chk2 (q0 hB) (q0 hB) ?_ | refine r_chk1 (q0 hB) ?_)
    refine r_all2 ?_ ?_
    · refine r_bs1B T_sl_uint8' rfl (by omega) fun y12 vb hbvb s12 _ => ?_
      have s12 : SlAt vb y12 1 (u8s [(n.e.1.size : Int)]) := s12
      have s16 := s16.below hbvb
      have hB : Below w2.heap.size w2 vb := hB.trans (hbvb.mono hB.size)
      (first | refine r_chk3 (q1 hB) (q0 hB) (q0 hB) ?_ | refine r_chk2 (q1 hB) (q0 hB) ?_ | refine r_chk2 (q0 hB) (q0 hB) ?_ | refine r_chk1 (q0 hB) ?_)
      refine r_cvB (src := ty_string) (dst := ty_sl_uint8) (e := ty_uint8) (by kernel_rfl) (by kernel_rfl) (by kernel_rfl) fun y20 vc hbvc s20 _ => ?_
      have s16 := s16.below hbvc
      have s12 := s12.below hbvc
      have hB : Below w2.heap.size w2 vc := hB.trans (hbvc.mono hB.size)
      (first | refine r_chk3 (q1 hB) (q0 hB) (q0 hB) ?_ | refine r_chk2 (q1 hB) (q0 hB) ?_ | refine r_chk2 (q0 hB) (q0 hB) ?_ | refine r_chk1 (q0 hB) ?_)
      exact fin hB s12 s16 s20
    · refine r_cvB (src := ty_string) (dst := ty_sl_uint8) (e := ty_uint8) (by kernel_rfl) (by kernel_rfl) (by kernel_rfl) fun y20 vb hbvb s20 _ => ?_
      have s16 := s16.below hbvb
      have hB : Below w2.heap.size w2 vb := hB.trans (hbvb.mono hB.size)
      (first | refine r_chk3 (q1 hB) (q0 hB) (q0 hB) ?_ | refine r_chk2 (q1 hB) (q0 hB) ?_ | refine r_chk2 (q0 hB) (q0 hB) ?_ | refine r_chk1 (q0 hB) ?_)
      refine r_bs1B T_sl_uint8' rfl (by omega) fun y12 vc hbvc s12 _ => ?_
      have s12 : SlAt vc y12 1 (u8s [(n.e.1.size : Int)]) := s12
      have s16 := s16.below hbvc
      have s20 := s20.below hbvc
      have hB : Below w2.heap.size w2 vc := hB.trans (hbvc.mono hB.size)
      (first | refine r_chk3 (q1 hB) (q0 hB) (q0 hB) ?_ | refine r_chk2 (q1 hB) (q0 hB) ?_ | refine r_chk2 (q0 hB) (q0 hB) ?_ | refine r_chk1 (q0 hB) ?_)
      exact fin hB s12 s16 s20
  · refine r_cvB (src := ty_string) (dst := ty_sl_uint8) (e := ty_uint8) (by kernel_rfl) (by kernel_rfl) (by kernel_rfl) fun y20 va hbva s20 _ => ?_
    have hB : Below w2.heap.size w2 va := hbva
    (first | refine r_chk3 (q1 hB) (q0 hB) (q0 hB) ?_ | refine r_chk2 (q1 hB) (q0 hB) ?_ | refine r_chk2 (q0 hB) (q0 hB) ?_ | refine r_chk1 (q0 hB) ?_)
    refine r_all2 ?_ ?_
    · refine r_bs1B T_sl_uint8' rfl (by omega) fun y12 vb hbvb s12 _ => ?_
      have s12 : SlAt vb y12 1 (u8s [(n.e.1.size : Int)]) := s12
      have s20 := s20.below hbvb
      have hB : Below w2.heap.size w2 vb := hB.trans (hbvb.mono hB.size)
      (first | refine r_chk3 (q1 hB) (q0 hB) (q0 hB) ?_ | refine r_chk2 (q1 hB) (q0 hB) ?_ | refine r_chk2 (q0 hB) (q0 hB) ?_ | refine r_chk1 (q0 hB) ?_)
      refine r_cvB (src := ty_string) (dst := ty_sl_uint8) (e := ty_uint8) (by kernel_rfl) (by kernel_rfl) (by kernel_rfl) fun y16 vc hbvc s16 _ => ?_
      have s20 := s20.below hbvc
      have s12 := s12.below hbvc
      have hB : Below w2.heap.size w2 vc := hB.trans (hbvc.mono hB.size)
      (first | refine r_chk3 (q1 hB) (q0 hB) (q0 hB) ?_ | refine r_chk2 (q1 hB) (q0 hB) ?_ | refine r_chk2 (q0 hB) (q0 hB) ?_ | refine r_chk1 (q0 hB) ?_)
      exact fin hB s12 s16 s20
    · refine r_cvB (src := ty_string) (dst := ty_sl_uint8) (e := ty_uint8) (by kernel_rfl) (by kernel_rfl) (by kernel_rfl) fun y16 vb hbvb s16 _ => ?_
      have s20 := s20.below hbvb
      have hB : Below w2.heap.size w2 vb := hB.trans (hbvb.mono hB.size)
      (first | refine r_chk3 (q1 hB) (q0 hB) (q0 hB) ?_ | refine r_chk2 (q1 hB) (q0 hB) ?_ | refine r_chk2 (q0 hB) (q0 hB) ?_ | refine r_chk1 (q0 hB) ?_)
      refine r_bs1B T_sl_uint8' rfl (by omega) fun y12 vc hbvc s12 _ => ?_
      have s12 : SlAt vc y12 1 (u8s [(n.e.1.size : Int)]) := s12
      have s20 := s20.below hbvc
      have s16 := s16.below hbvc
      have hB : Below w2.heap.size w2 vc := hB.trans (hbvc.mono hB.size)
      (first | refine r_chk3 (q1 hB) (q0 hB) (q0 hB) ?_ | refine r_chk2 (q1 hB) (q0 hB) ?_ | refine r_chk2 (q0 hB) (q0 hB) ?_ | refine r_chk1 (q0 hB) ?_)
      exact fin hB s12 s16 s20)

theorem c_ND_key {n : ND} (hn : n.ok) (w : World) : Ret Tryz.prog n_impl_MapNode_key [.agg (ndC n).toArray] w [.agg] (fun r _ => r = (u8s (hashL 5 (ndB n))).toArray) := impl_MapNode_key_calls _ (by
  unfold impl_MapNode_key
  have hl := ndC_len hn
  have hlen := ndB_len hn
  have hnm := hn.name
  have hvl := hn.value
  refine r_new (At.refl w) fun b1 w1 h => ?_
  refine r_new h fun b2 w2 h => ?_
  have h : At w w2 [(b2, Array.replicate 32 (.int .u8 0), ty_impl_Key), (b1, (ndC n).toArray, ty_impl_MapNode)] := h
  refine r_ldA h 1 rfl rfl (by simpa using hl) ?_
  refine r_call h (c_ND_bytes hn _) fun r4 w3 h3 _ ⟨hS, _⟩ => ?_
  have hS := SlO.lift h hS
  refine r_call hS.at_ (c_hash 5 hS.sl (ndB_ok hn) (by omega)) fun r5 w4 h _ hr => ?_
  subst hr
  refine r_stA h 0 rfl rfl (by simp [hashL_len]) (by simp) (by simpa using u8s_one) fun w5 h => ?_
  refine r_ldA h 0 rfl rfl (by simp [hashL_len]) ?_
  exact r_ret h _ rfl rfl)
end Go.Proofs.YtkifkdkjljcclaaGreat

namespace Go.Proofs.YtkifkdkjljcclaaGreat
open Go.Sx Go.RowKit

theorem KsR.sub {w : World} {s : Sl} {ks : List (List Int)} (h : KsR w s ks) (l k : Nat) (h1 : l ≤ k) (h2 : k ≤ s.n) : KsR w ⟨if s.c = l then s.a else s.a.map (·.add (l * 32)), k - l, s.c - l⟩ ((ks.drop l).take (k - l)) := ⟨h.of.sub l k h1 h2, fun x hx => h.ok x (List.mem_of_mem_drop (List.mem_of_mem_take hx))⟩

end Go.Proofs.YtkifkdkjljcclaaGreat
