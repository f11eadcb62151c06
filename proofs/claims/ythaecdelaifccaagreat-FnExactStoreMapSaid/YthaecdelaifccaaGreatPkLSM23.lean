/- More kinds of values of which laws speak: raw blobs; keys compared. More kinds of values of which laws speak: slices of keys, slices of counts. Rules beside an own map. Printed in part (mp0.py). slices.Insert for keys and for blobs. Printed by a program of this claim's author (s1.py). -/
import Derived.WideKeyRuns
import Derived.Test.YthaecdelaifccaaGreatPkLSM22
import Derived.Test.YthaecdelaifccaaGreatPkLSM21
import Derived.Test.YthaecdelaifccaaGreatPkLSM15
namespace Go.Sx
end Go.Sx
namespace Go.Proofs.YthaecdelaifccaaGreat
open Go.Sx Go.RowKit

def RawBlob (w : World) (r : Array Value) (B : PB) : Prop := ∃ b : BR, r = b.cells.toArray ∧ b.pb = B ∧ b.Ok w ∧ b.d.c ≤ maxLen
theorem RawBlob.rd {w : World} {r : Array Value} {B : PB} (h : RawBlob w r B) : RdBlob w r B := let ⟨b, h1, h2, h3, _⟩ := h; ⟨b, h1, h2, h3⟩
theorem RawBlob.sz {w : World} {r : Array Value} {B : PB} (h : RawBlob w r B) : r.size = 2 := by obtain ⟨b, rfl, _⟩ := h; rfl
theorem RawBlob.one {w : World} {r : Array Value} {B : PB} (h : RawBlob w r B) : ∀ v ∈ r.toList, oneC v = true := by obtain ⟨b, rfl, _⟩ := h; simpa using cells_one b
theorem c_eqKey_same {a : List Int} (ha : a.length = 32) (w : World) : Ret Tryz.prog n_laws_eqKey [.agg (u8s a).toArray, .agg (u8s a).toArray] w [.bool] (fun r _ => r = true) := laws_eqKey_calls _ _ (by
  unfold laws_eqKey
  refine r_new (At.refl w) fun b1 w1 h => ?_
  refine r_new h fun b2 w2 h => ?_
  refine r_loop (σ := Int) (fun i w' => ∃ j : Nat, i = j ∧ j ≤ 32 ∧ At w w' [(b2, (u8s a).toArray, ty_impl_Key), (b1, (u8s a).toArray, ty_impl_Key)]) (fun i _ => (32 - i).toNat) 0 rfl ⟨0, rfl, by omega, h⟩ ?_
  rintro i w8 ⟨j, rfl, hj, h⟩
  refine r_any fun _ => ?_
  refine r_if ((j : Int) < 32) rfl (fun hlt => ?_) (fun hge => ?_)
  · refine r_draw h fun w3 h => ?_
    refine r_ix ⟨b1, 0, none⟩ rfl (by omega) (by omega) ?_
    refine r_ld h 1 rfl (add_lit _ _ _) (a.getD j 0) (by simp [Sh.emb]) (by simp only [Int.toNat_natCast, Nat.zero_add, Nat.mul_one]; exact u8s_arr (by omega)) ?_
    refine r_ix ⟨b2, 0, none⟩ rfl (by omega) (by omega) ?_
    refine r_ld h 0 rfl (add_lit _ _ _) (a.getD j 0) (by simp [Sh.emb]) (by simp only [Int.toNat_natCast, Nat.zero_add, Nat.mul_one]; exact u8s_arr (by omega)) ?_
    refine r_ne (fun hh => absurd rfl hh) fun _ => ?_
    exact ⟨((j + 1 : Nat) : Int), by rw [w64 (by omega) (by omega)]; rfl, ⟨j + 1, rfl, by omega, h⟩, by omega⟩
  · exact r_ret h _ rfl rfl)
theorem c_eqKeyV {w : World} {r r' : Array Value} {k : List Int} (h : RdKey w r k) (h' : RdKey w r' k) : Ret Tryz.prog n_laws_eqKey [.agg r, .agg r'] w [.bool] (fun x _ => x = true) := by
  obtain ⟨rfl, ha, _⟩ := h
  obtain ⟨rfl, _⟩ := h'
  exact c_eqKey_same ha w
end Go.Proofs.YthaecdelaifccaaGreat

namespace Go.Proofs.YthaecdelaifccaaGreat
open Go.Sx Go.RowKit

def RdKeyS (w : World) (s : Sl) (ks : List (List Int)) : Prop := KsR w s ks
theorem RdKeyS.at {w w' : World} {ls : List Blk} {s : Sl} {ks : List (List Int)} (h : RdKeyS w s ks) (hA : At w w' ls) : RdKeyS w' s ks := KsR.at h hA
def OwnKeyS (s : Sl) (ks : List (List Int)) (L : List Blk) : Prop := OwnS ty_impl_Key 32 s (ks.flatMap u8s) L ∧ ∀ k ∈ ks, keyOk k
theorem OwnKeyS.rd {w0 w : World} {s : Sl} {ks : List (List Int)} {L ls : List Blk} (h : OwnKeyS s ks L) (hA : At w0 w (L ++ ls)) : RdKeyS w s ks := ownS_ks h.1 hA (List.sublist_append_left _ _) h.2
def RawKeyS (w : World) (s : Sl) (ks : List (List Int)) : Prop := KsR w s ks ∧ s.n ≤ s.c ∧ s.c ≤ maxLen
theorem RawKeyS.rd {w : World} {s : Sl} {ks : List (List Int)} (h : RawKeyS w s ks) : RdKeyS w s ks := h.1
theorem OwnKeyS.none : OwnKeyS ⟨none, 0, 0⟩ [] [] := ⟨OwnS.nil _ _, by simp⟩
def i64s (l : List Int) : List Value := l.map (Value.int .i64)
theorem i64s_len (l : List Int) : (i64s l).length = l.length := by simp [i64s]
theorem i64s_get {l : List Int} {i : Nat} (h : i < l.length) : (i64s l)[i]? = some (.int .i64 (l.getD i 0)) := by simp [i64s, List.getD, h]
def RdInt64S (w : World) (s : Sl) (l : List Int) : Prop := SlAt w s 1 (i64s l)
theorem RdInt64S.n {w : World} {s : Sl} {l : List Int} (h : RdInt64S w s l) : s.n = l.length := by have := SlAt.len h; rw [i64s_len] at this; omega
theorem RdInt64S.at {w w' : World} {ls : List Blk} {s : Sl} {l : List Int} (h : RdInt64S w s l) (hA : At w w' ls) : RdInt64S w' s l := SlAt.below h hA.below
theorem RdInt64S.get {w : World} {s : Sl} {l : List Int} (h : RdInt64S w s l) {i : Nat} (hi : i < l.length) : ∃ p, s.a = some p ∧ w.cell? (p.add i) = some (.int .i64 (l.getD i 0)) := SlAt.cell h i _ (i64s_get hi)
def OwnInt64S (s : Sl) (l : List Int) (L : List Blk) : Prop := OwnS ty_int64 1 s (i64s l) L
theorem OwnInt64S.rd {w0 w : World} {s : Sl} {l : List Int} {L ls : List Blk} (h : OwnInt64S s l L) (hA : At w0 w (L ++ ls)) : RdInt64S w s l := OwnS.sl h hA (List.sublist_append_left _ _)
theorem OwnInt64S.none : OwnInt64S ⟨none, 0, 0⟩ [] [] := OwnS.nil _ _
end Go.Proofs.YthaecdelaifccaaGreat

namespace Go.Sx
open Go.RowKit (Below)
variable {P : Program} {R : Value → World → Prop} {w0 w : World} {ls : List Blk}

def arrK (k : List Int) : Value := .agg (k.map (Value.int .u8)).toArray
/-- The entries of a map. -/
def MapIs (o : Obj) (m : List (List Int × Value)) : Prop := ∃ es clk, o = .map es clk ∧ es.toList.map (fun e => (e.key, e.val)) = m.map fun p => (arrK p.1, p.2)
theorem MapIs.no {o : Obj} {m : List (List Int × Value)} (h : MapIs o m) : ∀ c e f, o ≠ .cells c e f := by obtain ⟨es, clk, rfl, _⟩ := h; intro c e f hh; cases hh
theorem MapIs.nil (c : Nat) : MapIs (.map #[] c) [] := ⟨#[], c, rfl, rfl⟩

end Go.Sx

namespace Go.Proofs.YthaecdelaifccaaGreat
open Go.Sx Go.RowKit

theorem ins1 {xs vs xs2 : List Value} {a z N : Nat} (hx : xs.length = N) (hv : vs.length = z) (h2 : xs2.length = N + z) (ha : a ≤ N) (ht : xs2.take a = xs.take a) :
    (xs2.take a ++ vs ++ xs2.drop (a + z)).take (a + z) ++ xs.drop a ++ (xs2.take a ++ vs ++ xs2.drop (a + z)).drop (a + z + (N - a)) = xs.take a ++ vs ++ xs.drop a := by
  rw [ht]
  have l1 : (xs.take a ++ vs).length = a + z := by rw [List.length_append, List.length_take]; omega
  have l2 : (xs.take a ++ vs ++ xs2.drop (a + z)).drop (a + z + (N - a)) = [] := List.drop_eq_nil_of_le (by rw [List.length_append, l1, List.length_drop]; omega)
  rw [l2, List.append_nil, List.take_append_of_le_length (by omega), List.take_of_length_le (l := xs.take a ++ vs) (by omega)]

theorem ins2 {ys vs : List Value} {a z N : Nat} (hv : vs.length = z) (hy : ys.length = N + z) (ha : a ≤ N) :
    (ys.take (a + z) ++ (ys.drop a).take (N - a) ++ ys.drop (a + z + (N - a))).take a ++ vs ++ (ys.take (a + z) ++ (ys.drop a).take (N - a) ++ ys.drop (a + z + (N - a))).drop (a + z) = (ys.take N).take a ++ vs ++ (ys.take N).drop a := by
  have l1 : (ys.take (a + z)).length = a + z := by rw [List.length_take]; omega
  have l2 : ys.drop (a + z + (N - a)) = [] := List.drop_eq_nil_of_le (by omega)
  rw [l2, List.append_nil, List.take_append_of_le_length (by omega), List.take_take, List.take_take, List.drop_take, List.drop_append, l1, List.drop_eq_nil_of_le (by omega), Nat.sub_self, List.drop_zero, List.nil_append, show min a (a + z) = min a N by omega]

theorem c_InsertKey {w0 w : World} {ls L Lv : List Blk} {s v : Sl} {xs vs : List Value} (hA : At w0 w (L ++ ls)) (hsub : Lv.Sublist ls) (hO : OwnS ty_impl_Key 32 s xs L) (hv : OwnS ty_impl_Key 32 v vs Lv) (hvn : v.n = 1) (i : Nat) (hi : i ≤ s.n) (hone : ∀ u ∈ xs, oneC u = true) (hvone : ∀ u ∈ vs, oneC u = true) (hmax : s.n ≤ 1000000) :
    Calls Tryz.prog n_slices_Insert_sl_impl_Key_impl_Key [.slice s.a s.n s.c, .int .i64 (i : Int), .slice v.a v.n v.c].toArray w fun e w' => ∃ x, e = .returned x ∧ ∃ (t : Sl) (L' : List Blk), x = .slice t.a t.n t.c ∧ At w0 w' (L' ++ ls) ∧ OwnS ty_impl_Key 32 t (xs.take (i * 32) ++ vs ++ xs.drop (i * 32)) L' ∧ t.n = s.n + 1 := slices_Insert_sl_impl_Key_impl_Key_calls _ _ _ (by
  unfold slices_Insert_sl_impl_Key_impl_Key
  have hcap := hO.cap
  have hxl : xs.length = s.n * 32 := hO.1
  have hvl : vs.length = 32 := by rw [hv.1, hvn]
  have subL : L.Sublist (L ++ ls) := List.sublist_append_left _ _
  have subV : ∀ M : List Blk, Lv.Sublist (M ++ ls) := fun M => hsub.trans (List.sublist_append_right _ _)
  have e1 : IntKind.wrap .i64 ((s.n : Int) + (v.n : Int)) = ((s.n + 1 : Nat) : Int) := by rw [w64 (by omega) (by omega)]; omega
  have e2 : IntKind.wrap .i64 (((s.n + 1 : Nat) : Int) - (i : Int)) = ((s.n + 1 - i : Nat) : Int) := by rw [w64 (by omega) (by omega)]; omega
  have e3 : IntKind.wrap .i64 ((i : Int) + (v.n : Int)) = ((i + 1 : Nat) : Int) := by rw [w64 (by omega) (by omega)]; omega
  rw [e1, e2, e3]
  refine r_slSuf i rfl rfl hi hcap fun y0 _ _ _ => ?_
  refine r_eq (fun hh => by omega) fun _ => ?_
  refine r_eq (fun heq => ?_) (fun hne => ?_)
  · have heq' : i = s.n := by omega
    refine r_append T_sl_Key (hO.slo hA) (hv.sl hA (subV L)) hvone (by omega) (by omega) fun s' w' hS hn => ?_
    obtain ⟨L', hO', hA'⟩ := hS.split
    refine r_retR ⟨s', L', rfl, hA', ?_, by omega⟩
    rw [heq', ← hxl, List.take_length, List.drop_length, List.append_nil]
    exact hO'
  refine r_if (((s.n + 1 : Nat) : Int) > (s.c : Int)) rfl (fun hgt => ?_) (fun hle => ?_)
  · refine r_slPre i rfl rfl (by omega) ?_
    refine r_appendMake (x := ⟨s.a, i, s.c⟩) T_sl_Key (by kernel_rfl) hA ((hO.shrink i hi).sl hA subL) (s.n + 1 - i) (by dsimp only; omega) (by dsimp only; omega) (by dsimp only; omega) fun s2 xs2 L2 w2 h2 hO2 hn2 htk2 => ?_
    dsimp only at hn2 htk2
    have hcap2 := hO2.cap
    refine r_slSuf i rfl rfl (by omega) hcap2 fun y43 hyn hyc hya => ?_
    refine r_copyO T_sl_Key h2 hO2 i (by omega) (fun h0 => hya (by omega)) (hv.sl h2 (((subV L)).trans (List.sublist_append_right _ _))) (by omega) hvone fun w3 L3 h3 hO3 => ?_
    refine r_draw h3 fun w4 h4 => ?_
    refine r_slSuf (i + 1) rfl rfl (by omega) hcap2 fun y50 hyn5 hyc5 hya5 => ?_
    refine r_sl i s.n rfl rfl hi hcap ?_
    have hsuf := (hO.sl h4 (subL.trans (List.sublist_append_right _ _))).slice (by omega) i s.n hi (Nat.le_refl _) hcap
    rw [List.take_of_length_le (l := xs.drop (i * 32)) (by rw [List.length_drop]; omega)] at hsuf
    refine r_copyO T_sl_Key h4 hO3 (i + 1) (by omega) (fun h0 => hya5 (by omega)) hsuf (by dsimp only; omega) (fun u hu => hone u (List.mem_of_mem_drop hu)) fun w5 L5 h5 hO5 => ?_
    refine r_retR ⟨s2, L5, rfl, h5.dr1, ?_, by omega⟩
    have hx2l : xs2.length = s.n * 32 + 32 := by rw [hO2.1, hn2]; omega
    have key := ins1 (a := i * 32) hxl hvl hx2l (by omega) htk2
    rw [hvl, List.length_drop, hxl, show (i + 1) * 32 = i * 32 + 32 by omega, key] at hO5
    exact hO5
  · have hle' : s.n + 1 ≤ s.c := by omega
    refine r_slPre (s.n + 1) rfl rfl hle' ?_
    obtain ⟨ys, hOg, htk⟩ := hO.grow (s.n + 1) (by omega) hle'
    have hyl : ys.length = s.n * 32 + 32 := by rw [hOg.1]; dsimp only; omega
    have hyone : ∀ u ∈ (ys.drop (i * 32)).take (s.n * 32 - i * 32), oneC u = true := fun u hu => by
      rw [← List.drop_take, htk] at hu
      exact hone u (List.mem_of_mem_drop hu)
    refine r_slSuf (i + 1) rfl rfl (by dsimp only; omega) (by dsimp only; omega) fun y66 hyn6 hyc6 hya6 => ?_
    dsimp only at hyn6 hya6
    refine r_overlaps (tr := ty_bool) (s := ⟨s.a, s.n + 1, s.c⟩) T_sl_Key Tryz.func104 (by kernel_rfl) (by kernel_rfl) (by kernel_rfl) (by kernel_rfl) hA hsub hOg hv (by dsimp only; omega) (by omega) (i + 1) (hya6 (by omega)) ?_
    refine r_true rfl ?_
    refine r_joinI ?_
    refine r_draw hA fun w2 h2 => ?_
    refine r_slSuf (i + 1) rfl rfl (by dsimp only; omega) (by dsimp only; omega) fun y73 hyn7 hyc7 hya7 => ?_
    dsimp only at hyn7 hya7
    refine r_sl i (s.n + 1) rfl rfl (by omega) hle' ?_
    have hsuf := (hOg.sl h2 subL).slice (by omega) i (s.n + 1) (by omega) (by dsimp only; omega) hle'
    rw [List.take_of_length_le (l := ys.drop (i * 32)) (by rw [List.length_drop]; omega)] at hsuf
    refine r_copyO2 T_sl_Key h2 hOg (i + 1) (by dsimp only; omega) (fun h0 => hya7 (by omega)) hsuf (by dsimp only; omega) (by rw [hyn7, show (s.n + 1 - (i + 1)) * 32 = s.n * 32 - i * 32 by omega]; exact hyone) fun w3 L3 h3 hO3 => ?_
    refine ⟨(), rfl, ?_⟩
    refine r_any fun _ => ?_
    refine r_slSuf i rfl rfl (by dsimp only; omega) (by dsimp only; omega) fun y80 hyn8 hyc8 hya8 => ?_
    dsimp only at hyn8 hya8
    refine r_copyO T_sl_Key h3 hO3 i (by dsimp only; omega) (fun h0 => hya8 (by omega)) (hv.sl h3 (subV L3)) (by omega) hvone fun w4 L4 h4 hO4 => ?_
    refine r_retR ⟨⟨s.a, s.n + 1, s.c⟩, L4, rfl, h4, ?_, rfl⟩
    have key := ins2 (ys := ys) (a := i * 32) (N := s.n * 32) hvl hyl (by omega)
    rw [hvl, hyn7, show (i + 1) * 32 = i * 32 + 32 by omega, show (s.n + 1 - (i + 1)) * 32 = s.n * 32 - i * 32 by omega, key, htk] at hO4
    exact hO4)

theorem c_InsertBlob {w0 w : World} {ls L Lv : List Blk} {s v : Sl} {xs vs : List Value} (hA : At w0 w (L ++ ls)) (hsub : Lv.Sublist ls) (hO : OwnS ty_impl_Blob 2 s xs L) (hv : OwnS ty_impl_Blob 2 v vs Lv) (hvn : v.n = 1) (i : Nat) (hi : i ≤ s.n) (hone : ∀ u ∈ xs, oneC u = true) (hvone : ∀ u ∈ vs, oneC u = true) (hmax : s.n ≤ 1000000) :
    Calls Tryz.prog n_slices_Insert_sl_impl_Blob_impl_Blob [.slice s.a s.n s.c, .int .i64 (i : Int), .slice v.a v.n v.c].toArray w fun e w' => ∃ x, e = .returned x ∧ ∃ (t : Sl) (L' : List Blk), x = .slice t.a t.n t.c ∧ At w0 w' (L' ++ ls) ∧ OwnS ty_impl_Blob 2 t (xs.take (i * 2) ++ vs ++ xs.drop (i * 2)) L' ∧ t.n = s.n + 1 := slices_Insert_sl_impl_Blob_impl_Blob_calls _ _ _ (by
  unfold slices_Insert_sl_impl_Blob_impl_Blob
  have hcap := hO.cap
  have hxl : xs.length = s.n * 2 := hO.1
  have hvl : vs.length = 2 := by rw [hv.1, hvn]
  have subL : L.Sublist (L ++ ls) := List.sublist_append_left _ _
  have subV : ∀ M : List Blk, Lv.Sublist (M ++ ls) := fun M => hsub.trans (List.sublist_append_right _ _)
  have e1 : IntKind.wrap .i64 ((s.n : Int) + (v.n : Int)) = ((s.n + 1 : Nat) : Int) := by rw [w64 (by omega) (by omega)]; omega
  have e2 : IntKind.wrap .i64 (((s.n + 1 : Nat) : Int) - (i : Int)) = ((s.n + 1 - i : Nat) : Int) := by rw [w64 (by omega) (by omega)]; omega
  have e3 : IntKind.wrap .i64 ((i : Int) + (v.n : Int)) = ((i + 1 : Nat) : Int) := by rw [w64 (by omega) (by omega)]; omega
  rw [e1, e2, e3]
  refine r_slSuf i rfl rfl hi hcap fun y0 _ _ _ => ?_
  refine r_eq (fun hh => by omega) fun _ => ?_
  refine r_eq (fun heq => ?_) (fun hne => ?_)
  · have heq' : i = s.n := by omega
    refine r_append T_sl_Blob (hO.slo hA) (hv.sl hA (subV L)) hvone (by omega) (by omega) fun s' w' hS hn => ?_
    obtain ⟨L', hO', hA'⟩ := hS.split
    refine r_retR ⟨s', L', rfl, hA', ?_, by omega⟩
    rw [heq', ← hxl, List.take_length, List.drop_length, List.append_nil]
    exact hO'
  refine r_if (((s.n + 1 : Nat) : Int) > (s.c : Int)) rfl (fun hgt => ?_) (fun hle => ?_)
  · refine r_slPre i rfl rfl (by omega) ?_
    refine r_appendMake (x := ⟨s.a, i, s.c⟩) T_sl_Blob (by kernel_rfl) hA ((hO.shrink i hi).sl hA subL) (s.n + 1 - i) (by dsimp only; omega) (by dsimp only; omega) (by dsimp only; omega) fun s2 xs2 L2 w2 h2 hO2 hn2 htk2 => ?_
    dsimp only at hn2 htk2
    have hcap2 := hO2.cap
    refine r_slSuf i rfl rfl (by omega) hcap2 fun y43 hyn hyc hya => ?_
    refine r_copyO T_sl_Blob h2 hO2 i (by omega) (fun h0 => hya (by omega)) (hv.sl h2 (((subV L)).trans (List.sublist_append_right _ _))) (by omega) hvone fun w3 L3 h3 hO3 => ?_
    refine r_draw h3 fun w4 h4 => ?_
    refine r_slSuf (i + 1) rfl rfl (by omega) hcap2 fun y50 hyn5 hyc5 hya5 => ?_
    refine r_sl i s.n rfl rfl hi hcap ?_
    have hsuf := (hO.sl h4 (subL.trans (List.sublist_append_right _ _))).slice (by omega) i s.n hi (Nat.le_refl _) hcap
    rw [List.take_of_length_le (l := xs.drop (i * 2)) (by rw [List.length_drop]; omega)] at hsuf
    refine r_copyO T_sl_Blob h4 hO3 (i + 1) (by omega) (fun h0 => hya5 (by omega)) hsuf (by dsimp only; omega) (fun u hu => hone u (List.mem_of_mem_drop hu)) fun w5 L5 h5 hO5 => ?_
    refine r_retR ⟨s2, L5, rfl, h5.dr1, ?_, by omega⟩
    have hx2l : xs2.length = s.n * 2 + 2 := by rw [hO2.1, hn2]; omega
    have key := ins1 (a := i * 2) hxl hvl hx2l (by omega) htk2
    rw [hvl, List.length_drop, hxl, show (i + 1) * 2 = i * 2 + 2 by omega, key] at hO5
    exact hO5
  · have hle' : s.n + 1 ≤ s.c := by omega
    refine r_slPre (s.n + 1) rfl rfl hle' ?_
    obtain ⟨ys, hOg, htk⟩ := hO.grow (s.n + 1) (by omega) hle'
    have hyl : ys.length = s.n * 2 + 2 := by rw [hOg.1]; dsimp only; omega
    have hyone : ∀ u ∈ (ys.drop (i * 2)).take (s.n * 2 - i * 2), oneC u = true := fun u hu => by
      rw [← List.drop_take, htk] at hu
      exact hone u (List.mem_of_mem_drop hu)
    refine r_slSuf (i + 1) rfl rfl (by dsimp only; omega) (by dsimp only; omega) fun y66 hyn6 hyc6 hya6 => ?_
    dsimp only at hyn6 hya6
    refine r_overlaps (tr := ty_bool) (s := ⟨s.a, s.n + 1, s.c⟩) T_sl_Blob Tryz.func106 (by kernel_rfl) (by kernel_rfl) (by kernel_rfl) (by kernel_rfl) hA hsub hOg hv (by dsimp only; omega) (by omega) (i + 1) (hya6 (by omega)) ?_
    refine r_true rfl ?_
    refine r_joinI ?_
    refine r_draw hA fun w2 h2 => ?_
    refine r_slSuf (i + 1) rfl rfl (by dsimp only; omega) (by dsimp only; omega) fun y73 hyn7 hyc7 hya7 => ?_
    dsimp only at hyn7 hya7
    refine r_sl i (s.n + 1) rfl rfl (by omega) hle' ?_
    have hsuf := (hOg.sl h2 subL).slice (by omega) i (s.n + 1) (by omega) (by dsimp only; omega) hle'
    rw [List.take_of_length_le (l := ys.drop (i * 2)) (by rw [List.length_drop]; omega)] at hsuf
    refine r_copyO2 T_sl_Blob h2 hOg (i + 1) (by dsimp only; omega) (fun h0 => hya7 (by omega)) hsuf (by dsimp only; omega) (by rw [hyn7, show (s.n + 1 - (i + 1)) * 2 = s.n * 2 - i * 2 by omega]; exact hyone) fun w3 L3 h3 hO3 => ?_
    refine ⟨(), rfl, ?_⟩
    refine r_any fun _ => ?_
    refine r_slSuf i rfl rfl (by dsimp only; omega) (by dsimp only; omega) fun y80 hyn8 hyc8 hya8 => ?_
    dsimp only at hyn8 hya8
    refine r_copyO T_sl_Blob h3 hO3 i (by dsimp only; omega) (fun h0 => hya8 (by omega)) (hv.sl h3 (subV L3)) (by omega) hvone fun w4 L4 h4 hO4 => ?_
    refine r_retR ⟨⟨s.a, s.n + 1, s.c⟩, L4, rfl, h4, ?_, rfl⟩
    have key := ins2 (ys := ys) (a := i * 2) (N := s.n * 2) hvl hyl (by omega)
    rw [hvl, hyn7, show (i + 1) * 2 = i * 2 + 2 by omega, show (s.n + 1 - (i + 1)) * 2 = s.n * 2 - i * 2 by omega, key, htk] at hO4
    exact hO4)

end Go.Proofs.YthaecdelaifccaaGreat
