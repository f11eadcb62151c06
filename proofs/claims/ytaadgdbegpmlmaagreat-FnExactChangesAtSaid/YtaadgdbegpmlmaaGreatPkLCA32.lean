/- History: indices and ancestors: both sides; AncestorsOf, IsAncestor. History: AncestorsOf, IsAncestor: both sides. More kinds of values of which laws speak: slices of changes. -/
import Derived.Test.YtaadgdbegpmlmaaGreatPkLCA31
import Derived.Test.YtaadgdbegpmlmaaGreatPkLCA20
import Derived.Test.YtaadgdbegpmlmaaGreatPkLCA22
namespace Go.Proofs.YtaadgdbegpmlmaaGreat
open Go.Sx Go.RowKit

theorem c_l07At {w : World} {p : Addr} {rs : List CR} {ms : List ER} {b : PBk} {k : List Int} (hp : BkR w p rs ms) (hX : rs.map CR.pc = b.cms) (hM : ms.map ER.es = b.maps) (hz : sizeBook b ≤ 1073741824) (hk : keyOk k) :
    Ret Tryz.prog n_spec_l07At [.pointer (some p), .agg (u8s k).toArray] w [.int .i64, .int .i64] (fun r _ => r.2 = openCode b [k] ∧ (openCode b [k] = 0 → validB b ∧ k ∈ keysB b ∧ r.1 = (ixK (keysB b) k : Int))) := spec_l07At_calls _ _ (by
  unfold spec_l07At
  have hrl : rs.length = b.cms.length := by rw [← hX]; simp
  refine r_new (At.refl w) fun b3 w1 h => ?_
  have h : At w w1 [(b3, (u8s k).toArray, ty_impl_Key)] := h
  refine r_call h (c_l07Book (hp.at h) hX hM hz) fun r8 w2 h _ hr => ?_
  subst hr
  by_cases hv : validB b
  · rw [decide_eq_true hv]
    refine r_false rfl ?_
    have h40 := hv.1.1
    refine r_joinI ?_
    refine r_draw h fun w3 h => ?_
    refine r_ldA h 0 rfl rfl (by simp [hk.1]) ?_
    refine r_call h (c_l07Keys (hp.at h) (rows_ok hX hv) (by omega)) fun r11 w4 h _ ⟨hS, hn⟩ => ?_
    rw [hX] at hS
    refine r_chk1 (ldOk_blk h 0 rfl (by simp [hk.1])) ?_
    refine r_call h (c_l07Find (slO_ks hS (keysB_ok b)) hk (by rw [keysC_len]; omega)) fun r13 w5 h _ hr13 => ?_
    subst hr13
    refine ⟨_, rfl, ?_⟩
    refine r_any fun _ => ?_
    rw [show ixI (keysC b.cms) k = ixI (keysB b) k from rfl]
    by_cases hkK : k ∈ keysB b
    · rw [ixI_pos hkK]
      refine r_if ((ixK (keysB b) k : Int) < 0) rfl (fun hh => by omega) (fun _ => ?_)
      have hc : openCode b [k] = 0 := by unfold openCode; rw [if_pos hv, if_pos (by simpa using hkK)]
      exact r_ret h.nil ((ixK (keysB b) k : Int), 0) rfl ⟨hc.symm, fun _ => ⟨hv, hkK, rfl⟩⟩
    · have hi : ixI (keysB b) k = -1 := if_neg hkK
      rw [hi]
      refine r_if ((-1 : Int) < 0) rfl (fun _ => ?_) (fun hh => absurd (by omega) hh)
      have hc : openCode b [k] = 6 := by unfold openCode; rw [if_pos hv, if_neg (by simpa using hkK)]
      exact r_ret h.nil (0, 6) rfl ⟨hc.symm, fun hh => by rw [hc] at hh; cases hh⟩
  · rw [decide_eq_false hv]
    refine r_true rfl ?_
    have hc : openCode b [k] = 1 := by unfold openCode; rw [if_neg hv]
    exact r_ret h.nil (0, 1) rfl ⟨hc.symm, fun hh => by rw [hc] at hh; cases hh⟩)

theorem comAt_ix {b : PBk} {rs : List CR} (hX : rs.map CR.pc = b.cms) {k : List Int} (hk : k ∈ keysB b) : ∃ r, rs[ixK (keysB b) k]? = some r ∧ r.ps = parsB b k := by
  have hrl : rs.length = b.cms.length := by rw [← hX]; simp
  obtain ⟨r, hr, hrc⟩ := cAt_row hX (K := keysB b) (by rw [keysB_len]; omega) hk
  exact ⟨r, hr, congrArg PC.ps hrc⟩

end Go.Proofs.YtaadgdbegpmlmaaGreat

namespace Go.Proofs.YtaadgdbegpmlmaaGreat
open Go.Sx Go.RowKit

theorem KsR.one {w0 w : World} {ls : List Blk} {s : Sl} {k : List Int} (hS : SlO w0 w ls ty_impl_Key 32 s (Value.agg (u8s k).toArray).cells.toList) (hk : keyOk k) : KsR w s [k] := slO_ks (ks := [k]) (by simpa [Value.cells] using hS) (by simpa using hk)
end Go.Proofs.YtaadgdbegpmlmaaGreat

namespace Go.Proofs.YtaadgdbegpmlmaaGreat
open Go.Sx Go.RowKit

structure PCh where
  name : ByteArray
  had : Bool
  old : ByteArray
  has : Bool
  new : ByteArray
def chC (c : PCh) : List Value := [.string c.name, .bool c.had, .string c.old, .bool c.has, .string c.new]
theorem chC_len (c : PCh) : (chC c).length = 5 := rfl
theorem chC_one (c : PCh) : ∀ v ∈ chC c, oneC v = true := by
  intro v hv
  unfold chC at hv
  simp only [List.mem_cons, List.not_mem_nil, or_false] at hv
  rcases hv with rfl | rfl | rfl | rfl | rfl <;> rfl
abbrev ChsR (w : World) (s : Sl) (X : List PCh) : Prop := SlOf w s 5 chC X
theorem ChsR.get {w : World} {s : Sl} {X : List PCh} (h : ChsR w s X) {i : Nat} (hi : i < X.length) : ∃ c p, X[i]? = some c ∧ c ∈ X ∧ s.a = some p ∧ ldOk w 5 (p.add (i * 5)) .agg (chC c).toArray ∧ ldOk w 1 ((p.add (i * 5)).add 0) .str c.name ∧ ldOk w 1 ((p.add (i * 5)).add 1) .bool c.had ∧ ldOk w 1 ((p.add (i * 5)).add 2) .str c.old ∧ ldOk w 1 ((p.add (i * 5)).add 3) .bool c.has ∧ ldOk w 1 ((p.add (i * 5)).add 4) .str c.new := by
  have hk : X[i]? = some X[i] := List.getElem?_eq_getElem hi
  obtain ⟨p, hp, _⟩ := h.cell hk
  have ha := h.agg hk hp
  exact ⟨_, p, hk, List.getElem_mem hi, hp, ha, ha.2 0 _ rfl, ha.2 1 _ rfl, ha.2 2 _ rfl, ha.2 3 _ rfl, ha.2 4 _ rfl⟩
def RdChangeS (w : World) (s : Sl) (X : List PCh) : Prop := ChsR w s X
theorem RdChangeS.at {w w' : World} {bl : List Blk} {s : Sl} {X : List PCh} (h : RdChangeS w s X) (hA : At w w' bl) : RdChangeS w' s X := h.below hA.below
def OwnChangeS (s : Sl) (X : List PCh) (L : List Blk) : Prop := OwnS ty_impl_Change 5 s (X.flatMap chC) L
theorem OwnChangeS.none : OwnChangeS ⟨none, 0, 0⟩ [] [] := OwnS.nil _ _
theorem OwnChangeS.rd {w0 w : World} {s : Sl} {X : List PCh} {L bl : List Blk} (h : OwnChangeS s X L) (hA : At w0 w (L ++ bl)) : RdChangeS w s X := OwnS.of h hA (List.sublist_append_left _ _) (fun l _ => chC_len l) (by omega)
theorem OwnChangeS.n {s : Sl} {X : List PCh} {L : List Blk} (h : OwnChangeS s X L) : s.n = X.length := by have := h.1; rw [flatMap_length (z := 5) (fun l _ => chC_len l)] at this; omega
def sizeChangeS (X : List PCh) : Nat := X.length
def msizeChangeS (X : List PCh) : Nat := 5 * X.length
theorem T_sl_Change : SlT Tryz.prog ty_sl_impl_Change ty_impl_Change 5 64 := slT_of (by kernel_rfl)
theorem slO_ownChangeS {w w' : World} {s : Sl} {X : List PCh} (h : SlO w w' [] ty_impl_Change 5 s (X.flatMap chC)) : ∃ L, At w w' L ∧ OwnChangeS s X L := by
  obtain ⟨L, hO, hA⟩ := h.split
  exact ⟨L, by simpa using hA, hO⟩

theorem c_eqChange_same (c : PCh) (w : World) : Ret Tryz.prog n_laws_eqChange [.agg (chC c).toArray, .agg (chC c).toArray] w [.bool] (fun r _ => r = true) := laws_eqChange_calls _ _ (by
  unfold laws_eqChange
  have hub : Tryz.prog.underlying ty_bool = some .bool := by kernel_rfl
  refine r_new (At.refl w) fun b2 w1 h => ?_
  refine r_new h fun b3 w2 h => ?_
  have h : At w w2 [(b3, (chC c).toArray, ty_impl_Change), (b2, (chC c).toArray, ty_impl_Change)] := h
  refine r_ld h 1 rfl (add_lit _ _ _) c.name (by simp [Sh.emb]) rfl ?_
  refine r_ld h 0 rfl (add_lit _ _ _) c.name (by simp [Sh.emb]) rfl ?_
  refine r_pur _ (fun w' => run_neq_str _ _ _ _ _ w') ?_
  refine r_false (by simp) ?_
  refine r_ld h 1 rfl (add_lit _ _ _) c.had (by simp [Sh.emb]) rfl ?_
  refine r_ld h 0 rfl (add_lit _ _ _) c.had (by simp [Sh.emb]) rfl ?_
  refine r_pur (sh := .bool) _ (fun w' => run_neqB hub _ _ _ _ w') ?_
  refine r_false (by simp) ?_
  refine r_ld h 1 rfl (add_lit _ _ _) c.old (by simp [Sh.emb]) rfl ?_
  refine r_ld h 0 rfl (add_lit _ _ _) c.old (by simp [Sh.emb]) rfl ?_
  refine r_pur _ (fun w' => run_neq_str _ _ _ _ _ w') ?_
  refine r_false (by simp) ?_
  refine r_ld h 1 rfl (add_lit _ _ _) c.has (by simp [Sh.emb]) rfl ?_
  refine r_ld h 0 rfl (add_lit _ _ _) c.has (by simp [Sh.emb]) rfl ?_
  refine r_pur (sh := .bool) _ (fun w' => run_neqB hub _ _ _ _ w') ?_
  refine r_false (by simp) ?_
  refine r_ld h 1 rfl (add_lit _ _ _) c.new (by simp [Sh.emb]) rfl ?_
  refine r_ld h 0 rfl (add_lit _ _ _) c.new (by simp [Sh.emb]) rfl ?_
  refine r_pur _ (fun w' => run_neq_str _ _ _ _ _ w') ?_
  refine r_false (by simp) ?_
  exact r_ret h.nil _ rfl rfl)

theorem c_eqChangeSV {w : World} {s t : Sl} {X : List PCh} (h : RdChangeS w s X) (h' : RdChangeS w t X) (hz : sizeChangeS X ≤ 1073741824) : Ret Tryz.prog n_laws_eqChangeS [.slice s.a s.n s.c, .slice t.a t.n t.c] w [.bool] (fun x _ => x = true) := laws_eqChangeS_calls _ _ (by
  unfold laws_eqChangeS
  have hs : ChsR w s X := h
  have ht : ChsR w t X := h'
  have h1 := hs.n
  have h2 := ht.n
  unfold sizeChangeS at hz
  refine r_ne (fun hh => by omega) fun _ => ?_
  refine r_loop (σ := Int) (fun i w' => ∃ j : Nat, i = j ∧ j ≤ X.length ∧ At w w' []) (fun i _ => (s.n - i).toNat) 0 rfl ⟨0, rfl, by omega, At.refl w⟩ ?_
  rintro i w8 ⟨j, rfl, hj, h⟩
  refine r_any fun _ => ?_
  refine r_if ((j : Int) < (s.n : Int)) rfl (fun hlt => ?_) (fun hge => ?_)
  · refine r_draw h fun w3 h => ?_
    obtain ⟨k, q, hk, hkm, hq, hkl, _⟩ := ChsR.get (hs.at h) (i := j) (by omega)
    obtain ⟨k2, q2, hk2, _, hq2, hkl2, _⟩ := ChsR.get (ht.at h) (i := j) (by omega)
    rw [hk] at hk2
    cases hk2
    refine r_ix q hq (by omega) (by omega) ?_
    refine r_ldN (chC k).toArray (by simp only [Int.toNat_natCast]; exact hkl) ?_
    refine r_ix q2 hq2 (by omega) (by omega) ?_
    refine r_ldN (chC k).toArray (by simp only [Int.toNat_natCast]; exact hkl2) ?_
    refine r_call h (c_eqChange_same k _) fun r w4 h _ hr => ?_
    subst hr
    refine r_false rfl ?_
    exact ⟨((j + 1 : Nat) : Int), by rw [w64 (by omega) (by omega)]; rfl, ⟨j + 1, rfl, by omega, h⟩, by omega⟩
  · exact r_ret h _ rfl rfl)

def chMark (k : Int) : PCh := ⟨markT k, Int.tmod (k + 1) 3 == 0, markT (k + 2), Int.tmod (k + 3) 3 == 0, markT (k + 4)⟩
def markCh (k : Int) (j : Nat) : PCh := chMark (k + ((5 * j : Nat) : Int))
def markChangeS (k : Int) (X : List PCh) : List PCh := (List.range X.length).map (markCh k)
theorem markChangeS_len (k : Int) (X : List PCh) : (markChangeS k X).length = X.length := by simp [markChangeS]

theorem c_markChangeSV {w0 w : World} {bl L : List Blk} {s : Sl} {X : List PCh} (hA : At w0 w (L ++ bl)) (hO : OwnChangeS s X L) (k : Int) (h0 : 0 ≤ k) (hmax : k + msizeChangeS X ≤ 4611686018427387904) (hlen : sizeChangeS X ≤ 1073741824) :
    Calls Tryz.prog n_laws_markChangeS [.slice s.a s.n s.c, .int .i64 k].toArray w fun e w' => ∃ v, e = .returned v ∧ v = .int .i64 (k + msizeChangeS X) ∧ ∃ L', At w0 w' (L' ++ bl) ∧ OwnChangeS s (markChangeS k X) L' := laws_markChangeS_calls s k (by
  unfold laws_markChangeS
  have hn := hO.n
  unfold msizeChangeS at hmax ⊢
  unfold sizeChangeS at hlen
  unfold OwnChangeS at hO
  have hpl : ∀ j, (((List.range j).map (markCh k)).flatMap chC).length = 5 * j := fun j => by
    rw [flatMap_length (z := 5) (fun l _ => chC_len l)]
    simp
    omega
  refine r_loop (σ := Int × Int) (fun i w' => ∃ (j : Nat) (L : List Blk), i = (k + ((5 * j : Nat) : Int), (j : Int)) ∧ j ≤ X.length ∧ At w0 w' (L ++ bl) ∧ OwnS ty_impl_Change 5 s (((List.range j).map (markCh k)).flatMap chC ++ (X.drop j).flatMap chC) L) (fun i _ => (s.n - i.2).toNat) (k, 0) rfl
    ⟨0, L, by simp, by omega, hA, by simpa using hO⟩ ?_
  rintro i w4 ⟨j, L, rfl, hj, h, hO⟩
  refine r_any fun _ => ?_
  dsimp only
  refine r_if ((j : Int) < (s.n : Int)) rfl (fun hlt => ?_) (fun hge => ?_)
  · obtain ⟨p, hp⟩ := hO.addr (by omega)
    have hjl : j < X.length := by omega
    have hpj := hpl j
    obtain ⟨k0, hk0⟩ : ∃ k0 : Int, k0 = k + ((5 * j : Nat) : Int) := ⟨_, rfl⟩
    rw [← hk0]
    have hd : (X.drop j).flatMap chC = chC X[j] ++ (X.drop (j + 1)).flatMap chC := by
      rw [List.drop_eq_getElem_cons hjl, List.flatMap_cons]
    rw [hd] at hO
    have hrl : ((X.drop (j + 1)).flatMap chC).length = 5 * (X.length - (j + 1)) := by
      rw [flatMap_length (z := 5) (fun l _ => chC_len l), List.length_drop]
      omega
    obtain ⟨rest, hrest⟩ : ∃ rest, rest = (X.drop (j + 1)).flatMap chC := ⟨_, rfl⟩
    obtain ⟨pre, hpre⟩ : ∃ pre, pre = ((List.range j).map (markCh k)).flatMap chC := ⟨_, rfl⟩
    rw [← hrest, ← hpre] at hO
    rw [← hrest] at hrl
    rw [← hpre] at hpj
    have hcl : ∀ c : PCh, (chC c).length = 5 := chC_len
    have hlen5 : ∀ c : PCh, (pre ++ (chC c ++ rest)).length = 5 * X.length := fun c => by
      simp only [List.length_append, hpj, hrl, hcl]
      omega
    have es : ∀ x : ByteArray, (Value.string x).cells.toList = [.string x] := fun _ => rfl
    have eb : ∀ x : Bool, (Value.bool x).cells.toList = [.bool x] := fun _ => rfl
    generalize X[j] = c at hO
    rw [w64 (n := k0 + 1) (by omega) (by omega), w64 (n := k0 + 1 + 1) (by omega) (by omega), w64 (n := k0 + 1 + 1 + 1) (by omega) (by omega), w64 (n := k0 + 1 + 1 + 1 + 1) (by omega) (by omega), w64 (n := k0 + 1 + 1 + 1 + 1 + 1) (by omega) (by omega), w64 (n := (j : Int) + 1) (by omega) (by omega)]
    refine r_call h (c_markText _ (by omega) _) fun r15 w5 h _ hr => ?_
    subst hr
    refine r_ix p hp (by omega) (by omega) ?_
    refine r_stO h hO hp (5 * j + 0) (by rw [Go.Deep.add_add]; simp only [Int.toNat_natCast]; congr 1; omega) (by simp [Value.cells]) (by rw [hlen5]; omega) (by simp [Value.cells, oneC]) fun w6 L6 h hO => ?_
    rw [es, set_key hpj (by rw [hcl]; omega), show ∀ x : ByteArray, (chC c).set 0 (.string x) = chC ⟨x, c.had, c.old, c.has, c.new⟩ from fun _ => rfl] at hO
    refine r_ix p hp (by omega) (by omega) ?_
    refine r_stO h hO hp (5 * j + 1) (by rw [Go.Deep.add_add]; simp only [Int.toNat_natCast]; congr 1; omega) (by simp [Value.cells]) (by rw [hlen5]; omega) (by simp [Value.cells, oneC]) fun w7 L7 h hO => ?_
    rw [eb, set_key hpj (by rw [hcl]; omega), show ∀ (x : ByteArray) (y : Bool), (chC ⟨x, c.had, c.old, c.has, c.new⟩).set 1 (.bool y) = chC ⟨x, y, c.old, c.has, c.new⟩ from fun _ _ => rfl] at hO
    refine r_call h (c_markText _ (by omega) _) fun r32 w8 h _ hr => ?_
    subst hr
    refine r_ix p hp (by omega) (by omega) ?_
    refine r_stO h hO hp (5 * j + 2) (by rw [Go.Deep.add_add]; simp only [Int.toNat_natCast]; congr 1; omega) (by simp [Value.cells]) (by rw [hlen5]; omega) (by simp [Value.cells, oneC]) fun w9 L9 h hO => ?_
    rw [es, set_key hpj (by rw [hcl]; omega), show ∀ (x z : ByteArray) (y : Bool), (chC ⟨x, y, c.old, c.has, c.new⟩).set 2 (.string z) = chC ⟨x, y, z, c.has, c.new⟩ from fun _ _ _ => rfl] at hO
    refine r_ix p hp (by omega) (by omega) ?_
    refine r_stO h hO hp (5 * j + 3) (by rw [Go.Deep.add_add]; simp only [Int.toNat_natCast]; congr 1; omega) (by simp [Value.cells]) (by rw [hlen5]; omega) (by simp [Value.cells, oneC]) fun w10 L10 h hO => ?_
    rw [eb, set_key hpj (by rw [hcl]; omega), show ∀ (x z : ByteArray) (y u : Bool), (chC ⟨x, y, z, c.has, c.new⟩).set 3 (.bool u) = chC ⟨x, y, z, u, c.new⟩ from fun _ _ _ _ => rfl] at hO
    refine r_call h (c_markText _ (by omega) _) fun r49 w11 h _ hr => ?_
    subst hr
    refine r_ix p hp (by omega) (by omega) ?_
    refine r_stO h hO hp (5 * j + 4) (by rw [Go.Deep.add_add]; simp only [Int.toNat_natCast]; congr 1; omega) (by simp [Value.cells]) (by rw [hlen5]; omega) (by simp [Value.cells, oneC]) fun w12 L12 h hO => ?_
    rw [es, set_key hpj (by rw [hcl]; omega), show ∀ (x z v : ByteArray) (y u : Bool), (chC ⟨x, y, z, u, c.new⟩).set 4 (.string v) = chC ⟨x, y, z, u, v⟩ from fun _ _ _ _ _ => rfl] at hO
    refine ⟨(k + ((5 * (j + 1) : Nat) : Int), ((j + 1 : Nat) : Int)), ?_, ⟨j + 1, L12, rfl, by omega, h, ?_⟩, by dsimp only; omega⟩
    · simp only [embL, Sh.emb]
      congr 2
      omega
    · have e3 : ((List.range (j + 1)).map (markCh k)).flatMap chC ++ (X.drop (j + 1)).flatMap chC = pre ++ (chC (chMark k0) ++ rest) := by
        rw [List.range_succ, List.map_append, List.flatMap_append, ← hrest, ← hpre, hk0]
        simp [markCh]
      rw [e3]
      have e1 : k0 + 1 + 1 = k0 + 2 := by omega
      have e2 : k0 + 1 + 1 + 1 = k0 + 3 := by omega
      have e4 : k0 + 1 + 1 + 1 + 1 = k0 + 4 := by omega
      rw [e4, e2, e1] at hO
      exact hO
  · have hjl : j = X.length := by omega
    subst hjl
    rw [List.drop_of_length_le (Nat.le_refl _), List.flatMap_nil, List.append_nil] at hO
    exact r_retR ⟨rfl, L, h, hO⟩)

theorem c_heldChangeSV {w : World} {s : Sl} {X : List PCh} (k : Int) (h : RdChangeS w s (markChangeS k X)) (h0 : 0 ≤ k) (hmax : k + msizeChangeS X ≤ 4611686018427387904) (hlen : sizeChangeS X ≤ 1073741824) : Ret Tryz.prog n_laws_heldChangeS [.slice s.a s.n s.c, .int .i64 k] w [.int .i64] (fun x _ => x = k + msizeChangeS X) := laws_heldChangeS_calls s k (by
  unfold laws_heldChangeS
  have hs : ChsR w s (markChangeS k X) := h
  have hub : Tryz.prog.underlying ty_bool = some .bool := by kernel_rfl
  have hn := hs.n
  rw [markChangeS_len] at hn
  unfold msizeChangeS at hmax ⊢
  unfold sizeChangeS at hlen
  refine r_loop (σ := Int × Int) (fun i w' => ∃ j : Nat, i = (k + ((5 * j : Nat) : Int), (j : Int)) ∧ j ≤ X.length ∧ At w w' []) (fun i _ => (s.n - i.2).toNat) (k, 0) rfl ⟨0, by simp, by omega, At.refl w⟩ ?_
  rintro i w4 ⟨j, rfl, hj, h⟩
  refine r_any fun _ => ?_
  dsimp only
  refine r_if ((j : Int) < (s.n : Int)) rfl (fun hlt => ?_) (fun hge => ?_)
  · obtain ⟨c, p, hc, _, hp, _, h1, h2, h3, h4, h5⟩ := ChsR.get hs (i := j) (by rw [markChangeS_len]; omega)
    obtain ⟨k0, hk0⟩ : ∃ k0 : Int, k0 = k + ((5 * j : Nat) : Int) := ⟨_, rfl⟩
    have hce : c = chMark k0 := by
      unfold markChangeS at hc
      rw [List.getElem?_map, List.getElem?_range (by omega)] at hc
      have := Option.some.inj hc.symm
      rw [this, hk0]
      rfl
    rw [← hk0]
    rw [w64 (n := k0 + 1) (by omega) (by omega), w64 (n := k0 + 1 + 1) (by omega) (by omega), w64 (n := k0 + 1 + 1 + 1) (by omega) (by omega), w64 (n := k0 + 1 + 1 + 1 + 1) (by omega) (by omega), w64 (n := k0 + 1 + 1 + 1 + 1 + 1) (by omega) (by omega), w64 (n := (j : Int) + 1) (by omega) (by omega)]
    have e1 : k0 + 1 + 1 = k0 + 2 := by omega
    have e2 : k0 + 1 + 1 + 1 = k0 + 3 := by omega
    have e4 : k0 + 1 + 1 + 1 + 1 = k0 + 4 := by omega
    subst hce
    refine r_joinI ?_
    refine r_draw h fun w5 h => ?_
    refine r_ix p hp (by omega) (by omega) ?_
    simp only [Int.toNat_natCast]
    refine r_ldN (sh := .str) _ (ldOk_below h.below h1) ?_
    refine r_call h (c_markText _ (by omega) _) fun r18 w6 h _ hr => ?_
    subst hr
    refine r_chk1 (ldOk_below h.below h1) ?_
    refine r_pur _ (fun w' => run_neq_str _ _ _ _ _ w') ?_
    refine r_false (by simp [chMark]) ?_
    refine ⟨(), rfl, ?_⟩
    refine r_any fun _ => ?_
    refine r_ix p hp (by omega) (by omega) ?_
    simp only [Int.toNat_natCast]
    refine r_ldN (sh := .bool) _ (ldOk_below h.below h2) ?_
    refine r_pur (sh := .bool) _ (fun w' => run_neqB hub _ _ _ _ w') ?_
    refine r_false (by simp [chMark]) ?_
    refine r_joinI ?_
    refine r_draw h fun w7 h => ?_
    refine r_ix p hp (by omega) (by omega) ?_
    simp only [Int.toNat_natCast]
    refine r_ldN (sh := .str) _ (ldOk_below h.below h3) ?_
    refine r_call h (c_markText _ (by omega) _) fun r39 w8 h _ hr => ?_
    subst hr
    refine r_chk1 (ldOk_below h.below h3) ?_
    refine r_pur _ (fun w' => run_neq_str _ _ _ _ _ w') ?_
    refine r_false (by rw [e1]; simp [chMark]) ?_
    refine ⟨(), rfl, ?_⟩
    refine r_any fun _ => ?_
    refine r_ix p hp (by omega) (by omega) ?_
    simp only [Int.toNat_natCast]
    refine r_ldN (sh := .bool) _ (ldOk_below h.below h4) ?_
    refine r_pur (sh := .bool) _ (fun w' => run_neqB hub _ _ _ _ w') ?_
    refine r_false (by rw [e2]; simp [chMark]) ?_
    refine r_draw h fun w9 h => ?_
    refine r_ix p hp (by omega) (by omega) ?_
    simp only [Int.toNat_natCast]
    refine r_ldN (sh := .str) _ (ldOk_below h.below h5) ?_
    refine r_call h (c_markText _ (by omega) _) fun r60 w10 h _ hr => ?_
    subst hr
    refine r_chk1 (ldOk_below h.below h5) ?_
    refine r_pur _ (fun w' => run_neq_str _ _ _ _ _ w') ?_
    refine r_false (by rw [e4]; simp [chMark]) ?_
    refine ⟨(k + ((5 * (j + 1) : Nat) : Int), ((j + 1 : Nat) : Int)), ?_, ⟨j + 1, rfl, by omega, h⟩, by dsimp only; omega⟩
    rw [show k0 + 1 + 1 + 1 + 1 + 1 = k + ((5 * (j + 1) : Nat) : Int) by omega]
    rfl
  · have hjl : j = X.length := by omega
    subst hjl
    exact r_ret h _ rfl rfl)
end Go.Proofs.YtaadgdbegpmlmaaGreat
