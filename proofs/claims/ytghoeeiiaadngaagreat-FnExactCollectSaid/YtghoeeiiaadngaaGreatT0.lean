/- IsPartOf, GetBlob, MinusStores, DropBlob: what the program and the reference answer. -/
import Derived.Test.YtghoeeiiaadngaaGreatW0
namespace Go.Proofs.YtghoeeiiaadngaaGreat
open Go.Sx Go.RowKit

theorem validS.small {B : List PB} (h : validS B) : B.length ≤ 128 ∧ ∀ b ∈ B, b.data.length ≤ 1024 := ⟨h.1, h.2.1⟩
theorem keysOf_get {B : List PB} {i : Nat} {b : PB} (h : B[i]? = some b) : (keysOf B)[i]? = some b.key := by simp [keysOf, h]

theorem pb_get {bs : List BR} {B : List PB} (h : bs.map BR.pb = B) {i : Nat} {b : BR} (hb : bs[i]? = some b) : B[i]? = some b.pb := by rw [← h, List.getElem?_map, hb]; rfl

/-! ### GetBlob -/
def getAns (B : List PB) (k : List Int) : PB × Int := if validS B then (if k ∈ keysOf B then (B.getD (posK (keysOf B) k) ⟨0, []⟩, 0) else (⟨0, []⟩, 6)) else (⟨0, []⟩, 1)

theorem getAns_small (B : List PB) (k : List Int) : sizeBlob (getAns B k).1 ≤ 1024 := by
  unfold getAns sizeBlob
  split
  · rename_i hv
    split
    · simp only [List.getD]
      cases h : B[posK (keysOf B) k]? with
      | none => simp
      | some b => simpa using hv.2.1 b (List.mem_of_getElem? h)
    · simp
  · simp

theorem c_spec_GetBlob {w : World} {r : Array Value} {B : List PB} {q : Array Value} {k : List Int} (hr : RdStore w r B) (hq : RdKey w q k) (hz : sizeBs B ≤ 1073741824) :
    Ret Tryz.prog n_spec_GetBlob [.agg r, .agg q] w [.agg, .int .i64] (fun x w' => ∃ L, At w w' L ∧ OwnBlob x.1 (getAns B k).1 L ∧ x.2 = (getAns B k).2) := spec_GetBlob_calls _ _ (by
  unfold spec_GetBlob
  have hBok := hr.ok
  obtain ⟨s, bs, rfl, hpb, hs⟩ := hr
  obtain ⟨rfl, hk⟩ := hq
  have hl := le_sizeBs B
  have hbl : bs.length = B.length := by rw [← hpb]; simp
  refine r_new (At.refl w) fun b2 w1 h => ?_
  refine r_new h fun b3 w2 h => ?_
  refine r_new h fun b4 w3 h => ?_
  refine r_call h (c_l05Open (p := ⟨b2, 0, none⟩) (fun n => ldOk_own h 2 rfl 0 rfl (by simp [Sh.emb])) (hs.at h.nil)) fun r w4 h4 hb4 ⟨hr2, b, hr1, hr⟩ => ?_
  rw [hpb] at hr hr2
  by_cases hv : validS B
  · rw [hr2, decide_eq_true hv]
    obtain ⟨L, hL, hO⟩ := hr hv
    refine r_false rfl ?_
    have hA := h.join hL
    have hsh := hO.rd hA (keysOf_ok _) (fun b hb => (hs.at hA.nil).ok b hb)
    refine r_ldA h4 1 rfl rfl (by simp [Value.cells, hk.1]) ?_
    rw [hr1]
    refine r_call h4 (c_spec_find hsh hv.2.2 hk (by simp [keysOf]; omega)) fun r w5 h5 hb5 hr => ?_
    subst hr
    by_cases hm : k ∈ keysOf B
    · rw [if_pos hm]
      refine r_if ((posK (keysOf B) k : Int) < 0) rfl (fun hh => by omega) (fun _ => ?_)
      obtain ⟨sk, sb, e1, e2, hK, hB⟩ := (hsh.below hb5).ex
      have hp := (posK_mem hv.2.2).1 hm
      have hlt := (List.getElem?_eq_some_iff.1 hp).1
      rw [keysOf_len] at hlt
      obtain ⟨b', q', hb, hbm, hq', hok, hag, _, _⟩ := hB.get (i := posK (keysOf B) k) (by omega)
      have hn := hB.n
      refine r_dp rfl ?_
      refine r_ldN sb (e2 1) ?_
      refine r_ix q' hq' (by omega) (by omega) ?_
      refine r_ldN b'.cells.toArray (by simp only [Int.toNat_natCast]; exact hag) ?_
      have hBb : B[posK (keysOf B) k]? = some b'.pb := pb_get hpb hb
      have h1024 := hv.2.1 b'.pb (List.mem_of_getElem? hBb)
      refine r_call h5 (c_l05Copy hok (by simp only [BR.pb] at h1024; omega)) fun r w8 h8 _ ⟨b'', L', hr, hpb', hL', hO'⟩ => ?_
      subst hr
      have h9 := (h5.join hL').swap
      refine r_stA h9 0 rfl rfl rfl rfl (by simpa using cells_one b'') fun w9 h9 => ?_
      refine r_ldA h9 0 rfl rfl rfl ?_
      have hans : getAns B k = (b'.pb, 0) := by unfold getAns; rw [if_pos hv, if_pos hm]; simp [List.getD, hBb]
      rw [hans]
      exact r_ret h9.nil (_, _) rfl ⟨L', h9.right (A := [_, _, _]), ⟨b'', rfl, hpb', hO', hBok _ (List.mem_of_getElem? hBb)⟩, rfl⟩
    · rw [if_neg hm]
      refine r_true rfl ?_
      refine r_pur (sh := .agg) _ run_noBlob ?_
      refine r_stA h5 0 rfl rfl rfl rfl (by simp [oneC]) fun w8 h8 => ?_
      refine r_ldA h8 0 rfl rfl rfl ?_
      have hans : getAns B k = (⟨0, []⟩, 6) := by unfold getAns; rw [if_pos hv, if_neg hm]
      rw [hans]
      exact r_ret h8.nil (_, _) rfl ⟨[], h8.nil, OwnBlob.nil, rfl⟩
  · rw [hr2, decide_eq_false hv]
    refine r_true rfl ?_
    refine r_pur (sh := .agg) _ run_noBlob ?_
    refine r_stA h4 0 rfl rfl rfl rfl (by simp [oneC]) fun w5 h5 => ?_
    refine r_ldA h5 0 rfl rfl rfl ?_
    have hans : getAns B k = (⟨0, []⟩, 1) := by unfold getAns; rw [if_neg hv]
    rw [hans]
    exact r_ret h5.nil (_, _) rfl ⟨[], h5.nil, OwnBlob.nil, rfl⟩)

end Go.Proofs.YtghoeeiiaadngaaGreat
