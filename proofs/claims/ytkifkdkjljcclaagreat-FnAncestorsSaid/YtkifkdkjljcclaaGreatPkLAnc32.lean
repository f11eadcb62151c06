/- History: books, indices, ancestors: the reference. -/
import Derived.Test.YtkifkdkjljcclaaGreatPkLAnc31
namespace Go.Proofs.YtkifkdkjljcclaaGreat
open Go.Sx Go.RowKit

theorem c_l07Key {w : World} {p : Addr} {r : CR} (hk : keyOk r.root) (hc : CmAt w p r) (hr : KsR w r.d r.ps) (hmax : r.ps.length ≤ 1073741) (hnote : r.note.size ≤ 1073741824) : Ret Tryz.prog n_spec_l07Key [.pointer (some p)] w [.agg] (fun x _ => x = (u8s (ckey r.pc)).toArray) := spec_l07Key_calls _ (by
  unfold spec_l07Key
  have hok : r.pc.ok := ⟨hk, hr.ok⟩
  have hlen := cdata_len hok
  have e1 : r.pc.ps.length = r.ps.length := rfl
  have e2 : r.pc.note.size = r.note.size := rfl
  have hck := ckey_ok r.pc
  refine r_new (At.refl w) fun b2 w2 h => ?_
  have h : At w w2 [(b2, Array.replicate 32 (.int .u8 0), ty_impl_Key)] := h
  refine r_call h (c_l07Data hk (hc.at h) (hr.at h) hmax hnote) fun y w3 h _ ⟨hS, hn⟩ => ?_
  refine r_call h (c_l01Hash 7 hS.sl (cdata_ok hok) (by omega)) fun x w4 h _ hx => ?_
  subst hx
  rw [show hashL 7 (cdata r.pc) = ckey r.pc from rfl]
  refine r_stA h 0 rfl rfl (by simp [hck.1]) (by simp) (by simpa using u8s_one) fun w5 h => ?_
  refine r_ldA h 0 rfl rfl (by simp [hck.1]) ?_
  exact r_ret h.nil _ rfl rfl)

structure BkR (w : World) (p : Addr) (rs : List CR) (ms : List ER) : Prop where
  ex : ∃ s t, ldOk w 1 (p.add 0) .slice s ∧ ldOk w 1 (p.add 1) .slice t ∧ CsR w s rs ∧ EssR w t ms
theorem BkR.below {w w' : World} {p : Addr} {rs : List CR} {ms : List ER} (h : BkR w p rs ms) (hb : Below w.heap.size w w') : BkR w' p rs ms :=
  let ⟨s, t, h1, h2, h3, h4⟩ := h.ex
  ⟨s, t, ldOk_below hb h1, ldOk_below hb h2, h3.below hb, h4.below hb⟩
theorem BkR.at {w w' : World} {ls : List Blk} {p : Addr} {rs : List CR} {ms : List ER} (h : BkR w p rs ms) (hA : At w w' ls) : BkR w' p rs ms := h.below hA.below
theorem bkR_own {w0 w : World} {ls : List Blk} (hA : At w0 w ls) (i : Nat) {b : Nat} {s t : Sl} {ty : TypeId} (hl : ls[i]? = some (b, bkC s t, ty)) {rs : List CR} {ms : List ER} (h1 : CsR w s rs) (h2 : EssR w t ms) : BkR w ⟨b, 0, none⟩ rs ms :=
  ⟨s, t, ldOk_own (sh := .slice) hA i hl 0 rfl (by simp [Sh.emb]), ldOk_own (sh := .slice) hA i hl 1 rfl (by simp [Sh.emb]), h1, h2⟩

theorem rows_ok {b : PBk} {rs : List CR} (hX : rs.map CR.pc = b.cms) (hv : validB b) : ∀ r ∈ rs, okC r.pc := by
  intro r hr
  obtain ⟨j, hj, rfl⟩ := List.getElem_of_mem hr
  have hrl : rs.length = b.cms.length := by rw [← hX]; simp
  rw [comAt_row hX (List.getElem?_eq_getElem hj)]
  exact (hv.2 j (by omega)).1

theorem c_l07Keys {w : World} {p : Addr} {rs : List CR} {ms : List ER} (hp : BkR w p rs ms) (hok : ∀ r ∈ rs, okC r.pc) (hmax : rs.length ≤ 1073741824) : Ret Tryz.prog n_spec_l07Keys [.pointer (some p)] w [.slice] (fun x w' => SlO w w' [] ty_impl_Key 32 x ((keysC (rs.map CR.pc)).flatMap u8s) ∧ x.n = rs.length) := spec_l07Keys_calls _ (by
  unfold spec_l07Keys
  obtain ⟨s, t, h1, h2, h3, h4⟩ := hp.ex
  have hn := h3.n
  refine r_bs0 T_sl_Key (At.refl w) fun y5 w1 hy hyn => ?_
  refine r_loop (σ := Sl × Int) (fun i w' => ∃ j : Nat, i.2 = j ∧ j ≤ rs.length ∧ SlO w w' [] ty_impl_Key 32 i.1 ((keysC ((rs.map CR.pc).take j)).flatMap u8s) ∧ i.1.n = j) (fun i _ => (s.n - i.2).toNat) (y5, 0) rfl ⟨0, rfl, by omega, by simpa [keysC] using hy, hyn⟩ ?_
  clear hy hyn
  rintro ⟨sk, i⟩ w2 ⟨j, hi, hj, hS, hsn⟩
  dsimp only at hi hS hsn
  subst hi
  refine r_any fun _ => ?_
  dsimp only
  refine r_ldN s (ldOk_below hS.at_.below h1) ?_
  refine r_if ((j : Int) < (s.n : Int)) rfl (fun hlt => ?_) (fun hge => ?_)
  · obtain ⟨r, q, hr, hrm, hq, hko, hks, hcm⟩ := (h3.at hS.at_).get (i := j) (by omega)
    have hoc := hok r hrm
    have hp3 : r.ps.length ≤ 3 := hoc.2.1
    have hn64 : r.note.size ≤ 64 := hoc.2.2.2
    refine r_ldN s (ldOk_below hS.at_.below h1) ?_
    refine r_ix q hq (by omega) (by omega) ?_
    simp only [Int.toNat_natCast]
    refine r_call hS.at_ (c_l07Key hko hcm hks (by omega) (by omega)) fun x w3 h3' hb hx => ?_
    subst hx
    have hck := ckey_ok r.pc
    have hS := hS.trans hb
    refine r_push T_sl_Key hS (by simp [Value.cells, hck.1]) (by omega) (by simpa [Value.cells] using u8s_one) (by omega) (by omega) fun y24 w4 hS4 hn4 => ?_
    refine ⟨(y24, ((j + 1 : Nat) : Int)), by rw [w64 (by omega) (by omega)]; rfl, ⟨j + 1, rfl, by omega, ?_, by dsimp only; omega⟩, by dsimp only; omega⟩
    rw [take_succ_get (crmap_get rfl hr), keysC_snoc, List.flatMap_append]
    simpa [Value.cells] using hS4
  · have hjl : j = rs.length := by omega
    subst hjl
    rw [List.take_of_length_le (by simp)] at hS
    exact r_ret hS.at_ sk rfl ⟨hS, hsn⟩)

theorem c_l07Find {w : World} {s : Sl} {ks : List (List Int)} {k : List Int} (hs : KsR w s ks) (hk : keyOk k) (hmax : ks.length ≤ 1073741824) : Ret Tryz.prog n_spec_l07Find [.slice s.a s.n s.c, .agg (u8s k).toArray] w [.int .i64] (fun r _ => r = ixI ks k) := spec_l07Find_calls _ _ (by
  unfold spec_l07Find
  have hn := hs.n
  refine r_new (At.refl w) fun b3 w1 h => ?_
  refine r_loop (σ := Int) (fun i w' => ∃ j : Nat, i = j ∧ j ≤ ks.length ∧ k ∉ ks.take j ∧ At w w' [(b3, (u8s k).toArray, ty_impl_Key)]) (fun i _ => (s.n - i).toNat) 0 rfl ⟨0, rfl, by omega, by simp, h⟩ ?_
  rintro i w2 ⟨j, rfl, hj, hnot, h⟩
  refine r_any fun _ => ?_
  refine r_if ((j : Int) < (s.n : Int)) rfl (fun hlt => ?_) (fun hge => ?_)
  · refine r_draw h fun w3 h => ?_
    obtain ⟨x, q, hx, hxm, hq, hxo, hxl⟩ := (hs.at h).get (i := j) (by omega)
    refine r_ix q hq (by omega) (by omega) ?_
    refine r_ldN (u8s x).toArray (by simp only [Int.toNat_natCast]; exact hxl) ?_
    refine r_ldA h 0 rfl rfl (by simp [hk.1]) ?_
    refine r_pur _ (fun w' => run_eql_key _ _ hxo.1 hk.1 w') ?_
    by_cases he : x = k
    · subst he
      refine r_true (decide_eq_true rfl) ?_
      exact r_ret h.nil (j : Int) rfl (by rw [ixI_pos hxm, ixK_first hx hnot])
    · refine r_false (decide_eq_false he) ?_
      refine ⟨((j + 1 : Nat) : Int), by rw [w64 (by omega) (by omega)]; rfl, ⟨j + 1, rfl, by omega, ?_, h⟩, by omega⟩
      rw [take_succ_get hx, List.mem_append, List.mem_singleton]
      rintro (hh | hh)
      · exact hnot hh
      · exact he hh.symm
  · have : j = ks.length := by omega
    subst this
    rw [List.take_of_length_le (Nat.le_refl _)] at hnot
    exact r_ret h.nil (-1 : Int) rfl (by unfold ixI; rw [if_neg hnot]))

theorem c_l00Max (a b : Int) : RetP Tryz.prog n_spec_l00Max [.int .i64 a, .int .i64 b] [.int .i64] (max a b) := fun w => spec_l00Max_calls a b (by
  unfold spec_l00Max
  refine r_if (a > b) rfl (fun h => ?_) (fun h => ?_)
  · exact r_retP (by rw [show max a b = a by omega]; rfl)
  · exact r_retP (by rw [show max a b = b by omega]; rfl))

theorem c_l07Number {w : World} {p : Addr} {rs : List CR} {ms : List ER} {X : List PC} {K ps : List (List Int)} {x y : Sl} (hp : BkR w p rs ms) (hX : rs.map CR.pc = X) (hK : K.length ≤ rs.length) (hnum : ∀ k ∈ K, 0 ≤ (cAt X K k).num ∧ (cAt X K k).num ≤ 40) (hy : KsR w y K) (hx : KsR w x ps) (hin : ∀ k ∈ ps, k ∈ K) (hmax : rs.length ≤ 1073741824) (hpm : ps.length ≤ 1073741824) :
    Ret Tryz.prog n_spec_l07Number [.pointer (some p), .slice y.a y.n y.c, .slice x.a x.n x.c] w [.int .i64] (fun r _ => r = numC X K ps) := spec_l07Number_calls _ _ _ (by
  unfold spec_l07Number
  have hn := hx.n
  obtain ⟨s, t, h1, h2, h3, h4⟩ := hp.ex
  refine r_loop (σ := Int × Int) (fun i w' => ∃ j : Nat, i = (numC X K (ps.take j), (j : Int)) ∧ j ≤ ps.length ∧ (0 ≤ i.1 ∧ i.1 ≤ 41) ∧ At w w' []) (fun i _ => (x.n - i.2).toNat) (0, 0) rfl
    ⟨0, rfl, by omega, by dsimp only; omega, At.refl w⟩ ?_
  rintro i w1 ⟨j, rfl, hj, hb, h⟩
  dsimp only at hb
  refine r_any fun _ => ?_
  dsimp only
  refine r_if ((j : Int) < (x.n : Int)) rfl (fun hlt => ?_) (fun hge => ?_)
  · refine r_draw h fun w2 h => ?_
    obtain ⟨k, q, hk, hkm, hq, hko, hkl⟩ := (hx.at h).get (i := j) (by omega)
    have hkK := hin k hkm
    refine r_ldN s (ldOk_below h.below h1) ?_
    refine r_ix q hq (by omega) (by omega) ?_
    refine r_ldN (u8s k).toArray (by simp only [Int.toNat_natCast]; exact hkl) ?_
    refine r_call h (c_l07Find (hy.at h) hko (by omega)) fun r w4 h _ hr => ?_
    subst hr
    obtain ⟨r, hr, hrc⟩ := cAt_row hX hK hkK
    have hl := ixK_lt hkK
    have hnk := hnum k hkK
    obtain ⟨r', p', hr', _, hp', _, _, hcm⟩ := (h3.at h).get (i := ixK K k) (by omega)
    rw [hr] at hr'
    cases hr'
    have hsn := h3.n
    refine r_chk1 (ldOk_below h.below h1) ?_
    rw [ixI_pos hkK]
    refine r_ix p' hp' (by omega) (by omega) ?_
    simp only [Int.toNat_natCast]
    refine r_ldN (sh := .int .i64) r.num hcm.num ?_
    have hrn : r.num = (cAt X K k).num := congrArg PC.num hrc
    rw [hrn, w64 (n := (cAt X K k).num + 1) (by omega) (by omega)]
    refine r_callP (c_l00Max _ _) ?_
    refine ⟨(numC X K (ps.take (j + 1)), ((j + 1 : Nat) : Int)), ?_, ⟨j + 1, rfl, by omega, ?_, h.nil⟩, by dsimp only; omega⟩
    · rw [w64 (by omega) (by omega), take_succ_get hk, numC_snoc]
      rfl
    · dsimp only
      rw [take_succ_get hk, numC_snoc]
      omega
  · have hjl : j = ps.length := by omega
    subst hjl
    rw [List.take_of_length_le (Nat.le_refl _)]
    exact r_ret h _ rfl rfl)

theorem c_spec_MapKey {w : World} {s : Sl} {es : List PE} (hs : EsR w s es) (hmax : es.length ≤ 1073741824) : Ret Tryz.prog n_spec_MapKey [.slice s.a s.n s.c] w [.agg, .int .i64] (fun r _ => r.1 = (u8s (if okE es then rootOf es else zero32)).toArray ∧ r.2 = if okE es then 0 else 1) := spec_MapKey_calls _ (by
  unfold spec_MapKey
  refine r_new (At.refl w) fun b2 w1 h => ?_
  have h : At w w1 [(b2, Array.replicate 32 (.int .u8 0), ty_impl_Key)] := h
  refine r_call h (c_l04Ok (SlOf.at hs h) hmax) fun r7 w2 h _ hr => ?_
  subst hr
  by_cases hoe : okE es
  · rw [decide_eq_true hoe, if_pos hoe, if_pos hoe]
    refine r_false rfl ?_
    have h64 := hoe.2
    have hrk := trKey_ok (treeF (es.length + 1) es)
    refine r_call h (c_l04Nodes (es.length + 1) (SlOf.at hs h) (okE_ents hoe) (by omega) (by omega)) fun r12 w3 h _ ⟨L, _, _, _, hr2⟩ => ?_
    rw [hr2]
    refine r_new h fun b5 w4 h => ?_
    refine r_stA h 0 rfl rfl (by simp [hrk.1]) (by simp [Value.cells]) (by simpa using u8s_one) fun w5 h => ?_
    have h : At w w5 [(b5, (u8s (trKey (treeF (es.length + 1) es))).toArray, ty_impl_Key), (b2, Array.replicate 32 (.int .u8 0), ty_impl_Key)] := h
    refine r_ldA h 0 rfl rfl (by simp [hrk.1]) ?_
    refine r_stA h 1 rfl rfl (by simp [hrk.1]) (by simp) (by simpa using u8s_one) fun w6 h => ?_
    refine r_ldA h 1 rfl rfl (by simp [hrk.1]) ?_
    exact r_ret h.nil (_, 0) rfl ⟨rfl, rfl⟩
  · rw [decide_eq_false hoe, if_neg hoe, if_neg hoe]
    refine r_true rfl ?_
    refine r_stA h 0 rfl rfl (by simp) (by simp) (by simp [oneC]) fun w5 h => ?_
    refine r_ldA h 0 rfl rfl (by simp) ?_
    exact r_ret h.nil (_, 1) rfl ⟨rfl, rfl⟩)

theorem c_l07Book {w : World} {p : Addr} {rs : List CR} {ms : List ER} {b : PBk} (hp : BkR w p rs ms) (hX : rs.map CR.pc = b.cms) (hM : ms.map ER.es = b.maps) (hz : sizeBook b ≤ 1073741824) :
    Ret Tryz.prog n_spec_l07Book [.pointer (some p)] w [.bool] (fun r _ => r = decide (validB b)) := spec_l07Book_calls _ (by
  unfold spec_l07Book
  obtain ⟨s, t, hls, hlt, hs, ht⟩ := hp.ex
  have hsn := hs.n
  have htn := ht.n
  have hrl : rs.length = b.cms.length := by rw [← hX]; simp
  have hml : ms.length = b.maps.length := by rw [← hM]; simp
  have hsz : sizeBook b = (b.cms.length + sumF szC b.cms) + (b.maps.length + sumF sizeEntryS b.maps) := rfl
  refine r_joinI ?_
  refine r_draw (At.refl w) fun w1 h => ?_
  have ls_ : ∀ {v : World} {X : List Blk}, At w v X → ldOk v 1 (p.add 0) .slice s := fun h => ldOk_below h.below hls
  have lt_ : ∀ {v : World} {X : List Blk}, At w v X → ldOk v 1 (p.add 1) .slice t := fun h => ldOk_below h.below hlt
  refine r_ldN s (ls_ h) ?_
  refine r_if ((s.n : Int) > 40) rfl (fun hbig => ?_) (fun hsm => ?_)
  · exact r_ret h false rfl (decide_eq_false fun hv => by have := hv.1.1; omega).symm
  refine r_ldN t (lt_ h) ?_
  refine r_ldN s (ls_ h) ?_
  refine r_ne (fun hne => ?_) (fun heq => ?_)
  · exact r_ret h false rfl (decide_eq_false fun hv => by have := hv.1.2; omega).symm
  refine ⟨(), rfl, ?_⟩
  refine r_any fun _ => ?_
  have bad : ∀ {v : World} {X : List Blk} {j : Nat}, At w v X → j < b.cms.length → ¬ goodC b j → ((real Tryz.prog (RR w [.bool] (fun r _ => r = decide (validB b)))).ret (.bool false) : World → Prop) v :=
    fun h hj hg => r_ret h.nil false rfl (decide_eq_false fun hv => hg (hv.2 _ hj)).symm
  refine r_bs0 T_sl_Key h fun y29 w2 hy hyn => ?_
  refine r_loop (σ := Sl × Int) (fun i w' => ∃ j : Nat, i.2 = j ∧ j ≤ b.cms.length ∧ (∀ m, m < j → goodC b m) ∧ SlO w w' [] ty_impl_Key 32 i.1 (((keysB b).take j).flatMap u8s) ∧ i.1.n = j) (fun i _ => (s.n - i.2).toNat) (y29, 0) rfl
    ⟨0, rfl, by omega, fun m hm => by omega, by simpa using hy, hyn⟩ ?_
  clear h hy hyn
  rintro ⟨sk, i⟩ w3 ⟨j, hi, hj, hgood, hS, hskn⟩
  dsimp only at hi hS hskn
  subst hi
  refine r_any fun _ => ?_
  dsimp only
  refine r_ldN s (ls_ hS.at_) ?_
  refine r_if ((j : Int) < (s.n : Int)) rfl (fun hlt => ?_) (fun hge => ?_)
  · have hjl : j < b.cms.length := by omega
    obtain ⟨r, q, hr, hrm, hq, hko, hok, hcm⟩ := hs.get (i := j) (by omega)
    have hrc := comAt_row hX hr
    have hgt : szC r.pc ≤ sumF szC b.cms := sumF_get szC (crmap_get hX hr)
    have hszr : szC r.pc = r.ps.length + r.note.size := rfl
    obtain ⟨mr, qm, hmr, hmm, hqm, hmo, hmd⟩ := ht.get (i := j) (by omega)
    have hmc := mapAt_row hM hmr
    have hgm : sizeEntryS mr.es ≤ sumF sizeEntryS b.maps := sumF_get sizeEntryS (ermap_get hM hmr)
    have hszm : sizeEntryS mr.es = mr.es.length + sumE mr.es := rfl
    have hK : ((keysB b).take j).length = j := by rw [List.length_take, keysB_len]; omega
    have hkK : ∀ k ∈ (keysB b).take j, keyOk k := fun k hk => keysB_ok b k (List.mem_of_mem_take hk)
    have hnum := num_ok hj hgood
    have hck := ckey_ok r.pc
    refine r_ldN s (ls_ hS.at_) ?_
    refine r_ix q hq (by omega) (by omega) ?_
    simp only [Int.toNat_natCast]
    refine r_call hS.at_ (c_l07Ok (hcm.at hS.at_) (hok.at hS.at_) (by omega)) fun r46 w4 _ hb hr46 => ?_
    have hS := hS.trans hb
    subst hr46
    by_cases hoc : okC r.pc
    · rw [decide_eq_true hoc]
      refine r_false rfl ?_
      have hp3 : r.ps.length ≤ 3 := hoc.2.1
      have hn64 : r.note.size ≤ 64 := hoc.2.2.2
      refine r_ldN t (lt_ hS.at_) ?_
      refine r_ix qm hqm (by omega) (by omega) ?_
      simp only [Int.toNat_natCast]
      refine r_ldN mr.d (ldOk_below hS.at_.below hmd) ?_
      refine r_call hS.at_ (c_spec_MapKey (SlOf.at hmo hS.at_) (by omega)) fun r56 w5 _ hb hr56 => ?_
      have hS := hS.trans hb
      obtain ⟨x1, x2⟩ := r56
      obtain ⟨hx1, hx2⟩ := hr56
      dsimp only at hx1 hx2
      subst hx1 hx2
      dsimp only
      have hrk : keyOk (if okE mr.es then rootOf mr.es else zero32) := by
        split
        · exact trKey_ok _
        · exact zero32_ok
      generalize hRK : (if okE mr.es then rootOf mr.es else zero32) = rk at hrk
      obtain ⟨Lk, hOk, h⟩ := hS.split
      refine r_new h fun b6 w6 h => ?_
      refine r_stA h 0 rfl rfl (by simp [hrk.1]) (by simp [Value.cells]) (by simpa using u8s_one) fun w7 h => ?_
      have h : At w w7 ([(b6, (u8s rk).toArray, ty_impl_Key)] ++ (Lk ++ [])) := h
      refine r_joinI ?_
      refine r_draw h fun w8 h => ?_
      by_cases hoe : okE mr.es
      · rw [if_pos hoe] at hRK ⊢
        refine r_ne (fun hh => absurd rfl hh) fun _ => ?_
        refine r_ldA h 0 rfl rfl (by simp [hrk.1]) ?_
        refine r_ldN _ (ldOk_below h.below hcm.key) ?_
        refine r_rootEq hrk.1 hko.1 (fun hne => bad h hjl fun hg => hne (by
          have h3 := hg.2.2.1
          rw [← hrc, ← hmc] at h3
          rw [← hRK]
          exact h3.symm)) (fun heq => ?_)
        have hro : r.root = rootOf mr.es := by rw [hRK]; exact heq.symm
        refine ⟨(), rfl, ?_⟩
        refine r_any fun _ => ?_
        have keys : ∀ {v : World} {V : List Blk}, At w v (V ++ (Lk ++ [])) → KsR v sk ((keysB b).take j) := fun h => ownS_ks hOk h ((List.sublist_append_left _ _).trans (List.sublist_append_right _ _)) hkK
        have lp_ : ∀ {v : World} {X : List Blk}, At w v X → ldOk v 1 ((q.add (j * 35)).add 32) .slice r.d := fun h => ldOk_below h.below hcm.d
        have ln_ : ∀ {v : World} {X : List Blk}, At w v X → ldOk v 1 ((q.add (j * 35)).add 33) (.int .i64) r.num := fun h => ldOk_below h.below hcm.num
        have hdn := hok.n
        refine r_loop (σ := Int) (fun i w' => ∃ m : Nat, i = m ∧ m ≤ r.ps.length ∧ (∀ k ∈ r.ps.take m, k ∈ (keysB b).take j) ∧ At w w' ([(b6, (u8s rk).toArray, ty_impl_Key)] ++ (Lk ++ []))) (fun i _ => (r.d.n - i).toNat) 0 rfl ⟨0, rfl, by omega, by simp, h⟩ ?_
        clear h
        rintro i w9 ⟨m, rfl, hm, hin, h⟩
        refine r_any fun _ => ?_
        refine r_ldN r.d (lp_ h) ?_
        refine r_if ((m : Int) < (r.d.n : Int)) rfl (fun hlt2 => ?_) (fun hge2 => ?_)
        · obtain ⟨k, qk, hk, hkm, hqk, hko2, hkl⟩ := (hok.at h).get (i := m) (by omega)
          refine r_ldN r.d (lp_ h) ?_
          refine r_ix qk hqk (by omega) (by omega) ?_
          refine r_ldN (u8s k).toArray (by simp only [Int.toNat_natCast]; exact hkl) ?_
          refine r_call h (c_l01Has (keys h) hko2 (by omega)) fun r86 w10 h _ hr86 => ?_
          subst hr86
          by_cases hkK2 : k ∈ (keysB b).take j
          · rw [decide_eq_true hkK2]
            refine r_false rfl ?_
            refine ⟨((m + 1 : Nat) : Int), by rw [w64 (by omega) (by omega)]; rfl, ⟨m + 1, rfl, by omega, fun y hy => ?_, h⟩, by omega⟩
            rw [take_succ_get hk] at hy
            rcases List.mem_append.1 hy with hy | hy
            · exact hin y hy
            · rw [List.mem_singleton.1 hy]; exact hkK2
          · rw [decide_eq_false hkK2]
            refine r_true rfl ?_
            exact bad h hjl fun hg => hkK2 (by
              have h4 := hg.2.2.2.1
              rw [← hrc] at h4
              exact h4 k hkm)
        · have hml2 : m = r.ps.length := by omega
          subst hml2
          rw [List.take_of_length_le (Nat.le_refl _)] at hin
          refine r_call h (c_l07Key hko (hcm.at h) (hok.at h) (by omega) (by omega)) fun r89 w10 h _ hr89 => ?_
          subst hr89
          refine r_new h fun b9 w11 h => ?_
          refine r_stA h 0 rfl rfl (by simp [hck.1]) (by simp [Value.cells]) (by simpa using u8s_one) fun w12 h => ?_
          have h : At w w12 ([(b9, (u8s (ckey r.pc)).toArray, ty_impl_Key), (b6, (u8s rk).toArray, ty_impl_Key)] ++ (Lk ++ [])) := h
          refine r_draw h fun w13 h => ?_
          refine r_ldN (sh := .int .i64) r.num (ln_ h) ?_
          refine r_ldN r.d (lp_ h) ?_
          refine r_call h (c_l07Number (hp.at h) hX (by omega) hnum (keys h) (hok.at h) hin (by omega) (by omega)) fun r100 w14 h _ hr100 => ?_
          subst hr100
          refine r_chk1 (ln_ h) ?_
          refine r_ne (fun hne => ?_) (fun heqn => ?_)
          · refine r_chk1 (ln_ h) ?_
            refine r_chk1 (ln_ h) ?_
            exact bad h hjl fun hg => hne (by
              have h5 := hg.2.2.2.2.1
              rw [← hrc] at h5
              exact h5)
          · refine r_ldA h 0 rfl rfl (by simp [hck.1]) ?_
            refine r_chk1 (ln_ h) ?_
            refine r_call h (c_l01Has (keys h) hck (by omega)) fun r105 w15 h _ hr105 => ?_
            subst hr105
            refine r_chk1 (ln_ h) ?_
            by_cases hkn : ckey r.pc ∈ (keysB b).take j
            · refine r_true (decide_eq_true hkn) ?_
              exact bad h hjl fun hg => hg.2.2.2.2.2 (by rw [← hrc]; exact hkn)
            · refine r_false (decide_eq_false hkn) ?_
              have hgj : goodC b j := ⟨hrc ▸ hoc, hmc ▸ hoe, by rw [← hrc, ← hmc]; exact hro, by rw [← hrc]; exact hin, by rw [← hrc]; exact heqn, by rw [← hrc]; exact hkn⟩
              refine r_ldA h 0 rfl rfl (by simp [hck.1]) ?_
              refine r_push T_sl_Key (hOk.slo h.pl1) (by simp [Value.cells, hck.1]) (by omega) (by simpa [Value.cells] using u8s_one) (by omega) (by omega) fun y110 w16 hS16 hn16 => ?_
              refine ⟨(y110, ((j + 1 : Nat) : Int)), by rw [w64 (by omega) (by omega)]; rfl, ⟨j + 1, rfl, by omega, fun m hm => ?_, ?_, by dsimp only; omega⟩, by dsimp only; omega⟩
              · by_cases hmj : m = j
                · subst hmj; exact hgj
                · exact hgood m (by omega)
              · rw [take_succ_get (keysB_get hjl), List.flatMap_append, ← hrc]
                simpa [Value.cells] using hS16.base
      · rw [if_neg hoe]
        refine r_ne (fun _ => ?_) fun hh => absurd hh (by decide)
        exact bad h hjl fun hg => hoe (by rw [hmc]; exact hg.2.1)
    · rw [decide_eq_false hoc]
      refine r_true rfl ?_
      exact bad hS.at_ hjl (fun hg => hoc (by rw [hrc]; exact hg.1))
  · have hjl : j = b.cms.length := by omega
    subst hjl
    exact r_ret hS.at_ true rfl (decide_eq_true (show validB b from ⟨⟨by omega, by omega⟩, hgood⟩)).symm)
end Go.Proofs.YtkifkdkjljcclaaGreat
