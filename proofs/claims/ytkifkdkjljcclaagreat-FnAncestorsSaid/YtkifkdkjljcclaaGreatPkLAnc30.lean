/- History: the program's ledger: found keys, numbers, made of a book, opened. -/
import Derived.Test.YtkifkdkjljcclaaGreatPkLAnc29
namespace Go.Proofs.YtkifkdkjljcclaaGreat
open Go.Sx Go.RowKit

def ledC (s t sk : Sl) : Array Value := #[.slice s.a s.n s.c, .slice t.a t.n t.c, .slice sk.a sk.n sk.c]
structure LedR (w : World) (p : Addr) (rs : List CR) (ms : List ER) (K : List (List Int)) : Prop where
  ex : ∃ s t sk, ldOk w 1 (p.add 0) .slice s ∧ ldOk w 1 (p.add 1) .slice t ∧ ldOk w 1 (p.add 2) .slice sk ∧ CsR w s rs ∧ EssR w t ms ∧ KsR w sk K
theorem LedR.below {w w' : World} {p : Addr} {rs : List CR} {ms : List ER} {K : List (List Int)} (h : LedR w p rs ms K) (hb : Below w.heap.size w w') : LedR w' p rs ms K :=
  let ⟨s, t, sk, h1, h2, h3, h4, h5, h6⟩ := h.ex
  ⟨s, t, sk, ldOk_below hb h1, ldOk_below hb h2, ldOk_below hb h3, h4.below hb, h5.below hb, h6.below hb⟩
theorem LedR.at {w w' : World} {ls : List Blk} {p : Addr} {rs : List CR} {ms : List ER} {K : List (List Int)} (h : LedR w p rs ms K) (hA : At w w' ls) : LedR w' p rs ms K := h.below hA.below
theorem ledR_own {w0 w : World} {ls : List Blk} (hA : At w0 w ls) (i : Nat) {b : Nat} {s t sk : Sl} {ty : TypeId} (hl : ls[i]? = some (b, ledC s t sk, ty)) {rs : List CR} {ms : List ER} {K : List (List Int)} (h1 : CsR w s rs) (h2 : EssR w t ms) (h3 : KsR w sk K) : LedR w ⟨b, 0, none⟩ rs ms K :=
  ⟨s, t, sk, ldOk_own (sh := .slice) hA i hl 0 rfl (by simp [Sh.emb]), ldOk_own (sh := .slice) hA i hl 1 rfl (by simp [Sh.emb]), ldOk_own (sh := .slice) hA i hl 2 rfl (by simp [Sh.emb]), h1, h2, h3⟩

theorem c_led_find {w : World} {p : Addr} {rs : List CR} {ms : List ER} {K : List (List Int)} {k : List Int} (hs : LedR w p rs ms K) (hk : keyOk k) (hmax : K.length ≤ 1073741824) : Ret Tryz.prog n_ptr_impl_ledger_find [.pointer (some p), .agg (u8s k).toArray] w [.int .i64, .bool] (fun r _ => r = (ixI K k, decide (k ∈ K))) := ptr_impl_ledger_find_calls _ _ (by
  unfold ptr_impl_ledger_find
  obtain ⟨s, t, sk, h1, h2, h3, h4, h5, h6⟩ := hs.ex
  refine r_new (At.refl w) fun b3 w1 h => ?_
  have h : At w w1 [(b3, (u8s k).toArray, ty_impl_Key)] := h
  refine r_draw h fun w2 h => ?_
  refine r_ldN sk (ldOk_below h.below h3) ?_
  refine r_ldA h 0 rfl rfl (by simp [hk.1]) ?_
  refine r_call h (c_IndexK (h6.at h) hk hmax) fun r w3 h _ hr => ?_
  subst hr
  exact r_ret h.nil (ixI K k, decide (k ∈ K)) (by rw [← ixI_ge]; rfl) rfl)

theorem c_led_at {w : World} {p : Addr} {rs : List CR} {ms : List ER} {K : List (List Int)} {k : List Int} (hs : LedR w p rs ms K) (hk : keyOk k) (hmax : K.length ≤ 1073741824) : Ret Tryz.prog n_ptr_impl_ledger_at [.pointer (some p), .agg (u8s k).toArray] w [.int .i64] (fun r _ => r = ixI K k) := ptr_impl_ledger_at_calls _ _ (by
  unfold ptr_impl_ledger_at
  refine r_new (At.refl w) fun b3 w1 h => ?_
  have h : At w w1 [(b3, (u8s k).toArray, ty_impl_Key)] := h
  refine r_ldA h 0 rfl rfl (by simp [hk.1]) ?_
  refine r_call h (c_led_find (hs.at h) hk hmax) fun r w3 h _ hr => ?_
  subst hr
  exact r_ret h.nil _ rfl rfl)

theorem cAt_row {rs : List CR} {X : List PC} (hX : rs.map CR.pc = X) {K : List (List Int)} (hK : K.length ≤ rs.length) {k : List Int} (hk : k ∈ K) : ∃ r, rs[ixK K k]? = some r ∧ r.pc = cAt X K k := by
  have hl := ixK_lt hk
  refine ⟨_, List.getElem?_eq_getElem (by omega), ?_⟩
  have h2 := crmap_get hX (List.getElem?_eq_getElem (l := rs) (i := ixK K k) (by omega))
  unfold cAt
  simp only [List.getD, h2, Option.getD_some]
theorem numC_snoc (X : List PC) (K ps : List (List Int)) (k : List Int) : numC X K (ps ++ [k]) = max (numC X K ps) ((cAt X K k).num + 1) := by simp [numC, List.foldl_append]

theorem c_led_number {w : World} {p : Addr} {rs : List CR} {ms : List ER} {X : List PC} {K ps : List (List Int)} {x : Sl} (hs : LedR w p rs ms K) (hX : rs.map CR.pc = X) (hK : K.length ≤ rs.length) (hnum : ∀ k ∈ K, 0 ≤ (cAt X K k).num ∧ (cAt X K k).num ≤ 40) (hx : KsR w x ps) (hmax : rs.length ≤ 1073741824) (hpm : ps.length ≤ 1073741824) :
    Ret Tryz.prog n_ptr_impl_ledger_number [.pointer (some p), .slice x.a x.n x.c] w [.int .i64, .bool] (fun r _ => r.2 = decide (∀ k ∈ ps, k ∈ K) ∧ (r.2 = true → r.1 = numC X K ps)) := ptr_impl_ledger_number_calls _ _ (by
  unfold ptr_impl_ledger_number
  have hn := hx.n
  obtain ⟨s, t, sk, h1, h2, h3, h4, h5, h6⟩ := hs.ex
  refine r_loop (σ := Int × Int) (fun i w' => ∃ j : Nat, i = (numC X K (ps.take j), (j : Int)) ∧ j ≤ ps.length ∧ (0 ≤ i.1 ∧ i.1 ≤ 41) ∧ (∀ k ∈ ps.take j, k ∈ K) ∧ At w w' []) (fun i _ => (x.n - i.2).toNat) (0, 0) rfl
    ⟨0, rfl, by omega, by dsimp only; omega, by simp, At.refl w⟩ ?_
  rintro i w1 ⟨j, rfl, hj, hb, hin, h⟩
  dsimp only at hb
  refine r_any fun _ => ?_
  dsimp only
  refine r_if ((j : Int) < (x.n : Int)) rfl (fun hlt => ?_) (fun hge => ?_)
  · obtain ⟨k, q, hk, hkm, hq, hko, hkl⟩ := (hx.at h).get (i := j) (by omega)
    refine r_ix q hq (by omega) (by omega) ?_
    refine r_ldN (u8s k).toArray (by simp only [Int.toNat_natCast]; exact hkl) ?_
    refine r_new h fun b8 w2 h => ?_
    refine r_stA h 0 rfl rfl (by simp [hko.1]) (by simp [Value.cells]) (by simpa using u8s_one) fun w3 h => ?_
    have h : At w w3 [(b8, (u8s k).toArray, ty_impl_Key)] := h
    refine r_ldA h 0 rfl rfl (by simp [hko.1]) ?_
    refine r_call h (c_led_find (hs.at h) hko (by omega)) fun r w4 h _ hr => ?_
    subst hr
    dsimp only
    by_cases hkK : k ∈ K
    · rw [decide_eq_true hkK]
      refine r_false rfl ?_
      obtain ⟨r, hr, hrc⟩ := cAt_row hX hK hkK
      have hl := ixK_lt hkK
      have hnk := hnum k hkK
      obtain ⟨r', p', hr', _, hp', _, _, hcm⟩ := (h4.at h).get (i := ixK K k) (by omega)
      rw [hr] at hr'
      cases hr'
      have hsn := h4.n
      rw [ixI_pos hkK]
      refine r_ldN s (by rw [Go.Deep.add_add]; exact ldOk_below h.below h1) ?_
      refine r_ix p' hp' (by omega) (by omega) ?_
      simp only [Int.toNat_natCast]
      refine r_ldN (sh := .int .i64) r.num hcm.num ?_
      have hrn : r.num = (cAt X K k).num := congrArg PC.num hrc
      rw [hrn, w64 (n := (cAt X K k).num + 1) (by omega) (by omega)]
      refine r_sem (sh := .int .i64) (max (numC X K (ps.take j)) ((cAt X K k).num + 1)) _ (run_max _ _ _ _ _) ?_
      refine ⟨(numC X K (ps.take (j + 1)), ((j + 1 : Nat) : Int)), ?_, ⟨j + 1, rfl, by omega, ?_, ?_, h.nil⟩, by dsimp only; omega⟩
      · rw [w64 (by omega) (by omega), take_succ_get hk, numC_snoc]
        rfl
      · dsimp only
        rw [take_succ_get hk, numC_snoc]
        omega
      · intro y hy
        rw [take_succ_get hk] at hy
        rcases List.mem_append.1 hy with hy | hy
        · exact hin y hy
        · rw [List.mem_singleton.1 hy]; exact hkK
    · rw [decide_eq_false hkK]
      refine r_true rfl ?_
      exact r_ret h.nil (0, false) rfl ⟨(decide_eq_false fun hh => hkK (hh k hkm)).symm, fun hh => by cases hh⟩
  · have hjl : j = ps.length := by omega
    subst hjl
    rw [List.take_of_length_le (Nat.le_refl _)] at hin ⊢
    exact r_ret h (_, true) rfl ⟨(decide_eq_true hin).symm, fun _ => rfl⟩)

theorem run_mkLed (s t : Sl) (w : World) : (Instr.build ty_impl_ledger #[(0, (.agg (bkC s t)))]).run Tryz.prog w = .ok (.agg (ledC s t ⟨none, 0, 0⟩)) w := by kernel_rfl
def LedO (bl : Nat) (b : PBk) (s t : Sl) (L : List Blk) : Prop := ∃ sk Lk, L = [(bl, ledC s t sk, ty_impl_ledger)] ++ Lk ∧ OwnS ty_impl_Key 32 sk ((keysB b).flatMap u8s) Lk
theorem LedO.rd {w0 w : World} {ls L : List Blk} {bl : Nat} {b : PBk} {s t : Sl} (h : LedO bl b s t L) (hA : At w0 w ls) (hs : L.Sublist ls) {rs : List CR} {ms : List ER} (h1 : CsR w s rs) (h2 : EssR w t ms) : LedR w ⟨bl, 0, none⟩ rs ms (keysB b) := by
  obtain ⟨sk, Lk, rfl, hO⟩ := h
  have hL : At w0 w ([(bl, ledC s t sk, ty_impl_ledger)] ++ Lk) := hA.take _ hs
  exact ledR_own hL 0 rfl h1 h2 (ownS_ks hO hA ((List.sublist_append_right _ _).trans hs) (keysB_ok b))
theorem r_rootEq {R : Value → World → Prop} {w : World} {x y : Operand} {a b : List Int} (ha : a.length = 32) (hb : b.length = 32) {k1 k2 : World → Prop} (h1 : a ≠ b → k1 w) (h2 : a = b → k2 w) :
    ((real Tryz.prog R).pur (eqB .neq ty_impl_Key x y (.agg (u8s a).toArray) (.agg (u8s b).toArray)) .bool fun y => cond y k1 k2 : World → Prop) w := by
  refine r_pur _ (fun w' => run_neq_key _ _ ha hb w') ?_
  by_cases h : a = b
  · rw [decide_eq_true h]; exact h2 h
  · rw [decide_eq_false h]; exact h1 h
theorem comAt_row {b : PBk} {rs : List CR} (hX : rs.map CR.pc = b.cms) {j : Nat} {r : CR} (hr : rs[j]? = some r) : r.pc = comAt b j := by
  have h2 := crmap_get hX hr
  unfold comAt
  simp only [List.getD, h2, Option.getD_some]
theorem mapAt_row {b : PBk} {ms : List ER} (hX : ms.map ER.es = b.maps) {j : Nat} {m : ER} (hm : ms[j]? = some m) : m.es = mapAt b j := by
  have h2 := ermap_get hX hm
  unfold mapAt
  simp only [List.getD, h2, Option.getD_some]
theorem num_ok {b : PBk} {j : Nat} (hj : j ≤ b.cms.length) (hg : ∀ m, m < j → goodC b m) : ∀ k ∈ (keysB b).take j, 0 ≤ (cAt b.cms ((keysB b).take j) k).num ∧ (cAt b.cms ((keysB b).take j) k).num ≤ 40 := by
  intro k hk
  have hl := ixK_lt hk
  rw [List.length_take] at hl
  exact (hg (ixK ((keysB b).take j) k) (by omega)).1.2.2.1

theorem c_newLedger {w : World} {s t : Sl} {rs : List CR} {ms : List ER} {b : PBk} (hs : CsR w s rs) (ht : EssR w t ms) (hX : rs.map CR.pc = b.cms) (hM : ms.map ER.es = b.maps) (hz : sizeBook b ≤ 1073741824) :
    Ret Tryz.prog n_impl_newLedger [.agg (bkC s t)] w [.optr, .bool] (fun r w' => (validB b ∧ ∃ bl L, r = (some ⟨bl, 0, none⟩, true) ∧ At w w' L ∧ LedO bl b s t L) ∨ (¬ validB b ∧ r = (none, false))) := impl_newLedger_calls _ (by
  unfold impl_newLedger
  have hsn := hs.n
  have htn := ht.n
  have hrl : rs.length = b.cms.length := by rw [← hX]; simp
  have hml : ms.length = b.maps.length := by rw [← hM]; simp
  have hsz : sizeBook b = (b.cms.length + sumF szC b.cms) + (b.maps.length + sumF sizeEntryS b.maps) := rfl
  refine r_new (At.refl w) fun b1 w1 h => ?_
  have h : At w w1 [(b1, bkC s t, ty_impl_Book)] := h
  refine r_joinI ?_
  refine r_ld h 0 rfl (add_lit _ _ _) s (by simp [Sh.emb]) rfl ?_
  refine r_if ((s.n : Int) > 40) rfl (fun hbig => ?_) (fun hsm => ?_)
  · exact r_ret h.nil (none, false) rfl (.inr ⟨fun hv => by have := hv.1.1; omega, rfl⟩)
  refine r_ld h 0 rfl (add_lit _ _ _) t (by simp [Sh.emb]) rfl ?_
  refine r_ld h 0 rfl (add_lit _ _ _) s (by simp [Sh.emb]) rfl ?_
  refine r_ne (fun hne => ?_) (fun heq => ?_)
  · exact r_ret h.nil (none, false) rfl (.inr ⟨fun hv => by have := hv.1.2; omega, rfl⟩)
  refine ⟨(), rfl, ?_⟩
  refine r_any fun _ => ?_
  have bad : ∀ {v : World} {X : List Blk} {j : Nat}, At w v X → j < b.cms.length → ¬ goodC b j → ((real Tryz.prog (RR w [.optr, .bool] (fun r w' => (validB b ∧ ∃ bl L, r = (some ⟨bl, 0, none⟩, true) ∧ At w w' L ∧ LedO bl b s t L) ∨ (¬ validB b ∧ r = (none, false))))).ret (.tuple #[(.pointer none), (.bool false)]) : World → Prop) v :=
    fun h hj hg => r_ret h.nil (none, false) rfl (.inr ⟨fun hv => hg (hv.2 _ hj), rfl⟩)
  refine r_ldA h 0 rfl rfl rfl ?_
  refine r_pur (sh := .agg) _ (run_mkLed s t) ?_
  refine r_new h fun b27 w2 h => ?_
  have h : At w w2 ([(b27, ledC s t ⟨none, 0, 0⟩, ty_impl_ledger)] ++ ([] ++ ([(b1, bkC s t, ty_impl_Book)] ++ []))) := h
  refine r_ld h 1 rfl (add_lit _ _ _) s (by simp [Sh.emb]) rfl ?_
  refine r_loop (σ := Int) (fun i w' => ∃ (j : Nat) (sk : Sl) (Lk : List Blk), i = j ∧ j ≤ b.cms.length ∧ (∀ m, m < j → goodC b m) ∧ At w w' ([(b27, ledC s t sk, ty_impl_ledger)] ++ (Lk ++ ([(b1, bkC s t, ty_impl_Book)] ++ []))) ∧ OwnS ty_impl_Key 32 sk (((keysB b).take j).flatMap u8s) Lk ∧ sk.n = j) (fun i _ => (s.n - i).toNat) 0 rfl
    ⟨0, ⟨none, 0, 0⟩, [], rfl, by omega, fun m hm => by omega, h, by simpa using OwnS.nil ty_impl_Key 32, rfl⟩ ?_
  clear h
  rintro i w3 ⟨j, sk, Lk, rfl, hj, hgood, h, hOk, hskn⟩
  refine r_any fun _ => ?_
  refine r_if ((j : Int) < (s.n : Int)) rfl (fun hlt => ?_) (fun hge => ?_)
  · have hjl : j < b.cms.length := by omega
    obtain ⟨r, p, hr, hrm, hp, hko, hok, hcm⟩ := hs.get (i := j) (by omega)
    have hrc := comAt_row hX hr
    have hl := crcells_len hko
    have hgt : szC r.pc ≤ sumF szC b.cms := sumF_get szC (crmap_get hX hr)
    have hszr : szC r.pc = r.ps.length + r.note.size := rfl
    obtain ⟨mr, q, hmr, hmm, hq, hmo, hmd⟩ := ht.get (i := j) (by omega)
    have hmc := mapAt_row hM hmr
    have hgm : sizeEntryS mr.es ≤ sumF sizeEntryS b.maps := sumF_get sizeEntryS (ermap_get hM hmr)
    have hszm : sizeEntryS mr.es = mr.es.length + sumE mr.es := rfl
    refine r_ix p hp (by omega) (by omega) ?_
    simp only [Int.toNat_natCast]
    refine r_ldN r.cells.toArray (ldOk_below h.below hcm.all) ?_
    refine r_new h fun b6 w4 h => ?_
    refine r_stA h 0 rfl rfl (by simp [hl]) rfl (by simpa [CR.cells] using cmC_one _ _ _ _) fun w5 h => ?_
    have h : At w w5 ([(b6, r.cells.toArray, ty_impl_Commit)] ++ ([(b27, ledC s t sk, ty_impl_ledger)] ++ (Lk ++ ([(b1, bkC s t, ty_impl_Book)] ++ [])))) := h
    refine r_join (σ := Unit) (fun _ w' => (okC r.pc ∧ okE mr.es ∧ r.root = rootOf mr.es) ∧ At w w' ([(b6, r.cells.toArray, ty_impl_Commit)] ++ ([(b27, ledC s t sk, ty_impl_ledger)] ++ (Lk ++ ([(b1, bkC s t, ty_impl_Book)] ++ []))))) (fun _ w6 ⟨hgd, h⟩ => ?_) ?_
    · obtain ⟨hoc, hoe, hro⟩ := hgd
      refine r_any fun _ => ?_
      have hK : ((keysB b).take j).length = j := by rw [List.length_take, keysB_len]; omega
      have hkK : ∀ k ∈ (keysB b).take j, keyOk k := fun k hk => keysB_ok b k (List.mem_of_mem_take hk)
      have led : ∀ {v : World} {V : List Blk}, At w v (V ++ ([(b27, ledC s t sk, ty_impl_ledger)] ++ (Lk ++ ([(b1, bkC s t, ty_impl_Book)] ++ [])))) → LedR v ⟨b27, 0, none⟩ rs ms ((keysB b).take j) := fun h =>
        ledR_own h.pl1 0 rfl (hs.at h) (ht.at h) (ownS_ks hOk h.right.right (List.sublist_append_left _ _) hkK)
      have hnum := num_ok hj hgood
      have hck := ckey_ok r.pc
      refine r_ld h 0 rfl (add_lit _ _ _) r.d (by simp [Sh.emb]) (by rw [Nat.zero_add]; exact cm_d hko ..) ?_
      refine r_call h (c_led_number (led h) hX (by omega) hnum (hok.at h) (by omega) (by omega)) fun r64 w7 h _ ⟨hr1, hr2⟩ => ?_
      refine r_ldA h 0 rfl rfl (by simp [hl]) ?_
      refine r_call h (c_Commit_key hko (hok.at h) (by have := hoc.2.1; show r.ps.length ≤ _; have : r.ps.length ≤ 3 := this; omega) (by omega)) fun r68 w8 h _ hr68 => ?_
      subst hr68
      refine r_new h fun b9 w9 h => ?_
      refine r_stA h 0 rfl rfl (by simp [hck.1]) (by simp [Value.cells]) (by simpa using u8s_one) fun w10 h => ?_
      have h : At w w10 (([(b9, (u8s (ckey r.pc)).toArray, ty_impl_Key), (b6, r.cells.toArray, ty_impl_Commit)]) ++ ([(b27, ledC s t sk, ty_impl_ledger)] ++ (Lk ++ ([(b1, bkC s t, ty_impl_Book)] ++ [])))) := h
      refine r_joinI ?_
      refine r_ldA h 0 rfl rfl (by simp [hck.1]) ?_
      refine r_call h (c_led_find (led h) hck (by omega)) fun r72 w11 h _ hr72 => ?_
      subst hr72
      dsimp only
      obtain ⟨r1, r2⟩ := r64
      dsimp only at hr1 hr2 ⊢
      by_cases hin : ∀ k ∈ r.ps, k ∈ (keysB b).take j
      · rw [decide_eq_true hin] at hr1
        subst hr1
        have hr2 := hr2 rfl
        subst hr2
        refine r_false rfl ?_
        by_cases hkn : ckey r.pc ∈ (keysB b).take j
        · refine r_true (decide_eq_true hkn) ?_
          exact bad h hjl fun hg => hg.2.2.2.2.2 (by rw [← hrc]; exact hkn)
        · refine r_false (decide_eq_false hkn) ?_
          refine r_ld h 1 rfl (add_lit _ _ _) r.num (by simp [Sh.emb]) (by rw [Nat.zero_add]; exact cm_num hko ..) ?_
          refine r_ne (fun hne => ?_) (fun heq => ?_)
          · exact bad h hjl fun hg => hne (by
              have h5 := hg.2.2.2.2.1
              rw [← hrc] at h5
              exact h5.symm)
          · have hgj : goodC b j := ⟨hrc ▸ hoc, hmc ▸ hoe, by rw [← hrc, ← hmc]; exact hro, by rw [← hrc]; exact hin, by rw [← hrc]; exact heq.symm, by rw [← hrc]; exact hkn⟩
            refine ⟨(), rfl, ?_⟩
            refine r_any fun _ => ?_
            refine r_draw h fun w12 h => ?_
            have hlk : ∀ {v : World} {V : List Blk}, At w v (V ++ ([(b27, ledC s t sk, ty_impl_ledger)] ++ (Lk ++ ([(b1, bkC s t, ty_impl_Book)] ++ [])))) → ldOk v 1 ((⟨b27, 0, none⟩ : Addr).add 2) .slice sk := fun h => ldOk_own (sh := .slice) h.pl1 0 rfl 2 rfl (by simp [Sh.emb])
            refine r_ldN sk (hlk h) ?_
            refine r_ldA h 0 rfl rfl (by simp [hck.1]) ?_
            refine r_bs1 T_sl_Key h (by simp [Value.cells, hck.1]) (by omega) fun y92 w13 hy hyn => ?_
            obtain ⟨Ly, hOy, h⟩ := hy.split
            have h : At w w13 ((Ly ++ [(b9, (u8s (ckey r.pc)).toArray, ty_impl_Key), (b6, r.cells.toArray, ty_impl_Commit)]) ++ ([(b27, ledC s t sk, ty_impl_ledger)] ++ (Lk ++ ([(b1, bkC s t, ty_impl_Book)] ++ [])))) := by rw [List.append_assoc]; exact h
            refine r_chk1 (hlk h) ?_
            refine r_append T_sl_Key (hOk.slo h.pl2) (hOy.sl h ((List.sublist_append_left _ _).trans (List.sublist_append_left _ _))) (by simpa [Value.cells] using u8s_one) (by omega) (by omega) fun y93 w14 hS93 hn93 => ?_
            obtain ⟨Lk', hOk', h⟩ := hS93.split
            have h : At w w14 (Lk' ++ (((Ly ++ [(b9, (u8s (ckey r.pc)).toArray, ty_impl_Key), (b6, r.cells.toArray, ty_impl_Commit)])) ++ ([(b27, ledC s t sk, ty_impl_ledger)] ++ ([(b1, bkC s t, ty_impl_Book)] ++ [])))) := h
            have h := h.dr1.pl1
            refine r_st h 0 (o := 2) rfl (add_lit _ _ _) (by simp [ledC]) rfl fun w15 h => ?_
            have h : At w w15 ([(b27, ledC s t y93, ty_impl_ledger)] ++ (Lk' ++ ([(b1, bkC s t, ty_impl_Book)] ++ []))) := h
            refine ⟨((j + 1 : Nat) : Int), by rw [w64 (by omega) (by omega)]; rfl, ⟨j + 1, y93, Lk', rfl, by omega, fun m hm => ?_, h, ?_, by omega⟩, by omega⟩
            · by_cases hmj : m = j
              · subst hmj; exact hgj
              · exact hgood m (by omega)
            · rw [take_succ_get (keysB_get hjl), List.flatMap_append, ← hrc]
              simpa [Value.cells] using hOk'
      · rw [decide_eq_false hin] at hr1
        subst hr1
        refine r_true rfl ?_
        exact bad h hjl fun hg => hin (by
          have h4 := hg.2.2.2.1
          rw [← hrc] at h4
          exact h4)
    · refine r_draw h fun w6 h => ?_
      refine r_ldA h 0 rfl rfl (by simp [hl]) ?_
      refine r_call h (c_ValidCommit hko (hok.at h) (by omega)) fun r37 w7 h _ hr37 => ?_
      subst hr37
      by_cases hoc : okC r.pc
      · rw [decide_eq_true hoc]
        refine r_false rfl ?_
        refine r_ld h.pl3 0 rfl (add_lit _ _ _) t (by simp [Sh.emb]) rfl ?_
        refine r_ix q hq (by omega) (by omega) ?_
        simp only [Int.toNat_natCast]
        refine r_ldN mr.d (ldOk_below h.below hmd) ?_
        refine r_call h (c_ValidEntries (SlOf.at hmo h) (by omega)) fun r45 w8 h _ hr45 => ?_
        subst hr45
        by_cases hoe : okE mr.es
        · rw [decide_eq_true hoe]
          refine r_false rfl ?_
          have hents := okE_ents hoe
          have h64 := hoe.2
          have hrk := trKey_ok (treeF (mr.es.length + 1) mr.es)
          have tb : ∀ {v : World} {V : List Blk}, At w v (V ++ ([(b6, r.cells.toArray, ty_impl_Commit)] ++ ([(b27, ledC s t sk, ty_impl_ledger)] ++ (Lk ++ ([(b1, bkC s t, ty_impl_Book)] ++ []))))) → ldOk v 1 ((⟨b1, 0, none⟩ : Addr).add 1) .slice t := fun h => ldOk_own (sh := .slice) h.pl4 0 rfl 1 rfl (by simp [Sh.emb])
          have tr : ∀ {v : World} {V : List Blk}, At w v (V ++ ([(b6, r.cells.toArray, ty_impl_Commit)] ++ ([(b27, ledC s t sk, ty_impl_ledger)] ++ (Lk ++ ([(b1, bkC s t, ty_impl_Book)] ++ []))))) → ldOk v 32 ((⟨b6, 0, none⟩ : Addr).add 0) .agg (u8s r.root).toArray := fun h => (cmAt_of hko (ldOk_blk h.pl1 0 rfl (by simp [hl]))).key
          have noG : ∀ {v : World} {X : List Blk}, At w v X → r.root ≠ trKey (treeF (mr.es.length + 1) mr.es) → _ := fun h hne => bad h hjl (fun hg => hne (by
            have h3 := hg.2.2.1
            rw [← hrc, ← hmc] at h3
            exact h3))
          have h : At w w8 ([] ++ ([(b6, r.cells.toArray, ty_impl_Commit)] ++ ([(b27, ledC s t sk, ty_impl_ledger)] ++ (Lk ++ ([(b1, bkC s t, ty_impl_Book)] ++ []))))) := h
          refine r_all2 ?_ ?_
          · refine r_ldN _ (tr h) ?_
            refine r_ldN t (tb h) ?_
            refine r_ix q hq (by omega) (by omega) ?_
            simp only [Int.toNat_natCast]
            refine r_ldN mr.d (ldOk_below h.below hmd) ?_
            refine r_call h (c_treeOf (SlOf.at hmo h) hents (by omega)) fun r56 w9 _ _ ⟨Lt, hLt, hOt⟩ => ?_
            have h : At w w9 (Lt ++ ([(b6, r.cells.toArray, ty_impl_Commit)] ++ ([(b27, ledC s t sk, ty_impl_ledger)] ++ (Lk ++ ([(b1, bkC s t, ty_impl_Book)] ++ []))))) := h.join hLt
            refine r_call h (c_trKey (hOt.rd h (List.sublist_append_left _ _))) fun r57 w10 h _ hr57 => ?_
            subst hr57
            exact r_rootEq hko.1 hrk.1 (noG h) (fun heq => ⟨(), rfl, ⟨hoc, hoe, heq⟩, h.right⟩)
          refine r_ldN t (tb h) ?_
          refine r_ix q hq (by omega) (by omega) ?_
          simp only [Int.toNat_natCast]
          refine r_all2 ?_ ?_
          · refine r_ldN _ (tr h) ?_
            refine r_ldN mr.d (ldOk_below h.below hmd) ?_
            refine r_call h (c_treeOf (SlOf.at hmo h) hents (by omega)) fun r56 w9 _ _ ⟨Lt, hLt, hOt⟩ => ?_
            have h : At w w9 (Lt ++ ([(b6, r.cells.toArray, ty_impl_Commit)] ++ ([(b27, ledC s t sk, ty_impl_ledger)] ++ (Lk ++ ([(b1, bkC s t, ty_impl_Book)] ++ []))))) := h.join hLt
            refine r_call h (c_trKey (hOt.rd h (List.sublist_append_left _ _))) fun r57 w10 h _ hr57 => ?_
            subst hr57
            exact r_rootEq hko.1 hrk.1 (noG h) (fun heq => ⟨(), rfl, ⟨hoc, hoe, heq⟩, h.right⟩)
          refine r_ldN mr.d (ldOk_below h.below hmd) ?_
          refine r_all2 ?_ ?_
          · refine r_ldN _ (tr h) ?_
            refine r_call h (c_treeOf (SlOf.at hmo h) hents (by omega)) fun r56 w9 _ _ ⟨Lt, hLt, hOt⟩ => ?_
            have h : At w w9 (Lt ++ ([(b6, r.cells.toArray, ty_impl_Commit)] ++ ([(b27, ledC s t sk, ty_impl_ledger)] ++ (Lk ++ ([(b1, bkC s t, ty_impl_Book)] ++ []))))) := h.join hLt
            refine r_call h (c_trKey (hOt.rd h (List.sublist_append_left _ _))) fun r57 w10 h _ hr57 => ?_
            subst hr57
            exact r_rootEq hko.1 hrk.1 (noG h) (fun heq => ⟨(), rfl, ⟨hoc, hoe, heq⟩, h.right⟩)
          refine r_call h (c_treeOf (SlOf.at hmo h) hents (by omega)) fun r56 w9 _ _ ⟨Lt, hLt, hOt⟩ => ?_
          have h : At w w9 (Lt ++ ([(b6, r.cells.toArray, ty_impl_Commit)] ++ ([(b27, ledC s t sk, ty_impl_ledger)] ++ (Lk ++ ([(b1, bkC s t, ty_impl_Book)] ++ []))))) := h.join hLt
          refine r_all2 ?_ ?_
          · refine r_ldN _ (tr h) ?_
            refine r_call h (c_trKey (hOt.rd h (List.sublist_append_left _ _))) fun r57 w10 h _ hr57 => ?_
            subst hr57
            exact r_rootEq hko.1 hrk.1 (noG h) (fun heq => ⟨(), rfl, ⟨hoc, hoe, heq⟩, h.right⟩)
          · refine r_call h (c_trKey (hOt.rd h (List.sublist_append_left _ _))) fun r57 w10 h _ hr57 => ?_
            subst hr57
            refine r_ldN _ (tr h) ?_
            exact r_rootEq hko.1 hrk.1 (noG h) (fun heq => ⟨(), rfl, ⟨hoc, hoe, heq⟩, h.right⟩)
        · rw [decide_eq_false hoe]
          refine r_true rfl ?_
          have hb := bad h hjl (fun hg => hoe (by rw [hmc]; exact hg.2.1))
          exact r_all2 hb (r_all2 hb (r_all2 hb (r_all2 hb hb)))
      · rw [decide_eq_false hoc]
        refine r_true rfl ?_
        have hb := bad h hjl (fun hg => hoc (by rw [hrc]; exact hg.1))
        exact r_all2 hb (r_all2 hb (r_all2 hb (r_all2 hb hb)))
  · have hjl : j = b.cms.length := by omega
    subst hjl
    rw [List.take_of_length_le (by rw [keysB_len]; exact Nat.le_refl _)] at hOk
    have hv : validB b := ⟨⟨by omega, by omega⟩, hgood⟩
    refine r_ret h.nil (some ⟨b27, 0, none⟩, true) rfl (.inl ⟨hv, b27, [(b27, ledC s t sk, ty_impl_ledger)] ++ Lk, rfl, ?_, sk, Lk, rfl, hOk⟩)
    have h : At w w3 (([(b27, ledC s t sk, ty_impl_ledger)] ++ Lk) ++ ([(b1, bkC s t, ty_impl_Book)] ++ [])) := by rw [List.append_assoc]; exact h
    exact h.left)

theorem c_open {w : World} {s t x : Sl} {rs : List CR} {ms : List ER} {b : PBk} {ks : List (List Int)} (hs : CsR w s rs) (ht : EssR w t ms) (hX : rs.map CR.pc = b.cms) (hM : ms.map ER.es = b.maps) (hx : KsR w x ks) (hz : sizeBook b ≤ 1073741824) (hkm : ks.length ≤ 1073741824) :
    Ret Tryz.prog n_impl_open [.agg (bkC s t), .slice x.a x.n x.c] w [.optr, .int .i64] (fun r w' => r.2 = openCode b ks ∧ (openCode b ks = 0 → validB b ∧ (∀ k ∈ ks, k ∈ keysB b) ∧ ∃ bl L, r.1 = some ⟨bl, 0, none⟩ ∧ At w w' L ∧ LedO bl b s t L)) := impl_open_calls _ _ (by
  unfold impl_open
  have hn := hx.n
  refine r_new (At.refl w) fun b2 w1 h => ?_
  have h : At w w1 [(b2, bkC s t, ty_impl_Book)] := h
  refine r_ldA h 0 rfl rfl rfl ?_
  refine r_call h (c_newLedger (hs.at h) (ht.at h) hX hM hz) fun r14 w2 h2 _ hr => ?_
  rcases hr with ⟨hv, bl, L, rfl, hL, hO⟩ | ⟨hv, rfl⟩
  · refine r_false rfl ?_
    have h : At w w2 (L ++ [(b2, bkC s t, ty_impl_Book)]) := h.join hL
    have hKl : (keysB b).length ≤ 40 := by rw [keysB_len]; exact hv.1.1
    refine r_loop (σ := Int) (fun i w' => ∃ j : Nat, i = j ∧ j ≤ ks.length ∧ (∀ k ∈ ks.take j, k ∈ keysB b) ∧ At w w' (L ++ [(b2, bkC s t, ty_impl_Book)])) (fun i _ => (x.n - i).toNat) 0 rfl ⟨0, rfl, by omega, by simp, h⟩ ?_
    clear h
    rintro i w3 ⟨j, rfl, hj, hin, h⟩
    refine r_any fun _ => ?_
    refine r_if ((j : Int) < (x.n : Int)) rfl (fun hlt => ?_) (fun hge => ?_)
    · obtain ⟨k, q, hk, hkm2, hq, hko, hkl⟩ := (hx.at h).get (i := j) (by omega)
      refine r_ix q hq (by omega) (by omega) ?_
      refine r_ldN (u8s k).toArray (by simp only [Int.toNat_natCast]; exact hkl) ?_
      refine r_new h fun b9 w4 h => ?_
      refine r_stA h 0 rfl rfl (by simp [hko.1]) (by simp [Value.cells]) (by simpa using u8s_one) fun w5 h => ?_
      have h : At w w5 ([(b9, (u8s k).toArray, ty_impl_Key)] ++ (L ++ [(b2, bkC s t, ty_impl_Book)])) := h
      refine r_ldA h 0 rfl rfl (by simp [hko.1]) ?_
      refine r_call h (c_led_find (hO.rd h ((List.sublist_append_left _ _).trans (List.sublist_append_right _ _)) (hs.at h) (ht.at h)) hko (by omega)) fun r28 w6 h _ hr28 => ?_
      subst hr28
      dsimp only
      by_cases hkK : k ∈ keysB b
      · rw [decide_eq_true hkK]
        refine r_false rfl ?_
        refine ⟨((j + 1 : Nat) : Int), by rw [w64 (by omega) (by omega)]; rfl, ⟨j + 1, rfl, by omega, fun y hy => ?_, h.right⟩, by omega⟩
        rw [take_succ_get hk] at hy
        rcases List.mem_append.1 hy with hy | hy
        · exact hin y hy
        · rw [List.mem_singleton.1 hy]; exact hkK
      · rw [decide_eq_false hkK]
        refine r_true rfl ?_
        have hc : openCode b ks = 6 := by unfold openCode; rw [if_pos hv, if_neg (fun hh => hkK (hh k hkm2))]
        exact r_ret h.nil (none, 6) rfl ⟨hc.symm, fun hh => by rw [hc] at hh; cases hh⟩
    · have hjl : j = ks.length := by omega
      subst hjl
      rw [List.take_of_length_le (Nat.le_refl _)] at hin
      have hc : openCode b ks = 0 := by unfold openCode; rw [if_pos hv, if_pos hin]
      exact r_ret h.nil (some ⟨bl, 0, none⟩, 0) rfl ⟨hc.symm, fun _ => ⟨hv, hin, bl, L, rfl, h.left, hO⟩⟩
  · refine r_true rfl ?_
    have hc : openCode b ks = 1 := by unfold openCode; rw [if_neg hv]
    exact r_ret h2.nil (none, 1) rfl ⟨hc.symm, fun hh => by rw [hc] at hh; cases hh⟩)
end Go.Proofs.YtkifkdkjljcclaaGreat
