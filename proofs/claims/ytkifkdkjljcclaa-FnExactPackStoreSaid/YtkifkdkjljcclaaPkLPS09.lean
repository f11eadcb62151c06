/- Contracts of the hash: blocks of some data, the state behind them, the key. -/
import Derived.Test.YtkifkdkjljcclaaPkLPS08
namespace Go.Proofs.Ytkifkdkjljcclaa
open Go.Sx Go.RowKit

def mixAll (l : List Int) : Nat → List Int → List Int
  | 0, st => st
  | k + 1, st => mixW (mixAll l k st) (wordsL ((l.drop (32 * k)).take 32))
def wordsOk (st : List Int) : Prop := st.length = 8 ∧ ∀ x ∈ st, 0 ≤ x ∧ x < 4294967296
theorem wrapu32_bd (n : Int) : 0 ≤ IntKind.wrap .u32 n ∧ IntKind.wrap .u32 n < 4294967296 := by
  have : IntKind.wrap .u32 n = n % 4294967296 := by simp [IntKind.wrap, IntKind.bits, IntKind.signed]
  omega
theorem xorL_ok (s t : List Int) : wordsOk (xorL s t) := by
  refine ⟨by simp [xorL], fun x hx => ?_⟩
  simp only [xorL, List.mem_map] at hx
  obtain ⟨i, _, rfl⟩ := hx
  exact wrapu32_bd _
theorem mixW_ok (st m : List Int) : wordsOk (mixW st m) := xorL_ok _ _
theorem startL_ok (tag : Int) : wordsOk (startL tag) := by
  refine ⟨by simp [startL], fun x hx => ?_⟩
  simp only [startL, List.mem_map] at hx
  obtain ⟨i, _, rfl⟩ := hx
  exact wrapu32_bd _
theorem mixAll_ok {l st : List Int} (h : wordsOk st) : ∀ k, wordsOk (mixAll l k st)
  | 0 => h
  | _ + 1 => mixW_ok _ _
theorem wordsOk.get {st : List Int} (h : wordsOk st) (i : Nat) : 0 ≤ st.getD i 0 ∧ st.getD i 0 < 4294967296 := by
  rcases Nat.lt_or_ge i st.length with hi | hi
  · have : st.getD i 0 = st[i] := by simp [List.getD, hi]
    rw [this]
    exact h.2 _ (List.getElem_mem _)
  · simp [List.getD, List.getElem?_eq_none hi]

def keyB (st : List Int) : List Int := (List.range 32).map fun i => st.getD (i / 4) 0 / 2 ^ (8 * (i % 4)) % 256
theorem keyB_len (st : List Int) : (keyB st).length = 32 := by simp [keyB]
theorem keyB_ok (st : List Int) : bytesOk (keyB st) := by
  intro b hb
  simp only [keyB, List.mem_map] at hb
  obtain ⟨i, _, rfl⟩ := hb
  omega
theorem keyB_get (st : List Int) {i : Nat} (h : i < 32) : (keyB st)[i]? = some (st.getD (i / 4) 0 / 2 ^ (8 * (i % 4)) % 256) := by simp [keyB, h]

def hashL (tag : Int) (d : List Int) : List Int := keyB (mixAll (d ++ padT d.length d.length) ((d ++ padT d.length d.length).length / 32) (startL tag))
theorem hashL_len (tag : Int) (d : List Int) : (hashL tag d).length = 32 := keyB_len _
theorem hashL_ok (tag : Int) (d : List Int) : bytesOk (hashL tag d) := keyB_ok _

theorem c_l01End {s : Sl} {d st : List Int} {w : World} (hs : SlAt w s 1 (u8s d)) (hst : wordsOk st) (hb : bytesOk d) (len : Int) (h0 : 0 ≤ len) (hl : len ≤ 9223372036854775807) (hmax : d.length ≤ 70368744177664) :
    Ret Try.prog n_spec_l01End [.agg (u32s st).toArray, .slice s.a s.n s.c, .int .i64 len] w [.agg] (fun cs _ => cs = (u8s (keyB (mixAll (d ++ padT d.length len) ((d ++ padT d.length len).length / 32) st))).toArray) := spec_l01End_calls _ s len (by
  unfold spec_l01End
  refine r_new (At.refl w) fun b3 w2 h => ?_
  refine r_new h fun b6 w3 h => ?_
  refine r_callS h (c_l01Padded (hs.at h) len h0 hl hmax) fun p w4 hp' hpn => ?_
  have hpb : bytesOk (d ++ padT d.length len) := hb.append (padT_ok _ _)
  have hpm : (d ++ padT d.length len).length % 32 = 0 := by rw [List.length_append]; exact padT_mod _ _
  have hplen : (d ++ padT d.length len).length ≤ d.length + 41 := by rw [List.length_append, padT_len]; unfold padZ; omega
  have hpl1 : 9 ≤ (d ++ padT d.length len).length := by rw [List.length_append, padT_len]; omega
  generalize d ++ padT d.length len = l at *
  have hpl9 : 0 < p.n := by rw [hpn]; omega
  obtain ⟨g, cur, hpa, h, hpc, htk⟩ := hp'.entry hpl9
  have hread : ∀ w' A3 A6, At w w' [(g, cur, ty_uint8), (b6, A6, ty_impl_Key), (b3, A3, ty_arr8_uint32)] → SlAt w' p 1 (u8s l) := fun w' A3 A6 hA => hA.sl 0 (o := 0) rfl hpa hp'.len (by simpa using htk)
  refine r_loop (σ := Int) (fun i w' => ∃ k : Nat, i = ((32 * k : Nat) : Int) ∧ 32 * k ≤ l.length ∧ At w w' [(g, cur, ty_uint8), (b6, Array.replicate 32 (.int .u8 0), ty_impl_Key), (b3, (u32s (mixAll l k st)).toArray, ty_arr8_uint32)]) (fun i _ => (l.length - i).toNat) 0 rfl
    ⟨0, rfl, by omega, h⟩ ?_
  rintro i w5 ⟨k, rfl, hk, h⟩
  refine r_any fun _ => ?_
  have hok := mixAll_ok (l := l) hst k
  refine r_if (((32 * k : Nat) : Int) < (p.n : Int)) rfl (fun hlt => ?_) (fun hge => ?_)
  · refine r_draw h fun w6 h => ?_
    refine r_ldA h 2 rfl rfl (by simp [hok.1]) ?_
    refine r_call h (c_l01Block (hread _ _ _ h) (32 * k) (by omega) (by omega)) fun bl w7 h _ hbl => ?_
    subst hbl
    refine r_chk1 (ldOk_blk h 2 rfl (by simp [hok.1])) ?_
    refine r_call h (c_l01Mix _ _ hok.1 (by simp; omega) ((hpb.drop _).take _) _) fun ms w8 h _ hms => ?_
    subst hms
    refine r_stA h 2 rfl rfl (by simp [mixW_len]) (by simp [hok.1]) (by simpa using u32s_one) fun w9 h => ?_
    refine ⟨((32 * (k + 1) : Nat) : Int), by rw [w64 (by omega) (by omega)]; show _ = [Value.int .i64 _]; congr 2, ⟨k + 1, rfl, by omega, h⟩, by omega⟩
  · have hkl : k = l.length / 32 := by omega
    rw [← hkl]
    generalize mixAll l k st = fin at h hok
    refine r_new h fun b9 w6 h => ?_
    refine r_stA h 0 rfl rfl (by simp) (by simp [Value.cells]) rep_one fun w7 h => ?_
    obtain ⟨B, hB⟩ : ∃ B, B = List.replicate 32 (Value.int .u8 0) := ⟨_, rfl⟩
    have hB8 : B.length = 32 := by rw [hB, List.length_replicate]
    have hBA : B.toArray = Array.replicate 32 (Value.int .u8 0) := by rw [hB]; rfl
    have hlen : (u8s (keyB fin)).length = B.length := by rw [u8s_len, keyB_len, hB8]
    refine r_loop (σ := Int) (fun i w' => ∃ j : Nat, i = j ∧ j ≤ 32 ∧ At w w' [(b9, mix (u8s (keyB fin)) B j, ty_impl_Key), (g, cur, ty_uint8), (b6, Array.replicate 32 (.int .u8 0), ty_impl_Key), (b3, (u32s fin).toArray, ty_arr8_uint32)]) (fun i _ => (32 - i).toNat) 0 rfl
      ⟨0, rfl, by omega, by rw [mix_zero, hBA]; exact h⟩ ?_
    rintro i w8 ⟨j, rfl, hj, h⟩
    refine r_any fun _ => ?_
    refine r_if ((j : Int) < 32) rfl (fun hlt => ?_) (fun hge => ?_)
    · have e1 : IntKind.wrap .i64 (Int.tdiv (j : Int) 4) = ((j / 4 : Nat) : Int) := by rw [Int.tdiv_eq_ediv_of_nonneg (by omega), w64 (by omega) (by omega)]; omega
      have e2 : IntKind.wrap .u64 (IntKind.wrap .i64 (8 * Int.tmod (j : Int) 4)) = ((8 * (j % 4) : Nat) : Int) := by rw [Int.tmod_eq_emod_of_nonneg (by omega), w64 (by omega) (by omega), wrapu64 (by omega) (by omega)]; omega
      rw [e1]
      refine r_ix ⟨b3, 0, none⟩ rfl (by omega) (by omega) ?_
      refine r_ld h 3 rfl (add_lit _ _ _) (fin.getD (j / 4) 0) (by simp [Sh.emb]) (by simp only [Int.toNat_natCast, Nat.zero_add, Nat.mul_one]; exact u32s_arr (by have := hok.1; omega)) ?_
      refine r_pur _ (fun w' => run_shr (by rw [e2]; omega) w') ?_
      refine r_ix ⟨b9, 0, none⟩ rfl (by omega) (by omega) ?_
      refine r_st h 0 rfl (add_lit _ _ _) (by rw [mix_size hlen (by omega)]; simp only [Int.toNat_natCast]; omega) rfl fun w9 h => ?_
      refine ⟨((j + 1 : Nat) : Int), by rw [w64 (by omega) (by omega)]; rfl, ⟨j + 1, rfl, by omega, ?_⟩, by omega⟩
      have hv : IntKind.wrap .u8 ((fin.getD (j / 4) 0).fdiv (2 ^ min (IntKind.wrap .u64 (IntKind.wrap .i64 (8 * Int.tmod (j : Int) 4))).toNat (IntKind.bits .u32))) = fin.getD (j / 4) 0 / 2 ^ (8 * (j % 4)) % 256 := by
        rw [e2, show min ((8 * (j % 4) : Nat) : Int).toNat (IntKind.bits .u32) = 8 * (j % 4) by rw [show IntKind.bits .u32 = 32 from rfl]; omega, wrapu8, Int.fdiv_eq_ediv_of_nonneg _ (Int.le_of_lt (Int.pow_pos (by omega)))]
      rw [hv] at h
      have hset := mix_set (A := u8s (keyB fin)) (B := B) hlen (k := j) (v := .int .u8 (fin.getD (j / 4) 0 / 2 ^ (8 * (j % 4)) % 256)) (by simp [u8s, keyB_get fin (show j < 32 by omega)])
      rw [← hset]
      simp only [Int.toNat_natCast, Nat.zero_add, Nat.mul_one, List.set_cons_zero] at h
      exact h
    · have : j = 32 := by omega
      subst this
      have e8 : mix (u8s (keyB fin)) B 32 = (u8s (keyB fin)).toArray := by
        have := mix_all (A := u8s (keyB fin)) (B := B) (by omega)
        rwa [u8s_len, keyB_len] at this
      rw [e8] at h
      refine r_ldA h 0 rfl rfl (by simp [keyB_len]) ?_
      refine r_stA h 2 rfl rfl (by simp [keyB_len]) (by simp) (by simpa using u8s_one) fun w6 h => ?_
      refine r_ldA h 2 rfl rfl (by simp [keyB_len]) ?_
      exact r_ret h _ rfl rfl)

theorem c_l01Hash (tag : Int) {s : Sl} {d : List Int} {w : World} (hs : SlAt w s 1 (u8s d)) (hb : bytesOk d) (hmax : d.length ≤ 70368744177664) :
    Ret Try.prog n_spec_l01Hash [.int .u8 tag, .slice s.a s.n s.c] w [.agg] (fun cs _ => cs = (u8s (hashL tag d)).toArray) := spec_l01Hash_calls tag s (by
  unfold spec_l01Hash
  have hn := sl_len hs
  refine r_new (At.refl w) fun b4 w2 h => ?_
  refine r_call h (c_l01Start tag w2) fun st w3 h _ hst => ?_
  subst hst
  rw [hn]
  refine r_call h (by have := c_l01End (hs.at h) (startL_ok tag) hb d.length (by omega) (by omega) hmax; rw [hn] at this; exact this) fun k w4 h _ hk => ?_
  subst hk
  refine r_stA h 0 rfl rfl (by simp [keyB_len]) (by simp [Value.cells]) (by simpa using u8s_one) fun w6 h => ?_
  refine r_ldA h 0 rfl rfl (by simp [keyB_len]) ?_
  exact r_ret h _ rfl rfl)

theorem run_arrayAt {P : Program} {t e : TypeId} {n : Nat} (hu : P.underlying t = some (.array n e)) {a : Addr} {m c : Nat} (h : n ≤ m) (w : World) : (Instr.arrayAt t (.slice (some a) m c)).run P w = .ok (.pointer (some a)) w := by
  have : ¬ m < n := by omega
  simp [Instr.arrayAt, run_underlying hu, this]

theorem take_drop_snoc {l : List Value} {k n : Nat} (h : k + n ≤ l.length) : l.take k ++ (l.drop k).take n = l.take (k + n) := by
  rw [List.take_add]

theorem c_blocks {s : Sl} {l : List Int} {w : World} (hs : SlAt w s 1 (u8s l)) (hc : s.n ≤ s.c) (hmax : l.length ≤ 70368744177664) :
    Ret Try.prog n_impl_blocks [.slice s.a s.n s.c] w [.slice, .slice] (fun r w' => SlO w w' [] ty_arr32_uint8 32 r.1 (u8s (l.take (32 * (l.length / 32)))) ∧ r.1.n = l.length / 32 ∧ SlAt w' r.2 1 (u8s (l.drop (32 * (l.length / 32)))) ∧ r.2.n ≤ r.2.c) := impl_blocks_calls s (by
  unfold impl_blocks
  have hn := sl_len hs
  refine r_bs0 T_sl_arr32 (At.refl w) fun o w1 ho hon => ?_
  refine r_loop (σ := Sl × Sl) (fun i w' => ∃ k : Nat, 32 * k ≤ l.length ∧ SlAt w i.1 1 (u8s (l.drop (32 * k))) ∧ i.1.n ≤ i.1.c ∧ SlO w w' [] ty_arr32_uint8 32 i.2 (u8s (l.take (32 * k))) ∧ i.2.n = k) (fun i _ => i.1.n) (s, o) rfl
    ⟨0, by omega, by simpa using hs, hc, by simpa [u8s] using ho, hon⟩ ?_
  rintro ⟨d, o1⟩ w2 ⟨k, hk, hd, hdc, h, hok⟩
  dsimp only at hd hdc h hok
  refine r_any fun _ => ?_
  dsimp only
  have hdn := sl_len hd
  rw [List.length_drop] at hdn
  refine r_if ((d.n : Int) ≥ 32) rfl (fun hge => ?_) (fun hlt => ?_)
  · have h32 : 32 ≤ (u8s (l.drop (32 * k))).length := by simp; omega
    obtain ⟨p, hp, _⟩ := hd.cell 0 _ (List.getElem?_eq_getElem (by omega))
    refine r_pur p (fun w' => by rw [hp]; exact run_arrayAt (n := 32) (e := ty_uint8) (by kernel_rfl) (by omega) w') ?_
    refine r_ldO h.at_ _ (hd.agg hp h32) (by simp) ?_
    have hcut : u8s (l.take (32 * (k + 1))) = u8s (l.take (32 * k)) ++ ((u8s (l.drop (32 * k))).take 32) := by
      have := take_drop_snoc (l := u8s l) (k := 32 * k) (n := 32) (by simp; omega)
      simp only [u8s, List.map_take, List.map_drop] at this ⊢
      rw [this, show 32 * (k + 1) = 32 * k + 32 by omega]
    have hv32 : ((u8s (l.drop (32 * k))).take 32).length = 32 := by rw [List.length_take]; omega
    refine r_push T_sl_arr32 h (v := .agg ((u8s (l.drop (32 * k))).take 32).toArray) (by simpa [Value.cells] using hv32) (by omega) (by intro v hv; exact u8s_one v (List.mem_of_mem_take (by simpa [Value.cells] using hv))) (by omega) (by omega) fun o2 w3 h3 hn3 => ?_
    refine r_slS hd (by omega) 32 d.n rfl rfl (by omega) (by omega) hdc fun d2 hn2 hc2 hd2 => ?_
    have hd2 : SlAt w d2 1 (u8s (l.drop (32 * (k + 1)))) := by
      have e : ((u8s (l.drop (32 * k))).drop (32 * 1)).take ((d.n - 32) * 1) = u8s (l.drop (32 * (k + 1))) := by
        simp only [u8s, ← List.map_drop, ← List.map_take, List.drop_drop, Nat.mul_one]
        rw [List.take_of_length_le (by rw [List.length_drop]; omega), show 32 * k + 32 = 32 * (k + 1) by omega]
      rwa [e] at hd2
    refine ⟨(d2, o2), rfl, ⟨k + 1, by omega, hd2, by dsimp only; omega, by rw [hcut]; simpa [Value.cells] using h3, by dsimp only; omega⟩, by dsimp only; omega⟩
  · have : l.length / 32 = k := by omega
    rw [this]
    exact r_ret h.at_ (o1, d) rfl ⟨h, hok, hd.at h.at_, hdc⟩)

end Go.Proofs.Ytkifkdkjljcclaa
