/- Contracts of the hash: blocks of some data, the state behind them, the key. Contracts of the hash: the program's side, and the key of two keys. -/
import Derived.Test.YtkifkdkjljcclaaGreatPkLTor12
namespace Go.Proofs.YtkifkdkjljcclaaGreat
open Go.Sx Go.RowKit

def mixAll (l : List Int) : Nat → List Int → List Int
  | 0, st => st
  | k + 1, st => mixW (mixAll l k st) (wordsL ((l.drop (32 * k)).take 32))
def wordsOk (st : List Int) : Prop := st.length = 8 ∧ ∀ x ∈ st, 0 ≤ x ∧ x < 4294967296
theorem wrapu32_bd (n : Int) : 0 ≤ IntKind.wrap .u32 n ∧ IntKind.wrap .u32 n < 4294967296 := by
  have : IntKind.wrap .u32 n = n % 4294967296 := by simp [IntKind.wrap, IntKind.bits, IntKind.signed]
  omega
theorem xorL_ok (s t : List Int) : wordsOk (xorL s t) := by
  refine ⟨by simp [xorL], fun x hx => ?_⟩
  simp only [xorL, List.mem_map] at hx
  obtain ⟨i, _, rfl⟩ := hx
  exact wrapu32_bd _
theorem mixW_ok (st m : List Int) : wordsOk (mixW st m) := xorL_ok _ _
theorem startL_ok (tag : Int) : wordsOk (startL tag) := by
  refine ⟨by simp [startL], fun x hx => ?_⟩
  simp only [startL, List.mem_map] at hx
  obtain ⟨i, _, rfl⟩ := hx
  exact wrapu32_bd _
theorem mixAll_ok {l st : List Int} (h : wordsOk st) : ∀ k, wordsOk (mixAll l k st)
  | 0 => h
  | _ + 1 => mixW_ok _ _
theorem wordsOk.get {st : List Int} (h : wordsOk st) (i : Nat) : 0 ≤ st.getD i 0 ∧ st.getD i 0 < 4294967296 := by
  rcases Nat.lt_or_ge i st.length with hi | hi
  · have : st.getD i 0 = st[i] := by simp [List.getD, hi]
    rw [this]
    exact h.2 _ (List.getElem_mem _)
  · simp [List.getD, List.getElem?_eq_none hi]

def keyB (st : List Int) : List Int := (List.range 32).map fun i => st.getD (i / 4) 0 / 2 ^ (8 * (i % 4)) % 256
theorem keyB_len (st : List Int) : (keyB st).length = 32 := by simp [keyB]
theorem keyB_ok (st : List Int) : bytesOk (keyB st) := by
  intro b hb
  simp only [keyB, List.mem_map] at hb
  obtain ⟨i, _, rfl⟩ := hb
  omega
theorem keyB_get (st : List Int) {i : Nat} (h : i < 32) : (keyB st)[i]? = some (st.getD (i / 4) 0 / 2 ^ (8 * (i % 4)) % 256) := by simp [keyB, h]

def hashL (tag : Int) (d : List Int) : List Int := keyB (mixAll (d ++ padT d.length d.length) ((d ++ padT d.length d.length).length / 32) (startL tag))
theorem hashL_len (tag : Int) (d : List Int) : (hashL tag d).length = 32 := keyB_len _
theorem hashL_ok (tag : Int) (d : List Int) : bytesOk (hashL tag d) := keyB_ok _

theorem c_l01End {s : Sl} {d st : List Int} {w : World} (hs : SlAt w s 1 (u8s d)) (hst : wordsOk st) (hb : bytesOk d) (len : Int) (h0 : 0 ≤ len) (hl : len ≤ 9223372036854775807) (hmax : d.length ≤ 70368744177664) :
    Ret Tryz.prog n_spec_l01End [.agg (u32s st).toArray, .slice s.a s.n s.c, .int .i64 len] w [.agg] (fun cs _ => cs = (u8s (keyB (mixAll (d ++ padT d.length len) ((d ++ padT d.length len).length / 32) st))).toArray) := spec_l01End_calls _ s len (by
  unfold spec_l01End
  refine r_new (At.refl w) fun b3 w2 h => ?_
  refine r_new h fun b6 w3 h => ?_
  refine r_callS h (c_l01Padded (hs.at h) len h0 hl hmax) fun p w4 hp' hpn => ?_
  have hpb : bytesOk (d ++ padT d.length len) := hb.append (padT_ok _ _)
  have hpm : (d ++ padT d.length len).length % 32 = 0 := by rw [List.length_append]; exact padT_mod _ _
  have hplen : (d ++ padT d.length len).length ≤ d.length + 41 := by rw [List.length_append, padT_len]; unfold padZ; omega
  have hpl1 : 9 ≤ (d ++ padT d.length len).length := by rw [List.length_append, padT_len]; omega
  generalize d ++ padT d.length len = l at *
  have hpl9 : 0 < p.n := by rw [hpn]; omega
  obtain ⟨g, cur, hpa, h, hpc, htk⟩ := hp'.entry hpl9
  have hread : ∀ w' A3 A6, At w w' [(g, cur, ty_uint8), (b6, A6, ty_impl_Key), (b3, A3, ty_arr8_uint32)] → SlAt w' p 1 (u8s l) := fun w' A3 A6 hA => hA.sl 0 (o := 0) rfl hpa hp'.len (by simpa using htk)
  refine r_loop (σ := Int) (fun i w' => ∃ k : Nat, i = ((32 * k : Nat) : Int) ∧ 32 * k ≤ l.length ∧ At w w' [(g, cur, ty_uint8), (b6, Array.replicate 32 (.int .u8 0), ty_impl_Key), (b3, (u32s (mixAll l k st)).toArray, ty_arr8_uint32)]) (fun i _ => (l.length - i).toNat) 0 rfl
    ⟨0, rfl, by omega, h⟩ ?_
  rintro i w5 ⟨k, rfl, hk, h⟩
  refine r_any fun _ => ?_
  have hok := mixAll_ok (l := l) hst k
  refine r_if (((32 * k : Nat) : Int) < (p.n : Int)) rfl (fun hlt => ?_) (fun hge => ?_)
  · refine r_draw h fun w6 h => ?_
    refine r_ldA h 2 rfl rfl (by simp [hok.1]) ?_
    refine r_call h (c_l01Block (hread _ _ _ h) (32 * k) (by omega) (by omega)) fun bl w7 h _ hbl => ?_
    subst hbl
    refine r_chk1 (ldOk_blk h 2 rfl (by simp [hok.1])) ?_
    refine r_call h (c_l01Mix _ _ hok.1 (by simp; omega) ((hpb.drop _).take _) _) fun ms w8 h _ hms => ?_
    subst hms
    refine r_stA h 2 rfl rfl (by simp [mixW_len]) (by simp [hok.1]) (by simpa using u32s_one) fun w9 h => ?_
    refine ⟨((32 * (k + 1) : Nat) : Int), by rw [w64 (by omega) (by omega)]; show _ = [Value.int .i64 _]; congr 2, ⟨k + 1, rfl, by omega, h⟩, by omega⟩
  · have hkl : k = l.length / 32 := by omega
    rw [← hkl]
    generalize mixAll l k st = fin at h hok
    refine r_new h fun b9 w6 h => ?_
    refine r_stA h 0 rfl rfl (by simp) (by simp [Value.cells]) rep_one fun w7 h => ?_
    obtain ⟨B, hB⟩ : ∃ B, B = List.replicate 32 (Value.int .u8 0) := ⟨_, rfl⟩
    have hB8 : B.length = 32 := by rw [hB, List.length_replicate]
    have hBA : B.toArray = Array.replicate 32 (Value.int .u8 0) := by rw [hB]; rfl
    have hlen : (u8s (keyB fin)).length = B.length := by rw [u8s_len, keyB_len, hB8]
    refine r_loop (σ := Int) (fun i w' => ∃ j : Nat, i = j ∧ j ≤ 32 ∧ At w w' [(b9, mix (u8s (keyB fin)) B j, ty_impl_Key), (g, cur, ty_uint8), (b6, Array.replicate 32 (.int .u8 0), ty_impl_Key), (b3, (u32s fin).toArray, ty_arr8_uint32)]) (fun i _ => (32 - i).toNat) 0 rfl
      ⟨0, rfl, by omega, by rw [mix_zero, hBA]; exact h⟩ ?_
    rintro i w8 ⟨j, rfl, hj, h⟩
    refine r_any fun _ => ?_
    refine r_if ((j : Int) < 32) rfl (fun hlt => ?_) (fun hge => ?_)
    · have e1 : IntKind.wrap .i64 (Int.tdiv (j : Int) 4) = ((j / 4 : Nat) : Int) := by rw [Int.tdiv_eq_ediv_of_nonneg (by omega), w64 (by omega) (by omega)]; omega
      have e2 : IntKind.wrap .u64 (IntKind.wrap .i64 (8 * Int.tmod (j : Int) 4)) = ((8 * (j % 4) : Nat) : Int) := by rw [Int.tmod_eq_emod_of_nonneg (by omega), w64 (by omega) (by omega), wrapu64 (by omega) (by omega)]; omega
      rw [e1]
      refine r_ix ⟨b3, 0, none⟩ rfl (by omega) (by omega) ?_
      refine r_ld h 3 rfl (add_lit _ _ _) (fin.getD (j / 4) 0) (by simp [Sh.emb]) (by simp only [Int.toNat_natCast, Nat.zero_add, Nat.mul_one]; exact u32s_arr (by have := hok.1; omega)) ?_
      refine r_pur _ (fun w' => run_shr (by rw [e2]; omega) w') ?_
      refine r_ix ⟨b9, 0, none⟩ rfl (by omega) (by omega) ?_
      refine r_st h 0 rfl (add_lit _ _ _) (by rw [mix_size hlen (by omega)]; simp only [Int.toNat_natCast]; omega) rfl fun w9 h => ?_
      refine ⟨((j + 1 : Nat) : Int), by rw [w64 (by omega) (by omega)]; rfl, ⟨j + 1, rfl, by omega, ?_⟩, by omega⟩
      have hv : IntKind.wrap .u8 ((fin.getD (j / 4) 0).fdiv (2 ^ min (IntKind.wrap .u64 (IntKind.wrap .i64 (8 * Int.tmod (j : Int) 4))).toNat (IntKind.bits .u32))) = fin.getD (j / 4) 0 / 2 ^ (8 * (j % 4)) % 256 := by
        rw [e2, show min ((8 * (j % 4) : Nat) : Int).toNat (IntKind.bits .u32) = 8 * (j % 4) by rw [show IntKind.bits .u32 = 32 from rfl]; omega, wrapu8, Int.fdiv_eq_ediv_of_nonneg _ (Int.le_of_lt (Int.pow_pos (by omega)))]
      rw [hv] at h
      have hset := mix_set (A := u8s (keyB fin)) (B := B) hlen (k := j) (v := .int .u8 (fin.getD (j / 4) 0 / 2 ^ (8 * (j % 4)) % 256)) (by simp [u8s, keyB_get fin (show j < 32 by omega)])
      rw [← hset]
      simp only [Int.toNat_natCast, Nat.zero_add, Nat.mul_one, List.set_cons_zero] at h
      exact h
    · have : j = 32 := by omega
      subst this
      have e8 : mix (u8s (keyB fin)) B 32 = (u8s (keyB fin)).toArray := by
        have := mix_all (A := u8s (keyB fin)) (B := B) (by omega)
        rwa [u8s_len, keyB_len] at this
      rw [e8] at h
      refine r_ldA h 0 rfl rfl (by simp [keyB_len]) ?_
      refine r_stA h 2 rfl rfl (by simp [keyB_len]) (by simp) (by simpa using u8s_one) fun w6 h => ?_
      refine r_ldA h 2 rfl rfl (by simp [keyB_len]) ?_
      exact r_ret h _ rfl rfl)

theorem c_l01Hash (tag : Int) {s : Sl} {d : List Int} {w : World} (hs : SlAt w s 1 (u8s d)) (hb : bytesOk d) (hmax : d.length ≤ 70368744177664) :
    Ret Tryz.prog n_spec_l01Hash [.int .u8 tag, .slice s.a s.n s.c] w [.agg] (fun cs _ => cs = (u8s (hashL tag d)).toArray) := spec_l01Hash_calls tag s (by
  unfold spec_l01Hash
  have hn := sl_len hs
  refine r_new (At.refl w) fun b4 w2 h => ?_
  refine r_call h (c_l01Start tag w2) fun st w3 h _ hst => ?_
  subst hst
  rw [hn]
  refine r_call h (by have := c_l01End (hs.at h) (startL_ok tag) hb d.length (by omega) (by omega) hmax; rw [hn] at this; exact this) fun k w4 h _ hk => ?_
  subst hk
  refine r_stA h 0 rfl rfl (by simp [keyB_len]) (by simp [Value.cells]) (by simpa using u8s_one) fun w6 h => ?_
  refine r_ldA h 0 rfl rfl (by simp [keyB_len]) ?_
  exact r_ret h _ rfl rfl)

theorem run_arrayAt {P : Program} {t e : TypeId} {n : Nat} (hu : P.underlying t = some (.array n e)) {a : Addr} {m c : Nat} (h : n ≤ m) (w : World) : (Instr.arrayAt t (.slice (some a) m c)).run P w = .ok (.pointer (some a)) w := by
  have : ¬ m < n := by omega
  simp [Instr.arrayAt, run_underlying hu, this]

theorem take_drop_snoc {l : List Value} {k n : Nat} (h : k + n ≤ l.length) : l.take k ++ (l.drop k).take n = l.take (k + n) := by
  rw [List.take_add]

theorem c_blocks {s : Sl} {l : List Int} {w : World} (hs : SlAt w s 1 (u8s l)) (hc : s.n ≤ s.c) (hmax : l.length ≤ 70368744177664) :
    Ret Tryz.prog n_impl_blocks [.slice s.a s.n s.c] w [.slice, .slice] (fun r w' => SlO w w' [] ty_arr32_uint8 32 r.1 (u8s (l.take (32 * (l.length / 32)))) ∧ r.1.n = l.length / 32 ∧ SlAt w' r.2 1 (u8s (l.drop (32 * (l.length / 32)))) ∧ r.2.n ≤ r.2.c) := impl_blocks_calls s (by
  unfold impl_blocks
  have hn := sl_len hs
  refine r_bs0 T_sl_arr32 (At.refl w) fun o w1 ho hon => ?_
  refine r_loop (σ := Sl × Sl) (fun i w' => ∃ k : Nat, 32 * k ≤ l.length ∧ SlAt w i.1 1 (u8s (l.drop (32 * k))) ∧ i.1.n ≤ i.1.c ∧ SlO w w' [] ty_arr32_uint8 32 i.2 (u8s (l.take (32 * k))) ∧ i.2.n = k) (fun i _ => i.1.n) (s, o) rfl
    ⟨0, by omega, by simpa using hs, hc, by simpa [u8s] using ho, hon⟩ ?_
  rintro ⟨d, o1⟩ w2 ⟨k, hk, hd, hdc, h, hok⟩
  dsimp only at hd hdc h hok
  refine r_any fun _ => ?_
  dsimp only
  have hdn := sl_len hd
  rw [List.length_drop] at hdn
  refine r_if ((d.n : Int) ≥ 32) rfl (fun hge => ?_) (fun hlt => ?_)
  · have h32 : 32 ≤ (u8s (l.drop (32 * k))).length := by simp; omega
    obtain ⟨p, hp, _⟩ := hd.cell 0 _ (List.getElem?_eq_getElem (by omega))
    refine r_pur p (fun w' => by rw [hp]; exact run_arrayAt (n := 32) (e := ty_uint8) (by kernel_rfl) (by omega) w') ?_
    refine r_ldO h.at_ _ (hd.agg hp h32) (by simp) ?_
    have hcut : u8s (l.take (32 * (k + 1))) = u8s (l.take (32 * k)) ++ ((u8s (l.drop (32 * k))).take 32) := by
      have := take_drop_snoc (l := u8s l) (k := 32 * k) (n := 32) (by simp; omega)
      simp only [u8s, List.map_take, List.map_drop] at this ⊢
      rw [this, show 32 * (k + 1) = 32 * k + 32 by omega]
    have hv32 : ((u8s (l.drop (32 * k))).take 32).length = 32 := by rw [List.length_take]; omega
    refine r_push T_sl_arr32 h (v := .agg ((u8s (l.drop (32 * k))).take 32).toArray) (by simpa [Value.cells] using hv32) (by omega) (by intro v hv; exact u8s_one v (List.mem_of_mem_take (by simpa [Value.cells] using hv))) (by omega) (by omega) fun o2 w3 h3 hn3 => ?_
    refine r_slS hd (by omega) 32 d.n rfl rfl (by omega) (by omega) hdc fun d2 hn2 hc2 hd2 => ?_
    have hd2 : SlAt w d2 1 (u8s (l.drop (32 * (k + 1)))) := by
      have e : ((u8s (l.drop (32 * k))).drop (32 * 1)).take ((d.n - 32) * 1) = u8s (l.drop (32 * (k + 1))) := by
        simp only [u8s, ← List.map_drop, ← List.map_take, List.drop_drop, Nat.mul_one]
        rw [List.take_of_length_le (by rw [List.length_drop]; omega), show 32 * k + 32 = 32 * (k + 1) by omega]
      rwa [e] at hd2
    refine ⟨(d2, o2), rfl, ⟨k + 1, by omega, hd2, by dsimp only; omega, by rw [hcut]; simpa [Value.cells] using h3, by dsimp only; omega⟩, by dsimp only; omega⟩
  · have : l.length / 32 = k := by omega
    rw [this]
    exact r_ret h.at_ (o1, d) rfl ⟨h, hok, hd.at h.at_, hdc⟩)

end Go.Proofs.YtkifkdkjljcclaaGreat

namespace Go.Proofs.YtkifkdkjljcclaaGreat
open Go.Sx Go.RowKit

theorem c_mixed {st l : List Int} (hst : wordsOk st) {s : Sl} {w : World} (hs : SlAt w s 32 (u8s l)) (hb : bytesOk l) (hmax : l.length ≤ 140737488355328) :
    Ret Tryz.prog n_impl_mixed [.agg (u32s st).toArray, .slice s.a s.n s.c] w [.agg] (fun cs _ => cs = (u32s (mixAll l s.n st)).toArray) := impl_mixed_calls _ s (by
  unfold impl_mixed
  have hn : l.length = s.n * 32 := by have := hs.len; simpa using this
  refine r_new (At.refl w) fun b2 w2 h => ?_
  refine r_new h fun b4 w3 h => ?_
  refine r_loop (σ := Int) (fun i w' => ∃ k : Nat, i = k ∧ k ≤ s.n ∧ At w w' [(b4, Array.replicate 8 (.int .u32 0), ty_arr8_uint32), (b2, (u32s (mixAll l k st)).toArray, ty_arr8_uint32)]) (fun i _ => (s.n - i).toNat) 0 rfl
    ⟨0, rfl, by omega, h⟩ ?_
  rintro i w4 ⟨k, rfl, hk, h⟩
  refine r_any fun _ => ?_
  have hok := mixAll_ok (l := l) hst k
  refine r_if ((k : Int) < (s.n : Int)) rfl (fun hlt => ?_) (fun hge => ?_)
  · obtain ⟨p, hp, hl⟩ := hs.elem (i := k) (by omega) (by omega)
    refine r_ix p hp (by omega) (by omega) ?_
    refine r_ldO h _ (by simp only [Int.toNat_natCast]; exact hl) (by simp) ?_
    have e1 : ((u8s l).drop (k * 32)).take 32 = u8s ((l.drop (32 * k)).take 32) := by simp only [u8s, List.map_take, List.map_drop, Nat.mul_comm k 32]
    have h32 : ((l.drop (32 * k)).take 32).length = 32 := by simp; omega
    rw [e1]
    refine r_new h fun b6 w5 h => ?_
    refine r_stA h 0 rfl rfl (by simp [h32]) (by simp [Value.cells]) (by simpa using u8s_one) fun w6 h => ?_
    refine r_ldA h 2 rfl rfl (by simp [hok.1]) ?_
    refine r_ldA h 0 rfl rfl (by simp [h32]) ?_
    refine r_call h (c_MixBlock _ _ hok.1 h32 ((hb.drop _).take _) _) fun ms w7 h _ hms => ?_
    subst hms
    refine r_stA h 2 rfl rfl (by simp [mixW_len]) (by simp [hok.1]) (by simpa using u32s_one) fun w8 h => ?_
    exact ⟨((k + 1 : Nat) : Int), by rw [w64 (by omega) (by omega)]; rfl, ⟨k + 1, rfl, by omega, h.take _ (List.sublist_cons_self _ _)⟩, by omega⟩
  · have : k = s.n := by omega
    rw [this] at h hok
    refine r_ldA h 1 rfl rfl (by simp [hok.1]) ?_
    refine r_stA h 0 rfl rfl (by simp [hok.1]) (by simp) (by simpa using u32s_one) fun w6 h => ?_
    refine r_ldA h 0 rfl rfl (by simp [hok.1]) ?_
    exact r_ret h _ rfl rfl)

theorem mix_seg {A B news : List Value} {k m : Nat} (h : A.length = B.length) (hk : k + m ≤ A.length) (hn : (A.drop k).take m = news) : ((mix A B k).toList.take k ++ news ++ (mix A B k).toList.drop (k + m)).toArray = mix A B (k + m) := by
  unfold mix
  congr 1
  have h1 : (A.take k ++ B.drop k).take k = A.take k := by
    rw [List.take_append_of_le_length (by simp; omega), List.take_take, Nat.min_self]
  have h2 : (A.take k ++ B.drop k).drop (k + m) = B.drop (k + m) := by
    rw [List.drop_append]
    have e1 : (A.take k).drop (k + m) = [] := List.drop_eq_nil_of_le (by simp; omega)
    have e2 : k + m - (A.take k).length = m := by rw [List.length_take]; omega
    rw [e1, e2, List.drop_drop, List.nil_append]
  simp only [h1, h2, ← hn]
  rw [← List.take_add]

theorem keyB_part {st : List Int} {k : Nat} (h : k < 8) : ((u8s (keyB st)).drop (4 * k)).take 4 = u8s (leB (st.getD k 0) 4) := by
  have : ((keyB st).drop (4 * k)).take 4 = leB (st.getD k 0) 4 := by
    apply List.ext_getElem?
    intro j
    rw [List.getElem?_take]
    by_cases hj : j < 4
    · rw [if_pos hj, List.getElem?_drop, keyB_get st (by omega)]
      have e1 : (4 * k + j) / 4 = k := by omega
      have e2 : (4 * k + j) % 4 = j := by omega
      rw [e1, e2]
      simp [leB, hj]
    · rw [if_neg hj, List.getElem?_eq_none (by simp; omega)]
  rw [← this]
  simp only [u8s, List.map_take, List.map_drop]

theorem c_keyOf {st : List Int} (hst : wordsOk st) (w : World) : Ret Tryz.prog n_impl_keyOf [.agg (u32s st).toArray] w [.agg] (fun cs _ => cs = (u8s (keyB st)).toArray) := impl_keyOf_calls _ (by
  unfold impl_keyOf
  refine r_new (At.refl w) fun b1 w1 h => ?_
  refine r_new h fun b2 w2 h => ?_
  refine r_new h fun b3 w3 h => ?_
  refine r_stA h 0 rfl rfl (by simp) (by simp [Value.cells]) rep_one fun w4 h => ?_
  refine r_ldA h 2 rfl rfl (by simp [Value.cells, hst.1]) ?_
  obtain ⟨B, hB⟩ : ∃ B, B = List.replicate 32 (Value.int .u8 0) := ⟨_, rfl⟩
  have hB8 : B.length = 32 := by rw [hB, List.length_replicate]
  have hBA : B.toArray = Array.replicate 32 (Value.int .u8 0) := by rw [hB]; rfl
  have hlen : (u8s (keyB st)).length = B.length := by rw [u8s_len, keyB_len, hB8]
  have hl32 : (u8s (keyB st)).length = 32 := by rw [u8s_len, keyB_len]
  refine r_loop (σ := Int) (fun i w' => ∃ k : Nat, i = k ∧ k ≤ 8 ∧ At w w' [(b3, mix (u8s (keyB st)) B (4 * k), ty_impl_Key), (b2, Array.replicate 32 (.int .u8 0), ty_impl_Key), (b1, (u32s st).toArray, ty_arr8_uint32)]) (fun i _ => (8 - i).toNat) 0 rfl
    ⟨0, rfl, by omega, by rw [Nat.mul_zero, mix_zero, hBA]; exact h⟩ ?_
  rintro i w5 ⟨k, rfl, hk, h⟩
  refine r_any fun _ => ?_
  refine r_if ((k : Int) < 8) rfl (fun hlt => ?_) (fun hge => ?_)
  · have hkl : k < st.length := by rw [hst.1]; omega
    refine ⟨st.getD k 0, by omega, by omega, by simp only [Int.toNat_natCast, Nat.mul_one]; exact u32s_arr hkl, ?_⟩
    refine r_draw h fun w6 h => ?_
    have e1 : IntKind.wrap .i64 (4 * (k : Int)) = ((4 * k : Nat) : Int) := by rw [w64 (by omega) (by omega)]; omega
    refine r_sl (4 * k) 32 (by rw [e1]; rfl) rfl (by omega) (by omega) ?_
    have hb := hst.get k
    have h32 : ¬ 32 = 4 * k := by omega
    rw [if_neg h32, Option.map_some, add_lit, wrapu64 (by omega) (by omega)]
    refine r_callR (c_appendLittle (SlO.nil h ty_uint8 1) (n := st.getD k 0) hb.1 4 (by omega) (by simp)) ?_
    rintro v w7 ⟨s', rfl, hs', hn'⟩
    refine ⟨s', rfl, ?_⟩
    rw [List.nil_append] at hs'
    simp only [Nat.zero_add] at hn'
    have hA := hs'.at_
    refine r_copy (elem := ty_uint8) (by kernel_rfl) (fun w => by kernel_rfl) hA 0 rfl hs'.sl (by dsimp only; omega) (by rw [mix_size hlen (by omega), hl32]; omega) u8s_one fun w8 h => ?_
    refine ⟨((k + 1 : Nat) : Int), by rw [w64 (by omega) (by omega)]; rfl, ⟨k + 1, rfl, by omega, ?_⟩, by omega⟩
    have hseg := mix_seg (A := u8s (keyB st)) (B := B) (k := 4 * k) (m := 4) hlen (by omega) (keyB_part (by omega))
    rw [show 4 * (k + 1) = 4 * k + 4 by omega, ← hseg]
    simp only [Nat.zero_add, Nat.mul_one, hn', List.set_cons_zero] at h
    exact h
  · have : k = 8 := by omega
    subst this
    have e8 : mix (u8s (keyB st)) B (4 * 8) = (u8s (keyB st)).toArray := by
      have := mix_all (A := u8s (keyB st)) (B := B) (by omega)
      rwa [hl32] at this
    rw [e8] at h
    refine r_ldA h 0 rfl rfl (by simp [keyB_len]) ?_
    refine r_stA h 1 rfl rfl (by simp [keyB_len]) (by simp) (by simpa using u8s_one) fun w6 h => ?_
    refine r_ldA h 1 rfl rfl (by simp [keyB_len]) ?_
    exact r_ret h _ rfl rfl)

theorem run_appendZeros {P : Program} {t ty u e z by_ : Nat} (hT : SlT P t e z by_) (hu : P.underlying u = some (.int .i64)) {n : Nat} (h0 : 0 < n) (hn : n * by_ ≤ 140737488355328) (hmax : n ≤ 140737488355328) (w : World) :
    ∃ g c cur w', (Builtin.append_ #[t, u] ty #[.slice none 0 0, .int .i64 (n : Int)]).run P w = .ok (.slice (some ⟨g, 0, none⟩) n c) w' ∧ Below w.heap.size w w' ∧ w'.heap[g]? = some (.cells cur e (0, 0)) ∧ w.heap.size ≤ g ∧ n ≤ c ∧ c ≤ maxLen ∧ cur.size = c * z := by
  obtain ⟨i, zv, hi, hz, hsz, hby, hzs⟩ := hT.ex
  have hn0 : ¬ n = 0 := by omega
  have hnw : IntKind.wrap .i64 (n : Int) = (n : Int) := w64 (by omega) (by omega)
  have hl0 : ¬ ((n : Int) < 0) := by omega
  have hb48 : ¬ ((281474976710656 : Int) < (n : Int) * (by_ : Int)) := by
    have : ((n : Int) * (by_ : Int)) = ((n * by_ : Nat) : Int) := by simp
    omega
  have h63' : ¬ (9223372036854775807 < (n : Int)) := by omega
  have h48' : ¬ (281474976710656 < Builtin.nextslicecap n 0 * by_) := by rw [nextslicecap_zero h0]; omega
  have hge := grownCap_ge w n 0 e
  have hcm := grownCap_le_maxLen w n 0 e (by unfold maxLen; omega)
  have hz0 : ¬ z = 0 := by have := hT.pos; omega
  have hnz : ¬ n * z = 0 := Nat.mul_ne_zero hn0 hz0
  refine ⟨w.heap.size, grownCap w n 0 e, Builtin.zeroCells zv.cells n ++ Builtin.zeroCells zv.cells (grownCap w n 0 e - n), w.drew.alloc (.cells (Builtin.zeroCells zv.cells n ++ Builtin.zeroCells zv.cells (grownCap w n 0 e - n)) e), ?_,
    (drew_below w).trans ((below_alloc w.drew _).mono (Nat.le_refl _)), heap_alloc_self w.drew _, Nat.le_refl _, hge, hcm, ?_⟩
  · simp [Builtin.append_, run_underlying hT.ut, run_underlying hu, sizeOf, typeInfo, zeroValue, hi, hz, hsz, hby, asInt, asIntOf, hnw, hl0, hb48, hn0, hz0, hnz, h63', h48', Question.forced, run_firstCells_none, newRow, grownCap]
  · simp only [Array.size_append, size_zeroCells, hzs, ← Nat.add_mul]
    congr 1
    omega

theorem c_Grow (n : Nat) (hn : n ≤ 140737488355328) (w : World) : Ret Tryz.prog n_slices_Grow_sl_byte_byte [.slice none 0 0, .int .i64 (n : Int)] w [.slice] (fun s w' => SlO w w' [] ty_uint8 1 s [] ∧ s.n = 0) := slices_Grow_sl_byte_byte_calls ⟨none, 0, 0⟩ n (by
  unfold slices_Grow_sl_byte_byte
  refine r_join (σ := Unit) (fun _ w' => At w w' []) (fun _ w1 h => ?_) ?_
  · refine r_any fun _ => ?_
    have e1 : IntKind.wrap .i64 ((n : Int) - IntKind.wrap .i64 (((0 : Nat) : Int) - ((0 : Nat) : Int))) = (n : Int) := by rw [w64 (n := ((0 : Nat) : Int) - ((0 : Nat) : Int)) (by omega) (by omega), w64 (by omega) (by omega)]; omega
    rw [e1]
    refine r_if ((n : Int) > 0) rfl (fun hpos => ?_) (fun hz => ?_)
    · refine r_sl 0 0 rfl rfl (by omega) (by omega) ?_
      obtain ⟨g, c, cur, w2, hr, hb, hg, hge, h1, h2, h3⟩ := run_appendZeros (P := Tryz.prog) (ty := ty_sl_uint8) (u := ty_int) T_sl_uint8 (by kernel_rfl) (n := n) (by omega) (by omega) hn w1
      refine r_sem (⟨some ⟨g, 0, none⟩, n, c⟩ : Sl) w2 hr ?_
      refine r_sl 0 0 rfl rfl (by omega) (by omega) ?_
      have hs : SlO w w2 [] ty_uint8 1 ⟨some ⟨g, 0, none⟩, 0, c⟩ [] := SlO.made h hb hg hge rfl (Nat.zero_le _) h2 h3 (by simp)
      refine r_ret hs.at_ ⟨some ⟨g, 0, none⟩, 0, c⟩ ?_ ⟨hs, rfl⟩
      by_cases hc0 : c = 0
      · simp [hc0, valL, embL, Sh.emb]
      · simp [hc0, valL, embL, Sh.emb, Addr.add]
    · refine r_ret h ⟨none, 0, 0⟩ rfl ⟨SlO.nil h _ _, rfl⟩
  · refine r_if ((n : Int) < 0) rfl (fun hneg => by omega) (fun _ => ?_)
    exact ⟨(), rfl, At.refl w⟩)

theorem c_Concat2 {w : World} {x y1 y2 : Sl} {l1 l2 : List Int} (hx : SlAt w x 1 [.slice y1.a y1.n y1.c, .slice y2.a y2.n y2.c]) (h1 : SlAt w y1 1 (u8s l1)) (h2 : SlAt w y2 1 (u8s l2)) (hm1 : l1.length ≤ 70368744177664) (hm2 : l2.length ≤ 35184372088832) :
    Ret Tryz.prog n_slices_Concat_sl_byte_byte [.slice x.a x.n x.c] w [.slice] (fun s w' => SlO w w' [] ty_uint8 1 s (u8s (l1 ++ l2)) ∧ s.n = (l1 ++ l2).length) := slices_Concat_sl_byte_byte_calls x (by
  unfold slices_Concat_sl_byte_byte
  have hxn : x.n = 2 := by have := hx.len; simp at this; omega
  have hn1 := sl_len h1
  have hn2 := sl_len h2
  have cell : ∀ k, k < 2 → ∃ p, x.a = some p ∧ w.cell? (p.add (k * 1)) = some (.slice (if k = 0 then y1 else y2).a (if k = 0 then y1 else y2).n (if k = 0 then y1 else y2).c) := by
    intro k hk
    rw [Nat.mul_one]
    have : k = 0 ∨ k = 1 := by omega
    rcases this with rfl | rfl
    · exact hx.cell 0 _ rfl
    · exact hx.cell 1 _ rfl
  refine r_loop (σ := Int × Int) (fun i w' => ∃ k : Nat, i = (((if k = 0 then 0 else if k = 1 then l1.length else l1.length + l2.length : Nat) : Int), (k : Int)) ∧ k ≤ 2 ∧ At w w' []) (fun i _ => (2 - i.2).toNat) (0, 0) rfl ⟨0, rfl, by omega, At.refl w⟩ ?_
  rintro i w1 ⟨k, rfl, hk, h⟩
  refine r_any fun _ => ?_
  dsimp only
  rw [hxn]
  refine r_if ((k : Int) < ((2 : Nat) : Int)) rfl (fun hlt => ?_) (fun hge => ?_)
  · obtain ⟨p, hp, hc⟩ := cell k (by omega)
    refine r_ix p hp (by omega) (by omega) ?_
    refine r_ldO h (if k = 0 then y1 else y2) (by simp only [Int.toNat_natCast]; exact hc) (by simp) ?_
    have hk01 : k = 0 ∨ k = 1 := by omega
    have hsum : IntKind.wrap .i64 (((if k = 0 then 0 else if k = 1 then l1.length else l1.length + l2.length : Nat) : Int) + ((if k = 0 then y1 else y2).n : Int)) = ((if k + 1 = 0 then 0 else if k + 1 = 1 then l1.length else l1.length + l2.length : Nat) : Int) := by
      rcases hk01 with rfl | rfl
      · simp [hn1, w64 (n := (l1.length : Int)) (by omega) (by omega)]
      · simp [hn2, w64 (n := (l1.length : Int) + l2.length) (by omega) (by omega)]
    rw [hsum]
    refine r_if (((if k + 1 = 0 then 0 else if k + 1 = 1 then l1.length else l1.length + l2.length : Nat) : Int) < 0) rfl (fun hneg => by omega) (fun _ => ?_)
    exact ⟨(_, ((k + 1 : Nat) : Int)), by rw [w64 (n := (k : Int) + 1) (by omega) (by omega)]; rfl, ⟨k + 1, rfl, by omega, h⟩, by dsimp only; omega⟩
  · have : k = 2 := by omega
    subst this
    refine r_callS h (c_Grow (l1.length + l2.length) (by omega) w1) fun s w2 hs hsn => ?_
    refine r_loop (σ := Sl × Int) (fun i w' => ∃ k : Nat, i.2 = k ∧ k ≤ 2 ∧ SlO w w' [] ty_uint8 1 i.1 (u8s (if k = 0 then [] else if k = 1 then l1 else l1 ++ l2)) ∧ i.1.n = (if k = 0 then [] else if k = 1 then l1 else l1 ++ l2).length) (fun i _ => (2 - i.2).toNat) (s, 0) rfl
      ⟨0, rfl, by omega, by simpa [u8s] using hs, hsn⟩ ?_
    rintro ⟨s1, i⟩ w3 ⟨k, hi, hk, h, hsn⟩
    dsimp only at hi h hsn
    subst hi
    refine r_any fun _ => ?_
    dsimp only
    refine r_if ((k : Int) < ((2 : Nat) : Int)) rfl (fun hlt => ?_) (fun hge => ?_)
    · obtain ⟨p, hp, hc⟩ := cell k (by omega)
      refine r_ix p hp (by omega) (by omega) ?_
      refine r_ldO h.at_ (if k = 0 then y1 else y2) (by simp only [Int.toNat_natCast]; exact hc) (by simp) ?_
      have hk01 : k = 0 ∨ k = 1 := by omega
      rcases hk01 with rfl | rfl
      · simp only [if_true, List.length_nil] at h hsn ⊢
        refine r_append T_sl_uint8 h (h1.at h.at_) u8s_one (by omega) (by omega) fun s2 w4 h4 hn4 => ?_
        exact ⟨(s2, 1), rfl, ⟨1, rfl, by omega, by simpa [u8s] using h4, by dsimp only; simp; omega⟩, by dsimp only; omega⟩
      · simp only [Nat.one_ne_zero, if_true, if_false] at h hsn ⊢
        refine r_append T_sl_uint8 h (h2.at h.at_) u8s_one (by omega) (by omega) fun s2 w4 h4 hn4 => ?_
        exact ⟨(s2, 2), rfl, ⟨2, rfl, by omega, by simpa [u8s] using h4, by dsimp only; simp; omega⟩, by dsimp only; omega⟩
    · have : k = 2 := by omega
      subst this
      exact r_ret h.at_ s1 rfl ⟨h, hsn⟩)

end Go.Proofs.YtkifkdkjljcclaaGreat
