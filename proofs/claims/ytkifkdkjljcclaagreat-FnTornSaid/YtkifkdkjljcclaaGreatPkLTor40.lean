/- Packs: the program's functions, told whole. PackStore: both sides. -/
import Derived.Test.YtkifkdkjljcclaaGreatPkLTor39
import Derived.Test.YtkifkdkjljcclaaGreatPkLTor38
namespace Go.Proofs.YtkifkdkjljcclaaGreat
open Go.Sx Go.RowKit

theorem c_scan_store {w : World} {p : Addr} {sd sb se : Sl} {a : Nat} {bs : List BR} {E : List PEn} (hR : ScanR w p sd sb se a bs E) : Ret Tryz.prog n_ptr_impl_scan_store [.pointer (some p)] w [.agg] (fun r _ => r = #[.slice sb.a sb.n sb.c]) := ptr_impl_scan_store_calls _ (by
  unfold ptr_impl_scan_store
  refine r_new (At.refl w) fun b2 w1 h => ?_
  refine r_ldN (sh := .slice) sb (ldOk_below h.below hR.l2) ?_
  refine r_pur (sh := .agg) _ (run_mkStore sb) ?_
  refine r_stA h 0 rfl rfl rfl rfl (by simp [oneC]) fun w2 h => ?_
  refine r_ldA h 0 rfl rfl rfl ?_
  exact r_ret h.nil _ rfl rfl)
theorem c_ReadPack {w : World} {sd : Sl} {d : List Int} (hd : BSl w sd d) (hmax : d.length ≤ 140000) :
    Ret Tryz.prog n_impl_ReadPack [.slice sd.a sd.n sd.c] w [.agg, .int .i64] (fun r w' => ∃ L, At w w' L ∧ OwnStore r.1 (readAns d).1 L ∧ r.2 = (readAns d).2) := impl_ReadPack_calls _ (by
  unfold impl_ReadPack
  refine r_new (At.refl w) fun b2 w1 h => ?_
  refine r_call h (c_readPack (hd.at h) hmax) fun r8 w2 h2 _ hr => ?_
  rcases hr with ⟨hc, hr2, b, a, hr1, hS⟩ | ⟨hc, hB, rfl⟩
  · rw [hr2, hr1]
    refine r_false rfl ?_
    obtain ⟨sb, se, bs, E, Lb, Le, Ld, hpb, hE, hok, hOb, hOe, hOd, hA⟩ := hS
    have hR := ScanR.of hpb hE hok hOb hOe hOd hA
    have h : At w w2 (([(b, scC sd a sb se, ty_impl_scan)] ++ (Lb ++ (Le ++ (Ld ++ [])))) ++ [(b2, #[.slice none 0 0], ty_impl_Store)]) := h.join hA
    have h := h.swap
    refine r_call h (c_scan_store hR) fun r16 w3 h _ hr16 => ?_
    subst hr16
    refine r_stA h 0 rfl rfl rfl rfl (by simp [oneC]) fun w4 h => ?_
    have h : At w w4 ([(b2, #[.slice sb.a sb.n sb.c], ty_impl_Store)] ++ ([(b, scC sd a sb se, ty_impl_scan)] ++ (Lb ++ (Le ++ (Ld ++ []))))) := h
    refine r_ldA h 0 rfl rfl rfl ?_
    have h := h.right.right.dr1
    rw [List.append_nil] at h
    exact r_ret h.nil (#[.slice sb.a sb.n sb.c], (0 : Int)) rfl ⟨Lb ++ Ld, h, ⟨sb, bs, rfl, hpb, ⟨Lb, Ld, rfl, hOb, hOd⟩, hok⟩, hc.symm⟩
  · refine r_true (by simpa using hc) ?_
    refine r_pur (sh := .agg) _ run_noStore ?_
    refine r_stA h2 0 rfl rfl rfl rfl (by simp [oneC]) fun w3 h => ?_
    refine r_ldA h 0 rfl rfl rfl ?_
    exact r_ret h.nil (#[.slice none 0 0], (readAns d).2) rfl ⟨[], h.nil, by rw [hB]; exact OwnStore.nil, rfl⟩)
def scanAns (d : List Int) : List PB × Nat × Int := if d.take 4 = HTP then ((scanGo d 128 4 []).2, (scanGo d 128 4 []).1, 0) else ([], 0, 5)
theorem c_ScanPack {w : World} {sd : Sl} {d : List Int} (hd : BSl w sd d) (hmax : d.length ≤ 140000) :
    Ret Tryz.prog n_impl_ScanPack [.slice sd.a sd.n sd.c] w [.agg, .int .i64, .int .i64] (fun r w' => ∃ L, At w w' L ∧ OwnStore r.1 (scanAns d).1 L ∧ r.2.1 = ((scanAns d).2.1 : Int) ∧ r.2.2 = (scanAns d).2.2) := impl_ScanPack_calls _ (by
  unfold impl_ScanPack
  refine r_new (At.refl w) fun b2 w1 h => ?_
  refine r_call h (c_scanPack (hd.at h) hmax) fun r8 w2 h2 _ hr => ?_
  rcases hr with ⟨h4, hr2, b, hr1, hS⟩ | ⟨h4, rfl⟩
  · have hans : scanAns d = ((scanGo d 128 4 []).2, (scanGo d 128 4 []).1, 0) := if_pos h4
    rw [hr2, hr1, hans]
    refine r_false rfl ?_
    obtain ⟨sb, se, bs, E, Lb, Le, Ld, hpb, hE, hok, hOb, hOe, hOd, hA⟩ := hS
    generalize (scanGo d 128 4 []).1 = a at hA ⊢
    have h : At w w2 (([(b, scC sd a sb se, ty_impl_scan)] ++ (Lb ++ (Le ++ (Ld ++ [])))) ++ [(b2, #[.slice none 0 0], ty_impl_Store)]) := h.join hA
    have h := h.swap
    refine r_draw h fun w3 h => ?_
    refine r_dp rfl ?_
    have hR : ∀ {v : World} {X : List Blk}, At w v (X ++ ([(b, scC sd a sb se, ty_impl_scan)] ++ (Lb ++ (Le ++ (Ld ++ []))))) → ScanR v ⟨b, 0, none⟩ sd sb se a bs E := fun h => ScanR.of hpb hE hok hOb hOe hOd h.right
    refine r_ldN (sh := .int .i64) (a : Int) (hR h).l1 ?_
    refine r_call h (c_scan_store (hR h)) fun r16 w4 h _ hr16 => ?_
    subst hr16
    refine r_chk1 (hR h).l1 ?_
    refine r_stA h 0 rfl rfl rfl rfl (by simp [oneC]) fun w5 h => ?_
    have h : At w w5 ([(b2, #[.slice sb.a sb.n sb.c], ty_impl_Store)] ++ ([(b, scC sd a sb se, ty_impl_scan)] ++ (Lb ++ (Le ++ (Ld ++ []))))) := h
    refine r_chk1 (hR h).l1 ?_
    refine r_ldA h 0 rfl rfl rfl ?_
    have h := h.right.right.dr1
    rw [List.append_nil] at h
    exact r_ret h.nil (#[.slice sb.a sb.n sb.c], (a : Int), (0 : Int)) rfl ⟨Lb ++ Ld, h, ⟨sb, bs, rfl, hpb, ⟨Lb, Ld, rfl, hOb, hOd⟩, hok⟩, rfl, rfl⟩
  · have hans : scanAns d = ([], 0, 5) := if_neg h4
    rw [hans]
    refine r_true rfl ?_
    refine r_pur (sh := .agg) _ run_noStore ?_
    refine r_stA h2 0 rfl rfl rfl rfl (by simp [oneC]) fun w3 h => ?_
    refine r_ldA h 0 rfl rfl rfl ?_
    exact r_ret h.nil (#[.slice none 0 0], (0 : Int), (5 : Int)) rfl ⟨[], h.nil, OwnStore.nil, rfl, rfl⟩)
theorem c_MendPack {w : World} {sd : Sl} {d : List Int} (hd : BSl w sd d) (hmax : d.length ≤ 140000) :
    Ret Tryz.prog n_impl_MendPack [.slice sd.a sd.n sd.c] w [.slice, .int .i64] (fun r w' => r.2 = (scanAns d).2.2 ∧ ((scanAns d).2.2 = 0 → SlO w w' [] ty_uint8 1 r.1 (u8s (packB (scanAns d).1)) ∧ bytesOk (packB (scanAns d).1))) := impl_MendPack_calls _ (by
  unfold impl_MendPack
  refine r_call (At.refl w) (c_scanPack hd hmax) fun r8 w2 h2 _ hr => ?_
  rcases hr with ⟨h4, hr2, b, hr1, hS⟩ | ⟨h4, rfl⟩
  · have hans : scanAns d = ((scanGo d 128 4 []).2, (scanGo d 128 4 []).1, 0) := if_pos h4
    have hv : validS (scanGo d 128 4 []).2 := scan_valid validS_nil rfl
    rw [hr2, hr1, hans]
    refine r_false rfl ?_
    obtain ⟨sb, se, bs, E, Lb, Le, Ld, hpb, hE, hok, hOb, hOe, hOd, hA⟩ := hS
    have hR := ScanR.of hpb hE hok hOb hOe hOd hA
    refine r_call hA (c_scan_store hR) fun r15 w3 h _ hr15 => ?_
    subst hr15
    have hR := ScanR.of hpb hE hok hOb hOe hOd h
    refine r_call h (c_impl_pack hR.hB hpb hv) fun r16 w4 h4' _ hS => ?_
    obtain ⟨L, hO, h⟩ := SlO.own_of h hS
    exact r_ret h4'.nil (r16, (0 : Int)) rfl ⟨rfl, fun _ => ⟨hO.slo (ls := []) (by rw [List.append_nil]; exact h.left), packB_ok hv hok⟩⟩
  · have hans : scanAns d = ([], 0, 5) := if_neg h4
    rw [hans]
    refine r_true rfl ?_
    exact r_ret h2.nil (⟨none, 0, 0⟩, (5 : Int)) rfl ⟨rfl, fun hh => absurd hh (by decide)⟩)
theorem readAns_code (d : List Int) : (readAns d).2 = 0 ∨ (readAns d).2 = 5 ∨ (readAns d).2 = 8 := by
  unfold readAns
  split
  · exact read_code d _ _ _
  · exact .inr (.inl rfl)
theorem c_IsPack {w : World} {sd : Sl} {d : List Int} (hd : BSl w sd d) (hmax : d.length ≤ 140000) :
    Ret Tryz.prog n_impl_IsPack [.slice sd.a sd.n sd.c] w [.bool, .int .i64] (fun r _ => r = ((readAns d).2 == 0, (0 : Int))) := impl_IsPack_calls _ (by
  unfold impl_IsPack
  have hcode := readAns_code d
  refine r_call (At.refl w) (c_readPack hd hmax) fun r8 w2 h2 _ hr => ?_
  have e : r8.2 = (readAns d).2 := by
    rcases hr with ⟨hc, hr2, _⟩ | ⟨_, _, rfl⟩
    · rw [hr2, hc]
    · rfl
  rw [e]
  refine r_eq (fun h3 => absurd h3 (by omega)) (fun _ => ?_)
  exact r_ret h2.nil ((readAns d).2 == 0, (0 : Int)) rfl rfl)
theorem c_KeyOfPack {w : World} {sd : Sl} {d : List Int} (hd : BSl w sd d) (hmax : d.length ≤ 140000) :
    Ret Tryz.prog n_impl_KeyOfPack [.slice sd.a sd.n sd.c] w [.agg, .int .i64] (fun r _ => r.1 = (u8s (hashL 8 d)).toArray ∧ r.2 = 0) := impl_KeyOfPack_calls _ (by
  unfold impl_KeyOfPack
  have hn := hd.n
  have hkl : (hashL 8 d).length = 32 := hashL_len _ _
  refine r_new (At.refl w) fun b2 w1 h => ?_
  refine r_if ((sd.n : Int) > 140000) rfl (fun hh => absurd hh (by omega)) (fun _ => ?_)
  refine r_call h (c_keyOfPack (hd.at h).sl hd.ok (by omega)) fun r9 w2 h _ hr => ?_
  subst hr
  refine r_stA h 0 rfl rfl (by simp [hkl]) (by simp [Value.cells]) (by simpa using u8s_one) fun w3 h => ?_
  refine r_ldA h 0 rfl rfl (by simp [hkl]) ?_
  exact r_ret h.nil (_, (0 : Int)) rfl ⟨rfl, rfl⟩)
def flipB (v : Int) (bit : Nat) : Int := bitsI .xor .u8 v (IntKind.wrap .u8 (1 * 2 ^ (min ((bit : Int).toNat) (IntKind.bits .u8))))
theorem flip_fin : ∀ (v : Fin 256) (k : Fin 8), 0 ≤ flipB (v.val : Int) k.val ∧ flipB (v.val : Int) k.val < 256 ∧ flipB (v.val : Int) k.val ≠ (v.val : Int) := by decide +kernel
theorem flip_ok {v : Int} {k : Nat} (h0 : 0 ≤ v) (h1 : v < 256) (hk : k < 8) : 0 ≤ flipB v k ∧ flipB v k < 256 ∧ flipB v k ≠ v := by
  have := flip_fin ⟨v.toNat, by omega⟩ ⟨k, hk⟩
  simpa [Int.toNat_of_nonneg h0] using this
theorem c_SpoilPack {w : World} {sd : Sl} {d : List Int} (hd : BSl w sd d) (hmax : d.length ≤ 140000) {q bit : Nat} (hq : q < d.length) (hb : bit < 8) :
    Ret Tryz.prog n_impl_SpoilPack [.slice sd.a sd.n sd.c, .int .i64 (q : Int), .int .i64 (bit : Int)] w [.slice, .int .i64] (fun r w' => r.2 = 0 ∧ SlO w w' [] ty_uint8 1 r.1 (u8s (d.set q (flipB (d.getD q 0) bit)))) := impl_SpoilPack_calls _ _ _ (by
  unfold impl_SpoilPack
  have hn := hd.n
  refine r_join (σ := Unit) (fun _ w' => w' = w) (fun _ w1 hw => ?_) ?_
  rotate_left
  · refine r_if ((sd.n : Int) > 140000) rfl (fun hh => absurd hh (by omega)) (fun _ => ?_)
    refine r_callp (c_size_byte sd) ?_
    rw [w64 (n := (sd.n : Int) - 1) (by omega) (by omega)]
    refine r_callp (c_within _ _ _) ?_
    refine r_false (by rw [decide_eq_true ⟨by omega, by omega⟩]; rfl) ?_
    refine r_callp (c_within _ _ _) ?_
    refine r_false (by rw [decide_eq_true ⟨by omega, by omega⟩]; rfl) ?_
    exact ⟨(), rfl, rfl⟩
  subst hw
  refine r_any fun _ => ?_
  refine r_call (At.refl w1) (c_CloneBytes hd (by omega)) fun r26 w2 _ _ ⟨hS, hrn⟩ => ?_
  obtain ⟨L, hO, h⟩ := hS.split
  refine r_draw h fun w3 h => ?_
  obtain ⟨p, hp⟩ := hO.addr (by omega)
  refine r_ix p hp (by omega) (by omega) ?_
  have hB := ownS_bytes hO h (List.sublist_append_left _ _) hd.ok
  obtain ⟨p', hp', hl⟩ := hB.byte hq
  rw [hp] at hp'
  cases hp'
  simp only [Int.toNat_natCast]
  refine r_ldN (sh := .int .u8) (d.getD q 0) (hl 1) ?_
  refine r_pur _ (fun w' => run_shl (by omega) w') ?_
  refine r_ix p hp (by omega) (by omega) ?_
  simp only [Int.toNat_natCast]
  refine r_stO (v := .int .u8 (flipB (d.getD q 0) bit)) h hO hp q (by rw [Nat.mul_one]) rfl (by rw [u8s_len]; omega) (by simp [Value.cells, oneC]) fun w4 L' h hO' => ?_
  refine r_ret h.nil (r26, (0 : Int)) rfl ⟨rfl, ?_⟩
  have e : (u8s d).take q ++ (Value.int .u8 (flipB (d.getD q 0) bit)).cells.toList ++ (u8s d).drop (q + 1) = u8s (d.set q (flipB (d.getD q 0) bit)) := by
    unfold u8s
    rw [List.set_eq_take_append_cons_drop, if_pos hq]
    simp [List.map_take, List.map_drop, Value.cells]
  rw [e] at hO'
  exact hO'.slo (ls := []) h)
theorem c_SameData {w : World} {s t : Sl} {a b : List Int} (hs : BSl w s a) (ht : BSl w t b) (hmax : a.length ≤ 1073741824) : Ret Tryz.prog n_spec_SameData [.slice s.a s.n s.c, .slice t.a t.n t.c] w [.bool] (fun r _ => r = decide (a = b)) := spec_SameData_calls _ _ (by
  unfold spec_SameData
  refine r_call (At.refl w) (c_l01Bytes hs ht hmax) fun r w1 h _ hr => ?_
  exact r_ret h.nil r rfl hr)
theorem c_SameBlobS {w : World} {b c : BR} (hb : b.Ok w) (hc : c.Ok w) (hmax : b.data.length ≤ 1073741824) : Ret Tryz.prog n_spec_SameBlob [.agg b.cells.toArray, .agg c.cells.toArray] w [.bool] (fun r _ => r = decide (b.pb = c.pb)) := spec_SameBlob_calls _ _ (by
  unfold spec_SameBlob
  refine r_new (At.refl w) fun b2 w1 h => ?_
  refine r_new h fun b3 w2 h => ?_
  have h : At w w2 [(b3, c.cells.toArray, ty_impl_Blob), (b2, b.cells.toArray, ty_impl_Blob)] := h
  have h2 : BAt w2 ⟨b2, 0, none⟩ b := ⟨fun n => ldOk_own (sh := .int .u8) h 1 rfl 0 rfl (by simp [Sh.emb]), fun n => ldOk_own (sh := .slice) h 1 rfl 1 rfl (by simp [Sh.emb]), hb.below h.below⟩
  have h3 : BAt w2 ⟨b3, 0, none⟩ c := ⟨fun n => ldOk_own (sh := .int .u8) h 0 rfl 0 rfl (by simp [Sh.emb]), fun n => ldOk_own (sh := .slice) h 0 rfl 1 rfl (by simp [Sh.emb]), hc.below h.below⟩
  refine r_call h (c_l05SameBlob h2 h3 hmax) fun r w3 h _ hr => ?_
  exact r_ret h.nil r rfl hr)
end Go.Proofs.YtkifkdkjljcclaaGreat

namespace Go.Proofs.YtkifkdkjljcclaaGreat
open Go.Sx Go.RowKit

theorem c_spec_PackStore {w : World} {r : Array Value} {B : List PB} (hr : RdStore w r B) (hz : sizeBs B ≤ 1073741824) :
    Ret Tryz.prog n_spec_PackStore [.agg r] w [.slice, .int .i64] (fun y w' => ∃ L, At w w' L ∧ OwnByteS y.1 (packAns B).1 L ∧ y.2 = (packAns B).2) := spec_PackStore_calls _ (by
  unfold spec_PackStore
  have hBok := hr.ok
  obtain ⟨s, bs, rfl, hpb, hs⟩ := hr
  refine r_new (At.refl w) fun b1 w1 h => ?_
  refine r_call h (c_l05Open (p := ⟨b1, 0, none⟩) (fun n => ldOk_own h 0 rfl 0 rfl (by simp [Sh.emb])) (hs.at h.nil)) fun r w4 h4 hb4 ⟨hr2, b, hr1, hr⟩ => ?_
  rw [hpb] at hr hr2
  by_cases hv : validS B
  · have hans : packAns B = (packB B, 0) := by unfold packAns; rw [if_pos hv]
    rw [hans, hr2, decide_eq_true hv, hr1]
    obtain ⟨L, hL, hO⟩ := hr hv
    refine r_false rfl ?_
    have h := h.join hL
    refine r_call h (c_l06Pack (hO.rd h (keysOf_ok _) (fun b hb => (hs.at h.nil).ok b hb)) hpb hv) fun r w5 h5 _ hS => ?_
    obtain ⟨Lr, hAr, hOr⟩ := slO_own hS (packB_ok hv hBok)
    exact r_ret h5.nil (r, (0 : Int)) rfl ⟨Lr, (h.join hAr).left, hOr, rfl⟩
  · have hans : packAns B = ([], 1) := by unfold packAns; rw [if_neg hv]
    rw [hans, hr2, decide_eq_false hv]
    refine r_true rfl ?_
    refine r_bs0 T_sl_uint8 h4 fun y w5 hy hyn => ?_
    obtain ⟨Ly, hOy, hA⟩ := hy.split
    exact r_ret hA.nil (y, (1 : Int)) rfl ⟨Ly, hA.left, ⟨by simpa [u8s] using hOy, fun b hb => by cases hb⟩, rfl⟩)
end Go.Proofs.YtkifkdkjljcclaaGreat
