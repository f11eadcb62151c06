/- The program: whether keys are sorted; a key is found; blobs compared, copied; a store's keys. The program: a store's keys, whether a store is valid, a store with its keys, what is found in it, a store in new memory, some of the blobs. The program: a store with its keys, what is found in it, a store in new memory, some of the blobs. The reference: blobs, keys, a store with its keys. -/
import Derived.Lib.SlicesS
import Derived.Test.YtkifkdkjljcclaaGreatPkLTor14
namespace Go.Proofs.YtkifkdkjljcclaaGreat
open Go.Sx Go.RowKit

def PB.key (b : PB) : List Int := hashL b.tag b.data
theorem PB.key_ok (b : PB) : keyOk b.key := ⟨hashL_len _ _, hashL_ok _ _⟩

theorem c_bytesEqual {w : World} {s t : Sl} {a b : List Int} (hs : BSl w s a) (ht : BSl w t b) : Ret Tryz.prog n_bytes_Equal [.slice s.a s.n s.c, .slice t.a t.n t.c] w [.bool] (fun r _ => r = decide (a = b)) := bytes_Equal_calls _ _ (by
  unfold bytes_Equal
  refine r_toStr (e := ty_uint8) (by kernel_rfl) (by kernel_rfl) (by kernel_rfl) hs.sl ?_
  refine r_toStr (e := ty_uint8) (by kernel_rfl) (by kernel_rfl) (by kernel_rfl) ht.sl ?_
  refine r_pur _ (fun w' => run_eql_str _ _ _ _ _ w') ?_
  refine r_ret (At.refl w) _ rfl ?_
  by_cases h : a = b
  · subst h
    simp
  · simp only [h, decide_false]
    cases hh : (strOf a).toList == (strOf b).toList with
    | false => rfl
    | true =>
      exfalso
      have e1 : (strOf a).toList = (strOf b).toList := by simpa using hh
      have e2 : strOf a = strOf b := by
        rw [Go.Lib.bytes_beq_iff] at hh
        exact hh
      exact h (strOf_inj hs.ok ht.ok e2))

theorem c_CloneBytes {w : World} {s : Sl} {l : List Int} (hs : BSl w s l) (hmax : l.length ≤ 35184372088832) : Ret Tryz.prog n_slices_Clone_sl_byte_byte [.slice s.a s.n s.c] w [.slice] (fun r w' => SlO w w' [] ty_uint8 1 r (u8s l) ∧ r.n = l.length) := slices_Clone_sl_byte_byte_calls s (by
  unfold slices_Clone_sl_byte_byte
  have hn := hs.n
  refine r_pur _ (fun w' => run_eql_sl (e := ty_uint8) (by kernel_rfl) _ _ _ _ _ w') ?_
  cases ha : s.a with
  | none =>
    refine r_true rfl ?_
    have : l = [] := by
      cases l with
      | nil => rfl
      | cons k r => obtain ⟨p, hp, _⟩ := hs.byte (i := 0) (by simp); rw [ha] at hp; cases hp
    subst this
    exact r_ret (At.refl w) ⟨none, 0, 0⟩ rfl ⟨SlO.nil (At.refl w) _ _, rfl⟩
  | some p =>
    refine r_false (by simp) ?_
    refine r_bs0 T_sl_uint8 (At.refl w) fun y w1 hy hyn => ?_
    have hs1 : SlAt w1 ⟨some p, s.n, s.c⟩ 1 (u8s l) := by have := (hs.at hy.at_).sl; rw [← ha]; exact this
    refine r_append T_sl_uint8 hy (y := ⟨some p, s.n, s.c⟩) hs1 u8s_one (by dsimp only; omega) (by dsimp only; omega) fun y' w2 hy' hyn' => ?_
    dsimp only at hyn'
    exact r_ret hy'.at_ y' rfl ⟨by simpa using hy', by omega⟩)

theorem run_mkBlob (t : Int) (s : Sl) (w : World) : (Instr.build ty_impl_Blob #[(0, (.int .u8 t)), (1, (.slice s.a s.n s.c))]).run Tryz.prog w = .ok (.agg #[.int .u8 t, .slice s.a s.n s.c]) w := by kernel_rfl
theorem run_noBlob (w : World) : (Instr.build ty_impl_Blob #[]).run Tryz.prog w = .ok (.agg #[.int .u8 0, .slice none 0 0]) w := by kernel_rfl

theorem c_Blob_key {w : World} {b : BR} (hb : b.Ok w) (hmax : b.data.length ≤ 35184372088832) : Ret Tryz.prog n_impl_Blob_key [.agg b.cells.toArray] w [.agg] (fun r _ => r = (u8s b.pb.key).toArray) := impl_Blob_key_calls _ (by
  unfold impl_Blob_key
  refine r_new (At.refl w) fun b1 w1 h => ?_
  refine r_new h fun b2 w2 h => ?_
  refine r_ld h 1 rfl (add_lit _ _ _) b.tag (by simp [Sh.emb]) (by simp [Value.cells, BR.cells, Sh.emb]) ?_
  refine r_ld h 1 rfl (add_lit _ _ _) b.d (by simp [Sh.emb]) (by simp [Value.cells, BR.cells, Sh.emb]) ?_
  refine r_call h (c_hash b.tag (hb.bytes.at h).sl hb.bytes.ok hmax) fun r w3 h3 _ hr => ?_
  subst hr
  refine r_stA h3 0 rfl rfl (by simp [hashL_len]) (by simp [Value.cells]) (by simpa using u8s_one) fun w4 h4 => ?_
  refine r_ldA h4 0 rfl rfl (by simp [hashL_len]) ?_
  exact r_ret h4 _ rfl rfl)

end Go.Proofs.YtkifkdkjljcclaaGreat

namespace Go.Proofs.YtkifkdkjljcclaaGreat
open Go.Sx Go.RowKit

def keysOf (B : List PB) : List (List Int) := B.map PB.key
def validS (B : List PB) : Prop := B.length ≤ 128 ∧ (∀ b ∈ B, b.data.length ≤ 1024) ∧ Asc (keysOf B)
instance (B : List PB) : Decidable (validS B) := inferInstanceAs (Decidable (_ ∧ _ ∧ List.Pairwise _ _))
theorem keysOf_ok (B : List PB) : ∀ k ∈ keysOf B, keyOk k := by
  intro k hk
  obtain ⟨b, _, rfl⟩ := List.mem_map.1 hk
  exact b.key_ok
theorem keysOf_len (B : List PB) : (keysOf B).length = B.length := by simp [keysOf]

end Go.Proofs.YtkifkdkjljcclaaGreat

namespace Go.Proofs.YtkifkdkjljcclaaGreat
open Go.Sx Go.RowKit

theorem flatCells_one (bs : List BR) : ∀ v ∈ bs.flatMap BR.cells, oneC v = true := by
  intro v hv
  obtain ⟨b, _, hb⟩ := List.mem_flatMap.1 hv
  exact cells_one b v hb

structure ShopR (w : World) (p : Addr) (ks : List (List Int)) (bs : List BR) : Prop where
  ex : ∃ sk sb, (∀ n, ldOk w n (p.add 0) .slice sk) ∧ (∀ n, ldOk w n (p.add 1) .slice sb) ∧ KsR w sk ks ∧ BsR w sb bs
theorem ShopR.below {w w' : World} {p : Addr} {ks : List (List Int)} {bs : List BR} (h : ShopR w p ks bs) (hb : Below w.heap.size w w') : ShopR w' p ks bs :=
  let ⟨sk, sb, h1, h2, h3, h4⟩ := h.ex
  ⟨sk, sb, fun n => ldOk_below hb (h1 n), fun n => ldOk_below hb (h2 n), h3.below hb, h4.below hb⟩
theorem ShopR.at {w w' : World} {ls : List Blk} {p : Addr} {ks : List (List Int)} {bs : List BR} (h : ShopR w p ks bs) (hA : At w w' ls) : ShopR w' p ks bs := h.below hA.below

def ShopO (b : Nat) (ks : List (List Int)) (bs : List BR) (L : List Blk) : Prop := ∃ sk sb Lk Lb, L = (b, #[.slice sk.a sk.n sk.c, .slice sb.a sb.n sb.c], ty_impl_shop) :: (Lk ++ Lb) ∧ OwnS ty_impl_Key 32 sk (ks.flatMap u8s) Lk ∧ OwnS ty_impl_Blob 2 sb (bs.flatMap BR.cells) Lb
theorem ShopO.rd {w0 w : World} {b : Nat} {ks : List (List Int)} {bs : List BR} {L ls : List Blk} (h : ShopO b ks bs L) (hA : At w0 w (L ++ ls)) (hk : ∀ k ∈ ks, keyOk k) (hb : ∀ b ∈ bs, b.Ok w) : ShopR w ⟨b, 0, none⟩ ks bs := by
  obtain ⟨sk, sb, Lk, Lb, rfl, h1, h2⟩ := h
  refine ⟨sk, sb, fun n => ldOk_own hA 0 rfl 0 rfl (by simp [Sh.emb]), fun n => ldOk_own hA 0 rfl 1 rfl (by simp [Sh.emb]), ownS_ks h1 hA ?_ hk, ⟨h2.of hA ?_ (fun b _ => cells_len b) (by omega), hb⟩⟩
  · exact ((List.sublist_append_left _ _).trans (List.sublist_cons_self _ _)).trans (List.sublist_append_left _ _)
  · exact ((List.sublist_append_right _ _).trans (List.sublist_cons_self _ _)).trans (List.sublist_append_left _ _)

theorem run_noStore (w : World) : (Instr.build ty_impl_Store #[]).run Tryz.prog w = .ok (.agg #[.slice none 0 0]) w := by kernel_rfl

end Go.Proofs.YtkifkdkjljcclaaGreat

namespace Go.Proofs.YtkifkdkjljcclaaGreat
open Go.Sx Go.RowKit

theorem c_l01Bytes {w : World} {s t : Sl} {a b : List Int} (hs : BSl w s a) (ht : BSl w t b) (hmax : a.length ≤ 1073741824) : Ret Tryz.prog n_spec_l01Bytes [.slice s.a s.n s.c, .slice t.a t.n t.c] w [.bool] (fun r _ => r = decide (a = b)) := spec_l01Bytes_calls _ _ (by
  unfold spec_l01Bytes
  have h1 := hs.n
  have h2 := ht.n
  refine r_ne (fun hh => ?_) (fun hh => ?_)
  · exact r_ret (At.refl w) false rfl (decide_eq_false fun e => by rw [e] at h1; omega).symm
  refine r_loop (σ := Int) (fun i w' => ∃ j : Nat, i = j ∧ j ≤ a.length ∧ a.take j = b.take j ∧ At w w' []) (fun i _ => (s.n - i).toNat) 0 rfl ⟨0, rfl, by omega, by simp, At.refl w⟩ ?_
  rintro i w8 ⟨j, rfl, hj, hpre, h⟩
  refine r_any fun _ => ?_
  refine r_if ((j : Int) < (s.n : Int)) rfl (fun hlt => ?_) (fun hge => ?_)
  · refine r_draw h fun w3 h => ?_
    obtain ⟨p, hp, hk⟩ := hs.byte (i := j) (by omega)
    obtain ⟨q, hq, hk2⟩ := ht.byte (i := j) (by omega)
    refine r_ix p hp (by omega) (by omega) ?_
    refine r_ldO h _ (by simp only [Int.toNat_natCast]; exact hk 1) (by simp) ?_
    refine r_ix q hq (by omega) (by omega) ?_
    refine r_ldO h _ (by simp only [Int.toNat_natCast]; exact hk2 1) (by simp) ?_
    refine r_ne (fun hne => ?_) (fun he => ?_)
    · exact r_ret h false rfl (decide_eq_false fun e => hne (by rw [e])).symm
    · refine ⟨((j + 1 : Nat) : Int), by rw [w64 (by omega) (by omega)]; rfl, ⟨j + 1, rfl, by omega, ?_, h⟩, by omega⟩
      have ea : a[j]? = some (a.getD j 0) := by simp [List.getD, show j < a.length by omega]
      have eb : b[j]? = some (b.getD j 0) := by simp [List.getD, show j < b.length by omega]
      rw [take_succ_get ea, take_succ_get eb, hpre, he]
  · refine r_ret h true rfl (decide_eq_true ?_).symm
    rw [List.take_of_length_le (by omega), List.take_of_length_le (by omega)] at hpre
    exact hpre)

structure BAt (w : World) (p : Addr) (b : BR) : Prop where
  tag : ∀ n, ldOk w n (p.add 0) (.int .u8) b.tag
  d : ∀ n, ldOk w n (p.add 1) .slice b.d
  ok : b.Ok w
theorem BAt.below {w w' : World} {p : Addr} {b : BR} (h : BAt w p b) (hb : Below w.heap.size w w') : BAt w' p b := ⟨fun n => ldOk_below hb (h.tag n), fun n => ldOk_below hb (h.d n), h.ok.below hb⟩
theorem BsR.bat {w : World} {s : Sl} {bs : List BR} (hs : BsR w s bs) {i : Nat} (hi : i < bs.length) : ∃ b p, bs[i]? = some b ∧ b ∈ bs ∧ s.a = some p ∧ BAt w (p.add (i * 2)) b ∧ ldOk w 2 (p.add (i * 2)) .agg b.cells.toArray := by
  obtain ⟨b, p, hb, hbm, hp, hok, hag, h1, h2⟩ := hs.get hi
  exact ⟨b, p, hb, hbm, hp, ⟨fun n => by rw [Go.Deep.add_add]; exact h1 n, fun n => by rw [Go.Deep.add_add]; exact h2 n, hok⟩, hag⟩

theorem c_l05Blob {w : World} {p : Addr} {b : BR} (hb : BAt w p b) : Ret Tryz.prog n_spec_l05Blob [.pointer (some p)] w [.bool] (fun r w' => r = decide (b.data.length ≤ 1024) ∧ w' = w) := spec_l05Blob_calls _ (by
  unfold spec_l05Blob
  refine r_ldN b.d (hb.d 1) ?_
  refine r_ret (At.refl w) _ rfl ⟨?_, rfl⟩
  rw [hb.ok.bytes.n]
  exact decide_eq_decide.2 (by omega))

theorem c_l05SameBlob {w : World} {p q : Addr} {b c : BR} (hb : BAt w p b) (hc : BAt w q c) (hmax : b.data.length ≤ 1073741824) : Ret Tryz.prog n_spec_l05SameBlob [.pointer (some p), .pointer (some q)] w [.bool] (fun r _ => r = decide (b.pb = c.pb)) := spec_l05SameBlob_calls _ _ (by
  unfold spec_l05SameBlob
  have hpb : b.pb = c.pb ↔ b.tag = c.tag ∧ b.data = c.data := by simp [BR.pb]
  refine r_draw (At.refl w) fun w1 h => ?_
  have hb1 := hb.below h.below
  have hc1 := hc.below h.below
  refine r_ldN b.tag (hb1.tag 1) ?_
  refine r_ldN c.tag (hc1.tag 1) ?_
  have chk : ∀ {w' : World} {k : World → Prop}, At w w' [] → k w' → ((real Tryz.prog (RR w [.bool] fun r _ => r = decide (b.pb = c.pb))).chk [⟨7, 1, (q.add 0), (.int .u8), c.tag⟩, ⟨3, 1, (p.add 0), (.int .u8), b.tag⟩] k : World → Prop) w' := fun hA hk => by
    refine r_chk2 ?_ ?_ hk
    · exact (hc.below hA.below).tag 1
    · exact (hb.below hA.below).tag 1
  refine r_eq (fun ht => ?_) (fun ht => ?_)
  · have fin : ((real Tryz.prog (RR w [.bool] fun r _ => r = decide (b.pb = c.pb))).call n_spec_l01Bytes [(.slice b.d.a b.d.n b.d.c), (.slice c.d.a c.d.n c.d.c)] [.bool] fun r23 =>
       (real Tryz.prog (RR w [.bool] fun r _ => r = decide (b.pb = c.pb))).chk [⟨7, 1, (q.add 0), (.int .u8), c.tag⟩, ⟨3, 1, (p.add 0), (.int .u8), b.tag⟩] <|
       (real Tryz.prog (RR w [.bool] fun r _ => r = decide (b.pb = c.pb))).ret (.bool r23) : World → Prop) w1 := by
      refine r_call h (c_l01Bytes hb1.ok.bytes hc1.ok.bytes hmax) fun r w2 h2 _ hr => ?_
      subst hr
      refine chk h2 ?_
      exact r_ret h2 _ rfl (decide_eq_decide.2 (by rw [hpb]; simp [ht]))
    refine r_all2 ?_ ?_
    · refine r_ldN b.d (hb1.d 1) ?_
      refine chk h ?_
      refine r_ldN c.d (hc1.d 1) ?_
      exact chk h fin
    · refine r_ldN c.d (hc1.d 1) ?_
      refine chk h ?_
      refine r_ldN b.d (hb1.d 1) ?_
      exact chk h fin
  · have hf : decide (b.pb = c.pb) = false := decide_eq_false fun e => ht (hpb.1 e).1
    refine r_all2 ?_ ?_
    · exact chk h (chk h (chk h (r_ret h false rfl hf.symm)))
    · exact chk h (chk h (chk h (r_ret h false rfl hf.symm))))

theorem c_l05Key {w : World} {p : Addr} {b : BR} (hb : BAt w p b) (hmax : b.data.length ≤ 35184372088832) : Ret Tryz.prog n_spec_l05Key [.pointer (some p)] w [.agg] (fun r _ => r = (u8s b.pb.key).toArray) := spec_l05Key_calls _ (by
  unfold spec_l05Key
  refine r_new (At.refl w) fun b2 w1 h => ?_
  refine r_draw h fun w2 h => ?_
  refine r_ldO h b.tag (hb.tag 1) (by simp) ?_
  refine r_ldO h b.d (hb.d 1) (by simp) ?_
  refine r_call h (c_l01Hash b.tag (hb.ok.bytes.at h).sl hb.ok.bytes.ok (by omega)) fun r w3 h3 _ hr => ?_
  subst hr
  refine r_stA h3 0 rfl rfl (by simp [hashL_len]) (by simp [Value.cells]) (by simpa using u8s_one) fun w4 h4 => ?_
  refine r_ldA h4 0 rfl rfl (by simp [hashL_len]) ?_
  exact r_ret h4 _ rfl rfl)

theorem c_l01Compare {a b : List Int} (ha : a.length = 32) (hb : b.length = 32) (w : World) : Ret Tryz.prog n_spec_l01Compare [.agg (u8s a).toArray, .agg (u8s b).toArray] w [.int .i64] (fun r _ => r = cmpL a b) := spec_l01Compare_calls _ _ (by
  unfold spec_l01Compare
  refine r_new (At.refl w) fun b2 w1 h => ?_
  refine r_new h fun b3 w2 h => ?_
  refine r_loop (σ := Int) (fun i w' => ∃ j : Nat, i = j ∧ j ≤ 32 ∧ cmpL a b = cmpL (a.drop j) (b.drop j) ∧ At w w' [(b3, (u8s b).toArray, ty_impl_Key), (b2, (u8s a).toArray, ty_impl_Key)]) (fun i _ => (32 - i).toNat) 0 rfl ⟨0, rfl, by omega, by simp, h⟩ ?_
  rintro i w3 ⟨j, rfl, hj, he, h⟩
  refine r_any fun _ => ?_
  refine r_if ((j : Int) < 32) rfl (fun hlt => ?_) (fun hge => ?_)
  · refine r_draw h fun w4 h => ?_
    rw [cmpL_drop (by omega) (by omega)] at he
    refine r_ix ⟨b2, 0, none⟩ rfl (by omega) (by omega) ?_
    refine r_ld h 1 rfl (add_lit _ _ _) (a.getD j 0) (by simp [Sh.emb]) (by simp only [Int.toNat_natCast, Nat.zero_add, Nat.mul_one]; exact u8s_arr (by omega)) ?_
    refine r_ix ⟨b3, 0, none⟩ rfl (by omega) (by omega) ?_
    refine r_ld h 0 rfl (add_lit _ _ _) (b.getD j 0) (by simp [Sh.emb]) (by simp only [Int.toNat_natCast, Nat.zero_add, Nat.mul_one]; exact u8s_arr (by omega)) ?_
    refine r_ne (fun hne => ?_) (fun heq => ?_)
    · refine r_draw h fun w5 h => ?_
      refine r_ix ⟨b2, 0, none⟩ rfl (by omega) (by omega) ?_
      refine r_ld h 1 rfl (add_lit _ _ _) (a.getD j 0) (by simp [Sh.emb]) (by simp only [Int.toNat_natCast, Nat.zero_add, Nat.mul_one]; exact u8s_arr (by omega)) ?_
      refine r_ix ⟨b3, 0, none⟩ rfl (by omega) (by omega) ?_
      refine r_ld h 0 rfl (add_lit _ _ _) (b.getD j 0) (by simp [Sh.emb]) (by simp only [Int.toNat_natCast, Nat.zero_add, Nat.mul_one]; exact u8s_arr (by omega)) ?_
      refine r_if (a.getD j 0 < b.getD j 0) rfl (fun hl => ?_) (fun hl => ?_)
      · rw [if_pos hl] at he
        exact r_ret h.nil (-1 : Int) rfl he.symm
      · rw [if_neg hl, if_pos (by omega)] at he
        exact r_ret h.nil (1 : Int) rfl he.symm
    · rw [heq, if_neg (by omega), if_neg (by omega)] at he
      exact ⟨((j + 1 : Nat) : Int), by rw [w64 (by omega) (by omega)]; rfl, ⟨j + 1, rfl, by omega, he, h⟩, by omega⟩
  · rw [List.drop_eq_nil_of_le (by omega), List.drop_eq_nil_of_le (by omega)] at he
    exact r_ret h.nil (0 : Int) rfl he.symm)

theorem c_l05Copy {w : World} {b : BR} (hb : b.Ok w) (hmax : b.data.length ≤ 35184372088832) : Ret Tryz.prog n_spec_l05Copy [.agg b.cells.toArray] w [.agg] (fun r w' => ∃ (b' : BR) (L : List Blk), r = b'.cells.toArray ∧ b'.pb = b.pb ∧ At w w' L ∧ OwnS ty_uint8 1 b'.d (u8s b'.data) L) := spec_l05Copy_calls _ (by
  unfold spec_l05Copy
  have hn := hb.bytes.n
  refine r_new (At.refl w) fun b1 w1 h => ?_
  refine r_new h fun b2 w2 h => ?_
  refine r_draw h fun w3 h => ?_
  refine r_ld h 1 rfl (add_lit _ _ _) b.tag (by simp [Sh.emb]) (by simp [Value.cells, BR.cells, Sh.emb]) ?_
  refine r_ld h 1 rfl (add_lit _ _ _) b.d (by simp [Sh.emb]) (by simp [Value.cells, BR.cells, Sh.emb]) ?_
  refine r_bs0 T_sl_uint8 h fun y w4 hy hyn => ?_
  refine r_chk2 ?_ ?_ ?_
  · exact ldOk_own hy.at_ 1 rfl 1 rfl (by simp [Sh.emb])
  · exact ldOk_own hy.at_ 1 rfl 0 rfl (by simp [Sh.emb])
  refine r_append T_sl_uint8 hy (hb.bytes.at hy.at_).sl u8s_one (by omega) (by omega) fun y' w5 hS hn5 => ?_
  obtain ⟨L, hO, hA⟩ := hS.split
  have hA := hA.swap
  refine r_chk1 ?_ ?_
  · exact ldOk_own hA 1 rfl 0 rfl (by simp [Sh.emb])
  refine r_pur (sh := .agg) _ (run_mkBlob b.tag y') ?_
  refine r_stA hA 0 rfl rfl rfl rfl (by simp [oneC]) fun w6 h6 => ?_
  refine r_ldA h6 0 rfl rfl rfl ?_
  exact r_ret h6.nil _ rfl ⟨⟨b.tag, y', b.data⟩, L, rfl, rfl, h6.right (A := [_, _]), by simpa using hO⟩)

structure SpecR (w : World) (p : Addr) (ks : List (List Int)) (bs : List BR) : Prop where
  ex : ∃ sk sb, (∀ n, ldOk w n (p.add 1) .slice sk) ∧ (∀ n, ldOk w n (p.add 0) .slice sb) ∧ KsR w sk ks ∧ BsR w sb bs
theorem SpecR.below {w w' : World} {p : Addr} {ks : List (List Int)} {bs : List BR} (h : SpecR w p ks bs) (hb : Below w.heap.size w w') : SpecR w' p ks bs :=
  let ⟨sk, sb, h1, h2, h3, h4⟩ := h.ex
  ⟨sk, sb, fun n => ldOk_below hb (h1 n), fun n => ldOk_below hb (h2 n), h3.below hb, h4.below hb⟩
theorem SpecR.at {w w' : World} {ls : List Blk} {p : Addr} {ks : List (List Int)} {bs : List BR} (h : SpecR w p ks bs) (hA : At w w' ls) : SpecR w' p ks bs := h.below hA.below
def SpecO (b : Nat) (ks : List (List Int)) (bs : List BR) (L : List Blk) : Prop := ∃ sk sb Lk Lb, L = [(b, #[.slice sb.a sb.n sb.c, .slice sk.a sk.n sk.c], ty_spec_l05Store)] ++ (Lb ++ Lk) ∧ OwnS ty_impl_Key 32 sk (ks.flatMap u8s) Lk ∧ OwnS ty_impl_Blob 2 sb (bs.flatMap BR.cells) Lb
theorem SpecO.rd {w0 w : World} {b : Nat} {ks : List (List Int)} {bs : List BR} {L ls : List Blk} (h : SpecO b ks bs L) (hA : At w0 w (L ++ ls)) (hk : ∀ k ∈ ks, keyOk k) (hb : ∀ b ∈ bs, b.Ok w) : SpecR w ⟨b, 0, none⟩ ks bs := by
  obtain ⟨sk, sb, Lk, Lb, rfl, h1, h2⟩ := h
  refine ⟨sk, sb, fun n => ldOk_own hA 0 rfl 1 rfl (by simp [Sh.emb]), fun n => ldOk_own hA 0 rfl 0 rfl (by simp [Sh.emb]), ownS_ks h1 hA ?_ hk, ⟨h2.of hA ?_ (fun b _ => cells_len b) (by omega), hb⟩⟩
  · exact ((List.sublist_append_right _ _).trans (List.sublist_append_right _ _)).trans (List.sublist_append_left _ _)
  · exact ((List.sublist_append_left _ _).trans (List.sublist_append_right _ _)).trans (List.sublist_append_left _ _)

theorem run_noSpec (w : World) : (Instr.build ty_spec_l05Store #[]).run Tryz.prog w = .ok (.agg #[.slice none 0 0, .slice none 0 0]) w := by kernel_rfl

end Go.Proofs.YtkifkdkjljcclaaGreat
