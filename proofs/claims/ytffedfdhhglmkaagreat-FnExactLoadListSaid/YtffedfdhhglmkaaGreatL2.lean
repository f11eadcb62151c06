/- ChunkPartial, ListProofFromCopy: the program and the reference. Printed in part by a program of this claim's author (l2.py). -/
import Derived.Test.YtffedfdhhglmkaaGreatL1
import Derived.Test.YtffedfdhhglmkaaGreatS2
namespace Go.Proofs.YtffedfdhhglmkaaGreat
open Go.Sx Go.RowKit

/-! ### The program reads a list's nodes -/
def lsrC (p : Addr) (want : List Int) : Array Value := (Value.pointer (some p) :: u8s want).toArray
theorem lsrC_size {p : Addr} {want : List Int} (h : keyOk want) : (lsrC p want).size = 33 := by simp [lsrC, h.1]
theorem lsr_set {p : Addr} {want k : List Int} (h : keyOk want) : ((lsrC p want).toList.take 1 ++ (u8s k).toArray.toList ++ (lsrC p want).toList.drop (1 + 32)).toArray = lsrC p k := by
  have h1 : (lsrC p want).toList = Value.pointer (some p) :: u8s want := rfl
  have e : (u8s want).length = 32 := by rw [u8s_len]; exact h.1
  rw [h1, List.drop_eq_nil_of_le (by rw [List.length_cons]; omega), List.append_nil]
  rfl
theorem lsr_want {p : Addr} {want : List Int} (h : keyOk want) : (lsrC p want).extract 1 (1 + 32) = (u8s want).toArray := by
  apply Array.ext'
  unfold lsrC
  rw [List.extract_toArray]
  show ((Value.pointer (some p) :: u8s want).drop 1).take (1 + 32 - 1) = _
  have e : (u8s want).length = 32 := by rw [u8s_len]; exact h.1
  rw [List.drop_succ_cons, List.drop_zero, List.take_of_length_le (by omega)]
theorem lsr_one (p : Addr) (want : List Int) : ∀ v ∈ (lsrC p want).toList, oneC v = true := by
  intro v hv
  rcases List.mem_cons.1 (show v ∈ Value.pointer (some p) :: u8s want from hv) with rfl | h
  · rfl
  · exact u8s_one v h
theorem run_mkLister (p : Addr) (w : World) : (Instr.build ty_impl_lister #[(0, (.pointer (some p)))]).run Tryz.prog w = .ok (.agg (lsrC p zero32)) w := by kernel_rfl

def asks (B : List PB) (k : List Int) (tag nb : Int) : Prop := (blobAt B k).tag = tag ∧ (nb < 0 ∨ ((blobAt B k).data.length : Int) = nb)
/-- What a look at a node yields. -/
def LookQ (w0 : World) (B : List PB) (rest : List Blk) (bl : Nat) (p : Addr) (want k : List Int) (tag nb : Int) (v : Value) (w' : World) : Prop :=
  (k ∉ keysOf B ∧ v = .tuple #[.slice none 0 0, .int .i64 6] ∧ At w0 w' ((bl, lsrC p k, ty_impl_lister) :: rest)) ∨
  (k ∈ keysOf B ∧ At w0 w' ((bl, lsrC p want, ty_impl_lister) :: rest) ∧ ((∃ s : Sl, asks B k tag nb ∧ v = .tuple #[.slice s.a s.n s.c, .int .i64 0] ∧ BSl w0 s (blobAt B k).data) ∨ (¬ asks B k tag nb ∧ v = .tuple #[.slice none 0 0, .int .i64 8])))

theorem c_lblob {w0 w : World} {rest : List Blk} {bl : Nat} {p : Addr} {B : List PB} {bs : List BR} {want k : List Int} {tag nb : Int} (hA : At w0 w ((bl, lsrC p want, ty_impl_lister) :: rest)) (hs : ShopR w0 p (keysOf B) bs) (hpb : bs.map BR.pb = B) (hv : validS B) (hk : keyOk k) (hw : keyOk want) :
    Calls Tryz.prog n_ptr_impl_lister_blob [.pointer (some ⟨bl, 0, none⟩), .agg (u8s k).toArray, .int .u8 tag, .int .i64 nb].toArray w fun e w' => ∃ v, e = .returned v ∧ LookQ w0 B rest bl p want k tag nb v w' := ptr_impl_lister_blob_calls _ _ _ _ (by
  unfold ptr_impl_lister_blob
  have hB128 : B.length ≤ 128 := hv.1
  have hkl : (keysOf B).length = B.length := keysOf_len B
  have hasc : Asc (keysOf B) := hv.2.2
  have hbl : bs.length = B.length := by rw [← hpb]; simp
  obtain ⟨sk, sb, _, _, _, hBs⟩ := hs.ex
  refine r_new hA fun b5 w1 h => ?_
  have h : At w0 w1 ((b5, (u8s k).toArray, ty_impl_Key) :: (bl, lsrC p want, ty_impl_lister) :: rest) := h
  have got : ∀ {r : Array Value × Bool}, ((k ∈ keysOf B ∧ ∃ b, bs[posK (keysOf B) k]? = some b ∧ r = (b.cells.toArray, true)) ∨ (k ∉ keysOf B ∧ r = (#[.int .u8 0, .slice none 0 0], false))) → r.1.size = 2 ∧ (∀ v ∈ r.1.toList, oneC v = true) := fun hr => by
    rcases hr with ⟨_, b, _, rfl⟩ | ⟨_, rfl⟩
    · exact ⟨rfl, by simpa using cells_one b⟩
    · exact ⟨rfl, by simp [oneC]⟩
  refine r_join (σ := Addr × Bool) (fun s w' => ∃ (b10 : Nat) (r : Array Value × Bool), s = (⟨b10, 0, none⟩, r.2) ∧ At w0 w' ((b10, r.1, ty_impl_Blob) :: (b5, (u8s k).toArray, ty_impl_Key) :: (bl, lsrC p want, ty_impl_lister) :: rest) ∧ ((k ∈ keysOf B ∧ ∃ b, bs[posK (keysOf B) k]? = some b ∧ r = (b.cells.toArray, true)) ∨ (k ∉ keysOf B ∧ r = (#[.int .u8 0, .slice none 0 0], false)))) (fun s w2 hJ => ?_) ?_
  · obtain ⟨b10, r, rfl, h, hr⟩ := hJ
    refine r_any fun _ => ?_
    dsimp only
    rcases hr with ⟨hm, b, hb, rfl⟩ | ⟨hm, rfl⟩
    · have hBb := pb_get hpb hb
      have hbe : blobAt B k = b.pb := by unfold blobAt; simp [List.getD, hBb]
      have hok := hBs.ok b (List.mem_of_getElem? hb)
      have hdn := hok.bytes.n
      have hpt : b.pb.tag = b.tag := rfl
      have hpd : b.pb.data = b.data := rfl
      refine r_false rfl ?_
      refine r_ld h 0 rfl (add_lit _ _ _) b.tag (by simp [Sh.emb]) rfl ?_
      have no : ∀ {w' : World}, At w0 w' ((b10, b.cells.toArray, ty_impl_Blob) :: (b5, (u8s k).toArray, ty_impl_Key) :: (bl, lsrC p want, ty_impl_lister) :: rest) → ¬ asks B k tag nb → LookQ w0 B rest bl p want k tag nb (.tuple #[.slice none 0 0, .int .i64 8]) w' := fun h hn => .inr ⟨hm, h.tail.tail, .inr ⟨hn, rfl⟩⟩
      refine r_ne (fun hne => ?_) (fun heq => ?_)
      · exact r_retR (no h fun hh => hne (by have := hh.1; rw [hbe] at this; exact this))
      · have yes : ∀ {w' : World}, At w0 w' ((b10, b.cells.toArray, ty_impl_Blob) :: (b5, (u8s k).toArray, ty_impl_Key) :: (bl, lsrC p want, ty_impl_lister) :: rest) → (nb < 0 ∨ (b.data.length : Int) = nb) → LookQ w0 B rest bl p want k tag nb (.tuple #[.slice b.d.a b.d.n b.d.c, .int .i64 0]) w' := fun h hn => .inr ⟨hm, h.tail.tail, .inl ⟨b.d, ⟨by rw [hbe]; exact heq, by rw [hbe]; exact hn⟩, rfl, by rw [hbe]; exact hok.bytes⟩⟩
        refine r_if (nb ≥ 0) rfl (fun hge => ?_) (fun hlt => ?_)
        · refine r_ld h 0 rfl (add_lit _ _ _) b.d (by simp [Sh.emb]) rfl ?_
          refine r_ne (fun hne => ?_) (fun heq2 => ?_)
          · refine r_retR (no h fun hh => ?_)
            have := hh.2
            rw [hbe, hpd] at this
            omega
          · refine r_ld h 0 rfl (add_lit _ _ _) b.d (by simp [Sh.emb]) rfl ?_
            exact r_retR (yes h (.inr (by omega)))
        · refine r_ld h 0 rfl (add_lit _ _ _) b.d (by simp [Sh.emb]) rfl ?_
          exact r_retR (yes h (.inl (by omega)))
    · refine r_true rfl ?_
      refine r_ldA h 1 rfl rfl (by simp [hk.1]) ?_
      refine r_stP h 2 (o := 1) rfl (add_lit _ _ _) (by simp [hk.1]) (by rw [lsrC_size hw]; omega) (by simpa using u8s_one) fun w3 h => ?_
      rw [lsr_set hw] at h
      have h : At w0 w3 ((b10, #[.int .u8 0, .slice none 0 0], ty_impl_Blob) :: (b5, (u8s k).toArray, ty_impl_Key) :: (bl, lsrC p k, ty_impl_lister) :: rest) := h
      exact r_retR (.inl ⟨hm, rfl, h.tail.tail⟩)
  · refine r_draw h fun w2 h => ?_
    have lp : ∀ {w' : World}, At w0 w' ((b5, (u8s k).toArray, ty_impl_Key) :: (bl, lsrC p want, ty_impl_lister) :: rest) → ldOk w' 1 ((⟨bl, 0, none⟩ : Addr).add 0) .ptr p := fun h => ldOk_own h 1 rfl 0 rfl (by simp [Sh.emb])
    refine r_ldN (sh := .ptr) p (lp h) ?_
    refine r_ldA h 0 rfl rfl (by simp [hk.1]) ?_
    refine r_all2 ?_ ?_
    · refine r_call h (c_get (hs.at h) hasc (by omega) hk (by omega)) fun r18 w3 h _ hr => ?_
      obtain ⟨g1, g2⟩ := got hr
      refine r_new h fun b10 w4 h => ?_
      refine r_stA h 0 rfl rfl g1 rfl g2 fun w5 h => ?_
      exact ⟨(⟨b10, 0, none⟩, r18.2), rfl, b10, r18, rfl, h, hr⟩
    · refine r_new h fun b10 w4 h => ?_
      refine r_chk2 ?_ ?_ ?_
      · exact ldOk_blk h 1 rfl (by simp [hk.1])
      · exact lp (At.tail h)
      refine r_call h (c_get (hs.at h) hasc (by omega) hk (by omega)) fun r18 w3 h _ hr => ?_
      obtain ⟨g1, g2⟩ := got hr
      refine r_stA h 0 rfl rfl g1 rfl g2 fun w5 h => ?_
      exact ⟨(⟨b10, 0, none⟩, r18.2), rfl, b10, r18, rfl, h, hr⟩)

def PairQ (w0 : World) (B : List PB) (rest : List Blk) (bl : Nat) (p : Addr) (want k : List Int) (v : Value) (w' : World) : Prop :=
  (k ∉ keysOf B ∧ v = .tuple #[.agg (Array.replicate 32 (.int .u8 0)), .agg (Array.replicate 32 (.int .u8 0)), .int .i64 6] ∧ At w0 w' ((bl, lsrC p k, ty_impl_lister) :: rest)) ∨
  (k ∈ keysOf B ∧ At w0 w' ((bl, lsrC p want, ty_impl_lister) :: rest) ∧ (((blobAt B k).tag = 2 ∧ (blobAt B k).data.length = 64 ∧ bytesOk (blobAt B k).data ∧ v = .tuple #[.agg (u8s (part32 (blobAt B k).data 0)).toArray, .agg (u8s (part32 (blobAt B k).data 32)).toArray, .int .i64 0]) ∨ (¬ ((blobAt B k).tag = 2 ∧ (blobAt B k).data.length = 64) ∧ v = .tuple #[.agg (Array.replicate 32 (.int .u8 0)), .agg (Array.replicate 32 (.int .u8 0)), .int .i64 8])))
theorem c_lpair {w0 w : World} {rest : List Blk} {bl : Nat} {p : Addr} {B : List PB} {bs : List BR} {want k : List Int} (hA : At w0 w ((bl, lsrC p want, ty_impl_lister) :: rest)) (hs : ShopR w0 p (keysOf B) bs) (hpb : bs.map BR.pb = B) (hv : validS B) (hk : keyOk k) (hw : keyOk want) :
    Calls Tryz.prog n_ptr_impl_lister_pair [.pointer (some ⟨bl, 0, none⟩), .agg (u8s k).toArray].toArray w fun e w' => ∃ v, e = .returned v ∧ PairQ w0 B rest bl p want k v w' := ptr_impl_lister_pair_calls _ _ (by
  unfold ptr_impl_lister_pair
  refine r_new hA fun b3 w1 h => ?_
  refine r_new h fun b4 w2 h => ?_
  refine r_new h fun b5 w3 h => ?_
  have h : At w0 w3 ([(b5, Array.replicate 32 (.int .u8 0), ty_impl_Key), (b4, Array.replicate 32 (.int .u8 0), ty_impl_Key), (b3, (u8s k).toArray, ty_impl_Key)] ++ ([(bl, lsrC p want, ty_impl_lister)] ++ rest)) := h
  refine r_ldA h 2 rfl rfl (by simp [hk.1]) ?_
  refine r_callR (c_lblob (tag := 2) (nb := 64) h.pl1 hs hpb hv hk hw) ?_
  rintro v w4 hq
  have bad_ : ∀ {w' : World} {wt : List Int} {c : Int}, c ≠ 0 → At w0 w' ([(b5, Array.replicate 32 (.int .u8 0), ty_impl_Key), (b4, Array.replicate 32 (.int .u8 0), ty_impl_Key), (b3, (u8s k).toArray, ty_impl_Key)] ++ ([(bl, lsrC p wt, ty_impl_lister)] ++ rest)) → (∀ w'', At w0 w'' ((bl, lsrC p wt, ty_impl_lister) :: rest) → PairQ w0 B rest bl p want k (.tuple #[.agg (Array.replicate 32 (.int .u8 0)), .agg (Array.replicate 32 (.int .u8 0)), .int .i64 c]) w'') →
      ((real Tryz.prog (PairQ w0 B rest bl p want k)).st 32 ⟨b4, 0, none⟩ (.agg (Array.replicate 32 (.int .u8 0))) <| (real Tryz.prog (PairQ w0 B rest bl p want k)).st 32 ⟨b5, 0, none⟩ (.agg (Array.replicate 32 (.int .u8 0))) <| (real Tryz.prog (PairQ w0 B rest bl p want k)).ld .agg 32 ⟨b4, 0, none⟩ fun z6 => (real Tryz.prog (PairQ w0 B rest bl p want k)).ld .agg 32 ⟨b5, 0, none⟩ fun z7 => (real Tryz.prog (PairQ w0 B rest bl p want k)).ret (.tuple #[.agg z6, .agg z7, .int .i64 c]) : World → Prop) w' := fun {w' wt c} h0 h hd => by
    refine r_stA h 1 rfl rfl (by simp) (by simp) (by simp [oneC]) fun w5 h => ?_
    refine r_stA h 0 rfl rfl (by simp) (by simp) (by simp [oneC]) fun w6 h => ?_
    refine r_ldA h 1 rfl rfl (by simp) ?_
    refine r_ldA h 0 rfl rfl (by simp) ?_
    exact r_retR (hd _ (At.right (A := [_, _, _]) h))
  rcases hq with ⟨hm, rfl, h⟩ | ⟨hm, h, ⟨s, has, rfl, hsb⟩ | ⟨hn, rfl⟩⟩
  · refine ⟨(⟨none, 0, 0⟩, 6), rfl, ?_⟩
    refine r_true rfl ?_
    exact bad_ (wt := k) (by decide) (At.ps1 (V := [_, _, _]) (G1 := [_]) h) fun w'' h => .inl ⟨hm, rfl, h⟩
  · refine ⟨(s, 0), rfl, ?_⟩
    refine r_false rfl ?_
    have h64 : (blobAt B k).data.length = 64 := by have := has.2; omega
    have hn := hsb.n
    have hcap := hsb.cap
    have hok := hsb.ok
    generalize hd : (blobAt B k).data = d at h64 hsb hn hok
    have h := At.ps1 (V := [_, _, _]) (G1 := [_]) h
    refine r_draw h fun w5 h => ?_
    obtain ⟨p0, hp0, _⟩ := hsb.sl.cell 0 _ (List.getElem?_eq_getElem (by simp; omega))
    refine r_pur p0 (fun w' => by rw [hp0]; exact run_arrayAt (n := 32) (e := ty_uint8) (by kernel_rfl) (by dsimp only; omega) w') ?_
    have ht0 : (u8s d).take 32 = u8s (part32 d 0) := by simp only [part32, u8s, List.map_take, List.drop_zero]
    refine r_ldN (u8s (part32 d 0)).toArray (by rw [← ht0]; exact (hsb.sl.below h.below).agg hp0 (by simp; omega)) ?_
    refine r_sl 32 s.n rfl rfl (by omega) hcap ?_
    have hsub := bsl_sub hsb 32 s.n (by omega) (by omega)
    obtain ⟨q, hq, _⟩ := hsub.cell 0 _ (List.getElem?_eq_getElem (by simp; omega))
    refine r_pur q (fun w' => by rw [hq]; exact run_arrayAt (n := 32) (e := ty_uint8) (by kernel_rfl) (by dsimp only; omega) w') ?_
    have ht1 : (u8s ((d.drop 32).take (s.n - 32))).take 32 = u8s (part32 d 32) := by
      simp only [part32, u8s, List.map_take, List.map_drop]
      rw [List.take_take, Nat.min_eq_left (by omega)]
    have l2 : ∀ {w' : World} {ls : List Blk}, At w0 w' ls → ldOk w' 32 q .agg (u8s (part32 d 32)).toArray := fun h => by
      rw [← ht1]
      exact (hsub.below h.below).agg hq (by simp; omega)
    refine r_ldN (u8s (part32 d 32)).toArray (l2 h) ?_
    have l0n := part32_len (d := d) (o := 0) (by omega)
    have l1n := part32_len (d := d) (o := 32) (by omega)
    refine r_stA h 1 rfl rfl (by simp [l0n]) (by simp) (by simpa using u8s_one) fun w6 h => ?_
    refine r_chk1 ?_ ?_
    · exact l2 h
    refine r_stA h 0 rfl rfl (by simp [l1n]) (by simp) (by simpa using u8s_one) fun w7 h => ?_
    refine r_ldA h 1 rfl rfl (by simp [l0n]) ?_
    refine r_ldA h 0 rfl rfl (by simp [l1n]) ?_
    exact r_retR (.inr ⟨hm, At.right (A := [_, _, _]) h, .inl ⟨has.1, by rw [hd]; exact h64, by rw [hd]; exact hok, by rw [hd]⟩⟩)
  · refine ⟨(⟨none, 0, 0⟩, 8), rfl, ?_⟩
    refine r_true rfl ?_
    refine bad_ (wt := want) (by decide) (At.ps1 (V := [_, _, _]) (G1 := [_]) h) fun w'' h => .inr ⟨hm, h, .inr ⟨fun hh => hn ⟨hh.1, .inr (by omega)⟩, rfl⟩⟩)

theorem c_toldCode (c : Int) : RetP Tryz.prog n_impl_toldCode [.int .i64 c] [.int .i64] (if c = 6 then 4 else c) := fun w => impl_toldCode_calls c (by
  unfold impl_toldCode
  refine r_eq (fun h => ?_) (fun h => ?_)
  · rw [if_pos h]; exact r_retP rfl
  · rw [if_neg h]; exact r_retP rfl)

def ChunkQ (w : World) (R : List Int × List (List Int) × List Int × Int) (r : Sl × Sl × Array Value × Int) (w' : World) : Prop :=
  ∃ L1 L2, At w w' (L1 ++ (L2 ++ [])) ∧ OwnByteS r.1 R.1 L1 ∧ OwnKeyS r.2.1 R.2.1 L2 ∧ RdKey w r.2.2.1 R.2.2.1 ∧ r.2.2.2 = R.2.2.2

theorem c_chunk {w : World} {p : Addr} {B : List PB} {bs : List BR} {k : List Int} {n i : Nat} (hs : ShopR w p (keysOf B) bs) (hpb : bs.map BR.pb = B) (hv : validS B) (hk : keyOk k) (h1 : 1 ≤ n) (hn : n ≤ 256) (hi : i < n) :
    Ret Tryz.prog n_ptr_impl_shop_chunk [.pointer (some p), .agg (u8s k).toArray, .int .i64 (n : Int), .int .i64 (i : Int)] w [.slice, .slice, .agg, .int .i64] (ChunkQ w (chunkGo B n k n i [])) := ptr_impl_shop_chunk_calls _ _ _ _ (by
  unfold ptr_impl_shop_chunk
  refine r_new (At.refl w) fun b5 w1 h => ?_
  refine r_new h fun b10 w2 h => ?_
  refine r_pur (sh := .agg) _ (run_mkLister p) ?_
  refine r_new h fun b22 w3 h => ?_
  refine r_bs0 T_sl_Key h fun y w4 hy hyn => ?_
  obtain ⟨Lp, hOp, h⟩ := hy.split
  have h : At w w4 (Lp ++ ([(b22, lsrC p zero32, ty_impl_lister), (b10, Array.replicate 32 (.int .u8 0), ty_impl_Key), (b5, (u8s k).toArray, ty_impl_Key)] ++ [])) := h
  refine r_loop (σ := Int × Int × Sl) (fun s w' => ∃ (f m j : Nat) (kk : List Int) (acc : List (List Int)) (Lp : List Blk), s.1 = m ∧ s.2.1 = j ∧ 1 ≤ m ∧ m ≤ f ∧ m ≤ 256 ∧ j < m ∧ keyOk kk ∧ (∀ x ∈ acc, keyOk x) ∧ acc.length + m ≤ n ∧ s.2.2.n = acc.length ∧ chunkGo B n k n i [] = chunkGo B f kk m j acc ∧ OwnS ty_impl_Key 32 s.2.2 (acc.reverse.flatMap u8s) Lp ∧
      At w w' (Lp ++ ([(b22, lsrC p zero32, ty_impl_lister), (b10, Array.replicate 32 (.int .u8 0), ty_impl_Key), (b5, (u8s kk).toArray, ty_impl_Key)] ++ []))) (fun s _ => s.1.toNat) ((n : Int), (i : Int), y) rfl
    ⟨n, n, i, k, [], Lp, rfl, rfl, h1, Nat.le_refl _, hn, hi, hk, by simp, by simp, hyn, rfl, by simpa using hOp, h⟩ ?_
  clear hOp h hy hyn
  rintro ⟨mi, ji, so⟩ w5 ⟨f, m, j, kk, acc, Lp, hmi, hji, hm1, hmf, hm256, hjm, hkk, hacc, hal, hsn, hgo, hOp, h⟩
  dsimp only at hmi hji hsn hOp
  subst hmi
  subst hji
  refine r_any fun _ => ?_
  dsimp only
  obtain ⟨f, rfl⟩ : ∃ f', f = f' + 1 := ⟨f - 1, by omega⟩
  rw [chunkGo_succ] at hgo
  have bad_ : ∀ {w' : World} {wt : List Int} {c : Int} {V : List Blk}, keyOk wt → chunkGo B n k n i [] = ([], [], wt, if c = 6 then 4 else c) → At w w' (V ++ ([(b22, lsrC p wt, ty_impl_lister), (b10, Array.replicate 32 (.int .u8 0), ty_impl_Key), (b5, (u8s kk).toArray, ty_impl_Key)] ++ (Lp ++ []))) →
      ((real Tryz.prog (RR w [.slice, .slice, .agg, .int .i64] (ChunkQ w (chunkGo B n k n i [])))).draw <| (real Tryz.prog (RR w [.slice, .slice, .agg, .int .i64] (ChunkQ w (chunkGo B n k n i [])))).ld .agg 32 ((⟨b22, 0, none⟩ : Addr).add 1) fun v38 => (real Tryz.prog (RR w [.slice, .slice, .agg, .int .i64] (ChunkQ w (chunkGo B n k n i [])))).callP n_impl_toldCode [.int .i64 c] [.int .i64] fun r40 => (real Tryz.prog (RR w [.slice, .slice, .agg, .int .i64] (ChunkQ w (chunkGo B n k n i [])))).st 32 ⟨b10, 0, none⟩ (.agg v38) <| (real Tryz.prog (RR w [.slice, .slice, .agg, .int .i64] (ChunkQ w (chunkGo B n k n i [])))).ld .agg 32 ⟨b10, 0, none⟩ fun z13 => (real Tryz.prog (RR w [.slice, .slice, .agg, .int .i64] (ChunkQ w (chunkGo B n k n i [])))).ret (.tuple #[.slice none 0 0, .slice none 0 0, .agg z13, .int .i64 r40]) : World → Prop) w' := fun {w' wt c V} hwt hc h => by
    have h := h.right
    refine r_draw h fun w6 h => ?_
    refine r_ldP h 0 rfl (add_lit _ _ _) (by rw [lsrC_size hwt]; omega) ?_
    rw [show (0 + 1 : Nat) = 1 from rfl, lsr_want hwt]
    refine r_callP (c_toldCode c) ?_
    refine r_stA h 1 rfl rfl (by simp [hwt.1]) (by simp) (by simpa using u8s_one) fun w7 h => ?_
    refine r_ldA h 1 rfl rfl (by simp [hwt.1]) ?_
    refine r_ret h.nil (⟨none, 0, 0⟩, ⟨none, 0, 0⟩, (u8s wt).toArray, _) rfl ?_
    rw [hc]
    exact ⟨[], [], h.nil, OwnByteS.none, OwnKeyS.none, ⟨rfl, hwt⟩, rfl⟩
  refine r_if ((m : Int) > 1) rfl (fun hgt => ?_) (fun hle => ?_)
  · rw [if_neg (show ¬ m ≤ 1 by omega)] at hgo
    have hh := half_lt (n := m) (by omega)
    have h : At w w5 ([(b22, lsrC p zero32, ty_impl_lister), (b10, Array.replicate 32 (.int .u8 0), ty_impl_Key), (b5, (u8s kk).toArray, ty_impl_Key)] ++ (Lp ++ [])) := h.rot
    refine r_ldA h 2 rfl rfl (by simp [hkk.1]) ?_
    refine r_callR (c_lpair h hs hpb hv hkk zero32_ok) ?_
    rintro v w6 hq
    rcases hq with ⟨hm, rfl, h⟩ | ⟨hm, h, ⟨ht2, h64, hdok, rfl⟩ | ⟨hn2, rfl⟩⟩
    · rw [if_neg hm] at hgo
      refine ⟨(_, _, 6), rfl, ?_⟩
      refine r_new h fun b14 w7 h => ?_
      refine r_new h fun b15 w8 h => ?_
      refine r_stA h 1 rfl rfl (by simp) (by simp [Value.cells]) (by simp [oneC]) fun w9 h => ?_
      refine r_stA h 0 rfl rfl (by simp) (by simp [Value.cells]) (by simp [oneC]) fun w10 h => ?_
      refine r_true rfl ?_
      exact bad_ (V := [_, _]) hkk (by rw [hgo, if_pos rfl]) h
    · rw [if_pos hm, if_pos ⟨ht2, h64⟩] at hgo
      have k0 : keyOk (part32 (blobAt B kk).data 0) := part32_key (by omega) hdok
      have k1 : keyOk (part32 (blobAt B kk).data 32) := part32_key (by omega) hdok
      refine ⟨(_, _, 0), rfl, ?_⟩
      dsimp only
      generalize part32 (blobAt B kk).data 0 = ka at hgo k0 ⊢
      generalize part32 (blobAt B kk).data 32 = kb at hgo k1 ⊢
      refine r_new h fun b14 w7 h => ?_
      refine r_new h fun b15 w8 h => ?_
      refine r_stA h 1 rfl rfl (by simp [k0.1]) (by simp [Value.cells]) (by simpa using u8s_one) fun w9 h => ?_
      refine r_stA h 0 rfl rfl (by simp [k1.1]) (by simp [Value.cells]) (by simpa using u8s_one) fun w10 h => ?_
      have h : At w w10 ([(b15, (u8s kb).toArray, ty_impl_Key), (b14, (u8s ka).toArray, ty_impl_Key), (b22, lsrC p zero32, ty_impl_lister), (b10, Array.replicate 32 (.int .u8 0), ty_impl_Key), (b5, (u8s kk).toArray, ty_impl_Key)] ++ (Lp ++ [])) := h
      refine r_false rfl ?_
      refine r_callp (c_leftOf m (by omega) (by omega)) ?_
      refine r_if ((j : Int) < (half m : Int)) rfl (fun hlt => ?_) (fun hge => ?_)
      · rw [if_pos (by omega)] at hgo
        refine r_draw h fun w11 h => ?_
        refine r_ldA h 1 rfl rfl (by simp [k0.1]) ?_
        refine r_ldA h 0 rfl rfl (by simp [k1.1]) ?_
        refine r_bs1 T_sl_Key h (by simp [Value.cells, k1.1]) (by omega) fun y50 w12 hy hyn => ?_
        rw [show (Value.agg (u8s kb).toArray).cells.toList = u8s kb by simp [Value.cells]] at hy
        obtain ⟨Ly, hOy, h⟩ := hy.split
        refine r_chk1 ?_ ?_
        · exact ldOk_blk h.pl1 1 rfl (by simp [k0.1])
        refine r_append T_sl_Key (hOp.slo h.pl2) (hOy.sl h (List.sublist_append_left _ _)) u8s_one (by omega) (by omega) fun y51 w13 hS hn51 => ?_
        obtain ⟨Lp', hOp', h⟩ := hS.split
        have h := h.ps2.right
        refine r_chk1 ?_ ?_
        · exact ldOk_blk h 1 rfl (by simp [k0.1])
        refine r_stA h 4 rfl rfl (by simp [k0.1]) (by simp [hkk.1]) (by simpa using u8s_one) fun w14 h => ?_
        have h : At w w14 ([(b15, (u8s kb).toArray, ty_impl_Key), (b14, (u8s ka).toArray, ty_impl_Key)] ++ ([(b22, lsrC p zero32, ty_impl_lister), (b10, Array.replicate 32 (.int .u8 0), ty_impl_Key), (b5, (u8s ka).toArray, ty_impl_Key)] ++ (Lp' ++ []))) := h
        refine ⟨((half m : Int), (j : Int), y51), rfl, ⟨f, half m, j, ka, kb :: acc, Lp', rfl, rfl, hh.2, by omega, by omega, by omega, k0, fun x hx => ?_, by rw [List.length_cons]; omega, by rw [List.length_cons]; dsimp only; omega, hgo, ?_, h.right.rot⟩, by dsimp only; omega⟩
        · rcases List.mem_cons.1 hx with rfl | hx
          · exact k1
          · exact hacc x hx
        · rw [List.reverse_cons, List.flatMap_append]
          simpa using hOp'
      · rw [if_neg (by omega)] at hgo
        refine r_draw h fun w11 h => ?_
        refine r_ldA h 0 rfl rfl (by simp [k1.1]) ?_
        refine r_ldA h 1 rfl rfl (by simp [k0.1]) ?_
        refine r_bs1 T_sl_Key h (by simp [Value.cells, k0.1]) (by omega) fun y50 w12 hy hyn => ?_
        rw [show (Value.agg (u8s ka).toArray).cells.toList = u8s ka by simp [Value.cells]] at hy
        obtain ⟨Ly, hOy, h⟩ := hy.split
        refine r_chk1 ?_ ?_
        · exact ldOk_blk h.pl1 0 rfl (by simp [k1.1])
        refine r_append T_sl_Key (hOp.slo h.pl2) (hOy.sl h (List.sublist_append_left _ _)) u8s_one (by omega) (by omega) fun y51 w13 hS hn51 => ?_
        obtain ⟨Lp', hOp', h⟩ := hS.split
        have h := h.ps2.right
        refine r_chk1 ?_ ?_
        · exact ldOk_blk h 0 rfl (by simp [k1.1])
        refine r_stA h 4 rfl rfl (by simp [k1.1]) (by simp [hkk.1]) (by simpa using u8s_one) fun w14 h => ?_
        have h : At w w14 ([(b15, (u8s kb).toArray, ty_impl_Key), (b14, (u8s ka).toArray, ty_impl_Key)] ++ ([(b22, lsrC p zero32, ty_impl_lister), (b10, Array.replicate 32 (.int .u8 0), ty_impl_Key), (b5, (u8s kb).toArray, ty_impl_Key)] ++ (Lp' ++ []))) := h
        refine ⟨(((m - half m : Nat) : Int), ((j - half m : Nat) : Int), y51), ?_, ⟨f, m - half m, j - half m, kb, ka :: acc, Lp', rfl, rfl, by omega, by omega, by omega, by omega, k1, fun x hx => ?_, by rw [List.length_cons]; omega, by rw [List.length_cons]; dsimp only; omega, hgo, ?_, h.right.rot⟩, by dsimp only; omega⟩
        · rw [w64 (by omega) (by omega), w64 (by omega) (by omega)]
          simp only [embL, Sh.emb]
          congr 3
          · omega
          · congr 2
            omega
        · rcases List.mem_cons.1 hx with rfl | hx
          · exact k0
          · exact hacc x hx
        · rw [List.reverse_cons, List.flatMap_append]
          simpa using hOp'
    · rw [if_pos hm, if_neg hn2] at hgo
      refine ⟨(_, _, 8), rfl, ?_⟩
      refine r_new h fun b14 w7 h => ?_
      refine r_new h fun b15 w8 h => ?_
      refine r_stA h 1 rfl rfl (by simp) (by simp [Value.cells]) (by simp [oneC]) fun w9 h => ?_
      refine r_stA h 0 rfl rfl (by simp) (by simp [Value.cells]) (by simp [oneC]) fun w10 h => ?_
      refine r_true rfl ?_
      exact bad_ (V := [_, _]) zero32_ok (by rw [hgo, if_neg (by decide)]) h
  · rw [if_pos (show m ≤ 1 by omega)] at hgo
    have h : At w w5 ([(b22, lsrC p zero32, ty_impl_lister), (b10, Array.replicate 32 (.int .u8 0), ty_impl_Key), (b5, (u8s kk).toArray, ty_impl_Key)] ++ (Lp ++ [])) := h.rot
    refine r_ldA h 2 rfl rfl (by simp [hkk.1]) ?_
    refine r_callR (c_lblob (tag := 1) (nb := -1) h hs hpb hv hkk zero32_ok) ?_
    rintro v w6 hq
    rcases hq with ⟨hm, rfl, h⟩ | ⟨hm, h, ⟨s, has, rfl, hsb⟩ | ⟨hn2, rfl⟩⟩
    · rw [if_neg hm] at hgo
      refine ⟨(⟨none, 0, 0⟩, 6), rfl, ?_⟩
      refine r_true rfl ?_
      exact bad_ (V := []) hkk (by rw [hgo, if_pos rfl]) h
    · rw [if_pos hm, if_pos has.1] at hgo
      have hd1024 : (blobAt B kk).data.length ≤ 1024 := hv.2.1 _ (blobAt_mem hv.2.2 hm)
      rw [hgo]
      refine ⟨(s, 0), rfl, ?_⟩
      refine r_false rfl ?_
      have h : At w w6 ([(b22, lsrC p zero32, ty_impl_lister), (b10, Array.replicate 32 (.int .u8 0), ty_impl_Key), (b5, (u8s kk).toArray, ty_impl_Key)] ++ (Lp ++ [])) := h
      refine r_callR (c_Reverse h.pl1 hOp (fun x hx => hacc x (List.mem_reverse.1 hx)) (by rw [List.length_reverse]; omega)) ?_
      rintro v w7 ⟨rfl, Lp', h, hOp'⟩
      rw [List.reverse_reverse] at hOp'
      refine ⟨(), rfl, ?_⟩
      refine r_call h (c_CloneBytes (hsb.at h) (by omega)) fun r80 w8 _ _ ⟨hS, hn80⟩ => ?_
      obtain ⟨Lr, hOr, h⟩ := SlO.own_of h hS
      have h := h.pl2
      refine r_stA h 1 rfl rfl (by simp) (by simp) (by simp [oneC]) fun w9 h => ?_
      refine r_ldA h 1 rfl rfl (by simp) ?_
      exact r_ret h.nil (r80, so, _, (0 : Int)) rfl ⟨Lr, Lp', At.right (A := [_, _, _]) h, ⟨hOr, hsb.ok⟩, ⟨hOp', hacc⟩, ⟨rfl, zero32_ok⟩, rfl⟩
    · rw [if_pos hm, if_neg (fun hh => hn2 ⟨hh, .inl (by decide)⟩)] at hgo
      refine ⟨(⟨none, 0, 0⟩, 8), rfl, ?_⟩
      refine r_true rfl ?_
      exact bad_ (V := []) zero32_ok (by rw [hgo, if_neg (by decide)]) h)

theorem c_isLeaves (n : Int) : RetP Tryz.prog n_impl_isLeaves [.int .i64 n] [.bool] (decide (n ≥ 1 ∧ n ≤ 256)) := fun w => impl_isLeaves_calls n (by
  unfold impl_isLeaves
  refine r_callp (c_within n 1 256) ?_
  exact r_retP rfl)

theorem c_openChunk {w : World} {s : Sl} {bs : List BR} (hs : BsR w s bs) (hmax : bs.length ≤ 1073741824) (n i : Int) :
    Ret Tryz.prog n_impl_openChunk [.agg #[.slice s.a s.n s.c], .int .i64 n, .int .i64 i] w [.optr, .int .i64] (fun r w' => (validS (bs.map BR.pb) ∧ leafOk n i ∧ ∃ b L, r = (some ⟨b, 0, none⟩, 0) ∧ At w w' L ∧ ShopO b (keysOf (bs.map BR.pb)) bs L) ∨ (validS (bs.map BR.pb) ∧ ¬ leafOk n i ∧ r = (none, 2)) ∨ (¬ validS (bs.map BR.pb) ∧ r = (none, 1))) := impl_openChunk_calls _ _ _ (by
  unfold impl_openChunk
  refine r_new (At.refl w) fun b3 w1 h => ?_
  refine r_ldA h 0 rfl rfl rfl ?_
  refine r_call h (c_newShop (hs.at h) hmax) fun r w2 h2 _ hr => ?_
  rcases hr with ⟨hv, b, L, rfl, hL, hO⟩ | ⟨hv, rfl⟩
  · refine r_false rfl ?_
    have h : At w w2 (L ++ []) := by
      rw [List.append_nil]
      exact (h.join hL).left
    refine r_callp (c_isLeaves n) ?_
    by_cases h1 : n ≥ 1 ∧ n ≤ 256
    · refine r_false (by simp [h1]) ?_
      rw [w64 (by omega) (by omega)]
      refine r_callp (c_within i 0 (n - 1)) ?_
      by_cases h2 : i ≥ 0 ∧ i ≤ n - 1
      · refine r_false (by rw [decide_eq_true h2]; rfl) ?_
        exact r_ret h.nil (some ⟨b, 0, none⟩, (0 : Int)) rfl (.inl ⟨hv, ⟨h1, h2⟩, b, L, rfl, by simpa using h, hO⟩)
      · refine r_true (by rw [decide_eq_false h2]; rfl) ?_
        exact r_ret h.nil (none, (2 : Int)) rfl (.inr (.inl ⟨hv, fun hh => h2 hh.2, rfl⟩))
    · refine r_true (by rw [decide_eq_false h1]; rfl) ?_
      exact r_ret h.nil (none, (2 : Int)) rfl (.inr (.inl ⟨hv, fun hh => h1 hh.1, rfl⟩))
  · refine r_true rfl ?_
    exact r_ret h2.nil (none, (1 : Int)) rfl (.inr (.inr ⟨hv, rfl⟩)))

/-! ### The reference -/
theorem c_l08Leaf (n i : Int) (w : World) : Ret Tryz.prog n_spec_l08Leaf [.int .i64 n, .int .i64 i] w [.bool] (fun r _ => r = decide (leafOk n i)) := spec_l08Leaf_calls n i (by
  unfold spec_l08Leaf
  refine r_callp (c_l00In n 1 256) ?_
  by_cases h1 : n ≥ 1 ∧ n ≤ 256
  · refine r_true (decide_eq_true h1) ?_
    rw [w64 (by omega) (by omega)]
    refine r_callp (c_l00In i 0 (n - 1)) ?_
    refine r_ret (At.refl w) _ rfl ?_
    rw [decide_eq_decide]
    exact ⟨fun h => ⟨h1, h⟩, fun h => h.2⟩
  · refine r_false (decide_eq_false h1) ?_
    exact r_ret (At.refl w) false rfl (decide_eq_false fun h => h1 h.1).symm)

theorem c_l08Chunk {w : World} {p : Addr} {B : List PB} {bs : List BR} {k : List Int} {n i : Nat} (hs : SpecR w p (keysOf B) bs) (hpb : bs.map BR.pb = B) (hv : validS B) (hk : keyOk k) (h1 : 1 ≤ n) (hn : n ≤ 256) (hi : i < n) :
    Ret Tryz.prog n_spec_l08Chunk [.pointer (some p), .agg (u8s k).toArray, .int .i64 (n : Int), .int .i64 (i : Int)] w [.slice, .slice, .agg, .int .i64] (ChunkQ w (chunkGo B n k n i [])) := spec_l08Chunk_calls _ _ _ _ (by
  unfold spec_l08Chunk
  have hB128 : B.length ≤ 128 := hv.1
  have hkl : (keysOf B).length = B.length := keysOf_len B
  have hasc : Asc (keysOf B) := hv.2.2
  have hbl : bs.length = B.length := by rw [← hpb]; simp
  obtain ⟨sk, sb, e1, e2, hK, hBs⟩ := hs.ex
  have hsbn := hBs.n
  refine r_new (At.refl w) fun b5 w1 h => ?_
  refine r_new h fun b10 w2 h => ?_
  refine r_bs0 T_sl_Key h fun y w4 hy hyn => ?_
  obtain ⟨Lp, hOp, h⟩ := hy.split
  have h : At w w4 (Lp ++ ([(b10, Array.replicate 32 (.int .u8 0), ty_impl_Key), (b5, (u8s k).toArray, ty_impl_Key)] ++ [])) := h
  refine r_ldA h.rot 1 rfl rfl (by simp [hk.1]) ?_
  refine r_new h fun b13 w5 h => ?_
  refine r_stA h 0 rfl rfl (by simp [Value.cells, hk.1]) (by simp [Value.cells]) (by simpa [Value.cells] using u8s_one) fun w6 h => ?_
  have h : At w w6 ([(b13, (u8s k).toArray, ty_impl_Key)] ++ (Lp ++ ([(b10, Array.replicate 32 (.int .u8 0), ty_impl_Key), (b5, (u8s k).toArray, ty_impl_Key)] ++ []))) := h
  refine r_loop (σ := Int × Int × Sl) (fun s w' => ∃ (f m j : Nat) (kk : List Int) (acc : List (List Int)) (Lp : List Blk), s.1 = m ∧ s.2.1 = j ∧ 1 ≤ m ∧ m ≤ f ∧ m ≤ 256 ∧ j < m ∧ keyOk kk ∧ (∀ x ∈ acc, keyOk x) ∧ acc.length + m ≤ n ∧ s.2.2.n = acc.length ∧ chunkGo B n k n i [] = chunkGo B f kk m j acc ∧ OwnS ty_impl_Key 32 s.2.2 (acc.flatMap u8s) Lp ∧
      At w w' ([(b13, (u8s kk).toArray, ty_impl_Key)] ++ ([(b10, Array.replicate 32 (.int .u8 0), ty_impl_Key)] ++ (Lp ++ [])))) (fun s _ => s.1.toNat) ((n : Int), (i : Int), y) rfl
    ⟨n, n, i, k, [], Lp, rfl, rfl, h1, Nat.le_refl _, hn, hi, hk, by simp, by simp, hyn, rfl, by simpa using hOp, ?_⟩ ?_
  · have h2 : At w w6 ([(b13, (u8s k).toArray, ty_impl_Key)] ++ (Lp ++ ([(b10, Array.replicate 32 (.int .u8 0), ty_impl_Key)] ++ ([(b5, (u8s k).toArray, ty_impl_Key)] ++ [])))) := h
    have h3 := h2.dr3
    exact (h3.pl2).ps1
  clear hOp h hy hyn
  rintro ⟨mi, ji, so⟩ w5 ⟨f, m, j, kk, acc, Lp, hmi, hji, hm1, hmf, hm256, hjm, hkk, hacc, hal, hsn, hgo, hOp, h⟩
  dsimp only at hmi hji hsn hOp
  subst hmi
  subst hji
  refine r_any fun _ => ?_
  dsimp only
  obtain ⟨f, rfl⟩ : ∃ f', f = f' + 1 := ⟨f - 1, by omega⟩
  rw [chunkGo_succ] at hgo
  have bad_ : ∀ {w' : World} {c : Int} {V : List Blk}, chunkGo B n k n i [] = ([], [], zero32, c) → At w w' (V ++ ([(b13, (u8s kk).toArray, ty_impl_Key)] ++ ([(b10, Array.replicate 32 (.int .u8 0), ty_impl_Key)] ++ (Lp ++ [])))) →
      ((real Tryz.prog (RR w [.slice, .slice, .agg, .int .i64] (ChunkQ w (chunkGo B n k n i [])))).sem (Instr.buildSlice ty_sl_uint8 0 #[]) .slice fun y65 => (real Tryz.prog (RR w [.slice, .slice, .agg, .int .i64] (ChunkQ w (chunkGo B n k n i [])))).sem (Instr.buildSlice ty_sl_impl_Key 0 #[]) .slice fun y66 => (real Tryz.prog (RR w [.slice, .slice, .agg, .int .i64] (ChunkQ w (chunkGo B n k n i [])))).st 32 ⟨b10, 0, none⟩ (.agg (Array.replicate 32 (.int .u8 0))) <| (real Tryz.prog (RR w [.slice, .slice, .agg, .int .i64] (ChunkQ w (chunkGo B n k n i [])))).ld .agg 32 ⟨b10, 0, none⟩ fun z31 => (real Tryz.prog (RR w [.slice, .slice, .agg, .int .i64] (ChunkQ w (chunkGo B n k n i [])))).ret (.tuple #[.slice y65.a y65.n y65.c, .slice y66.a y66.n y66.c, .agg z31, .int .i64 c]) : World → Prop) w' := fun {w' c V} hc h => by
    have h := h.right
    refine r_bs0 T_sl_uint8' h fun y65 w7 hy1 hyn1 => ?_
    obtain ⟨L1, hO1, h⟩ := hy1.split
    refine r_bs0 T_sl_Key h fun y66 w8 hy2 hyn2 => ?_
    obtain ⟨L2, hO2, h⟩ := hy2.split
    have h : At w w8 ([(b10, Array.replicate 32 (.int .u8 0), ty_impl_Key)] ++ (L2 ++ (L1 ++ ([(b13, (u8s kk).toArray, ty_impl_Key)] ++ (Lp ++ []))))) := h.pl3
    refine r_stA h 0 rfl rfl (by simp) (by simp) (by simp [oneC]) fun w9 h => ?_
    refine r_ldA h 0 rfl rfl (by simp) ?_
    refine r_ret h.nil (y65, y66, _, _) rfl ?_
    rw [hc]
    have h : At w w9 (L2 ++ (L1 ++ ([(b13, (u8s kk).toArray, ty_impl_Key)] ++ (Lp ++ [])))) := At.right (A := [_]) h
    exact ⟨L1, L2, by simpa using h.rot.dr2.dr2, ⟨hO1, (by intro b hb; cases hb)⟩, ⟨by simpa using hO2, by simp⟩, ⟨rfl, zero32_ok⟩, rfl⟩
  refine r_ldA h 0 rfl rfl (by simp [hkk.1]) ?_
  refine r_call h (c_spec_find (hs.at h) hasc hkk (by omega)) fun r22 w6 h _ hr => ?_
  subst hr
  by_cases hm : kk ∈ keysOf B
  · rw [if_pos hm] at hgo
    rw [if_pos hm]
    have hpos := (posK_mem hasc).1 hm
    have hplt := (List.getElem?_eq_some_iff.1 hpos).1
    refine r_if ((posK (keysOf B) kk : Int) < 0) rfl (fun hh => by omega) (fun _ => ?_)
    refine r_ldN sb (ldOk_below h.below (e2 1)) ?_
    obtain ⟨bb, pb, hbb, hbm, hpb', hbat, _⟩ := hBs.bat (i := posK (keysOf B) kk) (by omega)
    have hBb := pb_get hpb hbb
    have hbe : blobAt B kk = bb.pb := by unfold blobAt; simp [List.getD, hBb]
    have hpt : bb.pb.tag = bb.tag := rfl
    have hpd : bb.pb.data = bb.data := rfl
    have hdb : bb.data.length ≤ 1024 := hv.2.1 bb.pb (List.mem_of_getElem? hBb)
    have hdn := hbat.ok.bytes.n
    rw [hbe, hpt, hpd] at hgo
    refine r_ix pb hpb' (by omega) (by omega) ?_
    simp only [Int.toNat_natCast]
    have lt : ∀ {w' : World} {ls : List Blk}, At w w' ls → ldOk w' 1 ((pb.add (posK (keysOf B) kk * 2)).add 0) (.int .u8) bb.tag := fun h => ldOk_below h.below (hbat.tag 1)
    have ld : ∀ {w' : World} {ls : List Blk}, At w w' ls → ldOk w' 1 ((pb.add (posK (keysOf B) kk * 2)).add 1) .slice bb.d := fun h => ldOk_below h.below (hbat.d 1)
    refine r_eq (fun h1' => ?_) (fun h1' => ?_)
    · have hm1' : m = 1 := by omega
      rw [if_pos (show m ≤ 1 by omega)] at hgo
      refine r_ldN (sh := .int .u8) bb.tag (lt h) ?_
      refine r_ne (fun hne => ?_) (fun heq => ?_)
      · exact bad_ (V := []) (by rw [hgo, if_neg hne]) h
      · rw [if_pos heq] at hgo
        rw [hgo]
        refine r_bs0 T_sl_uint8' h fun y44 w7 hy1 hyn1 => ?_
        refine r_ldN bb.d (ld hy1.at_) ?_
        refine r_append T_sl_uint8' hy1 (hbat.ok.bytes.sl.below hy1.at_.below) u8s_one (by omega) (by omega) fun y49 w8 hS hn49 => ?_
        obtain ⟨L1, hO1, h⟩ := hS.split
        have h : At w w8 ([(b10, Array.replicate 32 (.int .u8 0), ty_impl_Key)] ++ (L1 ++ ([(b13, (u8s kk).toArray, ty_impl_Key)] ++ (Lp ++ [])))) := h.pl2
        refine r_stA h 0 rfl rfl (by simp) (by simp) (by simp [oneC]) fun w9 h => ?_
        refine r_ldA h 0 rfl rfl (by simp) ?_
        have h : At w w9 (L1 ++ ([(b13, (u8s kk).toArray, ty_impl_Key)] ++ (Lp ++ []))) := At.right (A := [_]) h
        exact r_ret h.nil (y49, so, _, (0 : Int)) rfl ⟨L1, Lp, h.dr1, ⟨by simpa using hO1, hbat.ok.bytes.ok⟩, ⟨hOp, hacc⟩, ⟨rfl, zero32_ok⟩, rfl⟩
    · rw [if_neg (show ¬ m ≤ 1 by omega)] at hgo
      refine r_join (σ := Bool) (fun sbl w' => sbl = !decide (bb.tag = 2 ∧ bb.data.length = 64) ∧ At w w' ([(b13, (u8s kk).toArray, ty_impl_Key)] ++ ([(b10, Array.replicate 32 (.int .u8 0), ty_impl_Key)] ++ (Lp ++ [])))) (fun sbl w7 hJ => ?_) ?_
      · obtain ⟨rfl, h⟩ := hJ
        refine r_any fun _ => ?_
        by_cases hok : bb.tag = 2 ∧ bb.data.length = 64
        · rw [if_pos hok] at hgo
          refine r_false (by simp [hok]) ?_
          have h64 := hok.2
          have hbk := hbat.ok.bytes.ok
          have k0 : keyOk (part32 bb.data 0) := part32_key (by omega) hbk
          have k1 : keyOk (part32 bb.data 32) := part32_key (by omega) hbk
          have hh := half_lt (n := m) (by omega)
          refine r_ldN bb.d (ld h) ?_
          refine r_call h (c_l05Keys (hbat.ok.bytes.at h) 0 2 (by omega) (by omega)) fun r72 w8 _ _ ⟨hS, hn72⟩ => ?_
          have hkn : keysN bb.data 0 2 = [part32 bb.data 0, part32 bb.data 32] := rfl
          rw [hkn] at hS
          obtain ⟨Lr, hOr, h⟩ := SlO.own_of h hS
          generalize part32 bb.data 0 = ka at hgo k0 hOr
          generalize part32 bb.data 32 = kb at hgo k1 hOr
          have hn72' : r72.n = 2 := hn72
          have hrk : ∀ x ∈ [ka, kb], keyOk x := fun x hx => by
            simp only [List.mem_cons, List.not_mem_nil, or_false] at hx
            rcases hx with rfl | rfl
            · exact k0
            · exact k1
          obtain ⟨pr, hpr⟩ := hOr.addr (by omega)
          have g0 : ∀ {w' : World} {V X : List Blk}, At w w' (V ++ (Lr ++ X)) → ldOk w' 32 (pr.add (0 * 32)) .agg (u8s ka).toArray := fun {w' V X} h => by
            obtain ⟨x, q, hx, _, hq, _, hc⟩ := (ownS_ks hOr h ((List.sublist_append_left _ _).trans (List.sublist_append_right _ _)) hrk).get (i := 0) (by simp)
            cases hx
            rw [hpr] at hq
            cases hq
            exact hc
          have g1 : ∀ {w' : World} {V X : List Blk}, At w w' (V ++ (Lr ++ X)) → ldOk w' 32 (pr.add (1 * 32)) .agg (u8s kb).toArray := fun {w' V X} h => by
            obtain ⟨x, q, hx, _, hq, _, hc⟩ := (ownS_ks hOr h ((List.sublist_append_left _ _).trans (List.sublist_append_right _ _)) hrk).get (i := 1) (by simp)
            cases hx
            rw [hpr] at hq
            cases hq
            exact hc
          refine r_callp (c_l03Half m (by omega) (by omega)) ?_
          have h : At w w8 ([(b13, (u8s kk).toArray, ty_impl_Key)] ++ (Lr ++ ([(b10, Array.replicate 32 (.int .u8 0), ty_impl_Key)] ++ (Lp ++ [])))) := h.rot
          refine r_if ((j : Int) < (half m : Int)) rfl (fun hlt => ?_) (fun hge => ?_)
          · rw [if_pos (by omega)] at hgo
            refine r_ix pr hpr (by omega) (by omega) ?_
            refine r_ldN (u8s ka).toArray (g0 h) ?_
            refine r_stA h 0 rfl rfl (by simp [k0.1]) (by simp [hkk.1]) (by simpa using u8s_one) fun w9 h => ?_
            have h : At w w9 ([(b13, (u8s ka).toArray, ty_impl_Key)] ++ (Lr ++ ([(b10, Array.replicate 32 (.int .u8 0), ty_impl_Key)] ++ (Lp ++ [])))) := h
            refine r_ix pr hpr (by omega) (by omega) ?_
            refine r_ldN (u8s kb).toArray (g1 h) ?_
            refine r_bs1 T_sl_Key h (by simp [Value.cells, k1.1]) (by omega) fun y84 w10 hy2 hyn2 => ?_
            have hrd : SlAt w10 so 32 (acc.flatMap u8s) := by
              obtain ⟨L2, _, h2⟩ := hy2.split
              have h2 : At w w10 (L2 ++ ([(b13, (u8s ka).toArray, ty_impl_Key)] ++ (Lr ++ ([(b10, Array.replicate 32 (.int .u8 0), ty_impl_Key)] ++ (Lp ++ []))))) := h2
              exact hOp.sl h2.pl4 (List.sublist_append_left _ _)
            refine r_append T_sl_Key hy2 hrd (fun v hv => by
              obtain ⟨z, _, hz⟩ := List.mem_flatMap.1 hv
              exact u8s_one v hz) (by omega) (by omega) fun y86 w11 hS2 hn86 => ?_
            obtain ⟨Lp', hOp', h⟩ := hS2.split
            have h : At w w11 (Lp' ++ ([(b13, (u8s ka).toArray, ty_impl_Key)] ++ (Lr ++ ([(b10, Array.replicate 32 (.int .u8 0), ty_impl_Key)] ++ (Lp ++ []))))) := h
            refine ⟨((half m : Int), (j : Int), y86), rfl, ⟨f, half m, j, ka, kb :: acc, Lp', rfl, rfl, hh.2, by omega, by omega, by omega, k0, fun x hx => ?_, by rw [List.length_cons]; omega, by rw [List.length_cons]; dsimp only; omega, hgo, by simpa [Value.cells] using hOp', h.dr4.dr2.ps2⟩, by dsimp only; omega⟩
            rcases List.mem_cons.1 hx with rfl | hx
            · exact k1
            · exact hacc x hx
          · rw [if_neg (by omega)] at hgo
            refine r_ix pr hpr (by omega) (by omega) ?_
            refine r_ldN (u8s kb).toArray (g1 h) ?_
            refine r_stA h 0 rfl rfl (by simp [k1.1]) (by simp [hkk.1]) (by simpa using u8s_one) fun w9 h => ?_
            have h : At w w9 ([(b13, (u8s kb).toArray, ty_impl_Key)] ++ (Lr ++ ([(b10, Array.replicate 32 (.int .u8 0), ty_impl_Key)] ++ (Lp ++ [])))) := h
            refine r_ix pr hpr (by omega) (by omega) ?_
            refine r_ldN (u8s ka).toArray (g0 h) ?_
            refine r_bs1 T_sl_Key h (by simp [Value.cells, k0.1]) (by omega) fun y84 w10 hy2 hyn2 => ?_
            have hrd : SlAt w10 so 32 (acc.flatMap u8s) := by
              obtain ⟨L2, _, h2⟩ := hy2.split
              have h2 : At w w10 (L2 ++ ([(b13, (u8s kb).toArray, ty_impl_Key)] ++ (Lr ++ ([(b10, Array.replicate 32 (.int .u8 0), ty_impl_Key)] ++ (Lp ++ []))))) := h2
              exact hOp.sl h2.pl4 (List.sublist_append_left _ _)
            refine r_append T_sl_Key hy2 hrd (fun v hv => by
              obtain ⟨z, _, hz⟩ := List.mem_flatMap.1 hv
              exact u8s_one v hz) (by omega) (by omega) fun y86 w11 hS2 hn86 => ?_
            obtain ⟨Lp', hOp', h⟩ := hS2.split
            have h : At w w11 (Lp' ++ ([(b13, (u8s kb).toArray, ty_impl_Key)] ++ (Lr ++ ([(b10, Array.replicate 32 (.int .u8 0), ty_impl_Key)] ++ (Lp ++ []))))) := h
            refine ⟨(((m - half m : Nat) : Int), ((j - half m : Nat) : Int), y86), ?_, ⟨f, m - half m, j - half m, kb, ka :: acc, Lp', rfl, rfl, by omega, by omega, by omega, by omega, k1, fun x hx => ?_, by rw [List.length_cons]; omega, by rw [List.length_cons]; dsimp only; omega, hgo, by simpa [Value.cells] using hOp', h.dr4.dr2.ps2⟩, by dsimp only; omega⟩
            · rw [w64 (by omega) (by omega), w64 (by omega) (by omega)]
              simp only [embL, Sh.emb]
              congr 3
              · omega
              · congr 2
                omega
            · rcases List.mem_cons.1 hx with rfl | hx
              · exact k0
              · exact hacc x hx
        · rw [if_neg hok] at hgo
          refine r_true (by simp [hok]) ?_
          exact bad_ (V := []) hgo h
      · refine r_ldN (sh := .int .u8) bb.tag (lt h) ?_
        refine r_ne (fun hne => ?_) (fun heq => ?_)
        · exact ⟨true, rfl, by simp [hne], h⟩
        · refine r_ldN bb.d (ld h) ?_
          refine ⟨_, rfl, ?_, h⟩
          rw [hdn]
          by_cases h64 : bb.data.length = 64
          · simp [heq, h64]
          · have : ((bb.data.length : Nat) : Int) ≠ 64 := by omega
            simp [heq, h64, this]
  · rw [if_neg hm] at hgo
    rw [if_neg hm]
    refine r_true (by decide) ?_
    refine r_draw h fun w7 h => ?_
    refine r_ldA h 0 rfl rfl (by simp [hkk.1]) ?_
    rw [hgo]
    have fin_ : ∀ {w' : World} {y1 y2 : Sl} {L1 L2 : List Blk}, OwnS ty_uint8 1 y1 [] L1 → OwnS ty_impl_Key 32 y2 [] L2 → At w w' ([(b13, (u8s kk).toArray, ty_impl_Key)] ++ ([(b10, Array.replicate 32 (.int .u8 0), ty_impl_Key)] ++ (L1 ++ (L2 ++ [])))) →
        ((real Tryz.prog (RR w [.slice, .slice, .agg, .int .i64] (ChunkQ w ([], [], kk, 4)))).chk [⟨2, 32, ⟨b13, 0, none⟩, .agg, (u8s kk).toArray⟩] <| (real Tryz.prog (RR w [.slice, .slice, .agg, .int .i64] (ChunkQ w ([], [], kk, 4)))).st 32 ⟨b10, 0, none⟩ (.agg (u8s kk).toArray) <| (real Tryz.prog (RR w [.slice, .slice, .agg, .int .i64] (ChunkQ w ([], [], kk, 4)))).ld .agg 32 ⟨b10, 0, none⟩ fun z => (real Tryz.prog (RR w [.slice, .slice, .agg, .int .i64] (ChunkQ w ([], [], kk, 4)))).ret (.tuple #[.slice y1.a y1.n y1.c, .slice y2.a y2.n y2.c, .agg z, .int .i64 4]) : World → Prop) w' := fun {w' y1 y2 L1 L2} hO1 hO2 h => by
      have h : At w w' ([(b13, (u8s kk).toArray, ty_impl_Key), (b10, Array.replicate 32 (.int .u8 0), ty_impl_Key)] ++ (L1 ++ (L2 ++ []))) := h
      refine r_chk1 ?_ ?_
      · exact ldOk_blk h 0 rfl (by simp [hkk.1])
      refine r_stA h 1 rfl rfl (by simp [hkk.1]) (by simp) (by simpa using u8s_one) fun w9 h => ?_
      refine r_ldA h 1 rfl rfl (by simp [hkk.1]) ?_
      exact r_ret h.nil (y1, y2, _, (4 : Int)) rfl ⟨L1, L2, At.right (A := [_, _]) h, ⟨hO1, (by intro b hb; cases hb)⟩, ⟨hO2, by simp⟩, ⟨rfl, hkk⟩, rfl⟩
    refine r_all2 ?_ ?_
    · refine r_bs0 T_sl_uint8' h fun y25 w8 hy1 hyn1 => ?_
      obtain ⟨L1, hO1, h⟩ := hy1.split
      refine r_chk1 ?_ ?_
      · exact ldOk_blk h.pl1 0 rfl (by simp [hkk.1])
      refine r_bs0 T_sl_Key h fun y26 w9 hy2 hyn2 => ?_
      obtain ⟨L2, hO2, h⟩ := hy2.split
      have h : At w w9 (L2 ++ (L1 ++ ([(b13, (u8s kk).toArray, ty_impl_Key)] ++ ([(b10, Array.replicate 32 (.int .u8 0), ty_impl_Key)] ++ (Lp ++ []))))) := h
      exact fin_ hO1 hO2 (h.dr4.pl1.pl3.pl3)
    · refine r_bs0 T_sl_Key h fun y26 w8 hy2 hyn2 => ?_
      obtain ⟨L2, hO2, h⟩ := hy2.split
      refine r_chk1 ?_ ?_
      · exact ldOk_blk h.pl1 0 rfl (by simp [hkk.1])
      refine r_bs0 T_sl_uint8' h fun y25 w9 hy1 hyn1 => ?_
      obtain ⟨L1, hO1, h⟩ := hy1.split
      have h : At w w9 (L1 ++ (L2 ++ ([(b13, (u8s kk).toArray, ty_impl_Key)] ++ ([(b10, Array.replicate 32 (.int .u8 0), ty_impl_Key)] ++ (Lp ++ []))))) := h
      exact fin_ hO1 hO2 (h.dr4.pl3.pl3))

end Go.Proofs.YtffedfdhhglmkaaGreat
