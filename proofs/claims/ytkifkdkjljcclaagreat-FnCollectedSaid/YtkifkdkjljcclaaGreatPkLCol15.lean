/- The program: whether keys are sorted; a key is found; blobs compared, copied; a store's keys. The program: a store's keys, whether a store is valid, a store with its keys, what is found in it, a store in new memory, some of the blobs. -/
import Derived.Lib.SlicesS
import Derived.Test.YtkifkdkjljcclaaGreatPkLCol14
namespace Go.Proofs.YtkifkdkjljcclaaGreat
open Go.Sx Go.RowKit

theorem c_cmpV {P : Program} {R : Value → World → Prop} {w0 w : World} {ls : List Blk} {f : FuncId} {args : List Value} {l : List Sh} {Q : TL l → World → Prop} {k : TL l → World → Prop} (hA : At w0 w ls) (hg : isGo P f = true) (hc : Ret P f args w l Q)
    (h : ∀ x w', At w0 w' ls → Below w.heap.size w w' → Q x w' → k x w') : ((real P R).callV (.func (.func f) #[] #[]) args l k : World → Prop) w :=
  r_callV (fs := #[]) (cs := #[]) hA hg (by simpa using hc) h

theorem go_compareKeys : isGo Tryz.prog n_impl_compareKeys = true := by kernel_rfl

theorem c_IsSorted {w : World} {s : Sl} {ks : List (List Int)} (hs : KsR w s ks) (hmax : ks.length ≤ 1073741824) :
    Ret Tryz.prog n_slices_IsSortedFunc_sl_impl_Key_impl_Key [.slice s.a s.n s.c, .func (.func n_impl_compareKeys) #[] #[]] w [.bool] (fun r _ => r = true ↔ ∀ (i : Nat) x y, ks[i]? = some x → ks[i + 1]? = some y → ¬ ltL y x) := slices_IsSortedFunc_sl_impl_Key_impl_Key_calls s _ (by
  unfold slices_IsSortedFunc_sl_impl_Key_impl_Key
  have hn := hs.n
  refine r_loop (σ := Int) (fun i w' => (∃ k : Nat, (i = k ∨ (ks = [] ∧ i = -1 ∧ k = 0)) ∧ k ≤ ks.length - 1 ∧ ∀ (j : Nat) x y, k ≤ j → ks[j]? = some x → ks[j + 1]? = some y → ¬ ltL y x) ∧ At w w' []) (fun i _ => i.toNat) (IntKind.wrap .i64 ((s.n : Int) - 1)) rfl
    ⟨⟨ks.length - 1, ?_, Nat.le_refl _, fun j x y hj hx hy => by have := (List.getElem?_eq_some_iff.1 hy).1; omega⟩, At.refl w⟩ ?_
  · rw [w64 (by omega) (by omega)]
    cases ks with
    | nil => right; simp at hn; exact ⟨rfl, by rw [hn]; rfl, rfl⟩
    | cons k r => left; simp at hn ⊢; omega
  rintro i w1 ⟨⟨k, hi, hk, hall⟩, h⟩
  refine r_any fun _ => ?_
  refine r_if (i > 0) rfl (fun hlt => ?_) (fun hge => ?_)
  · have hik : i = k := hi.resolve_right (by omega)
    subst hik
    refine r_drawB h fun w2 h hb => ?_
    obtain ⟨x, p, hx, hxm, hp, hxo, hxl⟩ := (hs.at h).get (i := k) (by omega)
    obtain ⟨y, q, hy, hym, hq, hyo, hyl⟩ := (hs.at h).get (i := k - 1) (by omega)
    have e1 : IntKind.wrap .i64 ((k : Int) - 1) = ((k - 1 : Nat) : Int) := by rw [w64 (by omega) (by omega)]; omega
    refine r_ix p hp (by omega) (by omega) ?_
    refine r_ldN (u8s x).toArray (by simp only [Int.toNat_natCast]; exact hxl) ?_
    rw [e1]
    refine r_ix q hq (by omega) (by omega) ?_
    refine r_ldN (u8s y).toArray (by simp only [Int.toNat_natCast]; exact hyl) ?_
    refine c_cmpV h go_compareKeys (c_compareKeys hxo.1 hyo.1 _) fun r w3 h3 _ hr => ?_
    subst hr
    refine r_if (cmpL x y < 0) rfl (fun hc => ?_) (fun hc => ?_)
    · refine r_ret h3 false rfl ⟨fun hh => (by cases hh), fun hh => absurd hc (hh (k - 1) y x hy (by rw [show k - 1 + 1 = k by omega]; exact hx))⟩
    · refine ⟨((k - 1 : Nat) : Int), rfl, ⟨⟨k - 1, .inl rfl, by omega, fun j u v hj hu hv => ?_⟩, h3⟩, by omega⟩
      by_cases hjk : j = k - 1
      · subst hjk
        rw [hy] at hu
        rw [show k - 1 + 1 = k by omega, hx] at hv
        cases hu
        cases hv
        exact hc
      · exact hall j u v (by omega) hu hv
  · refine r_ret h true rfl ⟨fun _ j u v hu hv => hall j u v ?_ hu hv, fun _ => rfl⟩
    rcases hi with hi | ⟨_, _, hi⟩
    · omega
    · omega)

theorem c_Search {w : World} {s : Sl} {ks : List (List Int)} {k : List Int} (hs : KsR w s ks) (ha : Asc ks) (hk : keyOk k) (hmax : ks.length ≤ 1073741824) :
    Ret Tryz.prog n_slices_BinarySearchFunc_sl_impl_Key_impl_Key_impl_Key [.slice s.a s.n s.c, .agg (u8s k).toArray, .func (.func n_impl_compareKeys) #[] #[]] w [.int .i64, .bool] (fun r _ => r = ((posK ks k : Int), decide (k ∈ ks))) := slices_BinarySearchFunc_sl_impl_Key_impl_Key_impl_Key_calls s _ _ (by
  unfold slices_BinarySearchFunc_sl_impl_Key_impl_Key_impl_Key
  have hn := hs.n
  have hple := posK_le ks k
  refine r_new (At.refl w) fun b4 w1 h => ?_
  refine r_loop (σ := Int × Int) (fun i w' => ∃ a b : Nat, i = ((a : Int), (b : Int)) ∧ a ≤ posK ks k ∧ posK ks k ≤ b ∧ b ≤ ks.length ∧ At w w' [(b4, (u8s k).toArray, ty_impl_Key)]) (fun i _ => (i.2 - i.1).toNat) (0, (s.n : Int)) rfl ⟨0, s.n, rfl, by omega, by omega, by omega, h⟩ ?_
  rintro i w2 ⟨a, b, rfl, h1, h2, h3, h⟩
  refine r_any fun _ => ?_
  dsimp only
  refine r_if ((a : Int) < (b : Int)) rfl (fun hlt => ?_) (fun hge => ?_)
  · have e1 : IntKind.wrap .i64 (Int.fdiv (IntKind.wrap .u64 (IntKind.wrap .i64 ((a : Int) + (b : Int)))) (2 ^ 1)) = (((a + b) / 2 : Nat) : Int) := by
      rw [w64 (n := (a : Int) + b) (by omega) (by omega), wrapu64 (by omega) (by omega), Int.fdiv_eq_ediv_of_nonneg _ (by omega), w64 (by omega) (by omega)]
      omega
    rw [e1]
    refine r_draw h fun w3 h => ?_
    obtain ⟨x, p, hx, hxm, hp, hxo, hxl⟩ := (hs.at h).get (i := (a + b) / 2) (by omega)
    refine r_ix p hp (by omega) (by omega) ?_
    refine r_ldN (u8s x).toArray (by simp only [Int.toNat_natCast]; exact hxl) ?_
    refine r_ldA h 0 rfl rfl (by simp [hk.1]) ?_
    refine c_cmpV h go_compareKeys (c_compareKeys hxo.1 hk.1 _) fun r w4 h4 _ hr => ?_
    subst hr
    have hpos := posK_lt (k := k) ha hx
    refine r_if (cmpL x k < 0) rfl (fun hc => ?_) (fun hc => ?_)
    · have hc' := hpos.2 hc
      refine ⟨((((a + b) / 2 + 1 : Nat) : Int), (b : Int)), by rw [w64 (by omega) (by omega)]; rfl, ⟨_, b, rfl, by omega, h2, h3, h4⟩, by dsimp only; omega⟩
    · have hc' : ¬ (a + b) / 2 < posK ks k := fun hh => hc (hpos.1 hh)
      exact ⟨((a : Int), (((a + b) / 2 : Nat) : Int)), rfl, ⟨a, _, rfl, h1, by omega, by omega, h4⟩, by dsimp only; omega⟩
  · have hab : a = posK ks k := by omega
    subst hab
    refine r_draw h fun w3 h => ?_
    refine r_if ((posK ks k : Int) < (s.n : Int)) rfl (fun hlt => ?_) (fun hge => ?_)
    · obtain ⟨x, p, hx, hxm, hp, hxo, hxl⟩ := (hs.at h).get (i := posK ks k) (by omega)
      refine r_ix p hp (by omega) (by omega) ?_
      have hfin : (cmpL x k == 0) = decide (k ∈ ks) := by
        have hm := posK_mem ha (k := k)
        rw [hx] at hm
        by_cases hxk : x = k
        · rw [hxk, cmpL_self]
          simp [hm, hxk]
        · have h0 : cmpL x k ≠ 0 := fun hh => hxk (cmpL_eq.1 hh)
          have hnm : k ∉ ks := fun hh => hxk (Option.some.inj (hm.1 hh))
          simp [h0, hnm]
      refine r_all2 ?_ ?_
      · refine r_ldN (u8s x).toArray (by simp only [Int.toNat_natCast]; exact hxl) ?_
        refine r_ldA h 0 rfl rfl (by simp [hk.1]) ?_
        refine c_cmpV h go_compareKeys (c_compareKeys hxo.1 hk.1 _) fun r w4 h4 _ hr => ?_
        subst hr
        exact r_ret h4.nil (_, _) rfl (by rw [hfin])
      · refine r_ldA h 0 rfl rfl (by simp [hk.1]) ?_
        refine r_ldN (u8s x).toArray (by simp only [Int.toNat_natCast]; exact hxl) ?_
        refine c_cmpV h go_compareKeys (c_compareKeys hxo.1 hk.1 _) fun r w4 h4 _ hr => ?_
        subst hr
        exact r_ret h4.nil (_, _) rfl (by rw [hfin])
    · have hnm : k ∉ ks := fun hh => by
        have := (posK_mem ha).1 hh
        have := (List.getElem?_eq_some_iff.1 this).1
        omega
      have hd : decide (k ∈ ks) = false := decide_eq_false hnm
      refine r_all2 ?_ ?_
      · exact r_ret h.nil (_, _) rfl (by rw [hd])
      · exact r_ret h.nil (_, _) rfl (by rw [hd]))

def PB.key (b : PB) : List Int := hashL b.tag b.data
theorem PB.key_ok (b : PB) : keyOk b.key := ⟨hashL_len _ _, hashL_ok _ _⟩

theorem c_CloneBytes {w : World} {s : Sl} {l : List Int} (hs : BSl w s l) (hmax : l.length ≤ 35184372088832) : Ret Tryz.prog n_slices_Clone_sl_byte_byte [.slice s.a s.n s.c] w [.slice] (fun r w' => SlO w w' [] ty_uint8 1 r (u8s l) ∧ r.n = l.length) := slices_Clone_sl_byte_byte_calls s (by
  unfold slices_Clone_sl_byte_byte
  have hn := hs.n
  refine r_pur _ (fun w' => run_eql_sl (e := ty_uint8) (by kernel_rfl) _ _ _ _ _ w') ?_
  cases ha : s.a with
  | none =>
    refine r_true rfl ?_
    have : l = [] := by
      cases l with
      | nil => rfl
      | cons k r => obtain ⟨p, hp, _⟩ := hs.byte (i := 0) (by simp); rw [ha] at hp; cases hp
    subst this
    exact r_ret (At.refl w) ⟨none, 0, 0⟩ rfl ⟨SlO.nil (At.refl w) _ _, rfl⟩
  | some p =>
    refine r_false (by simp) ?_
    refine r_bs0 T_sl_uint8 (At.refl w) fun y w1 hy hyn => ?_
    have hs1 : SlAt w1 ⟨some p, s.n, s.c⟩ 1 (u8s l) := by have := (hs.at hy.at_).sl; rw [← ha]; exact this
    refine r_append T_sl_uint8 hy (y := ⟨some p, s.n, s.c⟩) hs1 u8s_one (by dsimp only; omega) (by dsimp only; omega) fun y' w2 hy' hyn' => ?_
    dsimp only at hyn'
    exact r_ret hy'.at_ y' rfl ⟨by simpa using hy', by omega⟩)

theorem run_mkBlob (t : Int) (s : Sl) (w : World) : (Instr.build ty_impl_Blob #[(0, (.int .u8 t)), (1, (.slice s.a s.n s.c))]).run Tryz.prog w = .ok (.agg #[.int .u8 t, .slice s.a s.n s.c]) w := by kernel_rfl
theorem run_noBlob (w : World) : (Instr.build ty_impl_Blob #[]).run Tryz.prog w = .ok (.agg #[.int .u8 0, .slice none 0 0]) w := by kernel_rfl

theorem c_copied {w : World} {b : BR} (hb : b.Ok w) (hmax : b.data.length ≤ 35184372088832) : Ret Tryz.prog n_impl_Blob_copied [.agg b.cells.toArray] w [.agg] (fun r w' => ∃ (b' : BR) (L : List Blk), r = b'.cells.toArray ∧ b'.pb = b.pb ∧ At w w' L ∧ OwnS ty_uint8 1 b'.d (u8s b'.data) L) := impl_Blob_copied_calls _ (by
  unfold impl_Blob_copied
  refine r_new (At.refl w) fun b1 w1 h => ?_
  refine r_new h fun b2 w2 h => ?_
  refine r_draw h fun w3 h => ?_
  refine r_ld h 1 rfl (add_lit _ _ _) b.tag (by simp [Sh.emb]) (by simp [Value.cells, BR.cells, Sh.emb]) ?_
  refine r_ld h 1 rfl (add_lit _ _ _) b.d (by simp [Sh.emb]) (by simp [Value.cells, BR.cells, Sh.emb]) ?_
  refine r_call h (c_CloneBytes (hb.bytes.at h) hmax) fun r w4 h4 _ ⟨hr, hrn⟩ => ?_
  obtain ⟨L, hO, h5⟩ := SlO.own_of h hr
  have h5 := h5.swap
  refine r_chk1 ?_ ?_
  · have := h5.get (i := 1) rfl
    show w4.cell? _ = _
    rw [add_lit]
    simp [World.cell?, this, Value.cells, BR.cells]
  · refine r_pur (sh := .agg) _ (run_mkBlob b.tag r) ?_
    refine r_stA h5 0 rfl rfl rfl rfl (by simp [oneC]) fun w5 h6 => ?_
    refine r_ldA h6 0 rfl rfl rfl ?_
    exact r_ret h6.nil _ rfl ⟨⟨b.tag, r, b.data⟩, L, rfl, rfl, h6.right (A := [_, _]), hO⟩)

theorem c_Blob_key {w : World} {b : BR} (hb : b.Ok w) (hmax : b.data.length ≤ 35184372088832) : Ret Tryz.prog n_impl_Blob_key [.agg b.cells.toArray] w [.agg] (fun r _ => r = (u8s b.pb.key).toArray) := impl_Blob_key_calls _ (by
  unfold impl_Blob_key
  refine r_new (At.refl w) fun b1 w1 h => ?_
  refine r_new h fun b2 w2 h => ?_
  refine r_ld h 1 rfl (add_lit _ _ _) b.tag (by simp [Sh.emb]) (by simp [Value.cells, BR.cells, Sh.emb]) ?_
  refine r_ld h 1 rfl (add_lit _ _ _) b.d (by simp [Sh.emb]) (by simp [Value.cells, BR.cells, Sh.emb]) ?_
  refine r_call h (c_hash b.tag (hb.bytes.at h).sl hb.bytes.ok hmax) fun r w3 h3 _ hr => ?_
  subst hr
  refine r_stA h3 0 rfl rfl (by simp [hashL_len]) (by simp [Value.cells]) (by simpa using u8s_one) fun w4 h4 => ?_
  refine r_ldA h4 0 rfl rfl (by simp [hashL_len]) ?_
  exact r_ret h4 _ rfl rfl)

end Go.Proofs.YtkifkdkjljcclaaGreat

namespace Go.Proofs.YtkifkdkjljcclaaGreat
open Go.Sx Go.RowKit

def keysOf (B : List PB) : List (List Int) := B.map PB.key
def validS (B : List PB) : Prop := B.length ≤ 128 ∧ (∀ b ∈ B, b.data.length ≤ 1024) ∧ Asc (keysOf B)
instance (B : List PB) : Decidable (validS B) := inferInstanceAs (Decidable (_ ∧ _ ∧ List.Pairwise _ _))
theorem keysOf_ok (B : List PB) : ∀ k ∈ keysOf B, keyOk k := by
  intro k hk
  obtain ⟨b, _, rfl⟩ := List.mem_map.1 hk
  exact b.key_ok
theorem keysOf_len (B : List PB) : (keysOf B).length = B.length := by simp [keysOf]

theorem c_Store_keys {w : World} {s : Sl} {bs : List BR} (hs : BsR w s bs) (hmax : bs.length ≤ 1073741824) (hd : ∀ b ∈ bs, b.data.length ≤ 35184372088832) :
    Ret Tryz.prog n_impl_Store_keys [.agg #[.slice s.a s.n s.c]] w [.slice] (fun r w' => SlO w w' [] ty_impl_Key 32 r ((keysOf (bs.map BR.pb)).flatMap u8s) ∧ r.n = bs.length) := impl_Store_keys_calls _ (by
  unfold impl_Store_keys
  have hn := hs.n
  refine r_new (At.refl w) fun b1 w1 h => ?_
  refine r_bs0 T_sl_Key h fun y w2 hy hyn => ?_
  refine r_ld hy.at_ 0 rfl (add_lit _ _ _) s (by simp [Sh.emb]) (by simp [Value.cells, Sh.emb]) ?_
  refine r_loop (σ := Sl × Int) (fun i w' => ∃ j : Nat, i.2 = j ∧ j ≤ bs.length ∧ i.1.n = j ∧ SlO w w' [] ty_impl_Key 32 i.1 ((keysOf ((bs.map BR.pb).take j)).flatMap u8s)) (fun i _ => (s.n - i.2).toNat) (y, 0) rfl
    ⟨0, rfl, by omega, hyn, by
      obtain ⟨L, hO, hA⟩ := hy.split
      exact hO.slo (hA.left.take _ (by simp))⟩ ?_
  rintro ⟨x, i⟩ w3 ⟨j, hi, hj, hxn, hS⟩
  dsimp only at hi hxn hS
  subst hi
  refine r_any fun _ => ?_
  dsimp only
  refine r_if ((j : Int) < (s.n : Int)) rfl (fun hlt => ?_) (fun hge => ?_)
  · obtain ⟨b, p, hb, hbm, hp, hok, hag, _, _⟩ := (hs.at hS.at_).get (i := j) (by omega)
    refine r_ix p hp (by omega) (by omega) ?_
    refine r_ldN b.cells.toArray (by simp only [Int.toNat_natCast]; exact hag) ?_
    obtain ⟨L, hO, hA⟩ := hS.split
    refine r_new hA fun b5 w4 h4 => ?_
    refine r_stA h4 0 rfl rfl rfl rfl (by simpa using cells_one b) fun w5 h5 => ?_
    refine r_ldA h5 0 rfl rfl rfl ?_
    have hok5 := (hs.at (h5.nil)).ok b hbm
    refine r_call (At.tail h5) (c_Blob_key hok5 (hd b hbm)) fun r w6 h6 _ hr => ?_
    subst hr
    refine r_push T_sl_Key (hO.slo h6) (by simp [Value.cells, PB.key, hashL_len]) (by omega) (by simpa [Value.cells] using u8s_one) (by omega) (by omega) fun x' w7 hS7 hn7 => ?_
    refine ⟨(x', ((j + 1 : Nat) : Int)), by rw [w64 (by omega) (by omega)]; rfl, ⟨j + 1, rfl, by omega, by dsimp only; omega, ?_⟩, by dsimp only; omega⟩
    have hb' : (bs.map BR.pb)[j]? = some b.pb := by simp [hb]
    rw [take_succ_get hb', keysOf, List.map_append, List.flatMap_append]
    simpa [Value.cells, keysOf] using hS7
  · have : j = bs.length := by omega
    subst this
    rw [List.take_of_length_le (by simp)] at hS
    exact r_ret hS.at_ x rfl ⟨hS, hxn⟩)

theorem c_ValidBlob {w : World} {b : BR} (hb : b.Ok w) : Ret Tryz.prog n_impl_ValidBlob [.agg b.cells.toArray] w [.bool] (fun r _ => r = decide (b.data.length ≤ 1024)) := impl_ValidBlob_calls _ (by
  unfold impl_ValidBlob
  refine r_new (At.refl w) fun b1 w1 h => ?_
  refine r_ld h 0 rfl (add_lit _ _ _) b.d (by simp [Sh.emb]) (by simp [Value.cells, BR.cells, Sh.emb]) ?_
  refine r_ret h _ rfl ?_
  rw [hb.bytes.n]
  exact decide_eq_decide.2 (by omega))

theorem c_ValidStore_1 {w : World} {b : BR} (hb : b.Ok w) : Ret Tryz.prog n_impl_ValidStore_1 [.agg b.cells.toArray] w [.bool] (fun r _ => r = !decide (b.data.length ≤ 1024)) := impl_ValidStore_1_calls _ (by
  unfold impl_ValidStore_1
  refine r_new (At.refl w) fun b1 w1 h => ?_
  refine r_ldA h 0 rfl rfl rfl ?_
  refine r_call h (c_ValidBlob (hb.below h.below)) fun r w2 h2 _ hr => ?_
  subst hr
  exact r_ret h2 _ rfl rfl)

theorem c_IndexBlobs {w : World} {s : Sl} {bs : List BR} (hs : BsR w s bs) (hmax : bs.length ≤ 1073741824) {g : FuncId} (hg : isGo Tryz.prog g = true) (f : PB → Bool) (hf : ∀ (w' : World) (b : BR), b.Ok w' → Ret Tryz.prog g [.agg b.cells.toArray] w' [.bool] (fun r _ => r = f b.pb)) :
    Ret Tryz.prog n_slices_IndexFunc_sl_impl_Blob_impl_Blob [.slice s.a s.n s.c, .func (.func g) #[] #[]] w [.int .i64] (fun r _ => r ≥ 0 ↔ ∃ b ∈ bs, f b.pb = true) := slices_IndexFunc_sl_impl_Blob_impl_Blob_calls s _ (by
  unfold slices_IndexFunc_sl_impl_Blob_impl_Blob
  have hn := hs.n
  refine r_loop (σ := Int) (fun i w' => ∃ j : Nat, i = j ∧ j ≤ bs.length ∧ (∀ b ∈ bs.take j, f b.pb = false) ∧ At w w' []) (fun i _ => (s.n - i).toNat) 0 rfl ⟨0, rfl, by omega, by simp, At.refl w⟩ ?_
  rintro i w1 ⟨j, rfl, hj, hall, h⟩
  refine r_any fun _ => ?_
  refine r_if ((j : Int) < (s.n : Int)) rfl (fun hlt => ?_) (fun hge => ?_)
  · obtain ⟨b, p, hb, hbm, hp, hok, hag, _, _⟩ := (hs.at h).get (i := j) (by omega)
    refine r_ix p hp (by omega) (by omega) ?_
    refine r_ldN b.cells.toArray (by simp only [Int.toNat_natCast]; exact hag) ?_
    refine c_cmpV h hg (hf _ b hok) fun r w2 h2 _ hr => ?_
    subst hr
    refine r_cond (fun ht => ?_) (fun ht => ?_)
    · exact r_ret h2 _ rfl ⟨fun _ => ⟨b, hbm, ht⟩, fun _ => by show (j : Int) ≥ 0; omega⟩
    · refine ⟨((j + 1 : Nat) : Int), by rw [w64 (by omega) (by omega)]; rfl, ⟨j + 1, rfl, by omega, fun c hc => ?_, h2⟩, by omega⟩
      rw [take_succ_get hb, List.mem_append, List.mem_singleton] at hc
      rcases hc with hc | rfl
      · exact hall c hc
      · exact ht
  · have : j = bs.length := by omega
    subst this
    rw [List.take_of_length_le (Nat.le_refl _)] at hall
    refine r_ret h _ rfl ⟨fun hh => by exfalso; revert hh; show ¬ ((-1 : Int) ≥ 0); omega, fun ⟨b, hb, ht⟩ => ?_⟩
    rw [hall b hb] at ht
    cases ht)

theorem c_ContainsBlobs {w : World} {s : Sl} {bs : List BR} (hs : BsR w s bs) (hmax : bs.length ≤ 1073741824) {g : FuncId} (hg : isGo Tryz.prog g = true) (f : PB → Bool) (hf : ∀ (w' : World) (b : BR), b.Ok w' → Ret Tryz.prog g [.agg b.cells.toArray] w' [.bool] (fun r _ => r = f b.pb)) :
    Ret Tryz.prog n_slices_ContainsFunc_sl_impl_Blob_impl_Blob [.slice s.a s.n s.c, .func (.func g) #[] #[]] w [.bool] (fun r _ => r = true ↔ ∃ b ∈ bs, f b.pb = true) := slices_ContainsFunc_sl_impl_Blob_impl_Blob_calls s _ (by
  unfold slices_ContainsFunc_sl_impl_Blob_impl_Blob
  refine r_call (At.refl w) (c_IndexBlobs hs hmax hg f hf) fun r w1 h1 _ hr => ?_
  refine r_ret h1 _ rfl ?_
  rw [← hr]
  exact decide_eq_true_iff)

theorem asc_iff {ks out : List (List Int)} (ha : Asc out) (hm : ∀ x, x ∈ out ↔ x ∈ ks) (hu : out.length = ks.length → ks.Nodup) : (out.length = ks.length ∧ ∀ (i : Nat) x y, ks[i]? = some x → ks[i + 1]? = some y → ¬ ltL y x) ↔ Asc ks := by
  constructor
  · rintro ⟨hl, hs⟩
    have hnd : ks.Nodup := hu hl
    refine asc_of_next fun i x y hx hy => ?_
    obtain ⟨i1, i2⟩ := List.getElem?_eq_some_iff.1 hx
    obtain ⟨j1, j2⟩ := List.getElem?_eq_some_iff.1 hy
    rcases not_ltL (hs i x y hx hy) with e | h
    · exfalso
      have := List.pairwise_iff_getElem.1 hnd i (i + 1) i1 j1 (by omega)
      rw [i2, j2] at this
      exact this e
    · exact h
  · intro h
    have e : out = ks := asc_ext ha h hm
    refine ⟨by rw [e], fun i x y hx hy hyx => ?_⟩
    obtain ⟨i1, i2⟩ := List.getElem?_eq_some_iff.1 hx
    obtain ⟨j1, j2⟩ := List.getElem?_eq_some_iff.1 hy
    have := List.pairwise_iff_getElem.1 h i (i + 1) i1 j1 (by omega)
    rw [i2, j2] at this
    exact ltL_asymm this hyx

theorem c_ValidStore {w : World} {s : Sl} {bs : List BR} (hs : BsR w s bs) (hmax : bs.length ≤ 1073741824) : Ret Tryz.prog n_impl_ValidStore [.agg #[.slice s.a s.n s.c]] w [.bool] (fun r _ => r = decide (validS (bs.map BR.pb))) := impl_ValidStore_calls _ (by
  unfold impl_ValidStore
  have hn := hs.n
  refine r_new (At.refl w) fun b1 w1 h => ?_
  refine r_join (σ := Unit) (fun _ w' => At w w' [(b1, #[.slice s.a s.n s.c], ty_impl_Store)] ∧ bs.length ≤ 128 ∧ ∀ b ∈ bs, b.data.length ≤ 1024) (fun _ w2 hJ => ?_) ?_
  · obtain ⟨h, h128, h1024⟩ := hJ
    refine r_any fun _ => ?_
    refine r_ldA h 0 rfl rfl rfl ?_
    refine r_call h (c_Store_keys (hs.at h) hmax (fun b hb => by have := h1024 b hb; omega)) fun r w3 h3 _ ⟨hr, hrn⟩ => ?_
    have hks : KsR w3 r (keysOf (bs.map BR.pb)) := slO_ks hr (keysOf_ok _)
    have hkl : (keysOf (bs.map BR.pb)).length = bs.length := by simp [keysOf]
    refine r_call h3 (c_sorted hks (by omega)) fun q w4 h4 hb4 ⟨out, ha, hm, hol, hu, hq, hqn⟩ => ?_
    have hval : validS (bs.map BR.pb) ↔ Asc (keysOf (bs.map BR.pb)) := by
      refine ⟨fun hh => hh.2.2, fun hh => ⟨by simpa using h128, fun b hb => ?_, hh⟩⟩
      obtain ⟨x, hx, rfl⟩ := List.mem_map.1 hb
      exact h1024 x hx
    have hiff := asc_iff ha hm hu
    refine r_eq (fun he => ?_) (fun he => ?_)
    · refine r_call h4 (c_IsSorted (hks.below hb4) (by omega)) fun r2 w5 h5 _ hr2 => ?_
      refine r_ret h5 r2 rfl ?_
      rw [← Bool.coe_iff_coe, hr2, decide_eq_true_iff, hval, ← hiff]
      refine ⟨fun hh => ⟨by omega, hh⟩, fun hh => hh.2⟩
    · refine r_ret h4 false rfl (decide_eq_false fun hh => ?_).symm
      have := (hiff.2 (hval.1 hh)).1
      omega
  · refine r_ld h 0 rfl (add_lit _ _ _) s (by simp [Sh.emb]) (by simp [Value.cells, Sh.emb]) ?_
    refine r_if ((s.n : Int) > 128) rfl (fun hgt => ?_) (fun hle => ?_)
    · exact r_ret h false rfl (decide_eq_false fun hh => by have := hh.1; simp at this; omega).symm
    · refine r_ld h 0 rfl (add_lit _ _ _) s (by simp [Sh.emb]) (by simp [Value.cells, Sh.emb]) ?_
      refine r_call h (c_ContainsBlobs (hs.at h) hmax (by kernel_rfl) (fun b => !decide (b.data.length ≤ 1024)) fun w' b hb => c_ValidStore_1 hb) fun r w2 h2 _ hr => ?_
      refine r_cond (fun ht => ?_) (fun ht => ?_)
      · obtain ⟨b, hb, hbl⟩ := hr.1 ht
        refine r_ret h2 false rfl (decide_eq_false fun hh => ?_).symm
        have := hh.2.1 b.pb (List.mem_map_of_mem hb)
        simp [this] at hbl
      · refine ⟨(), rfl, h2, by omega, fun b hb => ?_⟩
        by_cases hc : b.data.length ≤ 1024
        · exact hc
        · have := hr.2 ⟨b, hb, by show (!decide (b.data.length ≤ 1024)) = true; rw [decide_eq_false hc]; rfl⟩
          rw [this] at ht
          cases ht)

end Go.Proofs.YtkifkdkjljcclaaGreat
