/- Blobs and stores: what they read as; told, copied, compared, marked, held. -/
import Derived.Test.YtkifkdkjljcclaaPkLPS13
namespace Go.Proofs.Ytkifkdkjljcclaa
open Go.Sx Go.RowKit

structure PB where
  tag : Int
  data : List Int
instance : DecidableEq PB := fun a b => decidable_of_iff (a.tag = b.tag ∧ a.data = b.data) (by cases a; cases b; simp)
structure BR where
  tag : Int
  d : Sl
  data : List Int
def BR.pb (b : BR) : PB := ⟨b.tag, b.data⟩
def BR.cells (b : BR) : List Value := [.int .u8 b.tag, .slice b.d.a b.d.n b.d.c]
def PB.ok (b : PB) : Prop := bytesOk b.data ∧ 0 ≤ b.tag ∧ b.tag < 256
structure BR.Ok (w : World) (b : BR) : Prop where
  bytes : BSl w b.d b.data
  t0 : 0 ≤ b.tag
  t1 : b.tag < 256
theorem BR.Ok.below {w w' : World} {b : BR} (h : b.Ok w) (hb : Below w.heap.size w w') : b.Ok w' := ⟨h.bytes.below hb, h.t0, h.t1⟩
theorem BR.Ok.pb {w : World} {b : BR} (h : b.Ok w) : b.pb.ok := ⟨h.bytes.ok, h.t0, h.t1⟩
theorem cells_one (b : BR) : ∀ v ∈ b.cells, oneC v = true := by simp [BR.cells, oneC]
theorem cells_len (b : BR) : b.cells.length = 2 := rfl

structure BsR (w : World) (s : Sl) (bs : List BR) : Prop where
  of : SlOf w s 2 BR.cells bs
  ok : ∀ b ∈ bs, b.Ok w
theorem BsR.below {w w' : World} {s : Sl} {bs : List BR} (h : BsR w s bs) (hb : Below w.heap.size w w') : BsR w' s bs := ⟨h.of.below hb, fun b hx => (h.ok b hx).below hb⟩
theorem BsR.at {w w' : World} {ls : List Blk} {s : Sl} {bs : List BR} (h : BsR w s bs) (hA : At w w' ls) : BsR w' s bs := h.below hA.below
theorem BsR.n {w : World} {s : Sl} {bs : List BR} (h : BsR w s bs) : s.n = bs.length := h.of.n
theorem BsR.pbs {w : World} {s : Sl} {bs : List BR} (h : BsR w s bs) : ∀ b ∈ bs.map BR.pb, b.ok := by
  intro b hb
  obtain ⟨x, hx, rfl⟩ := List.mem_map.1 hb
  exact (h.ok x hx).pb

inductive OwnData : List BR → List Blk → Prop where
  | nil : OwnData [] []
  | cons {b : BR} {r : List BR} {L1 L2 : List Blk} : OwnS ty_uint8 1 b.d (u8s b.data) L1 → OwnData r L2 → OwnData (b :: r) (L1 ++ L2)
theorem OwnData.append {r t : List BR} {L M : List Blk} (h : OwnData r L) (k : OwnData t M) : OwnData (r ++ t) (L ++ M) := by
  induction h with
  | nil => exact k
  | cons h1 _ ih => rw [List.append_assoc]; exact .cons h1 ih
theorem OwnData.snoc {r : List BR} {b : BR} {L M : List Blk} (h : OwnData r L) (k : OwnS ty_uint8 1 b.d (u8s b.data) M) : OwnData (r ++ [b]) (L ++ M) := by
  have := h.append (OwnData.cons k .nil)
  simpa using this
theorem OwnData.split {r t : List BR} {L : List Blk} (h : OwnData (r ++ t) L) : ∃ L1 L2, L = L1 ++ L2 ∧ OwnData r L1 ∧ OwnData t L2 := by
  induction r generalizing L with
  | nil => exact ⟨[], L, rfl, .nil, h⟩
  | cons b r ih =>
    cases h with
    | cons h1 h2 =>
      obtain ⟨M1, M2, rfl, k1, k2⟩ := ih h2
      exact ⟨_, M2, by rw [List.append_assoc], .cons h1 k1, k2⟩
theorem OwnData.ok {w0 w : World} {ls L : List Blk} {bs : List BR} (h : OwnData bs L) (hA : At w0 w ls) (hs : L.Sublist ls) (hb : ∀ b ∈ bs.map BR.pb, b.ok) : ∀ b ∈ bs, b.Ok w := by
  induction h with
  | nil => simp
  | @cons b r L1 L2 h1 h2 ih =>
    intro x hx
    cases hx with
    | head =>
      have hk := hb b.pb (by simp)
      exact ⟨ownS_bytes h1 hA ((List.sublist_append_left _ _).trans hs) hk.1, hk.2.1, hk.2.2⟩
    | tail _ hx => exact ih ((List.sublist_append_right _ _).trans hs) (fun b hx => hb b (by simp only [List.map_cons, List.mem_cons]; exact .inr hx)) x hx

def OwnBs (s : Sl) (bs : List BR) (L : List Blk) : Prop := ∃ Lb Ld, L = Lb ++ Ld ∧ OwnS ty_impl_Blob 2 s (bs.flatMap BR.cells) Lb ∧ OwnData bs Ld
theorem OwnBs.rd {w0 w : World} {ls L : List Blk} {s : Sl} {bs : List BR} (h : OwnBs s bs L) (hA : At w0 w (L ++ ls)) (hb : ∀ b ∈ bs.map BR.pb, b.ok) : BsR w s bs := by
  obtain ⟨Lb, Ld, rfl, h1, h2⟩ := h
  rw [List.append_assoc] at hA
  exact ⟨h1.of hA (List.sublist_append_left _ _) (fun b _ => cells_len b) (by omega), h2.ok hA ((List.sublist_append_left _ _).trans (List.sublist_append_right _ _)) hb⟩

theorem T_sl_Blob : SlT Try.prog ty_sl_impl_Blob ty_impl_Blob 2 32 := slT_of (by kernel_rfl)

def sizeBs (bs : List PB) : Nat := bs.length + (bs.map fun b => b.data.length).sum

theorem c_szBlob {w : World} {b : BR} (hb : b.Ok w) (m : Int) (hm : 0 ≤ m ∧ m ≤ 1073741824) (hn : b.d.n ≤ 9223372036854775807) : Ret Try.prog n_laws_szBlob [.agg b.cells.toArray, .int .i64 m] w [.int .i64] (fun r _ => r = if (b.data.length : Int) ≤ m then m - b.data.length else -1) := laws_szBlob_calls _ m (by
  unfold laws_szBlob
  have hl := hb.bytes.n
  refine r_new (At.refl w) fun b2 w1 h => ?_
  refine r_ld h 0 rfl (add_lit _ _ _) b.d (by simp [Sh.emb]) (by simp [Value.cells, BR.cells, Sh.emb]) ?_
  refine r_callp (c_szByteS b.d m hm hn) ?_
  rw [hl]
  by_cases hc : (b.data.length : Int) ≤ m
  · rw [if_pos hc]
    refine r_if (m - (b.data.length : Int) < 0) rfl (fun hh => by omega) (fun _ => ?_)
    exact r_ret h _ rfl rfl
  · rw [if_neg hc]
    refine r_true rfl ?_
    exact r_ret h _ rfl rfl)

theorem sum_take_succ {l : List Nat} {i : Nat} {x : Nat} (h : l[i]? = some x) : (l.take (i + 1)).sum = (l.take i).sum + x := by
  rw [List.take_add_one, h, List.sum_append]
  simp
theorem sum_take_le (l : List Nat) (i : Nat) : (l.take i).sum ≤ l.sum := by
  have h : (l.take i).sum + (l.drop i).sum = l.sum := by rw [← List.sum_append, List.take_append_drop]
  omega

theorem c_szBlobS {w : World} {s : Sl} {bs : List BR} (hs : BsR w s bs) (m : Int) (hm : 0 ≤ m ∧ m ≤ 1073741824) (hc : s.c ≤ 9223372036854775807) (hd : ∀ b ∈ bs, b.d.n ≤ 9223372036854775807) :
    Ret Try.prog n_laws_szBlobS [.slice s.a s.n s.c, .int .i64 m] w [.int .i64] (fun r _ => r = if (sizeBs (bs.map BR.pb) : Int) ≤ m then m - sizeBs (bs.map BR.pb) else -1) := laws_szBlobS_calls s m (by
  unfold laws_szBlobS
  have hn := hs.n
  have hcap := hs.of.cap
  obtain ⟨ds, hds⟩ : ∃ ds, ds = bs.map fun b => b.data.length := ⟨_, rfl⟩
  have hsz : sizeBs (bs.map BR.pb) = bs.length + ds.sum := by simp [sizeBs, hds, BR.pb, List.map_map, Function.comp_def]
  rw [w64 (by omega) (by omega)]
  refine r_if (m - (s.n : Int) < 0) rfl (fun h1 => ?_) (fun h1 => ?_)
  · exact r_ret (At.refl w) _ rfl (by rw [if_neg (by omega)])
  refine r_loop (σ := Int × Int) (fun i w' => ∃ j : Nat, i = (m - s.n - ((ds.take j).sum : Nat), (j : Int)) ∧ j ≤ bs.length ∧ 0 ≤ i.1 ∧ At w w' []) (fun i _ => (s.n - i.2).toNat) (m - s.n, 0) rfl ⟨0, by simp, by omega, by dsimp only; omega, At.refl w⟩ ?_
  rintro i w1 ⟨j, rfl, hj, h0, h⟩
  refine r_any fun _ => ?_
  dsimp only at h0 ⊢
  refine r_if ((j : Int) < (s.n : Int)) rfl (fun hlt => ?_) (fun hge => ?_)
  · obtain ⟨b, hb⟩ : ∃ b, bs[j]? = some b := ⟨_, List.getElem?_eq_getElem (show j < bs.length by omega)⟩
    have hbm := List.mem_of_getElem? hb
    obtain ⟨p, hp, _⟩ := hs.of.cell hb
    refine r_ix p hp (by omega) (by omega) ?_
    refine r_ldO h _ (by simp only [Int.toNat_natCast]; exact hs.of.agg hb hp) (by simp) ?_
    refine r_call h (c_szBlob ((hs.ok b hbm).below h.below) _ ⟨h0, by omega⟩ (hd b hbm)) fun r w2 h2 _ hr => ?_
    subst hr
    have hst : (ds.take (j + 1)).sum = (ds.take j).sum + b.data.length := sum_take_succ (by rw [hds]; simp [hb])
    have hle := sum_take_le ds (j + 1)
    by_cases hc1 : (b.data.length : Int) ≤ m - s.n - ((ds.take j).sum : Nat)
    · rw [if_pos hc1]
      refine r_if (m - (s.n : Int) - ((ds.take j).sum : Nat) - b.data.length < 0) rfl (fun hh => by omega) (fun _ => ?_)
      refine ⟨(m - s.n - ((ds.take (j + 1)).sum : Nat), ((j + 1 : Nat) : Int)), by rw [w64 (by omega) (by omega), hst]; simp [embL, Sh.emb]; omega, ⟨j + 1, rfl, by omega, by dsimp only; rw [hst]; omega, h2⟩, by dsimp only; omega⟩
    · rw [if_neg hc1]
      refine r_true rfl ?_
      exact r_ret h2 _ rfl (by rw [if_neg (by rw [hsz]; omega)])
  · have : j = bs.length := by omega
    subst this
    have : ds.take bs.length = ds := List.take_of_length_le (by simp [hds])
    rw [this] at h0 ⊢
    refine r_ret h _ rfl ?_
    rw [if_pos (by rw [hsz]; omega), hsz]
    show (m - (s.n : Int) - (ds.sum : Nat) : Int) = m - ((bs.length + ds.sum : Nat) : Int)
    omega)

theorem c_szStore {w : World} {s : Sl} {bs : List BR} (hs : BsR w s bs) (m : Int) (hm : 0 ≤ m ∧ m ≤ 1073741824) (hc : s.c ≤ 9223372036854775807) (hd : ∀ b ∈ bs, b.d.n ≤ 9223372036854775807) :
    Ret Try.prog n_laws_szStore [.agg #[.slice s.a s.n s.c], .int .i64 m] w [.int .i64] (fun r _ => r = if (sizeBs (bs.map BR.pb) : Int) ≤ m then m - sizeBs (bs.map BR.pb) else -1) := laws_szStore_calls _ m (by
  unfold laws_szStore
  refine r_new (At.refl w) fun b2 w1 h => ?_
  refine r_ld h 0 rfl (add_lit _ _ _) s (by simp [Sh.emb]) (by simp [Value.cells, Sh.emb]) ?_
  refine r_call h (c_szBlobS (hs.at h) m hm hc hd) fun r w2 h2 _ hr => ?_
  subst hr
  by_cases hc1 : (sizeBs (bs.map BR.pb) : Int) ≤ m
  · rw [if_pos hc1]
    refine r_if (m - (sizeBs (bs.map BR.pb) : Int) < 0) rfl (fun hh => by omega) (fun _ => ?_)
    exact r_ret h2 _ rfl rfl
  · rw [if_neg hc1]
    refine r_true rfl ?_
    exact r_ret h2 _ rfl rfl)

theorem c_toBlob {w : World} {b : BR} (hb : b.Ok w) (hmax : b.data.length ≤ 1073741824) : Ret Try.prog n_laws_toBlob [.agg b.cells.toArray] w [.agg] (fun r w' => ∃ (b' : BR) (L : List Blk), r = b'.cells.toArray ∧ b'.pb = b.pb ∧ At w w' L ∧ OwnS ty_uint8 1 b'.d (u8s b'.data) L) := laws_toBlob_calls _ (by
  unfold laws_toBlob
  refine r_new (At.refl w) fun b1 w1 h => ?_
  refine r_new h fun b2 w2 h => ?_
  refine r_new h fun b3 w3 h => ?_
  refine r_ld h 2 rfl (add_lit _ _ _) b.tag (by simp [Sh.emb]) (by simp [Value.cells, BR.cells, Sh.emb]) ?_
  refine r_st h 0 (o := 0) rfl (add_lit _ _ _) (by simp [Value.cells]) rfl fun w4 h => ?_
  refine r_ld h 2 rfl (add_lit _ _ _) b.d (by simp [Sh.emb]) (by simp [Value.cells, BR.cells, Sh.emb]) ?_
  refine r_call h (c_toByteS (hb.bytes.at h) hmax) fun r w5 h5 _ ⟨L, hL, hO⟩ => ?_
  have h := h.join hL
  have h := h.swap
  refine r_st h 0 (o := 1) rfl (add_lit _ _ _) (by simp [Value.cells]) rfl fun w6 h => ?_
  refine r_ldA h 0 rfl rfl (by simp [Value.cells]) ?_
  refine r_stA h 1 rfl rfl (by simp [Value.cells]) (by simp [Value.cells]) (by simp [Value.cells, oneC]) fun w7 h => ?_
  refine r_ldA h 1 rfl rfl (by simp [Value.cells]) ?_
  refine r_ret h.nil _ rfl ⟨⟨b.tag, r, b.data⟩, L, by simp [Value.cells, BR.cells], rfl, ?_, hO⟩
  exact h.right (A := [_, _, _]))

theorem BsR.get {w : World} {s : Sl} {bs : List BR} (hs : BsR w s bs) {i : Nat} (hi : i < bs.length) : ∃ b p, bs[i]? = some b ∧ b ∈ bs ∧ s.a = some p ∧ b.Ok w ∧ ldOk w 2 (p.add (i * 2)) .agg b.cells.toArray ∧ (∀ n, ldOk w n (p.add (i * 2 + 0)) (.int .u8) b.tag) ∧ ∀ n, ldOk w n (p.add (i * 2 + 1)) .slice b.d := by
  have hb : bs[i]? = some bs[i] := List.getElem?_eq_getElem hi
  obtain ⟨p, hp, _⟩ := hs.of.cell hb
  exact ⟨_, p, hb, List.getElem_mem hi, hp, hs.ok _ (List.getElem_mem hi), hs.of.agg hb hp, fun n => hs.of.fld hb hp 0 rfl (by simp [Sh.emb]), fun n => hs.of.fld hb hp 1 rfl (by simp [Sh.emb])⟩

theorem map_pb_get {bs cs : List BR} (h : bs.map BR.pb = cs.map BR.pb) {i : Nat} {b c : BR} (hb : bs[i]? = some b) (hc : cs[i]? = some c) : b.pb = c.pb := by
  have := congrArg (·[i]?) h
  simpa [hb, hc] using this

theorem c_toBlobS {w : World} {s : Sl} {bs : List BR} (hs : BsR w s bs) (hn1 : bs.length ≤ 1073741824) (hd : ∀ b ∈ bs, b.data.length ≤ 1073741824) :
    Ret Try.prog n_laws_toBlobS [.slice s.a s.n s.c] w [.slice] (fun r w' => ∃ (bs' : List BR) (L : List Blk), bs'.map BR.pb = bs.map BR.pb ∧ At w w' L ∧ OwnBs r bs' L) := laws_toBlobS_calls _ (by
  unfold laws_toBlobS
  have hn := hs.n
  refine r_mkO T_sl_Blob (At.refl w) (by omega) (by omega) fun y xs L w1 h hO hyn ⟨p, hp⟩ => ?_
  refine r_loop (σ := Int) (fun i w' => ∃ (k : Nat) (xs : List Value) (bs' : List BR) (L Ld : List Blk), i = k ∧ k ≤ bs.length ∧ At w w' (L ++ Ld) ∧ OwnS ty_impl_Blob 2 y xs L ∧ OwnData bs' Ld ∧ bs'.map BR.pb = (bs.map BR.pb).take k ∧ xs.take (k * 2) = bs'.flatMap BR.cells) (fun i _ => (s.n - i).toNat) 0 rfl
    ⟨0, xs, [], L, [], rfl, by omega, h, hO, .nil, by simp, by simp⟩ ?_
  rintro i w4 ⟨k, xs, bs', L, Ld, rfl, hk, h, hO, hD, hpb, htk⟩
  refine r_any fun _ => ?_
  have hxl := hO.1
  refine r_if ((k : Int) < (s.n : Int)) rfl (fun hlt => ?_) (fun hge => ?_)
  · obtain ⟨b, q, hb, hbm, hq, hok, hag, _, _⟩ := hs.get (i := k) (by omega)
    refine r_ix q hq (by omega) (by omega) ?_
    refine r_ldO h _ (by simp only [Int.toNat_natCast]; exact hag) (by simp) ?_
    refine r_call h (c_toBlob (hok.below h.below) (hd b hbm)) fun r w5 _ _ ⟨b', L', hr, hpb', hL', hO'⟩ => ?_
    subst hr
    have h := (h.join hL').swap
    rw [List.append_assoc] at h
    refine r_ix p hp (by omega) (by omega) ?_
    refine r_stO h hO hp (k * 2) (by simp) (by simp [Value.cells, BR.cells]) (by omega) (by simpa [Value.cells] using cells_one b') fun w6 L6 h6 hO6 => ?_
    refine ⟨((k + 1 : Nat) : Int), by rw [w64 (by omega) (by omega)]; rfl, ⟨k + 1, _, bs' ++ [b'], L6, Ld ++ L', rfl, by omega, h6, hO6, hD.snoc hO', ?_, ?_⟩, by omega⟩
    · rw [List.map_append, hpb, List.take_add_one]
      simp [hb, hpb']
    · have e1 : (k + 1) * 2 = k * 2 + 2 := by omega
      rw [e1, seg_take (by omega) (by simp [Value.cells, BR.cells]), htk, List.flatMap_append]
      simp [Value.cells]
  · have hkl : k = bs.length := by omega
    subst hkl
    rw [List.take_of_length_le (by rw [hxl, hyn]; omega)] at htk
    rw [List.take_of_length_le (by simp)] at hpb
    subst htk
    exact r_ret h.nil y rfl ⟨bs', _, hpb, h, L, Ld, rfl, hO, hD⟩)

theorem c_toStore {w : World} {s : Sl} {bs : List BR} (hs : BsR w s bs) (hn1 : bs.length ≤ 1073741824) (hd : ∀ b ∈ bs, b.data.length ≤ 1073741824) :
    Ret Try.prog n_laws_toStore [.agg #[.slice s.a s.n s.c]] w [.agg] (fun r w' => ∃ (t : Sl) (bs' : List BR) (L : List Blk), r = #[.slice t.a t.n t.c] ∧ bs'.map BR.pb = bs.map BR.pb ∧ At w w' L ∧ OwnBs t bs' L) := laws_toStore_calls _ (by
  unfold laws_toStore
  refine r_new (At.refl w) fun b1 w1 h => ?_
  refine r_new h fun b2 w2 h => ?_
  refine r_new h fun b3 w3 h => ?_
  refine r_ld h 2 rfl (add_lit _ _ _) s (by simp [Sh.emb]) (by simp [Value.cells, Sh.emb]) ?_
  refine r_call h (c_toBlobS (hs.at h) hn1 hd) fun r w5 h5 _ ⟨bs', L, hpb, hL, hO⟩ => ?_
  have h := h.join hL
  have h := h.swap
  refine r_st h 0 (o := 0) rfl (add_lit _ _ _) (by simp [Value.cells]) rfl fun w6 h => ?_
  refine r_ldA h 0 rfl rfl (by simp [Value.cells]) ?_
  refine r_stA h 1 rfl rfl (by simp [Value.cells]) (by simp [Value.cells]) (by simp [Value.cells, oneC]) fun w7 h => ?_
  refine r_ldA h 1 rfl rfl (by simp [Value.cells]) ?_
  exact r_ret h.nil _ rfl ⟨r, bs', L, by simp [Value.cells], hpb, h.right (A := [_, _, _]), hO⟩)

theorem c_eqBlob {w : World} {b c : BR} (hb : b.Ok w) (hc : c.Ok w) (hbc : b.pb = c.pb) (hmax : b.data.length ≤ 1073741824) : Ret Try.prog n_laws_eqBlob [.agg b.cells.toArray, .agg c.cells.toArray] w [.bool] (fun r _ => r = true) := laws_eqBlob_calls _ _ (by
  unfold laws_eqBlob
  have h1 : b.tag = c.tag := congrArg PB.tag hbc
  have h2 : b.data = c.data := congrArg PB.data hbc
  refine r_new (At.refl w) fun b2 w1 h => ?_
  refine r_new h fun b3 w2 h => ?_
  refine r_ld h 1 rfl (add_lit _ _ _) b.tag (by simp [Sh.emb]) (by simp [Value.cells, BR.cells, Sh.emb]) ?_
  refine r_ld h 0 rfl (add_lit _ _ _) c.tag (by simp [Sh.emb]) (by simp [Value.cells, BR.cells, Sh.emb]) ?_
  refine r_ne (fun hh => absurd h1 hh) fun _ => ?_
  refine r_ld h 1 rfl (add_lit _ _ _) b.d (by simp [Sh.emb]) (by simp [Value.cells, BR.cells, Sh.emb]) ?_
  refine r_ld h 0 rfl (add_lit _ _ _) c.d (by simp [Sh.emb]) (by simp [Value.cells, BR.cells, Sh.emb]) ?_
  refine r_call h (c_eqByteS (hb.bytes.at h) (by rw [h2]; exact hc.bytes.at h) hmax) fun r w3 h3 _ hr => ?_
  subst hr
  exact r_false rfl (r_ret h3 _ rfl rfl))

theorem c_eqBlobS {w : World} {s t : Sl} {bs cs : List BR} (hs : BsR w s bs) (ht : BsR w t cs) (hbc : bs.map BR.pb = cs.map BR.pb) (hn1 : bs.length ≤ 1073741824) (hd : ∀ b ∈ bs, b.data.length ≤ 1073741824) :
    Ret Try.prog n_laws_eqBlobS [.slice s.a s.n s.c, .slice t.a t.n t.c] w [.bool] (fun r _ => r = true) := laws_eqBlobS_calls _ _ (by
  unfold laws_eqBlobS
  have hs1 := hs.n
  have ht1 := ht.n
  have hl : bs.length = cs.length := by simpa using congrArg List.length hbc
  refine r_ne (fun hh => by omega) fun _ => ?_
  refine r_loop (σ := Int) (fun i w' => ∃ j : Nat, i = j ∧ j ≤ bs.length ∧ At w w' []) (fun i _ => (s.n - i).toNat) 0 rfl ⟨0, rfl, by omega, At.refl w⟩ ?_
  rintro i w8 ⟨j, rfl, hj, h⟩
  refine r_any fun _ => ?_
  refine r_if ((j : Int) < (s.n : Int)) rfl (fun hlt => ?_) (fun hge => ?_)
  · refine r_draw h fun w3 h => ?_
    obtain ⟨b, p, hb, hbm, hp, hbo, hag, _, _⟩ := hs.get (i := j) (by omega)
    obtain ⟨c, q, hc, hcm, hq, hco, hag2, _, _⟩ := ht.get (i := j) (by omega)
    refine r_ix p hp (by omega) (by omega) ?_
    refine r_ldO h _ (by simp only [Int.toNat_natCast]; exact hag) (by simp) ?_
    refine r_ix q hq (by omega) (by omega) ?_
    refine r_ldO h _ (by simp only [Int.toNat_natCast]; exact hag2) (by simp) ?_
    refine r_call h (c_eqBlob (hbo.below h.below) (hco.below h.below) (map_pb_get hbc hb hc) (hd b hbm)) fun r w4 h4 _ hr => ?_
    subst hr
    refine r_false rfl ?_
    exact ⟨((j + 1 : Nat) : Int), by rw [w64 (by omega) (by omega)]; rfl, ⟨j + 1, rfl, by omega, h4⟩, by omega⟩
  · exact r_ret h _ rfl rfl)

theorem c_eqStore {w : World} {s t : Sl} {bs cs : List BR} (hs : BsR w s bs) (ht : BsR w t cs) (hbc : bs.map BR.pb = cs.map BR.pb) (hn1 : bs.length ≤ 1073741824) (hd : ∀ b ∈ bs, b.data.length ≤ 1073741824) :
    Ret Try.prog n_laws_eqStore [.agg #[.slice s.a s.n s.c], .agg #[.slice t.a t.n t.c]] w [.bool] (fun r _ => r = true) := laws_eqStore_calls _ _ (by
  unfold laws_eqStore
  refine r_new (At.refl w) fun b2 w1 h => ?_
  refine r_new h fun b3 w2 h => ?_
  refine r_ld h 1 rfl (add_lit _ _ _) s (by simp [Sh.emb]) (by simp [Value.cells, Sh.emb]) ?_
  refine r_ld h 0 rfl (add_lit _ _ _) t (by simp [Sh.emb]) (by simp [Value.cells, Sh.emb]) ?_
  refine r_call h (c_eqBlobS (hs.at h) (ht.at h) hbc hn1 hd) fun r w3 h3 _ hr => ?_
  subst hr
  exact r_false rfl (r_ret h3 _ rfl rfl))

def markB : Int → List PB → List PB
  | _, [] => []
  | k, b :: r => ⟨k % 256, marks (k + 1) b.data.length⟩ :: markB (k + 1 + b.data.length) r
theorem markB_append (k : Int) (r t : List PB) : markB k (r ++ t) = markB k r ++ markB (k + sizeBs r) t := by
  induction r generalizing k with
  | nil => simp [markB, sizeBs]
  | cons b r ih =>
    simp only [List.cons_append, markB, ih]
    congr 3
    simp [sizeBs]
    omega
theorem markB_ok (k : Int) (r : List PB) : ∀ b ∈ markB k r, b.ok := by
  induction r generalizing k with
  | nil => simp [markB]
  | cons b r ih =>
    intro x hx
    simp only [markB, List.mem_cons] at hx
    rcases hx with rfl | hx
    · exact ⟨marks_ok _ _, by show 0 ≤ k % 256; omega, by show k % 256 < 256; omega⟩
    · exact ih _ x hx
theorem markB_len (k : Int) (r : List PB) : (markB k r).length = r.length := by
  induction r generalizing k with
  | nil => rfl
  | cons b r ih => simp [markB, ih]
theorem sizeBs_append (r t : List PB) : sizeBs (r ++ t) = sizeBs r + sizeBs t := by simp [sizeBs]; omega
theorem le_sizeBs (r : List PB) : r.length ≤ sizeBs r := Nat.le_add_right _ _
theorem markB_size (k : Int) (r : List PB) : sizeBs (markB k r) = sizeBs r := by
  induction r generalizing k with
  | nil => rfl
  | cons b r ih =>
    have h1 : sizeBs (markB k (b :: r)) = sizeBs [⟨k % 256, marks (k + 1) b.data.length⟩] + sizeBs (markB (k + 1 + b.data.length) r) := by rw [← sizeBs_append]; rfl
    have h2 : sizeBs (b :: r) = sizeBs [b] + sizeBs r := by rw [← sizeBs_append]; rfl
    rw [h1, h2, ih]
    simp [sizeBs]

theorem c_markBlobS {w0 w : World} {ls L : List Blk} {s : Sl} {bs : List BR} (hA : At w0 w (L ++ ls)) (hO : OwnBs s bs L) (k : Int) (h0 : 0 ≤ k) (hmax : k + sizeBs (bs.map BR.pb) ≤ 4611686018427387904) :
    Calls Try.prog n_laws_markBlobS [.slice s.a s.n s.c, .int .i64 k].toArray w fun e w' => ∃ v, e = .returned v ∧ v = .int .i64 (k + sizeBs (bs.map BR.pb)) ∧ ∃ bs' L', At w0 w' (L' ++ ls) ∧ OwnBs s bs' L' ∧ bs'.map BR.pb = markB k (bs.map BR.pb) := laws_markBlobS_calls s k (by
  unfold laws_markBlobS
  obtain ⟨Lb, Ld, rfl, hOb, hD⟩ := hO
  have hn : s.n = bs.length := by
    have := hOb.1
    rw [flatMap_length (fun b _ => cells_len b)] at this
    omega
  refine r_loop (σ := Int × Int) (fun i w' => ∃ (b1 b2 : List BR) (Lb L1 L2 : List Blk) (B1 : List PB), i = (k + sizeBs (b1.map BR.pb), (b1.length : Int)) ∧ B1 ++ b2.map BR.pb = bs.map BR.pb ∧ b1.map BR.pb = markB k B1 ∧ At w0 w' (Lb ++ (L1 ++ (L2 ++ ls))) ∧
      OwnS ty_impl_Blob 2 s ((b1 ++ b2).flatMap BR.cells) Lb ∧ OwnData b1 L1 ∧ OwnData b2 L2) (fun i _ => (s.n - i.2).toNat) (k, 0) rfl
    ⟨[], bs, Lb, [], Ld, [], by simp [sizeBs], by simp, by simp [markB], by simpa [List.append_assoc] using hA, hOb, .nil, hD⟩ ?_
  rintro i w4 ⟨b1, b2, Lb, L1, L2, B1, rfl, hB, hm, h, hOb, hD1, hD2⟩
  refine r_any fun _ => ?_
  dsimp only
  have hl1 : B1.length = b1.length := by have := congrArg List.length hm; rw [markB_len] at this; simpa using this.symm
  have hl : b1.length + b2.length = bs.length := by have := congrArg List.length hB; simp [hl1] at this; exact this
  have hsz1 : sizeBs (b1.map BR.pb) = sizeBs B1 := by rw [hm, markB_size]
  have hsz : sizeBs B1 + sizeBs (b2.map BR.pb) = sizeBs (bs.map BR.pb) := by rw [← hB, sizeBs_append]
  have hle := le_sizeBs (bs.map BR.pb)
  rw [List.length_map] at hle
  refine r_if ((b1.length : Int) < (s.n : Int)) rfl (fun hlt => ?_) (fun hge => ?_)
  · cases b2 with
    | nil => simp at hl; omega
    | cons b b2 =>
    have hszb : sizeBs ((b :: b2).map BR.pb) = 1 + b.data.length + sizeBs (b2.map BR.pb) := by simp [sizeBs, BR.pb]; omega
    obtain ⟨p, hp⟩ := hOb.addr (by omega)
    refine r_ix p hp (by omega) (by omega) ?_
    have hxl : ((b1 ++ b :: b2).flatMap BR.cells).length = (b1 ++ b :: b2).length * 2 := flatMap_length (fun b _ => cells_len b)
    have hfl : (b1.flatMap BR.cells).length = b1.length * 2 := flatMap_length (fun b _ => cells_len b)
    refine r_stO h hOb hp (b1.length * 2) (by simp [Go.Deep.add_add]) (by simp [Value.cells]) (by rw [hxl]; simp; omega) (by simp [Value.cells, oneC]) fun w5 L5 h5 hO5 => ?_
    have e1 : (((b1 ++ b :: b2).flatMap BR.cells).take (b1.length * 2) ++ (Value.int .u8 (IntKind.wrap .u8 (k + sizeBs (b1.map BR.pb)))).cells.toList ++ ((b1 ++ b :: b2).flatMap BR.cells).drop (b1.length * 2 + 1)) = (b1 ++ (⟨(k + sizeBs (b1.map BR.pb)) % 256, b.d, b.data⟩ : BR) :: b2).flatMap BR.cells := by
      rw [List.flatMap_append, List.flatMap_append, ← hfl, List.take_left, List.drop_append, List.drop_eq_nil_of_le (by omega), wrapu8]
      simp [Value.cells, BR.cells]
    rw [e1] at hO5
    refine r_ix p hp (by omega) (by omega) ?_
    have hrd := hO5.of h5 (List.sublist_append_left _ _) (fun b _ => cells_len b) (by omega)
    have hx : (b1 ++ (⟨(k + sizeBs (b1.map BR.pb)) % 256, b.d, b.data⟩ : BR) :: b2)[b1.length]? = some ⟨(k + sizeBs (b1.map BR.pb)) % 256, b.d, b.data⟩ := by simp
    refine r_ldN b.d (by rw [Go.Deep.add_add]; simp only [Int.toNat_natCast]; exact hrd.fld hx hp 1 rfl (by simp [Sh.emb])) ?_
    cases hD2 with
    | @cons _ _ M1 M2 hM1 hM2 =>
    rw [List.append_assoc M1 M2 ls] at h5
    have h6 := h5.pull3
    have e2 : IntKind.wrap .i64 (k + (sizeBs (b1.map BR.pb) : Int) + 1) = k + sizeBs (b1.map BR.pb) + 1 := w64 (by omega) (by omega)
    rw [e2]
    refine r_callR (c_markByteS h6 hM1 _ (by omega) (by omega)) ?_
    rintro v w7 ⟨rfl, M1', h7, hM1'⟩
    refine ⟨_, rfl, ?_⟩
    refine ⟨(k + sizeBs ((b1 ++ [(⟨(k + sizeBs (b1.map BR.pb)) % 256, b.d, marks (k + sizeBs (b1.map BR.pb) + 1) b.data.length⟩ : BR)]).map BR.pb), (((b1 ++ [(⟨(k + sizeBs (b1.map BR.pb)) % 256, b.d, marks (k + sizeBs (b1.map BR.pb) + 1) b.data.length⟩ : BR)]).length : Nat) : Int)), ?_, ⟨_, b2, L5, L1 ++ M1', M2, B1 ++ [b.pb], rfl, ?_, ?_, ?_, ?_, hD1.snoc hM1', hM2⟩, ?_⟩
    · rw [w64 (by omega) (by omega), List.map_append, sizeBs_append]
      simp [embL, Sh.emb, sizeBs, BR.pb]
      omega
    · simpa using hB
    · rw [List.map_append, hm, markB_append]
      simp [markB, BR.pb, markB_size, hsz1]
    · rw [List.append_assoc L1 M1']
      exact h7.push3
    · have : (b1 ++ [(⟨(k + sizeBs (b1.map BR.pb)) % 256, b.d, marks (k + sizeBs (b1.map BR.pb) + 1) b.data.length⟩ : BR)] ++ b2).flatMap BR.cells = (b1 ++ (⟨(k + sizeBs (b1.map BR.pb)) % 256, b.d, b.data⟩ : BR) :: b2).flatMap BR.cells := by simp [BR.cells]
      rw [this]
      exact hO5
    · simp; omega
  · have : b2 = [] := List.eq_nil_of_length_eq_zero (by omega)
    subst this
    simp only [List.map_nil, List.append_nil] at hB hOb hsz
    subst hB
    cases hD2
    refine r_retR ⟨by rw [hsz1], b1, Lb ++ L1, by simpa [List.append_assoc] using h, ⟨Lb, L1, rfl, hOb, hD1⟩, hm⟩)

theorem c_markStore {w0 w : World} {ls L : List Blk} {s : Sl} {bs : List BR} (hA : At w0 w (L ++ ls)) (hO : OwnBs s bs L) (k : Int) (h0 : 0 ≤ k) (hmax : k + sizeBs (bs.map BR.pb) ≤ 4611686018427387904) :
    Calls Try.prog n_laws_markStore [.agg #[.slice s.a s.n s.c], .int .i64 k].toArray w fun e w' => ∃ v, e = .returned v ∧ v = .int .i64 (k + sizeBs (bs.map BR.pb)) ∧ ∃ bs' L', At w0 w' (L' ++ ls) ∧ OwnBs s bs' L' ∧ bs'.map BR.pb = markB k (bs.map BR.pb) := laws_markStore_calls _ k (by
  unfold laws_markStore
  refine r_new hA fun b2 w1 h => ?_
  refine r_ld h 0 rfl (add_lit _ _ _) s (by simp [Sh.emb]) (by simp [Value.cells, Sh.emb]) ?_
  refine r_callR (c_markBlobS h.mid hO k h0 hmax) ?_
  rintro v w2 ⟨rfl, bs', L', h2, hO', hm⟩
  exact ⟨_, rfl, r_retR ⟨rfl, bs', L', h2.unmid.tail, hO', hm⟩⟩)

end Go.Proofs.Ytkifkdkjljcclaa
