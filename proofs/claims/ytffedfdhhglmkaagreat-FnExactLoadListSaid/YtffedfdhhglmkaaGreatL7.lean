/- LoadList: what both sides answer, plain. LoadList: the program and the reference. LoadList: the reference's walk; both sides' answers. LoadList: what both sides answer. -/
import Derived.Test.YtffedfdhhglmkaaGreatL1
import Derived.Test.YtffedfdhhglmkaaGreatV8
import Derived.Test.YtffedfdhhglmkaaGreatL4
namespace Go.Proofs.YtffedfdhhglmkaaGreat
open Go.Sx Go.RowKit

/-- The chunks of a list of n below a key, the key that is missing, and a code. -/
def loadGo (B : List PB) : Nat → List Int → Nat → List (List Int) × List Int × Int
  | 0, _, _ => ([], zero32, 8)
  | f + 1, k, n =>
    if k ∈ keysOf B then
      (if n = 0 then (if (blobAt B k).tag = 3 ∧ (blobAt B k).data.length = 0 then ([], zero32, 0) else ([], zero32, 8))
       else if n = 1 then (if (blobAt B k).tag = 1 then ([(blobAt B k).data], zero32, 0) else ([], zero32, 8))
       else if (blobAt B k).tag = 2 ∧ (blobAt B k).data.length = 64 then
         (if (loadGo B f (part32 (blobAt B k).data 0) (half n)).2.2 = 0 then
            ((loadGo B f (part32 (blobAt B k).data 0) (half n)).1 ++ (loadGo B f (part32 (blobAt B k).data 32) (n - half n)).1, (loadGo B f (part32 (blobAt B k).data 32) (n - half n)).2)
          else loadGo B f (part32 (blobAt B k).data 0) (half n))
       else ([], zero32, 8))
    else ([], k, 6)
theorem loadGo_succ (B : List PB) (f : Nat) (k : List Int) (n : Nat) : loadGo B (f + 1) k n = if k ∈ keysOf B then
      (if n = 0 then (if (blobAt B k).tag = 3 ∧ (blobAt B k).data.length = 0 then ([], zero32, 0) else ([], zero32, 8))
       else if n = 1 then (if (blobAt B k).tag = 1 then ([(blobAt B k).data], zero32, 0) else ([], zero32, 8))
       else if (blobAt B k).tag = 2 ∧ (blobAt B k).data.length = 64 then
         (if (loadGo B f (part32 (blobAt B k).data 0) (half n)).2.2 = 0 then
            ((loadGo B f (part32 (blobAt B k).data 0) (half n)).1 ++ (loadGo B f (part32 (blobAt B k).data 32) (n - half n)).1, (loadGo B f (part32 (blobAt B k).data 32) (n - half n)).2)
          else loadGo B f (part32 (blobAt B k).data 0) (half n))
       else ([], zero32, 8))
    else ([], k, 6) := rfl
structure LoadOk (r : List (List Int) × List Int × Int) (n : Nat) : Prop where
  data : ∀ x ∈ r.1, bytesOk x ∧ x.length ≤ 1024
  many : r.1.length ≤ n
  want : keyOk r.2.1
theorem loadOk_nil {n : Nat} {k : List Int} (hk : keyOk k) (c : Int) : LoadOk ([], k, c) n := ⟨by simp, by simp, hk⟩
theorem loadGo_ok {B : List PB} (hv : validS B) (hB : ∀ b ∈ B, bytesOk b.data) : ∀ (f : Nat) (k : List Int) (n : Nat), keyOk k → LoadOk (loadGo B f k n) n
  | 0, _, _, _ => loadOk_nil zero32_ok _
  | f + 1, k, n, hk => by
    rw [loadGo_succ]
    split
    · rename_i hm
      have hb := blobAt_mem hv.2.2 hm
      have hd := hB _ hb
      split
      · split <;> exact loadOk_nil zero32_ok _
      split
      · rename_i hn
        split
        · refine ⟨fun x hx => ?_, by subst hn; simp, zero32_ok⟩
          rw [List.mem_singleton.1 hx]
          exact ⟨hd, hv.2.1 _ hb⟩
        · exact loadOk_nil zero32_ok _
      split
      · rename_i h0 h1 h64
        have k0 : keyOk (part32 (blobAt B k).data 0) := part32_key (by omega) hd
        have k1 : keyOk (part32 (blobAt B k).data 32) := part32_key (by omega) hd
        have i0 := loadGo_ok hv hB f _ (half n) k0
        have i1 := loadGo_ok hv hB f _ (n - half n) k1
        have hh := (half_lt (n := n) (by omega)).1
        split
        · have m0 := i0.many
          have m1 := i1.many
          refine ⟨fun x hx => ?_, by rw [List.length_append]; omega, i1.want⟩
          rcases List.mem_append.1 hx with hx | hx
          · exact i0.data x hx
          · exact i1.data x hx
        · have m0 := i0.many
          exact ⟨i0.data, by omega, i0.want⟩
      · exact loadOk_nil zero32_ok _
    · exact loadOk_nil hk _
def loadAns (B : List PB) (k : List Int) (n : Int) : List (List Int) × List Int × Int :=
  if validS B then (if n ≥ 0 ∧ n ≤ 256 then (if (loadGo B (n.toNat + 1) k n.toNat).2.2 = 0 then ((loadGo B (n.toNat + 1) k n.toNat).1, zero32, 0) else ([], (loadGo B (n.toNat + 1) k n.toNat).2)) else ([], zero32, 2)) else ([], zero32, 1)
theorem sumL_bound {X : List (List Int)} {m : Nat} (h : ∀ x ∈ X, x.length ≤ m) : sumL X ≤ X.length * m := by
  induction X with
  | nil => simp [sumL]
  | cons x r ih =>
    have h1 := h x (by simp)
    have h2 := ih (fun y hy => h y (by simp [hy]))
    rw [sumL_cons, List.length_cons, Nat.add_mul]
    omega
theorem loadAns_ok {B : List PB} (hB : ∀ b ∈ B, bytesOk b.data) {k : List Int} (hk : keyOk k) (n : Int) : LoadOk (loadAns B k n) 256 := by
  unfold loadAns
  split
  · rename_i hv
    split
    · rename_i hn
      have h := loadGo_ok hv hB (n.toNat + 1) k n.toNat hk
      have hm := h.many
      split
      · exact ⟨h.data, by show (loadGo B (n.toNat + 1) k n.toNat).1.length ≤ _; omega, zero32_ok⟩
      · exact ⟨by simp, by simp, h.want⟩
    · exact loadOk_nil zero32_ok _
  · exact loadOk_nil zero32_ok _
theorem loadOk_size {r : List (List Int) × List Int × Int} (h : LoadOk r 256) : sizeByteSS r.1 ≤ 262400 ∧ msizeByteSS r.1 ≤ 262144 := by
  have h1 := sumL_bound (m := 1024) fun x hx => (h.data x hx).2
  have h2 := h.many
  unfold sizeByteSS msizeByteSS
  omega
end Go.Proofs.YtffedfdhhglmkaaGreat

namespace Go.Proofs.YtffedfdhhglmkaaGreat
open Go.Sx Go.RowKit

theorem loadGo_zero {B : List PB} : ∀ {f : Nat} {k : List Int} {n : Nat}, (loadGo B f k n).2.2 = 0 → (loadGo B f k n).2.1 = zero32
  | 0, _, _, h => absurd h (by show (8 : Int) ≠ 0; decide)
  | f + 1, k, n, h => by
    rw [loadGo_succ] at h ⊢
    split at h
    · rename_i hm
      rw [if_pos hm]
      split at h
      · rename_i h0
        rw [if_pos h0]
        split at h
        · rename_i h3; rw [if_pos h3]
        · exact absurd h (by show (8 : Int) ≠ 0; decide)
      rename_i h0
      rw [if_neg h0]
      split at h
      · rename_i h1
        rw [if_pos h1]
        split at h
        · rename_i h3; rw [if_pos h3]
        · exact absurd h (by show (8 : Int) ≠ 0; decide)
      rename_i h1
      rw [if_neg h1]
      split at h
      · rename_i h2
        rw [if_pos h2]
        split at h
        · rename_i h3
          rw [if_pos h3]
          exact loadGo_zero (f := f) h
        · rename_i h3
          exact absurd h h3
      · exact absurd h (by show (8 : Int) ≠ 0; decide)
    · exact absurd h (by show (6 : Int) ≠ 0; decide)

theorem bytes_of' {w : World} {p : Addr} {B : List PB} {bs : List BR} (hs : ShopR w p (keysOf B) bs) (hpb : bs.map BR.pb = B) : ∀ b ∈ B, bytesOk b.data := fun b hb => by
  rw [← hpb] at hb
  obtain ⟨y, hy, rfl⟩ := List.mem_map.1 hb
  obtain ⟨sk, sb, _, _, _, hBs⟩ := hs.ex
  exact (hBs.ok y hy).bytes.ok

/-! ### The program -/
/-- The state of the program's walk: who reads, and the chunks. -/
def LS (w0 w : World) (bl b12 : Nat) (p : Addr) (want : List Int) (X : List (List Int)) (rest : List Blk) : Prop :=
  ∃ (rs : List SR) (so : Sl) (Lb Ld : List Blk), rs.map SR.data = X ∧ so.n = rs.length ∧ OwnS ty_sl_uint8 1 so (rs.flatMap SR.cells) Lb ∧ OwnSD rs Ld ∧ At w0 w ([(bl, lsrC p want, ty_impl_lister), (b12, #[.slice so.a so.n so.c], ty_sl_sl_uint8)] ++ (Lb ++ (Ld ++ rest)))
theorem LS.drop {w0 w : World} {bl b12 : Nat} {p : Addr} {want : List Int} {X : List (List Int)} {G rest : List Blk} (h : LS w0 w bl b12 p want X (G ++ rest)) : LS w0 w bl b12 p want X rest := by
  obtain ⟨rs, so, Lb, Ld, h1, h2, h3, h4, h5⟩ := h
  exact ⟨rs, so, Lb, Ld, h1, h2, h3, h4, h5.dr3⟩
theorem LS.front {w0 w : World} {bl b12 : Nat} {p : Addr} {want : List Int} {X : List (List Int)} {G rest : List Blk} (h : LS w0 w bl b12 p want X (G ++ rest)) : ∃ M, At w0 w (G ++ M) := by
  obtain ⟨rs, so, Lb, Ld, h1, h2, h3, h4, h5⟩ := h
  exact ⟨_, h5.pl3⟩
theorem r_newLS {P : Program} {R : Value → World → Prop} {w0 w : World} {bl b12 : Nat} {p : Addr} {want : List Int} {X : List (List Int)} {rest : List Blk} {t : TypeId} {v : Value} {k : Nat → World → Prop} (h : LS w0 w bl b12 p want X rest) (hk : ∀ b w', LS w0 w' bl b12 p want X ([(b, v.cells, t)] ++ rest) → k b w') : ((real P R).new t v k : World → Prop) w := by
  obtain ⟨rs, so, Lb, Ld, h1, h2, h3, h4, h5⟩ := h
  refine r_new h5 fun b w1 h => hk b w1 ⟨rs, so, Lb, Ld, h1, h2, h3, h4, ?_⟩
  exact At.ps3 (V := [_, _]) (G3 := [_]) h
theorem r_stLS {P : Program} {R : Value → World → Prop} {w0 w : World} {bl b12 : Nat} {p : Addr} {want : List Int} {X : List (List Int)} {G rest : List Blk} (i : Nat) {n b : Nat} {cs ds : Array Value} {t : TypeId} {k : World → Prop} (h : LS w0 w bl b12 p want X (G ++ rest)) (hl : G[i]? = some (b, cs, t)) (hn : ds.size = n) (hc : cs.size = n) (h1 : ∀ v ∈ ds.toList, oneC v = true) (hk : ∀ w', LS w0 w' bl b12 p want X (G.set i (b, ds, t) ++ rest) → k w') : ((real P R).st n ⟨b, 0, none⟩ (.agg ds) k : World → Prop) w := by
  obtain ⟨rs, so, Lb, Ld, g1, g2, g3, g4, g5⟩ := h
  have hi := (List.getElem?_eq_some_iff.1 hl).1
  refine r_stA g5.pl3 i (by rw [List.getElem?_append_left hi]; exact hl) rfl hn hc h1 fun w1 h => hk w1 ⟨rs, so, Lb, Ld, g1, g2, g3, g4, ?_⟩
  rw [List.set_append_left _ _ hi] at h
  exact h.ps3

theorem c_withChunk {w0 w : World} {bl b12 : Nat} {p : Addr} {want : List Int} {X : List (List Int)} {rest : List Blk} {s : Sl} {d : List Int} (hL : LS w0 w bl b12 p want X rest) (hs : BSl w0 s d) (hd : d.length ≤ 1024) (hX : X.length ≤ 1000) :
    Calls Tryz.prog n_impl_LoadList_1 [.slice s.a s.n s.c, .pointer (some ⟨b12, 0, none⟩)].toArray w fun e w' => ∃ v, e = .returned v ∧ v = .tuple #[] ∧ LS w0 w' bl b12 p want (X ++ [d]) rest := impl_LoadList_1_calls _ _ (by
  unfold impl_LoadList_1
  obtain ⟨rs, so, Lb, Ld, h1, h2, hO, hD, h⟩ := hL
  have hrl : rs.length = X.length := by rw [← h1]; simp
  have ls_ : ∀ {w' : World} {V M : List Blk}, At w0 w' (V ++ ([(bl, lsrC p want, ty_impl_lister), (b12, #[.slice so.a so.n so.c], ty_sl_sl_uint8)] ++ M)) → ldOk w' 1 ⟨b12, 0, none⟩ .slice so := fun h => by
    have := ldOk_own (n := 1) h.pl1 1 rfl 0 (sh := .slice) (x := so) rfl (by simp [Sh.emb])
    simpa [add_lit] using this
  refine r_draw h fun w1 h => ?_
  refine r_ldN (sh := .slice) so (ls_ (V := []) h) ?_
  refine r_call h (c_CloneBytes (hs.at h) (by omega)) fun r5 w2 _ _ ⟨hS, hn5⟩ => ?_
  obtain ⟨Lr, hOr, h⟩ := SlO.own_of h hS
  refine r_chk1 ?_ ?_
  · exact ls_ h
  refine r_bs1 T_sl_slu8 h (v := .slice r5.a r5.n r5.c) (by simp [Value.cells]) (by omega) fun y6 w3 hy hyn => ?_
  obtain ⟨Ly, hOy, h⟩ := hy.split
  refine r_chk1 ?_ ?_
  · have h' : At w0 w3 ((Ly ++ Lr) ++ ([(bl, lsrC p want, ty_impl_lister), (b12, #[.slice so.a so.n so.c], ty_sl_sl_uint8)] ++ (Lb ++ (Ld ++ rest)))) := by simpa [List.append_assoc] using h
    exact ls_ h'
  refine r_append T_sl_slu8 (hO.slo h.pl3) (hOy.sl h (List.sublist_append_left _ _)) (by simp [Value.cells, oneC]) (by omega) (by omega) fun y7 w4 hS7 hn7 => ?_
  obtain ⟨Lb', hO', h⟩ := hS7.split
  have h := (h.dr1.pl2.pl3).ps2
  refine r_st h 1 (o := 0) rfl rfl (by simp) rfl fun w5 h => ?_
  refine r_retR ⟨rfl, rs ++ [⟨r5, d⟩], y7, Lb', Ld ++ Lr, by rw [List.map_append, h1]; rfl, by rw [List.length_append]; simp only [List.length_cons, List.length_nil]; omega, by simpa [Value.cells, SR.cells, List.flatMap_append] using hO', hD.snoc hOr, ?_⟩
  rw [List.append_assoc]
  exact h)

theorem c_load {w0 : World} {bl b12 : Nat} {p : Addr} {B : List PB} {bs : List BR} (hs : ShopR w0 p (keysOf B) bs) (hpb : bs.map BR.pb = B) (hv : validS B) : ∀ (f n : Nat) (k : List Int) (X : List (List Int)) (w : World) (rest : List Blk), n < f → n ≤ 256 → keyOk k → X.length + n ≤ 1000 → LS w0 w bl b12 p zero32 X rest →
    Calls Tryz.prog n_ptr_impl_lister_load [.pointer (some ⟨bl, 0, none⟩), .agg (u8s k).toArray, .int .i64 (n : Int), .func (.func n_impl_LoadList_1) #[] #[.pointer (some ⟨b12, 0, none⟩)]].toArray w fun e w' => ∃ v, e = .returned v ∧ v = .int .i64 (loadGo B f k n).2.2 ∧ LS w0 w' bl b12 p (loadGo B f k n).2.1 (X ++ (loadGo B f k n).1) rest
  | 0, n, _, _, _, _, hf, _, _, _, _ => by omega
  | f + 1, n, k, X, w, rest, hf, hn, hk, hX, hL => ptr_impl_lister_load_calls _ _ _ _ (by
    unfold ptr_impl_lister_load
    rw [loadGo_succ]
    refine r_newLS hL fun b5 w1 hL => ?_
    have hL : LS w0 w1 bl b12 p zero32 X ([(b5, (u8s k).toArray, ty_impl_Key)] ++ rest) := hL
    refine r_eq (fun h0 => ?_) (fun h0 => ?_)
    · have h0' : n = 0 := by omega
      obtain ⟨M, hM⟩ := hL.front
      refine r_ldA hM 0 rfl rfl (by simp [hk.1]) ?_
      obtain ⟨rs, so, Lb, Ld, g1, g2, g3, g4, h⟩ := hL
      refine r_callR (c_lblob (tag := 3) (nb := 0) h hs hpb hv hk zero32_ok) ?_
      rintro v w2 (⟨hm, rfl, h⟩ | ⟨hm, h, ⟨s, has, rfl, hsb⟩ | ⟨hn2, rfl⟩⟩)
      · rw [if_neg hm]
        refine ⟨(⟨none, 0, 0⟩, 6), rfl, ?_⟩
        exact r_retR ⟨rfl, LS.drop (G := [_]) ⟨rs, so, Lb, Ld, by simpa using g1, g2, g3, g4, h⟩⟩
      · rw [if_pos hm, if_pos h0', if_pos ⟨has.1, by have := has.2; omega⟩]
        refine ⟨(s, 0), rfl, ?_⟩
        exact r_retR ⟨rfl, LS.drop (G := [_]) ⟨rs, so, Lb, Ld, by simpa using g1, g2, g3, g4, h⟩⟩
      · rw [if_pos hm, if_pos h0', if_neg (fun hh => hn2 ⟨hh.1, .inr (by omega)⟩)]
        refine ⟨(⟨none, 0, 0⟩, 8), rfl, ?_⟩
        exact r_retR ⟨rfl, LS.drop (G := [_]) ⟨rs, so, Lb, Ld, by simpa using g1, g2, g3, g4, h⟩⟩
    refine r_eq (fun h1 => ?_) (fun h1 => ?_)
    · have h0' : ¬ n = 0 := by omega
      have h1' : n = 1 := by omega
      obtain ⟨M, hM⟩ := hL.front
      refine r_ldA hM 0 rfl rfl (by simp [hk.1]) ?_
      obtain ⟨rs, so, Lb, Ld, g1, g2, g3, g4, h⟩ := hL
      refine r_callR (c_lblob (tag := 1) (nb := -1) h hs hpb hv hk zero32_ok) ?_
      rintro v w2 (⟨hm, rfl, h⟩ | ⟨hm, h, ⟨s, has, rfl, hsb⟩ | ⟨hn2, rfl⟩⟩)
      · rw [if_neg hm]
        refine ⟨(⟨none, 0, 0⟩, 6), rfl, ?_⟩
        refine r_false rfl ?_
        exact r_retR ⟨rfl, LS.drop (G := [_]) ⟨rs, so, Lb, Ld, by simpa using g1, g2, g3, g4, h⟩⟩
      · rw [if_pos hm, if_neg h0', if_pos h1', if_pos has.1]
        refine ⟨(s, 0), rfl, ?_⟩
        refine r_true rfl ?_
        have hd := hv.2.1 _ (blobAt_mem hv.2.2 hm)
        refine r_callVR (by kernel_rfl) (c_withChunk ⟨rs, so, Lb, Ld, g1, g2, g3, g4, h⟩ hsb hd (by omega)) ?_
        rintro v w3 ⟨rfl, hL⟩
        refine ⟨(), rfl, ?_⟩
        exact r_retR ⟨rfl, LS.drop (G := [_]) hL⟩
      · rw [if_pos hm, if_neg h0', if_pos h1', if_neg (fun hh => hn2 ⟨hh, .inl (by decide)⟩)]
        refine ⟨(⟨none, 0, 0⟩, 8), rfl, ?_⟩
        refine r_false rfl ?_
        exact r_retR ⟨rfl, LS.drop (G := [_]) ⟨rs, so, Lb, Ld, by simpa using g1, g2, g3, g4, h⟩⟩
    have h0' : ¬ n = 0 := by omega
    have h1' : ¬ n = 1 := by omega
    have hh := half_lt (n := n) (by omega)
    obtain ⟨M, hM⟩ := hL.front
    refine r_ldA hM 0 rfl rfl (by simp [hk.1]) ?_
    obtain ⟨rs, so, Lb, Ld, g1, g2, g3, g4, h⟩ := hL
    refine r_callR (c_lpair h hs hpb hv hk zero32_ok) ?_
    rintro v w2 (⟨hm, rfl, h⟩ | ⟨hm, h, ⟨ht2, h64, hdok, rfl⟩ | ⟨hn2, rfl⟩⟩)
    · rw [if_neg hm]
      refine ⟨(_, _, 6), rfl, ?_⟩
      have hL : LS w0 w2 bl b12 p k X ([(b5, (u8s k).toArray, ty_impl_Key)] ++ rest) := ⟨rs, so, Lb, Ld, g1, g2, g3, g4, h⟩
      refine r_newLS hL fun b13 w3 hL => ?_
      refine r_newLS hL fun b14 w4 hL => ?_
      have hL : LS w0 w4 bl b12 p k X ([(b14, Array.replicate 32 (.int .u8 0), ty_impl_Key), (b13, Array.replicate 32 (.int .u8 0), ty_impl_Key), (b5, (u8s k).toArray, ty_impl_Key)] ++ rest) := hL
      refine r_stLS 1 hL rfl (by simp) (by simp) (by simp [oneC]) fun w5 hL => ?_
      refine r_stLS 0 hL rfl (by simp) (by simp) (by simp [oneC]) fun w6 hL => ?_
      refine r_true rfl ?_
      exact r_retR ⟨rfl, by rw [List.append_nil]; exact hL.drop⟩
    · rw [if_pos hm, if_neg h0', if_neg h1', if_pos ⟨ht2, h64⟩]
      have k0 : keyOk (part32 (blobAt B k).data 0) := part32_key (by omega) hdok
      have k1 : keyOk (part32 (blobAt B k).data 32) := part32_key (by omega) hdok
      refine ⟨(_, _, 0), rfl, ?_⟩
      dsimp only
      generalize part32 (blobAt B k).data 0 = ka at k0 ⊢
      generalize part32 (blobAt B k).data 32 = kb at k1 ⊢
      have hL : LS w0 w2 bl b12 p zero32 X ([(b5, (u8s k).toArray, ty_impl_Key)] ++ rest) := ⟨rs, so, Lb, Ld, g1, g2, g3, g4, h⟩
      refine r_newLS hL fun b13 w3 hL => ?_
      refine r_newLS hL fun b14 w4 hL => ?_
      have hL : LS w0 w4 bl b12 p zero32 X ([(b14, Array.replicate 32 (.int .u8 0), ty_impl_Key), (b13, Array.replicate 32 (.int .u8 0), ty_impl_Key), (b5, (u8s k).toArray, ty_impl_Key)] ++ rest) := hL
      refine r_stLS 1 hL rfl (by simp [k0.1]) (by simp) (by simpa using u8s_one) fun w5 hL => ?_
      refine r_stLS 0 hL rfl (by simp [k1.1]) (by simp) (by simpa using u8s_one) fun w6 hL => ?_
      have hL : LS w0 w6 bl b12 p zero32 X ([(b14, (u8s kb).toArray, ty_impl_Key), (b13, (u8s ka).toArray, ty_impl_Key), (b5, (u8s k).toArray, ty_impl_Key)] ++ rest) := hL
      refine r_false rfl ?_
      refine r_callp (c_leftOf n (by omega) (by omega)) ?_
      obtain ⟨M, hM⟩ := hL.front
      refine r_ldA hM 1 rfl rfl (by simp [k0.1]) ?_
      have hg0 := (loadGo_ok hv (bytes_of' hs hpb) f ka (half n) k0).many
      refine r_callR (c_load hs hpb hv f (half n) ka X w6 _ (by omega) (by omega) k0 (by omega) hL) ?_
      rintro v w7 ⟨rfl, hL⟩
      refine ⟨_, rfl, ?_⟩
      refine r_ne (fun hne => ?_) (fun heq => ?_)
      · rw [if_neg hne]
        exact r_retR ⟨rfl, hL.drop⟩
      · rw [if_pos heq]
        rw [loadGo_zero heq] at hL
        obtain ⟨M, hM⟩ := hL.front
        refine r_ldA hM 0 rfl rfl (by simp [k1.1]) ?_
        have e1 : IntKind.wrap .i64 ((n : Int) - (half n : Int)) = ((n - half n : Nat) : Int) := by rw [w64 (by omega) (by omega)]; omega
        rw [e1]
        refine r_callR (c_load hs hpb hv f (n - half n) kb _ w7 _ (by omega) (by omega) k1 (by rw [List.length_append]; omega) hL) ?_
        rintro v w8 ⟨rfl, hL⟩
        refine ⟨_, rfl, ?_⟩
        exact r_retR ⟨rfl, by rw [← List.append_assoc]; exact hL.drop⟩
    · rw [if_pos hm, if_neg h0', if_neg h1', if_neg hn2]
      refine ⟨(_, _, 8), rfl, ?_⟩
      have hL : LS w0 w2 bl b12 p zero32 X ([(b5, (u8s k).toArray, ty_impl_Key)] ++ rest) := ⟨rs, so, Lb, Ld, g1, g2, g3, g4, h⟩
      refine r_newLS hL fun b13 w3 hL => ?_
      refine r_newLS hL fun b14 w4 hL => ?_
      have hL : LS w0 w4 bl b12 p zero32 X ([(b14, Array.replicate 32 (.int .u8 0), ty_impl_Key), (b13, Array.replicate 32 (.int .u8 0), ty_impl_Key), (b5, (u8s k).toArray, ty_impl_Key)] ++ rest) := hL
      refine r_stLS 1 hL rfl (by simp) (by simp) (by simp [oneC]) fun w5 hL => ?_
      refine r_stLS 0 hL rfl (by simp) (by simp) (by simp [oneC]) fun w6 hL => ?_
      refine r_true rfl ?_
      exact r_retR ⟨rfl, by rw [List.append_nil]; exact hL.drop⟩)

theorem ownSS_of {w0 w : World} {rs : List SR} {so : Sl} {Lb Ld ls : List Blk} {X : List (List Int)} (h1 : rs.map SR.data = X) (hO : OwnS ty_sl_uint8 1 so (rs.flatMap SR.cells) Lb) (hD : OwnSD rs Ld) (hX : ∀ x ∈ X, bytesOk x) : OwnByteSS so X (Lb ++ Ld) := ⟨rs, h1, ⟨Lb, Ld, rfl, hO, hD⟩, hX⟩
end Go.Proofs.YtffedfdhhglmkaaGreat

namespace Go.Proofs.YtffedfdhhglmkaaGreat
open Go.Sx Go.RowKit

def lvC (p : Addr) (so : Sl) (miss : List Int) (code : Int) : Array Value := (Value.pointer (some p) :: Value.slice so.a so.n so.c :: (u8s miss ++ [Value.int .i64 code])).toArray
theorem lvC_list (p : Addr) (so : Sl) (miss : List Int) (code : Int) : (lvC p so miss code).toList = Value.pointer (some p) :: Value.slice so.a so.n so.c :: (u8s miss ++ [Value.int .i64 code]) := rfl
theorem lvC_size {p : Addr} {so : Sl} {miss : List Int} {code : Int} (h : keyOk miss) : (lvC p so miss code).size = 35 := by simp [lvC, h.1]
theorem lv_code {p : Addr} {so : Sl} {miss : List Int} {code : Int} (h : keyOk miss) : (lvC p so miss code)[34]? = some (.int .i64 code) := by
  unfold lvC
  rw [List.getElem?_toArray]
  show (u8s miss ++ [Value.int .i64 code])[32]? = _
  have e : (u8s miss).length = 32 := by rw [u8s_len]; exact h.1
  rw [List.getElem?_append_right (by omega), e]
  rfl
theorem lv_setM {p : Addr} {so : Sl} {miss k : List Int} {code : Int} (h : keyOk miss) : ((lvC p so miss code).toList.take 2 ++ (u8s k).toArray.toList ++ (lvC p so miss code).toList.drop (2 + 32)).toArray = lvC p so k code := by
  have e : (u8s miss).length = 32 := by rw [u8s_len]; exact h.1
  have hd : (lvC p so miss code).toList.drop (2 + 32) = [Value.int .i64 code] := by
    rw [lvC_list]
    show (u8s miss ++ [Value.int .i64 code]).drop 32 = _
    rw [List.drop_append, List.drop_eq_nil_of_le (by omega), e]
    rfl
  rw [hd]
  rfl
theorem lv_setC {p : Addr} {so : Sl} {miss : List Int} {code c : Int} (h : keyOk miss) : (lvC p so miss code).setIfInBounds 34 (.int .i64 c) = lvC p so miss c := by
  have e : (u8s miss).length = 32 := by rw [u8s_len]; exact h.1
  apply Array.ext'
  rw [Array.toList_setIfInBounds, lvC_list, lvC_list]
  show Value.pointer (some p) :: Value.slice so.a so.n so.c :: (u8s miss ++ [Value.int .i64 code]).set 32 _ = _
  rw [List.set_append_right _ _ (by omega), e]
  rfl
theorem lv_miss {p : Addr} {so : Sl} {miss : List Int} {code : Int} (h : keyOk miss) : (lvC p so miss code).extract 2 (2 + 32) = (u8s miss).toArray := by
  have e : (u8s miss).length = 32 := by rw [u8s_len]; exact h.1
  apply Array.ext'
  unfold lvC
  rw [List.extract_toArray]
  show ((u8s miss ++ [Value.int .i64 code]).drop 0).take (2 + 32 - 2) = _
  rw [List.drop_zero, List.take_append_of_le_length (by omega), List.take_of_length_le (by omega)]
theorem run_mkLeaves (p : Addr) (s : Sl) (w : World) : (Instr.build ty_spec_l05Leaves #[(0, (.pointer (some p))), (1, (.slice s.a s.n s.c))]).run Tryz.prog w = .ok (.agg (lvC p s zero32 0)) w := by kernel_rfl

/-- The state of the reference's walk. -/
def LV (w0 w : World) (bl : Nat) (p : Addr) (X : List (List Int)) (miss : List Int) (code : Int) (rest : List Blk) : Prop :=
  ∃ (rs : List SR) (so : Sl) (Lb Ld : List Blk), rs.map SR.data = X ∧ so.n = rs.length ∧ OwnS ty_sl_uint8 1 so (rs.flatMap SR.cells) Lb ∧ OwnSD rs Ld ∧ keyOk miss ∧ At w0 w ([(bl, lvC p so miss code, ty_spec_l05Leaves)] ++ (Lb ++ (Ld ++ rest)))
theorem LV.drop {w0 w : World} {bl : Nat} {p : Addr} {X : List (List Int)} {miss : List Int} {code : Int} {G rest : List Blk} (h : LV w0 w bl p X miss code (G ++ rest)) : LV w0 w bl p X miss code rest := by
  obtain ⟨rs, so, Lb, Ld, h1, h2, h3, h4, h5, h6⟩ := h
  exact ⟨rs, so, Lb, Ld, h1, h2, h3, h4, h5, h6.dr3⟩
theorem LV.trans {w0 w w' : World} {bl : Nat} {p : Addr} {X : List (List Int)} {miss : List Int} {code : Int} {rest : List Blk} (h : LV w0 w bl p X miss code rest) (hb : Below w.heap.size w w') : LV w0 w' bl p X miss code rest := by
  obtain ⟨rs, so, Lb, Ld, h1, h2, h3, h4, h5, h6⟩ := h
  exact ⟨rs, so, Lb, Ld, h1, h2, h3, h4, h5, h6.trans hb⟩
theorem LV.at_ {w0 w : World} {bl : Nat} {p : Addr} {X : List (List Int)} {miss : List Int} {code : Int} {rest : List Blk} (h : LV w0 w bl p X miss code rest) : At w0 w rest := by
  obtain ⟨rs, so, Lb, Ld, h1, h2, h3, h4, h5, h6⟩ := h
  exact h6.right.right.right
theorem r_setC {P : Program} {R : Value → World → Prop} {w0 w : World} {bl : Nat} {p : Addr} {X : List (List Int)} {miss : List Int} {code c : Int} {rest : List Blk} {k : World → Prop} (h : LV w0 w bl p X miss code rest) (hk : ∀ w', LV w0 w' bl p X miss c rest → k w') : ((real P R).st 1 ((⟨bl, 0, none⟩ : Addr).add 34) (.int .i64 c) k : World → Prop) w := by
  obtain ⟨rs, so, Lb, Ld, h1, h2, h3, h4, h5, h6⟩ := h
  refine r_st h6 0 (o := 34) rfl (add_lit _ _ _) (by rw [lvC_size h5]; omega) rfl fun w' h => hk w' ⟨rs, so, Lb, Ld, h1, h2, h3, h4, h5, ?_⟩
  rw [lv_setC h5] at h
  exact h

theorem good_bytes {w : World} {p : Addr} {B : List PB} {bs : List BR} (hs : SpecR w p (keysOf B) bs) (hpb : bs.map BR.pb = B) : ∀ b ∈ B, bytesOk b.data := fun b hb => by
  rw [← hpb] at hb
  obtain ⟨y, hy, rfl⟩ := List.mem_map.1 hb
  obtain ⟨sk, sb, _, _, _, hBs⟩ := hs.ex
  exact (hBs.ok y hy).bytes.ok

/-- What the walk makes of its state. -/
def afterL (B : List PB) (f : Nat) (k : List Int) (n : Nat) (s : List (List Int) × List Int × Int) : List (List Int) × List Int × Int := if s.2.2 = 0 then (s.1 ++ (loadGo B f k n).1, (loadGo B f k n).2) else s

theorem c_tree {w0 : World} {bl : Nat} {p : Addr} {B : List PB} {bs : List BR} (hs : SpecR w0 p (keysOf B) bs) (hpb : bs.map BR.pb = B) (hv : validS B) : ∀ (f n : Nat) (k : List Int) (X : List (List Int)) (miss : List Int) (code : Int) (w : World) (rest : List Blk), n < f → n ≤ 256 → keyOk k → X.length + n ≤ 1000 → (code = 0 → miss = zero32) → LV w0 w bl p X miss code rest →
    Calls Tryz.prog n_ptr_spec_l05Leaves_tree [.pointer (some ⟨bl, 0, none⟩), .agg (u8s k).toArray, .int .i64 (n : Int)].toArray w fun e w' => ∃ v, e = .returned v ∧ v = .tuple #[] ∧ LV w0 w' bl p (afterL B f k n (X, miss, code)).1 (afterL B f k n (X, miss, code)).2.1 (afterL B f k n (X, miss, code)).2.2 rest
  | 0, n, _, _, _, _, _, _, hf, _, _, _, _, _ => by omega
  | f + 1, n, k, X, miss, code, w, rest, hf, hn, hk, hX, hmc, hL => ptr_spec_l05Leaves_tree_calls _ _ _ (by
    unfold ptr_spec_l05Leaves_tree
    have hB128 : B.length ≤ 128 := hv.1
    have hkl : (keysOf B).length = B.length := keysOf_len B
    have hasc : Asc (keysOf B) := hv.2.2
    have hbl : bs.length = B.length := by rw [← hpb]; simp
    obtain ⟨sk, sb, e1, e2, hK, hBs⟩ := hs.ex
    have hsbn := hBs.n
    obtain ⟨rs, so, Lb, Ld, g1, g2, g3, g4, g5, h⟩ := hL
    refine r_new h fun b4 w1 h => ?_
    have h : At w0 w1 ([(bl, lvC p so miss code, ty_spec_l05Leaves)] ++ (Lb ++ (Ld ++ ([(b4, (u8s k).toArray, ty_impl_Key)] ++ rest)))) := At.ps3 (V := [_]) (G3 := [_]) h
    refine r_ld h 0 rfl (add_lit _ _ _) code (by simp [Sh.emb]) (by rw [Nat.zero_add]; exact lv_code g5) ?_
    refine r_ne (fun hne => ?_) (fun hc0 => ?_)
    · have ha : afterL B (f + 1) k n (X, miss, code) = (X, miss, code) := if_neg hne
      rw [ha]
      exact r_retR ⟨rfl, LV.drop (G := [_]) ⟨rs, so, Lb, Ld, g1, g2, g3, g4, g5, h⟩⟩
    · subst hc0
      have hm0 := hmc rfl
      subst hm0
      have ha : afterL B (f + 1) k n (X, zero32, 0) = (X ++ (loadGo B (f + 1) k n).1, (loadGo B (f + 1) k n).2) := if_pos rfl
      rw [ha, loadGo_succ]
      refine r_join (σ := Int) (fun s w' => s = (if k ∈ keysOf B then (posK (keysOf B) k : Int) else -1) ∧ At w0 w' ([(bl, lvC p so zero32 0, ty_spec_l05Leaves)] ++ (Lb ++ (Ld ++ ([(b4, (u8s k).toArray, ty_impl_Key)] ++ rest))))) (fun s w2 hJ => ?_) ?_
      · obtain ⟨rfl, h⟩ := hJ
        refine r_any fun _ => ?_
        by_cases hm : k ∈ keysOf B
        · rw [if_pos hm, if_pos hm]
          have hpos := (posK_mem hasc).1 hm
          have hplt := (List.getElem?_eq_some_iff.1 hpos).1
          refine r_if ((posK (keysOf B) k : Int) < 0) rfl (fun hh => by omega) (fun _ => ?_)
          refine r_ld h 0 rfl (add_lit _ _ _) p (by simp [Sh.emb]) rfl ?_
          refine r_ldN sb (ldOk_below h.below (e2 1)) ?_
          obtain ⟨bb, pb, hbb, hbm, hpb', hbat, _⟩ := hBs.bat (i := posK (keysOf B) k) (by omega)
          have hBb := pb_get hpb hbb
          have hbe : blobAt B k = bb.pb := by unfold blobAt; simp [List.getD, hBb]
          have hpt : bb.pb.tag = bb.tag := rfl
          have hpd : bb.pb.data = bb.data := rfl
          have hdb : bb.data.length ≤ 1024 := hv.2.1 bb.pb (List.mem_of_getElem? hBb)
          have hdn := hbat.ok.bytes.n
          rw [hbe, hpt, hpd]
          refine r_ix pb hpb' (by omega) (by omega) ?_
          simp only [Int.toNat_natCast]
          have lt : ∀ {w' : World} {ls : List Blk}, At w0 w' ls → ldOk w' 1 ((pb.add (posK (keysOf B) k * 2)).add 0) (.int .u8) bb.tag := fun h => ldOk_below h.below (hbat.tag 1)
          have ld : ∀ {w' : World} {ls : List Blk}, At w0 w' ls → ldOk w' 1 ((pb.add (posK (keysOf B) k * 2)).add 1) .slice bb.d := fun h => ldOk_below h.below (hbat.d 1)
          refine r_join (σ := Int) (fun s w' => s = (if n = 0 then 3 else if n = 1 then 1 else 2) ∧ At w0 w' ([(bl, lvC p so zero32 0, ty_spec_l05Leaves)] ++ (Lb ++ (Ld ++ ([(b4, (u8s k).toArray, ty_impl_Key)] ++ rest))))) (fun s w3 hJ => ?_) ?_
          · obtain ⟨rfl, h⟩ := hJ
            refine r_any fun _ => ?_
            have bad_ : ∀ {w' : World}, At w0 w' ([(bl, lvC p so zero32 0, ty_spec_l05Leaves)] ++ (Lb ++ (Ld ++ ([(b4, (u8s k).toArray, ty_impl_Key)] ++ rest)))) → ∀ {Q : List (List Int) × List Int × Int}, Q = ([], zero32, 8) →
                ((real Tryz.prog (fun v w' => v = .tuple #[] ∧ LV w0 w' bl p (X ++ Q.1) Q.2.1 Q.2.2 rest)).st 1 ((⟨bl, 0, none⟩ : Addr).add 34) (.int .i64 8) <| (real Tryz.prog (fun v w' => v = .tuple #[] ∧ LV w0 w' bl p (X ++ Q.1) Q.2.1 Q.2.2 rest)).ret (.tuple #[]) : World → Prop) w' := fun {w'} h {Q} hQ => by
              subst hQ
              refine r_setC (code := 0) ⟨rs, so, Lb, Ld, g1, g2, g3, g4, zero32_ok, h⟩ fun w5 hL => ?_
              exact r_retR ⟨rfl, by rw [List.append_nil]; exact LV.drop (G := [_]) hL⟩
            refine r_join (σ := Unit) (fun _ w' => (bb.tag = (if n = 0 then 3 else if n = 1 then 1 else 2) ∧ (n = 0 → bb.data.length = 0) ∧ (1 < n → bb.data.length = 64)) ∧ At w0 w' ([(bl, lvC p so zero32 0, ty_spec_l05Leaves)] ++ (Lb ++ (Ld ++ ([(b4, (u8s k).toArray, ty_impl_Key)] ++ rest))))) (fun _ w4 hJ => ?_) ?_
            · obtain ⟨⟨htag, hl0, hl2⟩, h⟩ := hJ
              refine r_any fun _ => ?_
              refine r_joinI ?_
              refine r_eq (fun h1 => ?_) (fun h1 => ?_)
              · have h1' : n = 1 := by omega
                subst h1'
                rw [if_neg (by decide), if_pos rfl] at htag
                rw [if_neg (by decide), if_pos rfl, if_pos htag]
                have hrl : rs.length = X.length := by rw [← g1]; simp
                refine r_draw h fun w5 h => ?_
                have ls_ : ∀ {w' : World} {V M : List Blk}, At w0 w' (V ++ ([(bl, lvC p so zero32 0, ty_spec_l05Leaves)] ++ M)) → ldOk w' 1 ((⟨bl, 0, none⟩ : Addr).add 1) .slice so := fun h => ldOk_own h.pl1 0 rfl 1 rfl (by simp [Sh.emb])
                refine r_ldN (sh := .slice) so (ls_ (V := []) h) ?_
                refine r_ldN bb.d (ld h) ?_
                refine r_bs0 T_sl_uint8' h fun y85 w6 hy1 hyn1 => ?_
                refine r_chk2 ?_ ?_ ?_
                · exact ld hy1.at_
                · exact ls_ (V := []) hy1.at_
                refine r_append T_sl_uint8' hy1 (hbat.ok.bytes.sl.below hy1.at_.below) u8s_one (by omega) (by omega) fun y90 w7 hS90 hn90 => ?_
                obtain ⟨Lr, hOr, h⟩ := hS90.split
                refine r_chk1 ?_ ?_
                · exact ls_ h
                refine r_bs1 T_sl_slu8 h (v := .slice y90.a y90.n y90.c) (by simp [Value.cells]) (by omega) fun y91 w8 hy hyn => ?_
                obtain ⟨Ly, hOy, h⟩ := hy.split
                refine r_chk1 ?_ ?_
                · have h' : At w0 w8 ((Ly ++ Lr) ++ ([(bl, lvC p so zero32 0, ty_spec_l05Leaves)] ++ (Lb ++ (Ld ++ ([(b4, (u8s k).toArray, ty_impl_Key)] ++ rest))))) := by rw [List.append_assoc]; exact h
                  exact ls_ h'
                refine r_append T_sl_slu8 (g3.slo h.pl3) (hOy.sl h (List.sublist_append_left _ _)) (by simp [Value.cells, oneC]) (by omega) (by omega) fun y92 w9 hS92 hn92 => ?_
                obtain ⟨Lb', hO', h⟩ := hS92.split
                have h := (h.dr1.pl2.pl3).ps2
                refine r_st h 0 (o := 1) rfl (add_lit _ _ _) (by rw [lvC_size zero32_ok]; omega) rfl fun w10 h => ?_
                have h : At w0 w10 ([(bl, lvC p y92 zero32 0, ty_spec_l05Leaves)] ++ (Lb' ++ (Ld ++ (Lr ++ ([(b4, (u8s k).toArray, ty_impl_Key)] ++ rest))))) := h
                refine ⟨(), rfl, r_any fun _ => ?_⟩
                refine r_if (((1 : Nat) : Int) > 1) rfl (fun hh => by omega) (fun _ => ?_)
                refine r_retR ⟨rfl, LV.drop (G := [(b4, (u8s k).toArray, ty_impl_Key)]) ⟨rs ++ [⟨y90, bb.data⟩], y92, Lb', Ld ++ Lr, by rw [List.map_append, g1]; rfl, by rw [List.length_append]; simp only [List.length_cons, List.length_nil]; omega, by simpa [Value.cells, SR.cells, List.flatMap_append] using hO', g4.snoc (by simpa using hOr), zero32_ok, ?_⟩⟩
                rw [List.append_assoc]
                exact h
              · have h1' : ¬ n = 1 := by omega
                refine ⟨(), rfl, r_any fun _ => ?_⟩
                refine r_if ((n : Int) > 1) rfl (fun hgt => ?_) (fun hle => ?_)
                · have h0' : ¬ n = 0 := by omega
                  have h64 := hl2 (by omega)
                  rw [if_neg h0', if_neg h1'] at htag
                  rw [if_neg h0', if_neg h1', if_pos ⟨htag, h64⟩]
                  have hbk := hbat.ok.bytes.ok
                  have k0 : keyOk (part32 bb.data 0) := part32_key (by omega) hbk
                  have k1 : keyOk (part32 bb.data 32) := part32_key (by omega) hbk
                  have hh := half_lt (n := n) (by omega)
                  refine r_ldN bb.d (ld h) ?_
                  refine r_call h (c_l05Keys (hbat.ok.bytes.at h) 0 2 (by omega) (by omega)) fun r101 w5 _ _ ⟨hS, hn101⟩ => ?_
                  have hkn : keysN bb.data 0 2 = [part32 bb.data 0, part32 bb.data 32] := rfl
                  rw [hkn] at hS
                  have hn101' : r101.n = 2 := hn101
                  obtain ⟨Lr, hOr, h⟩ := SlO.own_of h hS
                  generalize part32 bb.data 0 = ka at k0 hOr ⊢
                  generalize part32 bb.data 32 = kb at k1 hOr ⊢
                  have hrk : ∀ x ∈ [ka, kb], keyOk x := fun x hx => by
                    simp only [List.mem_cons, List.not_mem_nil, or_false] at hx
                    rcases hx with rfl | rfl
                    · exact k0
                    · exact k1
                  obtain ⟨pr, hpr⟩ := hOr.addr (by omega)
                  have q0 : ∀ {w' : World} {V : List Blk}, At w0 w' (Lr ++ V) → ldOk w' 32 (pr.add (0 * 32)) .agg (u8s ka).toArray := fun {w' V} h => by
                    obtain ⟨x, q, hx, _, hq, _, hc⟩ := (ownS_ks hOr h (List.sublist_append_left _ _) hrk).get (i := 0) (by simp)
                    cases hx
                    rw [hpr] at hq
                    cases hq
                    exact hc
                  have q1 : ∀ {w' : World} {V : List Blk}, At w0 w' (Lr ++ V) → ldOk w' 32 (pr.add (1 * 32)) .agg (u8s kb).toArray := fun {w' V} h => by
                    obtain ⟨x, q, hx, _, hq, _, hc⟩ := (ownS_ks hOr h (List.sublist_append_left _ _) hrk).get (i := 1) (by simp)
                    cases hx
                    rw [hpr] at hq
                    cases hq
                    exact hc
                  refine r_callp (c_l03Half n (by omega) (by omega)) ?_
                  have hL : LV w0 w5 bl p X zero32 0 (Lr ++ ([(b4, (u8s k).toArray, ty_impl_Key)] ++ rest)) := ⟨rs, so, Lb, Ld, g1, g2, g3, g4, zero32_ok, At.ps3 (V := [_]) h⟩
                  have hg0 := (loadGo_ok hv (fun b hb => (good_bytes hs hpb b hb)) f ka (half n) k0).many
                  refine r_ix pr hpr (by omega) (by omega) ?_
                  refine r_ldN (u8s ka).toArray (q0 hL.at_) ?_
                  refine r_callR (c_tree hs hpb hv f (half n) ka X zero32 0 w5 _ (by omega) (by omega) k0 (by omega) (fun _ => rfl) hL) ?_
                  rintro v w6 ⟨rfl, hL⟩
                  refine ⟨(), rfl, ?_⟩
                  have ha1 : afterL B f ka (half n) (X, zero32, 0) = (X ++ (loadGo B f ka (half n)).1, (loadGo B f ka (half n)).2) := if_pos rfl
                  rw [ha1] at hL
                  refine r_ix pr hpr (by omega) (by omega) ?_
                  refine r_ldN (u8s kb).toArray (q1 hL.at_) ?_
                  have e1 : IntKind.wrap .i64 ((n : Int) - (half n : Int)) = ((n - half n : Nat) : Int) := by rw [w64 (by omega) (by omega)]; omega
                  rw [e1]
                  refine r_callR (c_tree hs hpb hv f (n - half n) kb _ _ _ w6 _ (by omega) (by omega) k1 (by rw [List.length_append]; omega) loadGo_zero hL) ?_
                  rintro v w7 ⟨rfl, hL⟩
                  refine ⟨(), rfl, ?_⟩
                  refine r_retR ⟨rfl, ?_⟩
                  have hL := LV.drop (G := Lr ++ [(b4, (u8s k).toArray, ty_impl_Key)]) (by rw [List.append_assoc]; exact hL)
                  unfold afterL at hL
                  dsimp only at hL
                  split at hL
                  · rename_i hz
                    rw [if_pos hz]
                    dsimp only at hL ⊢
                    rw [← List.append_assoc]
                    exact hL
                  · rename_i hz
                    rw [if_neg hz]
                    exact hL
                · have h0' : n = 0 := by omega
                  rw [if_pos h0'] at htag
                  rw [if_pos h0', if_pos ⟨htag, hl0 h0'⟩]
                  exact r_retR ⟨rfl, by rw [List.append_nil]; exact LV.drop (G := [_]) ⟨rs, so, Lb, Ld, g1, g2, g3, g4, zero32_ok, h⟩⟩
            · refine r_ldN (sh := .int .u8) bb.tag (lt h) ?_
              refine r_ne (fun hne => ?_) (fun heq => ?_)
              · refine bad_ h ?_
                by_cases h0 : n = 0
                · rw [if_pos h0] at hne
                  rw [if_pos h0, if_neg (fun hh => hne hh.1)]
                by_cases h1 : n = 1
                · rw [if_neg h0, if_pos h1] at hne
                  rw [if_neg h0, if_pos h1, if_neg hne]
                · rw [if_neg h0, if_neg h1] at hne
                  rw [if_neg h0, if_neg h1, if_neg (fun hh => hne hh.1)]
              refine r_eq (fun h0 => ?_) (fun h0 => ?_)
              · have h0' : n = 0 := by omega
                refine r_ldN bb.d (ld h) ?_
                refine r_ne (fun hne => ?_) (fun heq2 => ?_)
                · refine bad_ h ?_
                  rw [if_pos h0', if_neg (fun hh => hne (by rw [hdn, hh.2]; rfl))]
                · refine r_if ((n : Int) > 1) rfl (fun hh => by omega) (fun _ => ?_)
                  exact ⟨(), rfl, ⟨heq, fun _ => by omega, fun hh => by omega⟩, h⟩
              · refine r_if ((n : Int) > 1) rfl (fun hgt => ?_) (fun hle => ?_)
                · refine r_ldN bb.d (ld h) ?_
                  refine r_ne (fun hne => ?_) (fun heq2 => ?_)
                  · refine bad_ h ?_
                    rw [if_neg (show ¬ n = 0 by omega), if_neg (show ¬ n = 1 by omega), if_neg (fun hh => hne (by rw [hdn, hh.2]; rfl))]
                  · exact ⟨(), rfl, ⟨heq, fun hh => by omega, fun _ => by omega⟩, h⟩
                · exact ⟨(), rfl, ⟨heq, fun hh => by omega, fun hh => by omega⟩, h⟩
          · refine r_eq (fun h0 => ?_) (fun h0 => ?_)
            · exact ⟨3, rfl, by rw [if_pos (by omega)], h⟩
            refine r_eq (fun h1 => ?_) (fun h1 => ?_)
            · exact ⟨1, rfl, by rw [if_neg (by omega), if_pos (by omega)], h⟩
            · exact ⟨2, rfl, by rw [if_neg (by omega), if_neg (by omega)], h⟩
        · rw [if_neg hm, if_neg hm]
          refine r_true (by decide) ?_
          refine r_ldA h.pl3 0 rfl rfl (by simp [hk.1]) ?_
          refine r_stP h 0 (o := 2) rfl (add_lit _ _ _) (by simp [hk.1]) (by rw [lvC_size g5]; omega) (by simpa using u8s_one) fun w3 h => ?_
          rw [lv_setM g5] at h
          refine r_setC (code := 0) ⟨rs, so, Lb, Ld, g1, g2, g3, g4, hk, h⟩ fun w4 hL => ?_
          exact r_retR ⟨rfl, by rw [List.append_nil]; exact LV.drop (G := [_]) hL⟩
      · refine r_draw h fun w2 h => ?_
        refine r_ld h 0 rfl (add_lit _ _ _) p (by simp [Sh.emb]) rfl ?_
        refine r_ldA h.pl3 0 rfl rfl (by simp [hk.1]) ?_
        refine r_call h (c_spec_find (hs.at h) hasc hk (by omega)) fun r21 w3 h _ hr => ?_
        subst hr
        exact ⟨_, rfl, rfl, h⟩)
end Go.Proofs.YtffedfdhhglmkaaGreat

namespace Go.Proofs.YtffedfdhhglmkaaGreat
open Go.Sx Go.RowKit

theorem run_nolist (w : World) : True := trivial

theorem c_impl_LoadList {w : World} {r a : Array Value} {B : List PB} {k : List Int} {n : Int} (hr : RdStore w r B) (ha : RdKey w a k) (hz : sizeBs B ≤ 1073741824) :
    Ret Tryz.prog n_impl_LoadList [.agg r, .agg a, .int .i64 n] w [.slice, .agg, .int .i64] (fun x w' => ∃ L, At w w' L ∧ OwnByteSS x.1 (loadAns B k n).1 L ∧ RdKey w x.2.1 (loadAns B k n).2.1 ∧ x.2.2 = (loadAns B k n).2.2) := impl_LoadList_calls _ _ _ (by
  unfold impl_LoadList
  obtain ⟨s, bs, rfl, hpb, hs⟩ := hr
  obtain ⟨rfl, hk⟩ := ha
  have hl := le_sizeBs B
  have hbl : bs.length = B.length := by rw [← hpb]; simp
  refine r_new (At.refl w) fun b3 w1 h => ?_
  refine r_new h fun b4 w2 h => ?_
  refine r_new h fun b7 w3 h => ?_
  have h : At w w3 [(b7, Array.replicate 32 (.int .u8 0), ty_impl_Key), (b4, (u8s k).toArray, ty_impl_Key), (b3, #[.slice s.a s.n s.c], ty_impl_Store)] := h
  refine r_ldA h 2 rfl rfl rfl ?_
  refine r_call h (c_newShop (hs.at h) (by omega)) fun r16 w4 h4 _ hr => ?_
  rw [hpb] at hr
  have bad_ : ∀ {c : Int}, loadAns B k n = ([], zero32, c) → ((real Tryz.prog (RR w [.slice, .agg, .int .i64] (fun x w' => ∃ L, At w w' L ∧ OwnByteSS x.1 (loadAns B k n).1 L ∧ RdKey w x.2.1 (loadAns B k n).2.1 ∧ x.2.2 = (loadAns B k n).2.2))).st 32 ⟨b7, 0, none⟩ (.agg (Array.replicate 32 (.int .u8 0))) <| (real Tryz.prog (RR w [.slice, .agg, .int .i64] (fun x w' => ∃ L, At w w' L ∧ OwnByteSS x.1 (loadAns B k n).1 L ∧ RdKey w x.2.1 (loadAns B k n).2.1 ∧ x.2.2 = (loadAns B k n).2.2))).ld .agg 32 ⟨b7, 0, none⟩ fun z6 => (real Tryz.prog (RR w [.slice, .agg, .int .i64] (fun x w' => ∃ L, At w w' L ∧ OwnByteSS x.1 (loadAns B k n).1 L ∧ RdKey w x.2.1 (loadAns B k n).2.1 ∧ x.2.2 = (loadAns B k n).2.2))).ret (.tuple #[.slice none 0 0, .agg z6, .int .i64 c]) : World → Prop) w4 := fun {c} hc => by
    rw [hc]
    refine r_stA h4 0 rfl rfl (by simp) (by simp) (by simp [oneC]) fun w5 h => ?_
    refine r_ldA h 0 rfl rfl (by simp) ?_
    exact r_ret h.nil (⟨none, 0, 0⟩, _, c) rfl ⟨[], h.nil, OwnByteSS.none, ⟨rfl, zero32_ok⟩, rfl⟩
  rcases hr with ⟨hv, b, L, rfl, hL, hO⟩ | ⟨hv, rfl⟩
  · refine r_false rfl ?_
    refine r_callp (c_within n 0 256) ?_
    by_cases hnn : n ≥ 0 ∧ n ≤ 256
    · refine r_false (by rw [decide_eq_true hnn]; rfl) ?_
      obtain ⟨N, rfl⟩ : ∃ N : Nat, n = N := ⟨n.toNat, by omega⟩
      have hans : loadAns B k N = if (loadGo B (N + 1) k N).2.2 = 0 then ((loadGo B (N + 1) k N).1, zero32, 0) else ([], (loadGo B (N + 1) k N).2) := by unfold loadAns; rw [if_pos hv, if_pos hnn]; simp only [Int.toNat_natCast]
      have h : At w w4 ([(b7, Array.replicate 32 (.int .u8 0), ty_impl_Key), (b4, (u8s k).toArray, ty_impl_Key), (b3, #[.slice s.a s.n s.c], ty_impl_Store)] ++ (L ++ [])) := by rw [List.append_nil]; exact (h.join hL).swap
      have hs4 : ShopR w4 ⟨b, 0, none⟩ (keysOf B) bs := hO.rd h.pl1 (keysOf_ok _) (fun b hb => (hs.at h.nil).ok b hb)
      have hgo := loadGo_ok hv (bytes_of' hs4 hpb) (N + 1) k N hk
      refine r_pur (sh := .agg) _ (run_mkLister ⟨b, 0, none⟩) ?_
      refine r_new (At.refl w4) fun b30 w5 h0 => ?_
      refine r_bs0 T_sl_slu8 h0 fun y31 w6 hy hyn => ?_
      obtain ⟨Lb, hOb, h0⟩ := hy.split
      refine r_new h0 fun b12 w7 h0 => ?_
      refine r_st h0 0 (o := 0) rfl rfl (by simp [Value.cells]) rfl fun w8 h0 => ?_
      have h0 : At w4 w8 ([(b12, #[.slice y31.a y31.n y31.c], ty_sl_sl_uint8)] ++ (Lb ++ ([(b30, lsrC ⟨b, 0, none⟩ zero32, ty_impl_lister)] ++ []))) := h0
      have hLS : LS w4 w8 b30 b12 ⟨b, 0, none⟩ zero32 [] [] := ⟨[], y31, Lb, [], rfl, hyn, by simpa using hOb, .nil, h0.pl2⟩
      refine r_ldN (u8s k).toArray (ldOk_below h0.below (ldOk_blk h 1 rfl (by simp [hk.1]))) ?_
      refine r_callR (c_load hs4 hpb hv (N + 1) N k [] w8 [] (by omega) (by omega) hk (by simp; omega) hLS) ?_
      rintro v w9 ⟨rfl, hLS⟩
      refine ⟨_, rfl, ?_⟩
      rw [hans]
      generalize loadGo B (N + 1) k N = R at hgo hLS
      obtain ⟨rs, so, Lb, Ld, g1, g2, g3, g4, h0⟩ := hLS
      rw [List.nil_append] at g1
      have h := h.join h0
      refine r_ne (fun hne => ?_) (fun heq => ?_)
      · rw [if_neg hne]
        refine r_draw h fun w10 h => ?_
        refine r_ldP h 0 rfl (add_lit _ _ _) (by rw [lsrC_size hgo.want]; omega) ?_
        rw [show (0 + 1 : Nat) = 1 from rfl, lsr_want hgo.want]
        refine r_stA h.swap 0 rfl rfl (by simp [hgo.want.1]) (by simp) (by simpa using u8s_one) fun w11 h => ?_
        refine r_ldA h 0 rfl rfl (by simp [hgo.want.1]) ?_
        exact r_ret h.nil (⟨none, 0, 0⟩, _, _) rfl ⟨[], h.nil, OwnByteSS.none, ⟨rfl, hgo.want⟩, rfl⟩
      · rw [if_pos heq]
        refine r_ld h 1 rfl rfl so (by simp [Sh.emb]) rfl ?_
        refine r_stA h.swap 0 rfl rfl (by simp) (by simp) (by simp [oneC]) fun w11 h => ?_
        refine r_ldA h 0 rfl rfl (by simp) ?_
        refine r_ret h.nil (so, _, (0 : Int)) rfl ⟨Lb ++ Ld, ?_, ownSS_of (w0 := w) (w := w) (ls := []) g1 g3 g4 (fun x hx => (hgo.data x hx).1), ⟨rfl, zero32_ok⟩, rfl⟩
        have h : At w w11 ([(b7, (Array.replicate 32 (Value.int .u8 0)), ty_impl_Key), (b4, (u8s k).toArray, ty_impl_Key), (b3, #[.slice s.a s.n s.c], ty_impl_Store)] ++ ((L ++ []) ++ ([(b30, lsrC ⟨b, 0, none⟩ R.2.1, ty_impl_lister), (b12, #[.slice so.a so.n so.c], ty_sl_sl_uint8)] ++ (Lb ++ (Ld ++ []))))) := h
        have h := At.right (A := [_, _]) h.right.right
        simpa using h
    · refine r_true (by rw [decide_eq_false hnn]; rfl) ?_
      exact bad_ (by unfold loadAns; rw [if_pos hv, if_neg hnn])
  · refine r_true rfl ?_
    exact bad_ (by unfold loadAns; rw [if_neg hv]))

theorem c_spec_LoadList {w : World} {r a : Array Value} {B : List PB} {k : List Int} {n : Int} (hr : RdStore w r B) (ha : RdKey w a k) (hz : sizeBs B ≤ 1073741824) :
    Ret Tryz.prog n_spec_LoadList [.agg r, .agg a, .int .i64 n] w [.slice, .agg, .int .i64] (fun x w' => ∃ L, At w w' L ∧ OwnByteSS x.1 (loadAns B k n).1 L ∧ RdKey w x.2.1 (loadAns B k n).2.1 ∧ x.2.2 = (loadAns B k n).2.2) := spec_LoadList_calls _ _ _ (by
  unfold spec_LoadList
  obtain ⟨s, bs, rfl, hpb, hs⟩ := hr
  obtain ⟨rfl, hk⟩ := ha
  have hl := le_sizeBs B
  have hbl : bs.length = B.length := by rw [← hpb]; simp
  refine r_new (At.refl w) fun b3 w1 h => ?_
  refine r_new h fun b4 w2 h => ?_
  refine r_new h fun b7 w3 h => ?_
  have h : At w w3 [(b7, Array.replicate 32 (.int .u8 0), ty_impl_Key), (b4, (u8s k).toArray, ty_impl_Key), (b3, #[.slice s.a s.n s.c], ty_impl_Store)] := h
  refine r_call h (c_l05Open (p := ⟨b3, 0, none⟩) (fun n => ldOk_own h 2 rfl 0 rfl (by simp [Sh.emb])) (hs.at h.nil)) fun r13 w4 h4 _ ⟨hr2, b, hr1, hr⟩ => ?_
  rw [hpb] at hr hr2
  have nil_ : ∀ {w' : World} {y : Sl} {Ly : List Blk}, OwnS ty_sl_uint8 1 y [] Ly → OwnByteSS y [] Ly := fun hO => ⟨[], rfl, ⟨_, [], by rw [List.append_nil], hO, .nil⟩, by simp⟩
  have bad_ : ∀ {c : Int}, loadAns B k n = ([], zero32, c) → ((real Tryz.prog (RR w [.slice, .agg, .int .i64] (fun x w' => ∃ L, At w w' L ∧ OwnByteSS x.1 (loadAns B k n).1 L ∧ RdKey w x.2.1 (loadAns B k n).2.1 ∧ x.2.2 = (loadAns B k n).2.2))).sem (Instr.buildSlice ty_sl_sl_uint8 0 #[]) .slice fun y => (real Tryz.prog (RR w [.slice, .agg, .int .i64] (fun x w' => ∃ L, At w w' L ∧ OwnByteSS x.1 (loadAns B k n).1 L ∧ RdKey w x.2.1 (loadAns B k n).2.1 ∧ x.2.2 = (loadAns B k n).2.2))).st 32 ⟨b7, 0, none⟩ (.agg (Array.replicate 32 (.int .u8 0))) <| (real Tryz.prog (RR w [.slice, .agg, .int .i64] (fun x w' => ∃ L, At w w' L ∧ OwnByteSS x.1 (loadAns B k n).1 L ∧ RdKey w x.2.1 (loadAns B k n).2.1 ∧ x.2.2 = (loadAns B k n).2.2))).ld .agg 32 ⟨b7, 0, none⟩ fun z6 => (real Tryz.prog (RR w [.slice, .agg, .int .i64] (fun x w' => ∃ L, At w w' L ∧ OwnByteSS x.1 (loadAns B k n).1 L ∧ RdKey w x.2.1 (loadAns B k n).2.1 ∧ x.2.2 = (loadAns B k n).2.2))).ret (.tuple #[.slice y.a y.n y.c, .agg z6, .int .i64 c]) : World → Prop) w4 := fun {c} hc => by
    rw [hc]
    refine r_bs0 T_sl_slu8 h4 fun y w5 hy hyn => ?_
    obtain ⟨Ly, hOy, h⟩ := hy.split
    have h := h.swap
    refine r_stA h 0 rfl rfl (by simp) (by simp) (by simp [oneC]) fun w6 h => ?_
    refine r_ldA h 0 rfl rfl (by simp) ?_
    exact r_ret h.nil (y, _, c) rfl ⟨Ly, At.right (A := [_, _, _]) h, nil_ (w' := w) hOy, ⟨rfl, zero32_ok⟩, rfl⟩
  by_cases hv : validS B
  · obtain ⟨L, hL, hO⟩ := hr hv
    rw [hr2, decide_eq_true hv, hr1]
    refine r_false rfl ?_
    refine r_callp (c_l00In n 0 256) ?_
    by_cases hnn : n ≥ 0 ∧ n ≤ 256
    · refine r_false (by rw [decide_eq_true hnn]; rfl) ?_
      obtain ⟨N, rfl⟩ : ∃ N : Nat, n = N := ⟨n.toNat, by omega⟩
      have hans : loadAns B k N = if (loadGo B (N + 1) k N).2.2 = 0 then ((loadGo B (N + 1) k N).1, zero32, 0) else ([], (loadGo B (N + 1) k N).2) := by unfold loadAns; rw [if_pos hv, if_pos hnn]; simp only [Int.toNat_natCast]
      have h : At w w4 ([(b7, Array.replicate 32 (.int .u8 0), ty_impl_Key), (b4, (u8s k).toArray, ty_impl_Key), (b3, #[.slice s.a s.n s.c], ty_impl_Store)] ++ (L ++ [])) := by rw [List.append_nil]; exact (h.join hL).swap
      have hs4 : SpecR w4 ⟨b, 0, none⟩ (keysOf B) bs := hO.rd h.pl1 (keysOf_ok _) (fun b hb => (hs.at h.nil).ok b hb)
      have hgo := loadGo_ok hv (good_bytes hs4 hpb) (N + 1) k N hk
      refine r_bs0 T_sl_slu8 (At.refl w4) fun y26 w6 hy hyn => ?_
      obtain ⟨Lb, hOb, h0⟩ := hy.split
      refine r_pur (sh := .agg) _ (run_mkLeaves ⟨b, 0, none⟩ y26) ?_
      refine r_new h0 fun b28 w7 h0 => ?_
      have h0 : At w4 w7 ([(b28, lvC ⟨b, 0, none⟩ y26 zero32 0, ty_spec_l05Leaves)] ++ (Lb ++ ([] ++ []))) := h0
      have hLV : LV w4 w7 b28 ⟨b, 0, none⟩ [] zero32 0 [] := ⟨[], y26, Lb, [], rfl, hyn, by simpa using hOb, .nil, zero32_ok, h0⟩
      refine r_ldN (u8s k).toArray (ldOk_below h0.below (ldOk_blk h 1 rfl (by simp [hk.1]))) ?_
      refine r_callR (c_tree hs4 hpb hv (N + 1) N k [] zero32 0 w7 [] (by omega) (by omega) hk (by simp; omega) (fun _ => rfl) hLV) ?_
      rintro v w9 ⟨rfl, hLV⟩
      refine ⟨(), rfl, ?_⟩
      have ha : afterL B (N + 1) k N ([], zero32, 0) = ([] ++ (loadGo B (N + 1) k N).1, (loadGo B (N + 1) k N).2) := if_pos rfl
      rw [ha, List.nil_append] at hLV
      dsimp only at hLV
      rw [hans]
      generalize loadGo B (N + 1) k N = R at hgo hLV
      obtain ⟨rs, so, Lb, Ld, g1, g2, g3, g4, g5, h0⟩ := hLV
      have h := h.join h0
      refine r_ld h 0 rfl (add_lit _ _ _) R.2.2 (by simp [Sh.emb]) (by rw [Nat.zero_add]; exact lv_code g5) ?_
      refine r_ne (fun hne => ?_) (fun heq => ?_)
      · rw [if_neg hne]
        refine r_draw h fun w10 h => ?_
        refine r_ldP h 0 rfl (add_lit _ _ _) (by rw [lvC_size g5]; omega) ?_
        rw [show (0 + 2 : Nat) = 2 from rfl, lv_miss g5]
        refine r_ld h 0 rfl (add_lit _ _ _) R.2.2 (by simp [Sh.emb]) (by rw [Nat.zero_add]; exact lv_code g5) ?_
        refine r_bs0 T_sl_slu8 h fun y38 w11 hy hyn => ?_
        obtain ⟨Ly, hOy, h⟩ := hy.split
        have lc : ∀ {w' : World} {V M : List Blk}, At w w' (V ++ (([(b28, lvC ⟨b, 0, none⟩ so R.2.1 R.2.2, ty_spec_l05Leaves)] ++ (Lb ++ (Ld ++ []))) ++ M)) → ldOk w' 1 ((⟨b28, 0, none⟩ : Addr).add 34) (.int .i64) R.2.2 := fun h => ldOk_own h.pl1 0 rfl 34 (lv_code g5) (by simp [Sh.emb])
        have lm : ∀ {w' : World} {V M : List Blk}, At w w' (V ++ (([(b28, lvC ⟨b, 0, none⟩ so R.2.1 R.2.2, ty_spec_l05Leaves)] ++ (Lb ++ (Ld ++ []))) ++ M)) → ldOk w' 32 ((⟨b28, 0, none⟩ : Addr).add 2) .agg (u8s R.2.1).toArray := fun {w' V M} h => by
          have hb := h.pl1.get (i := 0) rfl
          refine ⟨by simp [g5.1], fun j v hv => ?_⟩
          rw [Go.Deep.add_add, add_lit]
          have hv' : (lvC ⟨b, 0, none⟩ so R.2.1 R.2.2)[2 + j]? = some v := by
            rw [← lv_miss (p := ⟨b, 0, none⟩) (so := so) (code := R.2.2) g5, Array.getElem?_extract] at hv
            split at hv
            · exact hv
            · cases hv
          simp [World.cell?, hb, hv']
        refine r_chk2 ?_ ?_ ?_
        · exact lc h
        · exact lm h
        have h := (h.pl2 (V := Ly) (G1 := _) (G2 := [(b7, Array.replicate 32 (.int .u8 0), ty_impl_Key), (b4, (u8s k).toArray, ty_impl_Key), (b3, #[.slice s.a s.n s.c], ty_impl_Store)]) (X := L ++ []))
        refine r_stA h 0 rfl rfl (by simp [g5.1]) (by simp) (by simpa using u8s_one) fun w12 h => ?_
        refine r_chk1 ?_ ?_
        · exact lc (V := [_, _, _] ++ Ly) (by simpa [List.append_assoc] using h)
        refine r_ldA h 0 rfl rfl (by simp [g5.1]) ?_
        exact r_ret h.nil (y38, _, _) rfl ⟨Ly, (At.right (A := [_, _, _]) h).left, nil_ (w' := w) hOy, ⟨rfl, g5⟩, rfl⟩
      · rw [if_pos heq]
        refine r_ld h 0 rfl (add_lit _ _ _) so (by simp [Sh.emb]) rfl ?_
        refine r_stA h.swap 0 rfl rfl (by simp) (by simp) (by simp [oneC]) fun w11 h => ?_
        refine r_ldA h 0 rfl rfl (by simp) ?_
        refine r_ret h.nil (so, _, (0 : Int)) rfl ⟨Lb ++ Ld, ?_, ownSS_of (w0 := w) (w := w) (ls := []) g1 g3 g4 (fun x hx => (hgo.data x hx).1), ⟨rfl, zero32_ok⟩, rfl⟩
        have h : At w w11 ([(b7, (Array.replicate 32 (Value.int .u8 0)), ty_impl_Key), (b4, (u8s k).toArray, ty_impl_Key), (b3, #[.slice s.a s.n s.c], ty_impl_Store)] ++ ((L ++ []) ++ ([(b28, lvC ⟨b, 0, none⟩ so R.2.1 R.2.2, ty_spec_l05Leaves)] ++ (Lb ++ (Ld ++ []))))) := h
        have h := At.right (A := [_]) h.right.right
        simpa using h
    · refine r_true (by rw [decide_eq_false hnn]; rfl) ?_
      exact bad_ (by unfold loadAns; rw [if_pos hv, if_neg hnn])
  · rw [hr2, decide_eq_false hv, hr1]
    refine r_true rfl ?_
    exact bad_ (by unfold loadAns; rw [if_neg hv]))
end Go.Proofs.YtffedfdhhglmkaaGreat
