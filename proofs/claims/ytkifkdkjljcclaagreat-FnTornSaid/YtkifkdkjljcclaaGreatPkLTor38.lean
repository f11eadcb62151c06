/- Packs: the program packs a store. PackStore, PackReachable: both sides. -/
import Derived.Test.YtkifkdkjljcclaaGreatPkLTor35
import Derived.Test.YtkifkdkjljcclaaGreatPkLTor21
import Derived.Test.YtkifkdkjljcclaaGreatPkLTor24
import Derived.Test.YtkifkdkjljcclaaGreatPkLTor17
namespace Go.Proofs.YtkifkdkjljcclaaGreat
open Go.Sx Go.RowKit

theorem c_keyOfPack {w : World} {s : Sl} {d : List Int} (hs : SlAt w s 1 (u8s d)) (hb : bytesOk d) (hmax : d.length ≤ 35184372088832) :
    Ret Tryz.prog n_impl_keyOfPack [.slice s.a s.n s.c] w [.agg] (fun r _ => r = (u8s (hashL 8 d)).toArray) := impl_keyOfPack_calls _ (by
  unfold impl_keyOfPack
  have hkl : (hashL 8 d).length = 32 := hashL_len _ _
  refine r_new (At.refl w) fun b2 w1 h => ?_
  refine r_call h (c_hash 8 (hs.below h.below) hb hmax) fun r4 w2 h _ hr => ?_
  subst hr
  refine r_stA h 0 rfl rfl (by simp [hkl]) (by simp [Value.cells]) (by simpa using u8s_one) fun w3 h => ?_
  refine r_ldA h 0 rfl rfl (by simp [hkl]) ?_
  exact r_ret h.nil _ rfl rfl)
def bestN1 (B : List PB) (b : PB) (k : Nat) : Int := match bestBase B b k with
  | some x => (x.1 : Int)
  | none => -1
theorem bestN1_lt {B : List PB} {b : PB} {k : Nat} : bestN1 B b k < 0 ↔ bestBase B b k = none := by
  unfold bestN1
  cases bestBase B b k with
  | none => simp
  | some x => simp <;> omega
theorem bestBase_succ (B : List PB) (b : PB) (k : Nat) : bestBase B b (k + 1) = match B[k]? with
    | none => bestBase B b k
    | some c => if c.tag ≠ b.tag then bestBase B b k else
      if (deltaB c.data b.data).length ≤ 1024 ∧ (∀ x ∈ bestBase B b k, (deltaB c.data b.data).length < x.2.length) then some (k, deltaB c.data b.data) else bestBase B b k := rfl
def OwnBest (B : List PB) (b : PB) (k : Nat) (s : Sl) (L : List Blk) : Prop := match bestBase B b k with
  | some x => OwnS ty_uint8 1 s (u8s x.2) L
  | none => L = []
theorem c_impl_pack {w : World} {s : Sl} {B : List PB} {bs : List BR} (hB : BsR w s bs) (hpb : bs.map BR.pb = B) (hv : validS B) :
    Ret Tryz.prog n_impl_pack [.agg #[.slice s.a s.n s.c]] w [.slice] (fun r w' => SlO w w' [] ty_uint8 1 r (u8s (packB B))) := impl_pack_calls _ (by
  unfold impl_pack
  have hbn := hB.n
  have hbl : bs.length = B.length := by rw [← hpb]; simp
  have h128 := hv.1
  have hBok : ∀ b ∈ B, b.ok := by rw [← hpb]; exact hB.pbs
  have hrl := recsB_len hv.2.1
  have hcap := hB.of.cap
  refine r_new (At.refl w) fun b1 w1 h => ?_
  have h : At w w1 [(b1, #[.slice s.a s.n s.c], ty_impl_Store)] := h
  refine r_strLit4 T_sl_uint8 (by kernel_rfl) _ _ _ _ fun y14 wb hbb hy hyn hyc => ?_
  have hwb : At w wb [(b1, #[.slice s.a s.n s.c], ty_impl_Store)] := h.trans hbb
  have l1 : ldOk wb 1 ((⟨b1, 0, none⟩ : Addr).add 0) .slice s := ldOk_own (sh := .slice) hwb 0 rfl 0 rfl (by simp [Sh.emb])
  have hB := hB.at hwb
  refine r_ldN (sh := .slice) s l1 ?_
  refine r_loop (σ := Sl × Int) (fun x w' => ∃ (i : Nat) (Lo : List Blk), x.2 = i ∧ i ≤ B.length ∧ OwnX wb ty_uint8 x.1 (u8s (recsB B i)) Lo ∧ At wb w' (Lo ++ [])) (fun x _ => (B.length - x.2).toNat) (y14, 0) rfl ⟨0, [], rfl, by omega, .inr ⟨rfl, hyn.trans hyc.symm, hy⟩, At.refl wb⟩ ?_
  clear hy hyn hyc h
  rintro ⟨so, i⟩ w3 ⟨i, Lo, rfl, hi, hX, h⟩
  dsimp only at hX
  refine r_any fun _ => ?_
  dsimp only
  have hon : so.n = (recsB B i).length := by have := hX.n; simp [u8s] at this; omega
  have hri := hrl i
  refine r_if ((i : Int) < (s.n : Int)) rfl (fun hlt => ?_) (fun hge => ?_)
  · obtain ⟨b, q, hbi, hbm, hq, hba, hag⟩ := hB.bat (i := i) (by omega)
    have hBi : B[i]? = some b.pb := by rw [← hpb, List.getElem?_map, hbi]; rfl
    have hBm := List.mem_of_getElem? hBi
    have hdl : b.data.length ≤ 1024 := hv.2.1 _ hBm
    have hdn := hba.ok.bytes.n
    refine r_ix q hq (by omega) (by omega) ?_
    simp only [Int.toNat_natCast]
    refine r_ldN b.cells.toArray (ldOk_below h.below hag) ?_
    refine r_new h fun b5 w4 h => ?_
    refine r_stA h 0 rfl rfl rfl rfl (by simpa using cells_one b) fun w5 h => ?_
    have h : At wb w5 ([(b5, b.cells.toArray, ty_impl_Blob)] ++ (Lo ++ ([] ++ []))) := h
    refine r_ldN (sh := .slice) s (ldOk_below h.below l1) ?_
    refine r_slPre i rfl rfl (by omega) ?_
    have l5t : ∀ {v : World} {X : List Blk}, At wb v ([(b5, b.cells.toArray, ty_impl_Blob)] ++ X) → ldOk v 1 ((⟨b5, 0, none⟩ : Addr).add 0) (.int .u8) b.tag := fun h => ldOk_own (sh := .int .u8) h 0 rfl 0 rfl (by simp [Sh.emb])
    have l5d : ∀ {v : World} {X : List Blk}, At wb v ([(b5, b.cells.toArray, ty_impl_Blob)] ++ X) → ldOk v 1 ((⟨b5, 0, none⟩ : Addr).add 1) .slice b.d := fun h => ldOk_own (sh := .slice) h 0 rfl 1 rfl (by simp [Sh.emb])
    refine r_loop (σ := Sl × Int × Int) (fun x w' => ∃ (k : Nat) (Lb : List Blk), x.2.1 = bestN1 B b.pb k ∧ x.2.2 = k ∧ k ≤ i ∧ OwnBest B b.pb k x.1 Lb ∧ At wb w' ([(b5, b.cells.toArray, ty_impl_Blob)] ++ (Lo ++ (Lb ++ [])))) (fun x _ => (i - x.2.2).toNat) (⟨none, 0, 0⟩, -1, 0) rfl
      ⟨0, [], rfl, rfl, by omega, rfl, h⟩ ?_
    clear h
    rintro ⟨best, bi, k⟩ w6 ⟨k, Lb, hbi0, hk0, hki, hbest, h⟩
    dsimp only at hbi0 hk0 hbest
    subst hk0
    subst hbi0
    refine r_any fun _ => ?_
    dsimp only
    refine r_if ((k : Int) < (i : Int)) rfl (fun hlt2 => ?_) (fun hge2 => ?_)
    · obtain ⟨c, q2, hck, hcm, hq2, hca, hcag⟩ := hB.bat (i := k) (by omega)
      rw [hq] at hq2
      cases hq2
      have hBk : B[k]? = some c.pb := by rw [← hpb, List.getElem?_map, hck]; rfl
      have hcl : c.data.length ≤ 1024 := hv.2.1 _ (List.mem_of_getElem? hBk)
      refine r_ix q hq (by omega) (by omega) ?_
      simp only [Int.toNat_natCast]
      refine r_ldN c.cells.toArray (ldOk_below h.below hcag) ?_
      refine r_new h fun b9 w7 h => ?_
      refine r_stA h 0 rfl rfl rfl rfl (by simpa using cells_one c) fun w8 h => ?_
      have h : At wb w8 ((b9, c.cells.toArray, ty_impl_Blob) :: ([(b5, b.cells.toArray, ty_impl_Blob)] ++ (Lo ++ (Lb ++ [])))) := h
      refine r_ld h 0 rfl (add_lit _ _ _) c.tag (by simp [Sh.emb]) rfl ?_
      refine r_ldN (sh := .int .u8) b.tag (l5t h.tail) ?_
      have hsucc := bestBase_succ B b.pb k
      rw [hBk] at hsucc
      dsimp only at hsucc
      have stay : ∀ {v : World}, At wb v ((b9, c.cells.toArray, ty_impl_Blob) :: ([(b5, b.cells.toArray, ty_impl_Blob)] ++ (Lo ++ (Lb ++ [])))) → bestBase B b.pb (k + 1) = bestBase B b.pb k →
          (∃ s', embL [.slice, .int .i64, .int .i64] s' = [(.slice best.a best.n best.c), (.int .i64 (bestN1 B b.pb k)), (.int .i64 (IntKind.wrap .i64 ((k : Int) + 1)))] ∧ (∃ (k' : Nat) (Lb : List Blk), s'.2.1 = bestN1 B b.pb k' ∧ s'.2.2 = k' ∧ k' ≤ i ∧ OwnBest B b.pb k' s'.1 Lb ∧ At wb v ([(b5, b.cells.toArray, ty_impl_Blob)] ++ (Lo ++ (Lb ++ [])))) ∧ ((i : Int) - s'.2.2).toNat < ((i : Int) - (k : Int)).toNat) := fun {v} h e => by
        exact ⟨(best, bestN1 B b.pb k, ((k + 1 : Nat) : Int)), by rw [w64 (n := (k : Int) + 1) (by omega) (by omega)]; rfl, ⟨k + 1, Lb, by unfold bestN1; rw [e], rfl, by omega, by unfold OwnBest at hbest ⊢; rw [e]; exact hbest, h.tail⟩, by dsimp only; omega⟩
      refine r_ne (fun hne => ?_) (fun heq => ?_)
      · exact stay h (by rw [hsucc, if_pos (by exact hne)])
      · rw [if_neg (by exact fun hh => hh heq)] at hsucc
        refine r_ld h 0 rfl (add_lit _ _ _) c.d (by simp [Sh.emb]) rfl ?_
        refine r_ldN (sh := .slice) b.d (l5d h.tail) ?_
        refine r_call h (c_impl_DeltaOf (hca.ok.bytes.below h.below) (hba.ok.bytes.below h.below) hcl hdl) fun r44 w9 h9 _ hD => ?_
        rcases hD with ⟨hle, hr0, hSd⟩ | ⟨hgt, hr0⟩
        · rw [hr0]
          refine r_true rfl ?_
          obtain ⟨Lp, hOp, h⟩ := SlO.own_of h hSd
          have hpn := ownS_n hOp
          have new : ∀ {v : World}, At wb v (Lp ++ ((b9, c.cells.toArray, ty_impl_Blob) :: ([(b5, b.cells.toArray, ty_impl_Blob)] ++ (Lo ++ (Lb ++ []))))) → bestBase B b.pb (k + 1) = some (k, deltaB c.data b.data) →
              (∃ s', embL [.slice, .int .i64, .int .i64] s' = [(.slice r44.1.a r44.1.n r44.1.c), (.int .i64 (k : Int)), (.int .i64 (IntKind.wrap .i64 ((k : Int) + 1)))] ∧ (∃ (k' : Nat) (Lb : List Blk), s'.2.1 = bestN1 B b.pb k' ∧ s'.2.2 = k' ∧ k' ≤ i ∧ OwnBest B b.pb k' s'.1 Lb ∧ At wb v ([(b5, b.cells.toArray, ty_impl_Blob)] ++ (Lo ++ (Lb ++ [])))) ∧ ((i : Int) - s'.2.2).toNat < ((i : Int) - (k : Int)).toNat) := fun {v} h e => by
            have h : At wb v ((b9, c.cells.toArray, ty_impl_Blob) :: (Lp ++ ([(b5, b.cells.toArray, ty_impl_Blob)] ++ (Lo ++ (Lb ++ []))))) := h.perm List.perm_middle
            have h := h.tail.ps2.dr3
            exact ⟨(r44.1, (k : Int), ((k + 1 : Nat) : Int)), by rw [w64 (n := (k : Int) + 1) (by omega) (by omega)]; rfl, ⟨k + 1, Lp, by unfold bestN1; rw [e], rfl, by omega, by unfold OwnBest; rw [e]; exact hOp, h⟩, by dsimp only; omega⟩
          refine r_if (bestN1 B b.pb k < 0) rfl (fun hno => ?_) (fun hyes => ?_)
          · have hn := bestN1_lt.1 hno
            refine new h ?_
            rw [hsucc, hn, if_pos ⟨hle, by simp⟩]
            rfl
          · obtain ⟨y, hy⟩ : ∃ y, bestBase B b.pb k = some y := by
              cases hc : bestBase B b.pb k with
              | none => exact absurd (bestN1_lt.2 hc) hyes
              | some y => exact ⟨y, rfl⟩
            have hyl : best.n = y.2.length := by
              unfold OwnBest at hbest
              rw [hy] at hbest
              exact ownS_n hbest
            refine r_if ((r44.1.n : Int) < (best.n : Int)) rfl (fun hlt3 => ?_) (fun hge3 => ?_)
            · refine new h ?_
              rw [hsucc, hy, if_pos ⟨hle, fun x hx => by
                have hx : some y = some x := hx
                cases hx
                show (deltaB c.data b.data).length < y.2.length
                omega⟩]
              rfl
            · refine stay h.right ?_
              rw [hsucc, if_neg (fun hh => by
                have : (deltaB c.data b.data).length < y.2.length := hh.2 y hy
                omega)]
        · rw [hr0]
          refine r_false rfl ?_
          refine stay h9 ?_
          rw [hsucc, if_neg (fun hh => by
            have : (deltaB c.data b.data).length ≤ 1024 := hh.1
            omega)]
    · have hkE : k = i := by omega
      subst hkE
      have hhl := headB_len B b.pb k
      have hbl2 := bodyB_len (B := B) (b := b.pb) (k := k) hdl
      refine r_join (σ := Sl × Sl) (fun x w' => ∃ Lo, OwnS ty_uint8 1 x.1 (u8s (recsB B k ++ headB B b.pb k)) Lo ∧ (∀ {v : World} {X : List Blk}, At wb v (Lb ++ X) → BSl v x.2 (bodyB B b.pb k)) ∧ At wb w' ([(b5, b.cells.toArray, ty_impl_Blob)] ++ (Lo ++ (Lb ++ [])))) (fun x w7 hJ => ?_) ?_
      · obtain ⟨sx, sy⟩ := x
        obtain ⟨Lo, hOx, hbody, h⟩ := hJ
        dsimp only at hOx hbody
        refine r_any fun _ => ?_
        dsimp only
        have hxn := ownS_n hOx
        rw [List.length_append] at hxn
        refine r_ldN b.cells.toArray (ldOk_blk h 0 rfl rfl) ?_
        refine r_call h (c_Blob_key (hba.ok.below h.below) (by omega)) fun r89 w8 h _ hr => ?_
        subst hr
        have hkl : b.pb.key.length = 32 := hashL_len _ _
        refine r_new h fun b12 w9 h => ?_
        refine r_stA h 0 rfl rfl (by simp [hkl]) (by simp [Value.cells]) (by simpa using u8s_one) fun w10 h => ?_
        refine r_draw h fun w11 h => ?_
        have h : At wb w11 ([(b12, (u8s b.pb.key).toArray, ty_impl_Key)] ++ ([(b5, b.cells.toArray, ty_impl_Blob)] ++ (Lo ++ (Lb ++ [])))) := h
        refine r_slPre 4 rfl rfl (by omega) ?_
        have hyn := (hbody h.pl3).n
        have hk4 : ∀ {v : World} {X : List Blk}, At wb v ([(b12, (u8s b.pb.key).toArray, ty_impl_Key)] ++ X) → SlAt v ⟨some ⟨b12, 0, none⟩, 4, 32⟩ 1 (u8s (b.pb.key.take 4)) := fun h => by
          refine At.sl h 0 rfl (o := 0) rfl (by simp [hkl]) ?_
          simp only [List.drop_zero]
          unfold u8s
          rw [List.length_map, List.map_take]
          show ((b.pb.key.map (Value.int .u8)).toArray.toList).take _ = _
          rw [List.length_take, hkl]
          rfl
        have e1 : IntKind.wrap .u64 (IntKind.wrap .u16 (sy.n : Int)) = ((bodyB B b.pb k).length : Int) := by
          have : IntKind.wrap .u16 (sy.n : Int) = ((bodyB B b.pb k).length : Int) := by simp [IntKind.wrap, IntKind.bits, IntKind.signed]; omega
          rw [this, wrapu64 (by omega) (by omega)]
        rw [e1]
        refine r_callR (c_appendLittle (hOx.slo h.pl2) (n := ((bodyB B b.pb k).length : Int)) (by omega) 2 (by omega) (by omega)) ?_
        rintro v w12 ⟨r95, rfl, hS, hn95⟩
        refine ⟨r95, rfl, ?_⟩
        refine r_append T_sl_uint8 hS (hbody (At.pl2 hS.at_)).sl u8s_one (by omega) (by omega) fun y97 w13 hS hn97 => ?_
        refine r_append T_sl_uint8 hS (hk4 hS.at_) u8s_one (by dsimp only; omega) (by dsimp only; omega) fun y99 w14 hS hn99 => ?_
        have e2 : u8s (recsB B k ++ headB B b.pb k) ++ u8s (leB ((bodyB B b.pb k).length : Int) 2) ++ u8s (bodyB B b.pb k) ++ u8s (b.pb.key.take 4) = u8s (recsB B (k + 1)) := by
          rw [recsB_succ hBi]
          unfold recB
          simp [u8s]
        rw [e2] at hS
        obtain ⟨Ln, hOn, h⟩ := (SlO.down hS [] (List.nil_sublist _)).split
        exact ⟨(y99, ((k + 1 : Nat) : Int)), by rw [w64 (n := (k : Int) + 1) (by omega) (by omega)]; rfl, ⟨k + 1, Ln, rfl, by omega, .inl hOn, h⟩, by dsimp only; omega⟩
      · have hfin : bestN1 B b.pb k ≥ 0 → ∃ y, bestBase B b.pb k = some y ∧ OwnS ty_uint8 1 best (u8s y.2) Lb := fun hge => by
          cases hc : bestBase B b.pb k with
          | none => exact absurd (bestN1_lt.2 hc) (by omega)
          | some y =>
            unfold OwnBest at hbest
            rw [hc] at hbest
            exact ⟨y, rfl, hbest⟩
        refine r_join (σ := Bool) (fun x w' => x = (chooseB B b.pb k).isSome ∧ At wb w' ([(b5, b.cells.toArray, ty_impl_Blob)] ++ (Lo ++ (Lb ++ [])))) (fun x w7 hJ => ?_) ?_
        · obtain ⟨rfl, h⟩ := hJ
          refine r_any fun _ => ?_
          refine r_cond (fun hsome => ?_) (fun hnone => ?_)
          · obtain ⟨y, hy⟩ := Option.isSome_iff_exists.1 hsome
            obtain ⟨c, hc1, hc2, hc3, _⟩ := chooseB_ok hy
            have hcl : c.data.length ≤ 1024 := hv.2.1 _ (List.mem_of_getElem? hc1)
            have hbb : bestBase B b.pb k = some y := by
              unfold chooseB at hy
              split at hy
              · rename_i z hz
                split at hy
                · cases hy; exact hz
                · cases hy
              · cases hy
            have hbase : bestN1 B b.pb k = (y.1 : Int) := by unfold bestN1; rw [hbb]
            have hOb : OwnS ty_uint8 1 best (u8s y.2) Lb := by
              unfold OwnBest at hbest
              rw [hbb] at hbest
              exact hbest
            refine r_ldN (sh := .int .u8) b.tag (l5t h) ?_
            rw [hbase, wu8 (x := (y.1 : Int)) (by omega) (by omega)]
            refine r_lit3 T_sl_uint8 _ _ _ fun y79 w8 hb8 h79 hn79 _ => ?_
            have h := h.trans hb8
            refine r_appendX T_sl_uint8 h.pl1 hX h79 (by simp [oneC]) (by omega) (by omega) (by omega) fun y80 w9 hS hn80 => ?_
            obtain ⟨Lx, hOx, h⟩ := hS.split
            refine ⟨(y80, best), rfl, Lx, ?_, ?_, h.pl1⟩
            · have : headB B b.pb k = [1, b.tag, (y.1 : Int)] := by unfold headB; rw [hy]; rfl
              rw [this]
              simpa [u8s] using hOx
            · intro v X hA
              have : bodyB B b.pb k = y.2 := by unfold bodyB; rw [hy]
              rw [this]
              exact ownS_bytes hOb hA (List.sublist_append_left _ _) (by rw [hc3]; exact deltaB_ok hcl hba.ok.bytes.ok)
          · have hn : chooseB B b.pb k = none := by
              cases hc : chooseB B b.pb k with
              | none => rfl
              | some y => rw [hc] at hnone; cases hnone
            refine r_draw h fun w8 h => ?_
            refine r_ldN (sh := .int .u8) b.tag (l5t h) ?_
            refine r_ldN (sh := .slice) b.d (l5d h) ?_
            refine r_lit2 T_sl_uint8 _ _ fun y84 w9 hb9 h84 hn84 _ => ?_
            have h := h.trans hb9
            refine r_chk1 (l5d h) ?_
            refine r_appendX T_sl_uint8 h.pl1 hX h84 (by simp [oneC]) (by omega) (by omega) (by omega) fun y85 w10 hS hn85 => ?_
            obtain ⟨Lx, hOx, h⟩ := hS.split
            have h := h.pl1
            refine r_chk1 (l5d h) ?_
            refine ⟨(y85, b.d), rfl, Lx, ?_, ?_, h⟩
            · have : headB B b.pb k = [0, b.tag] := by unfold headB; rw [hn]; rfl
              rw [this]
              simpa [u8s] using hOx
            · intro v X hA
              have : bodyB B b.pb k = b.data := by unfold bodyB; rw [hn]; rfl
              rw [this]
              exact hba.ok.bytes.at hA
        · refine r_if (bestN1 B b.pb k ≥ 0) rfl (fun hge3 => ?_) (fun hlt3 => ?_)
          · obtain ⟨y, hy, hOb⟩ := hfin hge3
            have hyn := ownS_n hOb
            have hyl := (bestBase_ok hy).choose_spec.2.2.2
            refine r_ldN (sh := .slice) b.d (l5d h) ?_
            rw [w64 (n := (best.n : Int) + 1) (by omega) (by omega)]
            refine ⟨_, rfl, ?_, h⟩
            unfold chooseB
            rw [hy]
            dsimp only
            by_cases hw : y.2.length + 1 < b.pb.data.length
            · rw [if_pos hw]
              have : (best.n : Int) + 1 < (b.d.n : Int) := by
                have : y.2.length + 1 < b.data.length := hw
                omega
              rw [decide_eq_true this]; rfl
            · rw [if_neg hw]
              have : ¬ (best.n : Int) + 1 < (b.d.n : Int) := by
                have : ¬ y.2.length + 1 < b.data.length := hw
                omega
              rw [decide_eq_false this]; rfl
          · have hn := bestN1_lt.1 (by omega : bestN1 B b.pb k < 0)
            refine ⟨false, rfl, ?_, h⟩
            unfold chooseB
            rw [hn]
            rfl
  · have hiB : i = B.length := by omega
    subst hiB
    refine r_call h (c_keyOfPack (hX.sl h (List.sublist_append_left _ _)) (recsB_ok hv hBok _) (by omega)) fun r102 w4 h _ hr => ?_
    subst hr
    have hkl : (hashL 8 (recsB B B.length)).length = 32 := hashL_len _ _
    refine r_new h fun b13 w5 h => ?_
    refine r_stA h 0 rfl rfl (by simp [hkl]) (by simp [Value.cells]) (by simpa using u8s_one) fun w6 h => ?_
    refine r_draw h fun w7 h => ?_
    have h : At wb w7 ([(b13, (u8s (hashL 8 (recsB B B.length))).toArray, ty_impl_Key)] ++ (Lo ++ [])) := h
    refine r_ldN (sh := .slice) s (ldOk_below h.below l1) ?_
    refine r_slPre 32 rfl rfl (by omega) ?_
    have hk4 : ∀ {v : World} {X : List Blk}, At wb v ([(b13, (u8s (hashL 8 (recsB B B.length))).toArray, ty_impl_Key)] ++ X) → SlAt v ⟨some ⟨b13, 0, none⟩, 32, 32⟩ 1 (u8s (hashL 8 (recsB B B.length))) := fun h => by
      refine At.sl h 0 rfl (o := 0) rfl (by simp [hkl]) ?_
      simp only [List.drop_zero]
      exact List.take_of_length_le (Nat.le_refl _)
    rw [show IntKind.wrap .u8 (s.n : Int) = (B.length : Int) by rw [wu8 (by omega) (by omega)]; omega]
    refine r_lit2 T_sl_uint8 _ _ fun y108 w8 hb8 h108 hn108 _ => ?_
    have h := h.trans hb8
    refine r_chk1 (ldOk_below h.below l1) ?_
    refine r_appendX T_sl_uint8 h.pl1 hX h108 (by simp [oneC]) (by omega) (by omega) (by omega) fun y109 w9 hS hn109 => ?_
    obtain ⟨Lx, hOx, h⟩ := hS.split
    refine r_chk1 (ldOk_below h.below l1) ?_
    refine r_append T_sl_uint8 (hOx.slo h) (hk4 h.pl1) u8s_one (by dsimp only; omega) (by dsimp only; omega) fun y111 w10 hS hn111 => ?_
    obtain ⟨Ly, hOy, h⟩ := hS.split
    refine r_chk1 (ldOk_below h.below l1) ?_
    have h := hwb.join h
    refine r_ret h.nil y111 rfl ?_
    have e : u8s (recsB B B.length) ++ [Value.int .u8 2, Value.int .u8 (B.length : Int)] ++ u8s (hashL 8 (recsB B B.length)) = u8s (packB B) := by
      unfold packB
      simp [u8s]
    rw [e] at hOy
    exact hOy.slo (ls := []) (by rw [List.append_nil]; exact h.left.left))
end Go.Proofs.YtkifkdkjljcclaaGreat

namespace Go.Proofs.YtkifkdkjljcclaaGreat
open Go.Sx Go.RowKit

def packAns (B : List PB) : List Int × Int := if validS B then (packB B, 0) else ([], 1)
theorem packB_ok {B : List PB} (hv : validS B) (hb : ∀ b ∈ B, b.ok) : bytesOk (packB B) := by
  have h128 := hv.1
  unfold packB
  refine ((recsB_ok hv hb _).append fun x hx => ?_).append (hashL_ok _ _)
  simp only [List.mem_cons, List.not_mem_nil, or_false] at hx
  omega
theorem packB_max {B : List PB} (hv : validS B) : (packB B).length ≤ 140000 := by
  have := (recsB_len hv.2.1 B.length).1
  have := hv.1
  rw [packB_len]
  have h1 : 1033 * B.length ≤ 1033 * 128 := Nat.mul_le_mul_left _ hv.1
  omega
theorem slO_own {w w' : World} {r : Sl} {l : List Int} (h : SlO w w' [] ty_uint8 1 r (u8s l)) (hb : bytesOk l) : ∃ L, At w w' L ∧ OwnByteS r l L := by
  obtain ⟨L, hO, hA⟩ := h.split
  exact ⟨L, by simpa using hA, hO, hb⟩
end Go.Proofs.YtkifkdkjljcclaaGreat
