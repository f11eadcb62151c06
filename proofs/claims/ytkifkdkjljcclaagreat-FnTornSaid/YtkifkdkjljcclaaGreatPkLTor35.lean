/- Packs: stores are packed, both sides. -/
import Derived.Lib.SlBytesConst
import Derived.Test.YtkifkdkjljcclaaGreatPkLTor34
namespace Go.Sx
open Go.RowKit (Below)
section
variable {P : Program} {R : Value → World → Prop} {w0 w : World} {ls : List Blk}
theorem r_strLit4 {t e by_ : Nat} (hT : SlT P t e 1 by_) (he : P.underlying e = some (.int .u8)) (a b c d : Int) {k : Sl → World → Prop} (h : ∀ y w', Below w.heap.size w w' → SlAt w' y 1 [.int .u8 a, .int .u8 b, .int .u8 c, .int .u8 d] → y.n = 4 → y.c = 4 → k y w') :
    ((real P R).sem (Instr.buildSlice t 4 #[(0, (.int .u8 a)), (1, (.int .u8 b)), (2, (.int .u8 c)), (3, (.int .u8 d))]) .slice fun y => (real P R).sem (convert t t (.slice y.a y.n y.c)) .slice k : World → Prop) w := by
  refine ⟨⟨some ⟨w.heap.size, 0, none⟩, 4, 4⟩, _, run_bsV hT [.int .u8 a, .int .u8 b, .int .u8 c, .int .u8 d] (one8 [a, b, c, d]) (by simp) (by simp) w, ?_⟩
  refine ⟨⟨some ⟨w.heap.size, 0, none⟩, 4, 4⟩, _, Go.Lib.run_convert_bytes_const w t e _ 4 4 hT.ut he, h _ _ (below_alloc w _) ⟨rfl, fun j u hu => ⟨_, rfl, ?_⟩⟩ rfl rfl⟩
  rw [add_lit, World.cell?_alloc_mark]
  simpa using hu
def OwnX (w1 : World) (e : Nat) (s : Sl) (xs : List Value) (L : List Blk) : Prop := OwnS e 1 s xs L ∨ (L = [] ∧ s.n = s.c ∧ SlAt w1 s 1 xs)
theorem OwnX.sl {e : Nat} {s : Sl} {xs : List Value} {L : List Blk} (h : OwnX w0 e s xs L) (hA : At w0 w ls) (hs : L.Sublist ls) : SlAt w s 1 xs := by
  rcases h with h | ⟨_, _, h⟩
  · exact h.sl hA hs
  · exact h.at hA
theorem OwnX.n {e : Nat} {s : Sl} {xs : List Value} {L : List Blk} (h : OwnX w0 e s xs L) : xs.length = s.n := by
  rcases h with h | ⟨_, _, h⟩
  · rw [h.1, Nat.mul_one]
  · rw [h.len, Nat.mul_one]
theorem r_appendX {t ty e by_ : Nat} (hT : SlT P t e 1 by_) {s y : Sl} {xs news : List Value} {L : List Blk} {k : Sl → World → Prop} (hA : At w0 w (L ++ ls)) (hX : OwnX w0 e s xs L) (hy : SlAt w y 1 news) (h1 : ∀ v ∈ news, oneC v = true) (hy1 : 1 ≤ y.n)
    (hbytes : (s.n + y.n) * by_ ≤ 140737488355328) (hmax : s.n + y.n ≤ 140737488355328) (h : ∀ s' w', SlO w0 w' ls e 1 s' (xs ++ news) → s'.n = s.n + y.n → k s' w') :
    ((real P R).sem (Builtin.append_ #[t, t] ty #[.slice s.a s.n s.c, .slice y.a y.n y.c]) .slice k : World → Prop) w := by
  rcases hX with hO | ⟨rfl, hfull, hs⟩
  · exact r_append hT (hO.slo hA) hy h1 hbytes hmax h
  have hs := hs.at hA
  have hA : At w0 w ls := hA
  obtain ⟨i, zv, hi, hz, hsz, hby, hzs⟩ := hT.ex
  have hmx : s.n + y.n ≤ maxLen := by unfold maxLen; omega
  have hsl : xs.length = s.n := by rw [hs.len, Nat.mul_one]
  have hyl : news.length = y.n := by rw [hy.len, Nat.mul_one]
  have hlen : (xs ++ news).length = (s.n + y.n) * 1 := by rw [List.length_append, hsl, hyl, Nat.mul_one]
  have hroom : ¬ s.n + y.n ≤ s.c := by omega
  have hfx := run_first (P := P) hs.drew'
  have h63' : ¬ (9223372036854775807 < ((s.n : Int) + (y.n : Int))) := by omega
  have hfit := growslice_fits (need := s.n + y.n) (old := s.c) (bytes := by_) (by omega) hbytes
  have h48' : ¬ (281474976710656 < Builtin.nextslicecap (s.n + y.n) s.c * i.bytes) := by rw [hby]; omega
  have hge := grownCap_ge w (s.n + y.n) s.c e
  have hcm := grownCap_le_maxLen w (s.n + y.n) s.c e hmx
  have hfy' := run_first (P := P) hy.drew'
  have hsz' : (xs.toArray ++ news.toArray ++ Builtin.zeroCells zv.cells (grownCap w (s.n + y.n) s.c e - (s.n + y.n))).size = grownCap w (s.n + y.n) s.c e * 1 := by
    simp only [Array.size_append, List.size_toArray, size_zeroCells, hzs, hsl, hyl]
    omega
  have htk : (xs.toArray ++ news.toArray ++ Builtin.zeroCells zv.cells (grownCap w (s.n + y.n) s.c e - (s.n + y.n))).toList.take (xs ++ news).length = xs ++ news := by
    simp only [Array.toList_append]
    exact List.take_left
  refine ⟨⟨some ⟨w.heap.size, 0, none⟩, s.n + y.n, grownCap w (s.n + y.n) s.c e⟩, w.drew.alloc (.cells (xs.toArray ++ news.toArray ++ Builtin.zeroCells zv.cells (grownCap w (s.n + y.n) s.c e - (s.n + y.n))) e), ?_,
    h _ _ (SlO.made hA ((drew_below w).trans ((below_alloc w.drew _).mono (Nat.le_refl _))) (heap_alloc_self w.drew _) (Nat.le_refl _) hlen hge hcm hsz' htk) rfl⟩
  simp only [Sh.emb]
  simp [Builtin.append_, run_underlying hT.ut, sizeOf, typeInfo, zeroValue, hi, hz, hsz, Builtin.lenOf, hroom, h63', h48', Question.forced, hfx, hfy', newRow, grownCap]
  congr 2
  apply Array.ext'
  simp
end
end Go.Sx
namespace Go.Proofs.YtkifkdkjljcclaaGreat
open Go.Sx Go.RowKit

theorem recsB_ok {B : List PB} (hv : validS B) (hb : ∀ b ∈ B, b.ok) : ∀ i, bytesOk (recsB B i)
  | 0 => fun x hx => by
    have hx : x ∈ [72, 84, 80, 49] := hx
    simp only [List.mem_cons, List.not_mem_nil, or_false] at hx
    omega
  | i + 1 => by
    cases hbi : B[i]? with
    | none =>
      have : recsB B (i + 1) = recsB B i := by
        show (match B[i]? with
          | some b => recsB B i ++ recB B b i
          | none => recsB B i) = _
        rw [hbi]
      rw [this]
      exact recsB_ok hv hb i
    | some b =>
      rw [recsB_succ hbi]
      have hbm := List.mem_of_getElem? hbi
      have hbk := hb b hbm
      refine (recsB_ok hv hb i).append ?_
      unfold recB
      refine bytesOk.append (bytesOk.append (bytesOk.append ?_ (leB_ok _ _)) ?_) fun x hx => hashL_ok _ _ x (List.mem_of_mem_take hx)
      · unfold headB
        split
        · rename_i y hy
          obtain ⟨c, h1, h2, _⟩ := chooseB_ok hy
          have h128 := hv.1
          have hl := (List.getElem?_eq_some_iff.1 h1).1
          intro x hx
          simp only [List.mem_cons, List.not_mem_nil, or_false] at hx
          have := hbk.2
          omega
        · intro x hx
          simp only [List.mem_cons, List.not_mem_nil, or_false] at hx
          have := hbk.2
          omega
      · unfold bodyB
        split
        · rename_i y hy
          obtain ⟨c, h1, h2, h3, _⟩ := chooseB_ok hy
          rw [h3]
          exact deltaB_ok (hv.2.1 c (List.mem_of_getElem? h1)) hbk.1
        · exact hbk.1
def baseB (B : List PB) (b : PB) (k : Nat) : Int := match chooseB B b k with
  | some x => (x.1 : Int)
  | none => -1
theorem baseB_lt {B : List PB} {b : PB} {k : Nat} : baseB B b k < 0 ↔ chooseB B b k = none := by
  unfold baseB
  cases chooseB B b k with
  | none => simp
  | some x => simp <;> omega
theorem SlO.down {w0 w : World} {ls : List Blk} {e z : Nat} {s : Sl} {xs : List Value} (h : SlO w0 w ls e z s xs) (l' : List Blk) (hs : l'.Sublist ls) : SlO w0 w l' e z s xs := by
  obtain ⟨L, hO, hA⟩ := h.split
  exact hO.slo (hA.take _ (hs.append_left L))
theorem c_l06Pack {w : World} {p : Addr} {B : List PB} {bs : List BR} (hs : SpecR w p (keysOf B) bs) (hpb : bs.map BR.pb = B) (hv : validS B) :
    Ret Tryz.prog n_spec_l06Pack [.pointer (some p)] w [.slice] (fun r w' => SlO w w' [] ty_uint8 1 r (u8s (packB B))) := spec_l06Pack_calls _ (by
  unfold spec_l06Pack
  obtain ⟨sk, sb, lk, lb, hK, hB⟩ := hs.ex
  have hkn := hK.n
  have hbn := hB.n
  have hbl : bs.length = B.length := by rw [← hpb]; simp
  have hKl : (keysOf B).length = B.length := keysOf_len B
  have h128 := hv.1
  have hBok : ∀ b ∈ B, b.ok := by rw [← hpb]; exact hB.pbs
  have hrl := recsB_len hv.2.1
  refine r_strLit4 T_sl_uint8 (by kernel_rfl) _ _ _ _ fun y14 wb hbb hy hyn hyc => ?_
  have hwb : At w wb [] := (At.refl w).trans hbb
  have lk := fun n => ldOk_below hbb (lk n)
  have lb := fun n => ldOk_below hbb (lb n)
  have hK := hK.below hbb
  have hB := hB.below hbb
  refine r_loop (σ := Sl × Int) (fun x w' => ∃ (i : Nat) (Lo : List Blk), x.2 = i ∧ i ≤ B.length ∧ OwnX wb ty_uint8 x.1 (u8s (recsB B i)) Lo ∧ At wb w' (Lo ++ [])) (fun x _ => (B.length - x.2).toNat) (y14, 0) rfl ⟨0, [], rfl, by omega, .inr ⟨rfl, hyn.trans hyc.symm, hy⟩, At.refl wb⟩ ?_
  clear hy hyn hyc
  rintro ⟨so, i⟩ w2 ⟨i, Lo, rfl, hi, hX, h⟩
  dsimp only at hX
  refine r_any fun _ => ?_
  dsimp only
  have hon : so.n = (recsB B i).length := by have := hX.n; simp [u8s] at this; omega
  have hri := hrl i
  refine r_ldN (sh := .slice) sb (ldOk_below h.below (lb 1)) ?_
  refine r_if ((i : Int) < (sb.n : Int)) rfl (fun hlt => ?_) (fun hge => ?_)
  · refine r_ldN (sh := .slice) sb (ldOk_below h.below (lb 1)) ?_
    obtain ⟨b, q, hbi, hbm, hq, hba, _⟩ := hB.bat (i := i) (by omega)
    have hBi : B[i]? = some b.pb := by rw [← hpb, List.getElem?_map, hbi]; rfl
    have hBm := List.mem_of_getElem? hBi
    have hdl : b.data.length ≤ 1024 := hv.2.1 _ hBm
    have hdn := hba.ok.bytes.n
    refine r_ix q hq (by omega) (by omega) ?_
    simp only [Int.toNat_natCast]
    refine r_ldN (sh := .slice) b.d (ldOk_below h.below (hba.d 1)) ?_
    refine r_loop (σ := Int × Sl × Int) (fun x w' => ∃ (k : Nat) (Lb : List Blk), x.1 = baseB B b.pb k ∧ x.2.2 = k ∧ k ≤ i ∧ (∀ {v : World} {X : List Blk}, At wb v (Lb ++ X) → BSl v x.2.1 (bodyB B b.pb k)) ∧ At wb w' (Lo ++ (Lb ++ []))) (fun x _ => (i - x.2.2).toNat) (-1, b.d, 0) rfl
      ⟨0, [], rfl, rfl, by omega, fun hA => hba.ok.bytes.at hA, h⟩ ?_
    clear h
    rintro ⟨bi, body, k⟩ w3 ⟨k, Lb, hbi0, hk0, hki, hbody, h⟩
    dsimp only at hbi0 hk0 hbody
    subst hk0
    subst hbi0
    refine r_any fun _ => ?_
    dsimp only
    have hbyn := (hbody h.pl1).n
    refine r_if ((k : Int) < (i : Int)) rfl (fun hlt2 => ?_) (fun hge2 => ?_)
    · refine r_draw h fun w4 h => ?_
      refine r_ldN (sh := .slice) sb (ldOk_below h.below (lb 1)) ?_
      obtain ⟨c, q2, hck, hcm, hq2, hca, _⟩ := hB.bat (i := k) (by omega)
      rw [hq] at hq2
      cases hq2
      have hBk : B[k]? = some c.pb := by rw [← hpb, List.getElem?_map, hck]; rfl
      have hcl : c.data.length ≤ 1024 := hv.2.1 _ (List.mem_of_getElem? hBk)
      refine r_ix q hq (by omega) (by omega) ?_
      simp only [Int.toNat_natCast]
      refine r_ldN (sh := .int .u8) c.tag (ldOk_below h.below (hca.tag 1)) ?_
      refine r_ldN (sh := .int .u8) b.tag (ldOk_below h.below (hba.tag 1)) ?_
      have hsucc := chooseB_succ B b.pb k
      rw [hBk] at hsucc
      dsimp only at hsucc
      have keep : chooseB B b.pb (k + 1) = chooseB B b.pb k → baseB B b.pb (k + 1) = baseB B b.pb k ∧ bodyB B b.pb (k + 1) = bodyB B b.pb k := fun e => by unfold baseB bodyB; rw [e]; exact ⟨rfl, rfl⟩
      have stay : ∀ {v : World} {R : List Value → World → Prop}, At wb v (Lo ++ (Lb ++ [])) → chooseB B b.pb (k + 1) = chooseB B b.pb k →
          (∃ s', embL [.int .i64, .slice, .int .i64] s' = [(.int .i64 (baseB B b.pb k)), (.slice body.a body.n body.c), (.int .i64 (IntKind.wrap .i64 ((k : Int) + 1)))] ∧ (∃ (k' : Nat) (Lb : List Blk), s'.1 = baseB B b.pb k' ∧ s'.2.2 = k' ∧ k' ≤ i ∧ (∀ {v : World} {X : List Blk}, At wb v (Lb ++ X) → BSl v s'.2.1 (bodyB B b.pb k')) ∧ At wb v (Lo ++ (Lb ++ []))) ∧ ((i : Int) - s'.2.2).toNat < ((i : Int) - (k : Int)).toNat) := fun {v} _ h e => by
        obtain ⟨f1, f2⟩ := keep e
        exact ⟨(baseB B b.pb k, body, ((k + 1 : Nat) : Int)), by rw [w64 (n := (k : Int) + 1) (by omega) (by omega)]; rfl, ⟨k + 1, Lb, f1.symm, rfl, by omega, by rw [f2]; exact hbody, h⟩, by dsimp only; omega⟩
      refine r_ne (fun hne => ?_) (fun heq => ?_)
      · exact stay (R := fun _ _ => True) h (by rw [hsucc, if_pos (by exact hne)])
      · rw [if_neg (by exact fun hh => hh heq)] at hsucc
        refine r_join (σ := Sl × Bool) (fun x w' => ∃ Lp, x.2 = decide ((deltaB c.data b.data).length ≤ 1024) ∧ OwnS ty_uint8 1 x.1 (u8s (deltaB c.data b.data)) Lp ∧ At wb w' (Lp ++ (Lo ++ (Lb ++ [])))) (fun x w5 hJ => ?_) ?_
        · obtain ⟨sp, fl⟩ := x
          obtain ⟨Lp, hfl, hOp, h⟩ := hJ
          dsimp only at hfl hOp
          subst hfl
          refine r_any fun _ => ?_
          dsimp only
          have hpn := ownS_n hOp
          have hdel := deltaB_len c.data b.data
          have new : ∀ {v : World} {R : List Value → World → Prop}, At wb v (Lp ++ (Lo ++ (Lb ++ []))) → chooseB B b.pb (k + 1) = some (k, deltaB c.data b.data) →
              (∃ s', embL [.int .i64, .slice, .int .i64] s' = [(.int .i64 (k : Int)), (.slice sp.a sp.n sp.c), (.int .i64 (IntKind.wrap .i64 ((k : Int) + 1)))] ∧ (∃ (k' : Nat) (Lb : List Blk), s'.1 = baseB B b.pb k' ∧ s'.2.2 = k' ∧ k' ≤ i ∧ (∀ {v : World} {X : List Blk}, At wb v (Lb ++ X) → BSl v s'.2.1 (bodyB B b.pb k')) ∧ At wb v (Lo ++ (Lb ++ []))) ∧ ((i : Int) - s'.2.2).toNat < ((i : Int) - (k : Int)).toNat) := fun {v} _ h e => by
            refine ⟨((k : Int), sp, ((k + 1 : Nat) : Int)), by rw [w64 (n := (k : Int) + 1) (by omega) (by omega)]; rfl, ⟨k + 1, Lp, ?_, rfl, by omega, ?_, h.pl1.dr2⟩, by dsimp only; omega⟩
            · unfold baseB; rw [e]
            · intro v X hA
              have : bodyB B b.pb (k + 1) = deltaB c.data b.data := by unfold bodyB; rw [e]
              rw [this]
              exact ownS_bytes hOp hA (List.sublist_append_left _ _) (deltaB_ok hcl hba.ok.bytes.ok)
          refine r_if ((deltaB c.data b.data).length ≤ 1024) rfl (fun hle => ?_) (fun hgt => ?_)
          · refine r_ldN (sh := .slice) b.d (ldOk_below h.below (hba.d 1)) ?_
            rw [w64 (n := (sp.n : Int) + 1) (by omega) (by omega)]
            refine r_if ((sp.n : Int) + 1 < (b.d.n : Int)) rfl (fun hw => ?_) (fun hw => ?_)
            · refine r_if (baseB B b.pb k < 0) rfl (fun hno => ?_) (fun hyes => ?_)
              · have hn := baseB_lt.1 hno
                refine new (R := fun _ _ => True) h ?_
                rw [hsucc, hn, if_pos ⟨hle, by show (deltaB c.data b.data).length + 1 < b.data.length; omega, by simp⟩]
                rfl
              · obtain ⟨y, hy⟩ : ∃ y, chooseB B b.pb k = some y := by
                  cases hc : chooseB B b.pb k with
                  | none => exact absurd (baseB_lt.2 hc) hyes
                  | some y => exact ⟨y, rfl⟩
                have hyl : y.2.length = body.n := by rw [hbyn]; unfold bodyB; rw [hy]
                refine r_if ((sp.n : Int) < (body.n : Int)) rfl (fun hlt3 => ?_) (fun hge3 => ?_)
                · refine new (R := fun _ _ => True) h ?_
                  rw [hsucc, hy, if_pos ⟨hle, by show (deltaB c.data b.data).length + 1 < b.data.length; omega, fun x hx => by
                    have hx : some y = some x := hx
                    cases hx
                    show (deltaB c.data b.data).length < y.2.length
                    omega⟩]
                  rfl
                · refine stay (R := fun _ _ => True) h.right ?_
                  rw [hsucc, if_neg (fun hh => by
                    have := hh.2.2 y hy
                    have : (deltaB c.data b.data).length < y.2.length := this
                    omega)]
            · refine stay (R := fun _ _ => True) h.right ?_
              rw [hsucc, if_neg (fun hh => by
                have : (deltaB c.data b.data).length + 1 < b.data.length := hh.2.1
                omega)]
          · refine stay (R := fun _ _ => True) h.right ?_
            rw [hsucc, if_neg (fun hh => hgt hh.1)]
        · refine r_draw h fun w5 h => ?_
          refine r_ldN (sh := .slice) sb (ldOk_below h.below (lb 1)) ?_
          refine r_ix q hq (by omega) (by omega) ?_
          simp only [Int.toNat_natCast]
          refine r_ldN (sh := .slice) c.d (ldOk_below h.below (hca.d 1)) ?_
          refine r_ldN (sh := .slice) b.d (ldOk_below h.below (hba.d 1)) ?_
          refine r_call h (c_l06Delta (hca.ok.bytes.below h.below) (hba.ok.bytes.below h.below) hcl hdl) fun r66 w6 h6 _ ⟨hS6, hf6⟩ => ?_
          obtain ⟨Lp, hOp, h⟩ := SlO.own_of h hS6
          refine r_chk1 (ldOk_below h.below (lb 1)) ?_
          exact ⟨(r66.1, r66.2), rfl, Lp, hf6, hOp, h⟩
    · have hkE : k = i := by omega
      subst hkE
      have hhl := headB_len B b.pb k
      have hbl2 := bodyB_len (B := B) (b := b.pb) (k := k) hdl
      refine r_join (σ := Sl) (fun x w' => SlO wb w' (Lb ++ []) ty_uint8 1 x (u8s (recsB B k ++ headB B b.pb k))) (fun x w4 hS => ?_) ?_
      · refine r_any fun _ => ?_
        have hxn := slO_n hS
        rw [List.length_append] at hxn
        have e1 : IntKind.wrap .u8 (Int.tmod (body.n : Int) 256) = ((bodyB B b.pb k).length : Int) % 256 := by rw [hbyn, Int.tmod_eq_emod_of_nonneg (by omega), wu8 (by omega) (by omega)]
        have e2 : IntKind.wrap .u8 (IntKind.wrap .i64 (Int.tdiv (body.n : Int) 256)) = ((bodyB B b.pb k).length : Int) / 256 := by rw [hbyn, Int.tdiv_eq_ediv_of_nonneg (by omega), w64 (by omega) (by omega), wu8 (by omega) (by omega)]
        rw [e1, e2]
        refine r_lit2 T_sl_uint8 _ _ fun y121 w5 hb5 h121 hn121 _ => ?_
        refine r_append T_sl_uint8 (hS.trans hb5) h121 (by simp [oneC]) (by omega) (by omega) fun y122 w6 hS hn122 => ?_
        refine r_append T_sl_uint8 hS (hbody hS.at_).sl u8s_one (by omega) (by omega) fun y125 w7 hS hn125 => ?_
        have hS : SlO wb w7 (Lb ++ []) ty_uint8 1 y125 (u8s (recsB B k ++ headB B b.pb k ++ leB (bodyB B b.pb k).length 2 ++ bodyB B b.pb k)) := by
          rw [le2 (by omega)]
          have e : u8s (recsB B k ++ headB B b.pb k) ++ [Value.int .u8 (((bodyB B b.pb k).length : Int) % 256), Value.int .u8 (((bodyB B b.pb k).length : Int) / 256)] ++ u8s (bodyB B b.pb k) = u8s (recsB B k ++ headB B b.pb k ++ [((bodyB B b.pb k).length : Int) % 256, ((bodyB B b.pb k).length : Int) / 256] ++ bodyB B b.pb k) := by simp [u8s]
          rw [← e]
          exact hS
        have hkey : (keysOf B)[k]? = some b.pb.key := keysOf_get hBi
        have hkl : b.pb.key.length = 32 := hashL_len _ _
        obtain ⟨kx, qk, hkx, _, hqk, _, hkld⟩ := hK.get (i := k) (by omega)
        rw [hkey] at hkx
        cases hkx
        refine r_loop (σ := Sl × Int) (fun x w' => ∃ j : Nat, x.2 = j ∧ j ≤ 4 ∧ SlO wb w' (Lb ++ []) ty_uint8 1 x.1 (u8s (recsB B k ++ headB B b.pb k ++ leB (bodyB B b.pb k).length 2 ++ bodyB B b.pb k ++ b.pb.key.take j))) (fun x _ => (4 - x.2).toNat) (y125, 0) rfl ⟨0, rfl, by omega, by simpa using hS⟩ ?_
        clear hS
        rintro ⟨sj, j⟩ w8 ⟨j, rfl, hj, hS⟩
        dsimp only at hS
        refine r_any fun _ => ?_
        dsimp only
        have hjn := slO_n hS
        simp only [List.length_append, leB_len, List.length_take] at hjn
        refine r_if ((j : Int) < 4) rfl (fun hlt3 => ?_) (fun hge3 => ?_)
        · refine r_ldN (sh := .slice) sk (ldOk_below hS.at_.below (lk 1)) ?_
          refine r_ix qk hqk (by omega) (by omega) ?_
          simp only [Int.toNat_natCast]
          refine r_ix _ rfl (by omega) (by omega) ?_
          simp only [Int.toNat_natCast]
          have hbyte : ldOk wb 1 ((qk.add (k * 32)).add (j * 1)) (.int .u8) (b.pb.key.getD j 0) := by
            rw [Nat.mul_one]
            exact hkld.2 j _ (u8s_arr (by omega))
          refine r_ldN (sh := .int .u8) (b.pb.key.getD j 0) (ldOk_below hS.at_.below hbyte) ?_
          refine r_push T_sl_uint8 hS rfl (by omega) (by simp [Value.cells, oneC]) (by omega) (by omega) fun y141 w9 hS hn141 => ?_
          refine ⟨(y141, ((j + 1 : Nat) : Int)), by rw [w64 (n := (j : Int) + 1) (by omega) (by omega)]; rfl, ⟨j + 1, rfl, by omega, ?_⟩, by dsimp only; omega⟩
          have e : u8s (recsB B k ++ headB B b.pb k ++ leB (bodyB B b.pb k).length 2 ++ bodyB B b.pb k ++ b.pb.key.take j) ++ (Value.int .u8 (b.pb.key.getD j 0)).cells.toList = u8s (recsB B k ++ headB B b.pb k ++ leB (bodyB B b.pb k).length 2 ++ bodyB B b.pb k ++ b.pb.key.take (j + 1)) := by
            rw [List.take_add_one, gD (l := b.pb.key) (i := j) (by omega)]
            simp [u8s, Value.cells]
          rw [← e]
          exact hS
        · have hj4 : j = 4 := by omega
          subst hj4
          obtain ⟨Ln, hOn, h⟩ := (SlO.down hS [] (List.nil_sublist _)).split
          refine ⟨(sj, ((k + 1 : Nat) : Int)), by rw [w64 (n := (k : Int) + 1) (by omega) (by omega)]; rfl, ⟨k + 1, Ln, rfl, by omega, .inl ?_, h⟩, by dsimp only; omega⟩
          have e : recsB B (k + 1) = recsB B k ++ headB B b.pb k ++ leB (bodyB B b.pb k).length 2 ++ bodyB B b.pb k ++ b.pb.key.take 4 := by
            rw [recsB_succ hBi]
            unfold recB
            simp only [List.append_assoc]
          rw [e]
          exact hOn
      · refine r_if (baseB B b.pb k < 0) rfl (fun hno => ?_) (fun hyes => ?_)
        · have hn := baseB_lt.1 hno
          refine r_ldN (sh := .int .u8) b.tag (ldOk_below h.below (hba.tag 1)) ?_
          refine r_lit2 T_sl_uint8 _ _ fun y101 w5 hb5 h101 hn101 _ => ?_
          refine r_appendX T_sl_uint8 (h.trans hb5) hX h101 (by simp [oneC]) (by omega) (by omega) (by omega) fun y102 w6 hS hn102 => ?_
          refine ⟨y102, rfl, ?_⟩
          have : headB B b.pb k = [0, b.tag] := by unfold headB; rw [hn]; rfl
          rw [this]
          simpa [u8s] using hS
        · obtain ⟨y, hy⟩ : ∃ y, chooseB B b.pb k = some y := by
            cases hc : chooseB B b.pb k with
            | none => exact absurd (baseB_lt.2 hc) hyes
            | some y => exact ⟨y, rfl⟩
          have hbase : baseB B b.pb k = (y.1 : Int) := by unfold baseB; rw [hy]
          obtain ⟨c, hc1, hc2, _⟩ := chooseB_ok hy
          refine r_ldN (sh := .int .u8) b.tag (ldOk_below h.below (hba.tag 1)) ?_
          rw [hbase, wu8 (x := (y.1 : Int)) (by omega) (by omega)]
          refine r_lit3 T_sl_uint8 _ _ _ fun y110 w5 hb5 h110 hn110 _ => ?_
          refine r_appendX T_sl_uint8 (h.trans hb5) hX h110 (by simp [oneC]) (by omega) (by omega) (by omega) fun y111 w6 hS hn111 => ?_
          refine ⟨y111, rfl, ?_⟩
          have : headB B b.pb k = [1, b.tag, (y.1 : Int)] := by unfold headB; rw [hy]; rfl
          rw [this]
          simpa [u8s] using hS
  · have hiB : i = B.length := by omega
    subst hiB
    refine r_call h (c_l01Hash 8 (hX.sl h (List.sublist_append_left _ _)) (recsB_ok hv hBok _) (by omega)) fun r143 w3 h _ hr => ?_
    subst hr
    have hkl : (hashL 8 (recsB B B.length)).length = 32 := hashL_len _ _
    refine r_new h fun b12 w4 h => ?_
    refine r_stA h 0 rfl rfl (by simp [hkl]) (by simp [Value.cells]) (by simpa using u8s_one) fun w5 h => ?_
    have h : At wb w5 ([(b12, (u8s (hashL 8 (recsB B B.length))).toArray, ty_impl_Key)] ++ (Lo ++ [])) := h
    refine r_ldN (sh := .slice) sb (ldOk_below h.below (lb 1)) ?_
    rw [show IntKind.wrap .u8 (sb.n : Int) = (B.length : Int) by rw [wu8 (by omega) (by omega)]; omega]
    refine r_lit2 T_sl_uint8 _ _ fun y151 w6 hb6 h151 hn151 _ => ?_
    have h := h.trans hb6
    refine r_appendX T_sl_uint8 h.pl1 hX h151 (by simp [oneC]) (by omega) (by omega) (by omega) fun y152 w7 hS hn152 => ?_
    refine r_loop (σ := Sl × Int) (fun x w' => ∃ j : Nat, x.2 = j ∧ j ≤ 32 ∧ SlO wb w' ([(b12, (u8s (hashL 8 (recsB B B.length))).toArray, ty_impl_Key)] ++ []) ty_uint8 1 x.1 (u8s (recsB B B.length ++ [2, (B.length : Int)] ++ (hashL 8 (recsB B B.length)).take j))) (fun x _ => (32 - x.2).toNat) (y152, 0) rfl ⟨0, rfl, by omega, by simpa [u8s] using hS⟩ ?_
    clear hS h
    rintro ⟨sj, j⟩ w8 ⟨j, rfl, hj, hS⟩
    dsimp only at hS
    refine r_any fun _ => ?_
    dsimp only
    have hjn := slO_n hS
    simp only [List.length_append, List.length_cons, List.length_nil, List.length_take] at hjn
    refine r_if ((j : Int) < 32) rfl (fun hlt3 => ?_) (fun hge3 => ?_)
    · refine r_ix _ rfl (by omega) (by omega) ?_
      simp only [Int.toNat_natCast]
      refine r_ld hS.at_ 0 rfl (by rw [Nat.mul_one]; exact add_lit _ _ _) ((hashL 8 (recsB B B.length)).getD j 0) (by simp [Sh.emb]) (by simp only [Nat.zero_add]; exact u8s_arr (by omega)) ?_
      refine r_push T_sl_uint8 hS rfl (by omega) (by simp [Value.cells, oneC]) (by omega) (by omega) fun y162 w9 hS hn162 => ?_
      refine ⟨(y162, ((j + 1 : Nat) : Int)), by rw [w64 (n := (j : Int) + 1) (by omega) (by omega)]; rfl, ⟨j + 1, rfl, by omega, ?_⟩, by dsimp only; omega⟩
      have e : u8s (recsB B B.length ++ [2, (B.length : Int)] ++ (hashL 8 (recsB B B.length)).take j) ++ (Value.int .u8 ((hashL 8 (recsB B B.length)).getD j 0)).cells.toList = u8s (recsB B B.length ++ [2, (B.length : Int)] ++ (hashL 8 (recsB B B.length)).take (j + 1)) := by
        rw [List.take_add_one, gD (l := hashL 8 (recsB B B.length)) (i := j) (by omega)]
        simp [u8s, Value.cells]
      rw [← e]
      exact hS
    · have hj4 : j = 32 := by omega
      subst hj4
      rw [List.take_of_length_le (by omega)] at hS
      obtain ⟨Ln, hOn, h⟩ := (SlO.down hS [] (List.nil_sublist _)).split
      have h := hwb.join h
      refine r_ret h.nil sj rfl (hOn.slo (ls := []) h.left))
end Go.Proofs.YtkifkdkjljcclaaGreat
