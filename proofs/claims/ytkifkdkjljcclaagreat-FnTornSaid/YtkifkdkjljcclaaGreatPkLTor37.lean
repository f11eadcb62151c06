/- Packs: records are read (the program). -/
import Derived.Test.YtkifkdkjljcclaaGreatPkLTor36
namespace Go.Proofs.YtkifkdkjljcclaaGreat
open Go.Sx Go.RowKit

theorem c_HasPrefix {w : World} {s t : Sl} {a b : List Int} (hs : BSl w s a) (ht : BSl w t b) : Ret Tryz.prog n_bytes_HasPrefix [.slice s.a s.n s.c, .slice t.a t.n t.c] w [.bool] (fun r _ => r = decide (a.take b.length = b)) := bytes_HasPrefix_calls _ _ (by
  unfold bytes_HasPrefix
  have hn := hs.n
  have hm := ht.n
  refine r_if ((s.n : Int) ≥ (t.n : Int)) rfl (fun hge => ?_) (fun hlt => ?_)
  · refine r_slPreG t.n rfl (by omega) hs.cap fun y14 hn14 _ hy14 => ?_
    refine r_call (At.refl w) (c_bytesEqual (hy14 hs) ht) fun r w1 h _ hr => ?_
    rw [hm] at hr
    exact r_ret h r rfl hr
  · refine r_ret (At.refl w) false rfl (decide_eq_false fun hh => ?_).symm
    have := congrArg List.length hh
    rw [List.length_take] at this
    omega)

abbrev PEn := List Int × Int × Int × Int
def penC (e : PEn) : List Value := u8s e.1 ++ [.int .i64 e.2.1, .int .i64 e.2.2.1, .int .i64 e.2.2.2]
theorem penC_len {e : PEn} (h : keyOk e.1) : (penC e).length = 35 := by unfold penC; rw [List.length_append, u8s_len, h.1]; rfl
theorem penC_one (e : PEn) : ∀ v ∈ penC e, oneC v = true := by
  intro v hv
  unfold penC at hv
  rcases List.mem_append.1 hv with h | h
  · exact u8s_one v h
  · simp only [List.mem_cons, List.not_mem_nil, or_false] at h
    rcases h with rfl | rfl | rfl <;> rfl
theorem T_sl_PackEntry : SlT Tryz.prog ty_sl_impl_PackEntry ty_impl_PackEntry 35 56 := slT_of (by kernel_rfl)
abbrev scC (sd : Sl) (a : Int) (sb se : Sl) : Array Value := #[.slice sd.a sd.n sd.c, .int .i64 a, .slice sb.a sb.n sb.c, .slice se.a se.n se.c]
theorem run_mkScan (sd : Sl) (w : World) : (Instr.build ty_impl_scan #[(0, (.slice sd.a sd.n sd.c)), (1, (.int .i64 4))]).run Tryz.prog w = .ok (.agg (scC sd 4 ⟨none, 0, 0⟩ ⟨none, 0, 0⟩)) w := by kernel_rfl
theorem run_mkPen (a : Int) (w : World) : (Instr.build ty_impl_PackEntry #[(1, (.int .i64 a)), (2, (.int .i64 (-1)))]).run Tryz.prog w = .ok (.agg (penC (zero32, a, -1, 0)).toArray) w := by kernel_rfl
theorem run_mkTag (t : Int) (w : World) : (Instr.build ty_impl_Blob #[(0, (.int .u8 t))]).run Tryz.prog w = .ok (.agg #[.int .u8 t, .slice none 0 0]) w := by kernel_rfl
theorem pen_key {e : PEn} (h : keyOk e.1) (k : List Int) : ((penC e).toArray.toList.take 0 ++ (u8s k).toArray.toList ++ (penC e).toArray.toList.drop (0 + 32)).toArray = (penC (k, e.2)).toArray := by
  have e1 : (u8s e.1).length = 32 := by rw [u8s_len]; exact h.1
  unfold penC
  simp only [List.take_zero, List.nil_append]
  rw [Nat.zero_add, List.drop_left' e1]
theorem pen_base {e : PEn} (h : keyOk e.1) (x : Int) : (penC e).toArray.setIfInBounds 33 (.int .i64 x) = (penC (e.1, e.2.1, x, e.2.2.2)).toArray := by
  have e1 : (u8s e.1).length = 32 := by rw [u8s_len]; exact h.1
  apply Array.ext'
  rw [Array.toList_setIfInBounds]
  show (u8s e.1 ++ [Value.int .i64 e.2.1, Value.int .i64 e.2.2.1, Value.int .i64 e.2.2.2]).set 33 _ = _
  rw [List.set_append_right _ _ (by omega), e1]
  rfl
theorem pen_depth {e : PEn} (h : keyOk e.1) (x : Int) : (penC e).toArray.setIfInBounds 34 (.int .i64 x) = (penC (e.1, e.2.1, e.2.2.1, x)).toArray := by
  have e1 : (u8s e.1).length = 32 := by rw [u8s_len]; exact h.1
  apply Array.ext'
  rw [Array.toList_setIfInBounds]
  show (u8s e.1 ++ [Value.int .i64 e.2.1, Value.int .i64 e.2.2.1, Value.int .i64 e.2.2.2]).set 34 _ = _
  rw [List.set_append_right _ _ (by omega), e1]
  rfl
theorem pen_d34 {e : PEn} (h : keyOk e.1) : (penC e)[34]? = some (.int .i64 e.2.2.2) := by
  have e1 : (u8s e.1).length = 32 := by rw [u8s_len]; exact h.1
  unfold penC
  rw [List.getElem?_append_right (by omega), e1]
  rfl
theorem zero32_keyOk : keyOk zero32 := ⟨by simp [zero32], fun b hb => by
  have := List.eq_of_mem_replicate hb
  omega⟩
structure ScanR (w : World) (p : Addr) (sd sb se : Sl) (a : Nat) (bs : List BR) (E : List PEn) : Prop where
  l0 : ldOk w 1 (p.add 0) .slice sd
  l1 : ldOk w 1 (p.add 1) (.int .i64) (a : Int)
  l2 : ldOk w 1 (p.add 2) .slice sb
  l3 : ldOk w 1 (p.add 3) .slice se
  hB : BsR w sb bs
  hE : SlOf w se 35 penC E
  ek : ∀ e ∈ E, keyOk e.1
theorem c_newScan {w : World} {sd : Sl} {d : List Int} (hd : BSl w sd d) (hmax : d.length ≤ 140000) :
    Ret Tryz.prog n_impl_newScan [.slice sd.a sd.n sd.c] w [.optr, .int .i64] (fun r w' => (d.take 4 = [72, 84, 80, 49] ∧ r.2 = 0 ∧ ∃ b, r.1 = some ⟨b, 0, none⟩ ∧ At w w' [(b, scC sd 4 ⟨none, 0, 0⟩ ⟨none, 0, 0⟩, ty_impl_scan)]) ∨ (d.take 4 ≠ [72, 84, 80, 49] ∧ r = (none, 5))) := impl_newScan_calls _ (by
  unfold impl_newScan
  have hn := hd.n
  refine r_if ((sd.n : Int) > 140000) rfl (fun hh => absurd hh (by omega)) (fun _ => ?_)
  refine r_strLit4 T_sl_uint8 (by kernel_rfl) _ _ _ _ fun y10 w1 hb1 h10 hn10 hc10 => ?_
  have h := (At.refl w).trans hb1
  have hl : BSl w1 y10 [72, 84, 80, 49] := ⟨h10, (by intro b hb; simp only [List.mem_cons, List.not_mem_nil, or_false] at hb; omega), by omega⟩
  refine r_call h (c_HasPrefix (hd.at h) hl) fun r12 w2 h _ hr => ?_
  subst hr
  by_cases he : d.take 4 = [72, 84, 80, 49]
  · refine r_false (by rw [decide_eq_true (by exact he)]; rfl) ?_
    refine r_pur (sh := .agg) _ (fun w' => run_mkScan sd w') ?_
    refine r_new h fun b16 w3 h => ?_
    exact r_ret h.nil (some ⟨b16, 0, none⟩, (0 : Int)) rfl (.inl ⟨he, rfl, b16, rfl, h⟩)
  · refine r_true (by rw [decide_eq_false (by exact he)]; rfl) ?_
    exact r_ret h.nil (none, (5 : Int)) rfl (.inr ⟨he, rfl⟩))
def RecQ (w : World) (d : List Int) (a : Nat) (B : List PB) (r : Array Value × Array Value × Int × Bool × Bool) (w' : World) : Prop :=
  r.1.size = 2 ∧ (∀ v ∈ r.1.toList, oneC v = true) ∧ r.2.1.size = 35 ∧ (∀ v ∈ r.2.1.toList, oneC v = true) ∧
  ((recP d a B = none ∧ r.2.2.2.2 = false) ∨ ∃ b x fin, recP d a B = some (b, x, fin) ∧ r.2.2.2.2 = true ∧ r.2.2.1 = (fin : Int) ∧ r.2.2.2.1 = decide (rightP d B b fin) ∧
    ∃ (br : BR) (L : List Blk) (e : PEn), r.1 = br.cells.toArray ∧ br.pb = b ∧ b.ok ∧ OwnS ty_uint8 1 br.d (u8s br.data) L ∧ At w w' L ∧ r.2.1 = (penC e).toArray ∧ e.1 = b.key)
abbrev RC (w : World) (d : List Int) (a : Nat) (B : List PB) := real Tryz.prog (RR w [.agg, .agg, .int .i64, .bool, .bool] (RecQ w d a B))
theorem fail_rec {w v : World} {d : List Int} {a : Nat} {B : List PB} {b2 b3 b8 : Nat} {c2 c3 : Array Value} {e : PEn} {X : List Blk} (h : At w v ([(b8, (penC e).toArray, ty_impl_PackEntry), (b3, c3, ty_impl_PackEntry), (b2, c2, ty_impl_Blob)] ++ X)) (he : keyOk e.1) (h3 : c3.size = 35) (h2 : c2.size = 2) (hn : recP d a B = none) :
    ((RC w d a B).draw <|
     (RC w d a B).pur (Instr.build ty_impl_Blob #[]) .agg fun y42 =>
     (RC w d a B).ld .agg 35 (Addr.mk b8 0 none) fun v43 =>
     (RC w d a B).st 2 (Addr.mk b2 0 none) (.agg y42) <|
     (RC w d a B).chk [⟨1, 35, (Addr.mk b8 0 none), .agg, v43⟩] <|
     (RC w d a B).st 35 (Addr.mk b3 0 none) (.agg v43) <|
     (RC w d a B).ld .agg 2 (Addr.mk b2 0 none) fun z14 =>
     (RC w d a B).ld .agg 35 (Addr.mk b3 0 none) fun z15 =>
     (RC w d a B).ret (.tuple #[(.agg z14), (.agg z15), (.int .i64 0), (.bool false), (.bool false)]) : World → Prop) v := by
  have hpl : (penC e).toArray.size = 35 := by simpa using penC_len he
  refine r_draw h fun v1 h => ?_
  refine r_pur (sh := .agg) _ run_noBlob ?_
  refine r_ldA h 0 rfl rfl hpl ?_
  refine r_stA h 2 rfl rfl rfl h2 (by simp [oneC]) fun v2 h => ?_
  have h : At w v2 ([(b8, (penC e).toArray, ty_impl_PackEntry), (b3, c3, ty_impl_PackEntry), (b2, #[.int .u8 0, .slice none 0 0], ty_impl_Blob)] ++ X) := h
  refine r_chk1 (ldOk_blk h 0 rfl hpl) ?_
  refine r_stA h 1 rfl rfl hpl h3 (by simpa using penC_one e) fun v3 h => ?_
  have h : At w v3 ([(b8, (penC e).toArray, ty_impl_PackEntry), (b3, (penC e).toArray, ty_impl_PackEntry), (b2, #[.int .u8 0, .slice none 0 0], ty_impl_Blob)] ++ X) := h
  refine r_ldA h 2 rfl rfl rfl ?_
  refine r_ldA h 1 rfl rfl hpl ?_
  exact r_ret h.nil (#[.int .u8 0, .slice none 0 0], (penC e).toArray, (0 : Int), false, false) rfl ⟨rfl, by simp [oneC], hpl, by simpa using penC_one e, .inl ⟨hn, rfl⟩⟩
theorem c_record {w : World} {p : Addr} {sd sb se : Sl} {a : Nat} {d : List Int} {bs : List BR} {E : List PEn} {B : List PB} (hr : ScanR w p sd sb se a bs E) (hpb : bs.map BR.pb = B) (hE : E.map (·.1) = keysOf B) (hd : BSl w sd d) (ha : a ≤ d.length) (hmax : d.length ≤ 140000) (h128 : B.length ≤ 128) (hv : ∀ b ∈ B, b.data.length ≤ 1024) :
    Ret Tryz.prog n_ptr_impl_scan_record [.pointer (some p)] w [.agg, .agg, .int .i64, .bool, .bool] (RecQ w d a B) := ptr_impl_scan_record_calls _ (by
  unfold ptr_impl_scan_record
  have hdn := hd.n
  have hdc := hd.cap
  have hBn := hr.hB.n
  have hEn := hr.hE.n
  have hbl : bs.length = B.length := by rw [← hpb]; simp
  have hEl : E.length = B.length := by have := congrArg List.length hE; rwa [List.length_map, keysOf_len] at this
  have hBok : ∀ b ∈ B, b.ok := by rw [← hpb]; exact hr.hB.pbs
  refine r_new (At.refl w) fun b2 w1 h => ?_
  refine r_new h fun b3 w2 h => ?_
  refine r_draw h fun w3 h => ?_
  refine r_ldN (sh := .slice) sd (ldOk_below h.below hr.l0) ?_
  refine r_ldN (sh := .int .i64) (a : Int) (ldOk_below h.below hr.l1) ?_
  refine r_slSufG a rfl (by omega) hdc fun y27 hn27 _ hy27 => ?_
  have hR := hy27 hd
  have hrl : (d.drop a).length = d.length - a := List.length_drop
  generalize hrest : d.drop a = rest at hR hrl
  have hRn := hR.n
  have hRc := hR.cap
  refine r_ldN (sh := .int .i64) (a : Int) (ldOk_below h.below hr.l1) ?_
  refine r_pur (sh := .agg) _ (run_mkPen (a : Int)) ?_
  have hz32 := zero32_keyOk
  have hp0 : (penC (zero32, (a : Int), -1, 0)).toArray.size = 35 := by simpa using penC_len (e := (zero32, (a : Int), -1, 0)) hz32
  refine r_new h fun b8 w4 h => ?_
  refine r_stA h 0 rfl rfl hp0 rfl (by simpa using penC_one (zero32, (a : Int), -1, 0)) fun w5 h => ?_
  obtain ⟨c2, hc2⟩ : ∃ c2 : Array Value, c2 = #[.int .u8 0, .slice none 0 0] := ⟨_, rfl⟩
  obtain ⟨c3, hc3⟩ : ∃ c3 : Array Value, c3 = #[.int .u8 0, .int .u8 0, .int .u8 0, .int .u8 0, .int .u8 0, .int .u8 0, .int .u8 0, .int .u8 0, .int .u8 0, .int .u8 0, .int .u8 0, .int .u8 0, .int .u8 0, .int .u8 0, .int .u8 0, .int .u8 0, .int .u8 0, .int .u8 0, .int .u8 0, .int .u8 0, .int .u8 0, .int .u8 0, .int .u8 0, .int .u8 0, .int .u8 0, .int .u8 0, .int .u8 0, .int .u8 0, .int .u8 0, .int .u8 0, .int .u8 0, .int .u8 0, .int .i64 0, .int .i64 0, .int .i64 0] := ⟨_, rfl⟩
  have h : At w w5 ([(b8, (penC (zero32, (a : Int), -1, 0)).toArray, ty_impl_PackEntry), (b3, c3, ty_impl_PackEntry), (b2, c2, ty_impl_Blob)] ++ []) := by
    rw [hc2, hc3]
    exact h
  have s2 : c2.size = 2 := by rw [hc2]; rfl
  have s3 : c3.size = 35 := by rw [hc3]; rfl
  clear hc2 hc3
  have byte : ∀ i, i < rest.length → ∃ q, y27.a = some q ∧ ldOk w 1 (q.add (i * 1)) (.int .u8) (rest.getD i 0) := fun i hi => by
    obtain ⟨q, hq, hl⟩ := hR.byte hi
    exact ⟨q, hq, hl 1⟩
  have g_ : ∀ i, 0 ≤ rest.getD i 0 ∧ rest.getD i 0 < 256 := fun i => hR.ok.get i
  -- what the plain reader says, by the rest
  have hP : recP d a B = (if rest.length < 2 ∨ 1 < rest.getD 0 0 then none
      else if rest.getD 0 0 = 1 then
        if rest.length < 5 then none
        else if rest.length < 5 + (rest.getD 3 0 + 256 * rest.getD 4 0).toNat + 4 then none
        else match B[(rest.getD 2 0).toNat]? with
          | none => none
          | some c => match applyP c.data ((rest.drop 5).take (rest.getD 3 0 + 256 * rest.getD 4 0).toNat) with
            | none => none
            | some m => some (⟨rest.getD 1 0, m⟩, rest.getD 2 0, a + 5 + (rest.getD 3 0 + 256 * rest.getD 4 0).toNat + 4)
      else
        if rest.length < 4 then none
        else if rest.length < 4 + (rest.getD 2 0 + 256 * rest.getD 3 0).toNat + 4 then none
        else if 1024 < (rest.getD 2 0 + 256 * rest.getD 3 0).toNat then none
        else some (⟨rest.getD 1 0, (rest.drop 4).take (rest.getD 2 0 + 256 * rest.getD 3 0).toNat⟩, -1, a + 4 + (rest.getD 2 0 + 256 * rest.getD 3 0).toNat + 4)) := by
    unfold recP
    rw [hrest]
    rfl
  refine r_join (σ := Bool) (fun x w' => x = decide (rest.length < 2 ∨ 1 < rest.getD 0 0) ∧ w' = w5) (fun x w6 hJ => ?_) ?_
  rotate_left
  · refine r_if ((y27.n : Int) < 2) rfl (fun c => ⟨true, rfl, (decide_eq_true (.inl (by omega))).symm, rfl⟩) (fun c => ?_)
    obtain ⟨q, hq, hl⟩ := byte 0 (by omega)
    refine r_ix q hq (by omega) (by omega) ?_
    refine r_ldN (sh := .int .u8) (rest.getD 0 0) (ldOk_below h.below hl) ?_
    exact ⟨_, rfl, decide_eq_decide.2 ⟨fun hh => .inr hh, fun hh => hh.resolve_left (by omega)⟩, rfl⟩
  obtain ⟨rfl, rfl⟩ := hJ
  refine r_any fun _ => ?_
  refine r_if (rest.length < 2 ∨ 1 < rest.getD 0 0) rfl (fun hbad => ?_) (fun hgood => ?_)
  · exact fail_rec h hz32 s3 s2 (by rw [hP, if_pos hbad])
  rw [if_neg hgood] at hP
  obtain ⟨q, hq, hl0⟩ := byte 0 (by omega)
  have byte : ∀ i, i < rest.length → ldOk w 1 (q.add (i * 1)) (.int .u8) (rest.getD i 0) := fun i hi => by
    obtain ⟨q', hq', hl⟩ := byte i hi
    rw [hq] at hq'
    cases hq'
    exact hl
  refine r_ix q hq (by omega) (by omega) ?_
  refine r_ldN (sh := .int .u8) (rest.getD 0 0) (ldOk_below h.below hl0) ?_
  obtain ⟨H, hH, hH1, hH2⟩ : ∃ H : Nat, (H = 4 ∨ H = 5) ∧ (rest.getD 0 0 = 1 → H = 5) ∧ (rest.getD 0 0 ≠ 1 → H = 4) := by
    by_cases h1 : rest.getD 0 0 = 1
    · exact ⟨5, .inr rfl, fun _ => rfl, fun hh => absurd h1 hh⟩
    · exact ⟨4, .inl rfl, fun hh => absurd hh h1, fun _ => rfl⟩
  refine r_join (σ := Int) (fun x w' => x = (H : Int) ∧ w' = w6) (fun x w7 hJ => ?_) ?_
  rotate_left
  · refine r_eq (fun h1 => ⟨5, rfl, by rw [hH1 h1]; rfl, rfl⟩) (fun h1 => ⟨4, rfl, by rw [hH2 h1]; rfl, rfl⟩)
  obtain ⟨rfl, rfl⟩ := hJ
  refine r_any fun _ => ?_
  refine r_if ((y27.n : Int) < (H : Int)) rfl (fun hsh => ?_) (fun hlg => ?_)
  · refine fail_rec h hz32 s3 s2 ?_
    rw [hP]
    by_cases h1 : rest.getD 0 0 = 1
    · rw [if_pos h1, if_pos (by have := hH1 h1; omega)]
    · rw [if_neg h1, if_pos (by have := hH2 h1; omega)]
  rw [w64 (n := (H : Int) - 2) (by omega) (by omega), show (H : Int) - 2 = ((H - 2 : Nat) : Int) by omega]
  refine r_slG (H - 2) H rfl rfl (by omega) (by omega) fun y59 hn59 _ hy59 => ?_
  have h59 := hy59 hR (by omega)
  rw [show H - (H - 2) = 2 by omega, take2 (by omega), show H - 2 + 1 = H - 1 by omega] at h59
  refine r_call h (c_littleNumber (h59.at h).sl h59.ok (by simp)) fun r60 w8 h _ hr60 => ?_
  subst hr60
  rw [show ([rest.getD (H - 2) 0, rest.getD (H - 1) 0] : List Int).length = 2 from rfl, vLE2]
  have gx := g_ (H - 2)
  have gy := g_ (H - 1)
  obtain ⟨N, hN⟩ : ∃ N : Nat, rest.getD (H - 2) 0 + 256 * rest.getD (H - 1) 0 = N := ⟨(rest.getD (H - 2) 0 + 256 * rest.getD (H - 1) 0).toNat, by omega⟩
  rw [hN]
  have hN1 : rest.getD 0 0 = 1 → (rest.getD 3 0 + 256 * rest.getD 4 0).toNat = N := fun h1 => by
    have := hH1 h1
    subst this
    have hN : rest.getD 3 0 + 256 * rest.getD 4 0 = N := hN
    omega
  have hN2 : rest.getD 0 0 ≠ 1 → (rest.getD 2 0 + 256 * rest.getD 3 0).toNat = N := fun h1 => by
    have := hH2 h1
    subst this
    have hN : rest.getD 2 0 + 256 * rest.getD 3 0 = N := hN
    omega
  have hNb : N < 65536 := by omega
  have e1 : IntKind.wrap .i64 (N : Int) = (N : Int) := w64 (by omega) (by omega)
  have e2 : IntKind.wrap .i64 ((H : Int) + (N : Int)) = ((H + N : Nat) : Int) := by rw [w64 (by omega) (by omega)]; omega
  have e3 : IntKind.wrap .i64 (((H + N : Nat) : Int) + 4) = ((H + N + 4 : Nat) : Int) := by rw [w64 (by omega) (by omega)]; omega
  simp only [e1, e2, e3]
  refine r_if ((y27.n : Int) < ((H + N + 4 : Nat) : Int)) rfl (fun hsh => ?_) (fun hlg2 => ?_)
  · refine fail_rec h hz32 s3 s2 ?_
    rw [hP]
    by_cases h1 : rest.getD 0 0 = 1
    · rw [if_pos h1, if_neg (by have := hH1 h1; omega), hN1 h1, if_pos (by have := hH1 h1; omega)]
    · rw [if_neg h1, if_neg (by have := hH2 h1; omega), hN2 h1, if_pos (by have := hH2 h1; omega)]
  refine r_join (σ := Addr × Sl) (fun x w' => ∃ b12, x.1 = ⟨b12, 0, none⟩ ∧ BSl w x.2 ((rest.drop H).take N) ∧ At w w' ([(b8, (penC (zero32, (a : Int), -1, 0)).toArray, ty_impl_PackEntry), (b3, c3, ty_impl_PackEntry), (b2, c2, ty_impl_Blob)] ++ ([(b12, #[.int .u8 (rest.getD 1 0), .slice none 0 0], ty_impl_Blob)] ++ []))) (fun x w9 hJ => ?_) ?_
  rotate_left
  · refine r_draw h fun w9 h => ?_
    refine r_ix q hq (by omega) (by omega) ?_
    refine r_ldN (sh := .int .u8) (rest.getD 1 0) (ldOk_below h.below (byte 1 (by omega))) ?_
    refine r_pur (sh := .agg) _ (run_mkTag _) ?_
    refine r_slG H (H + N) rfl rfl (by omega) (by omega) fun y80 hn80 _ hy80 => ?_
    have h80 := hy80 hR (by omega)
    rw [show H + N - H = N by omega] at h80
    refine r_new h fun b12 w10 h => ?_
    refine r_chk1 (ldOk_below h.below (byte 1 (by omega))) ?_
    refine r_stA h 0 rfl rfl rfl rfl (by simp [oneC]) fun w11 h => ?_
    have h : At w w11 ([(b12, #[.int .u8 (rest.getD 1 0), .slice none 0 0], ty_impl_Blob)] ++ ([(b8, (penC (zero32, (a : Int), -1, 0)).toArray, ty_impl_PackEntry), (b3, c3, ty_impl_PackEntry), (b2, c2, ty_impl_Blob)] ++ [])) := h
    exact ⟨(⟨b12, 0, none⟩, y80), rfl, b12, rfl, h80, h.pl1⟩
  obtain ⟨x12, y80⟩ := x
  obtain ⟨b12, hx12, h80, h⟩ := hJ
  dsimp only at hx12 h80
  subst hx12
  refine r_any fun _ => ?_
  dsimp only
  have g1 := g_ 1
  refine r_join (σ := Unit) (fun _ w' => ∃ (br : BR) (x : Int) (e : PEn) (L : List Blk), recP d a B = some (br.pb, x, a + H + N + 4) ∧ br.pb.ok ∧ br.data.length ≤ 1024 ∧ OwnS ty_uint8 1 br.d (u8s br.data) L ∧ keyOk e.1 ∧ At w w' ([(b8, (penC e).toArray, ty_impl_PackEntry), (b3, c3, ty_impl_PackEntry), (b2, c2, ty_impl_Blob)] ++ ([(b12, br.cells.toArray, ty_impl_Blob)] ++ (L ++ [])))) (fun _ w10 hJ => ?_) ?_
  rotate_left
  · refine r_eq (fun h1 => ?_) (fun h1 => ?_)
    · have hH5 := hH1 h1
      subst hH5
      rw [if_pos h1, if_neg (by omega), hN1 h1, if_neg (by omega)] at hP
      have gb := g_ 2
      obtain ⟨bi, hbi⟩ : ∃ bi : Nat, rest.getD 2 0 = bi := ⟨(rest.getD 2 0).toNat, by omega⟩
      refine r_ix q hq (by omega) (by omega) ?_
      refine r_ldN (sh := .int .u8) (rest.getD 2 0) (ldOk_below h.below (byte 2 (by omega))) ?_
      refine r_ldN (sh := .slice) sb (ldOk_below h.below hr.l2) ?_
      rw [hbi] at hP ⊢
      simp only [Int.toNat_natCast] at hP
      rw [w64 (n := (bi : Int)) (by omega) (by omega)]
      refine r_if ((bi : Int) ≥ (sb.n : Int)) rfl (fun hge => ?_) (fun hlt => ?_)
      · exact fail_rec h hz32 s3 s2 (by rw [hP, List.getElem?_eq_none (by omega)])
      obtain ⟨c, qc, hc, hcm, hqc, hca, _⟩ := hr.hB.bat (i := bi) (by omega)
      have hBc : B[bi]? = some c.pb := by rw [← hpb, List.getElem?_map, hc]; rfl
      rw [hBc] at hP
      dsimp only at hP
      have hcl : c.data.length ≤ 1024 := hv _ (List.mem_of_getElem? hBc)
      refine r_ldN (sh := .slice) sb (ldOk_below h.below hr.l2) ?_
      refine r_ix qc hqc (by omega) (by omega) ?_
      simp only [Int.toNat_natCast]
      refine r_ldN (sh := .slice) c.d (ldOk_below h.below (hca.d 1)) ?_
      have hpl : ((rest.drop 5).take N).length = N := by rw [List.length_take, List.length_drop]; omega
      refine r_call h (c_apply (hca.ok.bytes.below h.below) (h80.at h) hcl (by omega)) fun r105 w11 h11 _ hA => ?_
      rcases hA with ⟨m, hm, hr0, hSm, hmb⟩ | ⟨hm, hr0⟩
      · have hP' : recP d a B = some (⟨rest.getD 1 0, m⟩, (bi : Int), a + 5 + N + 4) := by
          rw [hP]
          have : applyP c.pb.data ((rest.drop 5).take N) = some m := hm
          rw [this]
        have hml : m.length ≤ 1024 := (recP_fin hP').2.2.1
        rw [hr0]
        refine r_false rfl ?_
        obtain ⟨Lm, hOm, h⟩ := SlO.own_of h hSm
        have h := h.pl2
        refine r_ldN (sh := .slice) se (ldOk_below h.below hr.l3) ?_
        obtain ⟨eb, heb⟩ : ∃ eb, E[bi]? = some eb := ⟨_, List.getElem?_eq_getElem (by omega)⟩
        obtain ⟨qe, hqe, _⟩ := hr.hE.cell heb
        refine r_ix qe hqe (by omega) (by omega) ?_
        simp only [Int.toNat_natCast]
        have hdep := hr.hE.fld heb hqe (sh := .int .i64) (y := eb.2.2.2) 34 (pen_d34 (hr.ek eb (List.mem_of_getElem? heb))) (by simp [Sh.emb]) (n := 1)
        refine r_ldN (sh := .int .i64) eb.2.2.2 (by rw [Go.Deep.add_add]; exact ldOk_below h.below hdep) ?_
        refine r_st h 0 rfl (add_lit _ _ _) (by simp) rfl fun w12 h => ?_
        have h : At w w12 ([(b12, #[.int .u8 (rest.getD 1 0), .slice r105.1.a r105.1.n r105.1.c], ty_impl_Blob)] ++ (Lm ++ ([(b8, (penC (zero32, (a : Int), -1, 0)).toArray, ty_impl_PackEntry), (b3, c3, ty_impl_PackEntry), (b2, c2, ty_impl_Blob)] ++ []))) := h
        have h := h.pl2
        refine r_st h 0 rfl (add_lit _ _ _) (by rw [hp0]; decide) rfl fun w13 h => ?_
        rw [pen_base hz32] at h
        have h : At w w13 ((b8, (penC (zero32, (a : Int), (bi : Int), 0)).toArray, ty_impl_PackEntry) :: ([(b3, c3, ty_impl_PackEntry), (b2, c2, ty_impl_Blob)] ++ ([(b12, #[.int .u8 (rest.getD 1 0), .slice r105.1.a r105.1.n r105.1.c], ty_impl_Blob)] ++ (Lm ++ [])))) := h
        refine r_st h 0 rfl (add_lit _ _ _) (by simpa using (penC_len (e := (zero32, (a : Int), (bi : Int), 0)) hz32 ▸ (by decide : 34 < 35))) rfl fun w14 h => ?_
        rw [pen_depth (e := (zero32, (a : Int), (bi : Int), 0)) hz32] at h
        refine ⟨(), rfl, ⟨rest.getD 1 0, r105.1, m⟩, (bi : Int), _, Lm, hP', ⟨hmb, g1.1, g1.2⟩, hml, hOm, hz32, h⟩
      · rw [show (r105.2 != 0) = true by simpa using hr0]
        refine r_true rfl ?_
        refine fail_rec h11 hz32 s3 s2 ?_
        rw [hP]
        have : applyP c.pb.data ((rest.drop 5).take N) = none := hm
        rw [this]
    · have hH4 := hH2 h1
      subst hH4
      rw [if_neg h1, if_neg (by omega), hN2 h1, if_neg (by omega)] at hP
      refine r_if ((N : Int) > 1024) rfl (fun hgt => ?_) (fun hle => ?_)
      · exact fail_rec h hz32 s3 s2 (by rw [hP, if_pos (by omega)])
      rw [if_neg (by omega)] at hP
      have hpl : ((rest.drop 4).take N).length = N := by rw [List.length_take, List.length_drop]; omega
      refine r_call h (c_CloneBytes (h80.at h) (by omega)) fun r131 w11 h11 _ ⟨hSm, _⟩ => ?_
      obtain ⟨Lm, hOm, h⟩ := SlO.own_of h hSm
      have h := h.pl2
      refine r_st h 0 rfl (add_lit _ _ _) (by simp) rfl fun w12 h => ?_
      have h : At w w12 ([(b12, #[.int .u8 (rest.getD 1 0), .slice r131.a r131.n r131.c], ty_impl_Blob)] ++ (Lm ++ ([(b8, (penC (zero32, (a : Int), -1, 0)).toArray, ty_impl_PackEntry), (b3, c3, ty_impl_PackEntry), (b2, c2, ty_impl_Blob)] ++ []))) := h
      exact ⟨(), rfl, ⟨rest.getD 1 0, r131, (rest.drop 4).take N⟩, -1, _, Lm, hP, ⟨h80.ok, g1.1, g1.2⟩, by dsimp only; omega, hOm, hz32, h.pl2⟩
  obtain ⟨br, x, e, L, hrec, hbok, hbrl, hOL, hek, h⟩ := hJ
  refine r_any fun _ => ?_
  have hbr : br.Ok w10 := ⟨ownS_bytes hOL h.pl2 (List.sublist_append_left _ _) hbok.1, hbok.2.1, hbok.2.2⟩
  refine r_ldN br.cells.toArray (ldOk_blk h.pl1 0 rfl rfl) ?_
  refine r_call h (c_Blob_key hbr (by omega)) fun r134 w11 h _ hr134 => ?_
  subst hr134
  have hkl : br.pb.key.length = 32 := hashL_len _ _
  have hko : keyOk br.pb.key := ⟨hkl, hashL_ok _ _⟩
  have hpe : (penC e).toArray.size = 35 := by simpa using penC_len hek
  refine r_stP h 0 rfl (add_lit _ _ _) (by simp [hkl]) (by rw [hpe]; decide) (by simpa using u8s_one) fun w12 h => ?_
  rw [pen_key hek] at h
  generalize he' : ((br.pb.key, e.2) : PEn) = e' at h
  have hek' : keyOk e'.1 := by rw [← he']; exact hko
  have hpe' : (penC e').toArray.size = 35 := by simpa using penC_len hek'
  have hk1 : e'.1 = br.pb.key := by rw [← he']
  have h : At w w12 ([(b8, (penC e').toArray, ty_impl_PackEntry), (b3, c3, ty_impl_PackEntry), (b2, c2, ty_impl_Blob)] ++ ([(b12, br.cells.toArray, ty_impl_Blob)] ++ (L ++ []))) := h
  clear hbr
  have hfin := recP_fin hrec
  have e5 : (d.drop (a + H + N + 4 - 4)).take 4 = (rest.drop (H + N)).take 4 := by rw [← hrest, List.drop_drop]; congr 2; omega
  refine r_join (σ := Bool) (fun x w' => x = decide ((d.drop (a + H + N + 4 - 4)).take 4 = br.pb.key.take 4) ∧ At w w' ([(b8, (penC e').toArray, ty_impl_PackEntry), (b3, c3, ty_impl_PackEntry), (b2, c2, ty_impl_Blob)] ++ ([(b12, br.cells.toArray, ty_impl_Blob)] ++ (L ++ [])))) (fun x w13 hJ => ?_) ?_
  rotate_left
  · refine r_draw h fun w13 h => ?_
    refine r_slPre 4 rfl rfl (by omega) ?_
    have hk4 : SlAt w13 ⟨some ((⟨b8, 0, none⟩ : Addr).add 0), 4, 32⟩ 1 (u8s (br.pb.key.take 4)) := by
      refine At.sl h 0 rfl (o := 0) (by rw [add_lit]) (by simp [hkl]) ?_
      show ((penC e').drop 0).take _ = _
      unfold penC
      rw [hk1, List.drop_zero]
      unfold u8s
      rw [List.length_map, List.length_take, hkl, List.take_append_of_le_length (by rw [List.length_map, hkl]; decide), List.map_take]
      rfl
    have hb4 : BSl w13 ⟨some ((⟨b8, 0, none⟩ : Addr).add 0), 4, 32⟩ (br.pb.key.take 4) := ⟨hk4, fun b hb => hko.2 b (List.mem_of_mem_take hb), show (4 : Nat) ≤ 32 by decide⟩
    refine r_slG (H + N) (H + N + 4) rfl rfl (by omega) (by omega) fun y146 hn146 _ hy146 => ?_
    have h146 := hy146 hR (by omega)
    rw [show H + N + 4 - (H + N) = 4 by omega] at h146
    refine r_call h (c_bytesEqual hb4 (h146.at h)) fun r147 w14 h _ hr147 => ?_
    refine ⟨r147, rfl, ?_, h⟩
    rw [hr147, e5]
    exact decide_eq_decide.2 ⟨fun hh => hh.symm, fun hh => hh.symm⟩
  obtain ⟨rfl, h⟩ := hJ
  refine r_any fun _ => ?_
  refine r_join (σ := Bool) (fun x w' => x = decide (rightP d B br.pb (a + H + N + 4)) ∧ At w w' ([(b8, (penC e').toArray, ty_impl_PackEntry), (b3, c3, ty_impl_PackEntry), (b2, c2, ty_impl_Blob)] ++ ([(b12, br.cells.toArray, ty_impl_Blob)] ++ (L ++ [])))) (fun x w14 hJ => ?_) ?_
  rotate_left
  · refine r_ldN (sh := .slice) se (ldOk_below h.below hr.l3) ?_
    refine r_if ((se.n : Int) > 0) rfl (fun hpos => ?_) (fun hz => ?_)
    · refine r_draw h fun w14 h => ?_
      obtain ⟨el, hel⟩ : ∃ el, E[E.length - 1]? = some el := ⟨_, List.getElem?_eq_getElem (by omega)⟩
      obtain ⟨cl, hcl⟩ : ∃ cl, B[B.length - 1]? = some cl := ⟨_, List.getElem?_eq_getElem (by omega)⟩
      have hlast : B.getLast? = some cl := by rw [List.getLast?_eq_getElem?, hcl]
      have hkk : el.1 = cl.key := by
        have h1 := congrArg (fun l => l[E.length - 1]?) hE
        simp only [List.getElem?_map, hel, Option.map_some] at h1
        have h2 := keysOf_get hcl
        rw [hEl] at h1
        rw [h2] at h1
        exact Option.some.inj h1
      have helk := hr.ek el (List.mem_of_getElem? hel)
      obtain ⟨qe, hqe, _⟩ := hr.hE.cell hel
      have lel : ldOk w 32 ((qe.add ((E.length - 1) * 35)).add 0) .agg (u8s el.1).toArray := by
        rw [Go.Deep.add_add]
        exact hr.hE.part hel hqe 0 (by rw [u8s_len]; exact helk.1) (fun k v hkv => by
          unfold penC
          rw [Nat.zero_add, List.getElem?_append_left (List.getElem?_eq_some_iff.1 hkv).1]
          exact hkv)
      have key8 : ∀ {v : World} {X : List Blk}, At w v ([(b8, (penC e').toArray, ty_impl_PackEntry), (b3, c3, ty_impl_PackEntry), (b2, c2, ty_impl_Blob)] ++ X) → ldOk v 32 ((⟨b8, 0, none⟩ : Addr).add 0) .agg (u8s br.pb.key).toArray := fun h => by
        refine ⟨by simp [hkl], fun j v hv => ?_⟩
        have hj : j < 32 := by have := (Array.getElem?_eq_some_iff.1 hv).1; simpa [hkl] using this
        rw [Go.Deep.add_add, Nat.zero_add, add_lit]
        rw [cell_of_row _ _ _ _ _ _ (h.get (i := 0) rfl)]
        have : (penC e').toArray[0 + j]? = (u8s br.pb.key).toArray[j]? := by
          rw [Nat.zero_add]
          simp only [List.getElem?_toArray]
          unfold penC
          rw [hk1, List.getElem?_append_left (by rw [u8s_len, hkl]; exact hj)]
        rw [this]
        exact hv
      have e6 : IntKind.wrap .i64 ((se.n : Int) - 1) = ((E.length - 1 : Nat) : Int) := by rw [w64 (by omega) (by omega)]; omega
      refine r_if ((d.drop (a + H + N + 4 - 4)).take 4 = br.pb.key.take 4) rfl (fun h4 => ?_) (fun h4 => ?_)
      · have fin_ : ∀ {v : World}, At w v ([(b8, (penC e').toArray, ty_impl_PackEntry), (b3, c3, ty_impl_PackEntry), (b2, c2, ty_impl_Blob)] ++ ([(b12, br.cells.toArray, ty_impl_Blob)] ++ (L ++ []))) → ∀ (k : Int → World → Prop), (∀ v', At w v' ([(b8, (penC e').toArray, ty_impl_PackEntry), (b3, c3, ty_impl_PackEntry), (b2, c2, ty_impl_Blob)] ++ ([(b12, br.cells.toArray, ty_impl_Blob)] ++ (L ++ []))) → k (cmpL el.1 br.pb.key) v') → ((RC w d a B).call n_impl_compareKeys [(.agg (u8s el.1).toArray), (.agg (u8s br.pb.key).toArray)] [.int .i64] k   : World → Prop) v := fun h k hk => by
          refine r_call h (c_compareKeys helk.1 hkl _) fun r w' h _ hr => ?_
          subst hr
          exact hk w' h
        have hend : decide (cmpL el.1 br.pb.key < 0) = decide (rightP d B br.pb (a + H + N + 4)) := decide_eq_decide.2 ⟨fun hh => ⟨h4, fun c hc => by
          rw [hlast] at hc
          cases hc
          rw [← hkk]
          exact hh⟩, fun hh => by
          have := hh.2 cl hlast
          rw [← hkk] at this
          exact this⟩
        refine r_all2 ?_ ?_
        · refine r_ldN (sh := .slice) se (ldOk_below h.below hr.l3) ?_
          rw [e6]
          refine r_ix qe hqe (by omega) (by omega) ?_
          simp only [Int.toNat_natCast]
          refine r_all2 ?_ ?_
          · refine r_ldN _ (ldOk_below h.below lel) ?_
            refine r_ldN _ (key8 h) ?_
            exact fin_ h _ fun v' h => ⟨_, rfl, hend, h⟩
          · refine r_ldN _ (key8 h) ?_
            refine r_ldN _ (ldOk_below h.below lel) ?_
            exact fin_ h _ fun v' h => ⟨_, rfl, hend, h⟩
        · refine r_ldN _ (key8 h) ?_
          refine r_ldN (sh := .slice) se (ldOk_below h.below hr.l3) ?_
          rw [e6]
          refine r_ix qe hqe (by omega) (by omega) ?_
          simp only [Int.toNat_natCast]
          refine r_ldN _ (ldOk_below h.below lel) ?_
          exact fin_ h _ fun v' h => ⟨_, rfl, hend, h⟩
      · have hf : false = decide (rightP d B br.pb (a + H + N + 4)) := (decide_eq_false fun hh => h4 hh.1).symm
        exact ⟨⟨⟨false, rfl, hf, h⟩, ⟨false, rfl, hf, h⟩⟩, ⟨false, rfl, hf, h⟩⟩
    · have hBe : B = [] := List.eq_nil_of_length_eq_zero (by omega)
      refine ⟨_, rfl, decide_eq_decide.2 ⟨fun hh => ⟨hh, fun c hc => by rw [hBe] at hc; cases hc⟩, fun hh => hh.1⟩, h⟩
  obtain ⟨rfl, h⟩ := hJ
  refine r_any fun _ => ?_
  refine r_draw h fun w15 h => ?_
  refine r_ldN br.cells.toArray (ldOk_blk h.pl1 0 rfl rfl) ?_
  refine r_ldA h 0 rfl rfl hpe' ?_
  refine r_ldN (sh := .int .i64) (a : Int) (ldOk_below h.below hr.l1) ?_
  refine r_stA h 2 rfl rfl rfl s2 (by simpa using cells_one br) fun w16 h => ?_
  have h : At w w16 ([(b8, (penC e').toArray, ty_impl_PackEntry), (b3, c3, ty_impl_PackEntry), (b2, br.cells.toArray, ty_impl_Blob)] ++ ([(b12, br.cells.toArray, ty_impl_Blob)] ++ (L ++ []))) := h
  refine r_chk2 (ldOk_below h.below hr.l1) (ldOk_blk h 0 rfl hpe') ?_
  refine r_stA h 1 rfl rfl hpe' s3 (by simpa using penC_one e') fun w17 h => ?_
  have h : At w w17 ([(b8, (penC e').toArray, ty_impl_PackEntry), (b3, (penC e').toArray, ty_impl_PackEntry), (b2, br.cells.toArray, ty_impl_Blob)] ++ ([(b12, br.cells.toArray, ty_impl_Blob)] ++ (L ++ []))) := h
  refine r_chk1 (ldOk_below h.below hr.l1) ?_
  refine r_ldA h 2 rfl rfl rfl ?_
  refine r_ldA h 1 rfl rfl hpe' ?_
  have e7 : IntKind.wrap .i64 (IntKind.wrap .i64 (IntKind.wrap .i64 ((a : Int) + (H : Int)) + (N : Int)) + 4) = ((a + H + N + 4 : Nat) : Int) := by
    rw [w64 (n := (a : Int) + (H : Int)) (by omega) (by omega), w64 (n := (a : Int) + (H : Int) + (N : Int)) (by omega) (by omega), w64 (by omega) (by omega)]
    omega
  rw [e7]
  refine r_ret h.nil (br.cells.toArray, (penC e').toArray, ((a + H + N + 4 : Nat) : Int), _, true) rfl ⟨rfl, by simpa using cells_one br, hpe', by simpa using penC_one e', .inr ⟨br.pb, x, a + H + N + 4, hrec, rfl, rfl, rfl, br, L, e', rfl, rfl, hbok, hOL, ?_, rfl, hk1⟩⟩
  exact h.pl2.left)
end Go.Proofs.YtkifkdkjljcclaaGreat
