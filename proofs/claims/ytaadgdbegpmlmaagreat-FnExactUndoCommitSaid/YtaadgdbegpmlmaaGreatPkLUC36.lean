/- History: UndoCommit: the reference's parts. -/
import Derived.Test.YtaadgdbegpmlmaaGreatPkLUC35
namespace Go.Sx
variable {P : Program}
theorem run_eqFields_all {d : Nat} {xs ys : Array Value} {r : TypeId × Nat → Bool} (w : World) : ∀ (fs : List Field) (l : List (TypeId × Nat)), fs.map (fun f => (decide (f.name = "_"), f.type, f.offset)) = l.map (fun p => (false, p.1, p.2)) →
    (∀ p ∈ l, ∃ a b, (part p.1 xs p.2).run P w = .ok a w ∧ (part p.1 ys p.2).run P w = .ok b w ∧ (Op.equalIn d p.1 a b).run P w = .ok (r p) w) → (Op.eqFields d xs ys fs).run P w = .ok (l.all r) w
  | [], [], _, _ => by simp [Op.eqFields]
  | [], _ :: _, h, _ => by simp at h
  | _ :: _, [], h, _ => by simp at h
  | f :: fs, p :: l, h, hp => by
    simp only [List.map_cons, List.cons.injEq, Prod.mk.injEq] at h
    obtain ⟨⟨h1, h2, h3⟩, h4⟩ := h
    obtain ⟨a, b, e1, e2, e3⟩ := hp p (by simp)
    have ih := run_eqFields_all (d := d) (xs := xs) (ys := ys) (r := r) w fs l h4 fun q hq => hp q (by simp [hq])
    have hne : f.name ≠ "_" := of_decide_eq_false h1
    rw [List.all_cons]
    simp only [Op.eqFields, if_pos hne, Sem.run_bind, h2, h3, e1, e2, e3, Result.andThen_ok]
    cases hr : r p with
    | true => simpa using ih
    | false => simp
end Go.Sx
namespace Go.Proofs.YtaadgdbegpmlmaaGreat
open Go.Sx Go.RowKit

theorem tyOf_str : tyOf Tryz.prog ty_string = some (.str, 1) := by kernel_rfl
theorem tyOf_bool : tyOf Tryz.prog ty_bool = some (.bool, 1) := by kernel_rfl
theorem fields_Change : (Tryz.prog.fieldsOf ty_impl_Change).toList.map (fun f => (decide (f.name = "_"), f.type, f.offset)) = [(ty_string, 0), (ty_bool, 1), (ty_string, 2), (ty_bool, 3), (ty_string, 4)].map (fun p => (false, p.1, p.2)) := by kernel_rfl
theorem run_neq_change (x y : Operand) (c d : PCh) (w : World) : (eqB .neq ty_impl_Change x y (.agg (chC c).toArray) (.agg (chC d).toArray)).run Tryz.prog w = .ok (.bool (!((c.name.toList == d.name.toList) && (c.had == d.had) && (c.old.toList == d.old.toList) && (c.has == d.has) && (c.new.toList == d.new.toList)))) w := by
  have hu : Tryz.prog.underlying ty_string = some .string := by kernel_rfl
  have hub : Tryz.prog.underlying ty_bool = some .bool := by kernel_rfl
  have hgd := run_eqGuard_agg (P := Tryz.prog) w .neq ty_impl_Change x y (chC c).toArray (chC d).toArray (by kernel_rfl)
  have hs := run_neq_struct (P := Tryz.prog) w ty_impl_Change (chC c).toArray (chC d).toArray
  have hq := run_equalIn_agg (P := Tryz.prog) w 9999 ty_impl_Change (chC c).toArray (chC d).toArray (by kernel_rfl) (by kernel_rfl)
  have hf := run_eqFields_all (P := Tryz.prog) (d := 9999) (xs := (chC c).toArray) (ys := (chC d).toArray) (r := fun p => match p.2 with | 0 => c.name.toList == d.name.toList | 1 => c.had == d.had | 2 => c.old.toList == d.old.toList | 3 => c.has == d.has | _ => c.new.toList == d.new.toList) w _ _ fields_Change (by
    intro p hp
    simp only [List.mem_cons, List.not_mem_nil, or_false] at hp
    rcases hp with rfl | rfl | rfl | rfl | rfl
    · exact ⟨_, _, run_part tyOf_str (by simp [aggB]) (v := .string c.name) (by simp [chC]) w, run_part tyOf_str (by simp [aggB]) (v := .string d.name) (by simp [chC]) w, run_equalIn_string w 9998 _ _ _ hu⟩
    · exact ⟨_, _, run_part tyOf_bool (by simp [aggB]) (v := .bool c.had) (by simp [chC]) w, run_part tyOf_bool (by simp [aggB]) (v := .bool d.had) (by simp [chC]) w, run_equalIn_bool' w 9998 _ _ _ hub⟩
    · exact ⟨_, _, run_part tyOf_str (by simp [aggB]) (v := .string c.old) (by simp [chC]) w, run_part tyOf_str (by simp [aggB]) (v := .string d.old) (by simp [chC]) w, run_equalIn_string w 9998 _ _ _ hu⟩
    · exact ⟨_, _, run_part tyOf_bool (by simp [aggB]) (v := .bool c.has) (by simp [chC]) w, run_part tyOf_bool (by simp [aggB]) (v := .bool d.has) (by simp [chC]) w, run_equalIn_bool' w 9998 _ _ _ hub⟩
    · exact ⟨_, _, run_part tyOf_str (by simp [aggB]) (v := .string c.new) (by simp [chC]) w, run_part tyOf_str (by simp [aggB]) (v := .string d.new) (by simp [chC]) w, run_equalIn_string w 9998 _ _ _ hu⟩)
  rw [hf] at hq
  rw [hq] at hs
  unfold eqB
  simp only [Sem.run_bind, hgd, Result.andThen_ok, hs]
  simp [List.all_cons, Bool.and_assoc]
def chOf (n : ByteArray) : Option ByteArray → PCh
  | some v => ⟨n, false, ⟨#[]⟩, true, v⟩
  | none => ⟨n, false, ⟨#[]⟩, false, ⟨#[]⟩⟩
theorem run_neq_chOf (x y : Operand) (n : ByteArray) (a b : Option ByteArray) (w : World) : (eqB .neq ty_impl_Change x y (.agg (chC (chOf n a)).toArray) (.agg (chC (chOf n b)).toArray)).run Tryz.prog w = .ok (.bool (!decide (a = b))) w := by
  rw [run_neq_change]
  cases a with
  | none =>
    cases b with
    | none => simp [chOf]
    | some v => simp [chOf]
  | some u =>
    cases b with
    | none => simp [chOf]
    | some v =>
      by_cases h : u = v
      · subst h; simp [chOf]
      · have : u.toList ≠ v.toList := fun hh => h (strEq hh)
        simp [chOf, h, this]
theorem run_has (x y : ByteArray) (w : World) : (Instr.build ty_impl_Change #[(0, (.string x)), (3, (.bool true)), (4, (.string y))]).run Tryz.prog w = .ok (.agg (chC (chOf x (some y))).toArray) w := by kernel_rfl
theorem run_hasNo (x : ByteArray) (w : World) : (Instr.build ty_impl_Change #[(0, (.string x))]).run Tryz.prog w = .ok (.agg (chC (chOf x none)).toArray) w := by kernel_rfl
theorem run_rev (c : PCh) (w : World) : (Instr.build ty_impl_Change #[(0, (.string c.name)), (1, (.bool c.has)), (2, (.string c.new)), (3, (.bool c.had)), (4, (.string c.old))]).run Tryz.prog w = .ok (.agg (chC (revC c)).toArray) w := by kernel_rfl
theorem look_take {es : List PE} {n : ByteArray} {i : Nat} {e : PE} (hno : ∀ f ∈ es.take i, f.1 ≠ n) (he : es[i]? = some e) (hn : e.1 = n) : look es n = some e.2 := by
  have hl := (List.getElem?_eq_some_iff.1 he).1
  conv => lhs; rw [← List.take_append_drop i es]
  rw [look_app hno, List.drop_eq_getElem_cons hl, (List.getElem?_eq_some_iff.1 he).2]
  unfold look
  rw [List.find?_cons_of_pos (by simpa using hn)]
  rfl
theorem c_l07Has {w : World} {s : Sl} {es : List PE} (hs : EsR w s es) (n : ByteArray) (hmax : es.length ≤ 1073741824) : Ret Tryz.prog n_spec_l07Has [.slice s.a s.n s.c, .string n] w [.agg] (fun r _ => r = (chC (chOf n (look es n))).toArray) := spec_l07Has_calls _ _ (by
  unfold spec_l07Has
  have hn := SlOf.n hs
  refine r_new (At.refl w) fun b4 w1 h => ?_
  have h : At w w1 [(b4, (chC ⟨⟨#[]⟩, false, ⟨#[]⟩, false, ⟨#[]⟩⟩).toArray, ty_impl_Change)] := h
  refine r_loop (σ := Int) (fun i w' => ∃ j : Nat, i = j ∧ j ≤ es.length ∧ (∀ f ∈ es.take j, f.1 ≠ n) ∧ At w w' [(b4, (chC ⟨⟨#[]⟩, false, ⟨#[]⟩, false, ⟨#[]⟩⟩).toArray, ty_impl_Change)]) (fun i _ => (s.n - i).toNat) 0 rfl ⟨0, rfl, by omega, by simp, h⟩ ?_
  clear h
  rintro i w2 ⟨j, rfl, hj, hno, h⟩
  refine r_any fun _ => ?_
  refine r_if ((j : Int) < (s.n : Int)) rfl (fun hlt => ?_) (fun hge => ?_)
  · obtain ⟨e, p, he, hem, hp, _, hl0, hl1⟩ := EsR.get (SlOf.at hs h) (i := j) (by omega)
    refine r_ix p hp (by omega) (by omega) ?_
    simp only [Int.toNat_natCast]
    refine r_ldN (sh := .str) e.1 hl0 ?_
    refine r_pur (sh := .bool) _ (fun w' => run_eql_str _ _ _ _ _ w') ?_
    by_cases hen : e.1 = n
    · refine r_true (by rw [hen]; simp) ?_
      rw [look_take hno he hen]
      refine r_ix p hp (by omega) (by omega) ?_
      simp only [Int.toNat_natCast]
      refine r_ldN (sh := .str) e.2 hl1 ?_
      refine r_pur (sh := .agg) _ (run_has n e.2) ?_
      refine r_stA h 0 rfl rfl rfl rfl (by simpa using chC_one _) fun w3 h => ?_
      refine r_ldA h 0 rfl rfl rfl ?_
      exact r_ret h.nil _ rfl rfl
    · refine r_false (beq_eq_false_iff_ne.2 fun hh => hen (strEq hh)) ?_
      refine ⟨((j + 1 : Nat) : Int), by rw [w64 (by omega) (by omega)]; rfl, ⟨j + 1, rfl, by omega, fun f hf => ?_, h⟩, by omega⟩
      rw [take_succ_get he] at hf
      rcases List.mem_append.1 hf with hf | hf
      · exact hno f hf
      · rw [List.mem_singleton.1 hf]; exact hen
  · rw [List.take_of_length_le (by omega)] at hno
    rw [look_none hno]
    refine r_pur (sh := .agg) _ (run_hasNo n) ?_
    refine r_stA h 0 rfl rfl rfl rfl (by simpa using chC_one _) fun w3 h => ?_
    refine r_ldA h 0 rfl rfl rfl ?_
    exact r_ret h.nil _ rfl rfl)

theorem undone1_len (out : List PE) (c : PCh) : (undone1 out c).length ≤ out.length + 1 := by
  have hp := posN_le out c.name
  unfold undone1 insN
  split
  · simp; omega
  · omega
theorem undone_len : ∀ (Y : List PCh) (out : List PE), (Y.foldl undone1 out).length ≤ out.length + Y.length
  | [], out => by simp
  | c :: r, out => by
    have h1 := undone1_len out c
    have h2 := undone_len r (undone1 out c)
    rw [List.foldl_cons, List.length_cons]
    omega
def keptN (Y : List PCh) (e : PE) : Bool := !Y.any fun c => decide (c.name = e.1)
theorem c_l07Undone {w : World} {s t : Sl} {es : List PE} {Y : List PCh} (hs : EsR w s es) (ht : ChsR w t Y) (he : es.length ≤ 1000) (hY : Y.length ≤ 1000) :
    Ret Tryz.prog n_spec_l07Undone [.slice s.a s.n s.c, .slice t.a t.n t.c] w [.slice, .int .i64] (fun r w' => r.2 = (if okE (undone Y es) then 0 else 3) ∧ (okE (undone Y es) → ∃ L, At w w' (L ++ []) ∧ OwnEntryS r.1 (undone Y es) L)) := spec_l07Undone_calls _ _ (by
  unfold spec_l07Undone
  have hsn := SlOf.n hs
  have htn := SlOf.n ht
  refine r_bs0 T_sl_Entry (At.refl w) fun y13 w1 hy hyn => ?_
  obtain ⟨Lo, hOo, h⟩ := hy.split
  refine r_loop (σ := Sl × Int) (fun st w' => ∃ (i : Nat) (Lo : List Blk), st.2 = i ∧ i ≤ es.length ∧ OwnEntryS st.1 ((es.take i).filter (keptN Y)) Lo ∧ At w w' (Lo ++ [])) (fun st _ => (s.n - st.2).toNat) (y13, 0) rfl
    ⟨0, Lo, rfl, by omega, by simpa [OwnEntryS] using hOo, h⟩ ?_
  clear h hOo hy
  rintro ⟨so, i⟩ w2 ⟨i, Lo, hi0, hi, hOo, h⟩
  dsimp only at hi0 hOo
  subst hi0
  have hson := OwnEntryS.n hOo
  have hfl := List.length_filter_le (keptN Y) (es.take i)
  rw [List.length_take] at hfl
  refine r_any fun _ => ?_
  dsimp only
  refine r_if ((i : Int) < (s.n : Int)) rfl (fun hlt => ?_) (fun hge => ?_)
  · have hei : es[i]? = some es[i] := List.getElem?_eq_getElem (by omega)
    generalize es[i] = e at hei
    have le_ : ∀ {v : World} {X : List Blk}, At w v X → ∃ p, s.a = some p ∧ ldOk v 2 (p.add (i * 2)) .agg (entC e).toArray ∧ ldOk v 1 ((p.add (i * 2)).add 0) .str e.1 := fun h => by
      obtain ⟨e2, p, he2, _, hp, ha, hl0, _⟩ := EsR.get (SlOf.at hs h) (i := i) (by omega)
      rw [hei] at he2
      cases he2
      exact ⟨p, hp, ha, hl0⟩
    refine r_loop (σ := Bool × Int) (fun st w' => ∃ j : Nat, st.2 = j ∧ j ≤ Y.length ∧ st.1 = keptN (Y.take j) e ∧ At w w' (Lo ++ [])) (fun st _ => (t.n - st.2).toNat) (true, 0) rfl ⟨0, rfl, by omega, by simp [keptN], h⟩ ?_
    clear h
    rintro ⟨kp, j⟩ w3 ⟨j, hj0, hj, hkp, h⟩
    dsimp only at hj0 hkp
    subst hj0
    refine r_any fun _ => ?_
    dsimp only
    refine r_if ((j : Int) < (t.n : Int)) rfl (fun hlt2 => ?_) (fun hge2 => ?_)
    · refine r_draw h fun w4 h => ?_
      obtain ⟨c, q, hc, hcm, hq, _, hc0, _⟩ := ChsR.get (SlOf.at ht h) (i := j) (by omega)
      have hk1 : keptN (Y.take (j + 1)) e = (keptN (Y.take j) e && !decide (c.name = e.1)) := by
        unfold keptN
        rw [take_succ_get hc, List.any_append, Bool.not_or]
        simp
      cases kp with
      | true =>
        refine r_true rfl ?_
        refine r_ix q hq (by omega) (by omega) ?_
        simp only [Int.toNat_natCast]
        refine r_ldN (sh := .str) c.name hc0 ?_
        obtain ⟨p, hp, _, hl0⟩ := le_ h
        refine r_ix p hp (by omega) (by omega) ?_
        simp only [Int.toNat_natCast]
        refine r_ldN (sh := .str) e.1 hl0 ?_
        refine r_pur (sh := .bool) _ (fun w' => run_neq_str _ _ _ _ _ w') ?_
        refine ⟨(!(c.name.toList == e.1.toList), ((j + 1 : Nat) : Int)), by rw [w64 (by omega) (by omega)]; rfl, ⟨j + 1, rfl, by omega, ?_, h⟩, by dsimp only; omega⟩
        rw [hk1, ← hkp, Bool.true_and]
        dsimp only
        by_cases hh : c.name = e.1
        · rw [hh]; simp
        · rw [decide_eq_false hh, beq_eq_false_iff_ne.2 fun h3 => hh (strEq h3)]
      | false =>
        refine r_false rfl ?_
        exact ⟨(false, ((j + 1 : Nat) : Int)), by rw [w64 (by omega) (by omega)]; rfl, ⟨j + 1, rfl, by omega, by rw [hk1, ← hkp]; rfl, h⟩, by dsimp only; omega⟩
    · rw [List.take_of_length_le (by omega)] at hkp
      have hfil : (es.take (i + 1)).filter (keptN Y) = (es.take i).filter (keptN Y) ++ if keptN Y e = true then [e] else [] := by
        rw [take_succ_get hei, List.filter_append]
        congr 1
        cases hk : keptN Y e <;> simp [hk]
      cases kp with
      | true =>
        rw [← hkp, if_pos rfl] at hfil
        refine r_true rfl ?_
        obtain ⟨p, hp, ha, _⟩ := le_ h
        refine r_ix p hp (by omega) (by omega) ?_
        simp only [Int.toNat_natCast]
        refine r_ldN (entC e).toArray ha ?_
        refine r_push T_sl_Entry (OwnS.slo hOo h) (v := .agg (entC e).toArray) (by simp [Value.cells, entC_len]) (by omega) (by simpa [Value.cells] using entC_one e) (by omega) (by omega) fun y47 w4 hS hn => ?_
        obtain ⟨L', hO', h⟩ := hS.split
        refine ⟨(y47, ((i + 1 : Nat) : Int)), by rw [w64 (by omega) (by omega)]; rfl, ⟨i + 1, L', rfl, by omega, ?_, h⟩, by dsimp only; omega⟩
        rw [hfil]
        show OwnS _ _ _ _ _
        simpa [Value.cells, List.flatMap_append] using hO'
      | false =>
        rw [← hkp, if_neg (by simp), List.append_nil] at hfil
        refine r_false rfl ?_
        exact ⟨(so, ((i + 1 : Nat) : Int)), by rw [w64 (by omega) (by omega)]; rfl, ⟨i + 1, Lo, rfl, by omega, by rw [hfil]; exact hOo, h⟩, by dsimp only; omega⟩
  · rw [List.take_of_length_le (by omega)] at hOo
    have hOo : OwnEntryS so (keepN Y es) Lo := hOo
    have hkl : (keepN Y es).length ≤ es.length := List.length_filter_le _ _
    refine r_loop (σ := Sl × Int) (fun st w' => ∃ (j : Nat) (Lo : List Blk), st.2 = j ∧ j ≤ Y.length ∧ OwnEntryS st.1 ((Y.take j).foldl undone1 (keepN Y es)) Lo ∧ At w w' (Lo ++ [])) (fun st _ => (t.n - st.2).toNat) (so, 0) rfl
      ⟨0, Lo, rfl, by omega, by simpa using hOo, h⟩ ?_
    clear h hOo hson
    rintro ⟨so, j⟩ w3 ⟨j, Lo, hj0, hj, hOo, h⟩
    dsimp only at hj0 hOo
    subst hj0
    have hson := OwnEntryS.n hOo
    have hul := undone_len (Y.take j) (keepN Y es)
    rw [List.length_take] at hul
    refine r_any fun _ => ?_
    dsimp only
    refine r_if ((j : Int) < (t.n : Int)) rfl (fun hlt2 => ?_) (fun hge2 => ?_)
    · have hcj : Y[j]? = some Y[j] := List.getElem?_eq_getElem (by omega)
      generalize Y[j] = c at hcj
      have hstep : (Y.take (j + 1)).foldl undone1 (keepN Y es) = undone1 ((Y.take j).foldl undone1 (keepN Y es)) c := by rw [take_succ_get hcj, List.foldl_append]; rfl
      generalize (Y.take j).foldl undone1 (keepN Y es) = out at hOo hson hul hstep
      have lc_ : ∀ {v : World} {X : List Blk}, At w v X → ∃ q, t.a = some q ∧ ldOk v 1 ((q.add (j * 5)).add 0) .str c.name ∧ ldOk v 1 ((q.add (j * 5)).add 3) .bool c.has ∧ ldOk v 1 ((q.add (j * 5)).add 4) .str c.new := fun h => by
        obtain ⟨c2, q, hc2, _, hq, _, h0, _, _, h3, h4⟩ := ChsR.get (SlOf.at ht h) (i := j) (by omega)
        rw [hcj] at hc2
        cases hc2
        exact ⟨q, hq, h0, h3, h4⟩
      obtain ⟨q, hq, hq0, hq3, hq4⟩ := lc_ h
      have lq_ : ∀ {v : World} {X : List Blk}, At w v X → ldOk v 1 ((q.add (j * 5)).add 0) .str c.name ∧ ldOk v 1 ((q.add (j * 5)).add 4) .str c.new := fun h => by
        obtain ⟨q2, hq2, h0, _, h4⟩ := lc_ h
        rw [hq] at hq2
        cases hq2
        exact ⟨h0, h4⟩
      refine r_ix q hq (by omega) (by omega) ?_
      simp only [Int.toNat_natCast]
      refine r_ldN (sh := .bool) c.has hq3 ?_
      rw [show undone1 out c = if c.has then insN out (c.name, c.new) else out from rfl] at hstep
      cases hhas : c.has with
      | false =>
        rw [hhas, if_neg (by simp)] at hstep
        refine r_true rfl ?_
        exact ⟨(so, ((j + 1 : Nat) : Int)), by rw [w64 (by omega) (by omega)]; rfl, ⟨j + 1, Lo, rfl, by omega, by rw [hstep]; exact hOo, h⟩, by dsimp only; omega⟩
      | true =>
        rw [hhas, if_pos rfl] at hstep
        refine r_false rfl ?_
        refine r_join (σ := Int) (fun x w' => x = (posN out c.name : Int) ∧ At w w' (Lo ++ [])) (fun x w4 hJ => ?_) ?_
        · obtain ⟨rfl, h⟩ := hJ
          refine r_any fun _ => ?_
          refine r_join (σ := Addr) (fun x w' => ∃ b12, x = ⟨b12, 0, none⟩ ∧ At w w' ([(b12, (entC (c.name, c.new)).toArray, ty_impl_Entry)] ++ (Lo ++ []))) (fun x w5 hJ => ?_) ?_
          · obtain ⟨b12, rfl, h⟩ := hJ
            refine r_any fun _ => ?_
            have hple := posN_le out c.name
            have hcap : so.n ≤ so.c := OwnS.cap hOo
            obtain ⟨t1, t2⟩ := ents_take out (posN out c.name) hple
            have hshr := OwnS.shrink hOo (posN out c.name) (by omega)
            rw [t1] at hshr
            have pre_ : ∀ {v : World} {V : List Blk}, At w v (V ++ ([(b12, (entC (c.name, c.new)).toArray, ty_impl_Entry)] ++ (Lo ++ []))) → SlAt v ⟨so.a, posN out c.name, so.c⟩ 2 ((out.take (posN out c.name)).flatMap entC) := fun h => hshr.sl h ((List.sublist_append_left _ _).trans ((List.sublist_append_right _ _).trans (List.sublist_append_right _ _)))
            have suf_ : ∀ {v : World} {V : List Blk}, At w v (V ++ ([(b12, (entC (c.name, c.new)).toArray, ty_impl_Entry)] ++ (Lo ++ []))) → SlAt v ⟨if so.c = posN out c.name then so.a else so.a.map (·.add (posN out c.name * 2)), so.n - posN out c.name, so.c - posN out c.name⟩ 2 ((out.drop (posN out c.name)).flatMap entC) := fun h => by
              have hsuf := (OwnS.sl hOo h ((List.sublist_append_left _ _).trans ((List.sublist_append_right _ _).trans (List.sublist_append_right _ _)))).slice (by omega) (posN out c.name) so.n (by omega) (Nat.le_refl _) hcap
              rw [t2, List.take_of_length_le (by rw [flatMap_length (z := 2) (fun l _ => entC_len l), List.length_drop]; omega)] at hsuf
              exact hsuf
            have fin_ : ∀ {v : World} {V : List Blk} {y : Sl}, SlO w v V ty_impl_Entry 2 y ((out.take (posN out c.name)).flatMap entC ++ entC (c.name, c.new) ++ (out.drop (posN out c.name)).flatMap entC) → ∃ L', OwnEntryS y ((Y.take (j + 1)).foldl undone1 (keepN Y es)) L' ∧ At w v (L' ++ []) := fun hS => by
              obtain ⟨L', hO', h⟩ := hS.base.split
              refine ⟨L', ?_, h⟩
              rw [hstep]
              unfold insN
              show OwnS _ _ _ _ _
              simpa [List.flatMap_append] using hO'
            refine r_draw h fun w6 h => ?_
            refine r_slPre (posN out c.name) rfl rfl (by omega) ?_
            refine r_ldN (entC (c.name, c.new)).toArray (ldOk_blk h 0 rfl rfl) ?_
            refine r_sl (posN out c.name) so.n rfl rfl (by omega) hcap ?_
            refine r_all2 ?_ ?_
            · refine r_bs0 T_sl_Entry h fun y90 w7 hy hyn => ?_
              obtain ⟨La, hOa, h⟩ := hy.split
              refine r_chk1 (ldOk_blk h.pl1 0 rfl rfl) ?_
              refine r_all2 ?_ ?_
              · refine r_append T_sl_Entry (hOa.slo h) (pre_ h) (entCs_one _) (by dsimp only; omega) (by dsimp only; omega) fun y94 w8 hS hn94 => ?_
                dsimp only at hn94
                refine r_chk1 (ldOk_blk hS.at_ 0 rfl rfl) ?_
                refine r_push T_sl_Entry hS (v := .agg (entC (c.name, c.new)).toArray) (by simp [Value.cells, entC_len]) (by omega) (by simpa [Value.cells] using entC_one _) (by omega) (by omega) fun y97 w9 hS hn97 => ?_
                refine r_append T_sl_Entry hS (suf_ (V := []) hS.at_) (entCs_one _) (by dsimp only; omega) (by dsimp only; omega) fun y101 w10 hS hn101 => ?_
                obtain ⟨L', hO', h'⟩ := fin_ (by simpa [Value.cells] using hS)
                exact ⟨(y101, ((j + 1 : Nat) : Int)), by rw [w64 (by omega) (by omega)]; rfl, ⟨j + 1, L', rfl, by omega, hO', h'⟩, by dsimp only; omega⟩
              · refine r_bs1 T_sl_Entry h (v := .agg (entC (c.name, c.new)).toArray) (by simp [Value.cells, entC_len]) (by omega) fun y96 w8 hy96 hyn96 => ?_
                obtain ⟨Lb, hOb, h⟩ := hy96.split
                refine r_append T_sl_Entry (hOa.slo h.pl1) (pre_ (V := Lb ++ La) (by rw [List.append_assoc]; exact h)) (entCs_one _) (by dsimp only; omega) (by dsimp only; omega) fun y94 w9 hS hn94 => ?_
                dsimp only at hn94
                refine r_append T_sl_Entry hS (hOb.sl hS.at_ (List.sublist_append_left _ _)) (by simpa [Value.cells] using entC_one _) (by omega) (by omega) fun y97 w10 hS hn97 => ?_
                refine r_append T_sl_Entry hS (suf_ hS.at_) (entCs_one _) (by dsimp only; omega) (by dsimp only; omega) fun y101 w11 hS hn101 => ?_
                obtain ⟨L', hO', h'⟩ := fin_ (by simpa [Value.cells] using hS)
                exact ⟨(y101, ((j + 1 : Nat) : Int)), by rw [w64 (by omega) (by omega)]; rfl, ⟨j + 1, L', rfl, by omega, hO', h'⟩, by dsimp only; omega⟩
            · refine r_bs1 T_sl_Entry h (v := .agg (entC (c.name, c.new)).toArray) (by simp [Value.cells, entC_len]) (by omega) fun y96 w8 hy96 hyn96 => ?_
              obtain ⟨Lb, hOb, h⟩ := hy96.split
              refine r_bs0 T_sl_Entry h fun y90 w7 hy hyn => ?_
              refine r_append T_sl_Entry hy (pre_ hy.at_) (entCs_one _) (by dsimp only; omega) (by dsimp only; omega) fun y94 w9 hS hn94 => ?_
              dsimp only at hn94
              refine r_append T_sl_Entry hS (hOb.sl hS.at_ (List.sublist_append_left _ _)) (by simpa [Value.cells] using entC_one _) (by omega) (by omega) fun y97 w10 hS hn97 => ?_
              refine r_append T_sl_Entry hS (suf_ hS.at_) (entCs_one _) (by dsimp only; omega) (by dsimp only; omega) fun y101 w11 hS hn101 => ?_
              obtain ⟨L', hO', h'⟩ := fin_ (by simpa [Value.cells] using hS)
              exact ⟨(y101, ((j + 1 : Nat) : Int)), by rw [w64 (by omega) (by omega)]; rfl, ⟨j + 1, L', rfl, by omega, hO', h'⟩, by dsimp only; omega⟩
          · refine r_draw h fun w5 h => ?_
            refine r_ix q hq (by omega) (by omega) ?_
            simp only [Int.toNat_natCast]
            refine r_ldN (sh := .str) c.name (lq_ h).1 ?_
            refine r_ix q hq (by omega) (by omega) ?_
            simp only [Int.toNat_natCast]
            refine r_ldN (sh := .str) c.new (lq_ h).2 ?_
            refine r_pur (sh := .agg) _ (run_mkEntry c.name c.new) ?_
            refine r_new h fun b12 w6 h => ?_
            refine r_chk2 (lq_ h).2 (lq_ h).1 ?_
            refine r_stA h 0 rfl rfl rfl rfl (by simp [oneC]) fun w7 h => ?_
            exact ⟨(⟨b12, 0, none⟩ : Addr), rfl, b12, rfl, h⟩
        · refine r_loop (σ := Int) (fun st w' => ∃ m : Nat, st = m ∧ m ≤ out.length ∧ (∀ j' e, j' < m → out[j']? = some e → ltN e.1 c.name = true) ∧ At w w' (Lo ++ [])) (fun st _ => (so.n - st).toNat) 0 rfl ⟨0, rfl, by omega, by intro j' e h; omega, h⟩ ?_
          clear h
          rintro m w4 ⟨m, rfl, hm, hpre, h⟩
          refine r_any fun _ => ?_
          dsimp only
          refine r_draw h fun w5 h => ?_
          refine r_if ((m : Int) < (so.n : Int)) rfl (fun hlt3 => ?_) (fun hge3 => ?_)
          · obtain ⟨e, p, he2, hem, hp, _, hl0, _⟩ := EsR.get (OwnEntryS.rd hOo h) (i := m) (by omega)
            refine r_ix p hp (by omega) (by omega) ?_
            simp only [Int.toNat_natCast]
            refine r_ldN (sh := .str) e.1 hl0 ?_
            refine r_ix q hq (by omega) (by omega) ?_
            simp only [Int.toNat_natCast]
            refine r_ldN (sh := .str) c.name (lq_ h).1 ?_
            refine r_pur (sh := .bool) (ltN e.1 c.name) (fun w' => run_lss_str _ _ _ _ _ w') ?_
            cases hlt4 : ltN e.1 c.name with
            | true =>
              refine r_true rfl ?_
              refine ⟨((m + 1 : Nat) : Int), by rw [w64 (by omega) (by omega)]; rfl, ⟨m + 1, rfl, by omega, fun j' f hj' hf => ?_, h⟩, by omega⟩
              rcases Nat.lt_or_ge j' m with h5 | h5
              · exact hpre j' f h5 hf
              · have : j' = m := by omega
                subst this
                rw [he2] at hf
                cases hf
                exact hlt4
            | false =>
              refine r_false rfl ?_
              exact ⟨(m : Int), rfl, by rw [posN_of hm hpre (fun f hf => by rw [he2] at hf; cases hf; exact hlt4)], h⟩
          · exact ⟨(m : Int), rfl, by rw [posN_of hm hpre (fun f hf => by rw [List.getElem?_eq_none (by omega)] at hf; cases hf)], h⟩
    · rw [List.take_of_length_le (by omega)] at hOo
      have hOo : OwnEntryS so (undone Y es) Lo := hOo
      refine r_call h (c_spec_ValidEntries (OwnEntryS.rd hOo h) (by have := OwnEntryS.n hOo; omega)) fun r103 w4 h _ hr => ?_
      subst hr
      by_cases hok : okE (undone Y es)
      · refine r_false (by rw [decide_eq_true hok]; rfl) ?_
        exact r_ret h.nil (so, 0) rfl ⟨by rw [if_pos hok], fun _ => ⟨Lo, h, hOo⟩⟩
      · refine r_true (by rw [decide_eq_false hok]; rfl) ?_
        refine r_bs0 T_sl_Entry h fun y105 w5 hy _ => ?_
        exact r_ret hy.at_.nil (y105, 3) rfl ⟨by rw [if_neg hok], fun hh => absurd hh hok⟩)

theorem c_spec_UndoCommit {w : World} {r q q' : Array Value} {b : PBk} {hd k : List Int} {note : ByteArray} (hr : RdBook w r b) (hqa : RdKey w q hd) (hq : RdKey w q' k) (hz : sizeBook b ≤ 1073741824) :
    Ret Tryz.prog n_spec_UndoCommit [.agg r, .agg q, .agg q', .string note] w [.agg, .agg, .int .i64] (fun x w' => ∃ L, At w w' L ∧ OwnBook x.1 (undoAns b hd k note).1 L ∧ RdKey w x.2.1 (undoAns b hd k note).2.1 ∧ x.2.2 = (undoAns b hd k note).2.2) := spec_UndoCommit_calls _ _ _ _ (by
  unfold spec_UndoCommit
  obtain ⟨rfl, hho⟩ := hqa
  obtain ⟨rfl, hko⟩ := hq
  obtain ⟨s, t, rfl, ⟨rs, hX, hs⟩, ⟨ms, hM, ht⟩⟩ := hr
  refine r_new (At.refl w) fun b4 w1 h => ?_
  refine r_new h fun b5 w2 h => ?_
  refine r_new h fun b6 w3 h => ?_
  refine r_new h fun b8 w4 h => ?_
  refine r_new h fun b9 w5 h => ?_
  have h : At w w5 ([(b9, Array.replicate 32 (.int .u8 0), ty_impl_Key), (b8, bkC ⟨none, 0, 0⟩ ⟨none, 0, 0⟩, ty_impl_Book), (b6, (u8s k).toArray, ty_impl_Key), (b5, (u8s hd).toArray, ty_impl_Key), (b4, bkC s t, ty_impl_Book)] ++ []) := h
  have bk_ : ∀ {v : World} {V : List Blk}, At w v (V ++ ([(b9, Array.replicate 32 (.int .u8 0), ty_impl_Key), (b8, bkC ⟨none, 0, 0⟩ ⟨none, 0, 0⟩, ty_impl_Book), (b6, (u8s k).toArray, ty_impl_Key), (b5, (u8s hd).toArray, ty_impl_Key), (b4, bkC s t, ty_impl_Book)] ++ [])) → BkR v ⟨b4, 0, none⟩ rs ms := fun h => bkR_own h.pl1 4 rfl (hs.at h) (ht.at h)
  have lh_ : ∀ {v : World} {V : List Blk}, At w v (V ++ ([(b9, Array.replicate 32 (.int .u8 0), ty_impl_Key), (b8, bkC ⟨none, 0, 0⟩ ⟨none, 0, 0⟩, ty_impl_Book), (b6, (u8s k).toArray, ty_impl_Key), (b5, (u8s hd).toArray, ty_impl_Key), (b4, bkC s t, ty_impl_Book)] ++ [])) → ldOk v 32 (⟨b5, 0, none⟩ : Addr) .agg (u8s hd).toArray := fun h => ldOk_blk h.pl1 3 rfl (by simp [hho.1])
  have lk_ : ∀ {v : World} {V : List Blk}, At w v (V ++ ([(b9, Array.replicate 32 (.int .u8 0), ty_impl_Key), (b8, bkC ⟨none, 0, 0⟩ ⟨none, 0, 0⟩, ty_impl_Book), (b6, (u8s k).toArray, ty_impl_Key), (b5, (u8s hd).toArray, ty_impl_Key), (b4, bkC s t, ty_impl_Book)] ++ [])) → ldOk v 32 (⟨b6, 0, none⟩ : Addr) .agg (u8s k).toArray := fun h => ldOk_blk h.pl1 2 rfl (by simp [hko.1])
  have lm_ : ∀ {v : World} {V : List Blk}, At w v (V ++ ([(b9, Array.replicate 32 (.int .u8 0), ty_impl_Key), (b8, bkC ⟨none, 0, 0⟩ ⟨none, 0, 0⟩, ty_impl_Book), (b6, (u8s k).toArray, ty_impl_Key), (b5, (u8s hd).toArray, ty_impl_Key), (b4, bkC s t, ty_impl_Book)] ++ [])) → ldOk v 1 ((⟨b4, 0, none⟩ : Addr).add 1) .slice t := fun h => ldOk_own (sh := .slice) h.pl1 4 rfl 1 rfl (by simp [bkC, Sh.emb])
  refine r_ldN _ (lh_ (V := []) h) ?_
  refine r_ldN _ (lk_ (V := []) h) ?_
  refine r_call h (c_l07Two (bk_ (V := []) h) hX hM hz hho hko) fun r25 w6 h _ ⟨h1, h2⟩ => ?_
  obtain ⟨i, j, c⟩ := r25
  dsimp only at h1 h2 ⊢
  subst h1
  refine r_ne (fun hne => ?_) (fun heq => ?_)
  · exact bad_commit (V := [_, _, _] ++ []) (by unfold undoAns; rw [if_neg hne]) h
  obtain ⟨hv, hhK, hkK, rfl, rfl⟩ := h2 heq
  refine r_call h (c_l07Changes (bk_ (V := []) h) hX hM hv hkK) fun r36 w7 _ _ ⟨⟨hS, hn36⟩, hc36⟩ => ?_
  obtain ⟨r36, c36⟩ := r36
  dsimp only at hS hn36 hc36 ⊢
  subst hc36
  obtain ⟨Lc, hOc, h⟩ := (SlO.lift h hS).split
  have hcl := chgB_len hv hkK
  have hE := mapOfB_ok hv hhK
  have hEl := hE.2
  have hF := mapOfB_ok hv hkK
  have hFl := hF.2
  have htn := ht.n
  have hml : ms.length = b.cms.length := by have := hv.1.2; rw [← this, ← hM]; simp
  have hhl := ixK_lt hhK
  have hkl := ixK_lt hkK
  have hKl := keysB_len b
  have chs_ : ∀ {v : World} {V : List Blk}, At w v (V ++ (Lc ++ ([(b9, Array.replicate 32 (.int .u8 0), ty_impl_Key), (b8, bkC ⟨none, 0, 0⟩ ⟨none, 0, 0⟩, ty_impl_Book), (b6, (u8s k).toArray, ty_impl_Key), (b5, (u8s hd).toArray, ty_impl_Key), (b4, bkC s t, ty_impl_Book)] ++ []))) → ChsR v r36 (chgB b k) := fun h => OwnChangeS.rd hOc h.pl1
  refine r_ne (fun hh => absurd rfl hh) (fun _ => ?_)
  obtain ⟨mh, hmh, hmhe⟩ := mapRow hM hv hhK
  obtain ⟨mk, hmk, hmke⟩ := mapRow hM hv hkK
  have le_ : ∀ {v : World} {X : List Blk}, At w v X → ∃ q, t.a = some q ∧ EsR v mh.d (mapOfB b hd) ∧ ldOk v 1 (q.add (ixK (keysB b) hd * 1)) .slice mh.d ∧ EsR v mk.d (mapOfB b k) ∧ ldOk v 1 (q.add (ixK (keysB b) k * 1)) .slice mk.d := fun h => by
    obtain ⟨m2, q, hm2, _, hq, hmo, hmd⟩ := (ht.at h).get (i := ixK (keysB b) hd) (by omega)
    rw [hmh] at hm2
    cases hm2
    obtain ⟨m3, q3, hm3, _, hq3, hmo3, hmd3⟩ := (ht.at h).get (i := ixK (keysB b) k) (by omega)
    rw [hmk] at hm3
    cases hm3
    rw [hq] at hq3
    cases hq3
    rw [hmhe] at hmo
    rw [hmke] at hmo3
    exact ⟨q, hq, hmo, hmd, hmo3, hmd3⟩
  obtain ⟨qt, hqt, _, hldh, _, _⟩ := le_ h
  have lt_ : ∀ {v : World} {X : List Blk}, At w v X → EsR v mh.d (mapOfB b hd) ∧ EsR v mk.d (mapOfB b k) ∧ ldOk v 1 (qt.add (ixK (keysB b) k * 1)) .slice mk.d := fun h => by
    obtain ⟨q2, hq2, h1, _, h3, h4⟩ := le_ h
    rw [hqt] at hq2
    cases hq2
    exact ⟨h1, h3, h4⟩
  refine r_ldN (sh := .slice) t (lm_ h) ?_
  refine r_ix qt hqt (by omega) (by omega) ?_
  simp only [Int.toNat_natCast]
  refine r_ldN (sh := .slice) mh.d hldh ?_
  refine r_join (σ := Unit) (fun _ w' => k ∈ ancB b hd ∧ At w w' (Lc ++ ([(b9, Array.replicate 32 (.int .u8 0), ty_impl_Key), (b8, bkC ⟨none, 0, 0⟩ ⟨none, 0, 0⟩, ty_impl_Book), (b6, (u8s k).toArray, ty_impl_Key), (b5, (u8s hd).toArray, ty_impl_Key), (b4, bkC s t, ty_impl_Book)] ++ []))) (fun _ w11 hJ => ?_) ?_
  · obtain ⟨hanc, h⟩ := hJ
    refine r_any fun _ => ?_
    refine r_bs0 T_sl_Change h fun y56 w12 hy hyn => ?_
    obtain ⟨Lb, hOb, h⟩ := hy.split
    refine r_loop (σ := Sl × Int) (fun st w' => ∃ (n : Nat) (Lb : List Blk), st.2 = n ∧ n ≤ (chgB b k).length ∧ (∀ c ∈ (chgB b k).take n, look (mapOfB b hd) c.name = look (mapOfB b k) c.name) ∧ OwnChangeS st.1 (((chgB b k).take n).map revC) Lb ∧ At w w' (Lb ++ (Lc ++ ([(b9, Array.replicate 32 (.int .u8 0), ty_impl_Key), (b8, bkC ⟨none, 0, 0⟩ ⟨none, 0, 0⟩, ty_impl_Book), (b6, (u8s k).toArray, ty_impl_Key), (b5, (u8s hd).toArray, ty_impl_Key), (b4, bkC s t, ty_impl_Book)] ++ [])))) (fun st _ => (r36.n - st.2).toNat) (y56, 0) rfl
      ⟨0, Lb, rfl, by omega, by simp, by simpa [OwnChangeS] using hOb, h⟩ ?_
    clear h hOb hy
    rintro ⟨sb, n⟩ w13 ⟨n, Lb, hn0, hn, hall, hOb, h⟩
    dsimp only at hn0 hOb
    subst hn0
    have hsbn := OwnChangeS.n hOb
    rw [List.length_map, List.length_take] at hsbn
    refine r_any fun _ => ?_
    dsimp only
    refine r_if ((n : Int) < (r36.n : Int)) rfl (fun hlt => ?_) (fun hge => ?_)
    · obtain ⟨c, p, hc, hcm, hp, hca, _⟩ := ChsR.get (chs_ h) (i := n) (by omega)
      refine r_ix p hp (by omega) (by omega) ?_
      simp only [Int.toNat_natCast]
      refine r_ldN (chC c).toArray hca ?_
      refine r_new h fun b19 w14 h => ?_
      refine r_stA h 0 rfl rfl rfl rfl (by simpa using chC_one c) fun w15 h => ?_
      have h : At w w15 ([(b19, (chC c).toArray, ty_impl_Change)] ++ (Lb ++ (Lc ++ ([(b9, Array.replicate 32 (.int .u8 0), ty_impl_Key), (b8, bkC ⟨none, 0, 0⟩ ⟨none, 0, 0⟩, ty_impl_Book), (b6, (u8s k).toArray, ty_impl_Key), (b5, (u8s hd).toArray, ty_impl_Key), (b4, bkC s t, ty_impl_Book)] ++ [])))) := h
      have l0_ : ∀ {v : World} {X : List Blk}, At w v ([(b19, (chC c).toArray, ty_impl_Change)] ++ X) → ldOk v 1 ((⟨b19, 0, none⟩ : Addr).add 0) .str c.name := fun h => ldOk_own (sh := .str) h 0 rfl 0 rfl (by simp [Sh.emb])
      refine r_join (σ := Unit) (fun _ w' => look (mapOfB b hd) c.name = look (mapOfB b k) c.name ∧ At w w' ([(b19, (chC c).toArray, ty_impl_Change)] ++ (Lb ++ (Lc ++ ([(b9, Array.replicate 32 (.int .u8 0), ty_impl_Key), (b8, bkC ⟨none, 0, 0⟩ ⟨none, 0, 0⟩, ty_impl_Book), (b6, (u8s k).toArray, ty_impl_Key), (b5, (u8s hd).toArray, ty_impl_Key), (b4, bkC s t, ty_impl_Book)] ++ []))))) (fun _ w16 hJ => ?_) ?_
      · obtain ⟨hsame, h⟩ := hJ
        refine r_any fun _ => ?_
        refine r_ldN (sh := .str) c.name (l0_ h) ?_
        refine r_ldN (sh := .bool) c.has (ldOk_own (sh := .bool) h 0 rfl 3 rfl (by simp [Sh.emb])) ?_
        refine r_ldN (sh := .str) c.new (ldOk_own (sh := .str) h 0 rfl 4 rfl (by simp [Sh.emb])) ?_
        refine r_ldN (sh := .bool) c.had (ldOk_own (sh := .bool) h 0 rfl 1 rfl (by simp [Sh.emb])) ?_
        refine r_ldN (sh := .str) c.old (ldOk_own (sh := .str) h 0 rfl 2 rfl (by simp [Sh.emb])) ?_
        refine r_pur (sh := .agg) _ (run_rev c) ?_
        refine r_push T_sl_Change (OwnS.slo hOb h.pl1) (v := .agg (chC (revC c)).toArray) (by simp [Value.cells, chC_len]) (by omega) (by simpa [Value.cells] using chC_one _) (by omega) (by omega) fun y95 w17 hS hn95 => ?_
        obtain ⟨L', hO', h⟩ := hS.split
        refine ⟨(y95, ((n + 1 : Nat) : Int)), by rw [w64 (by omega) (by omega)]; rfl, ⟨n + 1, L', rfl, by omega, fun d hd => ?_, ?_, h.dr1⟩, by dsimp only; omega⟩
        · rw [take_succ_get hc] at hd
          rcases List.mem_append.1 hd with hd | hd
          · exact hall d hd
          · rw [List.mem_singleton.1 hd]; exact hsame
        · rw [take_succ_get hc, List.map_append]
          show OwnS _ _ _ _ _
          simpa [Value.cells, List.flatMap_append] using hO'
      · refine r_draw h fun w16 h => ?_
        refine r_ldN (sh := .str) c.name (l0_ h) ?_
        refine r_ldN (sh := .slice) t (lm_ (V := [_] ++ (Lb ++ Lc)) (by simpa [List.append_assoc] using h)) ?_
        refine r_ix qt hqt (by omega) (by omega) ?_
        simp only [Int.toNat_natCast]
        refine r_ldN (sh := .slice) mk.d (lt_ h).2.2 ?_
        refine r_ldN (sh := .str) c.name (l0_ h) ?_
        refine r_call h (c_l07Has (lt_ h).1 c.name (by omega)) fun r70 w17 h _ hr70 => ?_
        subst hr70
        refine r_chk3 (l0_ h) (lt_ h).2.2 (lm_ (V := [_] ++ (Lb ++ Lc)) (by simpa [List.append_assoc] using h)) ?_
        refine r_call h (c_l07Has (lt_ h).2.1 c.name (by omega)) fun r78 w18 h _ hr78 => ?_
        subst hr78
        refine r_chk1 (lm_ (V := [_] ++ (Lb ++ Lc)) (by simpa [List.append_assoc] using h)) ?_
        refine r_pur (sh := .bool) _ (fun w' => run_neq_chOf _ _ _ _ _ w') ?_
        by_cases hsame : look (mapOfB b hd) c.name = look (mapOfB b k) c.name
        · refine r_false (by rw [decide_eq_true hsame]; rfl) ?_
          exact ⟨(), rfl, hsame, h⟩
        · refine r_true (by rw [decide_eq_false hsame]; rfl) ?_
          exact bad_commit (V := [_, _, _] ++ ([_] ++ (Lb ++ (Lc ++ [])))) (by unfold undoAns; rw [if_pos heq, if_neg (fun hh => hsame (hh.2 c hcm))]) h.pl3
    · have hnl : n = (chgB b k).length := by omega
      subst hnl
      rw [List.take_of_length_le (Nat.le_refl _)] at hall hOb
      have hans : undoAns b hd k note = if (undoB b hd k).length ≤ 64 then comAns b [hd] (undoB b hd k) note else (noBk, zero32, 3) := by unfold undoAns; rw [if_pos heq, if_pos ⟨hanc, hall⟩]
      rw [hans]
      refine r_call h (c_l07Undone (lt_ h).1 (OwnChangeS.rd hOb h) (by omega) (by rw [List.length_map]; omega)) fun r99 w14 hA99 _ ⟨hc99, hL99⟩ => ?_
      obtain ⟨r99, c99⟩ := r99
      dsimp only at hc99 hL99 ⊢
      rw [undoB_eq hv hhK hkK] at hc99 hL99
      have huk := undoB_ok hv hhK hkK
      by_cases hle : (undoB b hd k).length ≤ 64
      · rw [if_pos (huk.2 hle)] at hc99
        subst hc99
        obtain ⟨Lu, hLu, hOu⟩ := hL99 (huk.2 hle)
        rw [List.append_nil] at hLu
        have h := h.join hLu
        refine r_ne (fun hh => absurd rfl hh) (fun _ => ?_)
        rw [if_pos hle]
        refine r_ldN _ (lh_ (V := Lu ++ (Lb ++ Lc)) (by simpa [List.append_assoc] using h)) ?_
        refine r_bs1 T_sl_Key h (by simp [Value.cells, hho.1]) (by omega) fun y108 w15 hy108 _ => ?_
        have hks : KsR w15 y108 [hd] := KsR.one hy108 hho
        have h := hy108.at_
        refine r_call h (c_l07Commit (note := note) (bk_ (V := Lu ++ (Lb ++ Lc)) (by simpa [List.append_assoc] using h)) hX hM hv hks (by simp) (OwnEntryS.rd hOu h) (by omega)) fun r106 w16 _ _ ⟨Lr, hLr, hOr, hkr, hcr⟩ => ?_
        obtain ⟨g0, g1, g2⟩ := r106
        dsimp only at hOr hkr hcr ⊢
        have h := (h.join hLr).pl4
        refine r_stA h 1 rfl rfl hOr.sz rfl hOr.one fun w17 h => ?_
        refine r_stA h 0 rfl rfl (RdKey.sz hkr) (by simp) (RdKey.one hkr) fun w18 h => ?_
        refine r_ldA h 1 rfl rfl hOr.sz ?_
        refine r_ldA h 0 rfl rfl (RdKey.sz hkr) ?_
        have h : At w w18 ([(b9, g1, ty_impl_Key), (b8, g0, ty_impl_Book), (b6, (u8s k).toArray, ty_impl_Key), (b5, (u8s hd).toArray, ty_impl_Key), (b4, bkC s t, ty_impl_Book)] ++ (Lr ++ (Lu ++ (Lb ++ (Lc ++ []))))) := h
        exact r_ret h.nil (g0, g1, g2) rfl ⟨Lr, h.right.left, hOr, hkr, hcr⟩
      · rw [if_neg (fun hh => hle (huk.1 hh))] at hc99
        subst hc99
        refine r_ne (fun _ => ?_) (fun hh => absurd hh (by decide))
        exact bad_commit (V := [_, _, _] ++ (Lb ++ (Lc ++ []))) (by rw [if_neg hle]) hA99.pl2
  · refine r_draw h fun w11 h => ?_
    refine r_ldN _ (lk_ h) ?_
    refine r_call h (c_l07Above (bk_ h) hX hv hhK) fun r50 w12 h _ ⟨hS50, hn50⟩ => ?_
    refine r_chk1 (lk_ h) ?_
    have hal := ancB_len hv hhK
    refine r_call h (c_l01Has (slO_ks hS50 (fun x hx => keysB_ok b x (ancB_sub hv hhK hx))) hko (by omega)) fun r52 w13 h _ hr52 => ?_
    subst hr52
    by_cases hanc : k ∈ ancB b hd
    · refine r_false (by rw [decide_eq_true hanc]; rfl) ?_
      exact ⟨(), rfl, hanc, h⟩
    · refine r_true (by rw [decide_eq_false hanc]; rfl) ?_
      exact bad_commit (V := [_, _, _] ++ (Lc ++ [])) (by unfold undoAns; rw [if_pos heq, if_neg (fun hh => hanc hh.1)]) h.pl1)

theorem sumE_good : ∀ {es : List PE}, (∀ e ∈ es, entGood e) → sumE es ≤ 128 * es.length
  | [], _ => by simp [sumE]
  | e :: r, h => by
    have h1 := h e (by simp)
    have h2 := sumE_good (es := r) fun x hx => h x (by simp [hx])
    have h3 := h1.1
    unfold nameOk at h3
    simp only [Bool.and_eq_true, decide_eq_true_eq] at h3
    have h4 := h1.2
    rw [List.length_cons]
    show e.1.size + e.2.size + sumE r ≤ _
    omega
theorem undoAns_size (b : PBk) (hd k : List Int) (note : ByteArray) : sizeBook (undoAns b hd k note).1 ≤ sizeBook b + 9000 := by
  unfold undoAns
  split
  · rename_i h
    unfold openCode at h
    split at h
    · rename_i hv
      split at h
      · rename_i hk
        split
        · split
          · rename_i hl
            have h1 := comAns_size b [hd] (undoB b hd k) note
            have h2 := sumE_good (undoB_good hv (hk hd (by simp)) (hk k (by simp))).2
            unfold sizeEntryS at h1
            omega
          · rw [noBk_size]; omega
        · rw [noBk_size]; omega
      · cases h
    · cases h
  · rw [noBk_size]; omega
end Go.Proofs.YtaadgdbegpmlmaaGreat
