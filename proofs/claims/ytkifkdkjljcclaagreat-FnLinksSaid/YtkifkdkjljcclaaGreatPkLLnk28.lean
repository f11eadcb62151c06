/- LinkPath's plain law: a search in breadth. Is a key in a slice of keys (reference); a slice of keys turned round (library). LinkPath's plain law: the path. LinkPath: the program's map of predecessors, plain. LinkPath: what both sides answer, plain. The nodes of maps by their keys: the program's mapper and the reference's l08Node. The program's walk over the nodes of a map. More kinds of values of which laws speak: bytes. -/
import Derived.Test.YtkifkdkjljcclaaGreatPkLLnk26
import Derived.Test.YtkifkdkjljcclaaGreatPkLLnk27
import Derived.Test.YtkifkdkjljcclaaGreatPkLLnk21
import Derived.Test.YtkifkdkjljcclaaGreatPkLLnk25
import Derived.Test.YtkifkdkjljcclaaGreatPkLLnk23
import Derived.Test.YtkifkdkjljcclaaGreatPkLLnk19
namespace Go.Proofs.YtkifkdkjljcclaaGreat
open Go.Sx Go.RowKit

def visit (B : List PB) (i : Nat) (s : List (List Int) × List Nat) (l : List Int) : List (List Int) × List Nat := if l ∈ s.1 ∨ l ∉ keysOf B then s else (s.1 ++ [l], s.2 ++ [i])
def blobAt (B : List PB) (k : List Int) : PB := B.getD (posK (keysOf B) k) ⟨0, []⟩
def met (B : List PB) (x : List Int) : Nat → List (List Int) × List Nat
  | 0 => ([x], [0])
  | i + 1 => if i < (met B x i).1.length then (links (blobAt B ((met B x i).1.getD i []))).foldl (visit B i) (met B x i) else met B x i

theorem met_succ (B : List PB) (x : List Int) (i : Nat) : met B x (i + 1) = if i < (met B x i).1.length then (links (blobAt B ((met B x i).1.getD i []))).foldl (visit B i) (met B x i) else met B x i := rfl
theorem visit_grow (B : List PB) (i : Nat) (s : List (List Int) × List Nat) (l : List Int) : ∃ t u, (visit B i s l).1 = s.1 ++ t ∧ (visit B i s l).2 = s.2 ++ u ∧ t.length = u.length := by
  unfold visit
  split
  · exact ⟨[], [], by simp, by simp, rfl⟩
  · exact ⟨[l], [i], rfl, rfl, rfl⟩
theorem fold_grow (B : List PB) (i : Nat) (ls : List (List Int)) : ∀ s : List (List Int) × List Nat, ∃ t u, (ls.foldl (visit B i) s).1 = s.1 ++ t ∧ (ls.foldl (visit B i) s).2 = s.2 ++ u ∧ t.length = u.length := by
  induction ls with
  | nil => exact fun s => ⟨[], [], by simp, by simp, rfl⟩
  | cons l r ih =>
    intro s
    obtain ⟨t, u, h1, h2, h3⟩ := visit_grow B i s l
    obtain ⟨t', u', h1', h2', h3'⟩ := ih (visit B i s l)
    exact ⟨t ++ t', u ++ u', by rw [List.foldl_cons, h1', h1, List.append_assoc], by rw [List.foldl_cons, h2', h2, List.append_assoc], by simp [h3, h3']⟩
theorem met_grow (B : List PB) (x : List Int) (i : Nat) : ∃ t u, (met B x (i + 1)).1 = (met B x i).1 ++ t ∧ (met B x (i + 1)).2 = (met B x i).2 ++ u ∧ t.length = u.length := by
  rw [met_succ]
  split
  · exact fold_grow B i _ _
  · exact ⟨[], [], by simp, by simp, rfl⟩
theorem met_mono (B : List PB) (x : List Int) (i k : Nat) : ∃ t u, (met B x (i + k)).1 = (met B x i).1 ++ t ∧ (met B x (i + k)).2 = (met B x i).2 ++ u := by
  induction k with
  | zero => exact ⟨[], [], by simp, by simp⟩
  | succ k ih =>
    obtain ⟨t, u, h1, h2⟩ := ih
    obtain ⟨t', u', h1', h2', _⟩ := met_grow B x (i + k)
    exact ⟨t ++ t', u ++ u', by rw [← Nat.add_assoc, h1', h1, List.append_assoc], by rw [← Nat.add_assoc, h2', h2, List.append_assoc]⟩
theorem met_stop {B : List PB} {x : List Int} {i : Nat} (h : (met B x i).1.length ≤ i) (k : Nat) : met B x (i + k) = met B x i := by
  induction k with
  | zero => rfl
  | succ k ih =>
    rw [← Nat.add_assoc]
    rw [met_succ, ih, if_neg (by omega)]
theorem met_len (B : List PB) (x : List Int) (i : Nat) : (met B x i).1.length = (met B x i).2.length := by
  induction i with
  | zero => rfl
  | succ i ih =>
    obtain ⟨t, u, h1, h2, h3⟩ := met_grow B x i
    rw [h1, h2, List.length_append, List.length_append, ih, h3]

structure MetOk (B : List PB) (x : List Int) (s : List (List Int) × List Nat) : Prop where
  nodup : s.1.Nodup
  inB : ∀ k ∈ s.1, k ∈ keysOf B
  len : s.1.length = s.2.length
  first : s.1[0]? = some x
  par : ∀ j p, 0 < j → s.2[j]? = some p → p < j
theorem MetOk.visit {B : List PB} {x : List Int} {s : List (List Int) × List Nat} {i : Nat} (h : MetOk B x s) (hi : i < s.1.length) (l : List Int) : MetOk B x (visit B i s l) := by
  unfold Go.Proofs.YtkifkdkjljcclaaGreat.visit
  split
  · exact h
  · rename_i hh
    simp only [not_or, Decidable.not_not] at hh
    refine ⟨?_, ?_, by simp [h.len], ?_, ?_⟩
    · exact List.nodup_append.2 ⟨h.nodup, by simp, fun a ha b hb => by rw [List.mem_singleton.1 hb]; exact fun e => hh.1 (e ▸ ha)⟩
    · intro k hk
      rcases List.mem_append.1 hk with hk | hk
      · exact h.inB k hk
      · rw [List.mem_singleton.1 hk]; exact hh.2
    · rw [List.getElem?_append_left (by omega)]; exact h.first
    · intro j p hj hp
      rcases Nat.lt_or_ge j s.2.length with hlt | hge
      · rw [List.getElem?_append_left hlt] at hp; exact h.par j p hj hp
      · rw [List.getElem?_append_right hge] at hp
        have hj0 : j - s.2.length = 0 := by
          rcases Nat.eq_zero_or_pos (j - s.2.length) with h0 | h0
          · exact h0
          · rw [List.getElem?_eq_none (by simp; omega)] at hp; cases hp
        rw [hj0] at hp
        have : i = p := by simpa using hp
        have := h.len
        omega
theorem MetOk.fold {B : List PB} {x : List Int} {i : Nat} (ls : List (List Int)) : ∀ {s : List (List Int) × List Nat}, MetOk B x s → i < s.1.length → MetOk B x (ls.foldl (Go.Proofs.YtkifkdkjljcclaaGreat.visit B i) s) := by
  induction ls with
  | nil => exact fun h _ => h
  | cons l r ih =>
    intro s h hi
    obtain ⟨t, u, h1, _, _⟩ := visit_grow B i s l
    exact ih (h.visit hi l) (by rw [h1, List.length_append]; omega)
theorem met_ok {B : List PB} {x : List Int} (hx : x ∈ keysOf B) : ∀ i, MetOk B x (met B x i)
  | 0 => ⟨by simp [met], by simp [met, hx], rfl, rfl, fun j p hj hp => by
      unfold met at hp
      rw [List.getElem?_eq_none (by simp; omega)] at hp
      cases hp⟩
  | i + 1 => by
    have ih := met_ok hx i
    rw [met_succ]
    split
    · exact ih.fold _ (by assumption)
    · exact ih

end Go.Proofs.YtkifkdkjljcclaaGreat

namespace Go.Proofs.YtkifkdkjljcclaaGreat
open Go.Sx Go.RowKit

theorem c_l01Has {w : World} {s : Sl} {ks : List (List Int)} {k : List Int} (hs : KsR w s ks) (hk : keyOk k) (hmax : ks.length ≤ 1073741824) : Ret Tryz.prog n_spec_l01Has [.slice s.a s.n s.c, .agg (u8s k).toArray] w [.bool] (fun r _ => r = decide (k ∈ ks)) := spec_l01Has_calls _ _ (by
  unfold spec_l01Has
  have hn := hs.n
  refine r_new (At.refl w) fun b3 w1 h => ?_
  refine r_loop (σ := Int) (fun i w' => ∃ j : Nat, i = j ∧ j ≤ ks.length ∧ k ∉ ks.take j ∧ At w w' [(b3, (u8s k).toArray, ty_impl_Key)]) (fun i _ => (s.n - i).toNat) 0 rfl ⟨0, rfl, by omega, by simp, h⟩ ?_
  rintro i w2 ⟨j, rfl, hj, hnot, h⟩
  refine r_any fun _ => ?_
  refine r_if ((j : Int) < (s.n : Int)) rfl (fun hlt => ?_) (fun hge => ?_)
  · refine r_draw h fun w3 h => ?_
    obtain ⟨x, q, hx, hxm, hq, hxo, hxl⟩ := (hs.at h).get (i := j) (by omega)
    refine r_ix q hq (by omega) (by omega) ?_
    refine r_ldN (u8s x).toArray (by simp only [Int.toNat_natCast]; exact hxl) ?_
    refine r_ldA h 0 rfl rfl (by simp [hk.1]) ?_
    refine r_pur _ (fun w' => run_eql_key _ _ hxo.1 hk.1 w') ?_
    by_cases he : x = k
    · subst he
      refine r_true (decide_eq_true rfl) ?_
      exact r_ret h.nil true rfl (decide_eq_true hxm).symm
    · refine r_false (decide_eq_false he) ?_
      refine ⟨((j + 1 : Nat) : Int), by rw [w64 (by omega) (by omega)]; rfl, ⟨j + 1, rfl, by omega, ?_, h⟩, by omega⟩
      rw [take_succ_get hx, List.mem_append, List.mem_singleton]
      rintro (hh | hh)
      · exact hnot hh
      · exact he hh.symm
  · have : j = ks.length := by omega
    subst this
    rw [List.take_of_length_le (Nat.le_refl _)] at hnot
    exact r_ret h.nil false rfl (decide_eq_false hnot).symm)

theorem flatMap_cut {α : Type} {z : Nat} {f : α → List Value} (n : Nat) : ∀ ys : List α, (∀ x ∈ ys, (f x).length = z) → (ys.flatMap f).take (n * z) = (ys.take n).flatMap f ∧ (ys.flatMap f).drop (n * z) = (ys.drop n).flatMap f := by
  induction n with
  | zero => intro ys _; simp
  | succ n ih =>
    intro ys hy
    cases ys with
    | nil => simp
    | cons y r =>
      have hz := hy y (by simp)
      obtain ⟨i1, i2⟩ := ih r (fun x hx => hy x (by simp [hx]))
      rw [List.flatMap_cons, Nat.add_mul, Nat.one_mul, Nat.add_comm, List.take_succ_cons, List.drop_succ_cons, List.flatMap_cons]
      constructor
      · rw [List.take_append, hz, List.take_of_length_le (by omega), Nat.add_sub_cancel_left, i1]
      · rw [List.drop_append, hz, List.drop_eq_nil_of_le (by omega), Nat.add_sub_cancel_left, i2, List.nil_append]
theorem flatMap_set {α : Type} {z : Nat} {f : α → List Value} {l : List α} (hl : ∀ x ∈ l, (f x).length = z) {i : Nat} (hi : i < l.length) (y : α) : (l.flatMap f).take (i * z) ++ f y ++ (l.flatMap f).drop (i * z + z) = (l.set i y).flatMap f := by
  rw [show i * z + z = (i + 1) * z by rw [Nat.add_mul, Nat.one_mul], (flatMap_cut i l hl).1, (flatMap_cut (i + 1) l hl).2, List.set_eq_take_append_cons_drop, if_pos hi]
  simp

theorem c_Reverse {w0 w : World} {ls L : List Blk} {s : Sl} {ks : List (List Int)} (hA : At w0 w (L ++ ls)) (hO : OwnS ty_impl_Key 32 s (ks.flatMap u8s) L) (hk : ∀ k ∈ ks, keyOk k) (hmax : ks.length ≤ 1073741824) :
    Calls Tryz.prog n_slices_Reverse_sl_impl_Key_impl_Key [.slice s.a s.n s.c].toArray w fun e w' => ∃ v, e = .returned v ∧ v = .tuple #[] ∧ ∃ L', At w0 w' (L' ++ ls) ∧ OwnS ty_impl_Key 32 s (ks.reverse.flatMap u8s) L' := slices_Reverse_sl_impl_Key_impl_Key_calls s (by
  unfold slices_Reverse_sl_impl_Key_impl_Key
  have hn : s.n = ks.length := by have := hO.1; rw [flatMap_length (z := 32) (fun x hx => by rw [u8s_len]; exact (hk x hx).1)] at this; omega
  have e0 : IntKind.wrap .i64 ((s.n : Int) - 1) = (ks.length : Int) - 1 := by rw [w64 (by omega) (by omega), hn]
  rw [e0]
  refine r_loop (σ := Int × Int) (fun i w' => ∃ (j : Nat) (cur : List (List Int)) (L : List Blk), i = ((j : Int), (ks.length : Int) - 1 - j) ∧ 2 * j ≤ ks.length + 1 ∧ cur.length = ks.length ∧ (∀ m, m < ks.length → cur[m]? = if m < j ∨ ks.length - 1 - j < m then ks[ks.length - 1 - m]? else ks[m]?) ∧ (∀ x ∈ cur, keyOk x) ∧ OwnS ty_impl_Key 32 s (cur.flatMap u8s) L ∧ At w0 w' (L ++ ls)) (fun i _ => (i.2 - i.1 + 2).toNat) (0, (ks.length : Int) - 1) rfl
    ⟨0, ks, L, by simp, by omega, rfl, fun m hm => by rw [if_neg (by omega)], hk, hO, hA⟩ ?_
  rintro i w2 ⟨j, cur, L, rfl, hj, hcl, hcur, hck, hO, h⟩
  refine r_any fun _ => ?_
  dsimp only
  have hzz : ∀ x ∈ cur, (u8s x).length = 32 := fun x hx => by rw [u8s_len]; exact (hck x hx).1
  refine r_if ((j : Int) < (ks.length : Int) - 1 - j) rfl (fun hlt => ?_) (fun hge => ?_)
  · obtain ⟨jj, hjj⟩ : ∃ jj : Nat, jj = ks.length - 1 - j := ⟨_, rfl⟩
    have ej : (ks.length : Int) - 1 - j = (jj : Int) := by omega
    rw [ej]
    refine r_draw h fun w3 h => ?_
    have rd := ownS_ks hO h (List.sublist_append_left _ _) hck
    obtain ⟨p, hp⟩ := hO.addr (by omega)
    obtain ⟨b, q, hb, hbm, hq, hbo, hbl⟩ := rd.get (i := jj) (by omega)
    obtain ⟨a, q', ha, ham, hq', hao, hal⟩ := rd.get (i := j) (by omega)
    rw [hp] at hq hq'
    cases hq
    cases hq'
    refine r_ix p hp (by omega) (by omega) ?_
    refine r_ldN (u8s b).toArray (by simp only [Int.toNat_natCast]; exact hbl) ?_
    refine r_ix p hp (by omega) (by omega) ?_
    refine r_ldN (u8s a).toArray (by simp only [Int.toNat_natCast]; exact hal) ?_
    refine r_ix p hp (by omega) (by omega) ?_
    have hfl : (cur.flatMap u8s).length = cur.length * 32 := flatMap_length hzz
    refine r_stO h hO hp (j * 32) (by simp) (by simp [Value.cells, hbo.1]) (by omega) (by simpa [Value.cells] using u8s_one) fun w4 L4 h hO4 => ?_
    have e4 : (cur.flatMap u8s).take (j * 32) ++ (Value.agg (u8s b).toArray).cells.toList ++ (cur.flatMap u8s).drop (j * 32 + 32) = (cur.set j b).flatMap u8s := by
      rw [← flatMap_set hzz (by omega)]
      simp [Value.cells]
    rw [e4] at hO4
    have hzz4 : ∀ x ∈ cur.set j b, (u8s x).length = 32 := fun x hx => by
      rcases List.mem_or_eq_of_mem_set hx with hx | rfl
      · exact hzz x hx
      · rw [u8s_len]; exact hbo.1
    have hfl4 : ((cur.set j b).flatMap u8s).length = cur.length * 32 := by rw [flatMap_length hzz4, List.length_set]
    refine r_ix p hp (by omega) (by omega) ?_
    refine r_stO h hO4 hp (jj * 32) (by simp) (by simp [Value.cells, hao.1]) (by omega) (by simpa [Value.cells] using u8s_one) fun w5 L5 h hO5 => ?_
    have e5 : ((cur.set j b).flatMap u8s).take (jj * 32) ++ (Value.agg (u8s a).toArray).cells.toList ++ ((cur.set j b).flatMap u8s).drop (jj * 32 + 32) = ((cur.set j b).set jj a).flatMap u8s := by
      rw [← flatMap_set hzz4 (by rw [List.length_set]; omega)]
      simp [Value.cells]
    rw [e5] at hO5
    refine ⟨(((j + 1 : Nat) : Int), (ks.length : Int) - 1 - ((j + 1 : Nat) : Int)), ?_, ⟨j + 1, (cur.set j b).set jj a, L5, rfl, by omega, by simp [hcl], ?_, ?_, hO5, h⟩, by dsimp only; omega⟩
    · rw [w64 (by omega) (by omega), w64 (by omega) (by omega)]
      simp only [embL, Sh.emb]
      congr 3
      omega
    · intro m hm
      have hcb := hcur jj (by omega)
      have hca := hcur j (by omega)
      rw [if_neg (by omega)] at hcb hca
      rw [hb] at hcb
      rw [ha] at hca
      simp only [List.getElem?_set, List.length_set]
      by_cases h1 : jj = m
      · subst h1
        rw [if_pos rfl, if_pos (by omega), if_pos (by omega), show ks.length - 1 - jj = j by omega, ← hca]
      · rw [if_neg h1]
        by_cases h2 : j = m
        · subst h2
          rw [if_pos rfl, if_pos (by omega), if_pos (by omega), show ks.length - 1 - j = jj by omega, ← hcb]
        · rw [if_neg h2, hcur m hm]
          by_cases h3 : m < j ∨ ks.length - 1 - j < m
          · rw [if_pos h3, if_pos (by omega)]
          · rw [if_neg h3, if_neg (by omega)]
    · intro x hx
      rcases List.mem_or_eq_of_mem_set hx with hx | rfl
      · rcases List.mem_or_eq_of_mem_set hx with hx | rfl
        · exact hck x hx
        · exact hbo
      · exact hao
  · have : cur = ks.reverse := by
      apply List.ext_getElem?
      intro m
      rcases Nat.lt_or_ge m ks.length with hm | hm
      · rw [hcur m hm, List.getElem?_reverse (by omega)]
        by_cases h3 : m < j ∨ ks.length - 1 - j < m
        · rw [if_pos h3]
        · rw [if_neg h3]
          congr 1
          omega
      · rw [List.getElem?_eq_none (by omega), List.getElem?_eq_none (by simp; omega)]
    subst this
    exact r_retR ⟨rfl, L, h, hO⟩)

end Go.Proofs.YtkifkdkjljcclaaGreat

namespace Go.Proofs.YtkifkdkjljcclaaGreat
open Go.Sx Go.RowKit

def pathTo (s : List (List Int) × List Nat) : Nat → Nat → List (List Int)
  | 0, i => [s.1.getD i []]
  | f + 1, i => if i = 0 then [s.1.getD 0 []] else pathTo s f (s.2.getD i 0) ++ [s.1.getD i []]
theorem MetOk.parD {B : List PB} {x : List Int} {s : List (List Int) × List Nat} (h : MetOk B x s) {i : Nat} (h0 : 0 < i) (hi : i < s.1.length) : s.2.getD i 0 < i := by
  have hlt : i < s.2.length := by rw [← h.len]; exact hi
  have : s.2[i]? = some (s.2.getD i 0) := by simp [List.getD, List.getElem?_eq_getElem hlt]
  exact h.par i _ h0 this
theorem pathTo_fuel {B : List PB} {x : List Int} {s : List (List Int) × List Nat} (h : MetOk B x s) : ∀ (f i : Nat), i ≤ f → i < s.1.length → pathTo s f i = pathTo s i i := by
  intro f
  induction f using Nat.strongRecOn with
  | _ f ih =>
    intro i hf hi
    cases f with
    | zero => have : i = 0 := by omega
              subst this; rfl
    | succ f =>
      cases i with
      | zero => rfl
      | succ i =>
        have hp := h.parD (i := i + 1) (by omega) hi
        show (if i + 1 = 0 then _ else pathTo s f (s.2.getD (i + 1) 0) ++ _) = (if i + 1 = 0 then _ else pathTo s i (s.2.getD (i + 1) 0) ++ _)
        rw [if_neg (by omega), if_neg (by omega), ih f (by omega) _ (by omega) (by omega)]
        rcases Nat.lt_or_ge i (f + 1) with h1 | h1
        · rw [ih i h1 _ (by omega) (by omega)]
        · omega
theorem pathTo_step {B : List PB} {x : List Int} {s : List (List Int) × List Nat} (h : MetOk B x s) {i : Nat} (h0 : 0 < i) (hi : i < s.1.length) : pathTo s i i = pathTo s (s.2.getD i 0) (s.2.getD i 0) ++ [s.1.getD i []] := by
  have hp := h.parD h0 hi
  cases i with
  | zero => omega
  | succ i =>
    show (if i + 1 = 0 then _ else pathTo s i (s.2.getD (i + 1) 0) ++ _) = _
    rw [if_neg (by omega), pathTo_fuel h i _ (by omega) (by omega)]
theorem pathTo_grow {B : List PB} {x : List Int} {s s' : List (List Int) × List Nat} (h : MetOk B x s) (h' : MetOk B x s') (h1 : ∃ t, s'.1 = s.1 ++ t) (h2 : ∃ u, s'.2 = s.2 ++ u) : ∀ i, i < s.1.length → pathTo s' i i = pathTo s i i := by
  obtain ⟨t, h1⟩ := h1
  obtain ⟨u, h2⟩ := h2
  have g1 : ∀ i, i < s.1.length → s'.1.getD i [] = s.1.getD i [] := fun i hi => by rw [h1]; simp only [List.getD]; rw [List.getElem?_append_left hi]
  have g2 : ∀ i, i < s.1.length → s'.2.getD i 0 = s.2.getD i 0 := fun i hi => by rw [h2]; simp only [List.getD]; rw [List.getElem?_append_left (by rw [← h.len]; exact hi)]
  have hl : ∀ i, i < s.1.length → i < s'.1.length := fun i hi => by rw [h1, List.length_append]; omega
  intro i
  induction i using Nat.strongRecOn with
  | _ i ih =>
    intro hi
    rcases Nat.eq_zero_or_pos i with h0 | h0
    · subst h0
      show [s'.1.getD 0 []] = [s.1.getD 0 []]
      rw [g1 0 hi]
    · rw [pathTo_step h h0 hi, pathTo_step h' h0 (hl i hi), g1 i hi, g2 i hi, ih _ (h.parD h0 hi) (by have := h.parD h0 hi; omega)]
end Go.Proofs.YtkifkdkjljcclaaGreat

namespace Go.Proofs.YtkifkdkjljcclaaGreat
open Go.Sx Go.RowKit

theorem lookup_none {m : List (List Int × Value)} {k : List Int} (h : k ∉ m.map (·.1)) : m.lookup k = none := by
  induction m with
  | nil => rfl
  | cons p m ih =>
    obtain ⟨a, v⟩ := p
    simp only [List.map_cons, List.mem_cons, not_or] at h
    have hb : (k == a) = false := beq_eq_false_iff_ne.2 h.1
    show (match (k == a) with | true => some v | false => m.lookup k) = none
    rw [hb]
    exact ih h.2
theorem lookup_some {m : List (List Int × Value)} {k : List Int} {v : Value} {j : Nat} (hn : (m.map (·.1)).Nodup) (h : m[j]? = some (k, v)) : m.lookup k = some v := by
  induction m generalizing j with
  | nil => simp at h
  | cons p m ih =>
    obtain ⟨a, u⟩ := p
    rw [List.map_cons, List.nodup_cons] at hn
    cases j with
    | zero =>
      simp at h
      obtain ⟨rfl, rfl⟩ := h
      exact List.lookup_cons_self
    | succ j =>
      have h' : m[j]? = some (k, v) := by simpa using h
      have hka : k ≠ a := fun hh => hn.1 (by rw [← hh]; exact List.mem_map.2 ⟨_, List.mem_of_getElem? h', rfl⟩)
      have hb : (k == a) = false := beq_eq_false_iff_ne.2 hka
      show (match (k == a) with | true => some u | false => m.lookup k) = some v
      rw [hb]
      exact ih hn.2 h'

def cameOf (s : List (List Int) × List Nat) : List (List Int × Value) := (List.range s.1.length).map fun j => (s.1.getD j [], arrK (s.1.getD (s.2.getD j 0) []))
theorem cameOf_keys (s : List (List Int) × List Nat) : (cameOf s).map (·.1) = s.1 := by
  apply List.ext_getElem?
  intro j
  unfold cameOf
  rw [List.map_map, List.getElem?_map]
  rcases Nat.lt_or_ge j s.1.length with hj | hj
  · rw [List.getElem?_range hj]
    simp [List.getD, List.getElem?_eq_getElem hj]
  · rw [List.getElem?_eq_none (by simpa using hj), List.getElem?_eq_none hj]
    rfl
theorem cameOf_get {s : List (List Int) × List Nat} {j : Nat} (hj : j < s.1.length) : (cameOf s)[j]? = some (s.1.getD j [], arrK (s.1.getD (s.2.getD j 0) [])) := by
  unfold cameOf
  rw [List.getElem?_map, List.getElem?_range hj]
  rfl
theorem cameOf_new {s : List (List Int) × List Nat} {l : List Int} {i : Nat} (hl : s.1.length = s.2.length) (hp : ∀ j, j < s.1.length → s.2.getD j 0 < s.1.length) (hi : i < s.1.length) : cameOf (s.1 ++ [l], s.2 ++ [i]) = cameOf s ++ [(l, arrK (s.1.getD i []))] := by
  have g1 : ∀ j, j < s.1.length → (s.1 ++ [l]).getD j [] = s.1.getD j [] := fun j hj => by simp only [List.getD]; rw [List.getElem?_append_left hj]
  have g2 : ∀ j, j < s.1.length → (s.2 ++ [i]).getD j 0 = s.2.getD j 0 := fun j hj => by simp only [List.getD]; rw [List.getElem?_append_left (by omega)]
  have g3 : (s.1 ++ [l]).getD s.1.length [] = l := by simp [List.getD]
  have g4 : (s.2 ++ [i]).getD s.1.length 0 = i := by rw [hl]; simp [List.getD]
  unfold cameOf
  simp only [List.length_append, List.length_cons, List.length_nil, Nat.zero_add]
  rw [List.range_succ, List.map_append]
  congr 1
  · refine List.map_congr_left fun j hj => ?_
    have hj' := List.mem_range.1 hj
    rw [g1 j hj', g2 j hj', g1 _ (hp j hj')]
  · simp only [List.map_cons, List.map_nil]
    rw [g3, g4, g1 i hi]
end Go.Proofs.YtkifkdkjljcclaaGreat

namespace Go.Proofs.YtkifkdkjljcclaaGreat
open Go.Sx Go.RowKit

theorem nodup_le {α : Type} [DecidableEq α] : ∀ {s t : List α}, s.Nodup → (∀ x ∈ s, x ∈ t) → s.length ≤ t.length
  | [], t, _, _ => Nat.zero_le _
  | x :: s, t, hn, hs => by
    rw [List.nodup_cons] at hn
    have hx : x ∈ t := hs x (by simp)
    have ih := nodup_le (s := s) (t := t.erase x) hn.2 fun y hy => (List.mem_erase_of_ne (fun e : y = x => hn.1 (by rw [← e]; exact hy))).2 (hs y (by simp [hy]))
    rw [List.length_erase_of_mem hx] at ih
    have : 0 < t.length := List.length_pos_of_mem hx
    rw [List.length_cons]
    omega

def idxK : List (List Int) → List Int → Nat
  | [], _ => 0
  | x :: r, b => if x = b then 0 else idxK r b + 1
theorem idxK_of {l : List (List Int)} {b : List Int} (hn : l.Nodup) {i : Nat} (h : l[i]? = some b) : idxK l b = i := by
  induction l generalizing i with
  | nil => simp at h
  | cons x r ih =>
    rw [List.nodup_cons] at hn
    show (if x = b then 0 else idxK r b + 1) = i
    cases i with
    | zero => simp at h; rw [if_pos h]
    | succ i =>
      have h' : r[i]? = some b := by simpa using h
      rw [if_neg (fun e : x = b => hn.1 (by rw [e]; exact List.mem_of_getElem? h')), ih hn.2 h']
theorem idxK_get {l : List (List Int)} {b : List Int} (h : b ∈ l) : l[idxK l b]? = some b := by
  induction l with
  | nil => cases h
  | cons x r ih =>
    show (x :: r)[if x = b then 0 else idxK r b + 1]? = some b
    by_cases e : x = b
    · rw [if_pos e]; simp [e]
    · rw [if_neg e]
      have : b ∈ r := by simpa [Ne.symm e] using h
      simpa using ih this

theorem MetOk.le {B : List PB} {x : List Int} {s : List (List Int) × List Nat} (h : MetOk B x s) : s.1.length ≤ B.length := by
  have := nodup_le h.nodup h.inB
  rwa [keysOf_len] at this
theorem getD_of {l : List (List Int)} {i : Nat} {b : List Int} (h : l[i]? = some b) : l.getD i [] = b := by simp [List.getD, h]
theorem getD_get {l : List (List Int)} {i : Nat} (h : i < l.length) : l[i]? = some (l.getD i []) := by simp [List.getD, List.getElem?_eq_getElem h]

def pathOf (F : List (List Int) × List Nat) (b : List Int) : List (List Int) × Int := if b ∈ F.1 then (pathTo F (idxK F.1 b) (idxK F.1 b), 0) else ([], 6)
def pathAns (B : List PB) (a b : List Int) : List (List Int) × Int :=
  if validS B then (if a ∈ keysOf B ∧ b ∈ keysOf B then pathOf (met B a B.length) b else ([], 6)) else ([], 1)

theorem met_end {B : List PB} {x : List Int} (hx : x ∈ keysOf B) {i : Nat} (h : (met B x i).1.length ≤ i) (hi : i ≤ (met B x i).1.length) : met B x B.length = met B x i := by
  have := (met_ok hx i).le
  have := met_stop h (B.length - i)
  rwa [show i + (B.length - i) = B.length by omega] at this
theorem met_found {B : List PB} {x : List Int} (hx : x ∈ keysOf B) {i : Nat} {b : List Int} (hi : i ≤ B.length) {j : Nat} (hb : (met B x i).1[j]? = some b) : pathOf (met B x B.length) b = (pathTo (met B x i) j j, 0) := by
  obtain ⟨t, u, h1, h2⟩ := met_mono B x i (B.length - i)
  rw [show i + (B.length - i) = B.length by omega] at h1 h2
  have hj : j < (met B x i).1.length := (List.getElem?_eq_some_iff.1 hb).1
  have hb' : (met B x B.length).1[j]? = some b := by rw [h1, List.getElem?_append_left hj]; exact hb
  unfold pathOf
  rw [if_pos (List.mem_of_getElem? hb'), idxK_of (met_ok hx _).nodup hb', pathTo_grow (met_ok hx i) (met_ok hx _) ⟨t, h1⟩ ⟨u, h2⟩ j hj]

theorem pathTo_mem {B : List PB} {x : List Int} {s : List (List Int) × List Nat} (h : MetOk B x s) : ∀ i, i < s.1.length → (∀ k ∈ pathTo s i i, k ∈ s.1) ∧ (pathTo s i i).length ≤ i + 1 := by
  intro i
  induction i using Nat.strongRecOn with
  | _ i ih =>
    intro hi
    rcases Nat.eq_zero_or_pos i with h0 | h0
    · subst h0
      show (∀ k ∈ [s.1.getD 0 []], k ∈ s.1) ∧ _
      refine ⟨fun k hk => ?_, Nat.le_refl _⟩
      rw [List.mem_singleton.1 hk]
      exact List.mem_of_getElem? (getD_get hi)
    · rw [pathTo_step h h0 hi]
      have hp := h.parD h0 hi
      obtain ⟨h1, h2⟩ := ih _ hp (by omega)
      refine ⟨fun k hk => ?_, by rw [List.length_append]; simp only [List.length_cons, List.length_nil]; omega⟩
      rcases List.mem_append.1 hk with hk | hk
      · exact h1 k hk
      · rw [List.mem_singleton.1 hk]
        exact List.mem_of_getElem? (getD_get hi)
theorem pathAns_mem (B : List PB) (a b : List Int) : ∀ k ∈ (pathAns B a b).1, k ∈ keysOf B := by
  unfold pathAns pathOf
  split
  · split
    · rename_i h
      have ok := met_ok h.1 B.length
      split
      · rename_i hb
        have hl := (List.getElem?_eq_some_iff.1 (idxK_get hb)).1
        exact fun k hk => ok.inB k ((pathTo_mem ok _ hl).1 k hk)
      · simp
    · simp
  · simp
theorem pathAns_len (B : List PB) (a b : List Int) : (pathAns B a b).1.length ≤ B.length := by
  unfold pathAns pathOf
  split
  · split
    · rename_i h
      have ok := met_ok h.1 B.length
      split
      · rename_i hb
        have hl := (List.getElem?_eq_some_iff.1 (idxK_get hb)).1
        have h1 := (pathTo_mem ok _ hl).2
        have h2 := ok.le
        show (pathTo _ _ _).length ≤ _
        omega
      · simp
    · simp
  · simp

end Go.Proofs.YtkifkdkjljcclaaGreat

namespace Go.Proofs.YtkifkdkjljcclaaGreat
open Go.Sx Go.RowKit

def nmOf (d : List Int) : ByteArray := strOf (nodeName d)
def lowBad (lo : Option ByteArray) (nm : ByteArray) : Bool := match lo with
  | none => false
  | some s => Op.bytesLess nm.toList s.toList || nm.toList == s.toList
def highBad (hi : Option ByteArray) (nm : ByteArray) : Bool := match hi with
  | none => false
  | some s => !Op.bytesLess nm.toList s.toList
def nodeGood (b : PB) : Prop := b.tag = 5 ∧ nodeOk b.data
instance (b : PB) : Decidable (nodeGood b) := inferInstanceAs (Decidable (b.tag = 5 ∧ nodeOk b.data))
def nodeFits (b : PB) (many : Nat) (loose : Bool) (lo hi : Option ByteArray) : Prop := nodeGood b ∧ many < 64 ∧ (loose = true ∨ (lowBad lo (nmOf b.data) = false ∧ highBad hi (nmOf b.data) = false))
end Go.Proofs.YtkifkdkjljcclaaGreat

namespace Go.Proofs.YtkifkdkjljcclaaGreat
open Go.Sx Go.RowKit

instance (b : PB) (many : Nat) (loose : Bool) (lo hi : Option ByteArray) : Decidable (nodeFits b many loose lo hi) := inferInstanceAs (Decidable (nodeGood b ∧ many < 64 ∧ (loose = true ∨ (lowBad lo (nmOf b.data) = false ∧ highBad hi (nmOf b.data) = false))))
end Go.Proofs.YtkifkdkjljcclaaGreat

namespace Go.Proofs.YtkifkdkjljcclaaGreat
open Go.Sx Go.RowKit

def RdByteS (w : World) (s : Sl) (l : List Int) : Prop := BSl w s l
theorem RdByteS.at {w w' : World} {ls : List Blk} {s : Sl} {l : List Int} (h : RdByteS w s l) (hA : At w w' ls) : RdByteS w' s l := BSl.at h hA
def OwnByteS (s : Sl) (l : List Int) (L : List Blk) : Prop := OwnS ty_uint8 1 s (u8s l) L ∧ bytesOk l
theorem OwnByteS.rd {w0 w : World} {s : Sl} {l : List Int} {L ls : List Blk} (h : OwnByteS s l L) (hA : At w0 w (L ++ ls)) : RdByteS w s l := ownS_bytes h.1 hA (List.sublist_append_left _ _) h.2
theorem OwnByteS.none : OwnByteS ⟨none, 0, 0⟩ [] [] := ⟨OwnS.nil _ _, by intro b hb; cases hb⟩
def RawByteS (w : World) (s : Sl) (l : List Int) : Prop := BSl w s l ∧ s.c ≤ maxLen
theorem RawByteS.rd {w : World} {s : Sl} {l : List Int} (h : RawByteS w s l) : RdByteS w s l := h.1
end Go.Proofs.YtkifkdkjljcclaaGreat
