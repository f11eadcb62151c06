/- Blobs are put into the program's store, one after the other; PutBlob's answer. The tree over keys: its key, and the blobs of its nodes. -/
import Derived.Test.YthaecdelaifccaaGreatPkLSM24
import Derived.Test.YthaecdelaifccaaGreatPkLSM21
import Derived.Test.YthaecdelaifccaaGreatPkLSM22
namespace Go.Proofs.YthaecdelaifccaaGreat
open Go.Sx Go.RowKit

/-- A store that puts may go on with. -/
def good (B : List PB) : Prop := Asc (keysOf B) ∧ B.length ≤ 128 ∧ ∀ b ∈ B, b.data.length ≤ 35184372088832 ∧ b.ok
theorem good_of {B : List PB} (h : validS B) (hok : ∀ b ∈ B, b.ok) : good B := ⟨h.2.2, h.1, fun b hb => ⟨by have := h.2.1 b hb; omega, hok b hb⟩⟩
theorem putAns_good {B : List PB} {c : PB} (h : good B) (hc : c.data.length ≤ 35184372088832 ∧ c.ok) : good (putAns B c).1 := by
  unfold putAns
  split
  · split <;> exact h
  · rename_i hm
    split
    · exact h
    · rename_i hl
      have hp := posK_le (keysOf B) c.key
      rw [keysOf_len] at hp
      refine ⟨?_, by dsimp only; rw [insAt_len hp]; omega, fun b hb => ?_⟩
      · dsimp only
        have : keysOf (insAt (posK (keysOf B) c.key) c B) = insAt (posK (keysOf B) c.key) c.key (keysOf B) := by unfold keysOf; rw [insAt_map]
        rw [this]
        exact asc_insAt h.1 hm
      · rcases mem_insAt hb with rfl | hb
        · exact hc
        · exact h.2.2 b hb

/-- Puts, one after the other; the last key. -/
def putsAns : List PB → List Int → List PB → List PB × List Int × Int
  | B, k, [] => (B, k, 0)
  | B, _, c :: r => if (putAns B c).2.2 ≠ 0 then ([], zero32, (putAns B c).2.2) else putsAns (putAns B c).1 (putAns B c).2.1 r

theorem c_impl_putAll {w0 w : World} {ls L Ls : List Blk} {b : Nat} {B : List PB} {bs cs : List BR} {s : Sl} (hA : At w0 w (L ++ ls)) (hsub : Ls.Sublist ls) (hO : ShopO b (keysOf B) bs L) (hpb : bs.map BR.pb = B) (hbs : ∀ x ∈ bs, ∀ w' : World, At w0 w' ls → x.Ok w')
    (hs : OwnS ty_impl_Blob 2 s (cs.flatMap BR.cells) Ls) (hcs : ∀ x ∈ cs, (∀ w' : World, At w0 w' ls → x.Ok w') ∧ x.data.length ≤ 35184372088832) (hcn : cs.length ≤ 1073741824) (hg : good B) :
    Calls Tryz.prog n_ptr_impl_shop_putAll [.pointer (some ⟨b, 0, none⟩), .slice s.a s.n s.c].toArray w fun e w' => ∃ v, e = .returned v ∧ ∃ (r : Array Value) (L' : List Blk), v = .tuple #[.agg r, .agg (u8s (putsAns B zero32 (cs.map BR.pb)).2.1).toArray, .int .i64 (putsAns B zero32 (cs.map BR.pb)).2.2] ∧
      At w0 w' (L' ++ ls) ∧ OwnStore r (putsAns B zero32 (cs.map BR.pb)).1 L' ∧ keyOk (putsAns B zero32 (cs.map BR.pb)).2.1 := ptr_impl_shop_putAll_calls _ _ (by
  unfold ptr_impl_shop_putAll
  have hsn : s.n = cs.length := by have := hs.1; rw [flatMap_length (z := 2) (fun x _ => cells_len x)] at this; omega
  refine r_new hA fun b4 w1 h => ?_
  refine r_new h fun b5 w2 h => ?_
  refine r_new h fun b7 w3 h => ?_
  refine r_stA h 0 rfl rfl (by simp) (by simp [Value.cells]) (by simp [oneC]) fun w4 h => ?_
  refine r_loop (σ := Int) (fun i w' => ∃ (j : Nat) (Bj : List PB) (bj : List BR) (kj : List Int) (Lj : List Blk), i = j ∧ j ≤ cs.length ∧ At w0 w' ([(b7, (u8s kj).toArray, ty_impl_Key), (b5, Array.replicate 32 (.int .u8 0), ty_impl_Key), (b4, #[.slice none 0 0], ty_impl_Store)] ++ (Lj ++ ls)) ∧
      ShopO b (keysOf Bj) bj Lj ∧ bj.map BR.pb = Bj ∧ (∀ x ∈ bj, ∀ w' : World, At w0 w' ls → x.Ok w') ∧ good Bj ∧ keyOk kj ∧ putsAns B zero32 (cs.map BR.pb) = putsAns Bj kj ((cs.map BR.pb).drop j)) (fun i _ => (s.n - i).toNat) 0 rfl
    ⟨0, B, bs, zero32, L, rfl, by omega, h, hO, hpb, hbs, hg, zero32_ok, rfl⟩ ?_
  rintro i w5 ⟨j, Bj, bj, kj, Lj, rfl, hj, h, hOj, hpbj, hbj, hgj, hkj, hans⟩
  refine r_any fun _ => ?_
  have hS : BsR w5 s cs := ⟨hs.of h ((hsub.trans (List.sublist_append_right _ _)).trans (List.sublist_append_right _ _)) (fun b _ => cells_len b) (by omega), fun x hx => (hcs x hx).1 _ h.right.right⟩
  refine r_if ((j : Int) < (s.n : Int)) rfl (fun hlt => ?_) (fun hge => ?_)
  · obtain ⟨c, q, hc, hcm, hq, hok, hag, _, _⟩ := hS.get (i := j) (by omega)
    refine r_ix q hq (by omega) (by omega) ?_
    refine r_ldN c.cells.toArray (by simp only [Int.toNat_natCast]; exact hag) ?_
    refine r_new h fun b10 w6 h => ?_
    refine r_stA h 0 rfl rfl rfl rfl (by simpa using cells_one c) fun w7 h => ?_
    have h : At w0 w7 ([(b10, c.cells.toArray, ty_impl_Blob), (b7, (u8s kj).toArray, ty_impl_Key), (b5, Array.replicate 32 (.int .u8 0), ty_impl_Key), (b4, #[.slice none 0 0], ty_impl_Store)] ++ (Lj ++ ls)) := h
    refine r_ldA h 0 rfl rfl rfl ?_
    refine r_callR (c_impl_put h.pl1 hOj hpbj (fun x hx w' hA => hbj x hx w' hA.right) (fun w' hA => (hcs c hcm).1 w' hA.right) (hcs c hcm).2 hgj.1 hgj.2.1) ?_
    rintro v w8 ⟨bj', Lj', rfl, h, hOj', hpbj', hbj'⟩
    refine ⟨(_, _), rfl, ?_⟩
    have hbj'' : ∀ x ∈ bj', ∀ w' : World, At w0 w' ls → x.Ok w' := fun x hx w' hA => by
      rcases hbj' x hx with rfl | hx
      · exact (hcs _ hcm).1 w' hA
      · exact hbj x hx w' hA
    have h := At.tail h.ps1
    have hk' := putAns_key Bj c.pb c.pb.key_ok
    have hstep : putsAns Bj kj ((cs.map BR.pb).drop j) = if (putAns Bj c.pb).2.2 ≠ 0 then ([], zero32, (putAns Bj c.pb).2.2) else putsAns (putAns Bj c.pb).1 (putAns Bj c.pb).2.1 ((cs.map BR.pb).drop (j + 1)) := by
      have hcj : (cs.map BR.pb)[j]? = some c.pb := by simp [hc]
      obtain ⟨hlt', hget⟩ := List.getElem?_eq_some_iff.1 hcj
      rw [List.drop_eq_getElem_cons hlt', hget]
      rfl
    refine r_stA h 0 rfl rfl (by simp [hk'.1]) (by simp [hkj.1]) (by simpa using u8s_one) fun w9 h => ?_
    refine r_ne (fun hne => ?_) (fun heq => ?_)
    · rw [if_pos hne] at hstep
      rw [hans, hstep]
      refine r_pur (sh := .agg) _ run_noStore ?_
      refine r_stA h 2 rfl rfl rfl rfl (by simp [oneC]) fun w10 h => ?_
      refine r_stA h 1 rfl rfl (by simp) (by simp) (by simp [oneC]) fun w11 h => ?_
      refine r_ldA h 2 rfl rfl rfl ?_
      refine r_ldA h 1 rfl rfl (by simp) ?_
      refine r_retR ⟨_, [], rfl, ?_, OwnStore.nil, zero32_ok⟩
      exact (At.right (A := [_, _, _]) h).right
    · rw [if_neg (fun hh => hh heq)] at hstep
      exact ⟨((j + 1 : Nat) : Int), by rw [w64 (by omega) (by omega)]; rfl, ⟨j + 1, _, bj', _, Lj', rfl, by omega, h, hOj', hpbj', hbj'', putAns_good hgj ⟨(hcs c hcm).2, hok.pb⟩, hk', by rw [hans, hstep]⟩, by omega⟩
  · have : j = cs.length := by omega
    subst this
    rw [List.drop_of_length_le (by simp)] at hans
    rw [hans]
    simp only [putsAns]
    have hbl : bj.length = Bj.length := by rw [← hpbj]; simp
    obtain ⟨sk, sb, rx⟩ := hOj.ex (keysOf_ok _)
    refine r_draw h fun w6 h => ?_
    refine r_ldA h 0 rfl rfl (by simp [hkj.1]) ?_
    have hr := rx h.pl1 (fun x hx => hbj x hx _ h.right.right)
    refine r_call h (c_store hr.2.1 hr.2.2.2 (by have := hgj.2.1; omega) (fun x hx => (hgj.2.2 x.pb (by rw [← hpbj]; exact List.mem_map_of_mem hx)).1)) fun r w7 _ _ ⟨t, bs', L', hr, hpb', hL', hO'⟩ => ?_
    rw [hpbj] at hpb'
    have hOS := ownStore_of hr hpb' hO' (fun x hx => (hgj.2.2 x hx).2)
    have h := (h.join hL').rot
    refine r_chk1 ?_ ?_
    · exact ldOk_blk h 0 rfl (by simp [hkj.1])
    refine r_stA h 2 rfl rfl hOS.sz rfl hOS.one fun w8 h => ?_
    refine r_chk1 ?_ ?_
    · exact ldOk_blk h 0 rfl (by simp [hkj.1])
    refine r_stA h 1 rfl rfl (by simp [hkj.1]) (by simp) (by simpa using u8s_one) fun w9 h => ?_
    refine r_ldA h 2 rfl rfl hOS.sz ?_
    refine r_ldA h 1 rfl rfl (by simp [hkj.1]) ?_
    exact r_retR ⟨r, L', rfl, At.dr1 (At.right (A := [_, _, _]) h), hOS, hkj⟩)

end Go.Proofs.YthaecdelaifccaaGreat

namespace Go.Proofs.YthaecdelaifccaaGreat
open Go.Sx Go.RowKit

theorem KsR.sub {w : World} {s : Sl} {ks : List (List Int)} (h : KsR w s ks) (l k : Nat) (h1 : l ≤ k) (h2 : k ≤ s.n) : KsR w ⟨if s.c = l then s.a else s.a.map (·.add (l * 32)), k - l, s.c - l⟩ ((ks.drop l).take (k - l)) := ⟨h.of.sub l k h1 h2, fun x hx => h.ok x (List.mem_of_mem_drop (List.mem_of_mem_take hx))⟩

end Go.Proofs.YthaecdelaifccaaGreat
