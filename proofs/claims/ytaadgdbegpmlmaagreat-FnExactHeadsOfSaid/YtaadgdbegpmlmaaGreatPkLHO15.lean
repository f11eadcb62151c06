/- Blobs and stores: what they read as; told, copied, compared, marked, held. Plain: lists of bytes in order, lists of keys in ascending order, each once. Written by the kit's tool: the bodies of slices.SortFunc's family in this program are those of the library's contract. -/
import Derived.Shelf.SlSortCmp.WholeK
import Derived.Test.YtaadgdbegpmlmaaGreatProg
import Derived.Test.YtaadgdbegpmlmaaGreatPkLHO14
namespace Go.Proofs.YtaadgdbegpmlmaaGreat
open Go.Sx Go.RowKit

structure PB where
  tag : Int
  data : List Int
instance : DecidableEq PB := fun a b => decidable_of_iff (a.tag = b.tag ∧ a.data = b.data) (by cases a; cases b; simp)
structure BR where
  tag : Int
  d : Sl
  data : List Int
def BR.pb (b : BR) : PB := ⟨b.tag, b.data⟩
def BR.cells (b : BR) : List Value := [.int .u8 b.tag, .slice b.d.a b.d.n b.d.c]
def PB.ok (b : PB) : Prop := bytesOk b.data ∧ 0 ≤ b.tag ∧ b.tag < 256
structure BR.Ok (w : World) (b : BR) : Prop where
  bytes : BSl w b.d b.data
  t0 : 0 ≤ b.tag
  t1 : b.tag < 256
theorem BR.Ok.below {w w' : World} {b : BR} (h : b.Ok w) (hb : Below w.heap.size w w') : b.Ok w' := ⟨h.bytes.below hb, h.t0, h.t1⟩
theorem BR.Ok.pb {w : World} {b : BR} (h : b.Ok w) : b.pb.ok := ⟨h.bytes.ok, h.t0, h.t1⟩
theorem cells_one (b : BR) : ∀ v ∈ b.cells, oneC v = true := by simp [BR.cells, oneC]
theorem cells_len (b : BR) : b.cells.length = 2 := rfl

structure BsR (w : World) (s : Sl) (bs : List BR) : Prop where
  of : SlOf w s 2 BR.cells bs
  ok : ∀ b ∈ bs, b.Ok w
theorem BsR.below {w w' : World} {s : Sl} {bs : List BR} (h : BsR w s bs) (hb : Below w.heap.size w w') : BsR w' s bs := ⟨h.of.below hb, fun b hx => (h.ok b hx).below hb⟩
theorem BsR.at {w w' : World} {ls : List Blk} {s : Sl} {bs : List BR} (h : BsR w s bs) (hA : At w w' ls) : BsR w' s bs := h.below hA.below
theorem BsR.n {w : World} {s : Sl} {bs : List BR} (h : BsR w s bs) : s.n = bs.length := h.of.n
theorem BsR.pbs {w : World} {s : Sl} {bs : List BR} (h : BsR w s bs) : ∀ b ∈ bs.map BR.pb, b.ok := by
  intro b hb
  obtain ⟨x, hx, rfl⟩ := List.mem_map.1 hb
  exact (h.ok x hx).pb

/-- Data of blobs that are one's own. -/
inductive OwnData : List BR → List Blk → Prop where
  | nil : OwnData [] []
  | cons {b : BR} {r : List BR} {L1 L2 : List Blk} : OwnS ty_uint8 1 b.d (u8s b.data) L1 → OwnData r L2 → OwnData (b :: r) (L1 ++ L2)
theorem OwnData.append {r t : List BR} {L M : List Blk} (h : OwnData r L) (k : OwnData t M) : OwnData (r ++ t) (L ++ M) := by
  induction h with
  | nil => exact k
  | cons h1 _ ih => rw [List.append_assoc]; exact .cons h1 ih
theorem OwnData.snoc {r : List BR} {b : BR} {L M : List Blk} (h : OwnData r L) (k : OwnS ty_uint8 1 b.d (u8s b.data) M) : OwnData (r ++ [b]) (L ++ M) := by
  have := h.append (OwnData.cons k .nil)
  simpa using this
theorem OwnData.split {r t : List BR} {L : List Blk} (h : OwnData (r ++ t) L) : ∃ L1 L2, L = L1 ++ L2 ∧ OwnData r L1 ∧ OwnData t L2 := by
  induction r generalizing L with
  | nil => exact ⟨[], L, rfl, .nil, h⟩
  | cons b r ih =>
    cases h with
    | cons h1 h2 =>
      obtain ⟨M1, M2, rfl, k1, k2⟩ := ih h2
      exact ⟨_, M2, by rw [List.append_assoc], .cons h1 k1, k2⟩
theorem OwnData.ok {w0 w : World} {ls L : List Blk} {bs : List BR} (h : OwnData bs L) (hA : At w0 w ls) (hs : L.Sublist ls) (hb : ∀ b ∈ bs.map BR.pb, b.ok) : ∀ b ∈ bs, b.Ok w := by
  induction h with
  | nil => simp
  | @cons b r L1 L2 h1 h2 ih =>
    intro x hx
    cases hx with
    | head =>
      have hk := hb b.pb (by simp)
      exact ⟨ownS_bytes h1 hA ((List.sublist_append_left _ _).trans hs) hk.1, hk.2.1, hk.2.2⟩
    | tail _ hx => exact ih ((List.sublist_append_right _ _).trans hs) (fun b hx => hb b (by simp only [List.map_cons, List.mem_cons]; exact .inr hx)) x hx

/-- Blobs that are one's own, with their data. -/
def OwnBs (s : Sl) (bs : List BR) (L : List Blk) : Prop := ∃ Lb Ld, L = Lb ++ Ld ∧ OwnS ty_impl_Blob 2 s (bs.flatMap BR.cells) Lb ∧ OwnData bs Ld
theorem OwnBs.rd {w0 w : World} {ls L : List Blk} {s : Sl} {bs : List BR} (h : OwnBs s bs L) (hA : At w0 w (L ++ ls)) (hb : ∀ b ∈ bs.map BR.pb, b.ok) : BsR w s bs := by
  obtain ⟨Lb, Ld, rfl, h1, h2⟩ := h
  rw [List.append_assoc] at hA
  exact ⟨h1.of hA (List.sublist_append_left _ _) (fun b _ => cells_len b) (by omega), h2.ok hA ((List.sublist_append_left _ _).trans (List.sublist_append_right _ _)) hb⟩

/-- A readable thing read out of a list of such. -/
theorem BsR.get {w : World} {s : Sl} {bs : List BR} (hs : BsR w s bs) {i : Nat} (hi : i < bs.length) : ∃ b p, bs[i]? = some b ∧ b ∈ bs ∧ s.a = some p ∧ b.Ok w ∧ ldOk w 2 (p.add (i * 2)) .agg b.cells.toArray ∧ (∀ n, ldOk w n (p.add (i * 2 + 0)) (.int .u8) b.tag) ∧ ∀ n, ldOk w n (p.add (i * 2 + 1)) .slice b.d := by
  have hb : bs[i]? = some bs[i] := List.getElem?_eq_getElem hi
  obtain ⟨p, hp, _⟩ := hs.of.cell hb
  exact ⟨_, p, hb, List.getElem_mem hi, hp, hs.ok _ (List.getElem_mem hi), hs.of.agg hb hp, fun n => hs.of.fld hb hp 0 rfl (by simp [Sh.emb]), fun n => hs.of.fld hb hp 1 rfl (by simp [Sh.emb])⟩

end Go.Proofs.YtaadgdbegpmlmaaGreat

namespace Go.Proofs.YtaadgdbegpmlmaaGreat

def cmpL : List Int → List Int → Int
  | [], [] => 0
  | [], _ :: _ => -1
  | _ :: _, [] => 1
  | a :: x, b :: y => if a < b then -1 else if b < a then 1 else cmpL x y

theorem cmpL_range (a b : List Int) : cmpL a b = -1 ∨ cmpL a b = 0 ∨ cmpL a b = 1 := by
  induction a generalizing b with
  | nil => cases b <;> simp [cmpL]
  | cons x a ih =>
    cases b with
    | nil => simp [cmpL]
    | cons y b =>
      simp only [cmpL]
      split
      · simp
      · split
        · simp
        · exact ih b
theorem cmpL_self (a : List Int) : cmpL a a = 0 := by
  induction a with
  | nil => rfl
  | cons x a ih => simp [cmpL, ih]
theorem cmpL_eq {a b : List Int} : cmpL a b = 0 ↔ a = b := by
  constructor
  · induction a generalizing b with
    | nil => cases b <;> simp [cmpL]
    | cons x a ih =>
      cases b with
      | nil => simp [cmpL]
      | cons y b =>
        simp only [cmpL]
        split
        · simp
        · split
          · simp
          · intro h
            rw [ih h, show x = y by omega]
  · rintro rfl
    exact cmpL_self a
theorem cmpL_neg (a b : List Int) : cmpL b a = - cmpL a b := by
  induction a generalizing b with
  | nil => cases b <;> simp [cmpL]
  | cons x a ih =>
    cases b with
    | nil => simp [cmpL]
    | cons y b =>
      simp only [cmpL, ih b]
      split <;> split <;> first | rfl | omega | skip
theorem cmpL_trans {a b c : List Int} (h1 : cmpL a b < 0) (h2 : cmpL b c < 0) : cmpL a c < 0 := by
  induction a generalizing b c with
  | nil =>
    cases b with
    | nil => simp [cmpL] at h1
    | cons y b =>
      cases c with
      | nil => simp [cmpL] at h2
      | cons z c => simp [cmpL]
  | cons x a ih =>
    cases b with
    | nil => simp [cmpL] at h1
    | cons y b =>
      cases c with
      | nil => simp [cmpL] at h2
      | cons z c =>
        simp only [cmpL] at h1 h2 ⊢
        by_cases hxy : x < y
        · by_cases hyz : z < y
          · have : ¬ y < z := by omega
            simp [hyz, this] at h2
          · simp [show x < z by omega]
        · by_cases hyx : y < x
          · simp [hxy, hyx] at h1
          · have : x = y := by omega
            subst this
            simp at h1
            by_cases hxz : x < z
            · simp [hxz]
            · by_cases hzx : z < x
              · simp [hxz, hzx] at h2
              · simp [hxz, hzx] at h2 ⊢
                exact ih h1 h2

def ltL (a b : List Int) : Prop := cmpL a b < 0
instance (a b : List Int) : Decidable (ltL a b) := inferInstanceAs (Decidable (cmpL a b < 0))
theorem ltL_irrefl (a : List Int) : ¬ ltL a a := by unfold ltL; rw [cmpL_self]; omega
theorem ltL_trans {a b c : List Int} (h1 : ltL a b) (h2 : ltL b c) : ltL a c := cmpL_trans h1 h2
theorem ltL_asymm {a b : List Int} (h : ltL a b) : ¬ ltL b a := fun k => ltL_irrefl a (ltL_trans h k)
theorem ltL_total {a b : List Int} (h : a ≠ b) : ltL a b ∨ ltL b a := by
  unfold ltL
  rw [cmpL_neg a b]
  have := cmpL_range a b
  have h0 : cmpL a b ≠ 0 := fun k => h (cmpL_eq.1 k)
  omega
theorem ltL_ne {a b : List Int} (h : ltL a b) : a ≠ b := fun k => ltL_irrefl a (k ▸ h)
theorem not_ltL {a b : List Int} (h : ¬ ltL a b) : b = a ∨ ltL b a := by
  by_cases hab : b = a
  · exact .inl hab
  · exact .inr ((ltL_total hab).resolve_right h)

/-- In ascending order, each once. -/
def Asc (l : List (List Int)) : Prop := l.Pairwise ltL
theorem Asc.nodup {l : List (List Int)} (h : Asc l) : l.Nodup := List.Pairwise.imp ltL_ne h
theorem asc_ext {l m : List (List Int)} (h1 : Asc l) (h2 : Asc m) (h : ∀ x, x ∈ l ↔ x ∈ m) : l = m := by
  induction l generalizing m with
  | nil =>
    cases m with
    | nil => rfl
    | cons b m => exact absurd ((h b).2 (by simp)) (by simp)
  | cons a l ih =>
    cases m with
    | nil => exact absurd ((h a).1 (by simp)) (by simp)
    | cons b m =>
      obtain ⟨ha, hl⟩ := List.pairwise_cons.1 h1
      obtain ⟨hb, hm⟩ := List.pairwise_cons.1 h2
      have hab : a = b := by
        rcases List.mem_cons.1 ((h a).1 (by simp)) with h' | h'
        · exact h'
        · rcases List.mem_cons.1 ((h b).2 (by simp)) with h'' | h''
          · exact h''.symm
          · exact absurd (hb a h') (ltL_asymm (ha b h''))
      subst hab
      rw [ih hl hm fun x => ?_]
      constructor
      · intro hx
        rcases List.mem_cons.1 ((h x).1 (by simp [hx])) with h' | h'
        · exact absurd (ha x hx) (by rw [h']; exact ltL_irrefl a)
        · exact h'
      · intro hx
        rcases List.mem_cons.1 ((h x).2 (by simp [hx])) with h' | h'
        · exact absurd (hb x hx) (by rw [h']; exact ltL_irrefl a)
        · exact h'

/-- Behind how many keys a key stands. -/
def posK (ks : List (List Int)) (k : List Int) : Nat := (ks.takeWhile fun x => decide (ltL x k)).length
theorem posK_le (ks : List (List Int)) (k : List Int) : posK ks k ≤ ks.length := (List.takeWhile_sublist _).length_le
theorem posK_cons (x : List Int) (ks : List (List Int)) (k : List Int) : posK (x :: ks) k = if ltL x k then posK ks k + 1 else 0 := by
  unfold posK
  by_cases h : ltL x k <;> simp [List.takeWhile_cons, h]
theorem posK_lt {ks : List (List Int)} (h : Asc ks) {k : List Int} {i : Nat} {x : List Int} (hx : ks[i]? = some x) : i < posK ks k ↔ ltL x k := by
  induction ks generalizing i with
  | nil => simp at hx
  | cons a ks ih =>
    obtain ⟨ha, hk⟩ := List.pairwise_cons.1 h
    rw [posK_cons]
    cases i with
    | zero =>
      simp at hx
      subst hx
      by_cases hl : ltL a k <;> simp [hl]
    | succ i =>
      have hx' : ks[i]? = some x := by simpa using hx
      by_cases hl : ltL a k
      · rw [if_pos hl, Nat.succ_lt_succ_iff]
        exact ih hk hx'
      · rw [if_neg hl]
        constructor
        · omega
        · intro hxk
          exact absurd (ltL_trans (ha x (List.mem_of_getElem? hx')) hxk) hl
end Go.Proofs.YtaadgdbegpmlmaaGreat

namespace Go.Proofs
open Go.Shelf
def Tryz.sortL_ren : Go.Shelf.Ren := ⟨fun | 6 => 199 | 15 => 270 | 14 => 269 | 28 => 315 | 29 => 316 | 20 => 307 | 21 => 308 | 22 => 309 | 23 => 310 | 24 => 311 | 25 => 312 | 26 => 313 | 27 => 314 | 46 => 331 | 47 => 332 | 48 => 333 | 49 => 334 | 50 => 335 | 57 => 339 | n => n, fun | 22 => 29 | 24 => 34 | 25 => 136 | 3 => 3 | 39 => 307 | 0 => 0 | 53 => 284 | 55 => 242 | 4 => 4 | 46 => 346 | 45 => 345 | 50 => 236 | 5 => 5 | 9 => 9 | 66 => 363 | 70 => 367 | 76 => 372 | 77 => 373 | n => n, fun | n => n⟩
theorem Tryz.sortL : Go.Proofs.SlLaysF0.n6 Tryz.prog Tryz.sortL_ren := {
  mixed := by kernel_rfl
  f6 := ⟨Tryz.f199.name, by decide, Tryz.func199.trans (congrArg some (by kernel_rfl))⟩
  f14 := ⟨Tryz.f269.name, by decide, Tryz.func269.trans (congrArg some (by kernel_rfl))⟩
  f15 := Tryz.func270.trans (congrArg some (by kernel_rfl))
  f20 := ⟨Tryz.f307.name, by decide, Tryz.func307.trans (congrArg some (by kernel_rfl))⟩
  f21 := ⟨Tryz.f308.name, by decide, Tryz.func308.trans (congrArg some (by kernel_rfl))⟩
  f22 := ⟨Tryz.f309.name, by decide, Tryz.func309.trans (congrArg some (by kernel_rfl))⟩
  f23 := ⟨Tryz.f310.name, by decide, Tryz.func310.trans (congrArg some (by kernel_rfl))⟩
  f24 := ⟨Tryz.f311.name, by decide, Tryz.func311.trans (congrArg some (by kernel_rfl))⟩
  f25 := ⟨Tryz.f312.name, by decide, Tryz.func312.trans (congrArg some (by kernel_rfl))⟩
  f26 := ⟨Tryz.f313.name, by decide, Tryz.func313.trans (congrArg some (by kernel_rfl))⟩
  f27 := ⟨Tryz.f314.name, by decide, Tryz.func314.trans (congrArg some (by kernel_rfl))⟩
  f28 := Tryz.func315.trans (congrArg some (by kernel_rfl))
  f29 := Tryz.func316.trans (congrArg some (by kernel_rfl))
  f46 := ⟨Tryz.f331.name, by decide, Tryz.func331.trans (congrArg some (by kernel_rfl))⟩
  f47 := Tryz.func332.trans (congrArg some (by kernel_rfl))
  f48 := Tryz.func333.trans (congrArg some (by kernel_rfl))
  f49 := ⟨Tryz.f334.name, by decide, Tryz.func334.trans (congrArg some (by kernel_rfl))⟩
  f50 := ⟨Tryz.f335.name, by decide, Tryz.func335.trans (congrArg some (by kernel_rfl))⟩
  f57 := ⟨Tryz.f339.name, by decide, Tryz.func339.trans (congrArg some (by kernel_rfl))⟩
  t0 := Tryz.underlying0
  a0 := Tryz.isAgg0
  z0 := Tryz.sizeOf0
  v0 := Tryz.zeroValue0
  t3 := Tryz.underlying3
  a3 := Tryz.isAgg3
  z3 := Tryz.sizeOf3
  v3 := Tryz.zeroValue3
  t4 := Tryz.underlying4
  a4 := Tryz.isAgg4
  z4 := Tryz.sizeOf4
  v4 := Tryz.zeroValue4
  t5 := Tryz.underlying5
  a5 := Tryz.isAgg5
  z5 := Tryz.sizeOf5
  v5 := Tryz.zeroValue5
  t9 := Tryz.underlying9
  a9 := Tryz.isAgg9
  z9 := Tryz.sizeOf9
  v9 := Tryz.zeroValue9
  t22 := Tryz.underlying29
  a22 := Tryz.isAgg29
  z22 := Tryz.sizeOf29
  v22 := Tryz.zeroValue29
  t25 := Tryz.underlying136
  a25 := Tryz.isAgg136
  z25 := Tryz.sizeOf136
  v25 := Tryz.zeroValue136
  t39 := Tryz.underlying307
  a39 := Tryz.isAgg307
  z39 := Tryz.sizeOf307
  v39 := Tryz.zeroValue307
  t45 := Tryz.underlying345
  a45 := Tryz.isAgg345
  z45 := Tryz.sizeOf345
  v45 := Tryz.zeroValue345
  t46 := Tryz.underlying346
  a46 := Tryz.isAgg346
  z46 := Tryz.sizeOf346
  v46 := Tryz.zeroValue346
  t50 := Tryz.underlying236
  a50 := Tryz.isAgg236
  z50 := Tryz.sizeOf236
  v50 := Tryz.zeroValue236
  t53 := Tryz.underlying284
  a53 := Tryz.isAgg284
  z53 := Tryz.sizeOf284
  v53 := Tryz.zeroValue284
  t55 := Tryz.underlying242
  a55 := Tryz.isAgg242
  z55 := Tryz.sizeOf242
  v55 := Tryz.zeroValue242
  t66 := Tryz.underlying363
  a66 := Tryz.isAgg363
  z66 := Tryz.sizeOf363
  v66 := Tryz.zeroValue363
  t70 := Tryz.underlying367
  a70 := Tryz.isAgg367
  z70 := Tryz.sizeOf367
  v70 := Tryz.zeroValue367
  t76 := Tryz.underlying372
  a76 := Tryz.isAgg372
  z76 := Tryz.sizeOf372
  v76 := Tryz.zeroValue372
  t77 := Tryz.underlying373
  a77 := Tryz.isAgg373
  z77 := Tryz.sizeOf373
  v77 := Tryz.zeroValue373 }
end Go.Proofs
