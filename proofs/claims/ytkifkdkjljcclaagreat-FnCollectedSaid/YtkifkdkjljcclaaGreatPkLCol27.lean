/- The bytes of strings and of the nodes of maps (program). Printed in part by a program of this claim's author (d0.py). The number of bits; the left half of a tree. The tree over keys: its key, and the blobs of its nodes. The tree of a map: the program. More kinds of values of which laws speak: slices of commits, books. -/
import Derived.Laws.IdiomStrings
import Derived.Test.YtkifkdkjljcclaaGreatPkLCol26
import Derived.Test.YtkifkdkjljcclaaGreatPkLCol25
import Derived.Test.YtkifkdkjljcclaaGreatPkLCol20
import Derived.Test.YtkifkdkjljcclaaGreatPkLCol18
import Derived.Test.YtkifkdkjljcclaaGreatPkLCol23
namespace Go.Proofs.YtkifkdkjljcclaaGreat
open Go.Sx Go.RowKit

def strL (s : ByteArray) : List Int := s.data.toList.map fun b => (b.toNat : Int)
theorem strL_len (s : ByteArray) : (strL s).length = s.size := by simp [strL]
theorem strL_ok (s : ByteArray) : bytesOk (strL s) := fun x hx => by
  obtain ⟨b, _, rfl⟩ := List.mem_map.1 hx
  have := b.toNat_lt
  omega
theorem r_cvB {P : Program} {R : Value → World → Prop} {w : World} {src dst e : TypeId} {s : ByteArray} (hs : P.underlying src = some .string) (hd : P.underlying dst = some (.slice e)) (he : P.underlying e = some (.int .u8)) {k : Sl → World → Prop}
    (h : ∀ y w', Below w.heap.size w w' → SlAt w' y 1 (u8s (strL s)) → y.n = s.size → k y w') : ((real P R).sem (convert src dst (.string s)) .slice k : World → Prop) w := by
  refine ⟨⟨some ⟨w.heap.size, 0, none⟩, s.size, grownCap w s.size 0 e⟩, _, run_bytes_of_string w src dst e s hs hd he, h _ _ ((drew_below w).trans ((below_alloc w.drew _).mono (Nat.le_refl _))) ⟨by simp [strL_len], fun j v hv => ⟨_, rfl, ?_⟩⟩ rfl⟩
  rw [add_lit, Nat.zero_add]
  have hj : j < s.data.size := by
    have := (List.getElem?_eq_some_iff.1 hv).1
    rw [u8s_len, strL_len] at this
    exact this
  have h1 := bytesRow_at s (grownCap w s.size 0 e) j hj
  have h2 : (w.drew.alloc (.cells (bytesRow s (grownCap w s.size 0 e)) e ((bytesRow s (grownCap w s.size 0 e)).size, (bytesRow s (grownCap w s.size 0 e)).size + 1))).cell? ⟨w.drew.heap.size, j, none⟩ = _ := World.cell?_alloc_mark _ _ _ _ _
  rw [h1] at h2
  refine h2.trans ?_
  rw [← hv]
  unfold u8s strL
  rw [List.map_map, List.getElem?_map, List.getElem?_eq_getElem (by simpa using hj)]
  simp
structure ND where
  l : List Int
  r : List Int
  e : PE
structure ND.ok (n : ND) : Prop where
  l : keyOk n.l
  r : keyOk n.r
  name : n.e.1.size ≤ 24
  value : n.e.2.size ≤ 64
def ndC (n : ND) : List Value := u8s n.l ++ (u8s n.r ++ entC n.e)
def ndB (n : ND) : List Int := n.l ++ (n.r ++ ([(n.e.1.size : Int)] ++ (strL n.e.1 ++ strL n.e.2)))
theorem ndC_len {n : ND} (h : n.ok) : (ndC n).length = 66 := by simp [ndC, h.l.1, h.r.1, entC]
theorem ndC_one (n : ND) : ∀ v ∈ ndC n, oneC v = true := by
  intro v hv
  simp only [ndC, List.mem_append] at hv
  rcases hv with h | h | h
  · exact u8s_one v h
  · exact u8s_one v h
  · exact entC_one _ v h
theorem ndB_len {n : ND} (h : n.ok) : (ndB n).length = 65 + n.e.1.size + n.e.2.size := by simp only [ndB, List.length_append, h.l.1, h.r.1, strL_len, List.length_cons, List.length_nil]; omega
theorem ndB_ok {n : ND} (h : n.ok) : bytesOk (ndB n) := by
  have hn := h.name
  refine h.l.2.append (h.r.2.append (bytesOk.append (fun b hb => ?_) ((strL_ok _).append (strL_ok _))))
  rw [List.mem_singleton.1 hb]
  omega
theorem ndC_name {n : ND} (h : n.ok) : (ndC n)[64]? = some (.string n.e.1) := by
  have e : (u8s n.l).length = 32 := by rw [u8s_len]; exact h.l.1
  have e2 : (u8s n.r).length = 32 := by rw [u8s_len]; exact h.r.1
  unfold ndC
  rw [List.getElem?_append_right (by omega), List.getElem?_append_right (by omega), e, e2]
  rfl
theorem ndC_value {n : ND} (h : n.ok) : (ndC n)[65]? = some (.string n.e.2) := by
  have e : (u8s n.l).length = 32 := by rw [u8s_len]; exact h.l.1
  have e2 : (u8s n.r).length = 32 := by rw [u8s_len]; exact h.r.1
  unfold ndC
  rw [List.getElem?_append_right (by omega), List.getElem?_append_right (by omega), e, e2]
  rfl

end Go.Proofs.YtkifkdkjljcclaaGreat

namespace Go.Proofs.YtkifkdkjljcclaaGreat
open Go.Sx Go.RowKit

def half (n : Nat) : Nat := 2 ^ Nat.log2 (n - 1)
theorem half_lt {n : Nat} (h : 2 ≤ n) : half n < n ∧ 1 ≤ half n := by
  have := Nat.log2_self_le (n := n - 1) (by omega)
  have := Nat.two_pow_pos (Nat.log2 (n - 1))
  unfold half
  omega

theorem c_l03Half (n : Nat) (h : 2 ≤ n) (hmax : n ≤ 1073741824) : RetP Tryz.prog n_spec_l03Half [.int .i64 (n : Int)] [.int .i64] (half n : Int) := fun w => spec_l03Half_calls n (by
  unfold spec_l03Half
  refine r_loop (σ := Int) (fun i w' => w' = w ∧ ∃ j : Nat, i = ((2 ^ j : Nat) : Int) ∧ 2 ^ j < n) (fun i _ => (n - i).toNat) 1 rfl ⟨rfl, 0, rfl, by omega⟩ ?_
  rintro i w1 ⟨rfl, j, rfl, hj⟩
  refine r_any fun _ => ?_
  have hp := Nat.two_pow_pos j
  have e1 : IntKind.wrap .i64 (2 * ((2 ^ j : Nat) : Int)) = ((2 ^ (j + 1) : Nat) : Int) := by rw [w64 (by omega) (by omega), Nat.pow_succ]; omega
  rw [e1]
  refine r_if (((2 ^ (j + 1) : Nat) : Int) < (n : Int)) rfl (fun hlt => ?_) (fun hge => ?_)
  · refine ⟨((2 ^ (j + 1) : Nat) : Int), rfl, ⟨rfl, j + 1, rfl, by omega⟩, ?_⟩
    have : 2 ^ (j + 1) = 2 ^ j * 2 := Nat.pow_succ ..
    omega
  · have : Nat.log2 (n - 1) = j := (Nat.log2_eq_iff (by omega)).2 ⟨by omega, by omega⟩
    refine r_retP ?_
    unfold half
    rw [this]
    rfl)

end Go.Proofs.YtkifkdkjljcclaaGreat

namespace Go.Proofs.YtkifkdkjljcclaaGreat
open Go.Sx Go.RowKit

def keyF : Nat → List (List Int) → List Int
  | 0, _ => zero32
  | f + 1, ks => if ks.length = 0 then hashL 3 [] else if ks.length = 1 then ks.headD zero32 else hashL 2 (keyF f (ks.take (half ks.length)) ++ keyF f (ks.drop (half ks.length)))
theorem keyF_succ (f : Nat) (ks : List (List Int)) : keyF (f + 1) ks = if ks.length = 0 then hashL 3 [] else if ks.length = 1 then ks.headD zero32 else hashL 2 (keyF f (ks.take (half ks.length)) ++ keyF f (ks.drop (half ks.length))) := rfl
theorem keyF_ok : ∀ (f : Nat) (ks : List (List Int)), (∀ k ∈ ks, keyOk k) → keyOk (keyF f ks)
  | 0, _, _ => zero32_ok
  | f + 1, ks, h => by
    rw [keyF_succ]
    split
    · exact ⟨hashL_len _ _, hashL_ok _ _⟩
    split
    · cases ks with
      | nil => exact zero32_ok
      | cons k r => exact h k (by simp)
    · exact ⟨hashL_len _ _, hashL_ok _ _⟩
def nodesF : Nat → List (List Int) → List PB
  | 0, _ => []
  | f + 1, ks => if ks.length < 2 then [] else nodesF f (ks.take (half ks.length)) ++ nodesF f (ks.drop (half ks.length)) ++ [⟨2, keyF f (ks.take (half ks.length)) ++ keyF f (ks.drop (half ks.length))⟩]
theorem nodesF_succ (f : Nat) (ks : List (List Int)) : nodesF (f + 1) ks = if ks.length < 2 then [] else nodesF f (ks.take (half ks.length)) ++ nodesF f (ks.drop (half ks.length)) ++ [⟨2, keyF f (ks.take (half ks.length)) ++ keyF f (ks.drop (half ks.length))⟩] := rfl
theorem nodesF_ok : ∀ (f : Nat) (ks : List (List Int)), (∀ k ∈ ks, keyOk k) → ∀ b ∈ nodesF f ks, b.tag = 2 ∧ b.data.length = 64 ∧ bytesOk b.data
  | 0, _, _ => by simp [nodesF]
  | f + 1, ks, h => by
    rw [nodesF_succ]
    split
    · simp
    · intro b hb
      have ht : ∀ k ∈ ks.take (half ks.length), keyOk k := fun k hk => h k (List.mem_of_mem_take hk)
      have hd : ∀ k ∈ ks.drop (half ks.length), keyOk k := fun k hk => h k (List.mem_of_mem_drop hk)
      rcases List.mem_append.1 hb with hb | hb
      · rcases List.mem_append.1 hb with hb | hb
        · exact nodesF_ok f _ ht b hb
        · exact nodesF_ok f _ hd b hb
      · rw [List.mem_singleton.1 hb]
        have k1 := keyF_ok f _ ht
        have k2 := keyF_ok f _ hd
        refine ⟨rfl, ?_, ?_⟩
        · dsimp only; rw [List.length_append, k1.1, k2.1]
        · exact k1.2.append k2.2

theorem KsR.sub {w : World} {s : Sl} {ks : List (List Int)} (h : KsR w s ks) (l k : Nat) (h1 : l ≤ k) (h2 : k ≤ s.n) : KsR w ⟨if s.c = l then s.a else s.a.map (·.add (l * 32)), k - l, s.c - l⟩ ((ks.drop l).take (k - l)) := ⟨h.of.sub l k h1 h2, fun x hx => h.ok x (List.mem_of_mem_drop (List.mem_of_mem_take hx))⟩

end Go.Proofs.YtkifkdkjljcclaaGreat

namespace Go.Proofs.YtkifkdkjljcclaaGreat
open Go.Sx Go.RowKit

def prio (e : PE) : List Int := hashL 4 (strL e.1)
theorem prio_ok (e : PE) : keyOk (prio e) := ⟨hashL_len _ _, hashL_ok _ _⟩
def topAt (ps : List (List Int)) : Nat → Nat
  | 0 => 0
  | j + 1 => if cmpL (ps.getD j []) (ps.getD (topAt ps j) []) > 0 then j else topAt ps j
theorem topAt_succ (ps : List (List Int)) (j : Nat) : topAt ps (j + 1) = if cmpL (ps.getD j []) (ps.getD (topAt ps j) []) > 0 then j else topAt ps j := rfl
theorem topAt_le (ps : List (List Int)) : ∀ j : Nat, topAt ps (j + 1) ≤ j
  | 0 => by rw [topAt_succ]; split <;> simp [topAt]
  | j + 1 => by
    rw [topAt_succ]
    have := topAt_le ps j
    split <;> omega
inductive Tr where
  | nil
  | node (n : ND) (l r : Tr)
def trKey : Tr → List Int
  | .nil => emptyKey
  | .node n _ _ => hashL 5 (ndB n)
theorem trKey_ok : ∀ T : Tr, keyOk (trKey T)
  | .nil => emptyKey_ok
  | .node _ _ _ => ⟨hashL_len _ _, hashL_ok _ _⟩
def trNodes : Tr → List ND
  | .nil => []
  | .node n l r => [n] ++ (trNodes l ++ trNodes r)
def topE (es : List PE) : Nat := topAt (es.map prio) es.length
def entE (es : List PE) (i : Nat) : PE := es.getD i (⟨#[]⟩, ⟨#[]⟩)
def treeF : Nat → List PE → Tr
  | 0, _ => .nil
  | f + 1, es => if es.length = 0 then .nil else .node ⟨trKey (treeF f (es.take (topE es))), trKey (treeF f (es.drop (topE es + 1))), entE es (topE es)⟩ (treeF f (es.take (topE es))) (treeF f (es.drop (topE es + 1)))
theorem treeF_succ (f : Nat) (es : List PE) : treeF (f + 1) es = if es.length = 0 then .nil else .node ⟨trKey (treeF f (es.take (topE es))), trKey (treeF f (es.drop (topE es + 1))), entE es (topE es)⟩ (treeF f (es.take (topE es))) (treeF f (es.drop (topE es + 1))) := rfl
theorem topE_lt {es : List PE} (h : es.length ≠ 0) : topE es < es.length := by
  unfold topE
  obtain ⟨n, hn⟩ : ∃ n, es.length = n + 1 := ⟨es.length - 1, by omega⟩
  rw [hn]
  have := topAt_le (es.map prio) n
  omega
def entsOk (es : List PE) : Prop := ∀ e ∈ es, e.1.size ≤ 24 ∧ e.2.size ≤ 64
theorem entE_mem {es : List PE} {i : Nat} (h : i < es.length) : entE es i ∈ es := by
  unfold entE
  simp only [List.getD, List.getElem?_eq_getElem h, Option.getD_some]
  exact List.getElem_mem _
theorem treeF_nodes : ∀ (f : Nat) {es : List PE}, entsOk es → ∀ n ∈ trNodes (treeF f es), n.ok
  | 0, _, _ => by simp [treeF, trNodes]
  | f + 1, es, h => by
    rw [treeF_succ]
    split
    · simp [trNodes]
    · rename_i h0
      have ht := topE_lt h0
      have he := h _ (entE_mem ht)
      intro n hn
      unfold trNodes at hn
      rcases List.mem_append.1 hn with hn | hn
      · rw [List.mem_singleton.1 hn]
        exact ⟨trKey_ok _, trKey_ok _, he.1, he.2⟩
      · rcases List.mem_append.1 hn with hn | hn
        · exact treeF_nodes f (fun e hx => h e (List.mem_of_mem_take hx)) n hn
        · exact treeF_nodes f (fun e hx => h e (List.mem_of_mem_drop hx)) n hn
theorem treeF_len : ∀ (f : Nat) (es : List PE), (trNodes (treeF f es)).length ≤ es.length
  | 0, _ => by simp [treeF, trNodes]
  | f + 1, es => by
    rw [treeF_succ]
    split
    · simp [trNodes]
    · rename_i h0
      have ht := topE_lt h0
      have i1 := treeF_len f (es.take (topE es))
      have i2 := treeF_len f (es.drop (topE es + 1))
      rw [List.length_take] at i1
      rw [List.length_drop] at i2
      unfold trNodes
      simp only [List.length_append, List.length_cons, List.length_nil]
      omega

theorem T_sl_ND : SlT Tryz.prog ty_sl_impl_MapNode ty_impl_MapNode 66 96 := slT_of (by kernel_rfl)

theorem ldOk_fld {w : World} {a : Addr} {xs : Array Value} {n : Nat} (h : ldOk w n a .agg xs) (i : Nat) {sh : Sh} {x : sh.T} (hx : xs[i]? = some (sh.emb x)) (hs : ∀ ds, sh.emb x ≠ .agg ds) {k : Nat} : ldOk w k (a.add i) sh x := by
  have hc := h.2 i _ hx
  cases sh
  case agg => exact (hs x rfl).elim
  all_goals exact hc
def trC (n : ND) (pl pr : Option Addr) : Array Value := (ndC n ++ [Value.pointer pl, Value.pointer pr]).toArray
theorem trC_size {n : ND} (h : n.ok) (pl pr : Option Addr) : (trC n pl pr).size = 68 := by simp [trC, ndC_len h]
inductive RdTr (w : World) : Option Addr → Tr → Prop where
  | nil : RdTr w none .nil
  | node {a : Addr} {n : ND} {l r : Tr} {pl pr : Option Addr} : n.ok → ldOk w 68 a .agg (trC n pl pr) → RdTr w pl l → RdTr w pr r → RdTr w (some a) (.node n l r)
theorem RdTr.bel {w w' : World} {o : Option Addr} {T : Tr} (h : RdTr w o T) (hb : Below w.heap.size w w') : RdTr w' o T := by
  induction h with
  | nil => exact .nil
  | node hn hl _ _ i1 i2 => exact .node hn (ldOk_below hb hl) i1 i2
theorem RdTr.at {w w' : World} {ls : List Blk} {o : Option Addr} {T : Tr} (h : RdTr w o T) (hA : At w w' ls) : RdTr w' o T := h.bel hA.below
inductive OwnTr : Option Addr → Tr → List Blk → Prop where
  | nil : OwnTr none .nil []
  | node {b : Nat} {n : ND} {l r : Tr} {pl pr : Option Addr} {Ll Lr : List Blk} : n.ok → OwnTr pl l Ll → OwnTr pr r Lr → OwnTr (some ⟨b, 0, none⟩) (.node n l r) ((b, trC n pl pr, ty_impl_tree) :: (Ll ++ Lr))
theorem OwnTr.rd {w0 w : World} {o : Option Addr} {T : Tr} {L : List Blk} (h : OwnTr o T L) : ∀ {ls : List Blk}, At w0 w ls → L.Sublist ls → RdTr w o T := by
  induction h with
  | nil => exact fun _ _ => .nil
  | @node b n l r pl pr Ll Lr hn _ _ i1 i2 =>
    intro ls hA hs
    have hA1 : At w0 w ((b, trC n pl pr, ty_impl_tree) :: (Ll ++ Lr)) := hA.take _ hs
    exact .node hn (ldOk_blk hA1 0 rfl (trC_size hn _ _)) (i1 hA1.tail (List.sublist_append_left _ _)) (i2 hA1.tail (List.sublist_append_right _ _))

theorem ndCs_one (ns : List ND) : ∀ v ∈ ns.flatMap ndC, oneC v = true := fun v hv => by
  obtain ⟨n, _, hn⟩ := List.mem_flatMap.1 hv
  exact ndC_one n v hn

theorem run_mkND {l r : List Int} (hl : keyOk l) (hr : keyOk r) (e : PE) (w : World) : (Instr.build ty_impl_MapNode #[(0, (.agg (u8s l).toArray)), (1, (.agg (u8s r).toArray)), (2, (.agg (entC e).toArray))]).run Tryz.prog w = .ok (.agg (ndC ⟨l, r, e⟩).toArray) w := by
  have h := run_mkNode (l := u8s l) (r := u8s r) (by rw [u8s_len]; exact hl.1) (by rw [u8s_len]; exact hr.1) e.1 e.2 w
  rw [List.append_assoc] at h
  exact h
theorem EsR.sub {w : World} {s : Sl} {es : List PE} (h : EsR w s es) (l k : Nat) (h1 : l ≤ k) (h2 : k ≤ s.n) : EsR w ⟨if s.c = l then s.a else s.a.map (·.add (l * 2)), k - l, s.c - l⟩ ((es.drop l).take (k - l)) := SlOf.sub h l k h1 h2

end Go.Proofs.YtkifkdkjljcclaaGreat

namespace Go.Proofs.YtkifkdkjljcclaaGreat
open Go.Sx Go.RowKit
open Go.ChangeShapes Go.WideShapes Go.ChangeAt Go.Deep

structure PC where
  root : List Int
  ps : List (List Int)
  num : Int
  note : ByteArray
structure CR where
  root : List Int
  d : Sl
  ps : List (List Int)
  num : Int
  note : ByteArray
instance : Inhabited CR := ⟨⟨zero32, ⟨none, 0, 0⟩, [], 0, ⟨#[]⟩⟩⟩
def CR.pc (r : CR) : PC := ⟨r.root, r.ps, r.num, r.note⟩
def cmT (d : Sl) (num : Int) (note : ByteArray) : List Value := [.slice d.a d.n d.c, .int .i64 num, .string note]
def cmC (root : List Int) (d : Sl) (num : Int) (note : ByteArray) : List Value := u8s root ++ cmT d num note
def CR.cells (r : CR) : List Value := cmC r.root r.d r.num r.note
def PC.ok (c : PC) : Prop := keyOk c.root ∧ ∀ k ∈ c.ps, keyOk k
theorem cmC_len {root : List Int} (h : keyOk root) (d : Sl) (num : Int) (note : ByteArray) : (cmC root d num note).length = 35 := by unfold cmC; rw [List.length_append, u8s_len, h.1]; rfl
theorem crcells_len {r : CR} (h : keyOk r.root) : r.cells.length = 35 := cmC_len h ..
theorem cm_at {root : List Int} (h : keyOk root) (d : Sl) (num : Int) (note : ByteArray) (j : Nat) : (cmC root d num note)[32 + j]? = (cmT d num note)[j]? := by
  unfold cmC
  have e : (u8s root).length = 32 := by rw [u8s_len]; exact h.1
  rw [List.getElem?_append_right (by omega), e, Nat.add_sub_cancel_left]
theorem cm_d {root : List Int} (h : keyOk root) (d : Sl) (num : Int) (note : ByteArray) : (cmC root d num note).toArray[32]? = some (.slice d.a d.n d.c) := by rw [List.getElem?_toArray]; exact cm_at h d num note 0
theorem cm_num {root : List Int} (h : keyOk root) (d : Sl) (num : Int) (note : ByteArray) : (cmC root d num note).toArray[33]? = some (.int .i64 num) := by rw [List.getElem?_toArray]; exact cm_at h d num note 1
theorem cm_note {root : List Int} (h : keyOk root) (d : Sl) (num : Int) (note : ByteArray) : (cmC root d num note).toArray[34]? = some (.string note) := by rw [List.getElem?_toArray]; exact cm_at h d num note 2
structure CsR (w : World) (s : Sl) (rs : List CR) : Prop where
  of : SlOf w s 35 CR.cells rs
  ok : ∀ r ∈ rs, keyOk r.root ∧ KsR w r.d r.ps
theorem CsR.below {w w' : World} {s : Sl} {rs : List CR} (h : CsR w s rs) (hb : Below w.heap.size w w') : CsR w' s rs := ⟨h.of.below hb, fun r hr => ⟨(h.ok r hr).1, (h.ok r hr).2.below hb⟩⟩
theorem CsR.at {w w' : World} {bl : List Blk} {s : Sl} {rs : List CR} (h : CsR w s rs) (hA : At w w' bl) : CsR w' s rs := h.below hA.below
theorem CsR.n {w : World} {s : Sl} {rs : List CR} (h : CsR w s rs) : s.n = rs.length := h.of.n
structure CmAt (w : World) (p : Addr) (r : CR) : Prop where
  all : ldOk w 35 p .agg r.cells.toArray
  key : ldOk w 32 (p.add 0) .agg (u8s r.root).toArray
  d : ldOk w 1 (p.add 32) .slice r.d
  num : ldOk w 1 (p.add 33) (.int .i64) r.num
  note : ldOk w 1 (p.add 34) .str r.note
theorem cmAt_of {w : World} {p : Addr} {r : CR} (hko : keyOk r.root) (ha : ldOk w 35 p .agg r.cells.toArray) : CmAt w p r := by
  refine ⟨ha, ⟨by simp [hko.1], fun j v hv => ?_⟩, ha.2 32 _ (cm_d hko ..), ha.2 33 _ (cm_num hko ..), ha.2 34 _ (cm_note hko ..)⟩
  rw [Go.Deep.add_add, Nat.zero_add]
  refine ha.2 j v ?_
  rw [List.getElem?_toArray] at hv ⊢
  show (u8s r.root ++ _)[j]? = _
  rw [List.getElem?_append_left (List.getElem?_eq_some_iff.1 hv).1]
  exact hv
theorem CmAt.below {w w' : World} {p : Addr} {r : CR} (h : CmAt w p r) (hb : Below w.heap.size w w') : CmAt w' p r := ⟨ldOk_below hb h.all, ldOk_below hb h.key, ldOk_below hb h.d, ldOk_below hb h.num, ldOk_below hb h.note⟩
theorem CmAt.at {w w' : World} {bl : List Blk} {p : Addr} {r : CR} (h : CmAt w p r) (hA : At w w' bl) : CmAt w' p r := h.below hA.below
theorem CsR.get {w : World} {s : Sl} {rs : List CR} (h : CsR w s rs) {i : Nat} (hi : i < rs.length) : ∃ r p, rs[i]? = some r ∧ r ∈ rs ∧ s.a = some p ∧ keyOk r.root ∧ KsR w r.d r.ps ∧ CmAt w (p.add (i * 35)) r := by
  have hk : rs[i]? = some rs[i] := List.getElem?_eq_getElem hi
  obtain ⟨p, hp, _⟩ := h.of.cell hk
  have ho := h.ok _ (List.getElem_mem hi)
  exact ⟨_, p, hk, List.getElem_mem hi, hp, ho.1, ho.2, cmAt_of ho.1 (h.of.agg hk hp)⟩

inductive OwnCD : List CR → List Blk → Prop where
  | nil : OwnCD [] []
  | cons {b : CR} {r : List CR} {L1 L2 : List Blk} : OwnKeyS b.d b.ps L1 → OwnCD r L2 → OwnCD (b :: r) (L1 ++ L2)
theorem OwnCD.append {r t : List CR} {L M : List Blk} (h : OwnCD r L) (k : OwnCD t M) : OwnCD (r ++ t) (L ++ M) := by
  induction h with
  | nil => exact k
  | cons h1 _ ih => rw [List.append_assoc]; exact .cons h1 ih
theorem OwnCD.snoc {r : List CR} {b : CR} {L M : List Blk} (h : OwnCD r L) (k : OwnKeyS b.d b.ps M) : OwnCD (r ++ [b]) (L ++ M) := by
  have := h.append (OwnCD.cons k .nil)
  simpa using this
theorem OwnCD.ok {w0 w : World} {ls L : List Blk} {rs : List CR} (h : OwnCD rs L) (hA : At w0 w ls) (hs : L.Sublist ls) : ∀ r ∈ rs, KsR w r.d r.ps := by
  induction h with
  | nil => simp
  | @cons b r L1 L2 h1 h2 ih =>
    intro x hx
    cases hx with
    | head => exact ownS_ks h1.1 hA ((List.sublist_append_left _ _).trans hs) h1.2
    | tail _ hx => exact ih ((List.sublist_append_right _ _).trans hs) x hx
def OwnCms (s : Sl) (rs : List CR) (L : List Blk) : Prop := ∃ Lb Ld, L = Lb ++ Ld ∧ OwnS ty_impl_Commit 35 s (rs.flatMap CR.cells) Lb ∧ OwnCD rs Ld ∧ ∀ r ∈ rs, keyOk r.root
theorem OwnCms.rd {w0 w : World} {ls L : List Blk} {s : Sl} {rs : List CR} (h : OwnCms s rs L) (hA : At w0 w ls) (hs : L.Sublist ls) : CsR w s rs := by
  obtain ⟨Lb, Ld, rfl, h1, h2, h3⟩ := h
  exact ⟨h1.of hA ((List.sublist_append_left _ _).trans hs) (fun b hb => cmC_len (h3 b hb) ..) (by omega), fun r hr => ⟨h3 r hr, h2.ok hA ((List.sublist_append_right _ _).trans hs) r hr⟩⟩
theorem OwnCms.n {s : Sl} {rs : List CR} {L : List Blk} (h : OwnCms s rs L) : s.n = rs.length := by
  obtain ⟨Lb, Ld, rfl, h1, h2, h3⟩ := h
  have := h1.1
  rw [flatMap_length (z := 35) (fun b hb => crcells_len (h3 b hb))] at this
  omega
def RdCommitS (w : World) (s : Sl) (X : List PC) : Prop := ∃ rs, rs.map CR.pc = X ∧ CsR w s rs
theorem RdCommitS.at {w w' : World} {ls : List Blk} {s : Sl} {X : List PC} (h : RdCommitS w s X) (hA : At w w' ls) : RdCommitS w' s X := let ⟨rs, h1, h2⟩ := h; ⟨rs, h1, h2.at hA⟩
def OwnCommitS (s : Sl) (X : List PC) (L : List Blk) : Prop := ∃ rs, rs.map CR.pc = X ∧ OwnCms s rs L
theorem OwnCommitS.rd {w0 w : World} {s : Sl} {X : List PC} {L ls : List Blk} (h : OwnCommitS s X L) (hA : At w0 w ls) (hs : L.Sublist ls) : RdCommitS w s X := let ⟨rs, h1, h2⟩ := h; ⟨rs, h1, h2.rd hA hs⟩
theorem OwnCommitS.none : OwnCommitS ⟨none, 0, 0⟩ [] [] := ⟨[], rfl, [], [], rfl, OwnS.nil _ _, .nil, by simp⟩
def RawCommitS (w : World) (s : Sl) (X : List PC) : Prop := ∃ rs, rs.map CR.pc = X ∧ CsR w s rs ∧ s.c ≤ maxLen ∧ ∀ r ∈ rs, RawKeyS w r.d r.ps ∧ r.note.size ≤ maxLen
theorem RawCommitS.rd {w : World} {s : Sl} {X : List PC} (h : RawCommitS w s X) : RdCommitS w s X := let ⟨rs, h1, h2, _⟩ := h; ⟨rs, h1, h2⟩
structure PBk where
  cms : List PC
  maps : List (List PE)
def bkC (s t : Sl) : Array Value := #[.slice s.a s.n s.c, .slice t.a t.n t.c]
theorem bkC_one (s t : Sl) : ∀ v ∈ (bkC s t).toList, oneC v = true := by simp [bkC, oneC]
def RdBook (w : World) (r : Array Value) (b : PBk) : Prop := ∃ s t, r = bkC s t ∧ RdCommitS w s b.cms ∧ RdEntrySS w t b.maps
theorem RdBook.at {w w' : World} {ls : List Blk} {r : Array Value} {b : PBk} (h : RdBook w r b) (hA : At w w' ls) : RdBook w' r b := let ⟨s, t, h1, h2, h3⟩ := h; ⟨s, t, h1, h2.at hA, h3.at hA⟩
def OwnBook (r : Array Value) (b : PBk) (L : List Blk) : Prop := ∃ s t L1 L2, r = bkC s t ∧ L = L1 ++ L2 ∧ OwnCommitS s b.cms L1 ∧ OwnEntrySS t b.maps L2
theorem OwnBook.rd {w0 w : World} {r : Array Value} {b : PBk} {L ls : List Blk} (h : OwnBook r b L) (hA : At w0 w (L ++ ls)) : RdBook w r b := by
  obtain ⟨s, t, L1, L2, h1, rfl, h2, rs, h3, h4⟩ := h
  exact ⟨s, t, h1, h2.rd hA ((List.sublist_append_left _ _).trans (List.sublist_append_left _ _)), rs, h3, h4.rd hA ((List.sublist_append_right _ _).trans (List.sublist_append_left _ _))⟩
theorem OwnBook.none : OwnBook (bkC ⟨.none, 0, 0⟩ ⟨.none, 0, 0⟩) ⟨[], []⟩ [] := ⟨_, _, [], [], rfl, rfl, OwnCommitS.none, OwnEntrySS.none⟩
def RawBook (w : World) (r : Array Value) (b : PBk) : Prop := ∃ s t, r = bkC s t ∧ RawCommitS w s b.cms ∧ RawEntrySS w t b.maps
theorem RawBook.rd {w : World} {r : Array Value} {b : PBk} (h : RawBook w r b) : RdBook w r b := let ⟨s, t, h1, h2, h3⟩ := h; ⟨s, t, h1, h2.rd, h3.rd⟩
theorem RawBook.sz {w : World} {r : Array Value} {b : PBk} (h : RawBook w r b) : r.size = 2 := by obtain ⟨s, t, rfl, _⟩ := h; rfl
theorem RawBook.one {w : World} {r : Array Value} {b : PBk} (h : RawBook w r b) : ∀ v ∈ r.toList, oneC v = true := by obtain ⟨s, t, rfl, _⟩ := h; exact bkC_one s t
theorem OwnBook.sz {r : Array Value} {b : PBk} {L : List Blk} (h : OwnBook r b L) : r.size = 2 := by obtain ⟨s, t, _, _, rfl, _⟩ := h; rfl
theorem OwnBook.one {r : Array Value} {b : PBk} {L : List Blk} (h : OwnBook r b L) : ∀ v ∈ r.toList, oneC v = true := by obtain ⟨s, t, _, _, rfl, _⟩ := h; exact bkC_one s t
end Go.Proofs.YtkifkdkjljcclaaGreat
