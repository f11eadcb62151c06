/- What the walks of the exact laws need: groups of blocks pulled to the front and put back, sizes. Printed in part. IsPartOf, GetBlob, MinusStores, DropBlob: what the program and the reference answer. IsPartOf: what the program and the reference answer. Printed in part by a program of this claim's author. What a blob links to: keys that lie in bytes; a map's node read. Both sides. What a blob links to: both sides. Rules for slices.Insert: room made by append, copies within one slice, do two slices overlap. The links of a blob: what both sides answer. From a function's contract to the given statement: arguments opened (arrays of bytes, slices of such), the row's step, for any law that returns true. -/
import Derived.Lib.Overlaps
import Derived.Carry
import Derived.Deep.Slices
import Derived.OpenShut
import Derived.ProofKit
import Derived.Test.YtkifkdkjljcclaaPkLPS20
import Derived.Test.YtkifkdkjljcclaaPkLPS17
namespace Go.Sx
open Go.RowKit (Below)
variable {P : Program} {R : Value → World → Prop} {w0 w : World}

theorem r_joinI {σ : Type} {emb : σ → List Value} {rest : σ → World → Prop} {body : (List Value → World → Prop) → World → Prop} (hb : body (fun vs w' => ∃ s', emb s' = vs ∧ rest s' w') w) : ((real P R).join σ emb rest body : World → Prop) w := ⟨rest, fun _ _ h => h, hb⟩
theorem At.pl1 {V G1 X : List Blk} (h : At w0 w (V ++ (G1 ++ X))) : At w0 w (G1 ++ (V ++ X)) := h.rot
theorem At.ps1 {V G1 X : List Blk} (h : At w0 w (G1 ++ (V ++ X))) : At w0 w (V ++ (G1 ++ X)) := h.rot
theorem At.pl2 {V G1 G2 X : List Blk} (h : At w0 w (V ++ (G1 ++ (G2 ++ X)))) : At w0 w (G2 ++ (V ++ (G1 ++ X))) := by
  rw [← List.append_assoc V G1] at h
  have h := At.pl1 h
  rwa [List.append_assoc V G1] at h
theorem At.ps2 {V G1 G2 X : List Blk} (h : At w0 w (G2 ++ (V ++ (G1 ++ X)))) : At w0 w (V ++ (G1 ++ (G2 ++ X))) := by
  rw [← List.append_assoc V G1] at h
  have h := At.ps1 h
  rwa [List.append_assoc V G1] at h
theorem At.dr2 {V G1 G2 X : List Blk} (h : At w0 w (V ++ (G1 ++ (G2 ++ X)))) : At w0 w (V ++ (G1 ++ X)) := h.pl2.right
theorem At.pl3 {V G1 G2 G3 X : List Blk} (h : At w0 w (V ++ (G1 ++ (G2 ++ (G3 ++ X))))) : At w0 w (G3 ++ (V ++ (G1 ++ (G2 ++ X)))) := by
  rw [← List.append_assoc V G1] at h
  have h := At.pl2 h
  rwa [List.append_assoc V G1] at h
theorem At.ps3 {V G1 G2 G3 X : List Blk} (h : At w0 w (G3 ++ (V ++ (G1 ++ (G2 ++ X))))) : At w0 w (V ++ (G1 ++ (G2 ++ (G3 ++ X)))) := by
  rw [← List.append_assoc V G1] at h
  have h := At.ps2 h
  rwa [List.append_assoc V G1] at h
theorem At.dr3 {V G1 G2 G3 X : List Blk} (h : At w0 w (V ++ (G1 ++ (G2 ++ (G3 ++ X))))) : At w0 w (V ++ (G1 ++ (G2 ++ X))) := h.pl3.right
theorem At.pl4 {V G1 G2 G3 G4 X : List Blk} (h : At w0 w (V ++ (G1 ++ (G2 ++ (G3 ++ (G4 ++ X)))))) : At w0 w (G4 ++ (V ++ (G1 ++ (G2 ++ (G3 ++ X))))) := by
  rw [← List.append_assoc V G1] at h
  have h := At.pl3 h
  rwa [List.append_assoc V G1] at h
theorem At.pl5 {V G1 G2 G3 G4 G5 X : List Blk} (h : At w0 w (V ++ (G1 ++ (G2 ++ (G3 ++ (G4 ++ (G5 ++ X))))))) : At w0 w (G5 ++ (V ++ (G1 ++ (G2 ++ (G3 ++ (G4 ++ X)))))) := by
  rw [← List.append_assoc V G1] at h
  have h := At.pl4 h
  rwa [List.append_assoc V G1] at h
theorem At.pl6 {V G1 G2 G3 G4 G5 G6 X : List Blk} (h : At w0 w (V ++ (G1 ++ (G2 ++ (G3 ++ (G4 ++ (G5 ++ (G6 ++ X)))))))) : At w0 w (G6 ++ (V ++ (G1 ++ (G2 ++ (G3 ++ (G4 ++ (G5 ++ X))))))) := by
  rw [← List.append_assoc V G1] at h
  have h := At.pl5 h
  rwa [List.append_assoc V G1] at h
end Go.Sx
namespace Go.Proofs.Ytkifkdkjljcclaa
open Go.Sx Go.RowKit
theorem RdKey.sz {w : World} {r : Array Value} {k : List Int} (h : RdKey w r k) : r.size = 32 := by rw [h.1]; simp [h.2.1]
theorem RdKey.one {w : World} {r : Array Value} {k : List Int} (h : RdKey w r k) : ∀ v ∈ r.toList, oneC v = true := by rw [h.1]; simpa using u8s_one
theorem OwnKey.sz {r : Array Value} {k : List Int} {L : List Blk} (h : OwnKey r k L) : r.size = 32 := by rw [h.1]; simp [h.2.1.1]
theorem OwnKey.one {r : Array Value} {k : List Int} {L : List Blk} (h : OwnKey r k L) : ∀ v ∈ r.toList, oneC v = true := by rw [h.1]; simpa using u8s_one
theorem RawStore.sz {w : World} {r : Array Value} {B : List PB} (h : RawStore w r B) : r.size = 1 := by obtain ⟨s, bs, rfl, _⟩ := h; rfl
theorem RawStore.one {w : World} {r : Array Value} {B : List PB} (h : RawStore w r B) : ∀ v ∈ r.toList, oneC v = true := by obtain ⟨s, bs, rfl, _⟩ := h; simp [oneC]
theorem OwnStore.sz {r : Array Value} {B : List PB} {L : List Blk} (h : OwnStore r B L) : r.size = 1 := by obtain ⟨s, bs, rfl, _⟩ := h; rfl
theorem OwnStore.one {r : Array Value} {B : List PB} {L : List Blk} (h : OwnStore r B L) : ∀ v ∈ r.toList, oneC v = true := by obtain ⟨s, bs, rfl, _⟩ := h; simp [oneC]
theorem OwnBlob.sz {r : Array Value} {B : PB} {L : List Blk} (h : OwnBlob r B L) : r.size = 2 := by obtain ⟨b, rfl, _⟩ := h; rfl
theorem OwnBlob.one {r : Array Value} {B : PB} {L : List Blk} (h : OwnBlob r B L) : ∀ v ∈ r.toList, oneC v = true := by obtain ⟨b, rfl, _⟩ := h; simpa using cells_one b
end Go.Proofs.Ytkifkdkjljcclaa

namespace Go.Proofs.Ytkifkdkjljcclaa
open Go.Sx Go.RowKit

theorem keysOf_get {B : List PB} {i : Nat} {b : PB} (h : B[i]? = some b) : (keysOf B)[i]? = some b.key := by simp [keysOf, h]

end Go.Proofs.Ytkifkdkjljcclaa

namespace Go.Proofs.Ytkifkdkjljcclaa
open Go.Sx Go.RowKit

theorem SpecO.ex {b : Nat} {ks : List (List Int)} {bs : List BR} {L : List Blk} (h : SpecO b ks bs L) (hk : ∀ k ∈ ks, keyOk k) : ∃ sk sb : Sl, ∀ {w0 w : World} {ls : List Blk}, At w0 w (L ++ ls) → (∀ b ∈ bs, b.Ok w) →
    (∀ n, ldOk w n ((⟨b, 0, none⟩ : Addr).add 1) .slice sk) ∧ (∀ n, ldOk w n ((⟨b, 0, none⟩ : Addr).add 0) .slice sb) ∧ KsR w sk ks ∧ BsR w sb bs := by
  obtain ⟨sk, sb, Lk, Lb, rfl, h1, h2⟩ := h
  refine ⟨sk, sb, fun hA hb => ⟨fun n => ldOk_own hA 0 rfl 1 rfl (by simp [Sh.emb]), fun n => ldOk_own hA 0 rfl 0 rfl (by simp [Sh.emb]), ownS_ks h1 hA ?_ hk, ⟨h2.of hA ?_ (fun b _ => cells_len b) (by omega), hb⟩⟩⟩
  · exact ((List.sublist_append_right _ _).trans (List.sublist_append_right _ _)).trans (List.sublist_append_left _ _)
  · exact ((List.sublist_append_left _ _).trans (List.sublist_append_right _ _)).trans (List.sublist_append_left _ _)

end Go.Proofs.Ytkifkdkjljcclaa

namespace Go.Proofs.Ytkifkdkjljcclaa
open Go.Sx Go.RowKit

def part32 (d : List Int) (o : Nat) : List Int := (d.drop o).take 32
def keysN (d : List Int) (o n : Nat) : List (List Int) := (List.range n).map fun i => part32 d (o + 32 * i)
theorem keysN_len (d : List Int) (o n : Nat) : (keysN d o n).length = n := by simp [keysN]
def nodeOk (d : List Int) : Prop := 65 ≤ d.length ∧ 65 + (d.getD 64 0).toNat ≤ d.length ∧ 1 ≤ (d.getD 64 0).toNat ∧ (d.getD 64 0).toNat ≤ 24 ∧ d.length - (65 + (d.getD 64 0).toNat) ≤ 64
instance (d : List Int) : Decidable (nodeOk d) := inferInstanceAs (Decidable (_ ∧ _))
def nodeName (d : List Int) : List Int := (d.drop 65).take (d.getD 64 0).toNat
def nameOk (n : Nat) : Bool := decide (1 ≤ n ∧ n ≤ 24)
theorem bsl_sub {w : World} {s : Sl} {d : List Int} (hs : BSl w s d) (l k : Nat) (h1 : l ≤ k) (h2 : k ≤ d.length) : SlAt w ⟨if s.c = l then s.a else s.a.map (·.add (l * 1)), k - l, s.c - l⟩ 1 (u8s ((d.drop l).take (k - l))) := by
  have := hs.sl.slice (by omega) l k h1 (by rw [hs.n]; exact h2) hs.cap
  simpa [u8s, List.map_take, List.map_drop] using this

end Go.Proofs.Ytkifkdkjljcclaa

namespace Go.Proofs.Ytkifkdkjljcclaa
open Go.Sx Go.RowKit

def emptyKey : List Int := hashL 5 []
end Go.Proofs.Ytkifkdkjljcclaa

namespace Go.Sx
open Go.RowKit (Below)
variable {P : Program} {R : Value → World → Prop} {w0 w : World} {ls L : List Blk} {e z : Nat} {s : Sl} {xs : List Value}

theorem OwnS.grow (h : OwnS e z s xs L) (n : Nat) (h1 : s.n ≤ n) (h2 : n ≤ s.c) : ∃ ys, OwnS e z ⟨s.a, n, s.c⟩ ys L ∧ ys.take (s.n * z) = xs := by
  obtain ⟨hl, h⟩ := h
  rcases h with ⟨ha, h0, hc, rfl⟩ | ⟨g, cur, rfl, ha, hnc, hcm, hcs, htk⟩
  · have hn : n = 0 := by omega
    subst hn
    refine ⟨[], ⟨by simp, .inl ⟨ha, rfl, hc, rfl⟩⟩, ?_⟩
    rw [h0] at hl
    rw [List.take_nil, List.eq_nil_of_length_eq_zero (by omega : xs.length = 0)]
  · have hb : n * z ≤ s.c * z := Nat.mul_le_mul_right _ h2
    have hb1 : s.n * z ≤ n * z := Nat.mul_le_mul_right _ h1
    refine ⟨cur.toList.take (n * z), ⟨by simp; omega, .inr ⟨g, cur, rfl, ha, h2, hcm, hcs, ?_⟩⟩, ?_⟩
    · simp only [List.length_take, Array.length_toList]
      rw [show min (n * z) cur.size = n * z by omega]
    · rw [List.take_take, show min (s.n * z) (n * z) = s.n * z by omega, ← hl]
      exact htk

end Go.Sx

namespace Go.Sx
theorem SlO.base {w0 w : World} {ls : List Blk} {e z : Nat} {s : Sl} {xs : List Value} (h : SlO w0 w ls e z s xs) : SlO w0 w [] e z s xs := by
  obtain ⟨L, hO, hA⟩ := h.split
  exact hO.slo (ls := []) (by simpa using hA.left)
end Go.Sx
namespace Go.Proofs.Ytkifkdkjljcclaa
open Go.Sx Go.RowKit

def notEmpty (k : List Int) : Bool := !decide (k = emptyKey)
def byte0 (d : List Int) : Nat := (d.getD 0 0).toNat
def links (b : PB) : List (List Int) :=
  if b.tag = 2 then (if b.data.length = 64 then keysN b.data 0 2 else [])
  else if b.tag = 5 then (if nodeOk b.data then [part32 b.data 0, part32 b.data 32].filter notEmpty else [])
  else if b.tag = 6 then (if b.data.length % 32 = 0 then keysN b.data 0 (b.data.length / 32) else [])
  else if b.tag = 7 then (if 1 ≤ b.data.length ∧ 1 + 32 * byte0 b.data ≤ b.data.length then keysN b.data 1 (byte0 b.data) else [])
  else []
theorem links_len (b : PB) : (links b).length ≤ b.data.length := by
  unfold links
  split
  · split
    · rw [keysN_len]; omega
    · simp
  split
  · split
    · rename_i hn
      have h1 := hn.1
      have := List.length_filter_le notEmpty [part32 b.data 0, part32 b.data 32]
      simp only [List.length_cons, List.length_nil] at this
      omega
    · simp
  split
  · split
    · rw [keysN_len]; omega
    · simp
  split
  · split
    · rw [keysN_len]; omega
    · simp
  · simp

theorem bsl_part {w : World} {s : Sl} {d : List Int} (hs : BSl w s d) (l k : Nat) (h1 : l ≤ k) (h2 : k ≤ d.length) : BSl w ⟨if s.c = l then s.a else s.a.map (·.add (l * 1)), k - l, s.c - l⟩ ((d.drop l).take (k - l)) :=
  ⟨bsl_sub hs l k h1 h2, fun b hb => hs.ok b (List.mem_of_mem_drop (List.mem_of_mem_take hb)), by have := hs.cap; have := hs.n; dsimp only; omega⟩

end Go.Proofs.Ytkifkdkjljcclaa

namespace Go.Sx
open Go.ChangeShapes Go.WideShapes Go.ChangeAt Go.RowKit Go.Deep

section
variable {H : Type} {enc : TypeId × Value → H} {P : Program} {w : World} {base : Nat} {spare : Nat → Bool} {held : Bool}

theorem trodAll_stays (hl : laidOutB P = true) {W W' : World} : ∀ {ts : List TypeId} {vs : List Value} {ds : List (DataW H)} {ps : List MemPlace}, (∀ t ∈ ts, P.readableRec t = true ∧ t < P.types.size) → DataW.TrodAll enc P W 0 (fun _ => true) true ts vs ds ps → Below W.heap.size W W' →
    (∀ x ∈ ps, x.block < W.heap.size) → DataW.TrodAll enc P W' 0 (fun b => decide (b < W.heap.size)) true ts vs ds ps
  | [], vs, ds, ps, _, h, _, _ => by
    obtain ⟨rfl, rfl, rfl⟩ := trodAll_nil h
    exact trodAll_mk0
  | t :: ts, vs, ds, ps, ht, h, hb, hlt => by
    obtain ⟨v, vs', d, ds', p, q, rfl, rfl, rfl, h1, h2⟩ := trodAll_cons h
    have ht1 := ht t (by simp)
    exact trodAll_cons_mk (Below.trod hl ht1.1 ht1.2 h1 hb fun x hx => hlt x (by simp [hx])) (trodAll_stays hl (fun t h => ht t (by simp [h])) h2 hb fun x hx => hlt x (by simp [hx]))

theorem trodAll_len : ∀ {ts : List TypeId} {vs : List Value} {ds : List (DataW H)} {ps : List MemPlace}, DataW.TrodAll enc P w base spare held ts vs ds ps → ds.length = ts.length
  | [], _, _, _, h => by obtain ⟨_, rfl, _⟩ := trodAll_nil h; rfl
  | _ :: _, _, _, _, h => by
    obtain ⟨v, vs', d, ds', p, q, rfl, rfl, rfl, _, h2⟩ := trodAll_cons h
    simp [trodAll_len h2]
end

theorem law_lifted {C : Checked} {os : Os} {f : FuncId} {fn : Func} {s : ChangeSpec} {conds : List PathCond} {tb : TypeId} (own : ownKnob C.prog.godebug = none) (started : os.Started) (noInit : C.prog.inits.idxOf? f = none) (hfn : C.prog.funcs[f]? = some fn)
    (hl : laidOutB C.prog = true) (hpar : (fn.params.toList.all fun t => C.prog.readableRec t && decide (t < C.prog.types.size)) = true) (hres : fn.resultTypes = #[tb]) (hb : C.prog.underlying tb = some .bool) (hv : s.vars = [])
    {H : Type} {enc : TypeId × Value → H}
    (hspec : ∀ ds : List (DataW H), ds.length = fn.params.size → (s.fn H ds).results = [.lit (.bool true)] ∧ (s.fn H ds).args = ds ∧ (s.fn H ds).vars = [])
    (witness : ∃ (w : World) (tape : Tape) (i : Input), w.os = os ∧ (w.forCall tape i).Shaped C.prog ∧ i.vars = [] ∧ Input.okWide C.prog (w.forCall tape i) .any w.heap.size f i ∧
      s.pre6 enc C.prog fn conds false (w.forCall tape i).memory i.args ∧ Assume.holds {} C.prog (lone (Frame.enter C.prog f i.args .normal) [] (w.forCall tape i)))
    (contract : ∀ (W : World) (base : Nat) (args : Array Value) (ds : List (DataW H)) (p : List MemPlace), (∀ (j : Nat) t v, fn.params[j]? = some t → args[j]? = some v → Value.okWide C.prog W .any base t v) →
      DataW.TrodAll enc C.prog W 0 (fun _ => true) true fn.params.toList args.toList ds p → Ret C.prog f args.toList W [.bool] (fun r _ => r = true)) :
    ReturnsInHanded {} C os f .any (s.pre6 enc C.prog fn conds false) (s.post enc C.prog fn false true false false) := by
  refine returnsInHanded_of_change own started noInit hfn witness ?_
  intro W base args ds gs before hval hW _ _
  have hW' := hW
  obtain ⟨p, q, hA, hV, rfl, hfz, hnd⟩ := hW
  rw [hv] at hV
  obtain ⟨rfl, rfl⟩ := trodVars_none hV
  have hlen := trodAll_len hA
  obtain ⟨e1, e2, e3⟩ := hspec ds (by simpa using hlen)
  have hlt : ∀ x ∈ p, x.block < W.heap.size := fun x hx => by simpa using hW'.lt x (by simpa using hx)
  have hcall : Calls C.prog f args W fun e w' => ∃ v, e = .returned v ∧ RR W [.bool] (fun r _ => r = true) v w' := contract W base args ds p hval hA
  refine hcall.mono fun e W' ⟨v, he, x, hv', hbel, hx⟩ => ?_
  subst hx
  have hv'' : v = .bool true := hv'
  subst hv''
  refine ⟨_, he, ds, [], p ++ [], [], p, [], hW', ?_, ?_, ?_, hbel.frame _, fun h => by cases h⟩
  · rw [List.append_nil, e1, hres]
    exact trodAll_mk1 (shut_bool hb _)
  · rw [List.append_nil, e2]
    refine trodAll_stays hl (fun t ht => ?_) hA hbel hlt
    have := List.all_eq_true.1 hpar t ht
    simpa using this
  · rw [List.append_nil, e3, hv]
    rfl

end Go.Sx
