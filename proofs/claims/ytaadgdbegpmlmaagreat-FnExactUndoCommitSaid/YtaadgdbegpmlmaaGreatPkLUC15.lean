/- Arguments opened at their cells: slices of anything, slices of bytes, stores. More kinds of values of which laws speak: raw blobs; keys compared. A string that is an argument of a law. IsPartOf: what the program and the reference answer. Printed in part by a program of this claim's author. What a blob links to: keys that lie in bytes; a map's node read. Both sides. More kinds of values of which laws speak: slices of keys, slices of counts. -/
import Derived.ChangeSame
import Derived.ChangeMaps5
import Derived.Test.YtaadgdbegpmlmaaGreatPkLUC05
import Derived.Test.YtaadgdbegpmlmaaGreatPkLUC14
namespace Go.Sx
open Go.ChangeShapes Go.WideShapes Go.ChangeAt Go.RowKit Go.Deep

section
variable {H : Type} {enc : TypeId × Value → H} {P : Program} {w : World} {base : Nat} {spare : Nat → Bool} {held : Bool}

theorem trod_sl {α : Type} [Inhabited α] {t u z : Nat} {cells : α → List Value} {ok : α → Prop} (ht : P.underlying t = some (.slice u)) (hc : P.cellsOf u = z) (hz : 0 < z) (hlen : ∀ a, ok a → (cells a).length = z)
    (elem : ∀ (fuel : Nat) (cs : List Value) (x : DataW H × List MemPlace), DataW.trod enc P w base spare held fuel u cs = some x → ∃ a : α, cs = cells a ∧ ok a)
    {fuel : Nat} {cs : List Value} {x : DataW H × List MemPlace} (h : DataW.trod enc P w base spare held fuel t cs = some x) :
    ∃ (s : Sl) (xs : List α), cs = [.slice s.a s.n s.c] ∧ SlOf w s z cells xs ∧ s.c ≤ maxLen ∧ ∀ a ∈ xs, ok a := by
  rcases open_slice ht h with ⟨rfl, _⟩ | ⟨a', len, cap, m, k, D, Pl, rfl, _, hl, hm, hmm, _, hx⟩
  · exact ⟨⟨none, 0, 0⟩, [], rfl, SlOf.nil hz, Nat.zero_le _, by simp⟩
  · have hlm : len ≤ m := by rw [hmm]; split <;> omega
    obtain ⟨g, hg⟩ := choose_lt (α := α) (n := len) (p := fun i y => ok y ∧ ∀ j v, (cells y)[j]? = some v → w.cell? ((a'.add (i * z)).add j) = some v) (fun i hi => by
      obtain ⟨cs', h1, h2⟩ := hx i (by omega)
      rw [hc] at h1
      obtain ⟨y, rfl, hy⟩ := elem _ _ _ h2
      obtain ⟨_, hlen', hcell⟩ := World.cells?_some h1
      refine ⟨y, hy, fun j v hv => ?_⟩
      rw [hcell j (by have := (List.getElem?_eq_some_iff.1 hv).1; omega), hv])
    have hmem : ∀ y ∈ (List.range len).map g, ok y := by
      intro y hy
      simp only [List.mem_map, List.mem_range] at hy
      obtain ⟨i, hi, rfl⟩ := hy
      exact (hg i hi).1
    have hone : ∀ y ∈ (List.range len).map g, (cells y).length = z := fun y hy => hlen y (hmem y hy)
    have hfl : (((List.range len).map g).flatMap cells).length = len * z := by rw [flatMap_length hone]; simp
    refine ⟨⟨some a', len, cap⟩, (List.range len).map g, rfl, ⟨⟨hfl, fun j v hv => ⟨a', rfl, ?_⟩⟩, hone, hl, hz⟩, hm, hmem⟩
    have hj : j < len * z := by rw [← hfl]; exact (List.getElem?_eq_some_iff.1 hv).1
    have hi : j / z < len := (Nat.div_lt_iff_lt_mul hz).2 hj
    have hr : j % z < z := Nat.mod_lt _ hz
    obtain ⟨h1, h2⟩ := hg (j / z) hi
    have hr' : j % z < (cells (g (j / z))).length := by rw [hlen _ h1]; exact hr
    have e := flatMap_get (cs := cells) (i := j / z) (j := j % z) hone (by simp [hi]) (List.getElem?_eq_getElem hr')
    rw [Nat.div_add_mod', hv] at e
    have := h2 (j % z) _ (List.getElem?_eq_getElem hr')
    rwa [add_add, Nat.div_add_mod', ← e] at this

theorem okWide_struct {r : Reach} {b0 : Nat} {t : TypeId} {fs : Array Field} {v : Value} (ht : P.underlying t = some (.struct fs)) (h : Value.okWide P w r b0 t v) : ∃ cs, v = .agg cs := by
  simp only [Value.okWide, ht] at h
  obtain ⟨cs, h1, _⟩ := h
  exact ⟨cs, h1⟩
def structB (P : Program) (t : TypeId) (l : List (TypeId × Nat)) : Bool := match P.underlying t with
  | some (.struct fs) => (fs.toList.map fun f => (f.type, f.offset)) == l
  | _ => false
theorem structB_of {t : TypeId} {l : List (TypeId × Nat)} (h : structB P t l = true) : ∃ fs, P.underlying t = some (.struct fs) ∧ fs.toList.map (fun f => (f.type, f.offset)) = l := by
  unfold structB at h
  split at h
  · rename_i fs hu
    exact ⟨fs, hu, by simpa using h⟩
  · cases h
theorem okWide_structB {r : Reach} {b0 : Nat} {t : TypeId} {l : List (TypeId × Nat)} {v : Value} (ht : structB P t l = true) (h : Value.okWide P w r b0 t v) : ∃ cs, v = .agg cs := by
  obtain ⟨fs, hu, _⟩ := structB_of ht
  exact okWide_struct hu h
theorem trod_fields {t : TypeId} {l : List (TypeId × Nat)} {fuel : Nat} {cs : List Value} {x : DataW H × List MemPlace} (ht : structB P t l = true) (h : DataW.trod enc P w base spare held fuel t cs = some x) :
    cs.length = P.cellsOf t ∧ ∀ (i : Nat) ty off, l[i]? = some (ty, off) → ∃ n y, DataW.trod enc P w base spare held n ty ((cs.drop off).take (P.cellsOf ty)) = some y := by
  obtain ⟨fs, hu, hl⟩ := structB_of ht
  obtain ⟨xs, n, _, rfl, hlen, hxl, hf⟩ := DataW.trod_struct hu h
  refine ⟨hlen, fun i ty off hi => ?_⟩
  rw [← hl, List.getElem?_map] at hi
  cases hfi : fs.toList[i]? with
  | none => rw [hfi] at hi; cases hi
  | some f =>
    rw [hfi] at hi
    simp only [Option.map_some, Option.some.injEq, Prod.mk.injEq] at hi
    obtain ⟨rfl, rfl⟩ := hi
    have hfi' : fs[i]? = some f := by rw [← Array.getElem?_toList]; exact hfi
    have := hf i f hfi'
    have hlt : i < xs.length := by rw [hxl]; exact (Array.getElem?_eq_some_iff.1 hfi').1
    rw [List.getElem?_eq_getElem hlt] at this
    exact ⟨n, _, this⟩

end
end Go.Sx
namespace Go.Proofs.YtaadgdbegpmlmaaGreat
open Go.Sx Go.RowKit
section
variable {H : Type} {enc : TypeId × Value → H} {w : World} {base : Nat} {spare : Nat → Bool} {held : Bool}
instance : Inhabited BR := ⟨⟨0, ⟨none, 0, 0⟩, []⟩⟩

set_option maxRecDepth 100000 in
theorem open_Key {r : Reach} {b0 : Nat} {v : Value} {d : DataW H} {ps : List MemPlace} (hval : Value.okWide Tryz.prog w r b0 ty_arr32_uint8 v) (hd : DataW.Trod enc Tryz.prog w base spare held ty_arr32_uint8 v d ps) : ∃ (x : Array Value) (k : List Int), v = .agg x ∧ RdKey w x k := by
  obtain ⟨l, rfl, h1, h2⟩ := open_bytes (n := 32) (e := ty_uint8) (by kernel_rfl) (by kernel_rfl) (by kernel_rfl) (by kernel_rfl) hval hd
  exact ⟨_, l, rfl, rfl, h1, h2⟩

end
end Go.Proofs.YtaadgdbegpmlmaaGreat

namespace Go.Sx
theorem At.sw2 {w0 w : World} {a b : Blk} {l : List Blk} (h : At w0 w (a :: b :: l)) : At w0 w (b :: a :: l) := h.perm (List.Perm.swap _ _ _)
end Go.Sx
namespace Go.Proofs.YtaadgdbegpmlmaaGreat
open Go.Sx Go.RowKit

def RawBlob (w : World) (r : Array Value) (B : PB) : Prop := ∃ b : BR, r = b.cells.toArray ∧ b.pb = B ∧ b.Ok w ∧ b.d.c ≤ maxLen
theorem RawBlob.rd {w : World} {r : Array Value} {B : PB} (h : RawBlob w r B) : RdBlob w r B := let ⟨b, h1, h2, h3, _⟩ := h; ⟨b, h1, h2, h3⟩
theorem RawBlob.sz {w : World} {r : Array Value} {B : PB} (h : RawBlob w r B) : r.size = 2 := by obtain ⟨b, rfl, _⟩ := h; rfl
theorem RawBlob.one {w : World} {r : Array Value} {B : PB} (h : RawBlob w r B) : ∀ v ∈ r.toList, oneC v = true := by obtain ⟨b, rfl, _⟩ := h; simpa using cells_one b
theorem c_eqKey_same {a : List Int} (ha : a.length = 32) (w : World) : Ret Tryz.prog n_laws_eqKey [.agg (u8s a).toArray, .agg (u8s a).toArray] w [.bool] (fun r _ => r = true) := laws_eqKey_calls _ _ (by
  unfold laws_eqKey
  refine r_new (At.refl w) fun b1 w1 h => ?_
  refine r_new h fun b2 w2 h => ?_
  refine r_loop (σ := Int) (fun i w' => ∃ j : Nat, i = j ∧ j ≤ 32 ∧ At w w' [(b2, (u8s a).toArray, ty_impl_Key), (b1, (u8s a).toArray, ty_impl_Key)]) (fun i _ => (32 - i).toNat) 0 rfl ⟨0, rfl, by omega, h⟩ ?_
  rintro i w8 ⟨j, rfl, hj, h⟩
  refine r_any fun _ => ?_
  refine r_if ((j : Int) < 32) rfl (fun hlt => ?_) (fun hge => ?_)
  · refine r_draw h fun w3 h => ?_
    refine r_ix ⟨b1, 0, none⟩ rfl (by omega) (by omega) ?_
    refine r_ld h 1 rfl (add_lit _ _ _) (a.getD j 0) (by simp [Sh.emb]) (by simp only [Int.toNat_natCast, Nat.zero_add, Nat.mul_one]; exact u8s_arr (by omega)) ?_
    refine r_ix ⟨b2, 0, none⟩ rfl (by omega) (by omega) ?_
    refine r_ld h 0 rfl (add_lit _ _ _) (a.getD j 0) (by simp [Sh.emb]) (by simp only [Int.toNat_natCast, Nat.zero_add, Nat.mul_one]; exact u8s_arr (by omega)) ?_
    refine r_ne (fun hh => absurd rfl hh) fun _ => ?_
    exact ⟨((j + 1 : Nat) : Int), by rw [w64 (by omega) (by omega)]; rfl, ⟨j + 1, rfl, by omega, h⟩, by omega⟩
  · exact r_ret h _ rfl rfl)
theorem c_eqKeyV {w : World} {r r' : Array Value} {k : List Int} (h : RdKey w r k) (h' : RdKey w r' k) : Ret Tryz.prog n_laws_eqKey [.agg r, .agg r'] w [.bool] (fun x _ => x = true) := by
  obtain ⟨rfl, ha, _⟩ := h
  obtain ⟨rfl, _⟩ := h'
  exact c_eqKey_same ha w
end Go.Proofs.YtaadgdbegpmlmaaGreat

namespace Go.Proofs.YtaadgdbegpmlmaaGreat
open Go.Sx Go.RowKit

set_option maxRecDepth 100000 in
theorem open_Str {H : Type} {enc : TypeId × Value → H} {w : World} {base : Nat} {spare : Nat → Bool} {held : Bool} {r : Reach} {b0 : Nat} {v : Value} {d : DataW H} {ps : List MemPlace} (hval : Value.okWide Tryz.prog w r b0 ty_string v) (hd : DataW.Trod enc Tryz.prog w base spare held ty_string v d ps) : ∃ x : ByteArray, v = .string x ∧ x.size ≤ maxLen := by
  obtain ⟨s, h, _, _, hs⟩ := Go.ChangeMaps.open_string (P := Tryz.prog) (t := ty_string) (show Tryz.prog.underlying ty_string = some .string by kernel_rfl) hval hd
  exact ⟨s, h, hs⟩
end Go.Proofs.YtaadgdbegpmlmaaGreat

namespace Go.Proofs.YtaadgdbegpmlmaaGreat
open Go.Sx Go.RowKit

theorem ShopO.ex {b : Nat} {ks : List (List Int)} {bs : List BR} {L : List Blk} (h : ShopO b ks bs L) (hk : ∀ k ∈ ks, keyOk k) : ∃ sk sb : Sl, ∀ {w0 w : World} {ls : List Blk}, At w0 w (L ++ ls) → (∀ b ∈ bs, b.Ok w) →
    (∀ n, ldOk w n ((⟨b, 0, none⟩ : Addr).add 0) .slice sk) ∧ (∀ n, ldOk w n ((⟨b, 0, none⟩ : Addr).add 1) .slice sb) ∧ KsR w sk ks ∧ BsR w sb bs := by
  obtain ⟨sk, sb, Lk, Lb, rfl, h1, h2⟩ := h
  refine ⟨sk, sb, fun hA hb => ⟨fun n => ldOk_own hA 0 rfl 0 rfl (by simp [Sh.emb]), fun n => ldOk_own hA 0 rfl 1 rfl (by simp [Sh.emb]), ownS_ks h1 hA ?_ hk, ⟨h2.of hA ?_ (fun b _ => cells_len b) (by omega), hb⟩⟩⟩
  · exact ((List.sublist_append_left _ _).trans (List.sublist_cons_self _ _)).trans (List.sublist_append_left _ _)
  · exact ((List.sublist_append_right _ _).trans (List.sublist_cons_self _ _)).trans (List.sublist_append_left _ _)
theorem SpecO.ex {b : Nat} {ks : List (List Int)} {bs : List BR} {L : List Blk} (h : SpecO b ks bs L) (hk : ∀ k ∈ ks, keyOk k) : ∃ sk sb : Sl, ∀ {w0 w : World} {ls : List Blk}, At w0 w (L ++ ls) → (∀ b ∈ bs, b.Ok w) →
    (∀ n, ldOk w n ((⟨b, 0, none⟩ : Addr).add 1) .slice sk) ∧ (∀ n, ldOk w n ((⟨b, 0, none⟩ : Addr).add 0) .slice sb) ∧ KsR w sk ks ∧ BsR w sb bs := by
  obtain ⟨sk, sb, Lk, Lb, rfl, h1, h2⟩ := h
  refine ⟨sk, sb, fun hA hb => ⟨fun n => ldOk_own hA 0 rfl 1 rfl (by simp [Sh.emb]), fun n => ldOk_own hA 0 rfl 0 rfl (by simp [Sh.emb]), ownS_ks h1 hA ?_ hk, ⟨h2.of hA ?_ (fun b _ => cells_len b) (by omega), hb⟩⟩⟩
  · exact ((List.sublist_append_right _ _).trans (List.sublist_append_right _ _)).trans (List.sublist_append_left _ _)
  · exact ((List.sublist_append_left _ _).trans (List.sublist_append_right _ _)).trans (List.sublist_append_left _ _)

end Go.Proofs.YtaadgdbegpmlmaaGreat

namespace Go.Proofs.YtaadgdbegpmlmaaGreat
open Go.Sx Go.RowKit

def part32 (d : List Int) (o : Nat) : List Int := (d.drop o).take 32
def keysN (d : List Int) (o n : Nat) : List (List Int) := (List.range n).map fun i => part32 d (o + 32 * i)
theorem part32_len {d : List Int} {o : Nat} (h : o + 32 ≤ d.length) : (part32 d o).length = 32 := by unfold part32; rw [List.length_take, List.length_drop]; omega
theorem part32_ok {d : List Int} (o : Nat) (h : bytesOk d) : bytesOk (part32 d o) := fun b hb => h b (List.mem_of_mem_drop (List.mem_of_mem_take hb))
theorem part32_key {d : List Int} {o : Nat} (h : o + 32 ≤ d.length) (hb : bytesOk d) : keyOk (part32 d o) := ⟨part32_len h, part32_ok o hb⟩
theorem keysN_len (d : List Int) (o n : Nat) : (keysN d o n).length = n := by simp [keysN]
theorem keysN_succ (d : List Int) (o n : Nat) : keysN d o (n + 1) = keysN d o n ++ [part32 d (o + 32 * n)] := by unfold keysN; rw [List.range_succ, List.map_append]; rfl
theorem keysN_ok {d : List Int} {o n : Nat} (h : o + 32 * n ≤ d.length) (hb : bytesOk d) : ∀ k ∈ keysN d o n, keyOk k := by
  intro k hk
  simp only [keysN, List.mem_map, List.mem_range] at hk
  obtain ⟨i, hi, rfl⟩ := hk
  exact part32_key (by omega) hb
def nodeOk (d : List Int) : Prop := 65 ≤ d.length ∧ 65 + (d.getD 64 0).toNat ≤ d.length ∧ 1 ≤ (d.getD 64 0).toNat ∧ (d.getD 64 0).toNat ≤ 24 ∧ d.length - (65 + (d.getD 64 0).toNat) ≤ 64
instance (d : List Int) : Decidable (nodeOk d) := inferInstanceAs (Decidable (_ ∧ _))
def nodeName (d : List Int) : List Int := (d.drop 65).take (d.getD 64 0).toNat
def zeroNode : Array Value := (List.replicate 64 (Value.int .u8 0) ++ [Value.string ⟨#[]⟩, Value.string ⟨#[]⟩]).toArray
theorem strOf_size (l : List Int) : (strOf l).size = l.length := by
  have := congrArg List.length (strOf_data l ByteArray.empty)
  simp only [List.length_append, List.length_map, Array.length_toList] at this
  have h0 : ByteArray.empty.data.size = 0 := rfl
  have h1 : (strOf l).size = (strOf l).data.size := rfl
  unfold strOf at h1 ⊢
  omega
theorem run_mkEntry (a b : ByteArray) (w : World) : (Instr.build ty_impl_Entry #[(0, (Value.string a)), (1, (Value.string b))]).run Tryz.prog w = .ok (.agg #[Value.string a, Value.string b]) w := by kernel_rfl
theorem run_mkNodeF (f g : Nat → Value) (a b : ByteArray) (w : World) : (Instr.build ty_impl_MapNode #[(0, (.agg ((List.range 32).map f).toArray)), (1, (.agg ((List.range 32).map g).toArray)), (2, (.agg #[Value.string a, Value.string b]))]).run Tryz.prog w = .ok (.agg ((List.range 32).map f ++ (List.range 32).map g ++ [Value.string a, Value.string b]).toArray) w := by kernel_rfl
theorem list32 {l : List Value} (h : l.length = 32) : l = (List.range 32).map fun i => l.getD i default := by
  apply List.ext_getElem?
  intro i
  rcases Nat.lt_or_ge i 32 with hi | hi
  · simp [hi, List.getD, List.getElem?_eq_getElem (show i < l.length by omega)]
  · rw [List.getElem?_eq_none (by omega), List.getElem?_eq_none (by simp; omega)]
theorem run_mkNode {l r : List Value} (hl : l.length = 32) (hr : r.length = 32) (a b : ByteArray) (w : World) : (Instr.build ty_impl_MapNode #[(0, (.agg l.toArray)), (1, (.agg r.toArray)), (2, (.agg #[Value.string a, Value.string b]))]).run Tryz.prog w = .ok (.agg (l ++ r ++ [Value.string a, Value.string b]).toArray) w := by
  rw [list32 hl, list32 hr]
  exact run_mkNodeF _ _ a b w

theorem c_within (a b c : Int) : RetP Tryz.prog n_impl_within [.int .i64 a, .int .i64 b, .int .i64 c] [.bool] (decide (a ≥ b ∧ a ≤ c)) := fun w => impl_within_calls a b c (by
  unfold impl_within
  refine r_if (a ≥ b) rfl (fun h1 => r_retP ?_) (fun h1 => r_retP ?_)
  · by_cases h2 : a ≤ c <;> simp [h1, h2, valL, embL, Sh.emb]
  · simp [h1, valL, embL, Sh.emb])
theorem c_l00In (a b c : Int) : RetP Tryz.prog n_spec_l00In [.int .i64 a, .int .i64 b, .int .i64 c] [.bool] (decide (a ≥ b ∧ a ≤ c)) := fun w => spec_l00In_calls a b c (by
  unfold spec_l00In
  refine r_if (a ≥ b) rfl (fun h1 => r_retP ?_) (fun h1 => r_retP ?_)
  · by_cases h2 : a ≤ c <;> simp [h1, h2, valL, embL, Sh.emb]
  · simp [h1, valL, embL, Sh.emb])
def nameOk (n : Nat) : Bool := decide (1 ≤ n ∧ n ≤ 24)
theorem c_isName (x : ByteArray) : RetP Tryz.prog n_impl_isName [Value.string x] [.bool] (nameOk x.size) := fun w => impl_isName_calls x (by
  unfold impl_isName
  refine r_callp (c_within _ 1 24) ?_
  refine r_retP ?_
  have : decide ((x.size : Int) ≥ 1 ∧ (x.size : Int) ≤ 24) = nameOk x.size := by unfold nameOk; congr 1; apply propext; omega
  rw [this]
  rfl)
theorem c_l04Name (x : ByteArray) : RetP Tryz.prog n_spec_l04Name [Value.string x] [.bool] (nameOk x.size) := fun w => spec_l04Name_calls x (by
  unfold spec_l04Name
  refine r_callp (c_l00In _ 1 24) ?_
  refine r_retP ?_
  have : decide ((x.size : Int) ≥ 1 ∧ (x.size : Int) ≤ 24) = nameOk x.size := by unfold nameOk; congr 1; apply propext; omega
  rw [this]
  rfl)
theorem c_ValidEntry (a b : ByteArray) (w : World) : Ret Tryz.prog n_impl_ValidEntry [.agg #[Value.string a, Value.string b]] w [.bool] (fun r _ => r = (nameOk a.size && decide (b.size ≤ 64))) := impl_ValidEntry_calls _ (by
  unfold impl_ValidEntry
  refine r_new (At.refl w) fun b1 w1 h => ?_
  refine r_ld h 0 rfl (add_lit _ _ _) a (by simp [Sh.emb]) (by simp [Value.cells, Sh.emb]) ?_
  refine r_callp (c_isName a) ?_
  refine r_cond (fun hn => ?_) (fun hn => ?_)
  · refine r_ld h 0 rfl (add_lit _ _ _) b (by simp [Sh.emb]) (by simp [Value.cells, Sh.emb]) ?_
    refine r_ret h _ rfl ?_
    rw [hn, Bool.true_and]
    congr 1
    apply propext
    omega
  · refine r_ret h _ rfl ?_
    rw [hn, Bool.false_and])
end Go.Proofs.YtaadgdbegpmlmaaGreat

namespace Go.Proofs.YtaadgdbegpmlmaaGreat
open Go.Sx Go.RowKit

theorem keysN_flat {d : List Int} {n : Nat} (h : d.length = 32 * n) : (keysN d 0 n).flatMap u8s = u8s d := by
  rw [flatU8]
  congr 1
  have : ∀ m, m ≤ n → (keysN d 0 m).flatten = d.take (32 * m) := by
    intro m
    induction m with
    | zero => simp [keysN]
    | succ m ih =>
      intro hm
      rw [keysN_succ, List.flatten_append, ih (by omega)]
      simp only [List.flatten_cons, List.flatten_nil, List.append_nil, part32]
      rw [Nat.zero_add, show 32 * (m + 1) = 32 * m + 32 by omega, List.take_add]
  rw [this n (Nat.le_refl _), List.take_of_length_le (by omega)]
theorem flat_len {ks : List (List Int)} (h : ∀ k ∈ ks, keyOk k) : ks.flatten.length = 32 * ks.length := by
  induction ks with
  | nil => rfl
  | cons k r ih =>
    rw [List.flatten_cons, List.length_append, (h k (by simp)).1, ih (fun x hx => h x (by simp [hx])), List.length_cons]
    omega
def RdKeyS (w : World) (s : Sl) (ks : List (List Int)) : Prop := KsR w s ks
theorem RdKeyS.at {w w' : World} {ls : List Blk} {s : Sl} {ks : List (List Int)} (h : RdKeyS w s ks) (hA : At w w' ls) : RdKeyS w' s ks := KsR.at h hA
def OwnKeyS (s : Sl) (ks : List (List Int)) (L : List Blk) : Prop := OwnS ty_impl_Key 32 s (ks.flatMap u8s) L ∧ ∀ k ∈ ks, keyOk k
theorem OwnKeyS.rd {w0 w : World} {s : Sl} {ks : List (List Int)} {L ls : List Blk} (h : OwnKeyS s ks L) (hA : At w0 w (L ++ ls)) : RdKeyS w s ks := ownS_ks h.1 hA (List.sublist_append_left _ _) h.2
def RawKeyS (w : World) (s : Sl) (ks : List (List Int)) : Prop := KsR w s ks ∧ s.n ≤ s.c ∧ s.c ≤ maxLen
theorem RawKeyS.rd {w : World} {s : Sl} {ks : List (List Int)} (h : RawKeyS w s ks) : RdKeyS w s ks := h.1
def sizeKeyS (ks : List (List Int)) : Nat := ks.length
def msizeKeyS (ks : List (List Int)) : Nat := 32 * ks.length
def markKeyS (k : Int) (ks : List (List Int)) : List (List Int) := keysN (marks k (32 * ks.length)) 0 ks.length
theorem OwnKeyS.none : OwnKeyS ⟨none, 0, 0⟩ [] [] := ⟨OwnS.nil _ _, by simp⟩
theorem c_szKeySV {w : World} {s : Sl} {ks : List (List Int)} (h : RawKeyS w s ks) {w1 : World} (_ : Below w.heap.size w w1) (m : Int) (hm : 0 ≤ m ∧ m ≤ 1073741824) : Ret Tryz.prog n_laws_szKeyS [.slice s.a s.n s.c, .int .i64 m] w1 [.int .i64] (fun x _ => x = if (sizeKeyS ks : Int) ≤ m then m - sizeKeyS ks else -1) := laws_szKeyS_calls s m (by
  unfold laws_szKeyS
  have hn := h.1.n
  have h2 := h.2
  unfold maxLen at h2
  rw [w64 (by omega) (by omega)]
  refine r_if (m - (s.n : Int) < 0) rfl (fun h => ?_) (fun h => ?_)
  · exact r_ret (At.refl w1) (-1 : Int) rfl (by rw [if_neg (by unfold sizeKeyS; omega)])
  · exact r_ret (At.refl w1) (m - (s.n : Int)) rfl (by rw [if_pos (by unfold sizeKeyS; omega)]; unfold sizeKeyS; rw [hn]))

theorem c_toKeySV {w : World} {s : Sl} {ks : List (List Int)} (h : RdKeyS w s ks) (hz : sizeKeyS ks ≤ 1073741824) : Ret Tryz.prog n_laws_toKeyS [.slice s.a s.n s.c] w [.slice] (fun r w' => ∃ L, At w w' L ∧ OwnKeyS r ks L) := laws_toKeyS_calls s (by
  unfold laws_toKeyS
  have hs : KsR w s ks := h
  have hn := hs.n
  unfold sizeKeyS at hz
  refine r_mkO T_sl_Key (At.refl w) (by omega) (by omega) fun y xs L w1 h hO hyn ⟨p, hp⟩ => ?_
  refine r_loop (σ := Int) (fun i w' => ∃ (j : Nat) (xs : List Value) (L : List Blk), i = j ∧ j ≤ ks.length ∧ OwnS ty_impl_Key 32 y xs L ∧ xs.take (j * 32) = (ks.take j).flatMap u8s ∧ At w w' (L ++ [])) (fun i _ => (s.n - i).toNat) 0 rfl
    ⟨0, xs, L, rfl, by omega, hO, by simp, h⟩ ?_
  rintro i w2 ⟨j, xs, L, rfl, hj, hO, htk, h⟩
  refine r_any fun _ => ?_
  have hxl := hO.1
  refine r_if ((j : Int) < (s.n : Int)) rfl (fun hlt => ?_) (fun hge => ?_)
  · obtain ⟨k, q, hk, hkm, hq, hko, hkl⟩ := (hs.at h.nil).get (i := j) (by omega)
    refine r_ix q hq (by omega) (by omega) ?_
    refine r_ldN (u8s k).toArray (by simp only [Int.toNat_natCast]; exact hkl) ?_
    refine r_call h (c_toKey hko.1 _) fun r w3 h _ hr => ?_
    subst hr
    refine r_ix p hp (by omega) (by omega) ?_
    refine r_stO h hO hp (j * 32) (by simp) (by simp [Value.cells, hko.1]) (by omega) (by simpa [Value.cells] using u8s_one) fun w4 L4 h4 hO4 => ?_
    refine ⟨((j + 1 : Nat) : Int), by rw [w64 (by omega) (by omega)]; rfl, ⟨j + 1, _, L4, rfl, by omega, hO4, ?_, h4⟩, by omega⟩
    have hvl : (Value.agg (u8s k).toArray).cells.toList.length = 32 := by simp [Value.cells, hko.1]
    rw [Nat.add_mul, Nat.one_mul, seg_take (by omega) hvl, htk, take_succ_get hk, List.flatMap_append]
    simp [Value.cells]
  · have : j = ks.length := by omega
    subst this
    rw [List.take_of_length_le (by omega), List.take_of_length_le (Nat.le_refl _)] at htk
    subst htk
    exact r_ret h.nil y rfl ⟨L, by simpa using h, hO, hs.ok⟩)

theorem c_eqKeySV {w : World} {s t : Sl} {ks : List (List Int)} (h : RdKeyS w s ks) (h' : RdKeyS w t ks) (hz : sizeKeyS ks ≤ 1073741824) : Ret Tryz.prog n_laws_eqKeyS [.slice s.a s.n s.c, .slice t.a t.n t.c] w [.bool] (fun x _ => x = true) := laws_eqKeyS_calls _ _ (by
  unfold laws_eqKeyS
  have hs : KsR w s ks := h
  have ht : KsR w t ks := h'
  have h1 := hs.n
  have h2 := ht.n
  unfold sizeKeyS at hz
  refine r_ne (fun hh => by omega) fun _ => ?_
  refine r_loop (σ := Int) (fun i w' => ∃ j : Nat, i = j ∧ j ≤ ks.length ∧ At w w' []) (fun i _ => (s.n - i).toNat) 0 rfl ⟨0, rfl, by omega, At.refl w⟩ ?_
  rintro i w8 ⟨j, rfl, hj, h⟩
  refine r_any fun _ => ?_
  refine r_if ((j : Int) < (s.n : Int)) rfl (fun hlt => ?_) (fun hge => ?_)
  · refine r_draw h fun w3 h => ?_
    obtain ⟨k, q, hk, hkm, hq, hko, hkl⟩ := (hs.at h).get (i := j) (by omega)
    obtain ⟨k2, q2, hk2, _, hq2, _, hkl2⟩ := (ht.at h).get (i := j) (by omega)
    rw [hk] at hk2
    cases hk2
    refine r_ix q hq (by omega) (by omega) ?_
    refine r_ldN (u8s k).toArray (by simp only [Int.toNat_natCast]; exact hkl) ?_
    refine r_ix q2 hq2 (by omega) (by omega) ?_
    refine r_ldN (u8s k).toArray (by simp only [Int.toNat_natCast]; exact hkl2) ?_
    refine r_call h (c_eqKey_same hko.1 _) fun r w4 h _ hr => ?_
    subst hr
    refine r_false rfl ?_
    exact ⟨((j + 1 : Nat) : Int), by rw [w64 (by omega) (by omega)]; rfl, ⟨j + 1, rfl, by omega, h⟩, by omega⟩
  · exact r_ret h _ rfl rfl)

theorem marks_flat (k : Int) (ks : List (List Int)) : (markKeyS k ks).flatMap u8s = u8s (marks k (32 * ks.length)) := keysN_flat (marks_len _ _)
theorem markKeyS_len (k : Int) (ks : List (List Int)) : (markKeyS k ks).length = ks.length := keysN_len _ _ _
theorem markKeyS_ok (k : Int) (ks : List (List Int)) : ∀ x ∈ markKeyS k ks, keyOk x := keysN_ok (by rw [marks_len]; omega) (marks_ok _ _)

theorem c_markKeySV {w0 w : World} {ls L : List Blk} {s : Sl} {ks : List (List Int)} (hA : At w0 w (L ++ ls)) (hO : OwnKeyS s ks L) (k : Int) (h0 : 0 ≤ k) (hmax : k + msizeKeyS ks ≤ 4611686018427387904) :
    Calls Tryz.prog n_laws_markKeyS [.slice s.a s.n s.c, .int .i64 k].toArray w fun e w' => ∃ v, e = .returned v ∧ v = .int .i64 (k + msizeKeyS ks) ∧ ∃ L', At w0 w' (L' ++ ls) ∧ OwnKeyS s (markKeyS k ks) L' := laws_markKeyS_calls s k (by
  unfold laws_markKeyS
  obtain ⟨hO, hk⟩ := hO
  have hfl := flat_len hk
  have hn : s.n = ks.length := by have := hO.1; rw [flatU8, u8s_len, hfl] at this; omega
  unfold msizeKeyS at hmax ⊢
  have hfl' : ∀ t, t ≤ 32 * ks.length → (marks k t ++ ks.flatten.drop t).length = 32 * ks.length := fun t ht => by rw [List.length_append, marks_len, List.length_drop, hfl]; omega
  refine r_loop (σ := Int × Int) (fun i w' => ∃ (j : Nat) (L : List Blk), i = (k + ((32 * j : Nat) : Int), (j : Int)) ∧ j ≤ ks.length ∧ At w0 w' (L ++ ls) ∧ OwnS ty_impl_Key 32 s (u8s (marks k (32 * j) ++ ks.flatten.drop (32 * j))) L) (fun i _ => (s.n - i.2).toNat) (k, 0) rfl
    ⟨0, L, by simp, by omega, hA, by simpa [marks, flatU8] using hO⟩ ?_
  rintro i w4 ⟨j, L, rfl, hj, h, hO⟩
  refine r_any fun _ => ?_
  dsimp only
  refine r_if ((j : Int) < (s.n : Int)) rfl (fun hlt => ?_) (fun hge => ?_)
  · obtain ⟨p, hp⟩ := hO.addr (by omega)
    refine r_loop (σ := Int × Int) (fun i w' => ∃ (m : Nat) (L : List Blk), i = (k + ((32 * j + m : Nat) : Int), (m : Int)) ∧ m ≤ 32 ∧ At w0 w' (L ++ ls) ∧ OwnS ty_impl_Key 32 s (u8s (marks k (32 * j + m) ++ ks.flatten.drop (32 * j + m))) L) (fun i _ => (32 - i.2).toNat) (k + ((32 * j : Nat) : Int), 0) rfl
      ⟨0, L, by simp, by omega, h, hO⟩ ?_
    rintro i w5 ⟨m, L, rfl, hm, h, hO⟩
    refine r_any fun _ => ?_
    dsimp only
    refine r_if ((m : Int) < 32) rfl (fun hlt2 => ?_) (fun hge2 => ?_)
    · have hl := hfl' (32 * j + m) (by omega)
      refine r_ix p hp (by omega) (by omega) ?_
      refine r_ix _ rfl (by omega) (by omega) ?_
      refine r_stO h hO hp (32 * j + m) (by rw [Go.Deep.add_add]; simp only [Int.toNat_natCast]; congr 1; omega) (by simp [Value.cells]) (by rw [u8s_len, hl]; omega) (by simp [Value.cells, oneC]) fun w6 L6 h6 hO6 => ?_
      refine ⟨(k + ((32 * j + (m + 1) : Nat) : Int), ((m + 1 : Nat) : Int)), ?_, ⟨m + 1, L6, rfl, by omega, h6, ?_⟩, by dsimp only; omega⟩
      · rw [w64 (by omega) (by omega), w64 (by omega) (by omega)]
        simp only [embL, Sh.emb]
        congr 2
        omega
      · have e1 : (u8s (marks k (32 * j + m) ++ ks.flatten.drop (32 * j + m))).take (32 * j + m) = u8s (marks k (32 * j + m)) := by simp [u8s]
        have e2 : (u8s (marks k (32 * j + m) ++ ks.flatten.drop (32 * j + m))).drop (32 * j + m + 1) = u8s (ks.flatten.drop (32 * j + (m + 1))) := by
          simp only [u8s, ← List.map_drop]
          rw [List.drop_append, marks_len, List.drop_eq_nil_of_le (by rw [marks_len]; omega), List.nil_append, List.drop_drop]
          congr 2
          omega
        rw [e1, e2, wrapu8] at hO6
        rw [show 32 * j + (m + 1) = 32 * j + m + 1 by omega, marks_succ]
        simpa [u8s, Value.cells, Nat.add_assoc] using hO6
    · have hm32 : m = 32 := by omega
      subst hm32
      refine ⟨(k + ((32 * (j + 1) : Nat) : Int), ((j + 1 : Nat) : Int)), ?_, ⟨j + 1, L, rfl, by omega, h, ?_⟩, by dsimp only; omega⟩
      · rw [w64 (by omega) (by omega)]
        simp only [embL, Sh.emb]
        congr 2
      · rw [show 32 * (j + 1) = 32 * j + 32 by omega]
        exact hO
  · have hjl : j = ks.length := by omega
    subst hjl
    rw [List.drop_of_length_le (by omega), List.append_nil] at hO
    exact r_retR ⟨rfl, L, h, by rw [marks_flat]; exact hO, markKeyS_ok k ks⟩)

theorem c_heldKeySV {w : World} {s : Sl} {ks : List (List Int)} (k : Int) (h : RdKeyS w s (markKeyS k ks)) (h0 : 0 ≤ k) (hmax : k + msizeKeyS ks ≤ 4611686018427387904) : Ret Tryz.prog n_laws_heldKeyS [.slice s.a s.n s.c, .int .i64 k] w [.int .i64] (fun x _ => x = k + msizeKeyS ks) := laws_heldKeyS_calls s k (by
  unfold laws_heldKeyS
  have hs : KsR w s (markKeyS k ks) := h
  have hn := hs.n
  rw [markKeyS_len] at hn
  unfold msizeKeyS at hmax ⊢
  refine r_loop (σ := Int × Int) (fun i w' => ∃ (j : Nat), i = (k + ((32 * j : Nat) : Int), (j : Int)) ∧ j ≤ ks.length ∧ At w w' []) (fun i _ => (s.n - i.2).toNat) (k, 0) rfl
    ⟨0, by simp, by omega, At.refl w⟩ ?_
  rintro i w4 ⟨j, rfl, hj, h⟩
  refine r_any fun _ => ?_
  dsimp only
  refine r_if ((j : Int) < (s.n : Int)) rfl (fun hlt => ?_) (fun hge => ?_)
  · refine r_loop (σ := Int × Int) (fun i w' => ∃ (m : Nat), i = (k + ((32 * j + m : Nat) : Int), (m : Int)) ∧ m ≤ 32 ∧ At w w' []) (fun i _ => (32 - i.2).toNat) (k + ((32 * j : Nat) : Int), 0) rfl
      ⟨0, by simp, by omega, h⟩ ?_
    rintro i w5 ⟨m, rfl, hm, h⟩
    refine r_any fun _ => ?_
    dsimp only
    refine r_if ((m : Int) < 32) rfl (fun hlt2 => ?_) (fun hge2 => ?_)
    · have hcell : ((markKeyS k ks).flatMap u8s)[32 * j + m]? = some (.int .u8 ((k + ((32 * j + m : Nat) : Int)) % 256)) := by
        rw [marks_flat, u8s_get (by rw [marks_len]; omega), marks_get k (by omega)]
      obtain ⟨q, hq, hc⟩ := (hs.at h).of.sl.cell _ _ hcell
      refine r_ix q hq (by omega) (by omega) ?_
      refine r_ix _ rfl (by omega) (by omega) ?_
      refine r_ldN (sh := .int .u8) ((k + ((32 * j + m : Nat) : Int)) % 256) (by
        rw [Go.Deep.add_add]
        simp only [Int.toNat_natCast]
        rw [show j * 32 + m * 1 = 32 * j + m by omega]
        exact hc) ?_
      rw [wrapu8]
      refine r_ne (fun hh => absurd rfl hh) fun _ => ?_
      refine ⟨(k + ((32 * j + (m + 1) : Nat) : Int), ((m + 1 : Nat) : Int)), ?_, ⟨m + 1, rfl, by omega, h⟩, by dsimp only; omega⟩
      rw [w64 (by omega) (by omega), w64 (by omega) (by omega)]
      simp only [embL, Sh.emb]
      congr 2
      omega
    · have hm32 : m = 32 := by omega
      subst hm32
      refine ⟨(k + ((32 * (j + 1) : Nat) : Int), ((j + 1 : Nat) : Int)), ?_, ⟨j + 1, rfl, by omega, h⟩, by dsimp only; omega⟩
      rw [w64 (by omega) (by omega)]
      simp only [embL, Sh.emb]
      congr 2
  · have hjl : j = ks.length := by omega
    subst hjl
    exact r_ret h _ rfl rfl)

def i64s (l : List Int) : List Value := l.map (Value.int .i64)
theorem i64s_len (l : List Int) : (i64s l).length = l.length := by simp [i64s]
theorem i64s_get {l : List Int} {i : Nat} (h : i < l.length) : (i64s l)[i]? = some (.int .i64 (l.getD i 0)) := by simp [i64s, List.getD, h]
def RdInt64S (w : World) (s : Sl) (l : List Int) : Prop := SlAt w s 1 (i64s l)
theorem RdInt64S.n {w : World} {s : Sl} {l : List Int} (h : RdInt64S w s l) : s.n = l.length := by have := SlAt.len h; rw [i64s_len] at this; omega
theorem RdInt64S.at {w w' : World} {ls : List Blk} {s : Sl} {l : List Int} (h : RdInt64S w s l) (hA : At w w' ls) : RdInt64S w' s l := SlAt.below h hA.below
theorem RdInt64S.get {w : World} {s : Sl} {l : List Int} (h : RdInt64S w s l) {i : Nat} (hi : i < l.length) : ∃ p, s.a = some p ∧ w.cell? (p.add i) = some (.int .i64 (l.getD i 0)) := SlAt.cell h i _ (i64s_get hi)
def OwnInt64S (s : Sl) (l : List Int) (L : List Blk) : Prop := OwnS ty_int64 1 s (i64s l) L
theorem OwnInt64S.rd {w0 w : World} {s : Sl} {l : List Int} {L ls : List Blk} (h : OwnInt64S s l L) (hA : At w0 w (L ++ ls)) : RdInt64S w s l := OwnS.sl h hA (List.sublist_append_left _ _)
theorem OwnInt64S.none : OwnInt64S ⟨none, 0, 0⟩ [] [] := OwnS.nil _ _
end Go.Proofs.YtaadgdbegpmlmaaGreat
