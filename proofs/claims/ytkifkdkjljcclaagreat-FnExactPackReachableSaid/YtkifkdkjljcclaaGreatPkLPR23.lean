/- What a blob links to: keys that lie in bytes; a map's node read. Both sides. -/
import Derived.Test.YtkifkdkjljcclaaGreatPkLPR22
namespace Go.Proofs.YtkifkdkjljcclaaGreat
open Go.Sx Go.RowKit

def part32 (d : List Int) (o : Nat) : List Int := (d.drop o).take 32
def keysN (d : List Int) (o n : Nat) : List (List Int) := (List.range n).map fun i => part32 d (o + 32 * i)
theorem part32_len {d : List Int} {o : Nat} (h : o + 32 ≤ d.length) : (part32 d o).length = 32 := by unfold part32; rw [List.length_take, List.length_drop]; omega
theorem part32_ok {d : List Int} (o : Nat) (h : bytesOk d) : bytesOk (part32 d o) := fun b hb => h b (List.mem_of_mem_drop (List.mem_of_mem_take hb))
theorem part32_key {d : List Int} {o : Nat} (h : o + 32 ≤ d.length) (hb : bytesOk d) : keyOk (part32 d o) := ⟨part32_len h, part32_ok o hb⟩
theorem keysN_len (d : List Int) (o n : Nat) : (keysN d o n).length = n := by simp [keysN]
theorem keysN_succ (d : List Int) (o n : Nat) : keysN d o (n + 1) = keysN d o n ++ [part32 d (o + 32 * n)] := by unfold keysN; rw [List.range_succ, List.map_append]; rfl
theorem keysN_ok {d : List Int} {o n : Nat} (h : o + 32 * n ≤ d.length) (hb : bytesOk d) : ∀ k ∈ keysN d o n, keyOk k := by
  intro k hk
  simp only [keysN, List.mem_map, List.mem_range] at hk
  obtain ⟨i, hi, rfl⟩ := hk
  exact part32_key (by omega) hb
theorem part32_drop (d : List Int) (o m : Nat) : part32 (d.drop m) o = part32 d (m + o) := by unfold part32; rw [List.drop_drop]
theorem part32_take {d : List Int} {o m : Nat} (h : o + 32 ≤ m) : part32 (d.take m) o = part32 d o := by unfold part32; rw [List.drop_take, List.take_take, Nat.min_eq_left (by omega)]
theorem keysN_sub {d : List Int} (o n : Nat) : keysN ((d.drop o).take (32 * n)) 0 n = keysN d o n := by
  unfold keysN
  refine List.map_congr_left fun i hi => ?_
  have := List.mem_range.1 hi
  rw [part32_take (by omega), part32_drop]
  congr 1
  omega

theorem c_keysIn {w : World} {s : Sl} {d : List Int} (hs : BSl w s d) (hmax : d.length ≤ 1073741824) : Ret Tryz.prog n_impl_keysIn [.slice s.a s.n s.c] w [.slice] (fun r w' => SlO w w' [] ty_impl_Key 32 r ((keysN d 0 (d.length / 32)).flatMap u8s) ∧ r.n = d.length / 32) := impl_keysIn_calls s (by
  unfold impl_keysIn
  have hn := hs.n
  refine r_bs0 T_sl_Key (At.refl w) fun o w1 ho hon => ?_
  refine r_loop (σ := Sl × Sl) (fun i w' => ∃ k : Nat, 32 * k ≤ d.length ∧ SlAt w i.1 1 (u8s (d.drop (32 * k))) ∧ i.1.n ≤ i.1.c ∧ SlO w w' [] ty_impl_Key 32 i.2 ((keysN d 0 k).flatMap u8s) ∧ i.2.n = k) (fun i _ => i.1.n) (s, o) rfl
    ⟨0, by omega, by simpa using hs.sl, hs.cap, by simpa [keysN] using ho, hon⟩ ?_
  rintro ⟨x, o1⟩ w2 ⟨k, hk, hd, hdc, h, hok⟩
  dsimp only at hd hdc h hok
  refine r_any fun _ => ?_
  dsimp only
  have hdn := sl_len hd
  rw [List.length_drop] at hdn
  refine r_if ((x.n : Int) ≥ 32) rfl (fun hge => ?_) (fun hlt => ?_)
  · have h32 : 32 ≤ (u8s (d.drop (32 * k))).length := by simp; omega
    obtain ⟨p, hp, _⟩ := hd.cell 0 _ (List.getElem?_eq_getElem (by omega))
    refine r_pur p (fun w' => by rw [hp]; exact run_arrayAt (n := 32) (e := ty_uint8) (by kernel_rfl) (by omega) w') ?_
    refine r_ldO h.at_ _ (hd.agg hp h32) (by simp) ?_
    have hcut : (u8s (d.drop (32 * k))).take 32 = u8s (part32 d (32 * k)) := by simp only [part32, u8s, List.map_take, List.map_drop]
    rw [hcut]
    have hv32 : (u8s (part32 d (32 * k))).length = 32 := by rw [u8s_len]; exact part32_len (by omega)
    refine r_push T_sl_Key h (v := .agg (u8s (part32 d (32 * k))).toArray) (by simpa [Value.cells] using hv32) (by omega) (by simpa [Value.cells] using u8s_one) (by omega) (by omega) fun o2 w3 h3 hn3 => ?_
    refine r_slS hd (by omega) 32 x.n rfl rfl (by omega) (by omega) hdc fun d2 hn2 hc2 hd2 => ?_
    have hd2 : SlAt w d2 1 (u8s (d.drop (32 * (k + 1)))) := by
      have e : ((u8s (d.drop (32 * k))).drop (32 * 1)).take ((x.n - 32) * 1) = u8s (d.drop (32 * (k + 1))) := by
        simp only [u8s, ← List.map_drop, ← List.map_take, List.drop_drop, Nat.mul_one]
        rw [List.take_of_length_le (by rw [List.length_drop]; omega), show 32 * k + 32 = 32 * (k + 1) by omega]
      rwa [e] at hd2
    refine ⟨(d2, o2), rfl, ⟨k + 1, by omega, hd2, by dsimp only; omega, ?_, by dsimp only; omega⟩, by dsimp only; omega⟩
    rw [keysN_succ, List.flatMap_append, Nat.zero_add]
    simpa [Value.cells] using h3
  · have : d.length / 32 = k := by omega
    rw [this]
    exact r_ret h.at_ o1 rfl ⟨h, hok⟩)

theorem c_l05Keys {w : World} {s : Sl} {d : List Int} (hs : BSl w s d) (o n : Nat) (hon : o + 32 * n ≤ d.length) (hmax : d.length ≤ 1073741824) : Ret Tryz.prog n_spec_l05Keys [.slice s.a s.n s.c, .int .i64 (o : Int), .int .i64 (n : Int)] w [.slice] (fun r w' => SlO w w' [] ty_impl_Key 32 r ((keysN d o n).flatMap u8s) ∧ r.n = n) := spec_l05Keys_calls s _ _ (by
  unfold spec_l05Keys
  have hn := hs.n
  refine r_bs0 T_sl_Key (At.refl w) fun y w1 hy hyn => ?_
  refine r_loop (σ := Sl × Int) (fun i w' => ∃ k : Nat, i.2 = k ∧ k ≤ n ∧ SlO w w' [] ty_impl_Key 32 i.1 ((keysN d o k).flatMap u8s) ∧ i.1.n = k) (fun i _ => (n - i.2).toNat) (y, 0) rfl
    ⟨0, rfl, by omega, by simpa [keysN] using hy, hyn⟩ ?_
  rintro ⟨x, i⟩ w2 ⟨k, hik, hk, h, hxn⟩
  dsimp only at hik h hxn
  subst hik
  refine r_any fun _ => ?_
  dsimp only
  refine r_if ((k : Int) < (n : Int)) rfl (fun hlt => ?_) (fun hge => ?_)
  · have hp32 : (part32 d (o + 32 * k)).length = 32 := part32_len (by omega)
    obtain ⟨L, hO, hA⟩ := h.split
    refine r_new hA fun b9 w3 h => ?_
    refine r_stA h 0 rfl rfl (by simp) (by simp [Value.cells]) (by simp [oneC]) fun w4 h => ?_
    obtain ⟨Z, hZ⟩ : ∃ Z, Z = List.replicate 32 (Value.int .u8 0) := ⟨_, rfl⟩
    have hZ8 : Z.length = 32 := by rw [hZ, List.length_replicate]
    have hZA : Z.toArray = Array.replicate 32 (Value.int .u8 0) := by rw [hZ]; rfl
    have hlen : (u8s (part32 d (o + 32 * k))).length = Z.length := by rw [u8s_len, hp32, hZ8]
    have e1 : IntKind.wrap .i64 (32 * (k : Int)) = ((32 * k : Nat) : Int) := by rw [w64 (by omega) (by omega)]; omega
    have e2 : IntKind.wrap .i64 ((o : Int) + ((32 * k : Nat) : Int)) = ((o + 32 * k : Nat) : Int) := by rw [w64 (by omega) (by omega)]; omega
    rw [e1, e2]
    refine r_loop (σ := Int) (fun i w' => ∃ j : Nat, i = j ∧ j ≤ 32 ∧ At w w' ((b9, mix (u8s (part32 d (o + 32 * k))) Z j, ty_impl_Key) :: (L ++ []))) (fun i _ => (32 - i).toNat) 0 rfl
      ⟨0, rfl, by omega, by rw [mix_zero, hZA]; exact h⟩ ?_
    rintro i w8 ⟨j, rfl, hj, h⟩
    refine r_any fun _ => ?_
    refine r_if ((j : Int) < 32) rfl (fun hlt2 => ?_) (fun hge2 => ?_)
    · have e3 : IntKind.wrap .i64 (((o + 32 * k : Nat) : Int) + (j : Int)) = ((o + 32 * k + j : Nat) : Int) := by rw [w64 (by omega) (by omega)]; omega
      rw [e3]
      obtain ⟨p, hp, hc⟩ := (hs.sl.below h.below).cell (o + 32 * k + j) (.int .u8 (d.getD (o + 32 * k + j) 0)) (u8s_get (by omega))
      refine r_ix p hp (by omega) (by omega) ?_
      refine r_ldN (sh := .int .u8) (d.getD (o + 32 * k + j) 0) (by simp only [Int.toNat_natCast, Nat.mul_one]; exact hc) ?_
      refine r_ix ⟨b9, 0, none⟩ rfl (by omega) (by omega) ?_
      refine r_st h 0 rfl (add_lit _ _ _) (by rw [mix_size hlen (by simp; omega)]; simp only [Int.toNat_natCast, u8s_len]; omega) rfl fun w9 h => ?_
      refine ⟨((j + 1 : Nat) : Int), by rw [w64 (by omega) (by omega)]; rfl, ⟨j + 1, rfl, by omega, ?_⟩, by omega⟩
      have hgd : (part32 d (o + 32 * k)).getD j 0 = d.getD (o + 32 * k + j) 0 := by
        unfold part32
        simp only [List.getD, List.getElem?_take, List.getElem?_drop]
        rw [if_pos (by omega)]
      have hset := mix_set (A := u8s (part32 d (o + 32 * k))) (B := Z) hlen (k := j) (v := .int .u8 (d.getD (o + 32 * k + j) 0)) (by rw [← hgd]; exact u8s_get (by omega))
      rw [← hset]
      simp only [Int.toNat_natCast, Nat.zero_add, Nat.mul_one, List.set_cons_zero] at h
      exact h
    · have : j = 32 := by omega
      subst this
      have e8 : mix (u8s (part32 d (o + 32 * k))) Z 32 = (u8s (part32 d (o + 32 * k))).toArray := by
        have := mix_all (A := u8s (part32 d (o + 32 * k))) (B := Z) (by omega)
        rwa [u8s_len, hp32] at this
      rw [e8] at h
      refine r_ldA h 0 rfl rfl (by simp [hp32]) ?_
      have hS := hO.slo (At.tail h)
      refine r_push T_sl_Key hS (v := .agg (u8s (part32 d (o + 32 * k))).toArray) (by simp [Value.cells, hp32]) (by omega) (by simpa [Value.cells] using u8s_one) (by omega) (by omega) fun o2 w9 h9 hn9 => ?_
      refine ⟨(o2, ((k + 1 : Nat) : Int)), by rw [w64 (by omega) (by omega)]; rfl, ⟨k + 1, rfl, by omega, ?_, by dsimp only; omega⟩, by dsimp only; omega⟩
      rw [keysN_succ, List.flatMap_append]
      simpa [Value.cells] using h9
  · have : k = n := by omega
    subst this
    exact r_ret h.at_ x rfl ⟨h, hxn⟩)

def nodeOk (d : List Int) : Prop := 65 ≤ d.length ∧ 65 + (d.getD 64 0).toNat ≤ d.length ∧ 1 ≤ (d.getD 64 0).toNat ∧ (d.getD 64 0).toNat ≤ 24 ∧ d.length - (65 + (d.getD 64 0).toNat) ≤ 64
instance (d : List Int) : Decidable (nodeOk d) := inferInstanceAs (Decidable (_ ∧ _))
def nodeName (d : List Int) : List Int := (d.drop 65).take (d.getD 64 0).toNat
def nodeValue (d : List Int) : List Int := d.drop (65 + (d.getD 64 0).toNat)
def nodeCells (d : List Int) : List Value := u8s (part32 d 0) ++ u8s (part32 d 32) ++ [Value.string (strOf (nodeName d)), Value.string (strOf (nodeValue d))]
def zeroNode : Array Value := (List.replicate 64 (Value.int .u8 0) ++ [Value.string ⟨#[]⟩, Value.string ⟨#[]⟩]).toArray
theorem zeroNode_one : ∀ v ∈ zeroNode.toList, oneC v = true := by
  intro v hv
  simp only [zeroNode, List.mem_append, List.mem_replicate, List.mem_cons, List.not_mem_nil, or_false] at hv
  rcases hv with ⟨_, rfl⟩ | rfl | rfl <;> rfl
theorem nodeCells_len {d : List Int} (h : 64 ≤ d.length) : (nodeCells d).length = 66 := by unfold nodeCells; simp only [List.length_append, u8s_len, part32_len (show 0 + 32 ≤ d.length by omega), part32_len (show 32 + 32 ≤ d.length by omega)]; rfl
theorem nodeCells_one (d : List Int) : ∀ v ∈ nodeCells d, oneC v = true := by
  intro v hv
  simp only [nodeCells, List.mem_append, List.mem_cons, List.not_mem_nil, or_false] at hv
  rcases hv with (h | h) | rfl | rfl
  · exact u8s_one v h
  · exact u8s_one v h
  · rfl
  · rfl
theorem strOf_size (l : List Int) : (strOf l).size = l.length := by
  have := congrArg List.length (strOf_data l ByteArray.empty)
  simp only [List.length_append, List.length_map, Array.length_toList] at this
  have h0 : ByteArray.empty.data.size = 0 := rfl
  have h1 : (strOf l).size = (strOf l).data.size := rfl
  unfold strOf at h1 ⊢
  omega
theorem run_noNode (w : World) : (Instr.build ty_impl_MapNode #[]).run Tryz.prog w = .ok (.agg zeroNode) w := by kernel_rfl
theorem run_mkEntry (a b : ByteArray) (w : World) : (Instr.build ty_impl_Entry #[(0, (Value.string a)), (1, (Value.string b))]).run Tryz.prog w = .ok (.agg #[Value.string a, Value.string b]) w := by kernel_rfl
theorem run_mkNodeF (f g : Nat → Value) (a b : ByteArray) (w : World) : (Instr.build ty_impl_MapNode #[(0, (.agg ((List.range 32).map f).toArray)), (1, (.agg ((List.range 32).map g).toArray)), (2, (.agg #[Value.string a, Value.string b]))]).run Tryz.prog w = .ok (.agg ((List.range 32).map f ++ (List.range 32).map g ++ [Value.string a, Value.string b]).toArray) w := by kernel_rfl
theorem list32 {l : List Value} (h : l.length = 32) : l = (List.range 32).map fun i => l.getD i default := by
  apply List.ext_getElem?
  intro i
  rcases Nat.lt_or_ge i 32 with hi | hi
  · simp [hi, List.getD, List.getElem?_eq_getElem (show i < l.length by omega)]
  · rw [List.getElem?_eq_none (by omega), List.getElem?_eq_none (by simp; omega)]
theorem run_mkNode {l r : List Value} (hl : l.length = 32) (hr : r.length = 32) (a b : ByteArray) (w : World) : (Instr.build ty_impl_MapNode #[(0, (.agg l.toArray)), (1, (.agg r.toArray)), (2, (.agg #[Value.string a, Value.string b]))]).run Tryz.prog w = .ok (.agg (l ++ r ++ [Value.string a, Value.string b]).toArray) w := by
  rw [list32 hl, list32 hr]
  exact run_mkNodeF _ _ a b w

theorem c_within (a b c : Int) : RetP Tryz.prog n_impl_within [.int .i64 a, .int .i64 b, .int .i64 c] [.bool] (decide (a ≥ b ∧ a ≤ c)) := fun w => impl_within_calls a b c (by
  unfold impl_within
  refine r_if (a ≥ b) rfl (fun h1 => r_retP ?_) (fun h1 => r_retP ?_)
  · by_cases h2 : a ≤ c <;> simp [h1, h2, valL, embL, Sh.emb]
  · simp [h1, valL, embL, Sh.emb])
theorem c_l00In (a b c : Int) : RetP Tryz.prog n_spec_l00In [.int .i64 a, .int .i64 b, .int .i64 c] [.bool] (decide (a ≥ b ∧ a ≤ c)) := fun w => spec_l00In_calls a b c (by
  unfold spec_l00In
  refine r_if (a ≥ b) rfl (fun h1 => r_retP ?_) (fun h1 => r_retP ?_)
  · by_cases h2 : a ≤ c <;> simp [h1, h2, valL, embL, Sh.emb]
  · simp [h1, valL, embL, Sh.emb])
def nameOk (n : Nat) : Bool := decide (1 ≤ n ∧ n ≤ 24)
theorem c_isName (x : ByteArray) : RetP Tryz.prog n_impl_isName [Value.string x] [.bool] (nameOk x.size) := fun w => impl_isName_calls x (by
  unfold impl_isName
  refine r_callp (c_within _ 1 24) ?_
  refine r_retP ?_
  have : decide ((x.size : Int) ≥ 1 ∧ (x.size : Int) ≤ 24) = nameOk x.size := by unfold nameOk; congr 1; apply propext; omega
  rw [this]
  rfl)
theorem c_l04Name (x : ByteArray) : RetP Tryz.prog n_spec_l04Name [Value.string x] [.bool] (nameOk x.size) := fun w => spec_l04Name_calls x (by
  unfold spec_l04Name
  refine r_callp (c_l00In _ 1 24) ?_
  refine r_retP ?_
  have : decide ((x.size : Int) ≥ 1 ∧ (x.size : Int) ≤ 24) = nameOk x.size := by unfold nameOk; congr 1; apply propext; omega
  rw [this]
  rfl)
theorem c_ValidEntry (a b : ByteArray) (w : World) : Ret Tryz.prog n_impl_ValidEntry [.agg #[Value.string a, Value.string b]] w [.bool] (fun r _ => r = (nameOk a.size && decide (b.size ≤ 64))) := impl_ValidEntry_calls _ (by
  unfold impl_ValidEntry
  refine r_new (At.refl w) fun b1 w1 h => ?_
  refine r_ld h 0 rfl (add_lit _ _ _) a (by simp [Sh.emb]) (by simp [Value.cells, Sh.emb]) ?_
  refine r_callp (c_isName a) ?_
  refine r_cond (fun hn => ?_) (fun hn => ?_)
  · refine r_ld h 0 rfl (add_lit _ _ _) b (by simp [Sh.emb]) (by simp [Value.cells, Sh.emb]) ?_
    refine r_ret h _ rfl ?_
    rw [hn, Bool.true_and]
    congr 1
    apply propext
    omega
  · refine r_ret h _ rfl ?_
    rw [hn, Bool.false_and])
theorem c_l04Entry {w : World} {p : Addr} {a b : ByteArray} (ha : ∀ n, ldOk w n (p.add 0) .str a) (hb : ∀ n, ldOk w n (p.add 1) .str b) : Ret Tryz.prog n_spec_l04Entry [.pointer (some p)] w [.bool] (fun r w' => r = (nameOk a.size && decide (b.size ≤ 64))) := spec_l04Entry_calls _ (by
  unfold spec_l04Entry
  refine r_ldN a (ha 1) ?_
  refine r_callp (c_l04Name a) ?_
  refine r_cond (fun hn => ?_) (fun hn => ?_)
  · refine r_ldN b (hb 1) ?_
    refine r_ret (At.refl w) _ rfl ?_
    rw [hn, Bool.true_and]
    congr 1
    apply propext
    omega
  · refine r_ret (At.refl w) _ rfl ?_
    rw [hn, Bool.false_and])

theorem bsl_sub {w : World} {s : Sl} {d : List Int} (hs : BSl w s d) (l k : Nat) (h1 : l ≤ k) (h2 : k ≤ d.length) : SlAt w ⟨if s.c = l then s.a else s.a.map (·.add (l * 1)), k - l, s.c - l⟩ 1 (u8s ((d.drop l).take (k - l))) := by
  have := hs.sl.slice (by omega) l k h1 (by rw [hs.n]; exact h2) hs.cap
  simpa [u8s, List.map_take, List.map_drop] using this

theorem entry_ok {d : List Int} (h1 : 65 ≤ d.length) (h2 : 65 + (d.getD 64 0).toNat ≤ d.length) : (nameOk (strOf (nodeName d)).size && decide ((strOf (nodeValue d)).size ≤ 64)) = decide (nodeOk d) := by
  have e1 : (nodeName d).length = (d.getD 64 0).toNat := by unfold nodeName; rw [List.length_take, List.length_drop]; omega
  have e2 : (nodeValue d).length = d.length - (65 + (d.getD 64 0).toNat) := by unfold nodeValue; rw [List.length_drop]
  rw [strOf_size, strOf_size, e1, e2]
  unfold nameOk
  rw [← Bool.decide_and]
  congr 1
  apply propext
  unfold nodeOk
  omega

theorem c_ReadMapNode {w : World} {s : Sl} {d : List Int} (hs : BSl w s d) (hmax : d.length ≤ 1073741824) : Ret Tryz.prog n_impl_ReadMapNode [.slice s.a s.n s.c] w [.agg, .int .i64] (fun r _ => r = if nodeOk d then ((nodeCells d).toArray, 0) else (zeroNode, 5)) := impl_ReadMapNode_calls s (by
  unfold impl_ReadMapNode
  have hn := hs.n
  refine r_new (At.refl w) fun b2 w1 h => ?_
  have h : At w w1 [(b2, zeroNode, ty_impl_MapNode)] := h
  refine r_joinI ?_
  refine r_if ((s.n : Int) < 65) rfl (fun hlt => ?_) (fun hge => ?_)
  · refine r_pur (sh := .agg) _ run_noNode ?_
    refine r_stA h 0 rfl rfl rfl rfl zeroNode_one fun w2 h => ?_
    refine r_ldA h 0 rfl rfl rfl ?_
    exact r_ret h (zeroNode, (5 : Int)) rfl (by rw [if_neg (fun hh => by have := hh.1; omega)])
  have hg := hs.ok (d.getD 64 0) (by simp only [List.getD, List.getElem?_eq_getElem (show 64 < d.length by omega), Option.getD_some]; exact List.getElem_mem _)
  obtain ⟨p, hp, _⟩ := hs.sl.cell 64 (.int .u8 (d.getD 64 0)) (u8s_get (by omega))
  have ld64 : ∀ {w' : World}, At w w' [(b2, zeroNode, ty_impl_MapNode)] → ldOk w' 1 (p.add ((64 : Int).toNat * 1)) (.int .u8) (d.getD 64 0) := fun h => by
    obtain ⟨q, hq, hc⟩ := (hs.sl.below h.below).cell 64 (.int .u8 (d.getD 64 0)) (u8s_get (by omega))
    rw [hp] at hq
    cases hq
    exact hc
  have e1 : IntKind.wrap .i64 (d.getD 64 0) = d.getD 64 0 := w64 (by omega) (by omega)
  have e2 : IntKind.wrap .i64 (65 + d.getD 64 0) = ((65 + (d.getD 64 0).toNat : Nat) : Int) := by rw [w64 (by omega) (by omega)]; omega
  refine r_ix p hp (by omega) (by omega) ?_
  refine r_ldN (sh := .int .u8) (d.getD 64 0) (ld64 h) ?_
  rw [e1, e2]
  refine r_if ((s.n : Int) < ((65 + (d.getD 64 0).toNat : Nat) : Int)) rfl (fun hlt => ?_) (fun hge2 => ?_)
  · refine r_pur (sh := .agg) _ run_noNode ?_
    refine r_stA h 0 rfl rfl rfl rfl zeroNode_one fun w2 h => ?_
    refine r_ldA h 0 rfl rfl rfl ?_
    exact r_ret h (zeroNode, (5 : Int)) rfl (by rw [if_neg (fun hh => by have := hh.2.1; omega)])
  refine ⟨(), rfl, ?_⟩
  refine r_any fun _ => ?_
  refine r_ix p hp (by omega) (by omega) ?_
  refine r_ldN (sh := .int .u8) (d.getD 64 0) (ld64 h) ?_
  have hnl : (nodeCells d).length = 66 := nodeCells_len (by omega)
  refine r_join (σ := Addr) (fun p w' => ∃ b5, p = (⟨b5, 0, none⟩ : Addr) ∧ At w w' [(b5, (nodeCells d).toArray, ty_impl_MapNode), (b2, zeroNode, ty_impl_MapNode)]) (fun s5 w5 hJ => ?_) ?_
  · obtain ⟨b5, rfl, h⟩ := hJ
    refine r_any fun _ => ?_
    have hent : (nodeCells d).toArray.extract 64 66 = #[Value.string (strOf (nodeName d)), Value.string (strOf (nodeValue d))] := by
      have e0 : (u8s (part32 d 0) ++ u8s (part32 d 32)).length = 64 := by simp [part32_len (show 0 + 32 ≤ d.length by omega), part32_len (show 32 + 32 ≤ d.length by omega)]
      have e1 : (nodeCells d).drop 64 = [Value.string (strOf (nodeName d)), Value.string (strOf (nodeValue d))] := List.drop_left' e0
      apply Array.ext'
      rw [List.extract_toArray]
      show ((nodeCells d).drop 64).take (66 - 64) = _
      rw [e1]
      rfl
    refine r_ldP h 0 rfl (add_lit _ _ _) (by simp [hnl]) ?_
    rw [show (0 + 64 : Nat) = 64 from rfl, hent]
    refine r_call h (c_ValidEntry _ _ _) fun r w6 h _ hr => ?_
    rw [entry_ok (by omega) (by omega)] at hr
    subst hr
    by_cases hok : nodeOk d
    · refine r_false (by simp [hok]) ?_
      refine r_ldA h 0 rfl rfl (by simpa using hnl) ?_
      refine r_stA h 1 rfl rfl (by simpa using hnl) rfl (by simpa using nodeCells_one d) fun w7 h => ?_
      refine r_ldA h 1 rfl rfl (by simpa using hnl) ?_
      exact r_ret h.nil (_, _) rfl (by rw [if_pos hok])
    · refine r_true (by simp [hok]) ?_
      refine r_pur (sh := .agg) _ run_noNode ?_
      refine r_stA h 1 rfl rfl rfl rfl zeroNode_one fun w7 h => ?_
      refine r_ldA h 1 rfl rfl rfl ?_
      exact r_ret h.nil (zeroNode, (5 : Int)) rfl (by rw [if_neg hok])
  · refine r_draw h fun w3 h => ?_
    refine r_pur p (fun w' => by rw [hp]; exact run_arrayAt (n := 32) (e := ty_uint8) (by kernel_rfl) (by omega) w') ?_
    have hp0 : (u8s d).take 32 = u8s (part32 d 0) := by simp only [part32, u8s, List.map_take, List.drop_zero]
    have l1 : ∀ {w' : World} {ls : List Blk}, At w w' ls → ldOk w' 32 p .agg (u8s (part32 d 0)).toArray := fun h => by
      rw [← hp0]
      exact (hs.sl.below h.below).agg hp (by simp; omega)
    refine r_ldN (u8s (part32 d 0)).toArray (l1 h) ?_
    refine r_sl 32 s.n rfl rfl (by omega) hs.cap ?_
    have hsub := bsl_sub hs 32 s.n (by omega) (by omega)
    have hcap := hs.cap
    obtain ⟨q, hq, _⟩ := hsub.cell 0 _ (List.getElem?_eq_getElem (by simp; omega))
    refine r_pur q (fun w' => by rw [hq]; exact run_arrayAt (n := 32) (e := ty_uint8) (by kernel_rfl) (by dsimp only; omega) w') ?_
    have hp1 : (u8s ((d.drop 32).take (s.n - 32))).take 32 = u8s (part32 d 32) := by
      simp only [part32, u8s, List.map_take, List.map_drop]
      rw [List.take_take, Nat.min_eq_left (by omega)]
    have l2 : ∀ {w' : World} {ls : List Blk}, At w w' ls → ldOk w' 32 q .agg (u8s (part32 d 32)).toArray := fun h => by
      rw [← hp1]
      exact (hsub.below h.below).agg hq (by simp; omega)
    refine r_ldN (u8s (part32 d 32)).toArray (l2 h) ?_
    rw [e1, e2]
    refine r_sl 65 (65 + (d.getD 64 0).toNat) rfl rfl (by omega) (by omega) ?_
    have hnm := bsl_sub hs 65 (65 + (d.getD 64 0).toNat) (by omega) (by omega)
    rw [show 65 + (d.getD 64 0).toNat - 65 = (d.getD 64 0).toNat by omega] at hnm ⊢
    refine r_sl (65 + (d.getD 64 0).toNat) s.n rfl rfl (by omega) hs.cap ?_
    have hvl := bsl_sub hs (65 + (d.getD 64 0).toNat) s.n (by omega) (by omega)
    rw [List.take_of_length_le (l := d.drop (65 + (d.getD 64 0).toNat)) (by rw [List.length_drop]; omega)] at hvl
    refine ⟨?_, ?_, ?_⟩
    · refine r_toStr (e := ty_uint8) (l := nodeName d) (by kernel_rfl) (by kernel_rfl) (by kernel_rfl) (hnm.below h.below) ?_
      refine r_chk2 ?_ ?_ ?_
      · exact l2 h
      · exact l1 h
      refine ⟨?_, ?_⟩
      · refine r_toStr (e := ty_uint8) (l := nodeValue d) (by kernel_rfl) (by kernel_rfl) (by kernel_rfl) (hvl.below h.below) ?_
        refine r_chk2 ?_ ?_ ?_
        · exact l2 h
        · exact l1 h
        refine r_pur (sh := .agg) _ (run_mkEntry _ _) ?_
        refine r_pur (sh := .agg) _ (run_mkNode (by rw [u8s_len]; exact part32_len (by omega)) (by rw [u8s_len]; exact part32_len (by omega)) _ _) ?_
        refine r_new h fun b5 w4 h => ?_
        refine r_chk2 ?_ ?_ ?_
        · exact l2 h
        · exact l1 h
        refine r_stA h 0 rfl rfl hnl rfl (nodeCells_one d) fun w5 h => ?_
        exact ⟨(⟨b5, 0, none⟩ : Addr), rfl, b5, rfl, h⟩
      · refine r_new h fun b5 w4 h => ?_
        refine r_chk2 ?_ ?_ ?_
        · exact l2 h
        · exact l1 h
        refine r_toStr (e := ty_uint8) (l := nodeValue d) (by kernel_rfl) (by kernel_rfl) (by kernel_rfl) (hvl.below h.below) ?_
        refine r_chk2 ?_ ?_ ?_
        · exact l2 h
        · exact l1 h
        refine r_pur (sh := .agg) _ (run_mkEntry _ _) ?_
        refine r_pur (sh := .agg) _ (run_mkNode (by rw [u8s_len]; exact part32_len (by omega)) (by rw [u8s_len]; exact part32_len (by omega)) _ _) ?_
        refine r_stA h 0 rfl rfl hnl rfl (nodeCells_one d) fun w5 h => ?_
        exact ⟨(⟨b5, 0, none⟩ : Addr), rfl, b5, rfl, h⟩
    · refine r_toStr (e := ty_uint8) (l := nodeValue d) (by kernel_rfl) (by kernel_rfl) (by kernel_rfl) (hvl.below h.below) ?_
      refine r_chk2 ?_ ?_ ?_
      · exact l2 h
      · exact l1 h
      refine ⟨?_, ?_⟩
      · refine r_toStr (e := ty_uint8) (l := nodeName d) (by kernel_rfl) (by kernel_rfl) (by kernel_rfl) (hnm.below h.below) ?_
        refine r_chk2 ?_ ?_ ?_
        · exact l2 h
        · exact l1 h
        refine r_pur (sh := .agg) _ (run_mkEntry _ _) ?_
        refine r_pur (sh := .agg) _ (run_mkNode (by rw [u8s_len]; exact part32_len (by omega)) (by rw [u8s_len]; exact part32_len (by omega)) _ _) ?_
        refine r_new h fun b5 w4 h => ?_
        refine r_chk2 ?_ ?_ ?_
        · exact l2 h
        · exact l1 h
        refine r_stA h 0 rfl rfl hnl rfl (nodeCells_one d) fun w5 h => ?_
        exact ⟨(⟨b5, 0, none⟩ : Addr), rfl, b5, rfl, h⟩
      · refine r_new h fun b5 w4 h => ?_
        refine r_chk2 ?_ ?_ ?_
        · exact l2 h
        · exact l1 h
        refine r_toStr (e := ty_uint8) (l := nodeName d) (by kernel_rfl) (by kernel_rfl) (by kernel_rfl) (hnm.below h.below) ?_
        refine r_chk2 ?_ ?_ ?_
        · exact l2 h
        · exact l1 h
        refine r_pur (sh := .agg) _ (run_mkEntry _ _) ?_
        refine r_pur (sh := .agg) _ (run_mkNode (by rw [u8s_len]; exact part32_len (by omega)) (by rw [u8s_len]; exact part32_len (by omega)) _ _) ?_
        refine r_stA h 0 rfl rfl hnl rfl (nodeCells_one d) fun w5 h => ?_
        exact ⟨(⟨b5, 0, none⟩ : Addr), rfl, b5, rfl, h⟩
    · refine r_new h fun b5 w4 h => ?_
      refine r_chk2 ?_ ?_ ?_
      · exact l2 h
      · exact l1 h
      refine ⟨?_, ?_⟩
      · refine r_toStr (e := ty_uint8) (l := nodeName d) (by kernel_rfl) (by kernel_rfl) (by kernel_rfl) (hnm.below h.below) ?_
        refine r_chk2 ?_ ?_ ?_
        · exact l2 h
        · exact l1 h
        refine r_toStr (e := ty_uint8) (l := nodeValue d) (by kernel_rfl) (by kernel_rfl) (by kernel_rfl) (hvl.below h.below) ?_
        refine r_chk2 ?_ ?_ ?_
        · exact l2 h
        · exact l1 h
        refine r_pur (sh := .agg) _ (run_mkEntry _ _) ?_
        refine r_pur (sh := .agg) _ (run_mkNode (by rw [u8s_len]; exact part32_len (by omega)) (by rw [u8s_len]; exact part32_len (by omega)) _ _) ?_
        refine r_stA h 0 rfl rfl hnl rfl (nodeCells_one d) fun w5 h => ?_
        exact ⟨(⟨b5, 0, none⟩ : Addr), rfl, b5, rfl, h⟩
      · refine r_toStr (e := ty_uint8) (l := nodeValue d) (by kernel_rfl) (by kernel_rfl) (by kernel_rfl) (hvl.below h.below) ?_
        refine r_chk2 ?_ ?_ ?_
        · exact l2 h
        · exact l1 h
        refine r_toStr (e := ty_uint8) (l := nodeName d) (by kernel_rfl) (by kernel_rfl) (by kernel_rfl) (hnm.below h.below) ?_
        refine r_chk2 ?_ ?_ ?_
        · exact l2 h
        · exact l1 h
        refine r_pur (sh := .agg) _ (run_mkEntry _ _) ?_
        refine r_pur (sh := .agg) _ (run_mkNode (by rw [u8s_len]; exact part32_len (by omega)) (by rw [u8s_len]; exact part32_len (by omega)) _ _) ?_
        refine r_stA h 0 rfl rfl hnl rfl (nodeCells_one d) fun w5 h => ?_
        exact ⟨(⟨b5, 0, none⟩ : Addr), rfl, b5, rfl, h⟩)

end Go.Proofs.YtkifkdkjljcclaaGreat
