/- The nodes of maps by their keys: the program's mapper and the reference's l08Node. -/
import Derived.Test.YtffedfdhhglmkaaGreatY2
import Derived.Test.YtffedfdhhglmkaaGreatYA
import Derived.Test.YtffedfdhhglmkaaGreatS2
namespace Go.Proofs.YtffedfdhhglmkaaGreat
open Go.Sx Go.RowKit

/-! ### The mapper's cells -/
def mapC (p : Addr) (e : List Int) (many : Int) (loose : Bool) (want : List Int) : Array Value := (Value.pointer (some p) :: (u8s e ++ (Value.int .i64 many :: Value.bool loose :: u8s want))).toArray
theorem mapC_size {p : Addr} {e want : List Int} {many : Int} {loose : Bool} (he : keyOk e) (hw : keyOk want) : (mapC p e many loose want).size = 67 := by simp [mapC, he.1, hw.1]
theorem mapC_one (p : Addr) (e : List Int) (many : Int) (loose : Bool) (want : List Int) : ∀ v ∈ (mapC p e many loose want).toList, oneC v = true := by
  intro v hv
  simp only [mapC, List.mem_cons, List.mem_append] at hv
  rcases hv with rfl | h | rfl | rfl | h
  · rfl
  · exact u8s_one v h
  · rfl
  · rfl
  · exact u8s_one v h
theorem mapC_empty {p : Addr} {e want : List Int} {many : Int} {loose : Bool} (he : keyOk e) : (mapC p e many loose want).extract 1 (1 + 32) = (u8s e).toArray := by
  apply Array.ext'
  unfold mapC
  rw [List.extract_toArray]
  have h1 : (u8s e).length = 32 := by rw [u8s_len]; exact he.1
  show ((Value.pointer (some p) :: (u8s e ++ _)).drop 1).take (1 + 32 - 1) = _
  rw [List.drop_succ_cons, List.drop_zero, List.take_append_of_le_length (by omega), List.take_of_length_le (by omega)]
theorem mapC_want {p : Addr} {e want : List Int} {many : Int} {loose : Bool} (he : keyOk e) (hw : keyOk want) : (mapC p e many loose want).extract 35 (35 + 32) = (u8s want).toArray := by
  apply Array.ext'
  unfold mapC
  rw [List.extract_toArray]
  have h1 : (u8s e).length = 32 := by rw [u8s_len]; exact he.1
  have h2 : (u8s want).length = 32 := by rw [u8s_len]; exact hw.1
  show ((Value.pointer (some p) :: (u8s e ++ _)).drop 35).take (35 + 32 - 35) = _
  rw [show (35 : Nat) = 34 + 1 from rfl, List.drop_succ_cons, List.drop_append, List.drop_eq_nil_of_le (by omega), h1, List.nil_append]
  rw [show 34 - 32 = 0 + 1 + 1 from rfl, List.drop_succ_cons, List.drop_succ_cons, List.drop_zero, List.take_of_length_le (by omega)]
theorem mapC_setWant {p : Addr} {e want k : List Int} {many : Int} {loose : Bool} (he : keyOk e) (hw : keyOk want) : ((mapC p e many loose want).toList.take 35 ++ (u8s k).toArray.toList ++ (mapC p e many loose want).toList.drop (35 + 32)).toArray = mapC p e many loose k := by
  have h1 : (u8s e).length = 32 := by rw [u8s_len]; exact he.1
  have h2 : (u8s want).length = 32 := by rw [u8s_len]; exact hw.1
  have hd : (mapC p e many loose want).toList = (Value.pointer (some p) :: (u8s e ++ [Value.int .i64 many, Value.bool loose])) ++ u8s want := by simp [mapC]
  have hA : (Value.pointer (some p) :: (u8s e ++ [Value.int .i64 many, Value.bool loose])).length = 35 := by simp [he.1]
  rw [hd, List.take_append_of_le_length (by omega), List.take_of_length_le (by omega), List.drop_eq_nil_of_le (by rw [List.length_append]; omega), List.append_nil]
  simp [mapC]
theorem mapC_many {p : Addr} {e want : List Int} {many : Int} {loose : Bool} (he : keyOk e) : (mapC p e many loose want)[33]? = some (Value.int .i64 many) := by
  have h1 : (u8s e).length = 32 := by rw [u8s_len]; exact he.1
  unfold mapC
  rw [List.getElem?_toArray, show (33 : Nat) = 32 + 1 from rfl, List.getElem?_cons_succ, List.getElem?_append_right (by omega), h1]
  rfl
theorem mapC_loose {p : Addr} {e want : List Int} {many : Int} {loose : Bool} (he : keyOk e) : (mapC p e many loose want)[34]? = some (Value.bool loose) := by
  have h1 : (u8s e).length = 32 := by rw [u8s_len]; exact he.1
  unfold mapC
  rw [List.getElem?_toArray, show (34 : Nat) = 33 + 1 from rfl, List.getElem?_cons_succ, List.getElem?_append_right (by omega), h1]
  rfl
theorem mapC_setMany {p : Addr} {e want : List Int} {many : Int} {loose : Bool} (he : keyOk e) (m : Int) : (mapC p e many loose want).setIfInBounds 33 (.int .i64 m) = mapC p e m loose want := by
  have h1 : (u8s e).length = 32 := by rw [u8s_len]; exact he.1
  apply Array.ext'
  rw [Array.toList_setIfInBounds]
  unfold mapC
  show (Value.pointer (some p) :: (u8s e ++ _)).set 33 _ = _
  rw [show (33 : Nat) = 32 + 1 from rfl, List.set_cons_succ, List.set_append_right _ _ (by omega), h1]
  rfl
theorem mapC_setLoose {p : Addr} {e want : List Int} {many : Int} {loose : Bool} (he : keyOk e) (b : Bool) : (mapC p e many loose want).setIfInBounds 34 (.bool b) = mapC p e many b want := by
  have h1 : (u8s e).length = 32 := by rw [u8s_len]; exact he.1
  apply Array.ext'
  rw [Array.toList_setIfInBounds]
  unfold mapC
  show (Value.pointer (some p) :: (u8s e ++ _)).set 34 _ = _
  rw [show (34 : Nat) = 33 + 1 from rfl, List.set_cons_succ, List.set_append_right _ _ (by omega), h1]
  rfl
theorem run_mkMapperF (f : Nat → Value) (p : Addr) (w : World) : (Instr.build ty_impl_mapper #[(0, (.pointer (some p))), (1, (.agg ((List.range 32).map f).toArray))]).run Tryz.prog w = .ok (.agg (Value.pointer (some p) :: ((List.range 32).map f ++ (Value.int .i64 0 :: Value.bool false :: u8s zero32))).toArray) w := by kernel_rfl
theorem run_mkMapper {e : List Int} (he : keyOk e) (p : Addr) (w : World) : (Instr.build ty_impl_mapper #[(0, (.pointer (some p))), (1, (.agg (u8s e).toArray))]).run Tryz.prog w = .ok (.agg (mapC p e 0 false zero32)) w := by
  have h := run_mkMapperF (fun i => (u8s e).getD i default) p w
  rw [← list32 (l := u8s e) (by rw [u8s_len]; exact he.1)] at h
  exact h

/-! ### What a look at a node yields -/
def nmOf (d : List Int) : ByteArray := strOf (nodeName d)
def vlOf (d : List Int) : ByteArray := strOf (nodeValue d)
theorem nodeCells_name {d : List Int} (h : 64 ≤ d.length) : (nodeCells d).toArray[64]? = some (Value.string (nmOf d)) := by
  have e0 : (u8s (part32 d 0) ++ u8s (part32 d 32)).length = 64 := by simp [part32_len (show 0 + 32 ≤ d.length by omega), part32_len (show 32 + 32 ≤ d.length by omega)]
  unfold nodeCells
  rw [List.getElem?_toArray, List.getElem?_append_right (by omega), e0]
  rfl
theorem nodeCells_value {d : List Int} (h : 64 ≤ d.length) : (nodeCells d).toArray[65]? = some (Value.string (vlOf d)) := by
  have e0 : (u8s (part32 d 0) ++ u8s (part32 d 32)).length = 64 := by simp [part32_len (show 0 + 32 ≤ d.length by omega), part32_len (show 32 + 32 ≤ d.length by omega)]
  unfold nodeCells
  rw [List.getElem?_toArray, List.getElem?_append_right (by omega), e0]
  rfl
theorem blobAt_in {B : List PB} {k : List Int} (ha : Asc (keysOf B)) (h : k ∈ keysOf B) : blobAt B k ∈ B := by
  have hp := (List.getElem?_eq_some_iff.1 ((posK_mem ha).1 h)).1
  rw [keysOf_len] at hp
  unfold blobAt
  simp only [List.getD, List.getElem?_eq_getElem hp, Option.getD_some]
  exact List.getElem_mem _

/-- Where a name stands that another one is held against, if there is one. -/
def PtrS (w : World) (o : Option Addr) (l : Option ByteArray) : Prop := match o, l with
  | none, none => True
  | some a, some s => ldOk w 1 a .str s
  | _, _ => False
def lowBad (lo : Option ByteArray) (nm : ByteArray) : Bool := match lo with
  | none => false
  | some s => Op.bytesLess nm.toList s.toList || nm.toList == s.toList
def highBad (hi : Option ByteArray) (nm : ByteArray) : Bool := match hi with
  | none => false
  | some s => !Op.bytesLess nm.toList s.toList
def nodeGood (b : PB) : Prop := b.tag = 5 ∧ nodeOk b.data
instance (b : PB) : Decidable (nodeGood b) := inferInstanceAs (Decidable (b.tag = 5 ∧ nodeOk b.data))
def nodeFits (b : PB) (many : Nat) (loose : Bool) (lo hi : Option ByteArray) : Prop := nodeGood b ∧ many < 64 ∧ (loose = true ∨ (lowBad lo (nmOf b.data) = false ∧ highBad hi (nmOf b.data) = false))
/-- What a look at a node yields. -/
def NodeQ (w0 : World) (B : List PB) (rest : List Blk) (bl : Nat) (p : Addr) (e : List Int) (many : Nat) (loose : Bool) (want k : List Int) (lo hi : Option ByteArray) (v : Value) (w' : World) : Prop :=
  (k ∉ keysOf B ∧ v = .tuple #[.agg zeroNode, .int .i64 6] ∧ At w0 w' ((bl, mapC p e many loose k, ty_impl_mapper) :: rest)) ∨
  (k ∈ keysOf B ∧ At w0 w' ((bl, mapC p e ((many + 1 : Nat) : Int) loose want, ty_impl_mapper) :: rest) ∧ ((nodeFits (blobAt B k) many loose lo hi ∧ bytesOk (blobAt B k).data ∧ v = .tuple #[.agg (nodeCells (blobAt B k).data).toArray, .int .i64 0]) ∨ (¬ nodeFits (blobAt B k) many loose lo hi ∧ v = .tuple #[.agg zeroNode, .int .i64 8])))

theorem c_node {w0 w : World} {rest : List Blk} {bl : Nat} {p : Addr} {B : List PB} {bs : List BR} {e want k : List Int} {many : Nat} {loose : Bool} {low high : Option Addr} {lo hi : Option ByteArray}
    (hA : At w0 w ((bl, mapC p e many loose want, ty_impl_mapper) :: rest)) (hs : ShopR w0 p (keysOf B) bs) (hpb : bs.map BR.pb = B) (hv : validS B) (hk : keyOk k) (hw : keyOk want) (he : keyOk e) (hm : many ≤ 1000)
    (hlo : ∀ {w' c}, At w0 w' ((bl, c, ty_impl_mapper) :: rest) → PtrS w' low lo) (hhi : ∀ {w' c}, At w0 w' ((bl, c, ty_impl_mapper) :: rest) → PtrS w' high hi) :
    Calls Tryz.prog n_ptr_impl_mapper_node [.pointer (some ⟨bl, 0, none⟩), .agg (u8s k).toArray, .pointer low, .pointer high].toArray w fun x w' => ∃ v, x = .returned v ∧ NodeQ w0 B rest bl p e many loose want k lo hi v w' := ptr_impl_mapper_node_calls _ _ _ _ (by
  unfold ptr_impl_mapper_node
  have hB128 : B.length ≤ 128 := hv.1
  have hkl : (keysOf B).length = B.length := keysOf_len B
  have hasc : Asc (keysOf B) := hv.2.2
  have hbl : bs.length = B.length := by rw [← hpb]; simp
  have hms : ∀ {m : Int} {l : Bool}, (mapC p e m l want).size = 67 := mapC_size he hw
  obtain ⟨sk, sb, _, _, _, hBs⟩ := hs.ex
  refine r_new hA fun b5 w1 h => ?_
  refine r_new h fun b8 w2 h => ?_
  have h : At w0 w2 ([(b8, zeroNode, ty_impl_MapNode), (b5, (u8s k).toArray, ty_impl_Key)] ++ (bl, mapC p e many loose want, ty_impl_mapper) :: rest) := h
  have got : ∀ {r : Array Value × Bool}, ((k ∈ keysOf B ∧ ∃ b, bs[posK (keysOf B) k]? = some b ∧ r = (b.cells.toArray, true)) ∨ (k ∉ keysOf B ∧ r = (#[.int .u8 0, .slice none 0 0], false))) → r.1.size = 2 ∧ (∀ v ∈ r.1.toList, oneC v = true) := fun hr => by
    rcases hr with ⟨_, b, _, rfl⟩ | ⟨_, rfl⟩
    · exact ⟨rfl, by simpa using cells_one b⟩
    · exact ⟨rfl, by simp [oneC]⟩
  refine r_join (σ := Addr × Bool) (fun s w' => ∃ (b10 : Nat) (r : Array Value × Bool), s = (⟨b10, 0, none⟩, r.2) ∧ At w0 w' ([(b10, r.1, ty_impl_Blob), (b8, zeroNode, ty_impl_MapNode), (b5, (u8s k).toArray, ty_impl_Key)] ++ (bl, mapC p e many loose want, ty_impl_mapper) :: rest) ∧ ((k ∈ keysOf B ∧ ∃ b, bs[posK (keysOf B) k]? = some b ∧ r = (b.cells.toArray, true)) ∨ (k ∉ keysOf B ∧ r = (#[.int .u8 0, .slice none 0 0], false)))) (fun s w3 hJ => ?_) ?_
  · obtain ⟨b10, r, rfl, h, hr⟩ := hJ
    refine r_any fun _ => ?_
    dsimp only
    rcases hr with ⟨hmem, b, hb, rfl⟩ | ⟨hmem, rfl⟩
    · have hBb := pb_get hpb hb
      have hbe : blobAt B k = b.pb := by unfold blobAt; simp [List.getD, hBb]
      have hok := hBs.ok b (List.mem_of_getElem? hb)
      have hdn := hok.bytes.n
      have hpt : b.pb.tag = b.tag := rfl
      have hpd : b.pb.data = b.data := rfl
      have hd1024 : b.data.length ≤ 1024 := hv.2.1 b.pb (List.mem_of_getElem? hBb)
      refine r_false rfl ?_
      refine r_ld h 0 rfl (add_lit _ _ _) b.d (by simp [Sh.emb]) rfl ?_
      refine r_call h (c_ReadMapNode (hok.bytes.at h) (by omega)) fun r35 w4 h _ hr35 => ?_
      have hrs : r35.1.size = 66 ∧ (∀ v ∈ r35.1.toList, oneC v = true) ∧ r35.1[64]? = some (Value.string (if nodeOk b.data then nmOf b.data else ⟨#[]⟩)) := by
        rw [hr35]
        split
        · rename_i hno
          have h65 := hno.1
          exact ⟨nodeCells_len (by omega), nodeCells_one _, nodeCells_name (by omega)⟩
        · exact ⟨rfl, zeroNode_one, rfl⟩
      refine r_new h fun b12 w5 h => ?_
      refine r_stA h 0 rfl rfl hrs.1 rfl hrs.2.1 fun w6 h => ?_
      have h : At w0 w6 ([(b12, r35.1, ty_impl_MapNode), (b10, b.cells.toArray, ty_impl_Blob), (b8, zeroNode, ty_impl_MapNode), (b5, (u8s k).toArray, ty_impl_Key)] ++ (bl, mapC p e many loose want, ty_impl_mapper) :: rest) := h
      refine r_ld h 4 rfl (add_lit _ _ _) (many : Int) (by simp [Sh.emb]) (mapC_many he) ?_
      rw [w64 (by omega) (by omega)]
      refine r_st h 4 (o := 33) rfl (by simp [add_lit]) (by rw [hms]; omega) rfl fun w7 h => ?_
      rw [mapC_setMany he] at h
      have h : At w0 w7 ([(b12, r35.1, ty_impl_MapNode), (b10, b.cells.toArray, ty_impl_Blob), (b8, zeroNode, ty_impl_MapNode), (b5, (u8s k).toArray, ty_impl_Key)] ++ (bl, mapC p e ((many + 1 : Nat) : Int) loose want, ty_impl_mapper) :: rest) := h
      refine r_ld h 0 rfl (by rw [add_lit, add_lit]) (if nodeOk b.data then nmOf b.data else ⟨#[]⟩) (by simp [Sh.emb]) hrs.2.2 ?_
      generalize hnmv : (if nodeOk b.data then nmOf b.data else ⟨#[]⟩) = nmv
      have bad_ : ∀ {w' : World}, At w0 w' ([(b12, r35.1, ty_impl_MapNode), (b10, b.cells.toArray, ty_impl_Blob), (b8, zeroNode, ty_impl_MapNode), (b5, (u8s k).toArray, ty_impl_Key)] ++ (bl, mapC p e ((many + 1 : Nat) : Int) loose want, ty_impl_mapper) :: rest) → ¬ nodeFits (blobAt B k) many loose lo hi →
          ((real Tryz.prog (NodeQ w0 B rest bl p e many loose want k lo hi)).pur (Instr.build ty_impl_MapNode #[]) .agg fun y92 => (real Tryz.prog (NodeQ w0 B rest bl p e many loose want k lo hi)).st 66 (Addr.mk b8 0 none) (.agg y92) <| (real Tryz.prog (NodeQ w0 B rest bl p e many loose want k lo hi)).ld .agg 66 (Addr.mk b8 0 none) fun z34 => (real Tryz.prog (NodeQ w0 B rest bl p e many loose want k lo hi)).ret (.tuple #[(.agg z34), (.int .i64 8)]) : World → Prop) w' := by
        intro w' h hn
        refine r_pur (sh := .agg) _ run_noNode ?_
        refine r_stA h 2 rfl rfl rfl rfl zeroNode_one fun w8 h => ?_
        refine r_ldA h 2 rfl rfl rfl ?_
        exact r_retR (.inr ⟨hmem, At.right (A := [_, _, _, _]) h, .inr ⟨hn, rfl⟩⟩)
      refine r_join (σ := Bool) (fun s w' => s = (!loose && (lowBad lo nmv || highBad hi nmv)) ∧ At w0 w' ([(b12, r35.1, ty_impl_MapNode), (b10, b.cells.toArray, ty_impl_Blob), (b8, zeroNode, ty_impl_MapNode), (b5, (u8s k).toArray, ty_impl_Key)] ++ (bl, mapC p e ((many + 1 : Nat) : Int) loose want, ty_impl_mapper) :: rest)) (fun s w8 hJ => ?_) ?_
      · obtain ⟨rfl, h⟩ := hJ
        refine r_any fun _ => ?_
        refine r_ld h 1 rfl (add_lit _ _ _) b.tag (by simp [Sh.emb]) rfl ?_
        refine r_ne (fun hne => ?_) (fun heq => ?_)
        · exact bad_ h (fun hh => hne (by have := hh.1.1; rw [hbe] at this; exact this))
        by_cases hno : nodeOk b.data
        · rw [if_pos hno] at hr35 hnmv
          rw [hr35]
          refine r_ne (fun hne => absurd rfl hne) (fun _ => ?_)
          refine r_ld h 4 rfl (add_lit _ _ _) ((many + 1 : Nat) : Int) (by simp [Sh.emb]) (mapC_many he) ?_
          refine r_if (((many + 1 : Nat) : Int) > 64) rfl (fun hgt => ?_) (fun hle => ?_)
          · exact bad_ h (fun hh => by have := hh.2.1; omega)
          · by_cases hbd : (!loose && (lowBad lo nmv || highBad hi nmv)) = true
            · refine r_true hbd ?_
              refine bad_ h (fun hh => ?_)
              have h3 := hh.2.2
              rw [hbe, hpd, hnmv] at h3
              rcases h3 with h3 | ⟨h3, h4⟩
              · simp [h3] at hbd
              · simp [h3, h4] at hbd
            · refine r_false (by simpa using hbd) ?_
              have h65 := hno.1
              have hnl : (nodeCells b.data).length = 66 := nodeCells_len (by omega)
              refine r_ldA h 0 rfl rfl (by rw [hr35]; exact hnl) ?_
              refine r_stA h 2 rfl rfl (by rw [hr35]; exact hnl) rfl (by rw [hr35]; exact nodeCells_one _) fun w9 h => ?_
              refine r_ldA h 2 rfl rfl (by rw [hr35]; exact hnl) ?_
              refine r_retR (.inr ⟨hmem, At.right (A := [_, _, _, _]) h, .inl ⟨⟨⟨by rw [hbe]; exact heq, by rw [hbe]; exact hno⟩, by omega, ?_⟩, by rw [hbe]; exact hok.bytes.ok, by rw [hbe, hr35]; rfl⟩⟩)
              rw [hbe, hpd, hnmv]
              cases hl : loose
              · right
                rw [hl] at hbd
                simpa using hbd
              · left
                rfl
        · rw [if_neg hno] at hr35
          rw [hr35]
          refine r_ne (fun _ => ?_) (fun heq => absurd heq (by decide))
          exact bad_ (by rw [hr35] at h; rw [hr35]; exact h) (fun hh => hno (by have := hh.1.2; rw [hbe] at this; exact this))
      · have lowP := hlo (At.right (A := [_, _, _, _]) h)
        have highP := hhi (At.right (A := [_, _, _, _]) h)
        refine r_ld h 4 rfl (add_lit _ _ _) loose (by simp [Sh.emb]) (mapC_loose he) ?_
        cases hloose : loose
        · refine r_true rfl ?_
          rw [hloose] at h
          cases low with
          | none =>
            have hlon : lo = none := by cases lo with
              | none => rfl
              | some s => exact lowP.elim
            subst hlon
            refine r_pur _ (fun w' => run_neq_ptr (e := ty_string) (by kernel_rfl) _ _ _ _ (.inr rfl) w') ?_
            refine r_false rfl ?_
            cases high with
            | none =>
              have hhin : hi = none := by cases hi with
                | none => rfl
                | some s => exact highP.elim
              subst hhin
              refine r_pur _ (fun w' => run_neq_ptr (e := ty_string) (by kernel_rfl) _ _ _ _ (.inr rfl) w') ?_
              refine r_false rfl ?_
              exact ⟨false, rfl, rfl, h⟩
            | some ah =>
              obtain ⟨sh, rfl⟩ : ∃ s, hi = some s := by cases hi with
                | none => exact highP.elim
                | some s => exact ⟨s, rfl⟩
              refine r_pur _ (fun w' => run_neq_ptr (e := ty_string) (by kernel_rfl) _ _ _ _ (.inr rfl) w') ?_
              refine r_true rfl ?_
              refine r_dp rfl ?_
              refine r_ldN (sh := .str) sh highP ?_
              refine r_pur _ (fun w' => run_geq_str _ _ _ _ _ w') ?_
              exact ⟨_, rfl, by simp [lowBad, highBad], h⟩
          | some al =>
            obtain ⟨sl, rfl⟩ : ∃ s, lo = some s := by cases lo with
              | none => exact lowP.elim
              | some s => exact ⟨s, rfl⟩
            refine r_pur _ (fun w' => run_neq_ptr (e := ty_string) (by kernel_rfl) _ _ _ _ (.inr rfl) w') ?_
            refine r_true rfl ?_
            refine r_dp rfl ?_
            refine r_ldN (sh := .str) sl lowP ?_
            refine r_pur _ (fun w' => run_leq_str _ _ _ _ _ w') ?_
            by_cases hb : (Op.bytesLess nmv.toList sl.toList || nmv.toList == sl.toList) = true
            · refine r_true hb ?_
              exact ⟨true, rfl, by simp only [lowBad]; rw [hb]; rfl, h⟩
            · have hb' : (Op.bytesLess nmv.toList sl.toList || nmv.toList == sl.toList) = false := by simpa using hb
              refine r_false hb' ?_
              cases high with
              | none =>
                have hhin : hi = none := by cases hi with
                  | none => rfl
                  | some s => exact highP.elim
                subst hhin
                refine r_pur _ (fun w' => run_neq_ptr (e := ty_string) (by kernel_rfl) _ _ _ _ (.inr rfl) w') ?_
                refine r_false rfl ?_
                exact ⟨false, rfl, by simp only [lowBad, highBad]; rw [hb']; rfl, h⟩
              | some ah =>
                obtain ⟨sh, rfl⟩ : ∃ s, hi = some s := by cases hi with
                  | none => exact highP.elim
                  | some s => exact ⟨s, rfl⟩
                refine r_pur _ (fun w' => run_neq_ptr (e := ty_string) (by kernel_rfl) _ _ _ _ (.inr rfl) w') ?_
                refine r_true rfl ?_
                refine r_dp rfl ?_
                refine r_ldN (sh := .str) sh highP ?_
                refine r_pur _ (fun w' => run_geq_str _ _ _ _ _ w') ?_
                exact ⟨_, rfl, by simp only [lowBad, highBad]; rw [hb']; simp, h⟩
        · refine r_false rfl ?_
          exact ⟨false, rfl, by simp, by rw [hloose] at h; exact h⟩
    · refine r_true rfl ?_
      refine r_ldA h 2 rfl rfl (by simp [hk.1]) ?_
      refine r_stP h 3 (o := 35) rfl (add_lit _ _ _) (by simp [hk.1]) (by rw [hms]; omega) (by simpa using u8s_one) fun w4 h => ?_
      rw [mapC_setWant he hw] at h
      refine r_pur (sh := .agg) _ run_noNode ?_
      refine r_stA h 1 rfl rfl rfl rfl zeroNode_one fun w5 h => ?_
      refine r_ldA h 1 rfl rfl rfl ?_
      exact r_retR (.inl ⟨hmem, rfl, At.right (A := [_, _, _]) h⟩)
  · refine r_draw h fun w3 h => ?_
    have lp : ∀ {w' : World} {V : List Blk}, At w0 w' (V ++ (bl, mapC p e many loose want, ty_impl_mapper) :: rest) → ldOk w' 1 ((⟨bl, 0, none⟩ : Addr).add 0) .ptr p := fun h => ldOk_own h.right 0 rfl 0 rfl (by simp [Sh.emb])
    refine r_ldN (sh := .ptr) p (lp h) ?_
    refine r_ldA h 1 rfl rfl (by simp [hk.1]) ?_
    refine r_all2 ?_ ?_
    · refine r_call h (c_get (hs.at h) hasc (by omega) hk (by omega)) fun r22 w4 h _ hr => ?_
      obtain ⟨g1, g2⟩ := got hr
      refine r_new h fun b10 w5 h => ?_
      refine r_stA h 0 rfl rfl g1 rfl g2 fun w6 h => ?_
      exact ⟨(⟨b10, 0, none⟩, r22.2), rfl, b10, r22, rfl, h, hr⟩
    · refine r_new h fun b10 w5 h => ?_
      have h : At w0 w5 ([(b10, #[.int .u8 0, .slice none 0 0], ty_impl_Blob), (b8, zeroNode, ty_impl_MapNode), (b5, (u8s k).toArray, ty_impl_Key)] ++ (bl, mapC p e many loose want, ty_impl_mapper) :: rest) := h
      refine r_chk2 ?_ ?_ ?_
      · exact ldOk_blk h 2 rfl (by simp [hk.1])
      · exact lp h
      refine r_call h (c_get (hs.at h) hasc (by omega) hk (by omega)) fun r22 w6 h _ hr => ?_
      obtain ⟨g1, g2⟩ := got hr
      refine r_stA h 0 rfl rfl g1 rfl g2 fun w7 h => ?_
      exact ⟨(⟨b10, 0, none⟩, r22.2), rfl, b10, r22, rfl, h, hr⟩)

theorem c_toldC (c : Int) : RetP Tryz.prog n_impl_toldCode [.int .i64 c] [.int .i64] (if c = 6 then 4 else c) := fun w => impl_toldCode_calls c (by
  unfold impl_toldCode
  refine r_eq (fun h => ?_) (fun h => ?_)
  · rw [if_pos h]; exact r_retP rfl
  · rw [if_neg h]; exact r_retP rfl)

/-- A new mapper. -/
theorem c_newMapper (p : Addr) (w : World) : Ret Tryz.prog n_impl_newMapper [.pointer (some p)] w [.ptr] (fun r w' => ∃ b, r = ⟨b, 0, none⟩ ∧ At w w' [(b, mapC p emptyKey 0 false zero32, ty_impl_mapper)]) := impl_newMapper_calls _ (by
  unfold impl_newMapper
  refine r_call (At.refl w) (c_EmptyMapKey _) fun r w1 h _ hr => ?_
  subst hr
  refine r_pur (sh := .agg) _ (run_mkMapper emptyKey_ok p) ?_
  refine r_new h fun b6 w2 h => ?_
  exact r_ret h.nil (⟨b6, 0, none⟩ : Addr) rfl ⟨b6, rfl, h⟩)
theorem c_copyMapper (p : Addr) (w : World) : Ret Tryz.prog n_impl_copyMapper [.pointer (some p)] w [.ptr] (fun r w' => ∃ b, r = ⟨b, 0, none⟩ ∧ At w w' [(b, mapC p emptyKey 0 true zero32, ty_impl_mapper)]) := impl_copyMapper_calls _ (by
  unfold impl_copyMapper
  refine r_call (At.refl w) (c_newMapper p w) fun r w1 h _ ⟨b, hr, hL⟩ => ?_
  subst hr
  refine r_st hL 0 (o := 34) rfl (by simp [add_lit]) (by rw [mapC_size emptyKey_ok zero32_ok]; omega) rfl fun w2 h => ?_
  rw [mapC_setLoose emptyKey_ok] at h
  exact r_ret h.nil (⟨b, 0, none⟩ : Addr) rfl ⟨b, rfl, h⟩)

/-! ### The reference's node -/
theorem c_l08Node {w : World} {p : Addr} {B : List PB} {bs : List BR} {k : List Int} (hs : SpecR w p (keysOf B) bs) (hpb : bs.map BR.pb = B) (hv : validS B) (hk : keyOk k) :
    Ret Tryz.prog n_spec_l08Node [.pointer (some p), .agg (u8s k).toArray] w [.agg, .int .i64] (fun r _ => r.1.size = 66 ∧ (∀ v ∈ r.1.toList, oneC v = true) ∧ ((k ∉ keysOf B ∧ r.2 = 4) ∨ (k ∈ keysOf B ∧ ¬ nodeGood (blobAt B k) ∧ r.2 = 8) ∨ (k ∈ keysOf B ∧ nodeGood (blobAt B k) ∧ bytesOk (blobAt B k).data ∧ r = ((nodeCells (blobAt B k).data).toArray, 0)))) := spec_l08Node_calls _ _ (by
  unfold spec_l08Node
  have hB128 : B.length ≤ 128 := hv.1
  have hkl : (keysOf B).length = B.length := keysOf_len B
  have hasc : Asc (keysOf B) := hv.2.2
  have hbl : bs.length = B.length := by rw [← hpb]; simp
  obtain ⟨sk, sb, e1, e2, hK, hBs⟩ := hs.ex
  have hsbn := hBs.n
  refine r_new (At.refl w) fun b3 w1 h => ?_
  refine r_new h fun b4 w2 h => ?_
  have h : At w w2 [(b4, zeroNode, ty_impl_MapNode), (b3, (u8s k).toArray, ty_impl_Key)] := h
  refine r_ldA h 1 rfl rfl (by simp [hk.1]) ?_
  refine r_call h (c_spec_find (hs.at h) hasc hk (by omega)) fun r11 w3 h _ hr => ?_
  subst hr
  by_cases hm : k ∈ keysOf B
  · rw [if_pos hm]
    have hpos := (posK_mem hasc).1 hm
    have hplt := (List.getElem?_eq_some_iff.1 hpos).1
    refine r_if ((posK (keysOf B) k : Int) < 0) rfl (fun hh => by omega) (fun _ => ?_)
    refine r_ldN sb (ldOk_below h.below (e2 1)) ?_
    obtain ⟨bb, pb, hbb, hbm, hpb', hbat, _⟩ := hBs.bat (i := posK (keysOf B) k) (by omega)
    have hBb := pb_get hpb hbb
    have hbe : blobAt B k = bb.pb := by unfold blobAt; simp [List.getD, hBb]
    have hpt : bb.pb.tag = bb.tag := rfl
    have hpd : bb.pb.data = bb.data := rfl
    have hdb : bb.data.length ≤ 1024 := hv.2.1 bb.pb (List.mem_of_getElem? hBb)
    rw [hbe]
    refine r_ix pb hpb' (by omega) (by omega) ?_
    simp only [Int.toNat_natCast]
    refine r_ldN bb.d (ldOk_below h.below (hbat.d 1)) ?_
    refine r_call h (c_l04Read (hbat.ok.bytes.at h) (by omega)) fun r24 w4 h _ ⟨hr1, hr2, hr3, hr4⟩ => ?_
    refine r_new h fun b7 w5 h => ?_
    refine r_stA h 0 rfl rfl hr2 rfl hr3 fun w6 h => ?_
    have h : At w w6 [(b7, r24.1, ty_impl_MapNode), (b4, zeroNode, ty_impl_MapNode), (b3, (u8s k).toArray, ty_impl_Key)] := h
    by_cases hno : nodeOk bb.data
    · refine r_false (by rw [hr1, decide_eq_true hno]; rfl) ?_
      refine r_ldN sb (ldOk_below h.below (e2 1)) ?_
      refine r_ix pb hpb' (by omega) (by omega) ?_
      simp only [Int.toNat_natCast]
      refine r_ldN (sh := .int .u8) bb.tag (ldOk_below h.below (hbat.tag 1)) ?_
      refine r_ne (fun hne => ?_) (fun heq => ?_)
      · refine r_pur (sh := .agg) _ run_noNode ?_
        refine r_stA h 1 rfl rfl rfl rfl zeroNode_one fun w7 h => ?_
        refine r_ldA h 1 rfl rfl rfl ?_
        exact r_ret h.nil (zeroNode, (8 : Int)) rfl ⟨rfl, zeroNode_one, .inr (.inl ⟨hm, fun hh => hne hh.1, rfl⟩)⟩
      · refine r_ldA h 0 rfl rfl hr2 ?_
        refine r_stA h 1 rfl rfl hr2 rfl hr3 fun w7 h => ?_
        refine r_ldA h 1 rfl rfl hr2 ?_
        exact r_ret h.nil (r24.1, (0 : Int)) rfl ⟨hr2, hr3, .inr (.inr ⟨hm, ⟨heq, hno⟩, hbat.ok.bytes.ok, by rw [hr4 hno]; rfl⟩)⟩
    · refine r_true (by rw [hr1, decide_eq_false hno]; rfl) ?_
      refine r_pur (sh := .agg) _ run_noNode ?_
      refine r_stA h 1 rfl rfl rfl rfl zeroNode_one fun w7 h => ?_
      refine r_ldA h 1 rfl rfl rfl ?_
      exact r_ret h.nil (zeroNode, (8 : Int)) rfl ⟨rfl, zeroNode_one, .inr (.inl ⟨hm, fun hh => hno hh.2, rfl⟩)⟩
  · rw [if_neg hm]
    refine r_true rfl ?_
    refine r_pur (sh := .agg) _ run_noNode ?_
    refine r_stA h 0 rfl rfl rfl rfl zeroNode_one fun w7 h => ?_
    refine r_ldA h 0 rfl rfl rfl ?_
    exact r_ret h.nil (zeroNode, (4 : Int)) rfl ⟨rfl, zeroNode_one, .inl ⟨hm, rfl⟩⟩)
end Go.Proofs.YtffedfdhhglmkaaGreat
