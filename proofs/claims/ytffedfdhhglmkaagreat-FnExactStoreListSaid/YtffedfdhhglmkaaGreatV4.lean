/- More kinds of values of which laws speak: raw blobs; keys compared. -/
import Derived.Test.YtffedfdhhglmkaaGreatR1
namespace Go.Sx
theorem At.sw2 {w0 w : World} {a b : Blk} {l : List Blk} (h : At w0 w (a :: b :: l)) : At w0 w (b :: a :: l) := h.perm (List.Perm.swap _ _ _)
end Go.Sx
namespace Go.Proofs.YtffedfdhhglmkaaGreat
open Go.Sx Go.RowKit

def RawBlob (w : World) (r : Array Value) (B : PB) : Prop := ∃ b : BR, r = b.cells.toArray ∧ b.pb = B ∧ b.Ok w ∧ b.d.c ≤ maxLen
theorem RawBlob.rd {w : World} {r : Array Value} {B : PB} (h : RawBlob w r B) : RdBlob w r B := let ⟨b, h1, h2, h3, _⟩ := h; ⟨b, h1, h2, h3⟩
theorem RawBlob.sz {w : World} {r : Array Value} {B : PB} (h : RawBlob w r B) : r.size = 2 := by obtain ⟨b, rfl, _⟩ := h; rfl
theorem RawBlob.one {w : World} {r : Array Value} {B : PB} (h : RawBlob w r B) : ∀ v ∈ r.toList, oneC v = true := by obtain ⟨b, rfl, _⟩ := h; simpa using cells_one b
theorem c_szBlobV {w : World} {r : Array Value} {B : PB} (h : RawBlob w r B) {w1 : World} (hb : Below w.heap.size w w1) (m : Int) (hm : 0 ≤ m ∧ m ≤ 1073741824) : Ret Tryz.prog n_laws_szBlob [.agg r, .int .i64 m] w1 [.int .i64] (fun x _ => x = if (sizeBlob B : Int) ≤ m then m - sizeBlob B else -1) := by
  obtain ⟨b, rfl, rfl, h3, h4⟩ := h
  unfold maxLen at h4
  exact c_szBlob (h3.below hb) m hm (by have := h3.bytes.cap; omega)
theorem c_toBlobV {w : World} {r : Array Value} {B : PB} (h : RdBlob w r B) (hz : sizeBlob B ≤ 1073741824) : Ret Tryz.prog n_laws_toBlob [.agg r] w [.agg] (fun r' w' => ∃ L, At w w' L ∧ OwnBlob r' B L) := by
  obtain ⟨b, rfl, rfl, h3⟩ := h
  exact (c_toBlob h3 hz).mono fun x w' _ ⟨b', L, h1, h2, h4, h5⟩ => ⟨L, h4, b', h1, h2, h5, h3.pb⟩

set_option maxRecDepth 100000 in
theorem open_Blob {H : Type} {enc : TypeId × Value → H} {w : World} {base : Nat} {spare : Nat → Bool} {held : Bool} {r : Reach} {b0 : Nat} {v : Value} {d : DataW H} {ps : List MemPlace} (hval : Value.okWide Tryz.prog w r b0 ty_laws_Blob v) (hd : DataW.Trod enc Tryz.prog w base spare held ty_laws_Blob v d ps) : ∃ (x : Array Value) (B : PB), v = .agg x ∧ RawBlob w x B := by
  have hb : structB Tryz.prog ty_laws_Blob [(ty_uint8, 0), (ty_sl_uint8, 1)] = true := by kernel_rfl
  obtain ⟨cs, rfl⟩ := okWide_structB hb hval
  obtain ⟨fuel, hf⟩ := hd
  obtain ⟨c, d, l, h1, h2, h3, h4, h5, h6⟩ := trod_tagged (b := ty_uint8) (s := ty_sl_uint8) (e := ty_uint8) hb (by kernel_rfl) (by kernel_rfl) (by kernel_rfl) (by kernel_rfl) (by kernel_rfl) (by kernel_rfl) (by kernel_rfl) hf
  have hcs : cs = #[.int .u8 c, .slice d.a d.n d.c] := by
    have : cs.toList = [.int .u8 c, .slice d.a d.n d.c] := h1
    rw [← Array.toArray_toList (xs := cs), this]
  subst hcs
  exact ⟨_, ⟨c, l⟩, rfl, ⟨c, d, l⟩, rfl, rfl, ⟨⟨h3, h4, h5⟩, h2.1, h2.2⟩, h6⟩

theorem c_eqKey_same {a : List Int} (ha : a.length = 32) (w : World) : Ret Tryz.prog n_laws_eqKey [.agg (u8s a).toArray, .agg (u8s a).toArray] w [.bool] (fun r _ => r = true) := laws_eqKey_calls _ _ (by
  unfold laws_eqKey
  refine r_new (At.refl w) fun b1 w1 h => ?_
  refine r_new h fun b2 w2 h => ?_
  refine r_loop (σ := Int) (fun i w' => ∃ j : Nat, i = j ∧ j ≤ 32 ∧ At w w' [(b2, (u8s a).toArray, ty_impl_Key), (b1, (u8s a).toArray, ty_impl_Key)]) (fun i _ => (32 - i).toNat) 0 rfl ⟨0, rfl, by omega, h⟩ ?_
  rintro i w8 ⟨j, rfl, hj, h⟩
  refine r_any fun _ => ?_
  refine r_if ((j : Int) < 32) rfl (fun hlt => ?_) (fun hge => ?_)
  · refine r_draw h fun w3 h => ?_
    refine r_ix ⟨b1, 0, none⟩ rfl (by omega) (by omega) ?_
    refine r_ld h 1 rfl (add_lit _ _ _) (a.getD j 0) (by simp [Sh.emb]) (by simp only [Int.toNat_natCast, Nat.zero_add, Nat.mul_one]; exact u8s_arr (by omega)) ?_
    refine r_ix ⟨b2, 0, none⟩ rfl (by omega) (by omega) ?_
    refine r_ld h 0 rfl (add_lit _ _ _) (a.getD j 0) (by simp [Sh.emb]) (by simp only [Int.toNat_natCast, Nat.zero_add, Nat.mul_one]; exact u8s_arr (by omega)) ?_
    refine r_ne (fun hh => absurd rfl hh) fun _ => ?_
    exact ⟨((j + 1 : Nat) : Int), by rw [w64 (by omega) (by omega)]; rfl, ⟨j + 1, rfl, by omega, h⟩, by omega⟩
  · exact r_ret h _ rfl rfl)
theorem c_eqKeyV {w : World} {r r' : Array Value} {k : List Int} (h : RdKey w r k) (h' : RdKey w r' k) : Ret Tryz.prog n_laws_eqKey [.agg r, .agg r'] w [.bool] (fun x _ => x = true) := by
  obtain ⟨rfl, ha, _⟩ := h
  obtain ⟨rfl, _⟩ := h'
  exact c_eqKey_same ha w
end Go.Proofs.YtffedfdhhglmkaaGreat
