/- More kinds of values of which laws speak: bytes. -/
import Derived.Test.YtffedfdhhglmkaaGreatV5
import Derived.Test.YtffedfdhhglmkaaGreatW1
import Derived.Test.YtffedfdhhglmkaaGreatR1
namespace Go.Proofs.YtffedfdhhglmkaaGreat
open Go.Sx Go.RowKit

def RdByteS (w : World) (s : Sl) (l : List Int) : Prop := BSl w s l
theorem RdByteS.at {w w' : World} {ls : List Blk} {s : Sl} {l : List Int} (h : RdByteS w s l) (hA : At w w' ls) : RdByteS w' s l := BSl.at h hA
def OwnByteS (s : Sl) (l : List Int) (L : List Blk) : Prop := OwnS ty_uint8 1 s (u8s l) L ∧ bytesOk l
theorem OwnByteS.rd {w0 w : World} {s : Sl} {l : List Int} {L ls : List Blk} (h : OwnByteS s l L) (hA : At w0 w (L ++ ls)) : RdByteS w s l := ownS_bytes h.1 hA (List.sublist_append_left _ _) h.2
theorem OwnByteS.none : OwnByteS ⟨none, 0, 0⟩ [] [] := ⟨OwnS.nil _ _, by intro b hb; cases hb⟩
def RawByteS (w : World) (s : Sl) (l : List Int) : Prop := BSl w s l ∧ s.c ≤ maxLen
theorem RawByteS.rd {w : World} {s : Sl} {l : List Int} (h : RawByteS w s l) : RdByteS w s l := h.1
def sizeByteS (l : List Int) : Nat := l.length
def markByteS (k : Int) (l : List Int) : List Int := marks k l.length
theorem c_szByteSV {w : World} {s : Sl} {l : List Int} (h : RawByteS w s l) {w1 : World} (_ : Below w.heap.size w w1) (m : Int) (hm : 0 ≤ m ∧ m ≤ 1073741824) : Ret Tryz.prog n_laws_szByteS [.slice s.a s.n s.c, .int .i64 m] w1 [.int .i64] (fun x _ => x = if (sizeByteS l : Int) ≤ m then m - sizeByteS l else -1) := by
  have hn := h.1.n
  have h1 := h.1.cap
  have h2 := h.2
  unfold maxLen at h2
  refine ((c_szByteS s m hm (by omega)).ret w1).mono fun x w' _ hx => ?_
  obtain ⟨rfl, _⟩ := hx
  unfold sizeByteS
  rw [hn]
theorem c_toByteSV {w : World} {s : Sl} {l : List Int} (h : RdByteS w s l) (hz : sizeByteS l ≤ 1073741824) : Ret Tryz.prog n_laws_toByteS [.slice s.a s.n s.c] w [.slice] (fun r w' => ∃ L, At w w' L ∧ OwnByteS r l L) :=
  (c_toByteS (s := s) (l := l) h hz).mono fun _ _ _ ⟨L, h1, h2⟩ => ⟨L, h1, h2, BSl.ok h⟩
theorem c_eqByteSV {w : World} {s t : Sl} {l : List Int} (h : RdByteS w s l) (h' : RdByteS w t l) (hz : sizeByteS l ≤ 1073741824) : Ret Tryz.prog n_laws_eqByteS [.slice s.a s.n s.c, .slice t.a t.n t.c] w [.bool] (fun x _ => x = true) := c_eqByteS h h' hz
theorem c_markByteSV {w0 w : World} {ls L : List Blk} {s : Sl} {l : List Int} (hA : At w0 w (L ++ ls)) (hO : OwnByteS s l L) (k : Int) (h0 : 0 ≤ k) (hmax : k + sizeByteS l ≤ 4611686018427387904) :
    Calls Tryz.prog n_laws_markByteS [.slice s.a s.n s.c, .int .i64 k].toArray w fun e w' => ∃ v, e = .returned v ∧ v = .int .i64 (k + sizeByteS l) ∧ ∃ L', At w0 w' (L' ++ ls) ∧ OwnByteS s (markByteS k l) L' :=
  (c_markByteS hA hO.1 k h0 hmax).mono fun _ _ ⟨v, h1, h2, L', h3, h4⟩ => ⟨v, h1, h2, L', h3, h4, marks_ok _ _⟩
theorem c_heldByteSV {w : World} {s : Sl} {l : List Int} (k : Int) (h : RdByteS w s (markByteS k l)) (h0 : 0 ≤ k) (hmax : k + sizeByteS l ≤ 4611686018427387904) : Ret Tryz.prog n_laws_heldByteS [.slice s.a s.n s.c, .int .i64 k] w [.int .i64] (fun x _ => x = k + sizeByteS l) := c_heldByteS (n := l.length) k h h0 hmax
end Go.Proofs.YtffedfdhhglmkaaGreat
