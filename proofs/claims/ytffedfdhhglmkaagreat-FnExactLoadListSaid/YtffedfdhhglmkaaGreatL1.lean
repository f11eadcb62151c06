/- ChunkPartial, ListProofFromCopy: what both sides answer, plain. -/
import Derived.Test.YtffedfdhhglmkaaGreatL0
import Derived.Test.YtffedfdhhglmkaaGreatYA
import Derived.Test.YtffedfdhhglmkaaGreatV7
namespace Go.Proofs.YtffedfdhhglmkaaGreat
open Go.Sx Go.RowKit

/-- The chunk i of n below a key, the keys beside the way, the key that is missing, and a code. -/
def chunkGo (B : List PB) : Nat → List Int → Nat → Nat → List (List Int) → List Int × List (List Int) × List Int × Int
  | 0, _, _, _, _ => ([], [], zero32, 8)
  | f + 1, k, n, i, acc =>
    if k ∈ keysOf B then
      (if n ≤ 1 then (if (blobAt B k).tag = 1 then ((blobAt B k).data, acc, zero32, 0) else ([], [], zero32, 8))
       else if (blobAt B k).tag = 2 ∧ (blobAt B k).data.length = 64 then
         (if i < half n then chunkGo B f (part32 (blobAt B k).data 0) (half n) i (part32 (blobAt B k).data 32 :: acc)
          else chunkGo B f (part32 (blobAt B k).data 32) (n - half n) (i - half n) (part32 (blobAt B k).data 0 :: acc))
       else ([], [], zero32, 8))
    else ([], [], k, 4)
theorem chunkGo_succ (B : List PB) (f : Nat) (k : List Int) (n i : Nat) (acc : List (List Int)) : chunkGo B (f + 1) k n i acc = if k ∈ keysOf B then
      (if n ≤ 1 then (if (blobAt B k).tag = 1 then ((blobAt B k).data, acc, zero32, 0) else ([], [], zero32, 8))
       else if (blobAt B k).tag = 2 ∧ (blobAt B k).data.length = 64 then
         (if i < half n then chunkGo B f (part32 (blobAt B k).data 0) (half n) i (part32 (blobAt B k).data 32 :: acc)
          else chunkGo B f (part32 (blobAt B k).data 32) (n - half n) (i - half n) (part32 (blobAt B k).data 0 :: acc))
       else ([], [], zero32, 8))
    else ([], [], k, 4) := rfl
theorem blobAt_mem {B : List PB} {k : List Int} (ha : Asc (keysOf B)) (h : k ∈ keysOf B) : blobAt B k ∈ B := by
  have hp := (List.getElem?_eq_some_iff.1 ((posK_mem ha).1 h)).1
  rw [keysOf_len] at hp
  unfold blobAt
  simp only [List.getD, List.getElem?_eq_getElem hp, Option.getD_some]
  exact List.getElem_mem _
structure ChunkOk (r : List Int × List (List Int) × List Int × Int) (m f : Nat) : Prop where
  data : bytesOk r.1
  size : r.1.length ≤ 1024
  keys : ∀ x ∈ r.2.1, keyOk x
  many : r.2.1.length ≤ m + f
  want : keyOk r.2.2.1
theorem chunkOk_nil {m f : Nat} {k : List Int} (hk : keyOk k) (c : Int) : ChunkOk ([], [], k, c) m f := ⟨(by intro b hb; cases hb), by simp, by simp, by simp, hk⟩
theorem chunkGo_ok {B : List PB} (hv : validS B) (hB : ∀ b ∈ B, bytesOk b.data) : ∀ (f : Nat) (k : List Int) (n i : Nat) (acc : List (List Int)), keyOk k → (∀ x ∈ acc, keyOk x) → ChunkOk (chunkGo B f k n i acc) acc.length f
  | 0, _, _, _, _, _, _ => chunkOk_nil zero32_ok _
  | f + 1, k, n, i, acc, hk, ha => by
    rw [chunkGo_succ]
    split
    · rename_i hm
      have hb := blobAt_mem hv.2.2 hm
      have hd := hB _ hb
      split
      · split
        · exact ⟨hd, hv.2.1 _ hb, ha, by show acc.length ≤ _; omega, zero32_ok⟩
        · exact chunkOk_nil zero32_ok _
      · split
        · rename_i h64
          have k0 : keyOk (part32 (blobAt B k).data 0) := part32_key (by omega) hd
          have k1 : keyOk (part32 (blobAt B k).data 32) := part32_key (by omega) hd
          have step : ∀ (k' x : List Int) (n' i' : Nat), keyOk k' → keyOk x → ChunkOk (chunkGo B f k' n' i' (x :: acc)) acc.length (f + 1) := fun k' x n' i' hk' hx => by
            have ih := chunkGo_ok hv hB f k' n' i' (x :: acc) hk' (fun y hy => by
              rcases List.mem_cons.1 hy with rfl | hy
              · exact hx
              · exact ha y hy)
            have h2 := ih.many
            rw [List.length_cons] at h2
            exact ⟨ih.data, ih.size, ih.keys, by omega, ih.want⟩
          split
          · exact step _ _ _ _ k0 k1
          · exact step _ _ _ _ k1 k0
        · exact chunkOk_nil zero32_ok _
    · exact chunkOk_nil hk _

def leafOk (n i : Int) : Prop := (n ≥ 1 ∧ n ≤ 256) ∧ i ≥ 0 ∧ i ≤ n - 1
instance (n i : Int) : Decidable (leafOk n i) := inferInstanceAs (Decidable (_ ∧ _))
def chunkAll (B : List PB) (k : List Int) (n i : Int) : List Int × List (List Int) × List Int × Int :=
  if validS B then (if leafOk n i then chunkGo B n.toNat k n.toNat i.toNat [] else ([], [], zero32, 2)) else ([], [], zero32, 1)
def chunkAns (B : List PB) (k : List Int) (n i : Int) : List Int × List Int × Int := ((chunkAll B k n i).1, (chunkAll B k n i).2.2.1, (chunkAll B k n i).2.2.2)
def proofAns (B : List PB) (k : List Int) (n i : Int) : List (List Int) × List Int × Int := ((chunkAll B k n i).2.1, (chunkAll B k n i).2.2.1, (chunkAll B k n i).2.2.2)
theorem chunkAll_ok {B : List PB} (hB : ∀ b ∈ B, bytesOk b.data) {k : List Int} (hk : keyOk k) (n i : Int) : ChunkOk (chunkAll B k n i) 0 256 := by
  unfold chunkAll
  split
  · rename_i hv
    split
    · rename_i hl
      have h := chunkGo_ok hv hB n.toNat k n.toNat i.toNat [] hk (by simp)
      have h2 := h.many
      have := hl.1.2
      exact ⟨h.data, h.size, h.keys, by simp at h2; omega, h.want⟩
    · exact chunkOk_nil zero32_ok _
  · exact chunkOk_nil zero32_ok _
end Go.Proofs.YtffedfdhhglmkaaGreat
