/- What the walks of the exact laws need: groups of blocks pulled to the front and put back, sizes. Printed in part. -/
import Derived.Test.YtffedfdhhglmkaaGreatV3
namespace Go.Sx
open Go.RowKit (Below)
variable {P : Program} {R : Value → World → Prop} {w0 w : World}

theorem r_joinI {σ : Type} {emb : σ → List Value} {rest : σ → World → Prop} {body : (List Value → World → Prop) → World → Prop} (hb : body (fun vs w' => ∃ s', emb s' = vs ∧ rest s' w') w) : ((real P R).join σ emb rest body : World → Prop) w := ⟨rest, fun _ _ h => h, hb⟩
theorem At.pl1 {V G1 X : List Blk} (h : At w0 w (V ++ (G1 ++ X))) : At w0 w (G1 ++ (V ++ X)) := h.rot
theorem At.ps1 {V G1 X : List Blk} (h : At w0 w (G1 ++ (V ++ X))) : At w0 w (V ++ (G1 ++ X)) := h.rot
theorem At.dr1 {V G1 X : List Blk} (h : At w0 w (V ++ (G1 ++ X))) : At w0 w (V ++ X) := h.pl1.right
theorem At.pl2 {V G1 G2 X : List Blk} (h : At w0 w (V ++ (G1 ++ (G2 ++ X)))) : At w0 w (G2 ++ (V ++ (G1 ++ X))) := by
  rw [← List.append_assoc V G1] at h
  have h := At.pl1 h
  rwa [List.append_assoc V G1] at h
theorem At.ps2 {V G1 G2 X : List Blk} (h : At w0 w (G2 ++ (V ++ (G1 ++ X)))) : At w0 w (V ++ (G1 ++ (G2 ++ X))) := by
  rw [← List.append_assoc V G1] at h
  have h := At.ps1 h
  rwa [List.append_assoc V G1] at h
theorem At.dr2 {V G1 G2 X : List Blk} (h : At w0 w (V ++ (G1 ++ (G2 ++ X)))) : At w0 w (V ++ (G1 ++ X)) := h.pl2.right
theorem At.pl3 {V G1 G2 G3 X : List Blk} (h : At w0 w (V ++ (G1 ++ (G2 ++ (G3 ++ X))))) : At w0 w (G3 ++ (V ++ (G1 ++ (G2 ++ X)))) := by
  rw [← List.append_assoc V G1] at h
  have h := At.pl2 h
  rwa [List.append_assoc V G1] at h
theorem At.ps3 {V G1 G2 G3 X : List Blk} (h : At w0 w (G3 ++ (V ++ (G1 ++ (G2 ++ X))))) : At w0 w (V ++ (G1 ++ (G2 ++ (G3 ++ X)))) := by
  rw [← List.append_assoc V G1] at h
  have h := At.ps2 h
  rwa [List.append_assoc V G1] at h
theorem At.dr3 {V G1 G2 G3 X : List Blk} (h : At w0 w (V ++ (G1 ++ (G2 ++ (G3 ++ X))))) : At w0 w (V ++ (G1 ++ (G2 ++ X))) := h.pl3.right
theorem At.pl4 {V G1 G2 G3 G4 X : List Blk} (h : At w0 w (V ++ (G1 ++ (G2 ++ (G3 ++ (G4 ++ X)))))) : At w0 w (G4 ++ (V ++ (G1 ++ (G2 ++ (G3 ++ X))))) := by
  rw [← List.append_assoc V G1] at h
  have h := At.pl3 h
  rwa [List.append_assoc V G1] at h
theorem At.ps4 {V G1 G2 G3 G4 X : List Blk} (h : At w0 w (G4 ++ (V ++ (G1 ++ (G2 ++ (G3 ++ X)))))) : At w0 w (V ++ (G1 ++ (G2 ++ (G3 ++ (G4 ++ X))))) := by
  rw [← List.append_assoc V G1] at h
  have h := At.ps3 h
  rwa [List.append_assoc V G1] at h
theorem At.dr4 {V G1 G2 G3 G4 X : List Blk} (h : At w0 w (V ++ (G1 ++ (G2 ++ (G3 ++ (G4 ++ X)))))) : At w0 w (V ++ (G1 ++ (G2 ++ (G3 ++ X)))) := h.pl4.right
theorem At.pl5 {V G1 G2 G3 G4 G5 X : List Blk} (h : At w0 w (V ++ (G1 ++ (G2 ++ (G3 ++ (G4 ++ (G5 ++ X))))))) : At w0 w (G5 ++ (V ++ (G1 ++ (G2 ++ (G3 ++ (G4 ++ X)))))) := by
  rw [← List.append_assoc V G1] at h
  have h := At.pl4 h
  rwa [List.append_assoc V G1] at h
theorem At.ps5 {V G1 G2 G3 G4 G5 X : List Blk} (h : At w0 w (G5 ++ (V ++ (G1 ++ (G2 ++ (G3 ++ (G4 ++ X))))))) : At w0 w (V ++ (G1 ++ (G2 ++ (G3 ++ (G4 ++ (G5 ++ X)))))) := by
  rw [← List.append_assoc V G1] at h
  have h := At.ps4 h
  rwa [List.append_assoc V G1] at h
theorem At.dr5 {V G1 G2 G3 G4 G5 X : List Blk} (h : At w0 w (V ++ (G1 ++ (G2 ++ (G3 ++ (G4 ++ (G5 ++ X))))))) : At w0 w (V ++ (G1 ++ (G2 ++ (G3 ++ (G4 ++ X))))) := h.pl5.right
theorem At.pl6 {V G1 G2 G3 G4 G5 G6 X : List Blk} (h : At w0 w (V ++ (G1 ++ (G2 ++ (G3 ++ (G4 ++ (G5 ++ (G6 ++ X)))))))) : At w0 w (G6 ++ (V ++ (G1 ++ (G2 ++ (G3 ++ (G4 ++ (G5 ++ X))))))) := by
  rw [← List.append_assoc V G1] at h
  have h := At.pl5 h
  rwa [List.append_assoc V G1] at h
theorem At.ps6 {V G1 G2 G3 G4 G5 G6 X : List Blk} (h : At w0 w (G6 ++ (V ++ (G1 ++ (G2 ++ (G3 ++ (G4 ++ (G5 ++ X)))))))) : At w0 w (V ++ (G1 ++ (G2 ++ (G3 ++ (G4 ++ (G5 ++ (G6 ++ X))))))) := by
  rw [← List.append_assoc V G1] at h
  have h := At.ps5 h
  rwa [List.append_assoc V G1] at h
theorem At.dr6 {V G1 G2 G3 G4 G5 G6 X : List Blk} (h : At w0 w (V ++ (G1 ++ (G2 ++ (G3 ++ (G4 ++ (G5 ++ (G6 ++ X)))))))) : At w0 w (V ++ (G1 ++ (G2 ++ (G3 ++ (G4 ++ (G5 ++ X)))))) := h.pl6.right
theorem At.pl7 {V G1 G2 G3 G4 G5 G6 G7 X : List Blk} (h : At w0 w (V ++ (G1 ++ (G2 ++ (G3 ++ (G4 ++ (G5 ++ (G6 ++ (G7 ++ X))))))))) : At w0 w (G7 ++ (V ++ (G1 ++ (G2 ++ (G3 ++ (G4 ++ (G5 ++ (G6 ++ X)))))))) := by
  rw [← List.append_assoc V G1] at h
  have h := At.pl6 h
  rwa [List.append_assoc V G1] at h
theorem At.ps7 {V G1 G2 G3 G4 G5 G6 G7 X : List Blk} (h : At w0 w (G7 ++ (V ++ (G1 ++ (G2 ++ (G3 ++ (G4 ++ (G5 ++ (G6 ++ X))))))))) : At w0 w (V ++ (G1 ++ (G2 ++ (G3 ++ (G4 ++ (G5 ++ (G6 ++ (G7 ++ X)))))))) := by
  rw [← List.append_assoc V G1] at h
  have h := At.ps6 h
  rwa [List.append_assoc V G1] at h
theorem At.dr7 {V G1 G2 G3 G4 G5 G6 G7 X : List Blk} (h : At w0 w (V ++ (G1 ++ (G2 ++ (G3 ++ (G4 ++ (G5 ++ (G6 ++ (G7 ++ X))))))))) : At w0 w (V ++ (G1 ++ (G2 ++ (G3 ++ (G4 ++ (G5 ++ (G6 ++ X))))))) := h.pl7.right
theorem At.pl8 {V G1 G2 G3 G4 G5 G6 G7 G8 X : List Blk} (h : At w0 w (V ++ (G1 ++ (G2 ++ (G3 ++ (G4 ++ (G5 ++ (G6 ++ (G7 ++ (G8 ++ X)))))))))) : At w0 w (G8 ++ (V ++ (G1 ++ (G2 ++ (G3 ++ (G4 ++ (G5 ++ (G6 ++ (G7 ++ X))))))))) := by
  rw [← List.append_assoc V G1] at h
  have h := At.pl7 h
  rwa [List.append_assoc V G1] at h
theorem At.ps8 {V G1 G2 G3 G4 G5 G6 G7 G8 X : List Blk} (h : At w0 w (G8 ++ (V ++ (G1 ++ (G2 ++ (G3 ++ (G4 ++ (G5 ++ (G6 ++ (G7 ++ X)))))))))) : At w0 w (V ++ (G1 ++ (G2 ++ (G3 ++ (G4 ++ (G5 ++ (G6 ++ (G7 ++ (G8 ++ X))))))))) := by
  rw [← List.append_assoc V G1] at h
  have h := At.ps7 h
  rwa [List.append_assoc V G1] at h
theorem At.dr8 {V G1 G2 G3 G4 G5 G6 G7 G8 X : List Blk} (h : At w0 w (V ++ (G1 ++ (G2 ++ (G3 ++ (G4 ++ (G5 ++ (G6 ++ (G7 ++ (G8 ++ X)))))))))) : At w0 w (V ++ (G1 ++ (G2 ++ (G3 ++ (G4 ++ (G5 ++ (G6 ++ (G7 ++ X)))))))) := h.pl8.right
theorem At.pl9 {V G1 G2 G3 G4 G5 G6 G7 G8 G9 X : List Blk} (h : At w0 w (V ++ (G1 ++ (G2 ++ (G3 ++ (G4 ++ (G5 ++ (G6 ++ (G7 ++ (G8 ++ (G9 ++ X))))))))))) : At w0 w (G9 ++ (V ++ (G1 ++ (G2 ++ (G3 ++ (G4 ++ (G5 ++ (G6 ++ (G7 ++ (G8 ++ X)))))))))) := by
  rw [← List.append_assoc V G1] at h
  have h := At.pl8 h
  rwa [List.append_assoc V G1] at h
theorem At.ps9 {V G1 G2 G3 G4 G5 G6 G7 G8 G9 X : List Blk} (h : At w0 w (G9 ++ (V ++ (G1 ++ (G2 ++ (G3 ++ (G4 ++ (G5 ++ (G6 ++ (G7 ++ (G8 ++ X))))))))))) : At w0 w (V ++ (G1 ++ (G2 ++ (G3 ++ (G4 ++ (G5 ++ (G6 ++ (G7 ++ (G8 ++ (G9 ++ X)))))))))) := by
  rw [← List.append_assoc V G1] at h
  have h := At.ps8 h
  rwa [List.append_assoc V G1] at h
theorem At.dr9 {V G1 G2 G3 G4 G5 G6 G7 G8 G9 X : List Blk} (h : At w0 w (V ++ (G1 ++ (G2 ++ (G3 ++ (G4 ++ (G5 ++ (G6 ++ (G7 ++ (G8 ++ (G9 ++ X))))))))))) : At w0 w (V ++ (G1 ++ (G2 ++ (G3 ++ (G4 ++ (G5 ++ (G6 ++ (G7 ++ (G8 ++ X))))))))) := h.pl9.right
theorem At.pl10 {V G1 G2 G3 G4 G5 G6 G7 G8 G9 G10 X : List Blk} (h : At w0 w (V ++ (G1 ++ (G2 ++ (G3 ++ (G4 ++ (G5 ++ (G6 ++ (G7 ++ (G8 ++ (G9 ++ (G10 ++ X)))))))))))) : At w0 w (G10 ++ (V ++ (G1 ++ (G2 ++ (G3 ++ (G4 ++ (G5 ++ (G6 ++ (G7 ++ (G8 ++ (G9 ++ X))))))))))) := by
  rw [← List.append_assoc V G1] at h
  have h := At.pl9 h
  rwa [List.append_assoc V G1] at h
theorem At.ps10 {V G1 G2 G3 G4 G5 G6 G7 G8 G9 G10 X : List Blk} (h : At w0 w (G10 ++ (V ++ (G1 ++ (G2 ++ (G3 ++ (G4 ++ (G5 ++ (G6 ++ (G7 ++ (G8 ++ (G9 ++ X)))))))))))) : At w0 w (V ++ (G1 ++ (G2 ++ (G3 ++ (G4 ++ (G5 ++ (G6 ++ (G7 ++ (G8 ++ (G9 ++ (G10 ++ X))))))))))) := by
  rw [← List.append_assoc V G1] at h
  have h := At.ps9 h
  rwa [List.append_assoc V G1] at h
theorem At.dr10 {V G1 G2 G3 G4 G5 G6 G7 G8 G9 G10 X : List Blk} (h : At w0 w (V ++ (G1 ++ (G2 ++ (G3 ++ (G4 ++ (G5 ++ (G6 ++ (G7 ++ (G8 ++ (G9 ++ (G10 ++ X)))))))))))) : At w0 w (V ++ (G1 ++ (G2 ++ (G3 ++ (G4 ++ (G5 ++ (G6 ++ (G7 ++ (G8 ++ (G9 ++ X)))))))))) := h.pl10.right

end Go.Sx
namespace Go.Proofs.YtffedfdhhglmkaaGreat
open Go.Sx Go.RowKit
theorem RdKey.sz {w : World} {r : Array Value} {k : List Int} (h : RdKey w r k) : r.size = 32 := by rw [h.1]; simp [h.2.1]
theorem RdKey.one {w : World} {r : Array Value} {k : List Int} (h : RdKey w r k) : ∀ v ∈ r.toList, oneC v = true := by rw [h.1]; simpa using u8s_one
theorem OwnKey.sz {r : Array Value} {k : List Int} {L : List Blk} (h : OwnKey r k L) : r.size = 32 := by rw [h.1]; simp [h.2.1.1]
theorem OwnKey.one {r : Array Value} {k : List Int} {L : List Blk} (h : OwnKey r k L) : ∀ v ∈ r.toList, oneC v = true := by rw [h.1]; simpa using u8s_one
theorem RawStore.sz {w : World} {r : Array Value} {B : List PB} (h : RawStore w r B) : r.size = 1 := by obtain ⟨s, bs, rfl, _⟩ := h; rfl
theorem RawStore.one {w : World} {r : Array Value} {B : List PB} (h : RawStore w r B) : ∀ v ∈ r.toList, oneC v = true := by obtain ⟨s, bs, rfl, _⟩ := h; simp [oneC]
theorem OwnStore.sz {r : Array Value} {B : List PB} {L : List Blk} (h : OwnStore r B L) : r.size = 1 := by obtain ⟨s, bs, rfl, _⟩ := h; rfl
theorem OwnStore.one {r : Array Value} {B : List PB} {L : List Blk} (h : OwnStore r B L) : ∀ v ∈ r.toList, oneC v = true := by obtain ⟨s, bs, rfl, _⟩ := h; simp [oneC]
theorem OwnBlob.sz {r : Array Value} {B : PB} {L : List Blk} (h : OwnBlob r B L) : r.size = 2 := by obtain ⟨b, rfl, _⟩ := h; rfl
theorem OwnBlob.one {r : Array Value} {B : PB} {L : List Blk} (h : OwnBlob r B L) : ∀ v ∈ r.toList, oneC v = true := by obtain ⟨b, rfl, _⟩ := h; simpa using cells_one b
end Go.Proofs.YtffedfdhhglmkaaGreat
