/- More kinds of values of which laws speak: slices of leases. -/
import Derived.Test.YtghoeeiiaadngaaGreatV5
import Derived.Test.YtghoeeiiaadngaaGreatS2
import Derived.Test.YtghoeeiiaadngaaGreatR1
namespace Go.Sx
open Go.RowKit (Below)
variable {w0 w : World}
theorem At.pl11 {V G1 G2 G3 G4 G5 G6 G7 G8 G9 G10 G11 X : List Blk} (h : At w0 w (V ++ (G1 ++ (G2 ++ (G3 ++ (G4 ++ (G5 ++ (G6 ++ (G7 ++ (G8 ++ (G9 ++ (G10 ++ (G11 ++ (X)))))))))))))) : At w0 w (G11 ++ (V ++ (G1 ++ (G2 ++ (G3 ++ (G4 ++ (G5 ++ (G6 ++ (G7 ++ (G8 ++ (G9 ++ (G10 ++ (X))))))))))))) := by
  rw [← List.append_assoc V G1] at h
  have h := At.pl10 h
  rwa [List.append_assoc V G1] at h
theorem At.ps11 {V G1 G2 G3 G4 G5 G6 G7 G8 G9 G10 G11 X : List Blk} (h : At w0 w (G11 ++ (V ++ (G1 ++ (G2 ++ (G3 ++ (G4 ++ (G5 ++ (G6 ++ (G7 ++ (G8 ++ (G9 ++ (G10 ++ (X)))))))))))))) : At w0 w (V ++ (G1 ++ (G2 ++ (G3 ++ (G4 ++ (G5 ++ (G6 ++ (G7 ++ (G8 ++ (G9 ++ (G10 ++ (G11 ++ (X))))))))))))) := by
  rw [← List.append_assoc V G1] at h
  have h := At.ps10 h
  rwa [List.append_assoc V G1] at h
theorem At.dr11 {V G1 G2 G3 G4 G5 G6 G7 G8 G9 G10 G11 X : List Blk} (h : At w0 w (V ++ (G1 ++ (G2 ++ (G3 ++ (G4 ++ (G5 ++ (G6 ++ (G7 ++ (G8 ++ (G9 ++ (G10 ++ (G11 ++ (X)))))))))))))) : At w0 w (V ++ (G1 ++ (G2 ++ (G3 ++ (G4 ++ (G5 ++ (G6 ++ (G7 ++ (G8 ++ (G9 ++ (G10 ++ (X)))))))))))) := h.pl11.right
theorem At.pl12 {V G1 G2 G3 G4 G5 G6 G7 G8 G9 G10 G11 G12 X : List Blk} (h : At w0 w (V ++ (G1 ++ (G2 ++ (G3 ++ (G4 ++ (G5 ++ (G6 ++ (G7 ++ (G8 ++ (G9 ++ (G10 ++ (G11 ++ (G12 ++ (X))))))))))))))) : At w0 w (G12 ++ (V ++ (G1 ++ (G2 ++ (G3 ++ (G4 ++ (G5 ++ (G6 ++ (G7 ++ (G8 ++ (G9 ++ (G10 ++ (G11 ++ (X)))))))))))))) := by
  rw [← List.append_assoc V G1] at h
  have h := At.pl11 h
  rwa [List.append_assoc V G1] at h
theorem At.ps12 {V G1 G2 G3 G4 G5 G6 G7 G8 G9 G10 G11 G12 X : List Blk} (h : At w0 w (G12 ++ (V ++ (G1 ++ (G2 ++ (G3 ++ (G4 ++ (G5 ++ (G6 ++ (G7 ++ (G8 ++ (G9 ++ (G10 ++ (G11 ++ (X))))))))))))))) : At w0 w (V ++ (G1 ++ (G2 ++ (G3 ++ (G4 ++ (G5 ++ (G6 ++ (G7 ++ (G8 ++ (G9 ++ (G10 ++ (G11 ++ (G12 ++ (X)))))))))))))) := by
  rw [← List.append_assoc V G1] at h
  have h := At.ps11 h
  rwa [List.append_assoc V G1] at h
theorem At.dr12 {V G1 G2 G3 G4 G5 G6 G7 G8 G9 G10 G11 G12 X : List Blk} (h : At w0 w (V ++ (G1 ++ (G2 ++ (G3 ++ (G4 ++ (G5 ++ (G6 ++ (G7 ++ (G8 ++ (G9 ++ (G10 ++ (G11 ++ (G12 ++ (X))))))))))))))) : At w0 w (V ++ (G1 ++ (G2 ++ (G3 ++ (G4 ++ (G5 ++ (G6 ++ (G7 ++ (G8 ++ (G9 ++ (G10 ++ (G11 ++ (X))))))))))))) := h.pl12.right
theorem At.pl13 {V G1 G2 G3 G4 G5 G6 G7 G8 G9 G10 G11 G12 G13 X : List Blk} (h : At w0 w (V ++ (G1 ++ (G2 ++ (G3 ++ (G4 ++ (G5 ++ (G6 ++ (G7 ++ (G8 ++ (G9 ++ (G10 ++ (G11 ++ (G12 ++ (G13 ++ (X)))))))))))))))) : At w0 w (G13 ++ (V ++ (G1 ++ (G2 ++ (G3 ++ (G4 ++ (G5 ++ (G6 ++ (G7 ++ (G8 ++ (G9 ++ (G10 ++ (G11 ++ (G12 ++ (X))))))))))))))) := by
  rw [← List.append_assoc V G1] at h
  have h := At.pl12 h
  rwa [List.append_assoc V G1] at h
theorem At.ps13 {V G1 G2 G3 G4 G5 G6 G7 G8 G9 G10 G11 G12 G13 X : List Blk} (h : At w0 w (G13 ++ (V ++ (G1 ++ (G2 ++ (G3 ++ (G4 ++ (G5 ++ (G6 ++ (G7 ++ (G8 ++ (G9 ++ (G10 ++ (G11 ++ (G12 ++ (X)))))))))))))))) : At w0 w (V ++ (G1 ++ (G2 ++ (G3 ++ (G4 ++ (G5 ++ (G6 ++ (G7 ++ (G8 ++ (G9 ++ (G10 ++ (G11 ++ (G12 ++ (G13 ++ (X))))))))))))))) := by
  rw [← List.append_assoc V G1] at h
  have h := At.ps12 h
  rwa [List.append_assoc V G1] at h
theorem At.dr13 {V G1 G2 G3 G4 G5 G6 G7 G8 G9 G10 G11 G12 G13 X : List Blk} (h : At w0 w (V ++ (G1 ++ (G2 ++ (G3 ++ (G4 ++ (G5 ++ (G6 ++ (G7 ++ (G8 ++ (G9 ++ (G10 ++ (G11 ++ (G12 ++ (G13 ++ (X)))))))))))))))) : At w0 w (V ++ (G1 ++ (G2 ++ (G3 ++ (G4 ++ (G5 ++ (G6 ++ (G7 ++ (G8 ++ (G9 ++ (G10 ++ (G11 ++ (G12 ++ (X)))))))))))))) := h.pl13.right
theorem At.pl14 {V G1 G2 G3 G4 G5 G6 G7 G8 G9 G10 G11 G12 G13 G14 X : List Blk} (h : At w0 w (V ++ (G1 ++ (G2 ++ (G3 ++ (G4 ++ (G5 ++ (G6 ++ (G7 ++ (G8 ++ (G9 ++ (G10 ++ (G11 ++ (G12 ++ (G13 ++ (G14 ++ (X))))))))))))))))) : At w0 w (G14 ++ (V ++ (G1 ++ (G2 ++ (G3 ++ (G4 ++ (G5 ++ (G6 ++ (G7 ++ (G8 ++ (G9 ++ (G10 ++ (G11 ++ (G12 ++ (G13 ++ (X)))))))))))))))) := by
  rw [← List.append_assoc V G1] at h
  have h := At.pl13 h
  rwa [List.append_assoc V G1] at h
theorem At.ps14 {V G1 G2 G3 G4 G5 G6 G7 G8 G9 G10 G11 G12 G13 G14 X : List Blk} (h : At w0 w (G14 ++ (V ++ (G1 ++ (G2 ++ (G3 ++ (G4 ++ (G5 ++ (G6 ++ (G7 ++ (G8 ++ (G9 ++ (G10 ++ (G11 ++ (G12 ++ (G13 ++ (X))))))))))))))))) : At w0 w (V ++ (G1 ++ (G2 ++ (G3 ++ (G4 ++ (G5 ++ (G6 ++ (G7 ++ (G8 ++ (G9 ++ (G10 ++ (G11 ++ (G12 ++ (G13 ++ (G14 ++ (X)))))))))))))))) := by
  rw [← List.append_assoc V G1] at h
  have h := At.ps13 h
  rwa [List.append_assoc V G1] at h
theorem At.dr14 {V G1 G2 G3 G4 G5 G6 G7 G8 G9 G10 G11 G12 G13 G14 X : List Blk} (h : At w0 w (V ++ (G1 ++ (G2 ++ (G3 ++ (G4 ++ (G5 ++ (G6 ++ (G7 ++ (G8 ++ (G9 ++ (G10 ++ (G11 ++ (G12 ++ (G13 ++ (G14 ++ (X))))))))))))))))) : At w0 w (V ++ (G1 ++ (G2 ++ (G3 ++ (G4 ++ (G5 ++ (G6 ++ (G7 ++ (G8 ++ (G9 ++ (G10 ++ (G11 ++ (G12 ++ (G13 ++ (X))))))))))))))) := h.pl14.right
theorem At.pl15 {V G1 G2 G3 G4 G5 G6 G7 G8 G9 G10 G11 G12 G13 G14 G15 X : List Blk} (h : At w0 w (V ++ (G1 ++ (G2 ++ (G3 ++ (G4 ++ (G5 ++ (G6 ++ (G7 ++ (G8 ++ (G9 ++ (G10 ++ (G11 ++ (G12 ++ (G13 ++ (G14 ++ (G15 ++ (X)))))))))))))))))) : At w0 w (G15 ++ (V ++ (G1 ++ (G2 ++ (G3 ++ (G4 ++ (G5 ++ (G6 ++ (G7 ++ (G8 ++ (G9 ++ (G10 ++ (G11 ++ (G12 ++ (G13 ++ (G14 ++ (X))))))))))))))))) := by
  rw [← List.append_assoc V G1] at h
  have h := At.pl14 h
  rwa [List.append_assoc V G1] at h
theorem At.ps15 {V G1 G2 G3 G4 G5 G6 G7 G8 G9 G10 G11 G12 G13 G14 G15 X : List Blk} (h : At w0 w (G15 ++ (V ++ (G1 ++ (G2 ++ (G3 ++ (G4 ++ (G5 ++ (G6 ++ (G7 ++ (G8 ++ (G9 ++ (G10 ++ (G11 ++ (G12 ++ (G13 ++ (G14 ++ (X)))))))))))))))))) : At w0 w (V ++ (G1 ++ (G2 ++ (G3 ++ (G4 ++ (G5 ++ (G6 ++ (G7 ++ (G8 ++ (G9 ++ (G10 ++ (G11 ++ (G12 ++ (G13 ++ (G14 ++ (G15 ++ (X))))))))))))))))) := by
  rw [← List.append_assoc V G1] at h
  have h := At.ps14 h
  rwa [List.append_assoc V G1] at h
theorem At.dr15 {V G1 G2 G3 G4 G5 G6 G7 G8 G9 G10 G11 G12 G13 G14 G15 X : List Blk} (h : At w0 w (V ++ (G1 ++ (G2 ++ (G3 ++ (G4 ++ (G5 ++ (G6 ++ (G7 ++ (G8 ++ (G9 ++ (G10 ++ (G11 ++ (G12 ++ (G13 ++ (G14 ++ (G15 ++ (X)))))))))))))))))) : At w0 w (V ++ (G1 ++ (G2 ++ (G3 ++ (G4 ++ (G5 ++ (G6 ++ (G7 ++ (G8 ++ (G9 ++ (G10 ++ (G11 ++ (G12 ++ (G13 ++ (G14 ++ (X)))))))))))))))) := h.pl15.right
theorem At.pl16 {V G1 G2 G3 G4 G5 G6 G7 G8 G9 G10 G11 G12 G13 G14 G15 G16 X : List Blk} (h : At w0 w (V ++ (G1 ++ (G2 ++ (G3 ++ (G4 ++ (G5 ++ (G6 ++ (G7 ++ (G8 ++ (G9 ++ (G10 ++ (G11 ++ (G12 ++ (G13 ++ (G14 ++ (G15 ++ (G16 ++ (X))))))))))))))))))) : At w0 w (G16 ++ (V ++ (G1 ++ (G2 ++ (G3 ++ (G4 ++ (G5 ++ (G6 ++ (G7 ++ (G8 ++ (G9 ++ (G10 ++ (G11 ++ (G12 ++ (G13 ++ (G14 ++ (G15 ++ (X)))))))))))))))))) := by
  rw [← List.append_assoc V G1] at h
  have h := At.pl15 h
  rwa [List.append_assoc V G1] at h
theorem At.ps16 {V G1 G2 G3 G4 G5 G6 G7 G8 G9 G10 G11 G12 G13 G14 G15 G16 X : List Blk} (h : At w0 w (G16 ++ (V ++ (G1 ++ (G2 ++ (G3 ++ (G4 ++ (G5 ++ (G6 ++ (G7 ++ (G8 ++ (G9 ++ (G10 ++ (G11 ++ (G12 ++ (G13 ++ (G14 ++ (G15 ++ (X))))))))))))))))))) : At w0 w (V ++ (G1 ++ (G2 ++ (G3 ++ (G4 ++ (G5 ++ (G6 ++ (G7 ++ (G8 ++ (G9 ++ (G10 ++ (G11 ++ (G12 ++ (G13 ++ (G14 ++ (G15 ++ (G16 ++ (X)))))))))))))))))) := by
  rw [← List.append_assoc V G1] at h
  have h := At.ps15 h
  rwa [List.append_assoc V G1] at h
theorem At.dr16 {V G1 G2 G3 G4 G5 G6 G7 G8 G9 G10 G11 G12 G13 G14 G15 G16 X : List Blk} (h : At w0 w (V ++ (G1 ++ (G2 ++ (G3 ++ (G4 ++ (G5 ++ (G6 ++ (G7 ++ (G8 ++ (G9 ++ (G10 ++ (G11 ++ (G12 ++ (G13 ++ (G14 ++ (G15 ++ (G16 ++ (X))))))))))))))))))) : At w0 w (V ++ (G1 ++ (G2 ++ (G3 ++ (G4 ++ (G5 ++ (G6 ++ (G7 ++ (G8 ++ (G9 ++ (G10 ++ (G11 ++ (G12 ++ (G13 ++ (G14 ++ (G15 ++ (X))))))))))))))))) := h.pl16.right
theorem At.pl17 {V G1 G2 G3 G4 G5 G6 G7 G8 G9 G10 G11 G12 G13 G14 G15 G16 G17 X : List Blk} (h : At w0 w (V ++ (G1 ++ (G2 ++ (G3 ++ (G4 ++ (G5 ++ (G6 ++ (G7 ++ (G8 ++ (G9 ++ (G10 ++ (G11 ++ (G12 ++ (G13 ++ (G14 ++ (G15 ++ (G16 ++ (G17 ++ (X)))))))))))))))))))) : At w0 w (G17 ++ (V ++ (G1 ++ (G2 ++ (G3 ++ (G4 ++ (G5 ++ (G6 ++ (G7 ++ (G8 ++ (G9 ++ (G10 ++ (G11 ++ (G12 ++ (G13 ++ (G14 ++ (G15 ++ (G16 ++ (X))))))))))))))))))) := by
  rw [← List.append_assoc V G1] at h
  have h := At.pl16 h
  rwa [List.append_assoc V G1] at h
theorem At.ps17 {V G1 G2 G3 G4 G5 G6 G7 G8 G9 G10 G11 G12 G13 G14 G15 G16 G17 X : List Blk} (h : At w0 w (G17 ++ (V ++ (G1 ++ (G2 ++ (G3 ++ (G4 ++ (G5 ++ (G6 ++ (G7 ++ (G8 ++ (G9 ++ (G10 ++ (G11 ++ (G12 ++ (G13 ++ (G14 ++ (G15 ++ (G16 ++ (X)))))))))))))))))))) : At w0 w (V ++ (G1 ++ (G2 ++ (G3 ++ (G4 ++ (G5 ++ (G6 ++ (G7 ++ (G8 ++ (G9 ++ (G10 ++ (G11 ++ (G12 ++ (G13 ++ (G14 ++ (G15 ++ (G16 ++ (G17 ++ (X))))))))))))))))))) := by
  rw [← List.append_assoc V G1] at h
  have h := At.ps16 h
  rwa [List.append_assoc V G1] at h
theorem At.dr17 {V G1 G2 G3 G4 G5 G6 G7 G8 G9 G10 G11 G12 G13 G14 G15 G16 G17 X : List Blk} (h : At w0 w (V ++ (G1 ++ (G2 ++ (G3 ++ (G4 ++ (G5 ++ (G6 ++ (G7 ++ (G8 ++ (G9 ++ (G10 ++ (G11 ++ (G12 ++ (G13 ++ (G14 ++ (G15 ++ (G16 ++ (G17 ++ (X)))))))))))))))))))) : At w0 w (V ++ (G1 ++ (G2 ++ (G3 ++ (G4 ++ (G5 ++ (G6 ++ (G7 ++ (G8 ++ (G9 ++ (G10 ++ (G11 ++ (G12 ++ (G13 ++ (G14 ++ (G15 ++ (G16 ++ (X)))))))))))))))))) := h.pl17.right
theorem At.pl18 {V G1 G2 G3 G4 G5 G6 G7 G8 G9 G10 G11 G12 G13 G14 G15 G16 G17 G18 X : List Blk} (h : At w0 w (V ++ (G1 ++ (G2 ++ (G3 ++ (G4 ++ (G5 ++ (G6 ++ (G7 ++ (G8 ++ (G9 ++ (G10 ++ (G11 ++ (G12 ++ (G13 ++ (G14 ++ (G15 ++ (G16 ++ (G17 ++ (G18 ++ (X))))))))))))))))))))) : At w0 w (G18 ++ (V ++ (G1 ++ (G2 ++ (G3 ++ (G4 ++ (G5 ++ (G6 ++ (G7 ++ (G8 ++ (G9 ++ (G10 ++ (G11 ++ (G12 ++ (G13 ++ (G14 ++ (G15 ++ (G16 ++ (G17 ++ (X)))))))))))))))))))) := by
  rw [← List.append_assoc V G1] at h
  have h := At.pl17 h
  rwa [List.append_assoc V G1] at h
theorem At.ps18 {V G1 G2 G3 G4 G5 G6 G7 G8 G9 G10 G11 G12 G13 G14 G15 G16 G17 G18 X : List Blk} (h : At w0 w (G18 ++ (V ++ (G1 ++ (G2 ++ (G3 ++ (G4 ++ (G5 ++ (G6 ++ (G7 ++ (G8 ++ (G9 ++ (G10 ++ (G11 ++ (G12 ++ (G13 ++ (G14 ++ (G15 ++ (G16 ++ (G17 ++ (X))))))))))))))))))))) : At w0 w (V ++ (G1 ++ (G2 ++ (G3 ++ (G4 ++ (G5 ++ (G6 ++ (G7 ++ (G8 ++ (G9 ++ (G10 ++ (G11 ++ (G12 ++ (G13 ++ (G14 ++ (G15 ++ (G16 ++ (G17 ++ (G18 ++ (X)))))))))))))))))))) := by
  rw [← List.append_assoc V G1] at h
  have h := At.ps17 h
  rwa [List.append_assoc V G1] at h
theorem At.dr18 {V G1 G2 G3 G4 G5 G6 G7 G8 G9 G10 G11 G12 G13 G14 G15 G16 G17 G18 X : List Blk} (h : At w0 w (V ++ (G1 ++ (G2 ++ (G3 ++ (G4 ++ (G5 ++ (G6 ++ (G7 ++ (G8 ++ (G9 ++ (G10 ++ (G11 ++ (G12 ++ (G13 ++ (G14 ++ (G15 ++ (G16 ++ (G17 ++ (G18 ++ (X))))))))))))))))))))) : At w0 w (V ++ (G1 ++ (G2 ++ (G3 ++ (G4 ++ (G5 ++ (G6 ++ (G7 ++ (G8 ++ (G9 ++ (G10 ++ (G11 ++ (G12 ++ (G13 ++ (G14 ++ (G15 ++ (G16 ++ (G17 ++ (X))))))))))))))))))) := h.pl18.right
end Go.Sx
namespace Go.Proofs.YtghoeeiiaadngaaGreat
open Go.Sx Go.RowKit
open Go.ChangeShapes Go.WideShapes Go.ChangeAt Go.Deep

/-- A lease: a key, and until when. -/
abbrev PL := List Int × Int
def leaseC (l : PL) : List Value := u8s l.1 ++ [.int .i64 l.2]
theorem leaseC_len {l : PL} (h : keyOk l.1) : (leaseC l).length = 33 := by unfold leaseC; rw [List.length_append, u8s_len, h.1]; rfl
theorem leaseC_one (l : PL) : ∀ v ∈ leaseC l, oneC v = true := by
  intro v hv
  unfold leaseC at hv
  rcases List.mem_append.1 hv with h | h
  · exact u8s_one v h
  · rw [List.mem_singleton.1 h]; rfl
theorem lease_key {l : PL} (h : keyOk l.1) : (leaseC l).toArray.extract 0 (0 + 32) = (u8s l.1).toArray := by
  apply Array.ext'
  rw [List.extract_toArray]
  show ((leaseC l).drop 0).take (0 + 32 - 0) = _
  have e : (u8s l.1).length = 32 := by rw [u8s_len]; exact h.1
  unfold leaseC
  rw [List.drop_zero, List.take_append_of_le_length (by omega), List.take_of_length_le (by omega)]
theorem lease_til {l : PL} (h : keyOk l.1) : (leaseC l)[32]? = some (.int .i64 l.2) := by
  unfold leaseC
  have e : (u8s l.1).length = 32 := by rw [u8s_len]; exact h.1
  rw [List.getElem?_append_right (by omega), e]
  rfl
theorem lease_setK (k : List Int) : ((leaseC (zero32, 0)).toArray.toList.take 0 ++ (u8s k).toArray.toList ++ (leaseC (zero32, 0)).toArray.toList.drop (0 + 32)).toArray = (leaseC (k, 0)).toArray := rfl
theorem lease_setT {k : List Int} (h : keyOk k) (a b : Int) : (leaseC (k, a)).toArray.setIfInBounds 32 (.int .i64 b) = (leaseC (k, b)).toArray := by
  apply Array.ext'
  rw [Array.toList_setIfInBounds]
  show (leaseC (k, a)).set 32 _ = leaseC (k, b)
  have e : (u8s k).length = 32 := by rw [u8s_len]; exact h.1
  show (u8s k ++ [Value.int .i64 a]).set 32 _ = u8s k ++ [Value.int .i64 b]
  rw [List.set_append_right _ _ (by omega), e]
  rfl

structure LsR (w : World) (s : Sl) (ls : List PL) : Prop where
  of : SlOf w s 33 leaseC ls
  ok : ∀ l ∈ ls, keyOk l.1
theorem LsR.at {w w' : World} {bl : List Blk} {s : Sl} {ls : List PL} (h : LsR w s ls) (hA : At w w' bl) : LsR w' s ls := ⟨h.of.below hA.below, h.ok⟩
theorem LsR.n {w : World} {s : Sl} {ls : List PL} (h : LsR w s ls) : s.n = ls.length := h.of.n
theorem LsR.get {w : World} {s : Sl} {ls : List PL} (h : LsR w s ls) {i : Nat} (hi : i < ls.length) : ∃ l p, ls[i]? = some l ∧ l ∈ ls ∧ s.a = some p ∧ keyOk l.1 ∧ ldOk w 33 (p.add (i * 33)) .agg (leaseC l).toArray ∧ ldOk w 32 ((p.add (i * 33)).add 0) .agg (u8s l.1).toArray ∧ ldOk w 1 ((p.add (i * 33)).add 32) (.int .i64) l.2 := by
  have hk : ls[i]? = some ls[i] := List.getElem?_eq_getElem hi
  obtain ⟨p, hp, _⟩ := h.of.cell hk
  have ha := h.of.agg hk hp
  have hko := h.ok _ (List.getElem_mem hi)
  refine ⟨_, p, hk, List.getElem_mem hi, hp, hko, ha, ⟨by simp [hko.1], fun j v hv => ?_⟩, ha.2 32 _ (by rw [List.getElem?_toArray]; exact lease_til hko)⟩
  rw [Go.Deep.add_add, Nat.zero_add]
  refine ha.2 j v ?_
  rw [List.getElem?_toArray] at hv ⊢
  unfold leaseC
  rw [List.getElem?_append_left (List.getElem?_eq_some_iff.1 hv).1]
  exact hv

def RdLeaseS (w : World) (s : Sl) (ls : List PL) : Prop := LsR w s ls
theorem RdLeaseS.at {w w' : World} {bl : List Blk} {s : Sl} {ls : List PL} (h : RdLeaseS w s ls) (hA : At w w' bl) : RdLeaseS w' s ls := LsR.at h hA
def OwnLeaseS (s : Sl) (ls : List PL) (L : List Blk) : Prop := OwnS ty_impl_Lease 33 s (ls.flatMap leaseC) L ∧ ∀ l ∈ ls, keyOk l.1
theorem OwnLeaseS.rd {w0 w : World} {s : Sl} {ls : List PL} {L bl : List Blk} (h : OwnLeaseS s ls L) (hA : At w0 w (L ++ bl)) : RdLeaseS w s ls := ⟨h.1.of hA (List.sublist_append_left _ _) (fun l hl => leaseC_len (h.2 l hl)) (by omega), h.2⟩
def RawLeaseS (w : World) (s : Sl) (ls : List PL) : Prop := LsR w s ls ∧ s.n ≤ s.c ∧ s.c ≤ maxLen
theorem RawLeaseS.rd {w : World} {s : Sl} {ls : List PL} (h : RawLeaseS w s ls) : RdLeaseS w s ls := h.1
def sizeLeaseS (ls : List PL) : Nat := ls.length
def msizeLeaseS (ls : List PL) : Nat := 33 * ls.length
theorem T_sl_Lease : SlT Tryz.prog ty_sl_impl_Lease ty_impl_Lease 33 40 := slT_of (by kernel_rfl)

theorem c_szLeaseSV {w : World} {s : Sl} {ls : List PL} (h : RawLeaseS w s ls) {w1 : World} (_ : Below w.heap.size w w1) (m : Int) (hm : 0 ≤ m ∧ m ≤ 1073741824) : Ret Tryz.prog n_laws_szLeaseS [.slice s.a s.n s.c, .int .i64 m] w1 [.int .i64] (fun x _ => x = if (sizeLeaseS ls : Int) ≤ m then m - sizeLeaseS ls else -1) := laws_szLeaseS_calls s m (by
  unfold laws_szLeaseS
  have hn := h.1.n
  have h2 := h.2
  unfold maxLen at h2
  rw [w64 (by omega) (by omega)]
  refine r_if (m - (s.n : Int) < 0) rfl (fun h => ?_) (fun h => ?_)
  · exact r_ret (At.refl w1) (-1 : Int) rfl (by rw [if_neg (by unfold sizeLeaseS; omega)])
  · exact r_ret (At.refl w1) (m - (s.n : Int)) rfl (by rw [if_pos (by unfold sizeLeaseS; omega)]; unfold sizeLeaseS; rw [hn]))

theorem c_toLease {l : PL} (hk : keyOk l.1) (w : World) : Ret Tryz.prog n_laws_toLease [.agg (leaseC l).toArray] w [.agg] (fun r _ => r = (leaseC l).toArray) := laws_toLease_calls _ (by
  unfold laws_toLease
  have hl := leaseC_len hk
  refine r_new (At.refl w) fun b1 w1 h => ?_
  refine r_new h fun b2 w2 h => ?_
  refine r_new h fun b3 w3 h => ?_
  have h : At w w3 [(b3, (leaseC (zero32, 0)).toArray, ty_impl_Lease), (b2, (leaseC (zero32, 0)).toArray, ty_impl_Lease), (b1, (leaseC l).toArray, ty_laws_Lease)] := h
  have hzl : (leaseC (zero32, 0)).length = 33 := leaseC_len zero32_ok
  refine r_ldP h 2 rfl (add_lit _ _ _) (by simp [hl]) ?_
  rw [show (0 + 0 : Nat) = 0 from rfl, lease_key hk]
  refine r_call h (c_toKey hk.1 _) fun r w4 h _ hr => ?_
  subst hr
  refine r_stP h 0 (o := 0) rfl (by rw [add_lit]) (by simp [hk.1]) (by simp [hzl]) (by simpa using u8s_one) fun w5 h => ?_
  rw [lease_setK] at h
  have h : At w w5 [(b3, (leaseC (l.1, 0)).toArray, ty_impl_Lease), (b2, (leaseC (zero32, 0)).toArray, ty_impl_Lease), (b1, (leaseC l).toArray, ty_laws_Lease)] := h
  have hl2 : (leaseC (l.1, 0)).length = 33 := leaseC_len hk
  refine r_ld h 2 rfl (add_lit _ _ _) l.2 (by simp [Sh.emb]) (by rw [Nat.zero_add, List.getElem?_toArray]; exact lease_til hk) ?_
  refine r_st h 0 (o := 32) rfl (by rw [add_lit, Nat.zero_add]) (by simp [hl2]) rfl fun w6 h => ?_
  rw [lease_setT hk] at h
  have h : At w w6 [(b3, (leaseC l).toArray, ty_impl_Lease), (b2, (leaseC (zero32, 0)).toArray, ty_impl_Lease), (b1, (leaseC l).toArray, ty_laws_Lease)] := h
  refine r_ldA h 0 rfl rfl (by simp [hl]) ?_
  refine r_stA h 1 rfl rfl (by simp [hl]) (by simp [hzl]) (by simpa using leaseC_one l) fun w7 h => ?_
  refine r_ldA h 1 rfl rfl (by simp [hl]) ?_
  exact r_ret h.nil (leaseC l).toArray rfl rfl)

theorem c_toLeaseSV {w : World} {s : Sl} {ls : List PL} (h : RdLeaseS w s ls) (hz : sizeLeaseS ls ≤ 1073741824) : Ret Tryz.prog n_laws_toLeaseS [.slice s.a s.n s.c] w [.slice] (fun r w' => ∃ L, At w w' L ∧ OwnLeaseS r ls L) := laws_toLeaseS_calls s (by
  unfold laws_toLeaseS
  have hs : LsR w s ls := h
  have hn := hs.n
  unfold sizeLeaseS at hz
  refine r_mkO T_sl_Lease (At.refl w) (by omega) (by omega) fun y xs L w1 h hO hyn ⟨p, hp⟩ => ?_
  refine r_loop (σ := Int) (fun i w' => ∃ (j : Nat) (xs : List Value) (L : List Blk), i = j ∧ j ≤ ls.length ∧ OwnS ty_impl_Lease 33 y xs L ∧ xs.take (j * 33) = (ls.take j).flatMap leaseC ∧ At w w' (L ++ [])) (fun i _ => (s.n - i).toNat) 0 rfl
    ⟨0, xs, L, rfl, by omega, hO, by simp, h⟩ ?_
  rintro i w2 ⟨j, xs, L, rfl, hj, hO, htk, h⟩
  refine r_any fun _ => ?_
  have hxl := hO.1
  refine r_if ((j : Int) < (s.n : Int)) rfl (fun hlt => ?_) (fun hge => ?_)
  · obtain ⟨k, q, hk, hkm, hq, hko, hkl, _, _⟩ := (hs.at h.nil).get (i := j) (by omega)
    have hl := leaseC_len hko
    refine r_ix q hq (by omega) (by omega) ?_
    refine r_ldN (leaseC k).toArray (by simp only [Int.toNat_natCast]; exact hkl) ?_
    refine r_call h (c_toLease hko _) fun r w3 h _ hr => ?_
    subst hr
    refine r_ix p hp (by omega) (by omega) ?_
    refine r_stO h hO hp (j * 33) (by simp) (by simp [Value.cells, hl]) (by omega) (by simpa [Value.cells] using leaseC_one k) fun w4 L4 h4 hO4 => ?_
    refine ⟨((j + 1 : Nat) : Int), by rw [w64 (by omega) (by omega)]; rfl, ⟨j + 1, _, L4, rfl, by omega, hO4, ?_, h4⟩, by omega⟩
    have hvl : (Value.agg (leaseC k).toArray).cells.toList.length = 33 := by simp [Value.cells, hl]
    rw [Nat.add_mul, Nat.one_mul, seg_take (by omega) hvl, htk, take_succ_get hk, List.flatMap_append]
    simp [Value.cells]
  · have : j = ls.length := by omega
    subst this
    rw [List.take_of_length_le (by omega), List.take_of_length_le (Nat.le_refl _)] at htk
    subst htk
    exact r_ret h.nil y rfl ⟨L, by simpa using h, hO, hs.ok⟩)

theorem c_eqLease_same {l : PL} (hk : keyOk l.1) (w : World) : Ret Tryz.prog n_laws_eqLease [.agg (leaseC l).toArray, .agg (leaseC l).toArray] w [.bool] (fun r _ => r = true) := laws_eqLease_calls _ _ (by
  unfold laws_eqLease
  have hl := leaseC_len hk
  refine r_new (At.refl w) fun b2 w1 h => ?_
  refine r_new h fun b3 w2 h => ?_
  have h : At w w2 [(b3, (leaseC l).toArray, ty_impl_Lease), (b2, (leaseC l).toArray, ty_impl_Lease)] := h
  refine r_ldP h 1 rfl (add_lit _ _ _) (by simp [hl]) ?_
  rw [show (0 + 0 : Nat) = 0 from rfl, lease_key hk]
  refine r_ldP h 0 rfl (add_lit _ _ _) (by simp [hl]) ?_
  rw [show (0 + 0 : Nat) = 0 from rfl, lease_key hk]
  refine r_call h (c_eqKey_same hk.1 _) fun r w4 h _ hr => ?_
  subst hr
  refine r_false rfl ?_
  refine r_ld h 1 rfl (add_lit _ _ _) l.2 (by simp [Sh.emb]) (by rw [Nat.zero_add, List.getElem?_toArray]; exact lease_til hk) ?_
  refine r_ld h 0 rfl (add_lit _ _ _) l.2 (by simp [Sh.emb]) (by rw [Nat.zero_add, List.getElem?_toArray]; exact lease_til hk) ?_
  refine r_ne (fun hh => absurd rfl hh) fun _ => ?_
  exact r_ret h.nil _ rfl rfl)

theorem c_eqLeaseSV {w : World} {s t : Sl} {ls : List PL} (h : RdLeaseS w s ls) (h' : RdLeaseS w t ls) (hz : sizeLeaseS ls ≤ 1073741824) : Ret Tryz.prog n_laws_eqLeaseS [.slice s.a s.n s.c, .slice t.a t.n t.c] w [.bool] (fun x _ => x = true) := laws_eqLeaseS_calls _ _ (by
  unfold laws_eqLeaseS
  have hs : LsR w s ls := h
  have ht : LsR w t ls := h'
  have h1 := hs.n
  have h2 := ht.n
  unfold sizeLeaseS at hz
  refine r_ne (fun hh => by omega) fun _ => ?_
  refine r_loop (σ := Int) (fun i w' => ∃ j : Nat, i = j ∧ j ≤ ls.length ∧ At w w' []) (fun i _ => (s.n - i).toNat) 0 rfl ⟨0, rfl, by omega, At.refl w⟩ ?_
  rintro i w8 ⟨j, rfl, hj, h⟩
  refine r_any fun _ => ?_
  refine r_if ((j : Int) < (s.n : Int)) rfl (fun hlt => ?_) (fun hge => ?_)
  · refine r_draw h fun w3 h => ?_
    obtain ⟨k, q, hk, hkm, hq, hko, hkl, _, _⟩ := (hs.at h).get (i := j) (by omega)
    obtain ⟨k2, q2, hk2, _, hq2, _, hkl2, _, _⟩ := (ht.at h).get (i := j) (by omega)
    rw [hk] at hk2
    cases hk2
    refine r_ix q hq (by omega) (by omega) ?_
    refine r_ldN (leaseC k).toArray (by simp only [Int.toNat_natCast]; exact hkl) ?_
    refine r_ix q2 hq2 (by omega) (by omega) ?_
    refine r_ldN (leaseC k).toArray (by simp only [Int.toNat_natCast]; exact hkl2) ?_
    refine r_call h (c_eqLease_same hko _) fun r w4 h _ hr => ?_
    subst hr
    refine r_false rfl ?_
    exact ⟨((j + 1 : Nat) : Int), by rw [w64 (by omega) (by omega)]; rfl, ⟨j + 1, rfl, by omega, h⟩, by omega⟩
  · exact r_ret h _ rfl rfl)

def markL (k : Int) (j : Nat) : PL := (marks (k + ((33 * j : Nat) : Int)) 32, k + ((33 * j + 32 : Nat) : Int))
def markLeaseS (k : Int) (ls : List PL) : List PL := (List.range ls.length).map (markL k)
theorem markL_ok (k : Int) (j : Nat) : keyOk (markL k j).1 := ⟨marks_len _ _, marks_ok _ _⟩
theorem set_key {A K B : List Value} {n m : Nat} {v : Value} (hA : A.length = n) (hm : m < K.length) : (A ++ (K ++ B)).take (n + m) ++ [v] ++ (A ++ (K ++ B)).drop (n + m + 1) = A ++ (K.set m v ++ B) := by
  have h : (A ++ (K ++ B)).set (n + m) v = A ++ (K.set m v ++ B) := by
    rw [List.set_append_right _ _ (by omega), hA, Nat.add_sub_cancel_left, List.set_append_left _ _ hm]
  rw [← h, List.set_eq_take_append_cons_drop, if_pos (by simp only [List.length_append]; omega), List.append_assoc]
  rfl
theorem marks_set {k : Int} {m : Nat} {key : List Int} (hk : key.length = 32) (hm : m < 32) : (u8s (marks k m ++ key.drop m)).set m (.int .u8 ((k + (m : Int)) % 256)) = u8s (marks k (m + 1) ++ key.drop (m + 1)) := by
  have hd : key.drop m = key[m] :: key.drop (m + 1) := List.drop_eq_getElem_cons (by omega)
  unfold u8s
  rw [List.map_append, List.set_append_right _ _ (by rw [List.length_map, marks_len]; omega), List.length_map, marks_len, Nat.sub_self, hd, List.map_cons, List.set_cons_zero, marks_succ, List.append_assoc, List.map_append]
  rfl

theorem c_markLeaseSV {w0 w : World} {bl L : List Blk} {s : Sl} {ls : List PL} (hA : At w0 w (L ++ bl)) (hO : OwnLeaseS s ls L) (k : Int) (h0 : 0 ≤ k) (hmax : k + msizeLeaseS ls ≤ 4611686018427387904) :
    Calls Tryz.prog n_laws_markLeaseS [.slice s.a s.n s.c, .int .i64 k].toArray w fun e w' => ∃ v, e = .returned v ∧ v = .int .i64 (k + msizeLeaseS ls) ∧ ∃ L', At w0 w' (L' ++ bl) ∧ OwnLeaseS s (markLeaseS k ls) L' := laws_markLeaseS_calls s k (by
  unfold laws_markLeaseS
  obtain ⟨hO, hk⟩ := hO
  have hn : s.n = ls.length := by have := hO.1; rw [flatMap_length (z := 33) (fun l hl => leaseC_len (hk l hl))] at this; omega
  unfold msizeLeaseS at hmax ⊢
  have hpl : ∀ j, (((List.range j).map (markL k)).flatMap leaseC).length = 33 * j := fun j => by
    rw [flatMap_length (z := 33) (fun l hl => by
      obtain ⟨i, _, rfl⟩ := List.mem_map.1 hl
      exact leaseC_len (markL_ok k i))]
    simp
    omega
  refine r_loop (σ := Int × Int) (fun i w' => ∃ (j : Nat) (L : List Blk), i = (k + ((33 * j : Nat) : Int), (j : Int)) ∧ j ≤ ls.length ∧ At w0 w' (L ++ bl) ∧ OwnS ty_impl_Lease 33 s (((List.range j).map (markL k)).flatMap leaseC ++ (ls.drop j).flatMap leaseC) L) (fun i _ => (s.n - i.2).toNat) (k, 0) rfl
    ⟨0, L, by simp, by omega, hA, by simpa using hO⟩ ?_
  rintro i w4 ⟨j, L, rfl, hj, h, hO⟩
  refine r_any fun _ => ?_
  dsimp only
  refine r_if ((j : Int) < (s.n : Int)) rfl (fun hlt => ?_) (fun hge => ?_)
  · obtain ⟨p, hp⟩ := hO.addr (by omega)
    have hjl : j < ls.length := by omega
    have hko := hk _ (List.getElem_mem hjl)
    have hpj := hpl j
    have hd : (ls.drop j).flatMap leaseC = u8s ls[j].1 ++ ([.int .i64 ls[j].2] ++ (ls.drop (j + 1)).flatMap leaseC) := by
      rw [List.drop_eq_getElem_cons hjl, List.flatMap_cons]
      unfold leaseC
      rw [List.append_assoc]
    generalize ls[j] = l at hko hd
    rw [hd] at hO
    have hrl : ((ls.drop (j + 1)).flatMap leaseC).length = 33 * (ls.length - (j + 1)) := by
      rw [flatMap_length (z := 33) (fun l hl => leaseC_len (hk l (List.mem_of_mem_drop hl))), List.length_drop]
      omega
    obtain ⟨rest, hrest⟩ : ∃ rest, rest = (ls.drop (j + 1)).flatMap leaseC := ⟨_, rfl⟩
    rw [← hrest] at hO hrl
    refine r_loop (σ := Int × Int) (fun i w' => ∃ (m : Nat) (L : List Blk), i = (k + ((33 * j + m : Nat) : Int), (m : Int)) ∧ m ≤ 32 ∧ At w0 w' (L ++ bl) ∧ OwnS ty_impl_Lease 33 s (((List.range j).map (markL k)).flatMap leaseC ++ (u8s (marks (k + ((33 * j : Nat) : Int)) m ++ l.1.drop m) ++ ([.int .i64 l.2] ++ rest))) L) (fun i _ => (32 - i.2).toNat) (k + ((33 * j : Nat) : Int), 0) rfl
      ⟨0, L, by simp, by omega, h, by simpa [marks] using hO⟩ ?_
    rintro i w5 ⟨m, L, rfl, hm, h, hO⟩
    refine r_any fun _ => ?_
    dsimp only
    have hkl : (marks (k + ((33 * j : Nat) : Int)) m ++ l.1.drop m).length = 32 := by rw [List.length_append, marks_len, List.length_drop, hko.1]; omega
    refine r_if ((m : Int) < 32) rfl (fun hlt2 => ?_) (fun hge2 => ?_)
    · refine r_ix p hp (by omega) (by omega) ?_
      refine r_ix _ rfl (by omega) (by omega) ?_
      refine r_stO h hO hp (33 * j + m) (by rw [Go.Deep.add_add, Go.Deep.add_add]; simp only [Int.toNat_natCast]; congr 1; omega) (by simp [Value.cells]) (by simp only [List.length_append, hpj, u8s_len, hkl, hrl, List.length_cons, List.length_nil]; omega) (by simp [Value.cells, oneC]) fun w6 L6 h6 hO6 => ?_
      refine ⟨(k + ((33 * j + (m + 1) : Nat) : Int), ((m + 1 : Nat) : Int)), ?_, ⟨m + 1, L6, rfl, by omega, h6, ?_⟩, by dsimp only; omega⟩
      · rw [w64 (by omega) (by omega), w64 (by omega) (by omega)]
        simp only [embL, Sh.emb]
        congr 2
        omega
      · rw [wrapu8] at hO6
        have e : (Value.int .u8 ((k + ((33 * j + m : Nat) : Int)) % 256)).cells.toList = [.int .u8 ((k + ((33 * j : Nat) : Int) + (m : Int)) % 256)] := by
          simp only [Value.cells]
          rw [show k + ((33 * j + m : Nat) : Int) = k + ((33 * j : Nat) : Int) + (m : Int) by omega]
        rw [e, set_key hpj (by rw [u8s_len, hkl]; omega), marks_set hko.1 (by omega)] at hO6
        exact hO6
    · have hm32 : m = 32 := by omega
      subst hm32
      rw [List.drop_of_length_le (by have := hko.1; omega), List.append_nil] at hO hkl
      refine r_ix p hp (by omega) (by omega) ?_
      refine r_stO h hO hp (33 * j + 32) (by rw [Go.Deep.add_add]; simp only [Int.toNat_natCast]; congr 1; omega) (by simp [Value.cells]) (by simp only [List.length_append, hpj, u8s_len, hkl, hrl, List.length_cons, List.length_nil]; omega) (by simp [Value.cells, oneC]) fun w6 L6 h6 hO6 => ?_
      refine ⟨(k + ((33 * (j + 1) : Nat) : Int), ((j + 1 : Nat) : Int)), ?_, ⟨j + 1, L6, rfl, by omega, h6, ?_⟩, by dsimp only; omega⟩
      · rw [w64 (by omega) (by omega), w64 (by omega) (by omega)]
        simp only [embL, Sh.emb]
        congr 2
        omega
      · have e : ((List.range j).map (markL k)).flatMap leaseC ++ (u8s (marks (k + ((33 * j : Nat) : Int)) 32) ++ ([Value.int .i64 l.2] ++ rest)) = (((List.range j).map (markL k)).flatMap leaseC ++ u8s (marks (k + ((33 * j : Nat) : Int)) 32)) ++ ([Value.int .i64 l.2] ++ rest) := by rw [List.append_assoc]
        rw [e] at hO6
        have e2 := set_key (A := ((List.range j).map (markL k)).flatMap leaseC ++ u8s (marks (k + ((33 * j : Nat) : Int)) 32)) (K := [Value.int .i64 l.2]) (B := rest) (n := 33 * j + 32) (m := 0) (v := .int .i64 (k + ((33 * j + 32 : Nat) : Int))) (by rw [List.length_append, hpj, u8s_len, hkl]) (by simp)
        have ev : (Value.int .i64 (k + ((33 * j + 32 : Nat) : Int))).cells.toList = [.int .i64 (k + ((33 * j + 32 : Nat) : Int))] := rfl
        rw [ev, ← Nat.add_zero (33 * j + 32), e2] at hO6
        have e3 : ((List.range (j + 1)).map (markL k)).flatMap leaseC ++ (ls.drop (j + 1)).flatMap leaseC = (((List.range j).map (markL k)).flatMap leaseC ++ u8s (marks (k + ((33 * j : Nat) : Int)) 32)) ++ ([Value.int .i64 l.2].set 0 (.int .i64 (k + ((33 * j + 32 : Nat) : Int))) ++ rest) := by
          rw [List.range_succ, List.map_append, List.flatMap_append, ← hrest]
          simp [markL, leaseC]
        rw [e3]
        exact hO6
  · have hjl : j = ls.length := by omega
    subst hjl
    rw [List.drop_of_length_le (Nat.le_refl _), List.flatMap_nil, List.append_nil] at hO
    exact r_retR ⟨rfl, L, h, hO, fun l hl => by
      obtain ⟨i, _, rfl⟩ := List.mem_map.1 hl
      exact markL_ok k i⟩)

set_option maxRecDepth 100000 in
theorem open_LeaseS {H : Type} {enc : TypeId × Value → H} {w : World} {base : Nat} {spare : Nat → Bool} {held : Bool} {r : Reach} {b0 : Nat} {v : Value} {d : DataW H} {ps : List MemPlace} (hval : Value.okWide Tryz.prog w r b0 ty_sl_laws_Lease v) (hd : DataW.Trod enc Tryz.prog w base spare held ty_sl_laws_Lease v d ps) : ∃ (s : Sl) (ls : List PL), v = .slice s.a s.n s.c ∧ RawLeaseS w s ls := by
  obtain ⟨a, len, cap, rfl⟩ := okWide_slice (e := ty_laws_Lease) (by kernel_rfl) hval
  obtain ⟨fuel, hf⟩ := hd
  obtain ⟨s, ls, h1, h2, h3, h4⟩ := trod_sl (α := PL) (u := ty_laws_Lease) (z := 33) (cells := leaseC) (ok := fun l => keyOk l.1) (by kernel_rfl) (by kernel_rfl) (by omega) (fun l hl => leaseC_len hl) (fun fuel cs x h => by
    obtain ⟨hl, hf⟩ := trod_fields (l := [(ty_arr32_uint8, 0), (ty_int64, 32)]) (by kernel_rfl) h
    obtain ⟨_, _, t0⟩ := hf 0 _ _ rfl
    obtain ⟨_, _, t1⟩ := hf 1 _ _ rfl
    have e0 : Tryz.prog.cellsOf ty_arr32_uint8 = 32 := by kernel_rfl
    have e1 : Tryz.prog.cellsOf ty_int64 = 1 := by kernel_rfl
    have e2 : Tryz.prog.cellsOf ty_laws_Lease = 33 := by kernel_rfl
    rw [e0] at t0
    rw [e1] at t1
    rw [e2] at hl
    rw [List.drop_zero] at t0
    obtain ⟨_, hall⟩ := trod_bytes (n := 32) (e := ty_uint8) (by kernel_rfl) (by kernel_rfl) (by kernel_rfl) (by kernel_rfl) t0
    obtain ⟨c, hc, _, hw⟩ := DataW.trod_int (k := .i64) (by kernel_rfl) t1
    obtain ⟨g, hg⟩ := choose_lt (α := Int) (n := 32) (p := fun j b => (cs.take 32)[j]? = some (.int .u8 b) ∧ 0 ≤ b ∧ b < 256) (fun j hj => by
      obtain ⟨b, hb, hb2⟩ := hall j hj
      exact ⟨b, hb, hb2⟩)
    refine ⟨((List.range 32).map g, c), ?_, by simp, fun b hb => ?_⟩
    · have ht : cs.take 32 = u8s ((List.range 32).map g) := by
        apply List.ext_getElem?
        intro j
        rcases Nat.lt_or_ge j 32 with hj | hj
        · rw [(hg j hj).1]
          simp [u8s, hj]
        · rw [List.getElem?_eq_none (by simp; omega), List.getElem?_eq_none (by simp [u8s]; omega)]
      have hd : cs.drop 32 = [.int .i64 c] := by
        rw [← hc, List.take_of_length_le (by simp; omega)]
      show cs = u8s _ ++ _
      rw [← List.take_append_drop 32 cs, ht, hd]
    · obtain ⟨j, hj, rfl⟩ := List.mem_map.1 hb
      exact (hg j (List.mem_range.1 hj)).2) hf
  have e : (Value.slice a len cap).cells.toList = [.slice a len cap] := rfl
  rw [e] at h1
  simp at h1
  obtain ⟨rfl, rfl, rfl⟩ := h1
  exact ⟨s, ls, rfl, ⟨h2, h4⟩, h2.cap, h3⟩
end Go.Proofs.YtghoeeiiaadngaaGreat
