/- Groups of blocks pulled to the front and put back: more of them. Printed. -/
import Derived.Test.YtffedfdhhglmkaaGreatW0
namespace Go.Sx
open Go.RowKit (Below)
variable {w0 w : World}
theorem At.pl11 {V G1 G2 G3 G4 G5 G6 G7 G8 G9 G10 G11 X : List Blk} (h : At w0 w (V ++ (G1 ++ (G2 ++ (G3 ++ (G4 ++ (G5 ++ (G6 ++ (G7 ++ (G8 ++ (G9 ++ (G10 ++ (G11 ++ (X)))))))))))))) : At w0 w (G11 ++ (V ++ (G1 ++ (G2 ++ (G3 ++ (G4 ++ (G5 ++ (G6 ++ (G7 ++ (G8 ++ (G9 ++ (G10 ++ (X))))))))))))) := by
  rw [← List.append_assoc V G1] at h
  have h := At.pl10 h
  rwa [List.append_assoc V G1] at h
theorem At.ps11 {V G1 G2 G3 G4 G5 G6 G7 G8 G9 G10 G11 X : List Blk} (h : At w0 w (G11 ++ (V ++ (G1 ++ (G2 ++ (G3 ++ (G4 ++ (G5 ++ (G6 ++ (G7 ++ (G8 ++ (G9 ++ (G10 ++ (X)))))))))))))) : At w0 w (V ++ (G1 ++ (G2 ++ (G3 ++ (G4 ++ (G5 ++ (G6 ++ (G7 ++ (G8 ++ (G9 ++ (G10 ++ (G11 ++ (X))))))))))))) := by
  rw [← List.append_assoc V G1] at h
  have h := At.ps10 h
  rwa [List.append_assoc V G1] at h
theorem At.dr11 {V G1 G2 G3 G4 G5 G6 G7 G8 G9 G10 G11 X : List Blk} (h : At w0 w (V ++ (G1 ++ (G2 ++ (G3 ++ (G4 ++ (G5 ++ (G6 ++ (G7 ++ (G8 ++ (G9 ++ (G10 ++ (G11 ++ (X)))))))))))))) : At w0 w (V ++ (G1 ++ (G2 ++ (G3 ++ (G4 ++ (G5 ++ (G6 ++ (G7 ++ (G8 ++ (G9 ++ (G10 ++ (X)))))))))))) := h.pl11.right
theorem At.pl12 {V G1 G2 G3 G4 G5 G6 G7 G8 G9 G10 G11 G12 X : List Blk} (h : At w0 w (V ++ (G1 ++ (G2 ++ (G3 ++ (G4 ++ (G5 ++ (G6 ++ (G7 ++ (G8 ++ (G9 ++ (G10 ++ (G11 ++ (G12 ++ (X))))))))))))))) : At w0 w (G12 ++ (V ++ (G1 ++ (G2 ++ (G3 ++ (G4 ++ (G5 ++ (G6 ++ (G7 ++ (G8 ++ (G9 ++ (G10 ++ (G11 ++ (X)))))))))))))) := by
  rw [← List.append_assoc V G1] at h
  have h := At.pl11 h
  rwa [List.append_assoc V G1] at h
theorem At.ps12 {V G1 G2 G3 G4 G5 G6 G7 G8 G9 G10 G11 G12 X : List Blk} (h : At w0 w (G12 ++ (V ++ (G1 ++ (G2 ++ (G3 ++ (G4 ++ (G5 ++ (G6 ++ (G7 ++ (G8 ++ (G9 ++ (G10 ++ (G11 ++ (X))))))))))))))) : At w0 w (V ++ (G1 ++ (G2 ++ (G3 ++ (G4 ++ (G5 ++ (G6 ++ (G7 ++ (G8 ++ (G9 ++ (G10 ++ (G11 ++ (G12 ++ (X)))))))))))))) := by
  rw [← List.append_assoc V G1] at h
  have h := At.ps11 h
  rwa [List.append_assoc V G1] at h
theorem At.dr12 {V G1 G2 G3 G4 G5 G6 G7 G8 G9 G10 G11 G12 X : List Blk} (h : At w0 w (V ++ (G1 ++ (G2 ++ (G3 ++ (G4 ++ (G5 ++ (G6 ++ (G7 ++ (G8 ++ (G9 ++ (G10 ++ (G11 ++ (G12 ++ (X))))))))))))))) : At w0 w (V ++ (G1 ++ (G2 ++ (G3 ++ (G4 ++ (G5 ++ (G6 ++ (G7 ++ (G8 ++ (G9 ++ (G10 ++ (G11 ++ (X))))))))))))) := h.pl12.right
theorem At.pl13 {V G1 G2 G3 G4 G5 G6 G7 G8 G9 G10 G11 G12 G13 X : List Blk} (h : At w0 w (V ++ (G1 ++ (G2 ++ (G3 ++ (G4 ++ (G5 ++ (G6 ++ (G7 ++ (G8 ++ (G9 ++ (G10 ++ (G11 ++ (G12 ++ (G13 ++ (X)))))))))))))))) : At w0 w (G13 ++ (V ++ (G1 ++ (G2 ++ (G3 ++ (G4 ++ (G5 ++ (G6 ++ (G7 ++ (G8 ++ (G9 ++ (G10 ++ (G11 ++ (G12 ++ (X))))))))))))))) := by
  rw [← List.append_assoc V G1] at h
  have h := At.pl12 h
  rwa [List.append_assoc V G1] at h
theorem At.ps13 {V G1 G2 G3 G4 G5 G6 G7 G8 G9 G10 G11 G12 G13 X : List Blk} (h : At w0 w (G13 ++ (V ++ (G1 ++ (G2 ++ (G3 ++ (G4 ++ (G5 ++ (G6 ++ (G7 ++ (G8 ++ (G9 ++ (G10 ++ (G11 ++ (G12 ++ (X)))))))))))))))) : At w0 w (V ++ (G1 ++ (G2 ++ (G3 ++ (G4 ++ (G5 ++ (G6 ++ (G7 ++ (G8 ++ (G9 ++ (G10 ++ (G11 ++ (G12 ++ (G13 ++ (X))))))))))))))) := by
  rw [← List.append_assoc V G1] at h
  have h := At.ps12 h
  rwa [List.append_assoc V G1] at h
theorem At.dr13 {V G1 G2 G3 G4 G5 G6 G7 G8 G9 G10 G11 G12 G13 X : List Blk} (h : At w0 w (V ++ (G1 ++ (G2 ++ (G3 ++ (G4 ++ (G5 ++ (G6 ++ (G7 ++ (G8 ++ (G9 ++ (G10 ++ (G11 ++ (G12 ++ (G13 ++ (X)))))))))))))))) : At w0 w (V ++ (G1 ++ (G2 ++ (G3 ++ (G4 ++ (G5 ++ (G6 ++ (G7 ++ (G8 ++ (G9 ++ (G10 ++ (G11 ++ (G12 ++ (X)))))))))))))) := h.pl13.right
theorem At.pl14 {V G1 G2 G3 G4 G5 G6 G7 G8 G9 G10 G11 G12 G13 G14 X : List Blk} (h : At w0 w (V ++ (G1 ++ (G2 ++ (G3 ++ (G4 ++ (G5 ++ (G6 ++ (G7 ++ (G8 ++ (G9 ++ (G10 ++ (G11 ++ (G12 ++ (G13 ++ (G14 ++ (X))))))))))))))))) : At w0 w (G14 ++ (V ++ (G1 ++ (G2 ++ (G3 ++ (G4 ++ (G5 ++ (G6 ++ (G7 ++ (G8 ++ (G9 ++ (G10 ++ (G11 ++ (G12 ++ (G13 ++ (X)))))))))))))))) := by
  rw [← List.append_assoc V G1] at h
  have h := At.pl13 h
  rwa [List.append_assoc V G1] at h
theorem At.ps14 {V G1 G2 G3 G4 G5 G6 G7 G8 G9 G10 G11 G12 G13 G14 X : List Blk} (h : At w0 w (G14 ++ (V ++ (G1 ++ (G2 ++ (G3 ++ (G4 ++ (G5 ++ (G6 ++ (G7 ++ (G8 ++ (G9 ++ (G10 ++ (G11 ++ (G12 ++ (G13 ++ (X))))))))))))))))) : At w0 w (V ++ (G1 ++ (G2 ++ (G3 ++ (G4 ++ (G5 ++ (G6 ++ (G7 ++ (G8 ++ (G9 ++ (G10 ++ (G11 ++ (G12 ++ (G13 ++ (G14 ++ (X)))))))))))))))) := by
  rw [← List.append_assoc V G1] at h
  have h := At.ps13 h
  rwa [List.append_assoc V G1] at h
theorem At.dr14 {V G1 G2 G3 G4 G5 G6 G7 G8 G9 G10 G11 G12 G13 G14 X : List Blk} (h : At w0 w (V ++ (G1 ++ (G2 ++ (G3 ++ (G4 ++ (G5 ++ (G6 ++ (G7 ++ (G8 ++ (G9 ++ (G10 ++ (G11 ++ (G12 ++ (G13 ++ (G14 ++ (X))))))))))))))))) : At w0 w (V ++ (G1 ++ (G2 ++ (G3 ++ (G4 ++ (G5 ++ (G6 ++ (G7 ++ (G8 ++ (G9 ++ (G10 ++ (G11 ++ (G12 ++ (G13 ++ (X))))))))))))))) := h.pl14.right
theorem At.pl15 {V G1 G2 G3 G4 G5 G6 G7 G8 G9 G10 G11 G12 G13 G14 G15 X : List Blk} (h : At w0 w (V ++ (G1 ++ (G2 ++ (G3 ++ (G4 ++ (G5 ++ (G6 ++ (G7 ++ (G8 ++ (G9 ++ (G10 ++ (G11 ++ (G12 ++ (G13 ++ (G14 ++ (G15 ++ (X)))))))))))))))))) : At w0 w (G15 ++ (V ++ (G1 ++ (G2 ++ (G3 ++ (G4 ++ (G5 ++ (G6 ++ (G7 ++ (G8 ++ (G9 ++ (G10 ++ (G11 ++ (G12 ++ (G13 ++ (G14 ++ (X))))))))))))))))) := by
  rw [← List.append_assoc V G1] at h
  have h := At.pl14 h
  rwa [List.append_assoc V G1] at h
theorem At.ps15 {V G1 G2 G3 G4 G5 G6 G7 G8 G9 G10 G11 G12 G13 G14 G15 X : List Blk} (h : At w0 w (G15 ++ (V ++ (G1 ++ (G2 ++ (G3 ++ (G4 ++ (G5 ++ (G6 ++ (G7 ++ (G8 ++ (G9 ++ (G10 ++ (G11 ++ (G12 ++ (G13 ++ (G14 ++ (X)))))))))))))))))) : At w0 w (V ++ (G1 ++ (G2 ++ (G3 ++ (G4 ++ (G5 ++ (G6 ++ (G7 ++ (G8 ++ (G9 ++ (G10 ++ (G11 ++ (G12 ++ (G13 ++ (G14 ++ (G15 ++ (X))))))))))))))))) := by
  rw [← List.append_assoc V G1] at h
  have h := At.ps14 h
  rwa [List.append_assoc V G1] at h
theorem At.dr15 {V G1 G2 G3 G4 G5 G6 G7 G8 G9 G10 G11 G12 G13 G14 G15 X : List Blk} (h : At w0 w (V ++ (G1 ++ (G2 ++ (G3 ++ (G4 ++ (G5 ++ (G6 ++ (G7 ++ (G8 ++ (G9 ++ (G10 ++ (G11 ++ (G12 ++ (G13 ++ (G14 ++ (G15 ++ (X)))))))))))))))))) : At w0 w (V ++ (G1 ++ (G2 ++ (G3 ++ (G4 ++ (G5 ++ (G6 ++ (G7 ++ (G8 ++ (G9 ++ (G10 ++ (G11 ++ (G12 ++ (G13 ++ (G14 ++ (X)))))))))))))))) := h.pl15.right
theorem At.pl16 {V G1 G2 G3 G4 G5 G6 G7 G8 G9 G10 G11 G12 G13 G14 G15 G16 X : List Blk} (h : At w0 w (V ++ (G1 ++ (G2 ++ (G3 ++ (G4 ++ (G5 ++ (G6 ++ (G7 ++ (G8 ++ (G9 ++ (G10 ++ (G11 ++ (G12 ++ (G13 ++ (G14 ++ (G15 ++ (G16 ++ (X))))))))))))))))))) : At w0 w (G16 ++ (V ++ (G1 ++ (G2 ++ (G3 ++ (G4 ++ (G5 ++ (G6 ++ (G7 ++ (G8 ++ (G9 ++ (G10 ++ (G11 ++ (G12 ++ (G13 ++ (G14 ++ (G15 ++ (X)))))))))))))))))) := by
  rw [← List.append_assoc V G1] at h
  have h := At.pl15 h
  rwa [List.append_assoc V G1] at h
theorem At.ps16 {V G1 G2 G3 G4 G5 G6 G7 G8 G9 G10 G11 G12 G13 G14 G15 G16 X : List Blk} (h : At w0 w (G16 ++ (V ++ (G1 ++ (G2 ++ (G3 ++ (G4 ++ (G5 ++ (G6 ++ (G7 ++ (G8 ++ (G9 ++ (G10 ++ (G11 ++ (G12 ++ (G13 ++ (G14 ++ (G15 ++ (X))))))))))))))))))) : At w0 w (V ++ (G1 ++ (G2 ++ (G3 ++ (G4 ++ (G5 ++ (G6 ++ (G7 ++ (G8 ++ (G9 ++ (G10 ++ (G11 ++ (G12 ++ (G13 ++ (G14 ++ (G15 ++ (G16 ++ (X)))))))))))))))))) := by
  rw [← List.append_assoc V G1] at h
  have h := At.ps15 h
  rwa [List.append_assoc V G1] at h
theorem At.dr16 {V G1 G2 G3 G4 G5 G6 G7 G8 G9 G10 G11 G12 G13 G14 G15 G16 X : List Blk} (h : At w0 w (V ++ (G1 ++ (G2 ++ (G3 ++ (G4 ++ (G5 ++ (G6 ++ (G7 ++ (G8 ++ (G9 ++ (G10 ++ (G11 ++ (G12 ++ (G13 ++ (G14 ++ (G15 ++ (G16 ++ (X))))))))))))))))))) : At w0 w (V ++ (G1 ++ (G2 ++ (G3 ++ (G4 ++ (G5 ++ (G6 ++ (G7 ++ (G8 ++ (G9 ++ (G10 ++ (G11 ++ (G12 ++ (G13 ++ (G14 ++ (G15 ++ (X))))))))))))))))) := h.pl16.right
theorem At.pl17 {V G1 G2 G3 G4 G5 G6 G7 G8 G9 G10 G11 G12 G13 G14 G15 G16 G17 X : List Blk} (h : At w0 w (V ++ (G1 ++ (G2 ++ (G3 ++ (G4 ++ (G5 ++ (G6 ++ (G7 ++ (G8 ++ (G9 ++ (G10 ++ (G11 ++ (G12 ++ (G13 ++ (G14 ++ (G15 ++ (G16 ++ (G17 ++ (X)))))))))))))))))))) : At w0 w (G17 ++ (V ++ (G1 ++ (G2 ++ (G3 ++ (G4 ++ (G5 ++ (G6 ++ (G7 ++ (G8 ++ (G9 ++ (G10 ++ (G11 ++ (G12 ++ (G13 ++ (G14 ++ (G15 ++ (G16 ++ (X))))))))))))))))))) := by
  rw [← List.append_assoc V G1] at h
  have h := At.pl16 h
  rwa [List.append_assoc V G1] at h
theorem At.ps17 {V G1 G2 G3 G4 G5 G6 G7 G8 G9 G10 G11 G12 G13 G14 G15 G16 G17 X : List Blk} (h : At w0 w (G17 ++ (V ++ (G1 ++ (G2 ++ (G3 ++ (G4 ++ (G5 ++ (G6 ++ (G7 ++ (G8 ++ (G9 ++ (G10 ++ (G11 ++ (G12 ++ (G13 ++ (G14 ++ (G15 ++ (G16 ++ (X)))))))))))))))))))) : At w0 w (V ++ (G1 ++ (G2 ++ (G3 ++ (G4 ++ (G5 ++ (G6 ++ (G7 ++ (G8 ++ (G9 ++ (G10 ++ (G11 ++ (G12 ++ (G13 ++ (G14 ++ (G15 ++ (G16 ++ (G17 ++ (X))))))))))))))))))) := by
  rw [← List.append_assoc V G1] at h
  have h := At.ps16 h
  rwa [List.append_assoc V G1] at h
theorem At.dr17 {V G1 G2 G3 G4 G5 G6 G7 G8 G9 G10 G11 G12 G13 G14 G15 G16 G17 X : List Blk} (h : At w0 w (V ++ (G1 ++ (G2 ++ (G3 ++ (G4 ++ (G5 ++ (G6 ++ (G7 ++ (G8 ++ (G9 ++ (G10 ++ (G11 ++ (G12 ++ (G13 ++ (G14 ++ (G15 ++ (G16 ++ (G17 ++ (X)))))))))))))))))))) : At w0 w (V ++ (G1 ++ (G2 ++ (G3 ++ (G4 ++ (G5 ++ (G6 ++ (G7 ++ (G8 ++ (G9 ++ (G10 ++ (G11 ++ (G12 ++ (G13 ++ (G14 ++ (G15 ++ (G16 ++ (X)))))))))))))))))) := h.pl17.right
theorem At.pl18 {V G1 G2 G3 G4 G5 G6 G7 G8 G9 G10 G11 G12 G13 G14 G15 G16 G17 G18 X : List Blk} (h : At w0 w (V ++ (G1 ++ (G2 ++ (G3 ++ (G4 ++ (G5 ++ (G6 ++ (G7 ++ (G8 ++ (G9 ++ (G10 ++ (G11 ++ (G12 ++ (G13 ++ (G14 ++ (G15 ++ (G16 ++ (G17 ++ (G18 ++ (X))))))))))))))))))))) : At w0 w (G18 ++ (V ++ (G1 ++ (G2 ++ (G3 ++ (G4 ++ (G5 ++ (G6 ++ (G7 ++ (G8 ++ (G9 ++ (G10 ++ (G11 ++ (G12 ++ (G13 ++ (G14 ++ (G15 ++ (G16 ++ (G17 ++ (X)))))))))))))))))))) := by
  rw [← List.append_assoc V G1] at h
  have h := At.pl17 h
  rwa [List.append_assoc V G1] at h
theorem At.ps18 {V G1 G2 G3 G4 G5 G6 G7 G8 G9 G10 G11 G12 G13 G14 G15 G16 G17 G18 X : List Blk} (h : At w0 w (G18 ++ (V ++ (G1 ++ (G2 ++ (G3 ++ (G4 ++ (G5 ++ (G6 ++ (G7 ++ (G8 ++ (G9 ++ (G10 ++ (G11 ++ (G12 ++ (G13 ++ (G14 ++ (G15 ++ (G16 ++ (G17 ++ (X))))))))))))))))))))) : At w0 w (V ++ (G1 ++ (G2 ++ (G3 ++ (G4 ++ (G5 ++ (G6 ++ (G7 ++ (G8 ++ (G9 ++ (G10 ++ (G11 ++ (G12 ++ (G13 ++ (G14 ++ (G15 ++ (G16 ++ (G17 ++ (G18 ++ (X)))))))))))))))))))) := by
  rw [← List.append_assoc V G1] at h
  have h := At.ps17 h
  rwa [List.append_assoc V G1] at h
theorem At.dr18 {V G1 G2 G3 G4 G5 G6 G7 G8 G9 G10 G11 G12 G13 G14 G15 G16 G17 G18 X : List Blk} (h : At w0 w (V ++ (G1 ++ (G2 ++ (G3 ++ (G4 ++ (G5 ++ (G6 ++ (G7 ++ (G8 ++ (G9 ++ (G10 ++ (G11 ++ (G12 ++ (G13 ++ (G14 ++ (G15 ++ (G16 ++ (G17 ++ (G18 ++ (X))))))))))))))))))))) : At w0 w (V ++ (G1 ++ (G2 ++ (G3 ++ (G4 ++ (G5 ++ (G6 ++ (G7 ++ (G8 ++ (G9 ++ (G10 ++ (G11 ++ (G12 ++ (G13 ++ (G14 ++ (G15 ++ (G16 ++ (G17 ++ (X))))))))))))))))))) := h.pl18.right
end Go.Sx
