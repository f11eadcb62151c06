/- slices.Insert for keys and for blobs. Printed by a program of this claim's author (s1.py). -/
import Derived.Test.YtghoeeiiaadngaaGreatS0
import Derived.Test.YtghoeeiiaadngaaGreatT1
namespace Go.Proofs.YtghoeeiiaadngaaGreat
open Go.Sx Go.RowKit

theorem ins1 {xs vs xs2 : List Value} {a z N : Nat} (hx : xs.length = N) (hv : vs.length = z) (h2 : xs2.length = N + z) (ha : a ≤ N) (ht : xs2.take a = xs.take a) :
    (xs2.take a ++ vs ++ xs2.drop (a + z)).take (a + z) ++ xs.drop a ++ (xs2.take a ++ vs ++ xs2.drop (a + z)).drop (a + z + (N - a)) = xs.take a ++ vs ++ xs.drop a := by
  rw [ht]
  have l1 : (xs.take a ++ vs).length = a + z := by rw [List.length_append, List.length_take]; omega
  have l2 : (xs.take a ++ vs ++ xs2.drop (a + z)).drop (a + z + (N - a)) = [] := List.drop_eq_nil_of_le (by rw [List.length_append, l1, List.length_drop]; omega)
  rw [l2, List.append_nil, List.take_append_of_le_length (by omega), List.take_of_length_le (l := xs.take a ++ vs) (by omega)]

theorem ins2 {ys vs : List Value} {a z N : Nat} (hv : vs.length = z) (hy : ys.length = N + z) (ha : a ≤ N) :
    (ys.take (a + z) ++ (ys.drop a).take (N - a) ++ ys.drop (a + z + (N - a))).take a ++ vs ++ (ys.take (a + z) ++ (ys.drop a).take (N - a) ++ ys.drop (a + z + (N - a))).drop (a + z) = (ys.take N).take a ++ vs ++ (ys.take N).drop a := by
  have l1 : (ys.take (a + z)).length = a + z := by rw [List.length_take]; omega
  have l2 : ys.drop (a + z + (N - a)) = [] := List.drop_eq_nil_of_le (by omega)
  rw [l2, List.append_nil, List.take_append_of_le_length (by omega), List.take_take, List.take_take, List.drop_take, List.drop_append, l1, List.drop_eq_nil_of_le (by omega), Nat.sub_self, List.drop_zero, List.nil_append, show min a (a + z) = min a N by omega]

end Go.Proofs.YtghoeeiiaadngaaGreat
