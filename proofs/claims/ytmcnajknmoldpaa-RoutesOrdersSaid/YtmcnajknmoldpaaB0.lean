import Derived.Test.YtmcnajknmoldpaaR1
namespace Go.Proofs.Ytmcnajknmoldpaa
open Go Go.Sy
set_option linter.all false
set_option maxRecDepth 100000
set_option maxHeartbeats 4000000
/-! Bytes with what follows them (the same laws stand in W2). -/
theorem bmid {l : List UInt8} {n : Nat} (h : l.length = n) (x : List CV) : (l.map byteC ++ x).take n = l.map byteC ∧ (l.map byteC ++ x).drop n = x := ⟨List.take_left' (by rw [List.length_map, h]), List.drop_left' (by rw [List.length_map, h])⟩
theorem bmid1 {l : List UInt8} {m : Nat} (h : l.length + 1 = m) (y : CV) : (l.map byteC ++ [y]).take m = l.map byteC ++ [y] := List.take_of_length_le (by rw [List.length_append, List.length_map]; simp; omega)
theorem btk {l : List UInt8} {n : Nat} (h : l.length = n) : l.take n = l := List.take_of_length_le (by omega)
end Go.Proofs.Ytmcnajknmoldpaa
