import Derived.Test.YtjlfblcoghiijaaSyV
import Derived.Test.YtjlfblcoghiijaaCB
namespace Go.Proofs.Ytjlfblcoghiijaa
open Go Go.Sy
set_option linter.all false
set_option maxRecDepth 100000
set_option maxHeartbeats 4000000
/-! Rows of records: each record is n cells. -/
section
variable {α : Type} {f : α → List CV} {n : Nat}
theorem fl_len : ∀ {l : List α}, (∀ a ∈ l, (f a).length = n) → (l.flatMap f).length = l.length * n
  | [], _ => by simp
  | a :: l, hf => by rw [List.flatMap_cons, List.length_append, fl_len fun b hb => hf b (by simp [hb]), hf a (by simp), List.length_cons, Nat.succ_mul, Nat.add_comm]
theorem fl_drop : ∀ {l : List α} (i : Nat), (∀ a ∈ l, (f a).length = n) → (l.flatMap f).drop (i * n) = (l.drop i).flatMap f
  | l, 0, _ => by simp
  | [], i + 1, _ => by simp
  | a :: l, i + 1, hf => by
    rw [List.flatMap_cons, List.drop_succ_cons, Nat.succ_mul, Nat.add_comm, ← List.drop_drop, List.drop_left' (hf a (by simp)), fl_drop i fun b hb => hf b (by simp [hb])]
theorem fl_take : ∀ {l : List α} (i : Nat), (∀ a ∈ l, (f a).length = n) → (l.flatMap f).take (i * n) = (l.take i).flatMap f
  | l, 0, _ => by simp
  | [], i + 1, _ => by simp
  | a :: l, i + 1, hf => by
    have ha := hf a (by simp)
    rw [List.flatMap_cons, List.take_succ_cons, List.flatMap_cons, Nat.succ_mul, Nat.add_comm, List.take_append, List.take_of_length_le (by rw [ha]; omega), ha, Nat.add_sub_cancel_left, fl_take i fun b hb => hf b (by simp [hb])]
theorem fl_get {l : List α} (hf : ∀ a ∈ l, (f a).length = n) (i : Nat) (h : i < l.length) : ((l.flatMap f).drop (i * n)).take n = f l[i] := by
  rw [fl_drop i hf, List.drop_eq_getElem_cons h, List.flatMap_cons, List.take_left' (hf _ (List.getElem_mem h))]
theorem fl_set {l : List α} (hf : ∀ a ∈ l, (f a).length = n) (i : Nat) (h : i < l.length) (a : α) (ha : (f a).length = n) : splice (l.flatMap f) (i * n) (f a) = (l.set i a).flatMap f := by
  rw [splice, ha, fl_take i hf, ← Nat.succ_mul, fl_drop _ hf, List.set_eq_take_append_cons_drop, if_pos h, List.flatMap_append, List.flatMap_cons, List.append_assoc]
theorem fl_app (l m : List α) : l.flatMap f ++ m.flatMap f = (l ++ m).flatMap f := (List.flatMap_append ..).symm
theorem fl_one (a : α) : [a].flatMap f = f a := by simp
theorem fl_sub {l : List α} (hf : ∀ a ∈ l, (f a).length = n) (i k : Nat) : ((l.flatMap f).drop (i * n)).take (k * n) = ((l.drop i).take k).flatMap f := by
  rw [fl_drop i hf, fl_take k fun a ha => hf a (List.mem_of_mem_drop ha)]
end
/-- A timer's cells; a slot's. -/
def tmC (t : Int × List UInt8 × Int) : List CV := .int .i64 t.1 :: (t.2.1.map byteC ++ [.int .i64 t.2.2])
def slC (s : Int × List UInt8 × Bool) : List CV := .int .u32 s.1 :: (s.2.1.map byteC ++ [.bool s.2.2])
theorem tmC_len {t : Int × List UInt8 × Int} (h : t.2.1.length = 32) : (tmC t).length = 34 := by simp [tmC, h]
theorem slC_len {s : Int × List UInt8 × Bool} (h : s.2.1.length = 32) : (slC s).length = 34 := by simp [slC, h]
end Go.Proofs.Ytjlfblcoghiijaa
