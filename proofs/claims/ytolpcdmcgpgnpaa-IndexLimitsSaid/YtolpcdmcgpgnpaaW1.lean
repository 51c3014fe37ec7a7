import Derived.Test.YtolpcdmcgpgnpaaW0
import Derived.Lib.BytesEntry
namespace Go.Proofs.Ytolpcdmcgpgnpaa
open Go Go.Sy
set_option linter.all false
set_option maxRecDepth 100000
set_option maxHeartbeats 4000000
theorem cmp_zero : ∀ {a b : List UInt8}, Lib.compareBytes a b = 0 ↔ a = b
  | [], [] => by simp [Lib.compareBytes]
  | [], _ :: _ => by simp [Lib.compareBytes]
  | _ :: _, [] => by simp [Lib.compareBytes]
  | x :: a, y :: b => by
    unfold Lib.compareBytes
    by_cases h1 : x < y
    · rw [if_pos h1]
      constructor
      · intro h; omega
      · intro h; simp only [List.cons.injEq] at h; rw [h.1] at h1; exact absurd h1 (UInt8.lt_irrefl y)
    · by_cases h2 : y < x
      · rw [if_neg h1, if_pos h2]
        constructor
        · intro h; omega
        · intro h; simp only [List.cons.injEq] at h; rw [h.1] at h2; exact absurd h2 (UInt8.lt_irrefl y)
      · have : x = y := UInt8.le_antisymm (UInt8.not_lt.1 h2) (UInt8.not_lt.1 h1)
        subst this
        rw [if_neg h1, if_neg h2, cmp_zero]; simp
theorem cmp_less : ∀ a b : List UInt8, decide (Lib.compareBytes a b < 0) = Op.bytesLess a b
  | [], [] => rfl
  | [], _ :: _ => rfl
  | _ :: _, [] => rfl
  | x :: a, y :: b => by
    have ih := cmp_less a b
    unfold Lib.compareBytes Op.bytesLess
    by_cases h1 : x < y
    · simp [h1]
    · by_cases h2 : y < x
      · have : (x == y) = false := by rw [beq_eq_false_iff_ne]; rintro rfl; exact h1 h2
        simp [h1, h2, this]
      · have : x = y := UInt8.le_antisymm (UInt8.not_lt.1 h2) (UInt8.not_lt.1 h1)
        subst this
        simp [h1, ih]
/-- The order as the code has it. -/
theorem tLess_code (t u : Tm) : tLess t u = if t.1 ≠ u.1 then decide (t.1 < u.1) else if Lib.compareBytes t.2.1 u.2.1 ≠ 0 then decide (Lib.compareBytes t.2.1 u.2.1 < 0) else decide (t.2.2 < u.2.2) := by
  unfold tLess
  by_cases h1 : t.1 = u.1
  · have h1' : ¬ (t.1 ≠ u.1) := fun h => h h1
    by_cases h2 : t.2.1 = u.2.1
    · have h3 : ¬ (Lib.compareBytes t.2.1 u.2.1 ≠ 0) := fun h => h (cmp_zero.2 h2)
      simp only [if_pos h1, if_pos h2, if_neg h1', if_neg h3]
    · have h3 : Lib.compareBytes t.2.1 u.2.1 ≠ 0 := fun h => h2 (cmp_zero.1 h)
      simp only [if_pos h1, if_neg h2, if_neg h1', if_pos h3, cmp_less]
  · simp only [if_neg h1, if_pos (show t.1 ≠ u.1 from h1)]
theorem tIns_count (p : Tm → Bool) (t : Tm) : ∀ l : List Tm, (tIns t l).countP p = l.countP p + if p t then 1 else 0
  | [] => by simp [tIns, List.countP_cons]
  | u :: l => by
    unfold tIns; split
    · rw [List.countP_cons]
    · rw [List.countP_cons, tIns_count p t l, List.countP_cons]; omega
theorem tSet_count (l : List Tm) (t : Tm) : (tSet l t).countP (fun u => u.2 == t.2) = 1 := by
  rw [tSet, tIns_count, if_pos (by simp), List.countP_eq_zero.2]
  intro u hu
  simpa using tCancel_ne hu
theorem tSet_same {l : List Tm} {t u : Tm} (h : u ∈ tSet l t) (hk : u.2 = t.2) : u = t := by
  rcases tSet_key h with h | ⟨h, _⟩
  · exact h
  · exact absurd hk h
theorem tSet_ok {l : List Tm} {t : Tm} (hl : ∀ u ∈ l, tOk u = true) (ht : tOk t = true) : ∀ u ∈ tSet l t, tOk u = true := fun u hu => by
  rcases tSet_key hu with rfl | ⟨_, h⟩
  · exact ht
  · exact hl u h
/-- What made lists are. -/
structure tGood (l : List Tm) : Prop where
  sorted : tSorted l
  keys : tKeys l
  ok : ∀ u ∈ l, tOk u = true
  len : ∀ u ∈ l, u.2.1.length = 32
theorem tGood.nil : tGood [] := ⟨List.Pairwise.nil, List.Pairwise.nil, fun _ h => (by cases h), fun _ h => (by cases h)⟩
theorem tGood.set {l : List Tm} {t : Tm} (h : tGood l) (ht : tOk t = true) (hl : t.2.1.length = 32) : tGood (tSet l t) :=
  ⟨tSet_sorted t h.sorted, tSet_keys t h.keys, tSet_ok h.ok ht, fun u hu => by
    rcases tSet_key hu with rfl | ⟨_, h'⟩
    · exact hl
    · exact h.len u h'⟩
theorem tGood.valid {l : List Tm} (h : tGood l) : tValidF [] l = true := tValidF_of (pre := []) h.sorted h.keys h.ok
theorem tGood.drop {l : List Tm} (h : tGood l) (i : Nat) : tGood (l.drop i) :=
  ⟨h.sorted.sublist (List.drop_sublist i l), h.keys.sublist (List.drop_sublist i l), fun u hu => h.ok u (List.mem_of_mem_drop hu), fun u hu => h.len u (List.mem_of_mem_drop hu)⟩
theorem tGood.min {t : Tm} {l : List Tm} (h : tGood (t :: l)) : tMinF t l = t := tMinF_sorted (List.pairwise_cons.1 h.sorted).1
theorem tGood.rest {t : Tm} {l : List Tm} {n : Int} (h : tGood (t :: l)) (hn : n < t.1) : ∀ u ∈ t :: l, n < u.1 := fun u hu => by
  rcases List.mem_cons.1 hu with rfl | hu
  · exact hn
  · have := tSorted_at ((List.pairwise_cons.1 h.sorted).1 u hu); omega
end Go.Proofs.Ytolpcdmcgpgnpaa
