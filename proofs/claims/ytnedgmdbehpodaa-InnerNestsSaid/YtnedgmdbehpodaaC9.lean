import Derived.Test.YtnedgmdbehpodaaC8
namespace Go.Proofs.Ytnedgmdbehpodaa
open Go Go.Sy
set_option linter.all false
set_option maxRecDepth 100000
set_option maxHeartbeats 4000000
/-- The number that bytes stand for, the most significant first. -/
def num : List UInt8 → Nat
  | [] => 0
  | x :: l => x.toNat * 256 ^ l.length + num l
theorem num_lt (l : List UInt8) : num l < 256 ^ l.length := by
  induction l with
  | nil => simp [num]
  | cons x l ih =>
    have hx := x.toNat_lt
    simp only [num, List.length_cons, Nat.pow_succ]
    have : x.toNat * 256 ^ l.length ≤ 255 * 256 ^ l.length := Nat.mul_le_mul_right _ (by omega)
    omega
theorem num_append (l m : List UInt8) : num (l ++ m) = num l * 256 ^ m.length + num m := by
  induction l with
  | nil => simp [num]
  | cons x l ih =>
    simp only [List.cons_append, num, ih, List.length_append, Nat.pow_add, Nat.add_mul, Nat.mul_assoc]
    omega
theorem rbF_num (l : List UInt8) : rbF l = num l % 18446744073709551616 := by
  suffices h : ∀ n, (∀ l : List UInt8, l.length = n → rbF l = num l % 18446744073709551616) from h l.length l rfl
  intro n
  induction n with
  | zero => intro l hl; rw [List.eq_nil_of_length_eq_zero hl]; rfl
  | succ n ih =>
    intro l hl
    rcases List.eq_nil_or_concat l with rfl | ⟨l', x, rfl⟩
    · rfl
    · rw [List.concat_eq_append] at hl ⊢
      rw [rbF_append, ih l' (by simpa using hl), num_append]
      simp only [List.length_cons, List.length_nil, num, Nat.pow_zero, Nat.zero_add, Nat.pow_one]
      omega
theorem num_le (v k : Nat) : num ((le v k).reverse) = v % 256 ^ k := by
  induction k generalizing v with
  | zero => simp [le, num, Nat.mod_one]
  | succ k ih =>
    rw [le_succ]
    simp only [List.reverse_append, List.reverse_cons, List.reverse_nil, List.nil_append, List.cons_append, num, ih, List.length_reverse, le_len]
    have : (UInt8.ofNat (v / 256 ^ k)).toNat = v / 256 ^ k % 256 := by simp
    rw [this, Nat.pow_succ, Nat.mod_mul, Nat.mul_comm, Nat.add_comm]
theorem num_be (v k : Nat) : num (be v k) = v % 256 ^ k := by rw [be_rev, num_le]
theorem less_num (a b : List UInt8) (h : a.length = b.length) : Op.bytesLess a b = decide (num a < num b) := by
  induction a generalizing b with
  | nil => cases b with
    | nil => simp [Op.bytesLess]
    | cons y b => simp at h
  | cons x a ih =>
    cases b with
    | nil => simp at h
    | cons y b =>
      have hl : a.length = b.length := by simpa using h
      simp only [Op.bytesLess, ih b hl, num, hl]
      have ha := num_lt a
      have hb := num_lt b
      rw [hl] at ha
      by_cases hxy : x = y
      · subst hxy
        simp
      · have hne : x.toNat ≠ y.toNat := fun e => hxy (UInt8.toNat_inj.1 e)
        rw [beq_eq_false_iff_ne.2 hxy, Bool.false_and, Bool.or_false, Bool.eq_iff_iff, decide_eq_true_eq, decide_eq_true_eq, UInt8.lt_iff_toNat_lt]
        rcases Nat.lt_or_ge x.toNat y.toNat with hlt | hge
        · have : (x.toNat + 1) * 256 ^ b.length ≤ y.toNat * 256 ^ b.length := Nat.mul_le_mul_right _ hlt
          rw [Nat.add_mul] at this
          constructor
          · intro _; omega
          · intro _; exact hlt
        · have : (y.toNat + 1) * 256 ^ b.length ≤ x.toNat * 256 ^ b.length := Nat.mul_le_mul_right _ (by omega)
          rw [Nat.add_mul] at this
          constructor
          · intro _; omega
          · intro _; omega
theorem num_stamp (t : Nat) (ht : t ≤ 1099511627776) : num (stampOf t) = (4611686018427387914 + t / 1000) * 4294967296 + t % 1000 * 1000000 := by
  rw [stampOf, num_append, num_be, num_be, be_len]
  have p8 : (256 ^ 8 : Nat) = 18446744073709551616 := by decide
  have p4 : (256 ^ 4 : Nat) = 4294967296 := by decide
  rw [p8, p4, Nat.mod_eq_of_lt (show 4611686018427387914 + t / 1000 < 18446744073709551616 by omega), Nat.mod_eq_of_lt (show t % 1000 * 1000000 < 4294967296 by omega)]
theorem less_of (x y : Int) (hx : 0 ≤ x ∧ x ≤ 1099511627776) (hy : 0 ≤ y ∧ y ≤ 1099511627776) : Op.bytesLess (ofB x) (ofB y) = decide (x < y) := by
  rw [less_num _ _ (by rw [ofB_len, ofB_len]), ofB, if_pos hx, ofB, if_pos hy, num_stamp _ (by omega), num_stamp _ (by omega), decide_eq_decide]
  omega
theorem tick_of (x : Int) (hx : 0 ≤ x ∧ x ≤ 1099511627776) : tickB (ofB x) = some x := by
  have h8 : (be (4611686018427387914 + x.toNat / 1000) 8).length = 8 := be_len _ _
  have g1 : rbF ((ofB x).take 8) = 4611686018427387914 + x.toNat / 1000 := by
    rw [ofB, if_pos hx, stampOf, List.take_append_of_le_length (by omega), List.take_of_length_le (by omega), rbF_num, num_be, show (256 ^ 8 : Nat) = 18446744073709551616 by decide]; omega
  have g2 : rbF ((ofB x).drop 8) = x.toNat % 1000 * 1000000 := by
    rw [ofB, if_pos hx, stampOf, List.drop_append_of_le_length (by omega), List.drop_eq_nil_of_le (by omega), List.nil_append, rbF_num, num_be, show (256 ^ 4 : Nat) = 4294967296 by decide]
    have hm : x.toNat % 1000 * 1000000 < 4294967296 := by omega
    rw [Nat.mod_eq_of_lt hm, Nat.mod_eq_of_lt (by omega)]
  have g3 : tickT (ofB x) = x := by rw [tickT, g1, g2]; omega
  rw [tickB, if_neg, g3]
  rw [g3, g1]; rintro (h | h | h | h)
  · omega
  · omega
  · omega
  · exact h rfl
end Go.Proofs.Ytnedgmdbehpodaa
