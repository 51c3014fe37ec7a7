import Derived.Test.YtnedgmdbehpodaaC5
namespace Go.Proofs.Ytnedgmdbehpodaa
open Go Go.Sy
set_option linter.all false
set_option maxRecDepth 100000
set_option maxHeartbeats 4000000
theorem tmod_b (x n : Int) (h : 1 ≤ n) : -n < x.tmod n ∧ x.tmod n < n := by
  rcases Int.le_total 0 x with h0 | h0
  · rw [Int.tmod_eq_emod_of_nonneg h0]; exact ⟨by have := Int.emod_nonneg x (by omega : n ≠ 0); omega, Int.emod_lt_of_pos x (by omega)⟩
  · have := Int.neg_tmod (a := -x) (b := n)
    rw [Int.neg_neg] at this
    rw [this, Int.tmod_eq_emod_of_nonneg (by omega)]
    have g1 := Int.emod_nonneg (-x) (by omega : n ≠ 0); have g2 := Int.emod_lt_of_pos (-x) (by omega : 0 < n); omega
theorem mod_eq (x n : Int) (h : 1 ≤ n) : (x.tmod n + n).tmod n = x % n := by
  have hb := tmod_b x n h
  rw [Int.tmod_eq_emod_of_nonneg (by omega), Int.add_emod_right]
  have : x = n * x.tdiv n + x.tmod n := (Int.mul_tdiv_add_tmod x n).symm
  conv => rhs; rw [this]
  rw [Int.add_comm, Int.add_mul_emod_self_left]
def num : List UInt8 → Nat
  | [] => 0
  | x :: l => x.toNat * 256 ^ l.length + num l
theorem num_lt (l : List UInt8) : num l < 256 ^ l.length := by
  induction l with
  | nil => simp [num]
  | cons x l ih =>
    have hx := x.toNat_lt
    simp only [num, List.length_cons, Nat.pow_succ]
    have : x.toNat * 256 ^ l.length ≤ 255 * 256 ^ l.length := Nat.mul_le_mul_right _ (by omega)
    omega
theorem num_append (l m : List UInt8) : num (l ++ m) = num l * 256 ^ m.length + num m := by
  induction l with
  | nil => simp [num]
  | cons x l ih =>
    simp only [List.cons_append, num, ih, List.length_append, Nat.pow_add, Nat.add_mul, Nat.mul_assoc]
    omega
theorem rbF_num (l : List UInt8) : rbF l = num l % 18446744073709551616 := by
  suffices h : ∀ n, (∀ l : List UInt8, l.length = n → rbF l = num l % 18446744073709551616) from h l.length l rfl
  intro n
  induction n with
  | zero => intro l hl; rw [List.eq_nil_of_length_eq_zero hl]; rfl
  | succ n ih =>
    intro l hl
    rcases List.eq_nil_or_concat l with rfl | ⟨l', x, rfl⟩
    · rfl
    · rw [List.concat_eq_append] at hl ⊢
      rw [rbF_append, ih l' (by simpa using hl), num_append]
      simp only [List.length_cons, List.length_nil, num, Nat.pow_zero, Nat.zero_add, Nat.pow_one]
      omega
theorem num_le (v k : Nat) : num ((le v k).reverse) = v % 256 ^ k := by
  induction k generalizing v with
  | zero => simp [le, num, Nat.mod_one]
  | succ k ih =>
    rw [le_succ]
    simp only [List.reverse_append, List.reverse_cons, List.reverse_nil, List.nil_append, List.cons_append, num, ih, List.length_reverse, le_len]
    have : (UInt8.ofNat (v / 256 ^ k)).toNat = v / 256 ^ k % 256 := by simp
    rw [this, Nat.pow_succ, Nat.mod_mul, Nat.mul_comm, Nat.add_comm]
end Go.Proofs.Ytnedgmdbehpodaa
