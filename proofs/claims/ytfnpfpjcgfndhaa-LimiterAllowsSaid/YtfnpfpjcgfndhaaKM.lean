import Derived.Test.YtfnpfpjcgfndhaaK0
namespace Go.Proofs.Ytfnpfpjcgfndhaa
open Go Go.Sy
set_option linter.all false
set_option maxRecDepth 100000
set_option maxHeartbeats 4000000
theorem tmod_b (x n : Int) (h : 1 ≤ n) : -n < x.tmod n ∧ x.tmod n < n := by
  rcases Int.le_total 0 x with h0 | h0
  · rw [Int.tmod_eq_emod_of_nonneg h0]; exact ⟨by have := Int.emod_nonneg x (by omega : n ≠ 0); omega, Int.emod_lt_of_pos x (by omega)⟩
  · have := Int.neg_tmod (a := -x) (b := n)
    rw [Int.neg_neg] at this
    rw [this, Int.tmod_eq_emod_of_nonneg (by omega)]
    have g1 := Int.emod_nonneg (-x) (by omega : n ≠ 0); have g2 := Int.emod_lt_of_pos (-x) (by omega : 0 < n); omega
theorem mod_eq (x n : Int) (h : 1 ≤ n) : (x.tmod n + n).tmod n = x % n := by
  have hb := tmod_b x n h
  rw [Int.tmod_eq_emod_of_nonneg (by omega), Int.add_emod_right]
  have : x = n * x.tdiv n + x.tmod n := (Int.mul_tdiv_add_tmod x n).symm
  conv => rhs; rw [this]
  rw [Int.add_comm, Int.add_mul_emod_self_left]
theorem mod64_in (x n : Int) (h : 1 ≤ n) (h2 : n ≤ 4611686018427387904) : PC Try.prog true 13 [.int .i64 x, .int .i64 n] (.int .i64 (x % n)) := by
  have hb := tmod_b x n h
  have hm := mod_eq x n h
  have hn : n ≠ 0 := by omega
  refine acall_intro mixed Try.func13 rfl ca13 (by kernel_rfl) (by rw [Try.ntmps13]; simp) ?_
  repeat' (first | (with_reducible apply w_seq) | (with_reducible apply w_region) | (with_reducible apply w_block) | (with_reducible apply w_skip) | (with_reducible apply w_exit) | (with_reducible apply w_ret) | (with_reducible apply w_then) | (with_reducible apply w_then_exit) | (with_reducible apply w_then_ret) | (with_reducible apply w_in) | (with_reducible apply w_in_here) | (with_reducible apply w_in_ret) | (with_reducible apply w_round) | (with_reducible apply o_nil) | (with_reducible apply d_nil) | ((with_reducible apply w_in_exit); rfl) | ((with_reducible apply w_draw); rfl) | ((first | ((with_reducible apply o_op); rfl; rfl) | ((with_reducible apply d_op); rfl; rfl) | ((with_reducible apply q_op); rfl; rfl)); ((try simp (disch := first | omega | (simp only [List.length_append, List.length_map, List.length_cons, List.length_nil, List.length_set] <;> omega) | fail) [go_sem, bytes_take, bytes_drop, bytes_append, *, -List.map_take, -List.map_drop, -List.map_append, -List.map_reverse]); (first | exact rfl | (simp (disch := first | omega | (simp only [List.length_append, List.length_map, List.length_cons, List.length_nil, List.length_set] <;> omega) | fail) [go_sem, bytes_take, bytes_drop, bytes_append, *, -List.map_take, -List.map_drop, -List.map_append, -List.map_reverse, if_pos, if_neg]; exact rfl))); (try (first | exact .inl rfl | (refine .inr ⟨rfl, ?_, ?_⟩; (focus (repeat (first | exact trivial | refine ⟨.inl rfl, ?_⟩ | refine ⟨.inr rfl, ?_⟩))); (first | exact trivial | exact rfl))))) | ((first | ((with_reducible apply w_cond)) | ((with_reducible apply o_guard); rfl) | ((with_reducible apply d_guard); rfl) | ((with_reducible apply q_guard); rfl)); ((try simp (disch := first | omega | (simp only [List.length_append, List.length_map, List.length_cons, List.length_nil, List.length_set] <;> omega) | fail) [go_sem, bytes_take, bytes_drop, bytes_append, *, -List.map_take, -List.map_drop, -List.map_append, -List.map_reverse]); (first | exact rfl | (simp (disch := first | omega | (simp only [List.length_append, List.length_map, List.length_cons, List.length_nil, List.length_set] <;> omega) | fail) [go_sem, bytes_take, bytes_drop, bytes_append, *, -List.map_take, -List.map_drop, -List.map_append, -List.map_reverse, if_pos, if_neg]; exact rfl))); all_goals (intro hc; (try simp only [decide_eq_true_eq, decide_eq_false_iff_not, Bool.not_eq_true, Bool.not_eq_false, Bool.not_eq_eq_eq_not, Bool.not_true, Bool.not_false, Bool.false_eq_true, reduceCtorEq, beq_iff_eq, beq_eq_false_iff_ne, bne_iff_ne, bne_eq_false_iff_eq, Bool.and_eq_true, Bool.or_eq_true, Bool.or_eq_false_iff, ne_eq, not_true_eq_false, not_false_eq_true] at hc); (try (have hx : True := hc; clear hx hc)); (try (exfalso; omega)); (try (with_reducible (exact absurd hc (by assumption)))); (try (with_reducible (exact absurd (by assumption) hc))))) | ((first | ((with_reducible apply w_end)) | ((with_reducible apply w_return))); ((try simp (disch := first | omega | (simp only [List.length_append, List.length_map, List.length_cons, List.length_nil, List.length_set] <;> omega) | fail) [go_sem, bytes_take, bytes_drop, bytes_append, *, -List.map_take, -List.map_drop, -List.map_append, -List.map_reverse]); (first | exact rfl | (simp (disch := first | omega | (simp only [List.length_append, List.length_map, List.length_cons, List.length_nil, List.length_set] <;> omega) | fail) [go_sem, bytes_take, bytes_drop, bytes_append, *, -List.map_take, -List.map_drop, -List.map_append, -List.map_reverse, if_pos, if_neg]; exact rfl)))))
  all_goals rfl
theorem mod64_at {B : List Box} {x n : Int} (h : 1 ≤ n) (h2 : n ≤ 4611686018427387904) : ACall Try.prog 13 [.int .i64 x, .int .i64 n] B fun c B' => c = .int .i64 (x % n) ∧ B' = B := acall_fresh (nz := true) (by simp [go_sem]) (mod64_in x n h h2)
end Go.Proofs.Ytfnpfpjcgfndhaa
