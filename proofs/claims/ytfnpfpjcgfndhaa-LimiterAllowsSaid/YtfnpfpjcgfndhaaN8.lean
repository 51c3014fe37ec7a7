import Derived.Test.YtfnpfpjcgfndhaaN7
import Derived.Test.YtfnpfpjcgfndhaaN6
import Derived.Test.YtfnpfpjcgfndhaaK0
namespace Go.Proofs.Ytfnpfpjcgfndhaa
open Go Go.Sy
set_option linter.all false
set_option maxRecDepth 100000
set_option maxHeartbeats 4000000
/-! What the law of Allow uses. -/
theorem bget0 {l : List UInt8} {n : Nat} (h : l.length = n) (y z : CV) : (l.map byteC ++ [y, z])[n]? = some y ∧ (l.map byteC ++ [y, z])[n + 1]? = some z := by
  subst h
  constructor
  · rw [List.getElem?_append_right (by simp)]; simp
  · rw [List.getElem?_append_right (by simp)]; simp
theorem bk_eqV {t u : Bk} (ht : t.1.2.length = 16) (hu : u.1.2.length = 16) : eqV Try.prog 20 36 (.agg (bkC t)) (.agg (bkC u)) = some (t == u) := by
  obtain ⟨⟨a, p⟩, k, l⟩ := t
  obtain ⟨⟨b, q⟩, m, n⟩ := u
  dsimp only at ht hu
  have h1 := bmid ht
  have h2 := bmid hu
  have h3 := fun y z => (bget0 ht y z).1
  have h4 := fun y z => (bget0 hu y z).1
  have h5 := fun y z => (bget0 ht y z).2
  have h6 := fun y z => (bget0 hu y z).2
  have h7 : (p.map byteC).take 16 = p.map byteC := List.take_of_length_le (by rw [List.length_map]; omega)
  have h8 : (q.map byteC).take 16 = q.map byteC := List.take_of_length_le (by rw [List.length_map]; omega)
  simp only [Nat.reduceAdd] at h5 h6
  simp (disch := omega) [go_sem, bkC, adC, h1, h2, h3, h4, h5, h6, h7, h8, ht, hu, -List.map_take]
  rw [Bool.eq_iff_iff]
  simp
theorem bksame_in (L M : List Bk) (hL : ∀ a ∈ L, a.1.2.length = 16) (hM : ∀ a ∈ M, a.1.2.length = 16) (hl : L.length < 1000000000) (hm : M.length < 1000000000) : PC Try.prog true 12 [rl bkC L, rl bkC M] (.bool (L == M)) := by
  have hfL : ∀ a ∈ L, (bkC a).length = 19 := fun a ha => bkC_len (hL a ha)
  have hfM : ∀ a ∈ M, (bkC a).length = 19 := fun a ha => bkC_len (hM a ha)
  refine acall_intro mixed Try.func12 rfl ca12 (by kernel_rfl) (by rw [Try.ntmps12]; simp) ?_
  by_cases hlm : L.length = M.length
  · obtain ⟨cs, hcs⟩ : ∃ cs, L.flatMap bkC = cs := ⟨_, rfl⟩
    obtain ⟨ds, hds⟩ : ∃ ds, M.flatMap bkC = ds := ⟨_, rfl⟩
    have kL := cells_all hfL
    have kM := cells_all hfM
    unfold rl
    rw [hcs] at kL ⊢
    rw [hds] at kM ⊢
    rw [← hlm]
    clear hfL hfM hcs hds
    have hL : Hid _ := hL
    have hM : Hid _ := hM
    repeat' (first | (with_reducible apply w_seq) | (with_reducible apply w_region) | (with_reducible apply w_block) | (with_reducible apply w_skip) | (with_reducible apply w_exit) | (with_reducible apply w_ret) | (with_reducible apply w_then) | (with_reducible apply w_then_exit) | (with_reducible apply w_then_ret) | (with_reducible apply w_in) | (with_reducible apply w_in_here) | (with_reducible apply w_in_ret) | (with_reducible apply w_round) | (with_reducible apply o_nil) | (with_reducible apply d_nil) | ((with_reducible apply w_in_exit); rfl) | ((with_reducible apply w_draw); rfl) | ((first | ((with_reducible apply o_op); rfl; rfl) | ((with_reducible apply d_op); rfl; rfl) | ((with_reducible apply q_op); rfl; rfl)); ((try simp (disch := first | omega | (simp only [List.length_append, List.length_map, List.length_cons, List.length_nil, List.length_set] <;> omega) | fail) [go_sem, bytes_take, bytes_drop, bytes_append, *, -List.map_take, -List.map_drop, -List.map_append, -List.map_reverse]); (first | exact rfl | (simp (disch := first | omega | (simp only [List.length_append, List.length_map, List.length_cons, List.length_nil, List.length_set] <;> omega) | fail) [go_sem, bytes_take, bytes_drop, bytes_append, *, -List.map_take, -List.map_drop, -List.map_append, -List.map_reverse, if_pos, if_neg]; exact rfl))); (try (first | exact .inl rfl | (refine .inr ⟨rfl, ?_, ?_⟩; (focus (repeat (first | exact trivial | refine ⟨.inl rfl, ?_⟩ | refine ⟨.inr rfl, ?_⟩))); (first | exact trivial | exact rfl))))) | ((first | ((with_reducible apply w_cond)) | ((with_reducible apply o_guard); rfl) | ((with_reducible apply d_guard); rfl) | ((with_reducible apply q_guard); rfl)); ((try simp (disch := first | omega | (simp only [List.length_append, List.length_map, List.length_cons, List.length_nil, List.length_set] <;> omega) | fail) [go_sem, bytes_take, bytes_drop, bytes_append, *, -List.map_take, -List.map_drop, -List.map_append, -List.map_reverse]); (first | exact rfl | (simp (disch := first | omega | (simp only [List.length_append, List.length_map, List.length_cons, List.length_nil, List.length_set] <;> omega) | fail) [go_sem, bytes_take, bytes_drop, bytes_append, *, -List.map_take, -List.map_drop, -List.map_append, -List.map_reverse, if_pos, if_neg]; exact rfl))); all_goals (intro hc; (try simp only [decide_eq_true_eq, decide_eq_false_iff_not, Bool.not_eq_true, Bool.not_eq_false, Bool.not_eq_eq_eq_not, Bool.not_true, Bool.not_false, Bool.false_eq_true, reduceCtorEq, beq_iff_eq, beq_eq_false_iff_ne, bne_iff_ne, bne_eq_false_iff_eq, Bool.and_eq_true, Bool.or_eq_true, Bool.or_eq_false_iff, ne_eq, not_true_eq_false, not_false_eq_true] at hc); (try (have hx : True := hc; clear hx hc)); (try (exfalso; omega)); (try (with_reducible (exact absurd hc (by assumption)))); (try (with_reducible (exact absurd (by assumption) hc))))) | ((first | ((with_reducible apply w_end)) | ((with_reducible apply w_return))); ((try simp (disch := first | omega | (simp only [List.length_append, List.length_map, List.length_cons, List.length_nil, List.length_set] <;> omega) | fail) [go_sem, bytes_take, bytes_drop, bytes_append, *, -List.map_take, -List.map_drop, -List.map_append, -List.map_reverse]); (first | exact rfl | (simp (disch := first | omega | (simp only [List.length_append, List.length_map, List.length_cons, List.length_nil, List.length_set] <;> omega) | fail) [go_sem, bytes_take, bytes_drop, bytes_append, *, -List.map_take, -List.map_drop, -List.map_append, -List.map_reverse, if_pos, if_neg]; exact rfl)))))
    refine w_loop (fun fr B => ∃ i : Nat, i ≤ L.length ∧ L.take i = M.take i ∧ fr 13 = .int .i64 i ∧ fr 12 = .int .i64 L.length ∧ fr 0 = .lst L.length cs false ∧ fr 1 = .lst L.length ds false ∧ B = []) (fun fr _ => L.length - natOf (fr 13)) ?_ ?_
    · exact ⟨0, by omega, rfl, by (simp (disch := omega) [go_sem, *]) <;> (try omega), by (simp (disch := omega) [go_sem, *]) <;> (try omega), by (simp (disch := omega) [go_sem, *]) <;> (try omega), by (simp (disch := omega) [go_sem, *]) <;> (try omega), rfl⟩
    · rintro fr B ⟨i, hi, htk, h13, h12, h0, h1, rfl⟩
      by_cases hc : i < L.length
      · obtain ⟨a1, a2⟩ := kL i hc
        obtain ⟨b1, b2⟩ := kM i (by omega)
        have hL : ∀ a ∈ L, a.1.2.length = 16 := hL
        have hM : ∀ a ∈ M, a.1.2.length = 16 := hM
        have he := bk_eqV (hL _ (List.getElem_mem hc)) (hM _ (List.getElem_mem (show i < M.length by omega)))
        have hgd := gd36
        clear hL hM kL kM
        have hst : L[i] = M[i] → L.take (i + 1) = M.take (i + 1) := fun h => by rw [List.take_succ_eq_append_getElem hc, List.take_succ_eq_append_getElem (by omega), htk, h]
        have hne : L[i] ≠ M[i] → (L == M) = false := fun h => by
          rw [beq_eq_false_iff_ne]
          intro h'; subst h'; exact h rfl
        generalize L[i] = x at *
        generalize M[i]'(by omega) = y at *
        by_cases hx : x = y
        · subst hx
          rw [beq_self_eq_true] at he
          have hst := hst rfl
          clear hne htk
          repeat' (first | (with_reducible apply w_seq) | (with_reducible apply w_region) | (with_reducible apply w_block) | (with_reducible apply w_skip) | (with_reducible apply w_exit) | (with_reducible apply w_ret) | (with_reducible apply w_then) | (with_reducible apply w_then_exit) | (with_reducible apply w_then_ret) | (with_reducible apply w_in) | (with_reducible apply w_in_here) | (with_reducible apply w_in_ret) | (with_reducible apply w_round) | (with_reducible apply o_nil) | (with_reducible apply d_nil) | ((with_reducible apply w_in_exit); rfl) | ((with_reducible apply w_draw); rfl) | ((first | ((with_reducible apply o_op); rfl; rfl) | ((with_reducible apply d_op); rfl; rfl) | ((with_reducible apply q_op); rfl; rfl)); ((try simp (disch := first | omega | (simp only [List.length_append, List.length_map, List.length_cons, List.length_nil, List.length_set] <;> omega) | fail) [go_sem, bytes_take, bytes_drop, bytes_append, *, -List.map_take, -List.map_drop, -List.map_append, -List.map_reverse]); (first | exact rfl | (simp (disch := first | omega | (simp only [List.length_append, List.length_map, List.length_cons, List.length_nil, List.length_set] <;> omega) | fail) [go_sem, bytes_take, bytes_drop, bytes_append, *, -List.map_take, -List.map_drop, -List.map_append, -List.map_reverse, if_pos, if_neg]; exact rfl))); (try (first | exact .inl rfl | (refine .inr ⟨rfl, ?_, ?_⟩; (focus (repeat (first | exact trivial | refine ⟨.inl rfl, ?_⟩ | refine ⟨.inr rfl, ?_⟩))); (first | exact trivial | exact rfl))))) | ((first | ((with_reducible apply w_cond)) | ((with_reducible apply o_guard); rfl) | ((with_reducible apply d_guard); rfl) | ((with_reducible apply q_guard); rfl)); ((try simp (disch := first | omega | (simp only [List.length_append, List.length_map, List.length_cons, List.length_nil, List.length_set] <;> omega) | fail) [go_sem, bytes_take, bytes_drop, bytes_append, *, -List.map_take, -List.map_drop, -List.map_append, -List.map_reverse]); (first | exact rfl | (simp (disch := first | omega | (simp only [List.length_append, List.length_map, List.length_cons, List.length_nil, List.length_set] <;> omega) | fail) [go_sem, bytes_take, bytes_drop, bytes_append, *, -List.map_take, -List.map_drop, -List.map_append, -List.map_reverse, if_pos, if_neg]; exact rfl))); all_goals (intro hc; (try simp only [decide_eq_true_eq, decide_eq_false_iff_not, Bool.not_eq_true, Bool.not_eq_false, Bool.not_eq_eq_eq_not, Bool.not_true, Bool.not_false, Bool.false_eq_true, reduceCtorEq, beq_iff_eq, beq_eq_false_iff_ne, bne_iff_ne, bne_eq_false_iff_eq, Bool.and_eq_true, Bool.or_eq_true, Bool.or_eq_false_iff, ne_eq, not_true_eq_false, not_false_eq_true] at hc); (try (have hx : True := hc; clear hx hc)); (try (exfalso; omega)); (try (with_reducible (exact absurd hc (by assumption)))); (try (with_reducible (exact absurd (by assumption) hc))))) | ((first | ((with_reducible apply w_end)) | ((with_reducible apply w_return))); ((try simp (disch := first | omega | (simp only [List.length_append, List.length_map, List.length_cons, List.length_nil, List.length_set] <;> omega) | fail) [go_sem, bytes_take, bytes_drop, bytes_append, *, -List.map_take, -List.map_drop, -List.map_append, -List.map_reverse]); (first | exact rfl | (simp (disch := first | omega | (simp only [List.length_append, List.length_map, List.length_cons, List.length_nil, List.length_set] <;> omega) | fail) [go_sem, bytes_take, bytes_drop, bytes_append, *, -List.map_take, -List.map_drop, -List.map_append, -List.map_reverse, if_pos, if_neg]; exact rfl)))))
          exact ⟨⟨i + 1, by omega, hst, by (simp (disch := omega) [go_sem, *]) <;> (try omega), by (simp (disch := omega) [go_sem, *]) <;> (try omega), by (simp (disch := omega) [go_sem, *]) <;> (try omega), by (simp (disch := omega) [go_sem, *]) <;> (try omega), rfl⟩, by (simp (disch := omega) [go_sem, *]) <;> (try omega)⟩
        · rw [beq_eq_false_iff_ne.2 hx] at he
          rw [hne hx]
          clear hne hst htk
          repeat' (first | (with_reducible apply w_seq) | (with_reducible apply w_region) | (with_reducible apply w_block) | (with_reducible apply w_skip) | (with_reducible apply w_exit) | (with_reducible apply w_ret) | (with_reducible apply w_then) | (with_reducible apply w_then_exit) | (with_reducible apply w_then_ret) | (with_reducible apply w_in) | (with_reducible apply w_in_here) | (with_reducible apply w_in_ret) | (with_reducible apply w_round) | (with_reducible apply o_nil) | (with_reducible apply d_nil) | ((with_reducible apply w_in_exit); rfl) | ((with_reducible apply w_draw); rfl) | ((first | ((with_reducible apply o_op); rfl; rfl) | ((with_reducible apply d_op); rfl; rfl) | ((with_reducible apply q_op); rfl; rfl)); ((try simp (disch := first | omega | (simp only [List.length_append, List.length_map, List.length_cons, List.length_nil, List.length_set] <;> omega) | fail) [go_sem, bytes_take, bytes_drop, bytes_append, *, -List.map_take, -List.map_drop, -List.map_append, -List.map_reverse]); (first | exact rfl | (simp (disch := first | omega | (simp only [List.length_append, List.length_map, List.length_cons, List.length_nil, List.length_set] <;> omega) | fail) [go_sem, bytes_take, bytes_drop, bytes_append, *, -List.map_take, -List.map_drop, -List.map_append, -List.map_reverse, if_pos, if_neg]; exact rfl))); (try (first | exact .inl rfl | (refine .inr ⟨rfl, ?_, ?_⟩; (focus (repeat (first | exact trivial | refine ⟨.inl rfl, ?_⟩ | refine ⟨.inr rfl, ?_⟩))); (first | exact trivial | exact rfl))))) | ((first | ((with_reducible apply w_cond)) | ((with_reducible apply o_guard); rfl) | ((with_reducible apply d_guard); rfl) | ((with_reducible apply q_guard); rfl)); ((try simp (disch := first | omega | (simp only [List.length_append, List.length_map, List.length_cons, List.length_nil, List.length_set] <;> omega) | fail) [go_sem, bytes_take, bytes_drop, bytes_append, *, -List.map_take, -List.map_drop, -List.map_append, -List.map_reverse]); (first | exact rfl | (simp (disch := first | omega | (simp only [List.length_append, List.length_map, List.length_cons, List.length_nil, List.length_set] <;> omega) | fail) [go_sem, bytes_take, bytes_drop, bytes_append, *, -List.map_take, -List.map_drop, -List.map_append, -List.map_reverse, if_pos, if_neg]; exact rfl))); all_goals (intro hc; (try simp only [decide_eq_true_eq, decide_eq_false_iff_not, Bool.not_eq_true, Bool.not_eq_false, Bool.not_eq_eq_eq_not, Bool.not_true, Bool.not_false, Bool.false_eq_true, reduceCtorEq, beq_iff_eq, beq_eq_false_iff_ne, bne_iff_ne, bne_eq_false_iff_eq, Bool.and_eq_true, Bool.or_eq_true, Bool.or_eq_false_iff, ne_eq, not_true_eq_false, not_false_eq_true] at hc); (try (have hx : True := hc; clear hx hc)); (try (exfalso; omega)); (try (with_reducible (exact absurd hc (by assumption)))); (try (with_reducible (exact absurd (by assumption) hc))))) | ((first | ((with_reducible apply w_end)) | ((with_reducible apply w_return))); ((try simp (disch := first | omega | (simp only [List.length_append, List.length_map, List.length_cons, List.length_nil, List.length_set] <;> omega) | fail) [go_sem, bytes_take, bytes_drop, bytes_append, *, -List.map_take, -List.map_drop, -List.map_append, -List.map_reverse]); (first | exact rfl | (simp (disch := first | omega | (simp only [List.length_append, List.length_map, List.length_cons, List.length_nil, List.length_set] <;> omega) | fail) [go_sem, bytes_take, bytes_drop, bytes_append, *, -List.map_take, -List.map_drop, -List.map_append, -List.map_reverse, if_pos, if_neg]; exact rfl)))))
          simp [fz_bool]
      · obtain rfl : i = L.length := by omega
        have : L = M := by rw [List.take_length, List.take_of_length_le (by omega)] at htk; exact htk
        subst this
        rw [beq_self_eq_true]
        repeat' (first | (with_reducible apply w_seq) | (with_reducible apply w_region) | (with_reducible apply w_block) | (with_reducible apply w_skip) | (with_reducible apply w_exit) | (with_reducible apply w_ret) | (with_reducible apply w_then) | (with_reducible apply w_then_exit) | (with_reducible apply w_then_ret) | (with_reducible apply w_in) | (with_reducible apply w_in_here) | (with_reducible apply w_in_ret) | (with_reducible apply w_round) | (with_reducible apply o_nil) | (with_reducible apply d_nil) | ((with_reducible apply w_in_exit); rfl) | ((with_reducible apply w_draw); rfl) | ((first | ((with_reducible apply o_op); rfl; rfl) | ((with_reducible apply d_op); rfl; rfl) | ((with_reducible apply q_op); rfl; rfl)); ((try simp (disch := first | omega | (simp only [List.length_append, List.length_map, List.length_cons, List.length_nil, List.length_set] <;> omega) | fail) [go_sem, bytes_take, bytes_drop, bytes_append, *, -List.map_take, -List.map_drop, -List.map_append, -List.map_reverse]); (first | exact rfl | (simp (disch := first | omega | (simp only [List.length_append, List.length_map, List.length_cons, List.length_nil, List.length_set] <;> omega) | fail) [go_sem, bytes_take, bytes_drop, bytes_append, *, -List.map_take, -List.map_drop, -List.map_append, -List.map_reverse, if_pos, if_neg]; exact rfl))); (try (first | exact .inl rfl | (refine .inr ⟨rfl, ?_, ?_⟩; (focus (repeat (first | exact trivial | refine ⟨.inl rfl, ?_⟩ | refine ⟨.inr rfl, ?_⟩))); (first | exact trivial | exact rfl))))) | ((first | ((with_reducible apply w_cond)) | ((with_reducible apply o_guard); rfl) | ((with_reducible apply d_guard); rfl) | ((with_reducible apply q_guard); rfl)); ((try simp (disch := first | omega | (simp only [List.length_append, List.length_map, List.length_cons, List.length_nil, List.length_set] <;> omega) | fail) [go_sem, bytes_take, bytes_drop, bytes_append, *, -List.map_take, -List.map_drop, -List.map_append, -List.map_reverse]); (first | exact rfl | (simp (disch := first | omega | (simp only [List.length_append, List.length_map, List.length_cons, List.length_nil, List.length_set] <;> omega) | fail) [go_sem, bytes_take, bytes_drop, bytes_append, *, -List.map_take, -List.map_drop, -List.map_append, -List.map_reverse, if_pos, if_neg]; exact rfl))); all_goals (intro hc; (try simp only [decide_eq_true_eq, decide_eq_false_iff_not, Bool.not_eq_true, Bool.not_eq_false, Bool.not_eq_eq_eq_not, Bool.not_true, Bool.not_false, Bool.false_eq_true, reduceCtorEq, beq_iff_eq, beq_eq_false_iff_ne, bne_iff_ne, bne_eq_false_iff_eq, Bool.and_eq_true, Bool.or_eq_true, Bool.or_eq_false_iff, ne_eq, not_true_eq_false, not_false_eq_true] at hc); (try (have hx : True := hc; clear hx hc)); (try (exfalso; omega)); (try (with_reducible (exact absurd hc (by assumption)))); (try (with_reducible (exact absurd (by assumption) hc))))) | ((first | ((with_reducible apply w_end)) | ((with_reducible apply w_return))); ((try simp (disch := first | omega | (simp only [List.length_append, List.length_map, List.length_cons, List.length_nil, List.length_set] <;> omega) | fail) [go_sem, bytes_take, bytes_drop, bytes_append, *, -List.map_take, -List.map_drop, -List.map_append, -List.map_reverse]); (first | exact rfl | (simp (disch := first | omega | (simp only [List.length_append, List.length_map, List.length_cons, List.length_nil, List.length_set] <;> omega) | fail) [go_sem, bytes_take, bytes_drop, bytes_append, *, -List.map_take, -List.map_drop, -List.map_append, -List.map_reverse, if_pos, if_neg]; exact rfl)))))
        simp [fz_bool]
  · have hne : (L == M) = false := by
      rw [beq_eq_false_iff_ne]
      intro h; subst h; exact hlm rfl
    rw [hne]
    repeat' (first | (with_reducible apply w_seq) | (with_reducible apply w_region) | (with_reducible apply w_block) | (with_reducible apply w_skip) | (with_reducible apply w_exit) | (with_reducible apply w_ret) | (with_reducible apply w_then) | (with_reducible apply w_then_exit) | (with_reducible apply w_then_ret) | (with_reducible apply w_in) | (with_reducible apply w_in_here) | (with_reducible apply w_in_ret) | (with_reducible apply w_round) | (with_reducible apply o_nil) | (with_reducible apply d_nil) | ((with_reducible apply w_in_exit); rfl) | ((with_reducible apply w_draw); rfl) | ((first | ((with_reducible apply o_op); rfl; rfl) | ((with_reducible apply d_op); rfl; rfl) | ((with_reducible apply q_op); rfl; rfl)); ((try simp (disch := first | omega | (simp only [List.length_append, List.length_map, List.length_cons, List.length_nil, List.length_set] <;> omega) | fail) [go_sem, bytes_take, bytes_drop, bytes_append, *, rl, -List.map_take, -List.map_drop, -List.map_append, -List.map_reverse]); (first | exact rfl | (simp (disch := first | omega | (simp only [List.length_append, List.length_map, List.length_cons, List.length_nil, List.length_set] <;> omega) | fail) [go_sem, bytes_take, bytes_drop, bytes_append, *, rl, -List.map_take, -List.map_drop, -List.map_append, -List.map_reverse, if_pos, if_neg]; exact rfl))); (try (first | exact .inl rfl | (refine .inr ⟨rfl, ?_, ?_⟩; (focus (repeat (first | exact trivial | refine ⟨.inl rfl, ?_⟩ | refine ⟨.inr rfl, ?_⟩))); (first | exact trivial | exact rfl))))) | ((first | ((with_reducible apply w_cond)) | ((with_reducible apply o_guard); rfl) | ((with_reducible apply d_guard); rfl) | ((with_reducible apply q_guard); rfl)); ((try simp (disch := first | omega | (simp only [List.length_append, List.length_map, List.length_cons, List.length_nil, List.length_set] <;> omega) | fail) [go_sem, bytes_take, bytes_drop, bytes_append, *, rl, -List.map_take, -List.map_drop, -List.map_append, -List.map_reverse]); (first | exact rfl | (simp (disch := first | omega | (simp only [List.length_append, List.length_map, List.length_cons, List.length_nil, List.length_set] <;> omega) | fail) [go_sem, bytes_take, bytes_drop, bytes_append, *, rl, -List.map_take, -List.map_drop, -List.map_append, -List.map_reverse, if_pos, if_neg]; exact rfl))); all_goals (intro hc; (try simp only [decide_eq_true_eq, decide_eq_false_iff_not, Bool.not_eq_true, Bool.not_eq_false, Bool.not_eq_eq_eq_not, Bool.not_true, Bool.not_false, Bool.false_eq_true, reduceCtorEq, beq_iff_eq, beq_eq_false_iff_ne, bne_iff_ne, bne_eq_false_iff_eq, Bool.and_eq_true, Bool.or_eq_true, Bool.or_eq_false_iff, ne_eq, not_true_eq_false, not_false_eq_true] at hc); (try (have hx : True := hc; clear hx hc)); (try (exfalso; omega)); (try (with_reducible (exact absurd hc (by assumption)))); (try (with_reducible (exact absurd (by assumption) hc))))) | ((first | ((with_reducible apply w_end)) | ((with_reducible apply w_return))); ((try simp (disch := first | omega | (simp only [List.length_append, List.length_map, List.length_cons, List.length_nil, List.length_set] <;> omega) | fail) [go_sem, bytes_take, bytes_drop, bytes_append, *, rl, -List.map_take, -List.map_drop, -List.map_append, -List.map_reverse]); (first | exact rfl | (simp (disch := first | omega | (simp only [List.length_append, List.length_map, List.length_cons, List.length_nil, List.length_set] <;> omega) | fail) [go_sem, bytes_take, bytes_drop, bytes_append, *, rl, -List.map_take, -List.map_drop, -List.map_append, -List.map_reverse, if_pos, if_neg]; exact rfl)))))
    simp [fz_bool]
theorem bksame_at {B : List Box} {args : List CV} {L M : List Bk} (hz : Is (omap (fz true false B 6) args) (some [rl bkC L, rl bkC M])) (hL : ∀ a ∈ L, a.1.2.length = 16) (hM : ∀ a ∈ M, a.1.2.length = 16) (hl : L.length < 1000000000) (hm : M.length < 1000000000) : ACall Try.prog 12 args B fun c B' => c = .bool (L == M) ∧ B' = B := acall_fresh hz (bksame_in L M hL hM hl hm)
def BkG (L : List Bk) : Prop := ∀ b ∈ L, b.1.2.length = 16 ∧ (0 ≤ b.2.1 ∧ b.2.1 ≤ 5000) ∧ Bd b.2.2
theorem BkG.len {L : List Bk} (h : BkG L) : ∀ b ∈ L, b.1.2.length = 16 := fun b hb => (h b hb).1
theorem getD_mem {L : List Bk} {i : Nat} : L.getD i bkO ∈ L ∨ L.getD i bkO = bkO := by
  rw [List.getD_eq_getElem?_getD]
  cases h : L[i]? with
  | none => exact .inr rfl
  | some b => exact .inl (List.mem_of_getElem? h)
theorem ready_good {L : List Bk} {a : Ad} {now : Int} (hL : BkG L) (ha : a.2.length = 16) (hn : Bd now) : BkG (readyF L a now).1 ∧ (readyF L a now).1.length ≤ L.length + 1 := by
  unfold readyF
  dsimp only
  split
  · refine ⟨fun b hb => ?_, by simp⟩
    rcases List.mem_or_eq_of_mem_set hb with h | rfl
    · exact hL b h
    · rename_i hj
      rw [getD_at hj]
      obtain ⟨h1, h2, h3⟩ := hL _ (List.getElem_mem hj)
      refine ⟨h1, ?_, hn⟩
      dsimp only
      unfold filT; split <;> omega
  · have hK : BkG (if 16 ≤ L.length then L.take (oldF L) ++ L.drop (oldF L + 1) else L) ∧ (if 16 ≤ L.length then L.take (oldF L) ++ L.drop (oldF L + 1) else L).length ≤ L.length := by
      split
      · refine ⟨fun b hb => ?_, by rw [List.length_append, List.length_take, List.length_drop]; omega⟩
        rcases List.mem_append.1 hb with h | h
        · exact hL b (List.mem_of_mem_take h)
        · exact hL b (List.mem_of_mem_drop h)
      · exact ⟨hL, Nat.le_refl _⟩
    generalize (if 16 ≤ L.length then L.take (oldF L) ++ L.drop (oldF L + 1) else L) = K at hK ⊢
    obtain ⟨hK, hKl⟩ := hK
    refine ⟨fun b hb => ?_, by rw [List.length_append, List.length_cons, List.length_take, List.length_drop]; omega⟩
    rw [List.mem_append, List.mem_cons] at hb
    rcases hb with h | rfl | h
    · exact hK b (List.mem_of_mem_take h)
    · exact ⟨ha, ⟨(by decide : (0 : Int) ≤ 5000), (by decide : (5000 : Int) ≤ 5000)⟩, hn⟩
    · exact hK b (List.mem_of_mem_drop h)
theorem pay_good {L : List Bk} {a : Ad} {now : Int} (hL : BkG L) (ha : a.2.length = 16) (hn : Bd now) : BkG (payF (readyF L a now)).1 ∧ (payF (readyF L a now)).1.length ≤ L.length + 1 := by
  obtain ⟨h1, h2⟩ := ready_good hL ha hn
  generalize readyF L a now = r at *
  unfold payF
  split
  · exact ⟨h1, h2⟩
  · rename_i hlo
    refine ⟨fun b hb => ?_, by simpa using h2⟩
    rcases List.mem_or_eq_of_mem_set hb with h | rfl
    · exact h1 b h
    · rcases getD_mem (L := r.1) (i := r.2) with h | h
      · obtain ⟨g1, g2, g3⟩ := h1 _ h
        exact ⟨g1, by dsimp only; omega, g3⟩
      · exfalso; rw [h] at hlo; exact hlo (by decide)
theorem allow2_ex {L : List Bk} {a : Ad} {now : Int} (hL : BkG L) (ha : a.2.length = 16) (hn : Bd now) (hl : L.length < 100000) : ∃ (M : List Bk) (ok : Bool), BkG M ∧ M.length ≤ L.length + 1 ∧
    (∀ (B : List Box) (args : List CV), Is (omap (fz true false B 6) args) (some [rl bkC L, .agg (adC a), .int .i64 now]) → ACall Try.prog 10 args B fun c B' => c = .tup [rl bkC M, .bool ok] ∧ B' = B) ∧
    (∀ (B : List Box) (args : List CV), Is (omap (fz true false B 6) args) (some [rl bkC L, .agg (adC a), .int .i64 now]) → ACall Try.prog 11 args B fun c B' => c = .tup [rl bkC M, .bool ok] ∧ B' = B) ∧
    (∀ (B : List Box) (args : List CV), Is (omap (fz true false B 6) args) (some [rl bkC M, rl bkC M]) → ACall Try.prog 12 args B fun c B' => c = .bool true ∧ B' = B) := by
  obtain ⟨h1, h2⟩ := pay_good hL ha hn
  refine ⟨_, (payF (readyF L a now)).2, h1, h2, fun B args h => allow_at h hL ha hn (by omega), fun B args h => rallow_at h hL ha hn (by omega), fun B args h => ?_⟩
  rw [← beq_self_eq_true (payF (readyF L a now)).1]
  exact bksame_at h h1.len h1.len (by omega) (by omega)
end Go.Proofs.Ytfnpfpjcgfndhaa
