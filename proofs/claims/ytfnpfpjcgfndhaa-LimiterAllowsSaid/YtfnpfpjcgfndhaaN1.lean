import Derived.Test.YtfnpfpjcgfndhaaN0
import Derived.Test.YtfnpfpjcgfndhaaKC
namespace Go.Proofs.Ytfnpfpjcgfndhaa
open Go Go.Sy
set_option linter.all false
set_option maxRecDepth 100000
set_option maxHeartbeats 4000000
/-! Addresses and buckets. -/
theorem cmp_less : ∀ a b : List UInt8, decide (Lib.compareBytes a b < 0) = Op.bytesLess a b
  | [], [] => rfl
  | [], _ :: _ => rfl
  | _ :: _, [] => rfl
  | x :: a, y :: b => by
    have ih := cmp_less a b
    unfold Lib.compareBytes Op.bytesLess
    by_cases h1 : x < y
    · simp [h1]
    · by_cases h2 : y < x
      · have : (x == y) = false := by rw [beq_eq_false_iff_ne]; rintro rfl; exact h1 h2
        simp [h1, h2, this]
      · have : x = y := UInt8.le_antisymm (UInt8.not_lt.1 h2) (UInt8.not_lt.1 h1)
        subst this
        simp [h1, ih]
/-- The order as the code has it. -/
theorem compare_at {B : List Box} {args : List CV} {l1 l2 : List UInt8} {n m : Nat} (hz : Is (omap (fz true false B 6) args) (some [.lst n (l1.map byteC) false, .lst m (l2.map byteC) false])) (hn : n = l1.length) (hm : m = l2.length) : ACall Try.prog 36 args B fun c B' => c = .int .i64 (Lib.compareBytes l1 l2) ∧ B' = B := by subst hn hm; exact acall_fresh hz (compare_in l1 l2)
abbrev Ad := Bool × List UInt8
def adC (a : Ad) : List CV := .bool a.1 :: a.2.map byteC
def lessI (a b : Ad) : Bool := if a.1 == b.1 then Op.bytesLess a.2 b.2 else b.1
theorem iLess_in (a b : Ad) (hA : a.2.length = 16) (hA2 : b.2.length = 16) : PC Try.prog true 28 [.agg (adC a), .agg (adC b)] (.bool (lessI a b)) := by
  obtain ⟨six, A⟩ := a
  obtain ⟨six2, A2⟩ := b
  dsimp only at hA hA2
  have hl := cmp_less A A2
  rw [lessI]
  have hc : ∀ {B : List Box} {args : List CV}, Is (omap (fz true false B 6) args) (some [.lst 16 (A.map byteC) false, .lst 16 (A2.map byteC) false]) → ACall Try.prog 36 args B fun c B' => c = .int .i64 (Lib.compareBytes A A2) ∧ B' = B := fun h => compare_at h hA.symm hA2.symm
  generalize Lib.compareBytes A A2 = r at *
  refine acall_intro mixed Try.func28 rfl ca28 (by kernel_rfl) (by rw [Try.ntmps28]; simp) ?_
  cases six <;> cases six2
  all_goals
    repeat' (first | (with_reducible apply w_seq) | (with_reducible apply w_region) | (with_reducible apply w_block) | (with_reducible apply w_skip) | (with_reducible apply w_exit) | (with_reducible apply w_ret) | (with_reducible apply w_then) | (with_reducible apply w_then_exit) | (with_reducible apply w_then_ret) | (with_reducible apply w_in) | (with_reducible apply w_in_here) | (with_reducible apply w_in_ret) | (with_reducible apply w_round) | (with_reducible apply o_nil) | (with_reducible apply d_nil) | ((with_reducible apply w_in_exit); rfl) | ((with_reducible apply w_draw); rfl) | ((first | ((with_reducible apply o_op); rfl; rfl) | ((with_reducible apply d_op); rfl; rfl) | ((with_reducible apply q_op); rfl; rfl)); ((try simp (disch := first | omega | (simp only [List.length_append, List.length_map, List.length_cons, List.length_nil, List.length_set] <;> omega) | fail) [go_sem, bytes_take, bytes_drop, bytes_append, *, adC, -List.map_take, -List.map_drop, -List.map_append, -List.map_reverse]); (first | exact rfl | (simp (disch := first | omega | (simp only [List.length_append, List.length_map, List.length_cons, List.length_nil, List.length_set] <;> omega) | fail) [go_sem, bytes_take, bytes_drop, bytes_append, *, adC, -List.map_take, -List.map_drop, -List.map_append, -List.map_reverse, if_pos, if_neg]; exact rfl))); (try (first | exact .inl rfl | (refine .inr ⟨rfl, ?_, ?_⟩; (focus (repeat (first | exact trivial | refine ⟨.inl rfl, ?_⟩ | refine ⟨.inr rfl, ?_⟩))); (first | exact trivial | exact rfl))))) | ((first | ((with_reducible apply w_cond)) | ((with_reducible apply o_guard); rfl) | ((with_reducible apply d_guard); rfl) | ((with_reducible apply q_guard); rfl)); ((try simp (disch := first | omega | (simp only [List.length_append, List.length_map, List.length_cons, List.length_nil, List.length_set] <;> omega) | fail) [go_sem, bytes_take, bytes_drop, bytes_append, *, adC, -List.map_take, -List.map_drop, -List.map_append, -List.map_reverse]); (first | exact rfl | (simp (disch := first | omega | (simp only [List.length_append, List.length_map, List.length_cons, List.length_nil, List.length_set] <;> omega) | fail) [go_sem, bytes_take, bytes_drop, bytes_append, *, adC, -List.map_take, -List.map_drop, -List.map_append, -List.map_reverse, if_pos, if_neg]; exact rfl))); all_goals (intro hc; (try simp only [decide_eq_true_eq, decide_eq_false_iff_not, Bool.not_eq_true, Bool.not_eq_false, Bool.not_eq_eq_eq_not, Bool.not_true, Bool.not_false, Bool.false_eq_true, reduceCtorEq, beq_iff_eq, beq_eq_false_iff_ne, bne_iff_ne, bne_eq_false_iff_eq, Bool.and_eq_true, Bool.or_eq_true, Bool.or_eq_false_iff, ne_eq, not_true_eq_false, not_false_eq_true] at hc); (try (have hx : True := hc; clear hx hc)); (try (exfalso; omega)); (try (with_reducible (exact absurd hc (by assumption)))); (try (with_reducible (exact absurd (by assumption) hc))))) | ((first | ((with_reducible apply w_end)) | ((with_reducible apply w_return))); ((try simp (disch := first | omega | (simp only [List.length_append, List.length_map, List.length_cons, List.length_nil, List.length_set] <;> omega) | fail) [go_sem, bytes_take, bytes_drop, bytes_append, *, adC, -List.map_take, -List.map_drop, -List.map_append, -List.map_reverse]); (first | exact rfl | (simp (disch := first | omega | (simp only [List.length_append, List.length_map, List.length_cons, List.length_nil, List.length_set] <;> omega) | fail) [go_sem, bytes_take, bytes_drop, bytes_append, *, adC, -List.map_take, -List.map_drop, -List.map_append, -List.map_reverse, if_pos, if_neg]; exact rfl)))) | ((first | ((with_reducible apply o_call_eq); rfl) | ((with_reducible apply d_call); rfl) | ((with_reducible apply q_call); rfl)); ((try simp (disch := first | omega | (simp only [List.length_append, List.length_map, List.length_cons, List.length_nil, List.length_set] <;> omega) | fail) [go_sem, bytes_take, bytes_drop, bytes_append, *, adC, -List.map_take, -List.map_drop, -List.map_append, -List.map_reverse]); (first | exact rfl | (simp (disch := first | omega | (simp only [List.length_append, List.length_map, List.length_cons, List.length_nil, List.length_set] <;> omega) | fail) [go_sem, bytes_take, bytes_drop, bytes_append, *, adC, -List.map_take, -List.map_drop, -List.map_append, -List.map_reverse, if_pos, if_neg]; exact rfl))); ((try simp (disch := first | omega | (simp only [List.length_append, List.length_map, List.length_cons, List.length_nil, List.length_set] <;> omega) | fail) [go_sem, bytes_take, bytes_drop, bytes_append, *, adC, -List.map_take, -List.map_drop, -List.map_append, -List.map_reverse]); (first | exact rfl | (simp (disch := first | omega | (simp only [List.length_append, List.length_map, List.length_cons, List.length_nil, List.length_set] <;> omega) | fail) [go_sem, bytes_take, bytes_drop, bytes_append, *, adC, -List.map_take, -List.map_drop, -List.map_append, -List.map_reverse, if_pos, if_neg]; exact rfl))); (first | (((with_reducible apply hc)) <;> (first | omega | assumption | exact rfl | ((simp (disch := first | omega | (simp only [List.length_append, List.length_map, List.length_cons, List.length_nil, List.length_set] <;> omega) | fail) [go_sem, bytes_take, bytes_drop, bytes_append, *, adC, -List.map_take, -List.map_drop, -List.map_append, -List.map_reverse]) <;> (first | done | omega | exact rfl))))); (try (first | exact .inl rfl | (refine .inr ⟨rfl, ?_, ?_⟩; (focus (repeat (first | exact trivial | refine ⟨.inl rfl, ?_⟩ | refine ⟨.inr rfl, ?_⟩))); (first | exact trivial | exact rfl))))))
    all_goals simp [fz_bool, *]
theorem rLess_in (a b : Ad) (hA : a.2.length = 16) (hA2 : b.2.length = 16) : PC Try.prog true 31 [.agg (adC a), .agg (adC b)] (.bool (lessI a b)) := by
  obtain ⟨six, A⟩ := a
  obtain ⟨six2, A2⟩ := b
  dsimp only at hA hA2
  rw [lessI]
  refine acall_intro mixed Try.func31 rfl ca31 (by kernel_rfl) (by rw [Try.ntmps31]; simp) ?_
  cases six <;> cases six2
  all_goals
    repeat' (first | (with_reducible apply w_seq) | (with_reducible apply w_region) | (with_reducible apply w_block) | (with_reducible apply w_skip) | (with_reducible apply w_exit) | (with_reducible apply w_ret) | (with_reducible apply w_then) | (with_reducible apply w_then_exit) | (with_reducible apply w_then_ret) | (with_reducible apply w_in) | (with_reducible apply w_in_here) | (with_reducible apply w_in_ret) | (with_reducible apply w_round) | (with_reducible apply o_nil) | (with_reducible apply d_nil) | ((with_reducible apply w_in_exit); rfl) | ((with_reducible apply w_draw); rfl) | ((first | ((with_reducible apply o_op); rfl; rfl) | ((with_reducible apply d_op); rfl; rfl) | ((with_reducible apply q_op); rfl; rfl)); ((try simp (disch := first | omega | (simp only [List.length_append, List.length_map, List.length_cons, List.length_nil, List.length_set] <;> omega) | fail) [go_sem, bytes_take, bytes_drop, bytes_append, *, adC, -List.map_take, -List.map_drop, -List.map_append, -List.map_reverse]); (first | exact rfl | (simp (disch := first | omega | (simp only [List.length_append, List.length_map, List.length_cons, List.length_nil, List.length_set] <;> omega) | fail) [go_sem, bytes_take, bytes_drop, bytes_append, *, adC, -List.map_take, -List.map_drop, -List.map_append, -List.map_reverse, if_pos, if_neg]; exact rfl))); (try (first | exact .inl rfl | (refine .inr ⟨rfl, ?_, ?_⟩; (focus (repeat (first | exact trivial | refine ⟨.inl rfl, ?_⟩ | refine ⟨.inr rfl, ?_⟩))); (first | exact trivial | exact rfl))))) | ((first | ((with_reducible apply w_cond)) | ((with_reducible apply o_guard); rfl) | ((with_reducible apply d_guard); rfl) | ((with_reducible apply q_guard); rfl)); ((try simp (disch := first | omega | (simp only [List.length_append, List.length_map, List.length_cons, List.length_nil, List.length_set] <;> omega) | fail) [go_sem, bytes_take, bytes_drop, bytes_append, *, adC, -List.map_take, -List.map_drop, -List.map_append, -List.map_reverse]); (first | exact rfl | (simp (disch := first | omega | (simp only [List.length_append, List.length_map, List.length_cons, List.length_nil, List.length_set] <;> omega) | fail) [go_sem, bytes_take, bytes_drop, bytes_append, *, adC, -List.map_take, -List.map_drop, -List.map_append, -List.map_reverse, if_pos, if_neg]; exact rfl))); all_goals (intro hc; (try simp only [decide_eq_true_eq, decide_eq_false_iff_not, Bool.not_eq_true, Bool.not_eq_false, Bool.not_eq_eq_eq_not, Bool.not_true, Bool.not_false, Bool.false_eq_true, reduceCtorEq, beq_iff_eq, beq_eq_false_iff_ne, bne_iff_ne, bne_eq_false_iff_eq, Bool.and_eq_true, Bool.or_eq_true, Bool.or_eq_false_iff, ne_eq, not_true_eq_false, not_false_eq_true] at hc); (try (have hx : True := hc; clear hx hc)); (try (exfalso; omega)); (try (with_reducible (exact absurd hc (by assumption)))); (try (with_reducible (exact absurd (by assumption) hc))))) | ((first | ((with_reducible apply w_end)) | ((with_reducible apply w_return))); ((try simp (disch := first | omega | (simp only [List.length_append, List.length_map, List.length_cons, List.length_nil, List.length_set] <;> omega) | fail) [go_sem, bytes_take, bytes_drop, bytes_append, *, adC, -List.map_take, -List.map_drop, -List.map_append, -List.map_reverse]); (first | exact rfl | (simp (disch := first | omega | (simp only [List.length_append, List.length_map, List.length_cons, List.length_nil, List.length_set] <;> omega) | fail) [go_sem, bytes_take, bytes_drop, bytes_append, *, adC, -List.map_take, -List.map_drop, -List.map_append, -List.map_reverse, if_pos, if_neg]; exact rfl)))))
    all_goals simp [fz_bool, *]
theorem iLess_at {B : List Box} {args : List CV} {a b : Ad} (hz : Is (omap (fz true false B 6) args) (some [.agg (adC a), .agg (adC b)])) (hA : a.2.length = 16) (hA2 : b.2.length = 16) : ACall Try.prog 28 args B fun c B' => c = .bool (lessI a b) ∧ B' = B := acall_fresh hz (iLess_in a b hA hA2)
theorem rLess_at {B : List Box} {args : List CV} {a b : Ad} (hz : Is (omap (fz true false B 6) args) (some [.agg (adC a), .agg (adC b)])) (hA : a.2.length = 16) (hA2 : b.2.length = 16) : ACall Try.prog 31 args B fun c B' => c = .bool (lessI a b) ∧ B' = B := acall_fresh hz (rLess_in a b hA hA2)
abbrev Bk := Ad × (Int × Int)
def bkC (b : Bk) : List CV := adC b.1 ++ [.int .i64 b.2.1, .int .i64 b.2.2]
theorem adC_len {a : Ad} (h : a.2.length = 16) : (adC a).length = 17 := by simp [adC, h]
theorem bkC_len {b : Bk} (h : b.1.2.length = 16) : (bkC b).length = 19 := by simp [bkC, adC, h]
theorem bk_tk {b : Bk} (h : b.1.2.length = 16) : (bkC b).length = 19 ∧ (bkC b).take 19 = bkC b ∧ (bkC b).drop 19 = [] := by
  have := bkC_len h
  exact ⟨this, List.take_of_length_le (by omega), List.drop_eq_nil_of_le (by omega)⟩
/-- The parts of a bucket among cells. -/
theorem bk_parts {cs : List CV} {o : Nat} {u : Bk} (hu : u.1.2.length = 16) (h1 : o + 19 ≤ cs.length) (h2 : (cs.drop o).take 19 = bkC u) :
    (cs.drop o).take 17 = adC u.1 ∧ cs[o + 17]? = some (.int .i64 u.2.1) ∧ (cs.drop (o + 17)).head? = some (.int .i64 u.2.1) ∧ cs[o + 18]? = some (.int .i64 u.2.2) ∧ (cs.drop (o + 18)).head? = some (.int .i64 u.2.2) := by
  have l17 := adC_len hu
  have g : ∀ k, k < 19 → cs[o + k]? = (bkC u)[k]? := fun k hk => by rw [← h2, List.getElem?_take, if_pos hk, List.getElem?_drop]
  have g17 : cs[o + 17]? = some (.int .i64 u.2.1) := by rw [g 17 (by omega), bkC, List.getElem?_append_right (by omega), l17]; rfl
  have g18 : cs[o + 18]? = some (.int .i64 u.2.2) := by rw [g 18 (by omega), bkC, List.getElem?_append_right (by omega), l17]; rfl
  refine ⟨?_, g17, by rw [List.head?_drop, g17], g18, by rw [List.head?_drop, g18]⟩
  rw [show (cs.drop o).take 17 = ((cs.drop o).take 19).take 17 by rw [List.take_take]; rfl, h2, bkC, List.take_left' l17]
theorem splice_in {cs X Y : List CV} {o k : Nat} (h : (cs.drop o).take k = X) (hk : X.length = k) : splice cs (o + k) Y = splice cs o (X ++ Y) := by
  have e : cs.take (o + k) = cs.take o ++ X := by rw [List.take_add, h]
  rw [splice, splice, e, List.length_append, hk, ← List.append_assoc, Nat.add_assoc]
/-- Tokens or time set. -/
theorem bk_setT {cs : List CV} {o : Nat} {u : Bk} (hu : u.1.2.length = 16) (h1 : o + 19 ≤ cs.length) (h2 : (cs.drop o).take 19 = bkC u) (x : Int) : splice cs (o + 17) [.int .i64 x] = splice cs o (bkC (u.1, x, u.2.2)) := by
  obtain ⟨p1, p2, p3, p4, p5⟩ := bk_parts hu h1 h2
  have l17 := adC_len hu
  rw [splice_in p1 l17]
  have h18 : o + 18 < cs.length := by omega
  have e : cs.drop (o + 18) = .int .i64 u.2.2 :: cs.drop (o + 19) := by
    rw [List.drop_eq_getElem_cons h18]
    rw [List.getElem?_eq_getElem h18] at p4
    rw [Option.some.inj p4]
  have ha : (adC u.1 ++ [CV.int .i64 x]).length = 18 := by rw [List.length_append, l17]; rfl
  have hb : (bkC (u.1, x, u.2.2)).length = 19 := bkC_len hu
  rw [splice, splice, ha, hb, e, bkC]
  simp
theorem bk_setA {cs : List CV} {o : Nat} {u : Bk} (hu : u.1.2.length = 16) (h1 : o + 19 ≤ cs.length) (h2 : (cs.drop o).take 19 = bkC u) (x : Int) : splice cs (o + 18) [.int .i64 x] = splice cs o (bkC (u.1, u.2.1, x)) := by
  have e : (cs.drop o).take 18 = adC u.1 ++ [.int .i64 u.2.1] := by
    have l17 := adC_len hu
    rw [show (cs.drop o).take 18 = ((cs.drop o).take 19).take 18 by rw [List.take_take]; rfl, h2, bkC, List.take_append, List.take_of_length_le (by omega), l17]; rfl
  have l18 : (adC u.1 ++ [CV.int .i64 u.2.1]).length = 18 := by rw [List.length_append, adC_len hu]; rfl
  rw [splice_in e l18, bkC, List.append_assoc]; rfl
end Go.Proofs.Ytfnpfpjcgfndhaa
