/- Lemmas and definitions of this claim (own texts, joined by a program; what the claim does not use is left out). -/
import Derived.Test.YtdceppjoipoohaaGreatDoorEa7
section
namespace Go.Proofs.YtdceppjoipoohaaGreatDoor
open Go Go.Sy
set_option linter.all false
set_option maxRecDepth 100000
set_option maxHeartbeats 4000000
def idxL (L : List (List UInt8)) (x : List UInt8) : Int := if x ∈ L then (L.idxOf x : Int) else -1
theorem index_in (L : List (List UInt8)) (x : List UInt8) (hL : L.length < 1000000) : PC Tryz.prog true 85 [.lst L.length (L.map .str) false, .str x] (.int .i64 (idxL L x)) := by
  have hml : (L.map CV.str).length = L.length := List.length_map _
  refine acall_intro mixed Tryz.func85 rfl ca85 (by kernel_rfl) (by rw [Tryz.ntmps85]; simp) ?_
  repeat' (first | (with_reducible (first | apply w_seq | apply w_region | apply w_block | apply w_skip | apply w_exit | apply w_ret | apply w_then | apply w_then_exit | apply w_then_ret | apply w_in | apply w_in_here | apply w_in_ret | apply w_round | apply o_nil | apply d_nil)) | ((with_reducible (first | apply w_in_exit)); rfl) | ((with_reducible (first | apply w_draw)); rfl) | ((first | ((with_reducible (first | apply o_op | apply d_op | apply q_op)); rfl; rfl) | ((with_reducible (first | apply w_cond | apply w_end | apply w_return))) | ((with_reducible (first | apply o_guard | apply d_guard | apply q_guard)); rfl)); all_goals (first | ((with_reducible show Is _ _); ((try simp (disch := first | omega | (simp only [yA, yB, yC, yD, yE] <;> omega) | fail) [go_sem, yF, yG, yH, *, if_pos, if_neg, -List.map_take, -List.map_drop, -List.map_append, -List.map_reverse]); exact rfl)) | ((fail_if_success (with_reducible show Is _ _)); (first | ((with_reducible refine fun (hc : (_ : Bool) = _) => ?_); (try simp only [xA, xB, xC, xD, xE, xF, xG, xH, reduceCtorEq, xI, xJ, xK, xL, xM, xN, xO, xP, xQ, xR] at hc); (try (have hx : True := hc; clear hx hc)); (try (exfalso; omega)); (try (with_reducible (exact absurd hc (by assumption)))); (try (with_reducible (exact absurd (by assumption) hc)))) | ((fail_if_success (with_reducible show ACall _ _ _ _ _)); (try ((with_reducible show _ ∨ _); first | exact .inl rfl | (refine .inr ⟨rfl, ?_, ?_⟩; (focus (repeat (first | exact trivial | refine ⟨.inl rfl, ?_⟩ | refine ⟨.inr rfl, ?_⟩))); (first | exact trivial | exact rfl))))))))))
  refine w_loop (fun fr B => ∃ j : Nat, j ≤ L.length ∧ x ∉ L.take j ∧ fr 8 = .int .i64 j ∧ fr 7 = .int .i64 L.length ∧ fr 0 = .lst L.length (L.map .str) false ∧ fr 1 = .str x ∧ B = []) (fun fr _ => L.length - natOf (fr 8)) ?_ ?_
  · exact ⟨0, by omega, by simp, by (simp (disch := omega) [go_sem, *]) <;> (try omega), by (simp (disch := omega) [go_sem, *]) <;> (try omega), by (simp (disch := omega) [go_sem, *]) <;> (try omega), by (simp (disch := omega) [go_sem, *]) <;> (try omega), rfl⟩
  rintro fr B ⟨j, hj, hn, h8, h7, h0, h1, rfl⟩
  have hm : natOf (fr 8) = j := by rw [h8]; rfl
  by_cases hc : j < L.length
  · have hx : (L.map CV.str).drop j = .str (L[j]'hc) :: (L.map CV.str).drop (j + 1) := by
      rw [List.drop_eq_getElem_cons (by simp; omega)]; simp
    by_cases he : x = L[j]'hc
    · have hr : idxL L x = j := by
        have hi : x ∈ L := he ▸ List.getElem_mem hc
        rw [idxL, if_pos hi]
        have h1 : ¬ L.idxOf x < j := fun h => hn (by
          rw [List.mem_take_iff_getElem]
          exact ⟨L.idxOf x, by have := List.idxOf_lt_length_iff.2 hi; omega, List.getElem_idxOf (List.idxOf_lt_length_iff.2 hi)⟩)
        have h2 : L.idxOf x ≤ j := by
          rcases Nat.lt_or_ge j (L.idxOf x) with h | h
          · have := List.not_of_lt_findIdx (p := (· == x)) (xs := L) h
            rw [← he] at this
            simp at this
          · exact h
        omega
      rw [hr]
      generalize L[j]'hc = y at *
      subst he
      clear hn hr
      repeat' (first | (with_reducible (first | apply w_seq | apply w_region | apply w_block | apply w_skip | apply w_exit | apply w_ret | apply w_then | apply w_then_exit | apply w_then_ret | apply w_in | apply w_in_here | apply w_in_ret | apply w_round | apply o_nil | apply d_nil)) | ((with_reducible (first | apply w_in_exit)); rfl) | ((with_reducible (first | apply w_draw)); rfl) | ((first | ((with_reducible (first | apply o_op | apply d_op | apply q_op)); rfl; rfl) | ((with_reducible (first | apply w_cond | apply w_end | apply w_return))) | ((with_reducible (first | apply o_guard | apply d_guard | apply q_guard)); rfl)); all_goals (first | ((with_reducible show Is _ _); ((try simp (disch := first | omega | (simp only [yA, yB, yC, yD, yE] <;> omega) | fail) [go_sem, yF, yG, yH, *, if_pos, if_neg, -List.map_take, -List.map_drop, -List.map_append, -List.map_reverse]); exact rfl)) | ((fail_if_success (with_reducible show Is _ _)); (first | ((with_reducible refine fun (hc : (_ : Bool) = _) => ?_); (try simp only [xA, xB, xC, xD, xE, xF, xG, xH, reduceCtorEq, xI, xJ, xK, xL, xM, xN, xO, xP, xQ, xR] at hc); (try (have hx : True := hc; clear hx hc)); (try (exfalso; omega)); (try (with_reducible (exact absurd hc (by assumption)))); (try (with_reducible (exact absurd (by assumption) hc)))) | ((fail_if_success (with_reducible show ACall _ _ _ _ _)); (try ((with_reducible show _ ∨ _); first | exact .inl rfl | (refine .inr ⟨rfl, ?_, ?_⟩; (focus (repeat (first | exact trivial | refine ⟨.inl rfl, ?_⟩ | refine ⟨.inr rfl, ?_⟩))); (first | exact trivial | exact rfl))))))))))
      all_goals rfl
    · have hn2 : x ∉ L.take (j + 1) := by
        rw [List.take_succ_eq_append_getElem hc]
        simp only [List.mem_append, List.mem_singleton]
        rintro (h | h)
        · exact hn h
        · exact he h
      have he2 : (x == L[j]'hc) = false := by simpa using he
      generalize L[j]'hc = y at *
      replace hn : Hid _ := hn
      replace hn2 : Hid _ := hn2
      repeat' (first | (with_reducible (first | apply w_seq | apply w_region | apply w_block | apply w_skip | apply w_exit | apply w_ret | apply w_then | apply w_then_exit | apply w_then_ret | apply w_in | apply w_in_here | apply w_in_ret | apply w_round | apply o_nil | apply d_nil)) | ((with_reducible (first | apply w_in_exit)); rfl) | ((with_reducible (first | apply w_draw)); rfl) | ((first | ((with_reducible (first | apply o_op | apply d_op | apply q_op)); rfl; rfl) | ((with_reducible (first | apply w_cond | apply w_end | apply w_return))) | ((with_reducible (first | apply o_guard | apply d_guard | apply q_guard)); rfl)); all_goals (first | ((with_reducible show Is _ _); ((try simp (disch := first | omega | (simp only [yA, yB, yC, yD, yE] <;> omega) | fail) [go_sem, yF, yG, yH, *, if_pos, if_neg, -List.map_take, -List.map_drop, -List.map_append, -List.map_reverse]); exact rfl)) | ((fail_if_success (with_reducible show Is _ _)); (first | ((with_reducible refine fun (hc : (_ : Bool) = _) => ?_); (try simp only [xA, xB, xC, xD, xE, xF, xG, xH, reduceCtorEq, xI, xJ, xK, xL, xM, xN, xO, xP, xQ, xR] at hc); (try (have hx : True := hc; clear hx hc)); (try (exfalso; omega)); (try (with_reducible (exact absurd hc (by assumption)))); (try (with_reducible (exact absurd (by assumption) hc)))) | ((fail_if_success (with_reducible show ACall _ _ _ _ _)); (try ((with_reducible show _ ∨ _); first | exact .inl rfl | (refine .inr ⟨rfl, ?_, ?_⟩; (focus (repeat (first | exact trivial | refine ⟨.inl rfl, ?_⟩ | refine ⟨.inr rfl, ?_⟩))); (first | exact trivial | exact rfl))))))))))
      exact ⟨⟨j + 1, by omega, hn2, by (simp (disch := omega) [go_sem, *]) <;> (try omega), by (simp (disch := omega) [go_sem, *]) <;> (try omega), by (simp (disch := omega) [go_sem, *]) <;> (try omega), by (simp (disch := omega) [go_sem, *]) <;> (try omega), rfl⟩, by (simp (disch := omega) [go_sem, *]) <;> (try omega)⟩
  · obtain rfl : j = L.length := by omega
    rw [List.take_length] at hn
    rw [idxL, if_neg hn]
    clear hn
    repeat' (first | (with_reducible (first | apply w_seq | apply w_region | apply w_block | apply w_skip | apply w_exit | apply w_ret | apply w_then | apply w_then_exit | apply w_then_ret | apply w_in | apply w_in_here | apply w_in_ret | apply w_round | apply o_nil | apply d_nil)) | ((with_reducible (first | apply w_in_exit)); rfl) | ((with_reducible (first | apply w_draw)); rfl) | ((first | ((with_reducible (first | apply o_op | apply d_op | apply q_op)); rfl; rfl) | ((with_reducible (first | apply w_cond | apply w_end | apply w_return))) | ((with_reducible (first | apply o_guard | apply d_guard | apply q_guard)); rfl)); all_goals (first | ((with_reducible show Is _ _); ((try simp (disch := first | omega | (simp only [yA, yB, yC, yD, yE] <;> omega) | fail) [go_sem, yF, yG, yH, *, if_pos, if_neg, -List.map_take, -List.map_drop, -List.map_append, -List.map_reverse]); exact rfl)) | ((fail_if_success (with_reducible show Is _ _)); (first | ((with_reducible refine fun (hc : (_ : Bool) = _) => ?_); (try simp only [xA, xB, xC, xD, xE, xF, xG, xH, reduceCtorEq, xI, xJ, xK, xL, xM, xN, xO, xP, xQ, xR] at hc); (try (have hx : True := hc; clear hx hc)); (try (exfalso; omega)); (try (with_reducible (exact absurd hc (by assumption)))); (try (with_reducible (exact absurd (by assumption) hc)))) | ((fail_if_success (with_reducible show ACall _ _ _ _ _)); (try ((with_reducible show _ ∨ _); first | exact .inl rfl | (refine .inr ⟨rfl, ?_, ?_⟩; (focus (repeat (first | exact trivial | refine ⟨.inl rfl, ?_⟩ | refine ⟨.inr rfl, ?_⟩))); (first | exact trivial | exact rfl))))))))))
    all_goals rfl
theorem contains_in (L : List (List UInt8)) (x : List UInt8) (hL : L.length < 1000000) : PC Tryz.prog true 58 [.lst L.length (L.map .str) false, .str x] (.bool (decide (x ∈ L))) := by
  have hi : ∀ {B : List Box} {args : List CV}, Is (omap (Go.Sy.fz true false B 6) args) (some [.lst L.length (L.map .str) false, .str x]) → ACall Tryz.prog 85 args B fun c B' => c = .int .i64 (idxL L x) ∧ B' = B := fun h => acall_fresh h (index_in L x hL)
  have ho := @omap_strs
  refine acall_intro mixed Tryz.func58 rfl ca58 (by kernel_rfl) (by rw [Tryz.ntmps58]; simp) ?_
  by_cases h : x ∈ L
  · have e : idxL L x = (L.idxOf x : Nat) := by rw [idxL, if_pos h]
    rw [e] at hi
    simp only [h, decide_true]
    clear e h
    repeat' (first | (with_reducible (first | apply w_seq | apply w_region | apply w_block | apply w_skip | apply w_exit | apply w_ret | apply w_then | apply w_then_exit | apply w_then_ret | apply w_in | apply w_in_here | apply w_in_ret | apply w_round | apply o_nil | apply d_nil)) | ((with_reducible (first | apply w_in_exit)); rfl) | ((with_reducible (first | apply w_draw)); rfl) | ((first | ((with_reducible (first | apply o_op | apply d_op | apply q_op)); rfl; rfl) | ((with_reducible (first | apply w_cond | apply w_end | apply w_return))) | ((with_reducible (first | apply o_guard | apply d_guard | apply q_guard)); rfl) | ((with_reducible (first | apply o_call_eq | apply d_call | apply q_call)); rfl)); all_goals (first | ((with_reducible show Is _ _); ((try simp (disch := first | omega | (simp only [yA, yB, yC, yD, yE] <;> omega) | fail) [go_sem, yF, yG, yH, *, if_pos, if_neg, -List.map_take, -List.map_drop, -List.map_append, -List.map_reverse]); exact rfl)) | ((fail_if_success (with_reducible show Is _ _)); (first | ((with_reducible refine fun (hc : (_ : Bool) = _) => ?_); (try simp only [xA, xB, xC, xD, xE, xF, xG, xH, reduceCtorEq, xI, xJ, xK, xL, xM, xN, xO, xP, xQ, xR] at hc); (try (have hx : True := hc; clear hx hc)); (try (exfalso; omega)); (try (with_reducible (exact absurd hc (by assumption)))); (try (with_reducible (exact absurd (by assumption) hc)))) | ((with_reducible show ACall _ _ _ _ _); (first | ((with_reducible (first | apply hi)) <;> (first | omega | assumption | exact rfl | ((simp (disch := first | omega | (simp only [yA, yB, yC, yD, yE] <;> omega) | fail) [go_sem, yF, yG, yH, *, -List.map_take, -List.map_drop, -List.map_append, -List.map_reverse]) <;> (first | done | omega | exact rfl)))))) | ((fail_if_success (with_reducible show ACall _ _ _ _ _)); (try ((with_reducible show _ ∨ _); first | exact .inl rfl | (refine .inr ⟨rfl, ?_, ?_⟩; (focus (repeat (first | exact trivial | refine ⟨.inl rfl, ?_⟩ | refine ⟨.inr rfl, ?_⟩))); (first | exact trivial | exact rfl))))))))))
    rfl
  · have e : idxL L x = -1 := by rw [idxL, if_neg h]
    rw [e] at hi
    simp only [h, decide_false]
    clear e h
    repeat' (first | (with_reducible (first | apply w_seq | apply w_region | apply w_block | apply w_skip | apply w_exit | apply w_ret | apply w_then | apply w_then_exit | apply w_then_ret | apply w_in | apply w_in_here | apply w_in_ret | apply w_round | apply o_nil | apply d_nil)) | ((with_reducible (first | apply w_in_exit)); rfl) | ((with_reducible (first | apply w_draw)); rfl) | ((first | ((with_reducible (first | apply o_op | apply d_op | apply q_op)); rfl; rfl) | ((with_reducible (first | apply w_cond | apply w_end | apply w_return))) | ((with_reducible (first | apply o_guard | apply d_guard | apply q_guard)); rfl) | ((with_reducible (first | apply o_call_eq | apply d_call | apply q_call)); rfl)); all_goals (first | ((with_reducible show Is _ _); ((try simp (disch := first | omega | (simp only [yA, yB, yC, yD, yE] <;> omega) | fail) [go_sem, yF, yG, yH, *, if_pos, if_neg, -List.map_take, -List.map_drop, -List.map_append, -List.map_reverse]); exact rfl)) | ((fail_if_success (with_reducible show Is _ _)); (first | ((with_reducible refine fun (hc : (_ : Bool) = _) => ?_); (try simp only [xA, xB, xC, xD, xE, xF, xG, xH, reduceCtorEq, xI, xJ, xK, xL, xM, xN, xO, xP, xQ, xR] at hc); (try (have hx : True := hc; clear hx hc)); (try (exfalso; omega)); (try (with_reducible (exact absurd hc (by assumption)))); (try (with_reducible (exact absurd (by assumption) hc)))) | ((with_reducible show ACall _ _ _ _ _); (first | ((with_reducible (first | apply hi)) <;> (first | omega | assumption | exact rfl | ((simp (disch := first | omega | (simp only [yA, yB, yC, yD, yE] <;> omega) | fail) [go_sem, yF, yG, yH, *, -List.map_take, -List.map_drop, -List.map_append, -List.map_reverse]) <;> (first | done | omega | exact rfl)))))) | ((fail_if_success (with_reducible show ACall _ _ _ _ _)); (try ((with_reducible show _ ∨ _); first | exact .inl rfl | (refine .inr ⟨rfl, ?_, ?_⟩; (focus (repeat (first | exact trivial | refine ⟨.inl rfl, ?_⟩ | refine ⟨.inr rfl, ?_⟩))); (first | exact trivial | exact rfl))))))))))
    rfl
theorem containsS_at {B : List Box} {args : List CV} {L : List (List UInt8)} {x : List UInt8} {n : Nat} {b : Bool} (hz : Is (omap (Go.Sy.fz true false B 6) args) (some [.lst n (L.map .str) false, .str x])) (hn : n = L.length) (hb : decide (x ∈ L) = b) (hL : L.length < 1000000) : ACall Tryz.prog 58 args B fun c B' => c = .bool b ∧ B' = B := by
  subst hn hb
  exact acall_fresh hz (contains_in L x hL)
theorem containsN_at {B : List Box} {x : List UInt8} : ACall Tryz.prog 58 [.nilS, .str x] B fun c B' => c = .bool false ∧ B' = B := by
  have hi : ∀ {B : List Box} {args : List CV}, Is args [.nilS, .str x] → ACall Tryz.prog 85 args B fun c B' => c = .int .i64 (-1) ∧ B' = B := fun {B args} h => by
    have h : args = _ := h
    subst h
    refine acall_intro mixed Tryz.func85 rfl ca85 (by kernel_rfl) (by rw [Tryz.ntmps85]; simp) ?_
    repeat' (first | (with_reducible (first | apply w_seq | apply w_region | apply w_block | apply w_skip | apply w_exit | apply w_ret | apply w_then | apply w_then_exit | apply w_then_ret | apply w_in | apply w_in_here | apply w_in_ret | apply w_round | apply o_nil | apply d_nil)) | ((with_reducible (first | apply w_in_exit)); rfl) | ((with_reducible (first | apply w_draw)); rfl) | ((first | ((with_reducible (first | apply o_op | apply d_op | apply q_op)); rfl; rfl) | ((with_reducible (first | apply w_cond | apply w_end | apply w_return))) | ((with_reducible (first | apply o_guard | apply d_guard | apply q_guard)); rfl)); all_goals (first | ((with_reducible show Is _ _); ((try simp (disch := first | omega | (simp only [yA, yB, yC, yD, yE] <;> omega) | fail) [go_sem, yF, yG, yH, *, if_pos, if_neg, -List.map_take, -List.map_drop, -List.map_append, -List.map_reverse]); exact rfl)) | ((fail_if_success (with_reducible show Is _ _)); (first | ((with_reducible refine fun (hc : (_ : Bool) = _) => ?_); (try simp only [xA, xB, xC, xD, xE, xF, xG, xH, reduceCtorEq, xI, xJ, xK, xL, xM, xN, xO, xP, xQ, xR] at hc); (try (have hx : True := hc; clear hx hc)); (try (exfalso; omega)); (try (with_reducible (exact absurd hc (by assumption)))); (try (with_reducible (exact absurd (by assumption) hc)))) | ((fail_if_success (with_reducible show ACall _ _ _ _ _)); (try ((with_reducible show _ ∨ _); first | exact .inl rfl | (refine .inr ⟨rfl, ?_, ?_⟩; (focus (repeat (first | exact trivial | refine ⟨.inl rfl, ?_⟩ | refine ⟨.inr rfl, ?_⟩))); (first | exact trivial | exact rfl))))))))))
    refine w_loop (fun fr B' => fr 8 = .int .i64 0 ∧ fr 7 = .int .i64 0 ∧ B' = B) (fun fr _ => 0) ?_ ?_
    · exact ⟨by (simp (disch := omega) [go_sem, *]) <;> (try omega), by (simp (disch := omega) [go_sem, *]) <;> (try omega), rfl⟩
    rintro fr B' ⟨h8, h7, rfl⟩
    repeat' (first | (with_reducible (first | apply w_seq | apply w_region | apply w_block | apply w_skip | apply w_exit | apply w_ret | apply w_then | apply w_then_exit | apply w_then_ret | apply w_in | apply w_in_here | apply w_in_ret | apply w_round | apply o_nil | apply d_nil)) | ((with_reducible (first | apply w_in_exit)); rfl) | ((with_reducible (first | apply w_draw)); rfl) | ((first | ((with_reducible (first | apply o_op | apply d_op | apply q_op)); rfl; rfl) | ((with_reducible (first | apply w_cond | apply w_end | apply w_return))) | ((with_reducible (first | apply o_guard | apply d_guard | apply q_guard)); rfl)); all_goals (first | ((with_reducible show Is _ _); ((try simp (disch := first | omega | (simp only [yA, yB, yC, yD, yE] <;> omega) | fail) [go_sem, yF, yG, yH, *, if_pos, if_neg, -List.map_take, -List.map_drop, -List.map_append, -List.map_reverse]); exact rfl)) | ((fail_if_success (with_reducible show Is _ _)); (first | ((with_reducible refine fun (hc : (_ : Bool) = _) => ?_); (try simp only [xA, xB, xC, xD, xE, xF, xG, xH, reduceCtorEq, xI, xJ, xK, xL, xM, xN, xO, xP, xQ, xR] at hc); (try (have hx : True := hc; clear hx hc)); (try (exfalso; omega)); (try (with_reducible (exact absurd hc (by assumption)))); (try (with_reducible (exact absurd (by assumption) hc)))) | ((fail_if_success (with_reducible show ACall _ _ _ _ _)); (try ((with_reducible show _ ∨ _); first | exact .inl rfl | (refine .inr ⟨rfl, ?_, ?_⟩; (focus (repeat (first | exact trivial | refine ⟨.inl rfl, ?_⟩ | refine ⟨.inr rfl, ?_⟩))); (first | exact trivial | exact rfl))))))))))
    all_goals exact ⟨rfl, rfl⟩
  refine acall_intro mixed Tryz.func58 rfl ca58 (by kernel_rfl) (by rw [Tryz.ntmps58]; simp) ?_
  repeat' (first | (with_reducible (first | apply w_seq | apply w_region | apply w_block | apply w_skip | apply w_exit | apply w_ret | apply w_then | apply w_then_exit | apply w_then_ret | apply w_in | apply w_in_here | apply w_in_ret | apply w_round | apply o_nil | apply d_nil)) | ((with_reducible (first | apply w_in_exit)); rfl) | ((with_reducible (first | apply w_draw)); rfl) | ((first | ((with_reducible (first | apply o_op | apply d_op | apply q_op)); rfl; rfl) | ((with_reducible (first | apply w_cond | apply w_end | apply w_return))) | ((with_reducible (first | apply o_guard | apply d_guard | apply q_guard)); rfl) | ((with_reducible (first | apply o_call_eq | apply d_call | apply q_call)); rfl)); all_goals (first | ((with_reducible show Is _ _); ((try simp (disch := first | omega | (simp only [yA, yB, yC, yD, yE] <;> omega) | fail) [go_sem, yF, yG, yH, *, if_pos, if_neg, -List.map_take, -List.map_drop, -List.map_append, -List.map_reverse]); exact rfl)) | ((fail_if_success (with_reducible show Is _ _)); (first | ((with_reducible refine fun (hc : (_ : Bool) = _) => ?_); (try simp only [xA, xB, xC, xD, xE, xF, xG, xH, reduceCtorEq, xI, xJ, xK, xL, xM, xN, xO, xP, xQ, xR] at hc); (try (have hx : True := hc; clear hx hc)); (try (exfalso; omega)); (try (with_reducible (exact absurd hc (by assumption)))); (try (with_reducible (exact absurd (by assumption) hc)))) | ((with_reducible show ACall _ _ _ _ _); (first | ((with_reducible (first | apply hi)) <;> (first | omega | assumption | exact rfl | ((simp (disch := first | omega | (simp only [yA, yB, yC, yD, yE] <;> omega) | fail) [go_sem, yF, yG, yH, *, -List.map_take, -List.map_drop, -List.map_append, -List.map_reverse]) <;> (first | done | omega | exact rfl)))))) | ((fail_if_success (with_reducible show ACall _ _ _ _ _)); (try ((with_reducible show _ ∨ _); first | exact .inl rfl | (refine .inr ⟨rfl, ?_, ?_⟩; (focus (repeat (first | exact trivial | refine ⟨.inl rfl, ?_⟩ | refine ⟨.inr rfl, ?_⟩))); (first | exact trivial | exact rfl))))))))))
  exact ⟨rfl, rfl⟩
def pz (K : List UInt8) (port : Int) (pe : CV) (n : Int) (nm : CV) (st : Bool) : Box := ⟨K.map byteC ++ [.int .i64 port, pe, .int .i64 n, nm, .bool st], false⟩
theorem require_at {B : List Box} {args : List CV} {β : Nat} (ha : Is args [.ptr β 0, .bool true]) : ACall Tryz.prog 57 args B fun c B' => c = .tup [] ∧ B' = B := by
  have ha : args = _ := ha
  subst ha
  refine acall_intro mixed Tryz.func57 rfl ca57 (by kernel_rfl) (by rw [Tryz.ntmps57]; simp) ?_
  repeat' (first | (with_reducible (first | apply w_seq | apply w_region | apply w_block | apply w_skip | apply w_exit | apply w_ret | apply w_then | apply w_then_exit | apply w_then_ret | apply w_in | apply w_in_here | apply w_in_ret | apply w_round | apply o_nil | apply d_nil)) | ((with_reducible (first | apply w_in_exit)); rfl) | ((with_reducible (first | apply w_draw)); rfl) | ((first | ((with_reducible (first | apply o_op | apply d_op | apply q_op)); rfl; rfl) | ((with_reducible (first | apply w_cond | apply w_end | apply w_return))) | ((with_reducible (first | apply o_guard | apply d_guard | apply q_guard)); rfl)); all_goals (first | ((with_reducible show Is _ _); ((try simp (disch := first | omega | (simp only [yA, yB, yC, yD, yE] <;> omega) | fail) [go_sem, yF, yG, yH, *, if_pos, if_neg, -List.map_take, -List.map_drop, -List.map_append, -List.map_reverse]); exact rfl)) | ((fail_if_success (with_reducible show Is _ _)); (first | ((with_reducible refine fun (hc : (_ : Bool) = _) => ?_); (try simp only [xA, xB, xC, xD, xE, xF, xG, xH, reduceCtorEq, xI, xJ, xK, xL, xM, xN, xO, xP, xQ, xR] at hc); (try (have hx : True := hc; clear hx hc)); (try (exfalso; omega)); (try (with_reducible (exact absurd hc (by assumption)))); (try (with_reducible (exact absurd (by assumption) hc)))) | ((fail_if_success (with_reducible show ACall _ _ _ _ _)); (try ((with_reducible show _ ∨ _); first | exact .inl rfl | (refine .inr ⟨rfl, ?_, ?_⟩; (focus (repeat (first | exact trivial | refine ⟨.inl rfl, ?_⟩ | refine ⟨.inr rfl, ?_⟩))); (first | exact trivial | exact rfl))))))))))
  exact ⟨rfl, rfl⟩
theorem key_at {B : List Box} {args : List CV} {β : Nat} {s K : List UInt8} (ha : Is args [.ptr β 0, .str s]) (hs : s.length < 1073741823) (hK : unkey s = some K) (hl : K.length = 32) : ACall Tryz.prog 86 args B fun c B' => c = .agg (K.map byteC) ∧ B' = B ++ [⟨K.map byteC, false⟩, ⟨K.map byteC, false⟩] := by
  have ha : args = _ := ha
  subst ha
  have hpk : ∀ {B : List Box}, ACall Tryz.prog 105 [.str s] B fun c B' => c = .tup [.agg (K.map byteC), .int .i64 0] ∧ B' = B := by
    intro B
    have := @parseKey_at B s hs
    rw [hK] at this
    exact this
  have hrq : ∀ {B : List Box} {args : List CV}, Is args [.ptr β 0, .bool true] → ACall Tryz.prog 57 args B fun c B' => c = .tup [] ∧ B' = B := require_at
  refine acall_intro mixed Tryz.func86 rfl ca86 (by kernel_rfl) (by rw [Tryz.ntmps86]; simp) ?_
  repeat' (first | (with_reducible (first | apply w_seq | apply w_region | apply w_block | apply w_skip | apply w_exit | apply w_ret | apply w_then | apply w_then_exit | apply w_then_ret | apply w_in | apply w_in_here | apply w_in_ret | apply w_round | apply o_nil | apply d_nil)) | ((with_reducible (first | apply w_in_exit)); rfl) | ((with_reducible (first | apply w_draw)); rfl) | ((first | ((with_reducible (first | apply o_op | apply d_op | apply q_op)); rfl; rfl) | ((with_reducible (first | apply w_cond | apply w_end | apply w_return))) | ((with_reducible (first | apply o_guard | apply d_guard | apply q_guard)); rfl) | ((with_reducible (first | apply o_call_eq | apply d_call | apply q_call)); rfl)); all_goals (first | ((with_reducible show Is _ _); ((try simp (disch := first | omega | (simp only [yA, yB, yC, yD, yE] <;> omega) | fail) [go_sem, yF, yG, yH, *, bx_get0, bx_get, bx_set0, bx_set, if_pos, if_neg, -List.map_take, -List.map_drop, -List.map_append, -List.map_reverse]); exact rfl)) | ((fail_if_success (with_reducible show Is _ _)); (first | ((with_reducible refine fun (hc : (_ : Bool) = _) => ?_); (try simp only [xA, xB, xC, xD, xE, xF, xG, xH, reduceCtorEq, xI, xJ, xK, xL, xM, xN, xO, xP, xQ, xR] at hc); (try (have hx : True := hc; clear hx hc)); (try (exfalso; omega)); (try (with_reducible (exact absurd hc (by assumption)))); (try (with_reducible (exact absurd (by assumption) hc)))) | ((with_reducible show ACall _ _ _ _ _); (first | ((with_reducible (first | apply hpk)) <;> (first | omega | assumption | exact rfl | ((simp (disch := first | omega | (simp only [yA, yB, yC, yD, yE] <;> omega) | fail) [go_sem, yF, yG, yH, *, bx_get0, bx_get, bx_set0, bx_set, -List.map_take, -List.map_drop, -List.map_append, -List.map_reverse]) <;> (first | done | omega | exact rfl)))) | ((with_reducible (first | apply hrq)) <;> (first | omega | assumption | exact rfl | ((simp (disch := first | omega | (simp only [yA, yB, yC, yD, yE] <;> omega) | fail) [go_sem, yF, yG, yH, *, bx_get0, bx_get, bx_set0, bx_set, -List.map_take, -List.map_drop, -List.map_append, -List.map_reverse]) <;> (first | done | omega | exact rfl)))))) | ((fail_if_success (with_reducible show ACall _ _ _ _ _)); (try ((with_reducible show _ ∨ _); first | exact .inl rfl | (refine .inr ⟨rfl, ?_, ?_⟩; (focus (repeat (first | exact trivial | refine ⟨.inl rfl, ?_⟩ | refine ⟨.inr rfl, ?_⟩))); (first | exact trivial | exact rfl))))))))))
  exact ⟨rfl, rfl⟩
theorem number_at {B : List Box} {args : List CV} {β : Nat} {s : List UInt8} (ha : Is args [.ptr β 0, .str s]) (hs : s.length < 1073741823) (hd : decOk 10 s = true) (hv : decV s ≤ 9999999999) : ACall Tryz.prog 87 args B fun c B' => c = .int .i64 (decV s) ∧ B' = B := by
  have ha : args = _ := ha
  subst ha
  have hde : ∀ {B : List Box}, ACall Tryz.prog 43 [.str s, .int .i64 9999999999] B fun c B' => c = .tup [.int .i64 (decV s), .bool true] ∧ B' = B := by
    intro B
    have := @decimal_at B s 9999999999 (by omega)
    have e : decR 10 s = decV s := by rw [decR, if_pos hd]
    rw [e, hd, decide_eq_true (by omega : (decV s : Int) ≤ 9999999999)] at this
    exact this
  have hrq : ∀ {B : List Box} {args : List CV}, Is args [.ptr β 0, .bool true] → ACall Tryz.prog 57 args B fun c B' => c = .tup [] ∧ B' = B := require_at
  generalize decV s = v at *
  refine acall_intro mixed Tryz.func87 rfl ca87 (by kernel_rfl) (by rw [Tryz.ntmps87]; simp) ?_
  repeat' (first | (with_reducible (first | apply w_seq | apply w_region | apply w_block | apply w_skip | apply w_exit | apply w_ret | apply w_then | apply w_then_exit | apply w_then_ret | apply w_in | apply w_in_here | apply w_in_ret | apply w_round | apply o_nil | apply d_nil)) | ((with_reducible (first | apply w_in_exit)); rfl) | ((with_reducible (first | apply w_draw)); rfl) | ((first | ((with_reducible (first | apply o_op | apply d_op | apply q_op)); rfl; rfl) | ((with_reducible (first | apply w_cond | apply w_end | apply w_return))) | ((with_reducible (first | apply o_guard | apply d_guard | apply q_guard)); rfl) | ((with_reducible (first | apply o_call_eq | apply d_call | apply q_call)); rfl)); all_goals (first | ((with_reducible show Is _ _); ((try simp (disch := first | omega | (simp only [yA, yB, yC, yD, yE] <;> omega) | fail) [go_sem, yF, yG, yH, *, if_pos, if_neg, -List.map_take, -List.map_drop, -List.map_append, -List.map_reverse]); exact rfl)) | ((fail_if_success (with_reducible show Is _ _)); (first | ((with_reducible refine fun (hc : (_ : Bool) = _) => ?_); (try simp only [xA, xB, xC, xD, xE, xF, xG, xH, reduceCtorEq, xI, xJ, xK, xL, xM, xN, xO, xP, xQ, xR] at hc); (try (have hx : True := hc; clear hx hc)); (try (exfalso; omega)); (try (with_reducible (exact absurd hc (by assumption)))); (try (with_reducible (exact absurd (by assumption) hc)))) | ((with_reducible show ACall _ _ _ _ _); (first | ((with_reducible (first | apply hde)) <;> (first | omega | assumption | exact rfl | ((simp (disch := first | omega | (simp only [yA, yB, yC, yD, yE] <;> omega) | fail) [go_sem, yF, yG, yH, *, -List.map_take, -List.map_drop, -List.map_append, -List.map_reverse]) <;> (first | done | omega | exact rfl)))) | ((with_reducible (first | apply hrq)) <;> (first | omega | assumption | exact rfl | ((simp (disch := first | omega | (simp only [yA, yB, yC, yD, yE] <;> omega) | fail) [go_sem, yF, yG, yH, *, -List.map_take, -List.map_drop, -List.map_append, -List.map_reverse]) <;> (first | done | omega | exact rfl)))))) | ((fail_if_success (with_reducible show ACall _ _ _ _ _)); (try ((with_reducible show _ ∨ _); first | exact .inl rfl | (refine .inr ⟨rfl, ?_, ?_⟩; (focus (repeat (first | exact trivial | refine ⟨.inl rfl, ?_⟩ | refine ⟨.inr rfl, ?_⟩))); (first | exact trivial | exact rfl))))))))))
  exact ⟨rfl, rfl⟩
end Go.Proofs.YtdceppjoipoohaaGreatDoor
end
section
namespace Go.Proofs.YtdceppjoipoohaaGreatDoor
open Go Go.Sy
set_option linter.all false
set_option maxRecDepth 100000
set_option maxHeartbeats 4000000
def sIface : List UInt8 := [91, 73, 110, 116, 101, 114, 102, 97, 99, 101, 93]
def sPriv : List UInt8 := [80, 114, 105, 118, 97, 116, 101, 75, 101, 121]
def sPort : List UInt8 := [76, 105, 115, 116, 101, 110, 80, 111, 114, 116]
theorem valueK_at {B : List Box} {args : List CV} {β : Nat} {s K K' : List UInt8} {port n : Int} {nm : CV} {st : Bool} (ha : Is args [.ptr β 0, .str sPriv, .str s]) (hB : B[β]? = some (pz K port .nilS n nm st)) (hK : K.length = 32) (hs : s.length < 1073741823) (hk : unkey s = some K') (hl : K'.length = 32) : ACall Tryz.prog 59 args B fun c B' => c = .tup [] ∧ B' = B.set β (pz K' port .nilS n nm st) ++ [⟨K'.map byteC, false⟩, ⟨K'.map byteC, false⟩] := by
  have ha : args = _ := ha
  subst ha
  rw [pz] at hB
  obtain ⟨p1, p2, p3, p4, p5, p6, p7, p8, p9, p10, p11, p12, p13⟩ := bx_pack hB
  have hky : ∀ {B : List Box} {args : List CV}, Is args [.ptr β 0, .str s] → ACall Tryz.prog 86 args B fun c B' => c = .agg (K'.map byteC) ∧ B' = B ++ [⟨K'.map byteC, false⟩, ⟨K'.map byteC, false⟩] := fun h => key_at h hs hk hl
  refine acall_intro mixed Tryz.func59 rfl ca59 (by kernel_rfl) (by rw [Tryz.ntmps59]; simp) ?_
  repeat' (first | (with_reducible (first | apply w_seq | apply w_region | apply w_block | apply w_skip | apply w_exit | apply w_ret | apply w_then | apply w_then_exit | apply w_then_ret | apply w_in | apply w_in_here | apply w_in_ret | apply w_round | apply o_nil | apply d_nil)) | ((with_reducible (first | apply w_in_exit)); rfl) | ((with_reducible (first | apply w_draw)); rfl) | ((first | ((with_reducible (first | apply o_op | apply d_op | apply q_op)); rfl; rfl) | ((with_reducible (first | apply w_cond | apply w_end | apply w_return))) | ((with_reducible (first | apply o_guard | apply d_guard | apply q_guard)); rfl) | ((with_reducible (first | apply o_call_eq | apply d_call | apply q_call)); rfl)); all_goals (first | ((with_reducible show Is _ _); ((try simp (disch := first | omega | (simp only [yA, yB, yC, yD, yE] <;> omega) | fail) [go_sem, yF, yG, yH, *, sPriv, bx_get0, bx_get, bx_set0, bx_set, if_pos, if_neg, -List.map_take, -List.map_drop, -List.map_append, -List.map_reverse]); exact rfl)) | ((fail_if_success (with_reducible show Is _ _)); (first | ((with_reducible refine fun (hc : (_ : Bool) = _) => ?_); (try simp only [xA, xB, xC, xD, xE, xF, xG, xH, reduceCtorEq, xI, xJ, xK, xL, xM, xN, xO, xP, xQ, xR] at hc); (try (have hx : True := hc; clear hx hc)); (try (exfalso; omega)); (try (with_reducible (exact absurd hc (by assumption)))); (try (with_reducible (exact absurd (by assumption) hc)))) | ((with_reducible show ACall _ _ _ _ _); (first | ((with_reducible (first | apply hky)) <;> (first | omega | assumption | exact rfl | ((simp (disch := first | omega | (simp only [yA, yB, yC, yD, yE] <;> omega) | fail) [go_sem, yF, yG, yH, *, sPriv, bx_get0, bx_get, bx_set0, bx_set, -List.map_take, -List.map_drop, -List.map_append, -List.map_reverse]) <;> (first | done | omega | exact rfl)))))) | ((fail_if_success (with_reducible show ACall _ _ _ _ _)); (try ((with_reducible show _ ∨ _); first | exact .inl rfl | (refine .inr ⟨rfl, ?_, ?_⟩; (focus (repeat (first | exact trivial | refine ⟨.inl rfl, ?_⟩ | refine ⟨.inr rfl, ?_⟩))); (first | exact trivial | exact rfl))))))))))
  exact ⟨rfl, rfl⟩
theorem valueP_at {B : List Box} {args : List CV} {β : Nat} {s K : List UInt8} {port n : Int} {nm : CV} {st : Bool} (ha : Is args [.ptr β 0, .str sPort, .str s]) (hB : B[β]? = some (pz K port .nilS n nm st)) (hK : K.length = 32) (hs : s.length < 1073741823) (hd : decOk 10 s = true) (hv : decV s ≤ 9999999999) : ACall Tryz.prog 59 args B fun c B' => c = .tup [] ∧ B' = B.set β (pz K (decV s) .nilS n nm st) := by
  have ha : args = _ := ha
  subst ha
  rw [pz] at hB
  obtain ⟨p1, p2, p3, p4, p5, p6, p7, p8, p9, p10, p11, p12, p13⟩ := bx_pack hB
  have hnu : ∀ {B : List Box} {args : List CV}, Is args [.ptr β 0, .str s] → ACall Tryz.prog 87 args B fun c B' => c = .int .i64 (decV s) ∧ B' = B := fun h => number_at h hs hd hv
  generalize decV s = v at *
  refine acall_intro mixed Tryz.func59 rfl ca59 (by kernel_rfl) (by rw [Tryz.ntmps59]; simp) ?_
  repeat' (first | (with_reducible (first | apply w_seq | apply w_region | apply w_block | apply w_skip | apply w_exit | apply w_ret | apply w_then | apply w_then_exit | apply w_then_ret | apply w_in | apply w_in_here | apply w_in_ret | apply w_round | apply o_nil | apply d_nil)) | ((with_reducible (first | apply w_in_exit)); rfl) | ((with_reducible (first | apply w_draw)); rfl) | ((first | ((with_reducible (first | apply o_op | apply d_op | apply q_op)); rfl; rfl) | ((with_reducible (first | apply w_cond | apply w_end | apply w_return))) | ((with_reducible (first | apply o_guard | apply d_guard | apply q_guard)); rfl) | ((with_reducible (first | apply o_call_eq | apply d_call | apply q_call)); rfl)); all_goals (first | ((with_reducible show Is _ _); ((try simp (disch := first | omega | (simp only [yA, yB, yC, yD, yE] <;> omega) | fail) [go_sem, yF, yG, yH, *, sPort, bx_get0, bx_get, bx_set0, bx_set, if_pos, if_neg, -List.map_take, -List.map_drop, -List.map_append, -List.map_reverse]); exact rfl)) | ((fail_if_success (with_reducible show Is _ _)); (first | ((with_reducible refine fun (hc : (_ : Bool) = _) => ?_); (try simp only [xA, xB, xC, xD, xE, xF, xG, xH, reduceCtorEq, xI, xJ, xK, xL, xM, xN, xO, xP, xQ, xR] at hc); (try (have hx : True := hc; clear hx hc)); (try (exfalso; omega)); (try (with_reducible (exact absurd hc (by assumption)))); (try (with_reducible (exact absurd (by assumption) hc)))) | ((with_reducible show ACall _ _ _ _ _); (first | ((with_reducible (first | apply hnu)) <;> (first | omega | assumption | exact rfl | ((simp (disch := first | omega | (simp only [yA, yB, yC, yD, yE] <;> omega) | fail) [go_sem, yF, yG, yH, *, sPort, bx_get0, bx_get, bx_set0, bx_set, -List.map_take, -List.map_drop, -List.map_append, -List.map_reverse]) <;> (first | done | omega | exact rfl)))))) | ((fail_if_success (with_reducible show ACall _ _ _ _ _)); (try ((with_reducible show _ ∨ _); first | exact .inl rfl | (refine .inr ⟨rfl, ?_, ?_⟩; (focus (repeat (first | exact trivial | refine ⟨.inl rfl, ?_⟩ | refine ⟨.inr rfl, ?_⟩))); (first | exact trivial | exact rfl))))))))))
  exact ⟨rfl, rfl⟩
theorem readI_at {B : List Box} {args : List CV} {β : Nat} {s K : List UInt8} {port n : Int} {pe nm : CV} (ha : Is args [.ptr β 0, .str s]) (hB : B[β]? = some (pz K port pe n nm false)) (hK : K.length = 32) (hs : s.length < 1073741823) (ht : trimT s = sIface) : ACall Tryz.prog 34 args B fun c B' => c = .tup [] ∧ B' = B.set β (pz K port pe n nm true) := by
  have ha : args = _ := ha
  subst ha
  rw [pz] at hB
  obtain ⟨p1, p2, p3, p4, p5, p6, p7, p8, p9, p10, p11, p12, p13⟩ := bx_pack hB
  have htr : ∀ {B : List Box} {args : List CV}, Is (omap (Go.Sy.fz true false B 6) args) (some [.str s, .str [32, 9]]) → ACall Tryz.prog 56 args B fun r B' => r = .str sIface ∧ B' = B := fun h => by
    rw [← ht]; exact trim_at h (by omega)
  have hrq : ∀ {B : List Box} {args : List CV}, Is args [.ptr β 0, .bool true] → ACall Tryz.prog 57 args B fun c B' => c = .tup [] ∧ B' = B := require_at
  clear ht
  refine acall_intro mixed Tryz.func34 rfl ca34 (by kernel_rfl) (by rw [Tryz.ntmps34]; simp) ?_
  repeat' (first | (with_reducible (first | apply w_seq | apply w_region | apply w_block | apply w_skip | apply w_exit | apply w_ret | apply w_then | apply w_then_exit | apply w_then_ret | apply w_in | apply w_in_here | apply w_in_ret | apply w_round | apply o_nil | apply d_nil)) | ((with_reducible (first | apply w_in_exit)); rfl) | ((with_reducible (first | apply w_draw)); rfl) | ((first | ((with_reducible (first | apply o_op | apply d_op | apply q_op)); rfl; rfl) | ((with_reducible (first | apply w_cond | apply w_end | apply w_return))) | ((with_reducible (first | apply o_guard | apply d_guard | apply q_guard)); rfl) | ((with_reducible (first | apply o_call_eq | apply d_call | apply q_call)); rfl)); all_goals (first | ((with_reducible show Is _ _); ((try simp (disch := first | omega | (simp only [yA, yB, yC, yD, yE] <;> omega) | fail) [go_sem, yF, yG, yH, *, sIface, bx_get0, bx_get, bx_set0, bx_set, if_pos, if_neg, -List.map_take, -List.map_drop, -List.map_append, -List.map_reverse]); exact rfl)) | ((fail_if_success (with_reducible show Is _ _)); (first | ((with_reducible refine fun (hc : (_ : Bool) = _) => ?_); (try simp only [xA, xB, xC, xD, xE, xF, xG, xH, reduceCtorEq, xI, xJ, xK, xL, xM, xN, xO, xP, xQ, xR] at hc); (try (have hx : True := hc; clear hx hc)); (try (exfalso; omega)); (try (with_reducible (exact absurd hc (by assumption)))); (try (with_reducible (exact absurd (by assumption) hc)))) | ((with_reducible show ACall _ _ _ _ _); (first | ((with_reducible (first | apply htr)) <;> (first | omega | assumption | exact rfl | ((simp (disch := first | omega | (simp only [yA, yB, yC, yD, yE] <;> omega) | fail) [go_sem, yF, yG, yH, *, sIface, bx_get0, bx_get, bx_set0, bx_set, -List.map_take, -List.map_drop, -List.map_append, -List.map_reverse]) <;> (first | done | omega | exact rfl)))) | ((with_reducible (first | apply hrq)) <;> (first | omega | assumption | exact rfl | ((simp (disch := first | omega | (simp only [yA, yB, yC, yD, yE] <;> omega) | fail) [go_sem, yF, yG, yH, *, sIface, bx_get0, bx_get, bx_set0, bx_set, -List.map_take, -List.map_drop, -List.map_append, -List.map_reverse]) <;> (first | done | omega | exact rfl)))))) | ((fail_if_success (with_reducible show ACall _ _ _ _ _)); (try ((with_reducible show _ ∨ _); first | exact .inl rfl | (refine .inr ⟨rfl, ?_, ?_⟩; (focus (repeat (first | exact trivial | refine ⟨.inl rfl, ?_⟩ | refine ⟨.inr rfl, ?_⟩))); (first | exact trivial | exact rfl))))))))))
  exact ⟨rfl, rfl⟩
theorem readC_at {B : List Box} {args : List CV} {β : Nat} {s r : List UInt8} (ha : Is args [.ptr β 0, .str s]) (hs : s.length < 1073741823) (ht : trimT s = 35 :: r) : ACall Tryz.prog 34 args B fun c B' => c = .tup [] ∧ B' = B := by
  have ha : args = _ := ha
  subst ha
  have htr : ∀ {B : List Box} {args : List CV}, Is (omap (Go.Sy.fz true false B 6) args) (some [.str s, .str [32, 9]]) → ACall Tryz.prog 56 args B fun c B' => c = .str (35 :: r) ∧ B' = B := fun h => by
    rw [← ht]; exact trim_at h (by omega)
  clear ht
  refine acall_intro mixed Tryz.func34 rfl ca34 (by kernel_rfl) (by rw [Tryz.ntmps34]; simp) ?_
  repeat' (first | (with_reducible (first | apply w_seq | apply w_region | apply w_block | apply w_skip | apply w_exit | apply w_ret | apply w_then | apply w_then_exit | apply w_then_ret | apply w_in | apply w_in_here | apply w_in_ret | apply w_round | apply o_nil | apply d_nil)) | ((with_reducible (first | apply w_in_exit)); rfl) | ((with_reducible (first | apply w_draw)); rfl) | ((first | ((with_reducible (first | apply o_op | apply d_op | apply q_op)); rfl; rfl) | ((with_reducible (first | apply w_cond | apply w_end | apply w_return))) | ((with_reducible (first | apply o_guard | apply d_guard | apply q_guard)); rfl) | ((with_reducible (first | apply o_call_eq | apply d_call | apply q_call)); rfl)); all_goals (first | ((with_reducible show Is _ _); ((try simp (disch := first | omega | (simp only [yA, yB, yC, yD, yE] <;> omega) | fail) [go_sem, yF, yG, yH, *, if_pos, if_neg, -List.map_take, -List.map_drop, -List.map_append, -List.map_reverse]); exact rfl)) | ((fail_if_success (with_reducible show Is _ _)); (first | ((with_reducible refine fun (hc : (_ : Bool) = _) => ?_); (try simp only [xA, xB, xC, xD, xE, xF, xG, xH, reduceCtorEq, xI, xJ, xK, xL, xM, xN, xO, xP, xQ, xR] at hc); (try (have hx : True := hc; clear hx hc)); (try (exfalso; omega)); (try (with_reducible (exact absurd hc (by assumption)))); (try (with_reducible (exact absurd (by assumption) hc)))) | ((with_reducible show ACall _ _ _ _ _); (first | ((with_reducible (first | apply htr)) <;> (first | omega | assumption | exact rfl | ((simp (disch := first | omega | (simp only [yA, yB, yC, yD, yE] <;> omega) | fail) [go_sem, yF, yG, yH, *, -List.map_take, -List.map_drop, -List.map_append, -List.map_reverse]) <;> (first | done | omega | exact rfl)))))) | ((fail_if_success (with_reducible show ACall _ _ _ _ _)); (try ((with_reducible show _ ∨ _); first | exact .inl rfl | (refine .inr ⟨rfl, ?_, ?_⟩; (focus (repeat (first | exact trivial | refine ⟨.inl rfl, ?_⟩ | refine ⟨.inr rfl, ?_⟩))); (first | exact trivial | exact rfl))))))))))
  exact ⟨rfl, rfl⟩
def sPeer : List UInt8 := [91, 80, 101, 101, 114, 93]
theorem readK_at {B : List Box} {args : List CV} {β : Nat} {s K K' u v T : List UInt8} {c0 : UInt8} {port n : Int} (ha : Is args [.ptr β 0, .str s]) (hB : B[β]? = some (pz K port .nilS n .nilS true)) (hK : K.length = 32) (hs : s.length < 1073741823) (ht : trimT s = c0 :: u) (hc0 : c0.toNat ≠ 35) (hI : (c0 :: u == sIface) = false) (hP : (c0 :: u == sPeer) = false)
    (hcut : Go.Lib.cut (c0 :: u) [61] = (sPriv, v, true)) (hv : trimT v = T) (hvl : v.length < 1073741823) (hTl : T.length < 1073741823) (hk : unkey T = some K') (hl : K'.length = 32) :
    ACall Tryz.prog 34 args B fun c B' => c = .tup [] ∧ B' = B.set β (pz K' port .nilS n (.view (B.length + 1) 0 1 1 false) true) ++ [⟨[.str sPriv], false⟩, ⟨[.str sPriv], false⟩, ⟨K'.map byteC, false⟩, ⟨K'.map byteC, false⟩] := by
  have ha : args = _ := ha
  subst ha
  have htr : ∀ {B : List Box} {args : List CV}, Is (omap (Go.Sy.fz true false B 6) args) (some [.str s, .str [32, 9]]) → ACall Tryz.prog 56 args B fun c B' => c = .str (c0 :: u) ∧ B' = B := fun h => by
    rw [← ht]; exact trim_at h (by omega)
  have htn : ∀ {B : List Box} {args : List CV}, Is (omap (Go.Sy.fz true false B 6) args) (some [.str sPriv, .str [32, 9]]) → ACall Tryz.prog 56 args B fun c B' => c = .str sPriv ∧ B' = B := fun h => by
    have := trim_at h (by decide)
    rwa [show trimT sPriv = sPriv by decide +kernel] at this
  have htv : ∀ {B : List Box} {args : List CV}, Is (omap (Go.Sy.fz true false B 6) args) (some [.str v, .str [32, 9]]) → ACall Tryz.prog 56 args B fun c B' => c = .str T ∧ B' = B := fun h => by
    rw [← hv]; exact trim_at h (by omega)
  have hul : (c0 :: u).length ≤ s.length := by rw [← ht]; exact trimT_le s
  have hcu : ∀ {B : List Box}, ACall Tryz.prog 41 [.str (c0 :: u), .str [61]] B fun c B' => c = .tup [.str sPriv, .str v, .bool true] ∧ B' = B := by
    intro B
    have := @cutS_at B (c0 :: u) [61] (by omega)
    rwa [hcut] at this
  have hrq : ∀ {B : List Box} {args : List CV}, Is args [.ptr β 0, .bool true] → ACall Tryz.prog 57 args B fun c B' => c = .tup [] ∧ B' = B := require_at
  have hco : ∀ {B : List Box}, ACall Tryz.prog 58 [.nilS, .str sPriv] B fun c B' => c = .bool false ∧ B' = B := containsN_at
  have hva : ∀ {B1 : List Box} {args : List CV}, Is args [.ptr β 0, .str sPriv, .str T] → B1[β]? = some ⟨K.map byteC ++ [.int .i64 port, .nilS, .int .i64 n, .view (B.length + 1) 0 1 1 false, .bool true], false⟩ → ACall Tryz.prog 59 args B1 fun c B' => c = .tup [] ∧ B' = B1.set β ⟨K'.map byteC ++ [.int .i64 port, .nilS, .int .i64 n, .view (B.length + 1) 0 1 1 false, .bool true], false⟩ ++ [⟨K'.map byteC, false⟩, ⟨K'.map byteC, false⟩] := fun h h2 => valueK_at h h2 hK hTl hk hl
  have hic : (c0.toNat : Int) ≠ 35 := by omega
  clear ht hcut hv
  have hpz := hB
  rw [pz] at hB
  obtain ⟨p1, p2, p3, p4, p5, p6, p7, p8, p9, p10, p11, p12, p13⟩ := bx_pack hB
  refine acall_intro mixed Tryz.func34 rfl ca34 (by kernel_rfl) (by rw [Tryz.ntmps34]; simp) ?_
  generalize hsp : sPriv = sp at *
  rw [sIface] at hI
  rw [sPeer] at hP
  repeat' (first | (with_reducible (first | apply w_seq | apply w_region | apply w_block | apply w_skip | apply w_exit | apply w_ret | apply w_then | apply w_then_exit | apply w_then_ret | apply w_in | apply w_in_here | apply w_in_ret | apply w_round | apply o_nil | apply d_nil)) | ((with_reducible (first | apply w_in_exit)); rfl) | ((with_reducible (first | apply w_draw)); rfl) | ((first | ((with_reducible (first | apply o_op | apply d_op | apply q_op)); rfl; rfl) | ((with_reducible (first | apply w_cond | apply w_end | apply w_return))) | ((with_reducible (first | apply o_guard | apply d_guard | apply q_guard)); rfl) | ((with_reducible (first | apply o_call_eq | apply d_call | apply q_call)); rfl)); all_goals (first | ((with_reducible show Is _ _); ((try simp (disch := first | omega | (simp only [yA, yB, yC, yD, yE] <;> omega) | fail) [go_sem, yF, yG, yH, *, bx_get0, bx_get, bx_set0, bx_set, if_pos, if_neg, -List.map_take, -List.map_drop, -List.map_append, -List.map_reverse]); exact rfl)) | ((fail_if_success (with_reducible show Is _ _)); (first | ((with_reducible refine fun (hc : (_ : Bool) = _) => ?_); (try simp only [xA, xB, xC, xD, xE, xF, xG, xH, reduceCtorEq, xI, xJ, xK, xL, xM, xN, xO, xP, xQ, xR] at hc); (try (have hx : True := hc; clear hx hc)); (try (exfalso; omega)); (try (with_reducible (exact absurd hc (by assumption)))); (try (with_reducible (exact absurd (by assumption) hc)))) | ((with_reducible show ACall _ _ _ _ _); (first | ((with_reducible (first | apply htr)) <;> (first | omega | assumption | exact rfl | ((simp (disch := first | omega | (simp only [yA, yB, yC, yD, yE] <;> omega) | fail) [go_sem, yF, yG, yH, *, bx_get0, bx_get, bx_set0, bx_set, -List.map_take, -List.map_drop, -List.map_append, -List.map_reverse]) <;> (first | done | omega | exact rfl)))) | ((with_reducible (first | apply htn)) <;> (first | omega | assumption | exact rfl | ((simp (disch := first | omega | (simp only [yA, yB, yC, yD, yE] <;> omega) | fail) [go_sem, yF, yG, yH, *, bx_get0, bx_get, bx_set0, bx_set, -List.map_take, -List.map_drop, -List.map_append, -List.map_reverse]) <;> (first | done | omega | exact rfl)))) | ((with_reducible (first | apply htv)) <;> (first | omega | assumption | exact rfl | ((simp (disch := first | omega | (simp only [yA, yB, yC, yD, yE] <;> omega) | fail) [go_sem, yF, yG, yH, *, bx_get0, bx_get, bx_set0, bx_set, -List.map_take, -List.map_drop, -List.map_append, -List.map_reverse]) <;> (first | done | omega | exact rfl)))) | ((with_reducible (first | apply hcu)) <;> (first | omega | assumption | exact rfl | ((simp (disch := first | omega | (simp only [yA, yB, yC, yD, yE] <;> omega) | fail) [go_sem, yF, yG, yH, *, bx_get0, bx_get, bx_set0, bx_set, -List.map_take, -List.map_drop, -List.map_append, -List.map_reverse]) <;> (first | done | omega | exact rfl)))) | ((with_reducible (first | apply hrq)) <;> (first | omega | assumption | exact rfl | ((simp (disch := first | omega | (simp only [yA, yB, yC, yD, yE] <;> omega) | fail) [go_sem, yF, yG, yH, *, bx_get0, bx_get, bx_set0, bx_set, -List.map_take, -List.map_drop, -List.map_append, -List.map_reverse]) <;> (first | done | omega | exact rfl)))) | ((with_reducible (first | apply hco)) <;> (first | omega | assumption | exact rfl | ((simp (disch := first | omega | (simp only [yA, yB, yC, yD, yE] <;> omega) | fail) [go_sem, yF, yG, yH, *, bx_get0, bx_get, bx_set0, bx_set, -List.map_take, -List.map_drop, -List.map_append, -List.map_reverse]) <;> (first | done | omega | exact rfl)))) | ((with_reducible (first | apply hva)) <;> (first | omega | assumption | exact rfl | ((simp (disch := first | omega | (simp only [yA, yB, yC, yD, yE] <;> omega) | fail) [go_sem, yF, yG, yH, *, bx_get0, bx_get, bx_set0, bx_set, -List.map_take, -List.map_drop, -List.map_append, -List.map_reverse]) <;> (first | done | omega | exact rfl)))))) | ((fail_if_success (with_reducible show ACall _ _ _ _ _)); (try ((with_reducible show _ ∨ _); first | exact .inl rfl | (refine .inr ⟨rfl, ?_, ?_⟩; (focus (repeat (first | exact trivial | refine ⟨.inl rfl, ?_⟩ | refine ⟨.inr rfl, ?_⟩))); (first | exact trivial | exact rfl))))))))))
  refine ⟨rfl, ?_⟩
  rw [List.set_append_left _ _ (by rw [List.length_set]; exact (List.getElem?_eq_some_iff.1 hB).1), List.set_set, List.append_assoc]
  rfl
theorem readP_at {B : List Box} {args : List CV} {β : Nat} {s K u v T : List UInt8} {c0 : UInt8} {port n : Int} {γ : Nat} {m : Bool} (ha : Is args [.ptr β 0, .str s]) (hB : B[β]? = some (pz K port .nilS n (.view γ 0 1 1 false) true)) (hγ : B[γ]? = some ⟨[.str sPriv], m⟩) (hne : γ ≠ β) (hK : K.length = 32) (hs : s.length < 1073741823) (ht : trimT s = c0 :: u) (hc0 : c0.toNat ≠ 35) (hI : (c0 :: u == sIface) = false) (hP : (c0 :: u == sPeer) = false)
    (hcut : Go.Lib.cut (c0 :: u) [61] = (sPort, v, true)) (hv : trimT v = T) (hvl : v.length < 1073741823) (hTl : T.length < 1073741823) (hd : decOk 10 T = true) (hdv : decV T ≤ 9999999999) :
    ACall Tryz.prog 34 args B fun c B' => c = .tup [] ∧ B' = (B.set γ ⟨[.str sPriv, .str sPort], true⟩).set β (pz K (decV T) .nilS n (.view γ 0 2 1 false) true) ++ [⟨[.str sPort], false⟩] := by
  have ha : args = _ := ha
  subst ha
  have htr : ∀ {B : List Box} {args : List CV}, Is (omap (Go.Sy.fz true false B 6) args) (some [.str s, .str [32, 9]]) → ACall Tryz.prog 56 args B fun c B' => c = .str (c0 :: u) ∧ B' = B := fun h => by
    rw [← ht]; exact trim_at h (by omega)
  have htn : ∀ {B : List Box} {args : List CV}, Is (omap (Go.Sy.fz true false B 6) args) (some [.str sPort, .str [32, 9]]) → ACall Tryz.prog 56 args B fun c B' => c = .str sPort ∧ B' = B := fun h => by
    have := trim_at h (by decide)
    rwa [show trimT sPort = sPort by decide +kernel] at this
  have htv : ∀ {B : List Box} {args : List CV}, Is (omap (Go.Sy.fz true false B 6) args) (some [.str v, .str [32, 9]]) → ACall Tryz.prog 56 args B fun c B' => c = .str T ∧ B' = B := fun h => by
    rw [← hv]; exact trim_at h (by omega)
  have hul : (c0 :: u).length ≤ s.length := by rw [← ht]; exact trimT_le s
  have hcu : ∀ {B : List Box}, ACall Tryz.prog 41 [.str (c0 :: u), .str [61]] B fun c B' => c = .tup [.str sPort, .str v, .bool true] ∧ B' = B := by
    intro B
    have := @cutS_at B (c0 :: u) [61] (by omega)
    rwa [hcut] at this
  have hrq : ∀ {B : List Box} {args : List CV}, Is args [.ptr β 0, .bool true] → ACall Tryz.prog 57 args B fun c B' => c = .tup [] ∧ B' = B := require_at
  have hco : ∀ {B : List Box} {args : List CV}, Is (omap (Go.Sy.fz true false B 6) args) (some [.lst 1 [.str sPriv] false, .str sPort]) → ACall Tryz.prog 58 args B fun c B' => c = .bool false ∧ B' = B := fun h => containsS_at (L := [sPriv]) h rfl (by decide) (by decide)
  have hva : ∀ {B1 : List Box} {args : List CV}, Is args [.ptr β 0, .str sPort, .str T] → B1[β]? = some ⟨K.map byteC ++ [.int .i64 port, .nilS, .int .i64 n, .view γ 0 2 1 false, .bool true], false⟩ → ACall Tryz.prog 59 args B1 fun c B' => c = .tup [] ∧ B' = B1.set β ⟨K.map byteC ++ [.int .i64 (decV T), .nilS, .int .i64 n, .view γ 0 2 1 false, .bool true], false⟩ := fun h h2 => valueP_at h h2 hK hTl hd hdv
  have hic : (c0.toNat : Int) ≠ 35 := by omega
  clear ht hcut hv
  have hpz := hB
  rw [pz] at hB
  obtain ⟨p1, p2, p3, p4, p5, p6, p7, p8, p9, p10, p11, p12, p13⟩ := bx_pack hB
  obtain ⟨q1, q2, q3, q4, q5, q6, q7, q8, q9, q10, q11, q12, q13⟩ := bx_pack hγ
  obtain ⟨B2, hB2e⟩ : ∃ B2, B.set γ ⟨[.str sPriv, .str sPort], true⟩ = B2 := ⟨_, rfl⟩
  have hB2 : B2[β]? = some ⟨K.map byteC ++ [.int .i64 port, .nilS, .int .i64 n, .view γ 0 1 1 false, .bool true], false⟩ := by
    rw [← hB2e, List.getElem?_set_ne hne]; exact hB
  obtain ⟨r1, r2, r3, r4, r5, r6, r7, r8, r9, r10, r11, r12, r13⟩ := bx_pack hB2
  generalize decV T = w at *
  generalize hso : sPort = so at *
  refine acall_intro mixed Tryz.func34 rfl ca34 (by kernel_rfl) (by rw [Tryz.ntmps34]; simp) ?_
  generalize hsp : sPriv = sp at *
  rw [sIface] at hI
  rw [sPeer] at hP
  repeat' (first | (with_reducible (first | apply w_seq | apply w_region | apply w_block | apply w_skip | apply w_exit | apply w_ret | apply w_then | apply w_then_exit | apply w_then_ret | apply w_in | apply w_in_here | apply w_in_ret | apply w_round | apply o_nil | apply d_nil)) | ((with_reducible (first | apply w_in_exit)); rfl) | ((with_reducible (first | apply w_draw)); rfl) | ((first | ((with_reducible (first | apply o_op | apply d_op | apply q_op)); rfl; rfl) | ((with_reducible (first | apply w_cond | apply w_end | apply w_return))) | ((with_reducible (first | apply o_guard | apply d_guard | apply q_guard)); rfl) | ((with_reducible (first | apply o_call_eq | apply d_call | apply q_call)); rfl)); all_goals (first | ((with_reducible show Is _ _); ((try simp (disch := first | omega | (simp only [yA, yB, yC, yD, yE] <;> omega) | fail) [go_sem, yF, yG, yH, *, bx_get0, bx_get, bx_set0, bx_set, if_pos, if_neg, -List.map_take, -List.map_drop, -List.map_append, -List.map_reverse]); exact rfl)) | ((fail_if_success (with_reducible show Is _ _)); (first | ((with_reducible refine fun (hc : (_ : Bool) = _) => ?_); (try simp only [xA, xB, xC, xD, xE, xF, xG, xH, reduceCtorEq, xI, xJ, xK, xL, xM, xN, xO, xP, xQ, xR] at hc); (try (have hx : True := hc; clear hx hc)); (try (exfalso; omega)); (try (with_reducible (exact absurd hc (by assumption)))); (try (with_reducible (exact absurd (by assumption) hc)))) | ((with_reducible show ACall _ _ _ _ _); (first | ((with_reducible (first | apply htr)) <;> (first | omega | assumption | exact rfl | ((simp (disch := first | omega | (simp only [yA, yB, yC, yD, yE] <;> omega) | fail) [go_sem, yF, yG, yH, *, bx_get0, bx_get, bx_set0, bx_set, -List.map_take, -List.map_drop, -List.map_append, -List.map_reverse]) <;> (first | done | omega | exact rfl)))) | ((with_reducible (first | apply htn)) <;> (first | omega | assumption | exact rfl | ((simp (disch := first | omega | (simp only [yA, yB, yC, yD, yE] <;> omega) | fail) [go_sem, yF, yG, yH, *, bx_get0, bx_get, bx_set0, bx_set, -List.map_take, -List.map_drop, -List.map_append, -List.map_reverse]) <;> (first | done | omega | exact rfl)))) | ((with_reducible (first | apply htv)) <;> (first | omega | assumption | exact rfl | ((simp (disch := first | omega | (simp only [yA, yB, yC, yD, yE] <;> omega) | fail) [go_sem, yF, yG, yH, *, bx_get0, bx_get, bx_set0, bx_set, -List.map_take, -List.map_drop, -List.map_append, -List.map_reverse]) <;> (first | done | omega | exact rfl)))) | ((with_reducible (first | apply hcu)) <;> (first | omega | assumption | exact rfl | ((simp (disch := first | omega | (simp only [yA, yB, yC, yD, yE] <;> omega) | fail) [go_sem, yF, yG, yH, *, bx_get0, bx_get, bx_set0, bx_set, -List.map_take, -List.map_drop, -List.map_append, -List.map_reverse]) <;> (first | done | omega | exact rfl)))) | ((with_reducible (first | apply hrq)) <;> (first | omega | assumption | exact rfl | ((simp (disch := first | omega | (simp only [yA, yB, yC, yD, yE] <;> omega) | fail) [go_sem, yF, yG, yH, *, bx_get0, bx_get, bx_set0, bx_set, -List.map_take, -List.map_drop, -List.map_append, -List.map_reverse]) <;> (first | done | omega | exact rfl)))) | ((with_reducible (first | apply hco)) <;> (first | omega | assumption | exact rfl | ((simp (disch := first | omega | (simp only [yA, yB, yC, yD, yE] <;> omega) | fail) [go_sem, yF, yG, yH, *, bx_get0, bx_get, bx_set0, bx_set, -List.map_take, -List.map_drop, -List.map_append, -List.map_reverse]) <;> (first | done | omega | exact rfl)))) | ((with_reducible (first | apply hva)) <;> (first | omega | assumption | exact rfl | ((simp (disch := first | omega | (simp only [yA, yB, yC, yD, yE] <;> omega) | fail) [go_sem, yF, yG, yH, *, bx_get0, bx_get, bx_set0, bx_set, -List.map_take, -List.map_drop, -List.map_append, -List.map_reverse]) <;> (first | done | omega | exact rfl)))))) | ((fail_if_success (with_reducible show ACall _ _ _ _ _)); (try ((with_reducible show _ ∨ _); first | exact .inl rfl | (refine .inr ⟨rfl, ?_, ?_⟩; (focus (repeat (first | exact trivial | refine ⟨.inl rfl, ?_⟩ | refine ⟨.inr rfl, ?_⟩))); (first | exact trivial | exact rfl))))))))))
  refine ⟨rfl, ?_⟩
  rw [hB2e, List.set_append_left _ _ (by rw [List.length_set]; exact (List.getElem?_eq_some_iff.1 hB2).1), List.set_set]
  rfl
end Go.Proofs.YtdceppjoipoohaaGreatDoor
end
section
namespace Go.Sy
set_option linter.all false
open Go.RowKit (Below)
section
variable {P : Program} {N n : Nat} {I0 I : Nat → Nat → Prop} {μ0 μ : List (List Place)} {B : List Box} {w0 w : World} {o : Oper} {a : Act} {fr : Fr} {ops : Array Oper}
theorem AWc_defer {id : Nat} {l : List Oper} {f : Operand} {ts : Array TypeId} {ty : TypeId} {pos : String} {after : Array Edge} {Q : Exit → Fr → List Box → Prop} {ops : List Oper} (he : ops = l ++ [⟨none, .defer { callee := .value f, args := #[], argTypes := ts }, ty, pos, after, none⟩]) (n1 : l.all noDefer = true)
    (h : WPo P n ops.toArray (fun fr1 B1 => (∃ g caps, opv fr1 f = .fn (.func g) [] caps ∧ (g, caps.length) ∈ quietD) ∧ Q .normal fr1 B1) l fr B) : AWc P n (.region id ops.toArray false) Q fr B := by
  intro N I0 μ0 w0 I μ w a Q' hs hq
  refine (wpIn_wide (n := 0)).1 (wpIn_region_list (F := freeF none) ?_)
  rw [show ops.toArray.toList = l ++ [⟨none, .defer { callee := .value f, args := #[], argTypes := ts }, ty, pos, after, none⟩] by simpa using he]
  refine WPo_in [_] l fr B n1 h I μ w a hs fun fr1 B1 a1 I1 μ1 w1 hp hs1 => ?_
  obtain ⟨⟨g, caps, hf, hg⟩, hQ⟩ := hp
  have hv := opv_rel hs1.frame f
  rw [hf] at hv
  obtain ⟨vs, us, hv1, hv2, hv3⟩ := hv.fn_inv
  rw [R.nil_iff] at hv2
  subst hv2
  unfold wpListIn
  rw [want_sound (o := ⟨none, .defer { callee := .value f, args := #[], argTypes := ts }, ty, pos, after, none⟩) (t := true) hs1.frame rfl, if_pos rfl]
  refine ⟨fun _ _ => trivial, ?_⟩
  rw [show (freeF none).round = none from rfl, Oper.semAt_none]
  have hrun : (execOp a1.eval ⟨none, .defer { callee := .value f, args := #[], argTypes := ts }, ty, pos, after, none⟩).run P w1 = .ok (.defer { target := .fn (.func g) us.toArray, args := #[] }) w1 := by
    simp [execOp, resolve, hv1, Deferred.ofValue]
  rw [hrun, Oper.uponIn_defer]
  unfold wpListIn
  refine hq _ _ _ _ _ _ _ hQ ⟨hs1.size, hs1.defers.quiet ⟨g, us.toArray, rfl, ?_⟩, hs1.frame, hs1.box, hs1.ext, hs1.below⟩
  have := hv3.len
  rw [List.size_toArray, ← this]
  exact hg
theorem acall_seq2 {f : FuncId} {fn : Func} {x u v : Code} {args : List CV} {B : List Box} {Q : CV → List Box → Prop} (hm : Fit P) (hf : P.funcs[f]? = some fn) (hb : fn.body = some (.seq x (.seq u v))) (hc : callable P f = true)
    (hd : drawsOk x = true ∧ drawsOk v = true) (hn : args.length ≤ fn.ntmps) (Iv : Fr → List Box → Prop)
    (h1 : WPc P fn.ntmps x (thenC Iv fun _ _ _ => False) (frOf args) B)
    (h2 : ∀ fr B, Iv fr B → AWc P fn.ntmps u (thenC (fun fr B => WPc P fn.ntmps v (retC P fn.results.toList Q) fr B) fun _ _ _ => False) fr B) : ACall P f args B Q := by
  refine ⟨hc, fun N I μ w vs hB hv => call_intro hm.quiet hf hb hB hv hn fun a Q' hst hq => ?_⟩
  refine wp_seq (WPc_sound hm.mixed x _ _ _ hd.1 h1 N I μ w I μ w a _ hst fun ex fr1 B1 a1 I1 μ1 w1 hQ1 hs1 => ?_)
  cases ex with
  | normal =>
    refine wp_seq (h2 _ _ hQ1 N I μ w I1 μ1 w1 a1 _ hs1 fun ex fr4 B4 a4 I4 μ4 w4 hQ4 hs4 => ?_)
    cases ex with
    | normal => exact WPc_sound hm.mixed v _ _ _ hd.2 hQ4 N I μ w I4 μ4 w4 a4 _ hs4 hq
    | _ => exact hQ4.elim
  | _ => exact hQ1.elim
end
end Go.Sy
end
section
namespace Go.Proofs.YtdceppjoipoohaaGreatDoor
open Go Go.Sy
set_option linter.all false
set_option maxRecDepth 100000
set_option maxHeartbeats 4000000
open Go.RowKit (Below)
theorem close_at {B : List Box} {args : List CV} {β γ : Nat} {K : List UInt8} {port n : Int} {m : Bool} (ha : Is args [.ptr β 0]) (hB : B[β]? = some (pz K port .nilS n (.view γ 0 2 1 false) true)) (hγ : B[γ]? = some ⟨[.str sPriv, .str sPort], m⟩) (hK : K.length = 32) : ACall Tryz.prog 35 args B fun c B' => c = .tup [] ∧ B' = B.set β (pz K port .nilS n .nilS true) := by
  have ha : args = _ := ha
  subst ha
  have h1 : ∀ {B : List Box} {args : List CV}, Is (omap (Go.Sy.fz true false B 6) args) (some [.lst 2 [.str sPriv, .str sPort] false, .str sPriv]) → ACall Tryz.prog 58 args B fun c B' => c = .bool true ∧ B' = B := fun h => containsS_at (L := [sPriv, sPort]) h rfl (by decide) (by decide)
  have h2 : ∀ {B : List Box} {args : List CV}, Is (omap (Go.Sy.fz true false B 6) args) (some [.lst 2 [.str sPriv, .str sPort] false, .str sPort]) → ACall Tryz.prog 58 args B fun c B' => c = .bool true ∧ B' = B := fun h => containsS_at (L := [sPriv, sPort]) h rfl (by decide) (by decide)
  have hrq : ∀ {B : List Box} {args : List CV}, Is args [.ptr β 0, .bool true] → ACall Tryz.prog 57 args B fun c B' => c = .tup [] ∧ B' = B := require_at
  rw [pz] at hB
  obtain ⟨p1, p2, p3, p4, p5, p6, p7, p8, p9, p10, p11, p12, p13⟩ := bx_pack hB
  obtain ⟨q1, q2, q3, q4, q5, q6, q7, q8, q9, q10, q11, q12, q13⟩ := bx_pack hγ
  rw [sPriv, sPort] at h1 h2
  rw [sPriv, sPort] at *
  refine acall_intro mixed Tryz.func35 rfl ca35 (by kernel_rfl) (by rw [Tryz.ntmps35]; simp) ?_
  repeat' (first | (with_reducible (first | apply w_seq | apply w_region | apply w_block | apply w_skip | apply w_exit | apply w_ret | apply w_then | apply w_then_exit | apply w_then_ret | apply w_in | apply w_in_here | apply w_in_ret | apply w_round | apply o_nil | apply d_nil)) | ((with_reducible (first | apply w_in_exit)); rfl) | ((with_reducible (first | apply w_draw)); rfl) | ((first | ((with_reducible (first | apply o_op | apply d_op | apply q_op)); rfl; rfl) | ((with_reducible (first | apply w_cond | apply w_end | apply w_return))) | ((with_reducible (first | apply o_guard | apply d_guard | apply q_guard)); rfl) | ((with_reducible (first | apply o_call_eq | apply d_call | apply q_call)); rfl)); all_goals (first | ((with_reducible show Is _ _); ((try simp (disch := first | omega | (simp only [yA, yB, yC, yD, yE] <;> omega) | fail) [go_sem, yF, yG, yH, *, bx_get0, bx_get, bx_set0, bx_set, if_pos, if_neg, -List.map_take, -List.map_drop, -List.map_append, -List.map_reverse]); exact rfl)) | ((fail_if_success (with_reducible show Is _ _)); (first | ((with_reducible refine fun (hc : (_ : Bool) = _) => ?_); (try simp only [xA, xB, xC, xD, xE, xF, xG, xH, reduceCtorEq, xI, xJ, xK, xL, xM, xN, xO, xP, xQ, xR] at hc); (try (have hx : True := hc; clear hx hc)); (try (exfalso; omega)); (try (with_reducible (exact absurd hc (by assumption)))); (try (with_reducible (exact absurd (by assumption) hc)))) | ((with_reducible show ACall _ _ _ _ _); (first | ((with_reducible (first | apply h1)) <;> (first | omega | assumption | exact rfl | ((simp (disch := first | omega | (simp only [yA, yB, yC, yD, yE] <;> omega) | fail) [go_sem, yF, yG, yH, *, bx_get0, bx_get, bx_set0, bx_set, -List.map_take, -List.map_drop, -List.map_append, -List.map_reverse]) <;> (first | done | omega | exact rfl)))) | ((with_reducible (first | apply h2)) <;> (first | omega | assumption | exact rfl | ((simp (disch := first | omega | (simp only [yA, yB, yC, yD, yE] <;> omega) | fail) [go_sem, yF, yG, yH, *, bx_get0, bx_get, bx_set0, bx_set, -List.map_take, -List.map_drop, -List.map_append, -List.map_reverse]) <;> (first | done | omega | exact rfl)))) | ((with_reducible (first | apply hrq)) <;> (first | omega | assumption | exact rfl | ((simp (disch := first | omega | (simp only [yA, yB, yC, yD, yE] <;> omega) | fail) [go_sem, yF, yG, yH, *, bx_get0, bx_get, bx_set0, bx_set, -List.map_take, -List.map_drop, -List.map_append, -List.map_reverse]) <;> (first | done | omega | exact rfl)))))) | ((fail_if_success (with_reducible show ACall _ _ _ _ _)); (try ((with_reducible show _ ∨ _); first | exact .inl rfl | (refine .inr ⟨rfl, ?_, ?_⟩; (focus (repeat (first | exact trivial | refine ⟨.inl rfl, ?_⟩ | refine ⟨.inr rfl, ?_⟩))); (first | exact trivial | exact rfl))))))))))
  exact ⟨rfl, rfl⟩
theorem trimSuffix_at {B : List Box} {s t : List UInt8} (h : s.length ≤ 4611686018427387904) : ACall Tryz.prog 55 [.str s, .str t] B fun c B' => c = .str (Go.Lib.trimSuffix s t) ∧ B' = B :=
  acall_of_calls (Q := fun c => c = .str (Go.Lib.trimSuffix s t)) (by kernel_rfl) fun I μ w vs ht hI hv => by
    obtain ⟨ws, rfl, hv2⟩ := R.str_cons hv
    obtain ⟨ws, rfl, hv3⟩ := R.str_cons hv2
    obtain rfl := R.none hv3
    refine (Tryz.strings_TrimSuffix ⟨s.toArray⟩ ⟨t.toArray⟩ w (by show s.length ≤ _; omega)).mono fun e w' ⟨he, hw⟩ => ?_
    subst hw
    exact ⟨_, _, he, by simp, Below.same, .str _ (.nil _)⟩
theorem lines_in (s : List UInt8) (h0 : s ≠ []) (hs : s.length < 1000000000) (ht : Go.Lib.trimSuffix s [10] = s) : PC Tryz.prog false 33 [.str s] (.lst (splitL 10 s).length ((splitL 10 s).map .str) false) := by
  have h1 : ∀ {B : List Box}, ACall Tryz.prog 55 [.str s, .str [10]] B fun c B' => c = .str s ∧ B' = B := by
    intro B
    have := @trimSuffix_at B s [10] (by omega)
    rwa [ht] at this
  have h2 : ∀ {B : List Box}, ACall Tryz.prog 54 [.str s, .str [10]] B fun c B' => c = .lst (splitL 10 s).length ((splitL 10 s).map .str) true ∧ B' = B := split_at (b := 10) (by omega)
  have hse : (s == []) = false := by simpa using h0
  have ho := @omap_strs
  generalize splitL 10 s = L at *
  refine acall_intro mixed Tryz.func33 rfl ca33 (by kernel_rfl) (by rw [Tryz.ntmps33]; simp) ?_
  repeat' (first | (with_reducible (first | apply w_seq | apply w_region | apply w_block | apply w_skip | apply w_exit | apply w_ret | apply w_then | apply w_then_exit | apply w_then_ret | apply w_in | apply w_in_here | apply w_in_ret | apply w_round | apply o_nil | apply d_nil)) | ((with_reducible (first | apply w_in_exit)); rfl) | ((with_reducible (first | apply w_draw)); rfl) | ((first | ((with_reducible (first | apply o_op | apply d_op | apply q_op)); rfl; rfl) | ((with_reducible (first | apply w_cond | apply w_end | apply w_return))) | ((with_reducible (first | apply o_guard | apply d_guard | apply q_guard)); rfl) | ((with_reducible (first | apply o_call_eq | apply d_call | apply q_call)); rfl)); all_goals (first | ((with_reducible show Is _ _); ((try simp (disch := first | omega | (simp only [yA, yB, yC, yD, yE] <;> omega) | fail) [go_sem, yF, yG, yH, *, omap_strs, if_pos, if_neg, -List.map_take, -List.map_drop, -List.map_append, -List.map_reverse]); exact rfl)) | ((fail_if_success (with_reducible show Is _ _)); (first | ((with_reducible refine fun (hc : (_ : Bool) = _) => ?_); (try simp only [xA, xB, xC, xD, xE, xF, xG, xH, reduceCtorEq, xI, xJ, xK, xL, xM, xN, xO, xP, xQ, xR] at hc); (try (have hx : True := hc; clear hx hc)); (try (exfalso; omega)); (try (with_reducible (exact absurd hc (by assumption)))); (try (with_reducible (exact absurd (by assumption) hc)))) | ((with_reducible show ACall _ _ _ _ _); (first | ((with_reducible (first | apply h1)) <;> (first | omega | assumption | exact rfl | ((simp (disch := first | omega | (simp only [yA, yB, yC, yD, yE] <;> omega) | fail) [go_sem, yF, yG, yH, *, omap_strs, -List.map_take, -List.map_drop, -List.map_append, -List.map_reverse]) <;> (first | done | omega | exact rfl)))) | ((with_reducible (first | apply h2)) <;> (first | omega | assumption | exact rfl | ((simp (disch := first | omega | (simp only [yA, yB, yC, yD, yE] <;> omega) | fail) [go_sem, yF, yG, yH, *, omap_strs, -List.map_take, -List.map_drop, -List.map_append, -List.map_reverse]) <;> (first | done | omega | exact rfl)))))) | ((fail_if_success (with_reducible show ACall _ _ _ _ _)); (try ((with_reducible show _ ∨ _); first | exact .inl rfl | (refine .inr ⟨rfl, ?_, ?_⟩; (focus (repeat (first | exact trivial | refine ⟨.inl rfl, ?_⟩ | refine ⟨.inr rfl, ?_⟩))); (first | exact trivial | exact rfl))))))))))
  (simp (disch := omega) [go_sem, *, omap_strs]) <;> (try omega)
theorem lines_at {B : List Box} {args : List CV} {s : List UInt8} (hz : Is (omap (Go.Sy.fz true false [] 6) args) (some [.str s])) (h0 : s ≠ []) (hs : s.length < 1000000000) (ht : Go.Lib.trimSuffix s [10] = s) : ACall Tryz.prog 33 args B fun c B' => c = .lst (splitL 10 s).length ((splitL 10 s).map .str) false ∧ B' = B := acall_imm hz (lines_in s h0 hs ht)
end Go.Proofs.YtdceppjoipoohaaGreatDoor
end
section
namespace Go.Proofs.YtdceppjoipoohaaGreatDoor
open Go Go.Sy
set_option linter.all false
set_option maxRecDepth 100000
set_option maxHeartbeats 4000000
def z32 : List UInt8 := List.replicate 32 0
def cfgC (K : List UInt8) (port : Int) (pe : CV) : CV := .agg (K.map byteC ++ [.int .i64 port, pe])
theorem parse4_in (s l0 l1 l2 l3 T K r : List UInt8) (hK : K.length = 32) (hs : s.length < 1000000) (h0 : s ≠ []) (hts : Go.Lib.trimSuffix s [10] = s) (hsp : splitL 10 s = [l0, l1, l2, l3])
    (hr0 : ∀ {B : List Box} {n : Int}, B[3]? = some (pz z32 0 .nilS n .nilS false) → ACall Tryz.prog 34 [.ptr 3 0, .str l0] B fun c B' => c = .tup [] ∧ B' = B.set 3 (pz z32 0 .nilS n .nilS true))
    (hr1 : ∀ {B : List Box} {n : Int}, B[3]? = some (pz z32 0 .nilS n .nilS true) → ACall Tryz.prog 34 [.ptr 3 0, .str l1] B fun c B' => c = .tup [] ∧ B' = B.set 3 (pz K 0 .nilS n (.view (B.length + 1) 0 1 1 false) true) ++ [⟨[.str sPriv], false⟩, ⟨[.str sPriv], false⟩, ⟨K.map byteC, false⟩, ⟨K.map byteC, false⟩])
    (hr2 : ∀ {B : List Box} {n : Int} {γ : Nat} {m : Bool}, B[3]? = some (pz K 0 .nilS n (.view γ 0 1 1 false) true) → B[γ]? = some ⟨[.str sPriv], m⟩ → γ ≠ 3 → ACall Tryz.prog 34 [.ptr 3 0, .str l2] B fun c B' => c = .tup [] ∧ B' = (B.set γ ⟨[.str sPriv, .str sPort], true⟩).set 3 (pz K 1 .nilS n (.view γ 0 2 1 false) true) ++ [⟨[.str sPort], false⟩])
    (hr3 : ∀ {B : List Box}, ACall Tryz.prog 34 [.ptr 3 0, .str l3] B fun c B' => c = .tup [] ∧ B' = B) :
    PC Tryz.prog false 12 [.str s] (.tup [cfgC K 1 (.lst 0 [] false), .int .i64 0, .bool true]) := by
  have hli : ∀ {B : List Box} {args : List CV}, Is (omap (Go.Sy.fz true false [] 6) args) (some [.str s]) → ACall Tryz.prog 33 args B fun c B' => c = .lst 4 [.str l0, .str l1, .str l2, .str l3] false ∧ B' = B := fun {B args} h => by
    have := lines_at (B := B) h h0 (by omega) hts
    rw [hsp] at this
    exact this
  have k0 : ∀ {B : List Box} {args : List CV}, Is args [.ptr 3 0, .str l0] → B[3]? = some ⟨z32.map byteC ++ [.int .i64 0, .nilS, .int .i64 1, .nilS, .bool false], false⟩ → ACall Tryz.prog 34 args B fun c B' => c = .tup [] ∧ B' = B.set 3 ⟨z32.map byteC ++ [.int .i64 0, .nilS, .int .i64 1, .nilS, .bool true], false⟩ := fun {B args} h h2 => by
    have h : args = _ := h
    subst h
    exact hr0 h2
  have k1 : ∀ {B : List Box} {args : List CV}, Is args [.ptr 3 0, .str l1] → B[3]? = some ⟨z32.map byteC ++ [.int .i64 0, .nilS, .int .i64 2, .nilS, .bool true], false⟩ → ACall Tryz.prog 34 args B fun c B' => c = .tup [] ∧ B' = B.set 3 ⟨K.map byteC ++ [.int .i64 0, .nilS, .int .i64 2, .view (B.length + 1) 0 1 1 false, .bool true], false⟩ ++ [⟨[.str sPriv], false⟩, ⟨[.str sPriv], false⟩, ⟨K.map byteC, false⟩, ⟨K.map byteC, false⟩] := fun {B args} h h2 => by
    have h : args = _ := h
    subst h
    exact hr1 h2
  have k2 : ∀ {B : List Box} {args : List CV}, Is args [.ptr 3 0, .str l2] → B[3]? = some ⟨K.map byteC ++ [.int .i64 0, .nilS, .int .i64 3, .view 5 0 1 1 false, .bool true], false⟩ → B[5]? = some ⟨[.str sPriv], false⟩ → ACall Tryz.prog 34 args B fun c B' => c = .tup [] ∧ B' = (B.set 5 ⟨[.str sPriv, .str sPort], true⟩).set 3 ⟨K.map byteC ++ [.int .i64 1, .nilS, .int .i64 3, .view 5 0 2 1 false, .bool true], false⟩ ++ [⟨[.str sPort], false⟩] := fun {B args} h h2 h3 => by
    have h : args = _ := h
    subst h
    exact hr2 h2 h3 (by decide)
  have k3 : ∀ {B : List Box} {args : List CV}, Is args [.ptr 3 0, .str l3] → ACall Tryz.prog 34 args B fun c B' => c = .tup [] ∧ B' = B := fun {B args} h => by
    have h : args = _ := h
    subst h
    exact hr3
  have hcl : ∀ {B : List Box} {args : List CV}, Is args [.ptr 3 0] → B[3]? = some ⟨K.map byteC ++ [.int .i64 1, .nilS, .int .i64 5, .view 5 0 2 1 false, .bool true], false⟩ → B[5]? = some ⟨[.str sPriv, .str sPort], true⟩ → ACall Tryz.prog 35 args B fun c B' => c = .tup [] ∧ B' = B.set 3 ⟨K.map byteC ++ [.int .i64 1, .nilS, .int .i64 5, .nilS, .bool true], false⟩ := fun h h2 h3 => close_at h h2 h3 hK
  clear hr0 hr1 hr2 hr3 hsp
  have hzl : z32.length = 32 := rfl
  refine acall_seq2 mixed Tryz.func12 rfl ca12 ⟨rfl, by kernel_rfl⟩ (by rw [Tryz.ntmps12]; simp) (fun fr B => fr 0 = .str s ∧ fr 2 = .ptr 0 0 ∧ fr 3 = .ptr 1 0 ∧ fr 4 = .ptr 2 0 ∧ B = [⟨z32.map byteC ++ [.int .i64 0, .nilS], false⟩, ⟨[.int .i64 0], false⟩, ⟨[.bool false], false⟩]) ?_ ?_
  · repeat' (first | (with_reducible (first | apply w_seq | apply w_region | apply w_block | apply w_skip | apply w_exit | apply w_ret | apply w_then | apply w_then_exit | apply w_then_ret | apply w_in | apply w_in_here | apply w_in_ret | apply w_round | apply o_nil | apply d_nil)) | ((with_reducible (first | apply w_in_exit)); rfl) | ((with_reducible (first | apply w_draw)); rfl) | ((first | ((with_reducible (first | apply o_op | apply d_op | apply q_op)); rfl; rfl) | ((with_reducible (first | apply w_cond | apply w_end | apply w_return))) | ((with_reducible (first | apply o_guard | apply d_guard | apply q_guard)); rfl)); all_goals (first | ((with_reducible show Is _ _); ((try simp (disch := first | omega | (simp only [yA, yB, yC, yD, yE] <;> omega) | fail) [go_sem, yF, yG, yH, *, if_pos, if_neg, -List.map_take, -List.map_drop, -List.map_append, -List.map_reverse]); exact rfl)) | ((fail_if_success (with_reducible show Is _ _)); (first | ((with_reducible refine fun (hc : (_ : Bool) = _) => ?_); (try simp only [xA, xB, xC, xD, xE, xF, xG, xH, reduceCtorEq, xI, xJ, xK, xL, xM, xN, xO, xP, xQ, xR] at hc); (try (have hx : True := hc; clear hx hc)); (try (exfalso; omega)); (try (with_reducible (exact absurd hc (by assumption)))); (try (with_reducible (exact absurd (by assumption) hc)))) | ((fail_if_success (with_reducible show ACall _ _ _ _ _)); (try ((with_reducible show _ ∨ _); first | exact .inl rfl | (refine .inr ⟨rfl, ?_, ?_⟩; (focus (repeat (first | exact trivial | refine ⟨.inl rfl, ?_⟩ | refine ⟨.inr rfl, ?_⟩))); (first | exact trivial | exact rfl))))))))))
    exact ⟨by (simp (disch := omega) [go_sem, *]) <;> (try omega), by (simp (disch := omega) [go_sem, *]) <;> (try omega), by (simp (disch := omega) [go_sem, *]) <;> (try omega), by (simp (disch := omega) [go_sem, *]) <;> (try omega), rfl⟩
  rintro fr B ⟨f0, f2, f3, f4, rfl⟩
  have e37 : ([.int .u8 0, .int .u8 0, .int .u8 0, .int .u8 0, .int .u8 0, .int .u8 0, .int .u8 0, .int .u8 0, .int .u8 0, .int .u8 0, .int .u8 0, .int .u8 0, .int .u8 0, .int .u8 0, .int .u8 0, .int .u8 0, .int .u8 0, .int .u8 0, .int .u8 0, .int .u8 0, .int .u8 0, .int .u8 0, .int .u8 0, .int .u8 0, .int .u8 0, .int .u8 0, .int .u8 0, .int .u8 0, .int .u8 0, .int .u8 0, .int .u8 0, .int .u8 0, .int .i64 0, .nilS, .int .i64 0, .nilS, .bool false] : List CV) = z32.map byteC ++ [.int .i64 0, .nilS, .int .i64 0, .nilS, .bool false] := rfl
  refine AWc_defer (l := [_]) rfl rfl ?_
  repeat' (first | (with_reducible (first | apply w_seq | apply w_region | apply w_block | apply w_skip | apply w_exit | apply w_ret | apply w_then | apply w_then_exit | apply w_then_ret | apply w_in | apply w_in_here | apply w_in_ret | apply w_round | apply o_nil | apply d_nil)) | ((with_reducible (first | apply w_in_exit)); rfl) | ((with_reducible (first | apply w_draw)); rfl) | ((first | ((with_reducible (first | apply o_op | apply d_op | apply q_op)); rfl; rfl) | ((with_reducible (first | apply w_cond | apply w_end | apply w_return))) | ((with_reducible (first | apply o_guard | apply d_guard | apply q_guard)); rfl) | ((with_reducible (first | apply o_call_eq | apply d_call | apply q_call)); rfl)); all_goals (first | ((with_reducible show Is _ _); ((try simp (disch := first | omega | (simp only [yA, yB, yC, yD, yE] <;> omega) | fail) [go_sem, yF, yG, yH, *, if_pos, if_neg, -List.map_take, -List.map_drop, -List.map_append, -List.map_reverse]); exact rfl)) | ((fail_if_success (with_reducible show Is _ _)); (first | ((with_reducible refine fun (hc : (_ : Bool) = _) => ?_); (try simp only [xA, xB, xC, xD, xE, xF, xG, xH, reduceCtorEq, xI, xJ, xK, xL, xM, xN, xO, xP, xQ, xR] at hc); (try (have hx : True := hc; clear hx hc)); (try (exfalso; omega)); (try (with_reducible (exact absurd hc (by assumption)))); (try (with_reducible (exact absurd (by assumption) hc)))) | ((with_reducible show ACall _ _ _ _ _); (first | ((with_reducible (first | apply hli)) <;> (first | omega | assumption | exact rfl | ((simp (disch := first | omega | (simp only [yA, yB, yC, yD, yE] <;> omega) | fail) [go_sem, yF, yG, yH, *, -List.map_take, -List.map_drop, -List.map_append, -List.map_reverse]) <;> (first | done | omega | exact rfl)))))) | ((fail_if_success (with_reducible show ACall _ _ _ _ _)); (try ((with_reducible show _ ∨ _); first | exact .inl rfl | (refine .inr ⟨rfl, ?_, ?_⟩; (focus (repeat (first | exact trivial | refine ⟨.inl rfl, ?_⟩ | refine ⟨.inr rfl, ?_⟩))); (first | exact trivial | exact rfl))))))))))
  refine ⟨⟨32, [.ptr 0 0, .ptr 1 0, .ptr 2 0], by (simp (disch := omega) [go_sem, *]) <;> (try omega), by decide⟩, ?_⟩
  show thenC _ _ _ _ _
  show WPc _ _ _ _ _ _
  generalize z32 = Z at *
  repeat' (first | (with_reducible (first | apply w_seq | apply w_region | apply w_block | apply w_skip | apply w_exit | apply w_ret | apply w_then | apply w_then_exit | apply w_then_ret | apply w_in | apply w_in_here | apply w_in_ret | apply w_round | apply o_nil | apply d_nil)) | ((with_reducible (first | apply w_in_exit)); rfl) | ((with_reducible (first | apply w_draw)); rfl) | ((first | ((with_reducible (first | apply o_op | apply d_op | apply q_op)); rfl; rfl) | ((with_reducible (first | apply w_cond | apply w_end | apply w_return))) | ((with_reducible (first | apply o_guard | apply d_guard | apply q_guard)); rfl) | ((with_reducible (first | apply o_call_eq | apply d_call | apply q_call)); rfl)); all_goals (first | ((with_reducible show Is _ _); ((try simp (disch := first | omega | (simp only [yA, yB, yC, yD, yE] <;> omega) | fail) [go_sem, yF, yG, yH, *, if_pos, if_neg, -List.map_take, -List.map_drop, -List.map_append, -List.map_reverse]); exact rfl)) | ((fail_if_success (with_reducible show Is _ _)); (first | ((with_reducible refine fun (hc : (_ : Bool) = _) => ?_); (try simp only [xA, xB, xC, xD, xE, xF, xG, xH, reduceCtorEq, xI, xJ, xK, xL, xM, xN, xO, xP, xQ, xR] at hc); (try (have hx : True := hc; clear hx hc)); (try (exfalso; omega)); (try (with_reducible (exact absurd hc (by assumption)))); (try (with_reducible (exact absurd (by assumption) hc)))) | ((with_reducible show ACall _ _ _ _ _); (first | ((with_reducible (first | apply hli)) <;> (first | omega | assumption | exact rfl | ((simp (disch := first | omega | (simp only [yA, yB, yC, yD, yE] <;> omega) | fail) [go_sem, yF, yG, yH, *, -List.map_take, -List.map_drop, -List.map_append, -List.map_reverse]) <;> (first | done | omega | exact rfl)))))) | ((fail_if_success (with_reducible show ACall _ _ _ _ _)); (try ((with_reducible show _ ∨ _); first | exact .inl rfl | (refine .inr ⟨rfl, ?_, ?_⟩; (focus (repeat (first | exact trivial | refine ⟨.inl rfl, ?_⟩ | refine ⟨.inr rfl, ?_⟩))); (first | exact trivial | exact rfl))))))))))
  have hlL : ([CV.str l0, .str l1, .str l2, .str l3] : List CV).length = 4 := rfl
  refine w_loop (fun fr B' => ∃ (j : Nat) (X : CV) (G : List Box), fr 14 = .int .i64 j ∧ fr 13 = .int .i64 4 ∧ fr 12 = .lst 4 [.str l0, .str l1, .str l2, .str l3] false ∧ fr 5 = .ptr 3 0 ∧ fr 2 = .ptr 0 0 ∧ fr 3 = .ptr 1 0 ∧ fr 4 = .ptr 2 0 ∧
    B' = [⟨Z.map byteC ++ [.int .i64 0, .nilS], false⟩, ⟨[.int .i64 0], false⟩, ⟨[.bool false], false⟩] ++ G ∧
    ((j = 0 ∧ G = [⟨Z.map byteC ++ [.int .i64 0, .nilS, .int .i64 0, .nilS, .bool false], false⟩]) ∨ (j = 1 ∧ G = [⟨Z.map byteC ++ [.int .i64 0, .nilS, .int .i64 1, .nilS, .bool true], false⟩]) ∨
     (j = 2 ∧ G = [⟨K.map byteC ++ [.int .i64 0, .nilS, .int .i64 2, .view 5 0 1 1 false, .bool true], false⟩, ⟨[.str sPriv], false⟩, ⟨[.str sPriv], false⟩, ⟨K.map byteC, false⟩, ⟨K.map byteC, false⟩]) ∨
     (j = 3 ∧ G = [⟨K.map byteC ++ [.int .i64 1, .nilS, .int .i64 3, .view 5 0 2 1 false, .bool true], false⟩, ⟨[.str sPriv], false⟩, ⟨[.str sPriv, .str sPort], true⟩, ⟨K.map byteC, false⟩, ⟨K.map byteC, false⟩, ⟨[.str sPort], false⟩]) ∨
     (j = 4 ∧ G = [⟨K.map byteC ++ [.int .i64 1, .nilS, .int .i64 4, .view 5 0 2 1 false, .bool true], false⟩, ⟨[.str sPriv], false⟩, ⟨[.str sPriv, .str sPort], true⟩, ⟨K.map byteC, false⟩, ⟨K.map byteC, false⟩, ⟨[.str sPort], false⟩]))) (fun fr _ => 4 - natOf (fr 14)) ?_ ?_
  · exact ⟨0, .nilS, _, by (simp (disch := omega) [go_sem, *]) <;> (try omega), by (simp (disch := omega) [go_sem, *]) <;> (try omega), by (simp (disch := omega) [go_sem, *]) <;> (try omega), by (simp (disch := omega) [go_sem, *]) <;> (try omega), by (simp (disch := omega) [go_sem, *]) <;> (try omega), by (simp (disch := omega) [go_sem, *]) <;> (try omega), by (simp (disch := omega) [go_sem, *]) <;> (try omega), rfl, .inl ⟨rfl, rfl⟩⟩
  clear f0 f2 f3 f4 hli e37
  rintro fr B ⟨j, X, G, f14, f13, f12, f5, f2, f3, f4, rfl, h⟩
  rcases h with ⟨rfl, rfl⟩ | ⟨rfl, rfl⟩ | ⟨rfl, rfl⟩ | ⟨rfl, rfl⟩ | ⟨rfl, rfl⟩
  · repeat' (first | (with_reducible (first | apply w_seq | apply w_region | apply w_block | apply w_skip | apply w_exit | apply w_ret | apply w_then | apply w_then_exit | apply w_then_ret | apply w_in | apply w_in_here | apply w_in_ret | apply w_round | apply o_nil | apply d_nil)) | ((with_reducible (first | apply w_in_exit)); rfl) | ((with_reducible (first | apply w_draw)); rfl) | ((first | ((with_reducible (first | apply o_op | apply d_op | apply q_op)); rfl; rfl) | ((with_reducible (first | apply w_cond | apply w_end | apply w_return))) | ((with_reducible (first | apply o_guard | apply d_guard | apply q_guard)); rfl) | ((with_reducible (first | apply o_call_eq | apply d_call | apply q_call)); rfl)); all_goals (first | ((with_reducible show Is _ _); ((try simp (disch := first | omega | (simp only [yA, yB, yC, yD, yE] <;> omega) | fail) [go_sem, yF, yG, yH, *, if_pos, if_neg, -List.map_take, -List.map_drop, -List.map_append, -List.map_reverse]); exact rfl)) | ((fail_if_success (with_reducible show Is _ _)); (first | ((with_reducible refine fun (hc : (_ : Bool) = _) => ?_); (try simp only [xA, xB, xC, xD, xE, xF, xG, xH, reduceCtorEq, xI, xJ, xK, xL, xM, xN, xO, xP, xQ, xR] at hc); (try (have hx : True := hc; clear hx hc)); (try (exfalso; omega)); (try (with_reducible (exact absurd hc (by assumption)))); (try (with_reducible (exact absurd (by assumption) hc)))) | ((with_reducible show ACall _ _ _ _ _); (first | ((with_reducible (first | apply k0)) <;> (first | omega | assumption | exact rfl | ((simp (disch := first | omega | (simp only [yA, yB, yC, yD, yE] <;> omega) | fail) [go_sem, yF, yG, yH, *, -List.map_take, -List.map_drop, -List.map_append, -List.map_reverse]) <;> (first | done | omega | exact rfl)))))) | ((fail_if_success (with_reducible show ACall _ _ _ _ _)); (try ((with_reducible show _ ∨ _); first | exact .inl rfl | (refine .inr ⟨rfl, ?_, ?_⟩; (focus (repeat (first | exact trivial | refine ⟨.inl rfl, ?_⟩ | refine ⟨.inr rfl, ?_⟩))); (first | exact trivial | exact rfl))))))))))
    exact ⟨⟨1, .nilS, _, by (simp (disch := omega) [go_sem, *]) <;> (try omega), by (simp (disch := omega) [go_sem, *]) <;> (try omega), by (simp (disch := omega) [go_sem, *]) <;> (try omega), by (simp (disch := omega) [go_sem, *]) <;> (try omega), by (simp (disch := omega) [go_sem, *]) <;> (try omega), by (simp (disch := omega) [go_sem, *]) <;> (try omega), by (simp (disch := omega) [go_sem, *]) <;> (try omega), rfl, .inr (.inl ⟨rfl, rfl⟩)⟩, by (simp (disch := omega) [go_sem, *]) <;> (try omega)⟩
  · repeat' (first | (with_reducible (first | apply w_seq | apply w_region | apply w_block | apply w_skip | apply w_exit | apply w_ret | apply w_then | apply w_then_exit | apply w_then_ret | apply w_in | apply w_in_here | apply w_in_ret | apply w_round | apply o_nil | apply d_nil)) | ((with_reducible (first | apply w_in_exit)); rfl) | ((with_reducible (first | apply w_draw)); rfl) | ((first | ((with_reducible (first | apply o_op | apply d_op | apply q_op)); rfl; rfl) | ((with_reducible (first | apply w_cond | apply w_end | apply w_return))) | ((with_reducible (first | apply o_guard | apply d_guard | apply q_guard)); rfl) | ((with_reducible (first | apply o_call_eq | apply d_call | apply q_call)); rfl)); all_goals (first | ((with_reducible show Is _ _); ((try simp (disch := first | omega | (simp only [yA, yB, yC, yD, yE] <;> omega) | fail) [go_sem, yF, yG, yH, *, if_pos, if_neg, -List.map_take, -List.map_drop, -List.map_append, -List.map_reverse]); exact rfl)) | ((fail_if_success (with_reducible show Is _ _)); (first | ((with_reducible refine fun (hc : (_ : Bool) = _) => ?_); (try simp only [xA, xB, xC, xD, xE, xF, xG, xH, reduceCtorEq, xI, xJ, xK, xL, xM, xN, xO, xP, xQ, xR] at hc); (try (have hx : True := hc; clear hx hc)); (try (exfalso; omega)); (try (with_reducible (exact absurd hc (by assumption)))); (try (with_reducible (exact absurd (by assumption) hc)))) | ((with_reducible show ACall _ _ _ _ _); (first | ((with_reducible (first | apply k1)) <;> (first | omega | assumption | exact rfl | ((simp (disch := first | omega | (simp only [yA, yB, yC, yD, yE] <;> omega) | fail) [go_sem, yF, yG, yH, *, -List.map_take, -List.map_drop, -List.map_append, -List.map_reverse]) <;> (first | done | omega | exact rfl)))))) | ((fail_if_success (with_reducible show ACall _ _ _ _ _)); (try ((with_reducible show _ ∨ _); first | exact .inl rfl | (refine .inr ⟨rfl, ?_, ?_⟩; (focus (repeat (first | exact trivial | refine ⟨.inl rfl, ?_⟩ | refine ⟨.inr rfl, ?_⟩))); (first | exact trivial | exact rfl))))))))))
    exact ⟨⟨2, .nilS, _, by (simp (disch := omega) [go_sem, *]) <;> (try omega), by (simp (disch := omega) [go_sem, *]) <;> (try omega), by (simp (disch := omega) [go_sem, *]) <;> (try omega), by (simp (disch := omega) [go_sem, *]) <;> (try omega), by (simp (disch := omega) [go_sem, *]) <;> (try omega), by (simp (disch := omega) [go_sem, *]) <;> (try omega), by (simp (disch := omega) [go_sem, *]) <;> (try omega), rfl, .inr (.inr (.inl ⟨rfl, rfl⟩))⟩, by (simp (disch := omega) [go_sem, *]) <;> (try omega)⟩
  · repeat' (first | (with_reducible (first | apply w_seq | apply w_region | apply w_block | apply w_skip | apply w_exit | apply w_ret | apply w_then | apply w_then_exit | apply w_then_ret | apply w_in | apply w_in_here | apply w_in_ret | apply w_round | apply o_nil | apply d_nil)) | ((with_reducible (first | apply w_in_exit)); rfl) | ((with_reducible (first | apply w_draw)); rfl) | ((first | ((with_reducible (first | apply o_op | apply d_op | apply q_op)); rfl; rfl) | ((with_reducible (first | apply w_cond | apply w_end | apply w_return))) | ((with_reducible (first | apply o_guard | apply d_guard | apply q_guard)); rfl) | ((with_reducible (first | apply o_call_eq | apply d_call | apply q_call)); rfl)); all_goals (first | ((with_reducible show Is _ _); ((try simp (disch := first | omega | (simp only [yA, yB, yC, yD, yE] <;> omega) | fail) [go_sem, yF, yG, yH, *, if_pos, if_neg, -List.map_take, -List.map_drop, -List.map_append, -List.map_reverse]); exact rfl)) | ((fail_if_success (with_reducible show Is _ _)); (first | ((with_reducible refine fun (hc : (_ : Bool) = _) => ?_); (try simp only [xA, xB, xC, xD, xE, xF, xG, xH, reduceCtorEq, xI, xJ, xK, xL, xM, xN, xO, xP, xQ, xR] at hc); (try (have hx : True := hc; clear hx hc)); (try (exfalso; omega)); (try (with_reducible (exact absurd hc (by assumption)))); (try (with_reducible (exact absurd (by assumption) hc)))) | ((with_reducible show ACall _ _ _ _ _); (first | ((with_reducible (first | apply k2)) <;> (first | omega | assumption | exact rfl | ((simp (disch := first | omega | (simp only [yA, yB, yC, yD, yE] <;> omega) | fail) [go_sem, yF, yG, yH, *, -List.map_take, -List.map_drop, -List.map_append, -List.map_reverse]) <;> (first | done | omega | exact rfl)))))) | ((fail_if_success (with_reducible show ACall _ _ _ _ _)); (try ((with_reducible show _ ∨ _); first | exact .inl rfl | (refine .inr ⟨rfl, ?_, ?_⟩; (focus (repeat (first | exact trivial | refine ⟨.inl rfl, ?_⟩ | refine ⟨.inr rfl, ?_⟩))); (first | exact trivial | exact rfl))))))))))
    exact ⟨⟨3, .nilS, _, by (simp (disch := omega) [go_sem, *]) <;> (try omega), by (simp (disch := omega) [go_sem, *]) <;> (try omega), by (simp (disch := omega) [go_sem, *]) <;> (try omega), by (simp (disch := omega) [go_sem, *]) <;> (try omega), by (simp (disch := omega) [go_sem, *]) <;> (try omega), by (simp (disch := omega) [go_sem, *]) <;> (try omega), by (simp (disch := omega) [go_sem, *]) <;> (try omega), rfl, .inr (.inr (.inr (.inl ⟨rfl, rfl⟩)))⟩, by (simp (disch := omega) [go_sem, *]) <;> (try omega)⟩
  · repeat' (first | (with_reducible (first | apply w_seq | apply w_region | apply w_block | apply w_skip | apply w_exit | apply w_ret | apply w_then | apply w_then_exit | apply w_then_ret | apply w_in | apply w_in_here | apply w_in_ret | apply w_round | apply o_nil | apply d_nil)) | ((with_reducible (first | apply w_in_exit)); rfl) | ((with_reducible (first | apply w_draw)); rfl) | ((first | ((with_reducible (first | apply o_op | apply d_op | apply q_op)); rfl; rfl) | ((with_reducible (first | apply w_cond | apply w_end | apply w_return))) | ((with_reducible (first | apply o_guard | apply d_guard | apply q_guard)); rfl) | ((with_reducible (first | apply o_call_eq | apply d_call | apply q_call)); rfl)); all_goals (first | ((with_reducible show Is _ _); ((try simp (disch := first | omega | (simp only [yA, yB, yC, yD, yE] <;> omega) | fail) [go_sem, yF, yG, yH, *, if_pos, if_neg, -List.map_take, -List.map_drop, -List.map_append, -List.map_reverse]); exact rfl)) | ((fail_if_success (with_reducible show Is _ _)); (first | ((with_reducible refine fun (hc : (_ : Bool) = _) => ?_); (try simp only [xA, xB, xC, xD, xE, xF, xG, xH, reduceCtorEq, xI, xJ, xK, xL, xM, xN, xO, xP, xQ, xR] at hc); (try (have hx : True := hc; clear hx hc)); (try (exfalso; omega)); (try (with_reducible (exact absurd hc (by assumption)))); (try (with_reducible (exact absurd (by assumption) hc)))) | ((with_reducible show ACall _ _ _ _ _); (first | ((with_reducible (first | apply k3)) <;> (first | omega | assumption | exact rfl | ((simp (disch := first | omega | (simp only [yA, yB, yC, yD, yE] <;> omega) | fail) [go_sem, yF, yG, yH, *, -List.map_take, -List.map_drop, -List.map_append, -List.map_reverse]) <;> (first | done | omega | exact rfl)))))) | ((fail_if_success (with_reducible show ACall _ _ _ _ _)); (try ((with_reducible show _ ∨ _); first | exact .inl rfl | (refine .inr ⟨rfl, ?_, ?_⟩; (focus (repeat (first | exact trivial | refine ⟨.inl rfl, ?_⟩ | refine ⟨.inr rfl, ?_⟩))); (first | exact trivial | exact rfl))))))))))
    exact ⟨⟨4, .nilS, _, by (simp (disch := omega) [go_sem, *]) <;> (try omega), by (simp (disch := omega) [go_sem, *]) <;> (try omega), by (simp (disch := omega) [go_sem, *]) <;> (try omega), by (simp (disch := omega) [go_sem, *]) <;> (try omega), by (simp (disch := omega) [go_sem, *]) <;> (try omega), by (simp (disch := omega) [go_sem, *]) <;> (try omega), by (simp (disch := omega) [go_sem, *]) <;> (try omega), rfl, .inr (.inr (.inr (.inr ⟨rfl, rfl⟩)))⟩, by (simp (disch := omega) [go_sem, *]) <;> (try omega)⟩
  · repeat' (first | (with_reducible (first | apply w_seq | apply w_region | apply w_block | apply w_skip | apply w_exit | apply w_ret | apply w_then | apply w_then_exit | apply w_then_ret | apply w_in | apply w_in_here | apply w_in_ret | apply w_round | apply o_nil | apply d_nil)) | ((with_reducible (first | apply w_in_exit)); rfl) | ((with_reducible (first | apply w_draw)); rfl) | ((first | ((with_reducible (first | apply o_op | apply d_op | apply q_op)); rfl; rfl) | ((with_reducible (first | apply w_cond | apply w_end | apply w_return))) | ((with_reducible (first | apply o_guard | apply d_guard | apply q_guard)); rfl) | ((with_reducible (first | apply o_call_eq | apply d_call | apply q_call)); rfl)); all_goals (first | ((with_reducible show Is _ _); ((try simp (disch := first | omega | (simp only [yA, yB, yC, yD, yE] <;> omega) | fail) [go_sem, yF, yG, yH, *, if_pos, if_neg, -List.map_take, -List.map_drop, -List.map_append, -List.map_reverse]); exact rfl)) | ((fail_if_success (with_reducible show Is _ _)); (first | ((with_reducible refine fun (hc : (_ : Bool) = _) => ?_); (try simp only [xA, xB, xC, xD, xE, xF, xG, xH, reduceCtorEq, xI, xJ, xK, xL, xM, xN, xO, xP, xQ, xR] at hc); (try (have hx : True := hc; clear hx hc)); (try (exfalso; omega)); (try (with_reducible (exact absurd hc (by assumption)))); (try (with_reducible (exact absurd (by assumption) hc)))) | ((with_reducible show ACall _ _ _ _ _); (first | ((with_reducible (first | apply hcl)) <;> (first | omega | assumption | exact rfl | ((simp (disch := first | omega | (simp only [yA, yB, yC, yD, yE] <;> omega) | fail) [go_sem, yF, yG, yH, *, -List.map_take, -List.map_drop, -List.map_append, -List.map_reverse]) <;> (first | done | omega | exact rfl)))))) | ((fail_if_success (with_reducible show ACall _ _ _ _ _)); (try ((with_reducible show _ ∨ _); first | exact .inl rfl | (refine .inr ⟨rfl, ?_, ?_⟩; (focus (repeat (first | exact trivial | refine ⟨.inl rfl, ?_⟩ | refine ⟨.inr rfl, ?_⟩))); (first | exact trivial | exact rfl))))))))))
    (simp (disch := omega) [go_sem, *, cfgC]) <;> (try omega)
end Go.Proofs.YtdceppjoipoohaaGreatDoor
end
section
namespace Go.Proofs.YtdceppjoipoohaaGreatDoor
open Go Go.Sy
set_option linter.all false
set_option maxRecDepth 100000
set_option maxHeartbeats 4000000
theorem indexFunc0_at {B : List Box} {args : List CV} {f : Fn} {x y : List CV} (ha : Is args [.lst 0 [] false, .fn f x y]) : ACall Tryz.prog 60 args B fun c B' => c = .int .i64 (-1) ∧ B' = B := by
  have ha : args = _ := ha
  subst ha
  refine acall_intro mixed Tryz.func60 rfl ca60 (by kernel_rfl) (by rw [Tryz.ntmps60]; simp) ?_
  repeat' (first | (with_reducible (first | apply w_seq | apply w_region | apply w_block | apply w_skip | apply w_exit | apply w_ret | apply w_then | apply w_then_exit | apply w_then_ret | apply w_in | apply w_in_here | apply w_in_ret | apply w_round | apply o_nil | apply d_nil)) | ((with_reducible (first | apply w_in_exit)); rfl) | ((with_reducible (first | apply w_draw)); rfl) | ((first | ((with_reducible (first | apply o_op | apply d_op | apply q_op)); rfl; rfl) | ((with_reducible (first | apply w_cond | apply w_end | apply w_return))) | ((with_reducible (first | apply o_guard | apply d_guard | apply q_guard)); rfl)); all_goals (first | ((with_reducible show Is _ _); ((try simp (disch := first | omega | (simp only [yA, yB, yC, yD, yE] <;> omega) | fail) [go_sem, yF, yG, yH, *, if_pos, if_neg, -List.map_take, -List.map_drop, -List.map_append, -List.map_reverse]); exact rfl)) | ((fail_if_success (with_reducible show Is _ _)); (first | ((with_reducible refine fun (hc : (_ : Bool) = _) => ?_); (try simp only [xA, xB, xC, xD, xE, xF, xG, xH, reduceCtorEq, xI, xJ, xK, xL, xM, xN, xO, xP, xQ, xR] at hc); (try (have hx : True := hc; clear hx hc)); (try (exfalso; omega)); (try (with_reducible (exact absurd hc (by assumption)))); (try (with_reducible (exact absurd (by assumption) hc)))) | ((fail_if_success (with_reducible show ACall _ _ _ _ _)); (try ((with_reducible show _ ∨ _); first | exact .inl rfl | (refine .inr ⟨rfl, ?_, ?_⟩; (focus (repeat (first | exact trivial | refine ⟨.inl rfl, ?_⟩ | refine ⟨.inr rfl, ?_⟩))); (first | exact trivial | exact rfl))))))))))
  refine w_loop (fun fr' B' => fr' = _ ∧ B' = _) (fun _ _ => 0) ⟨rfl, rfl⟩ ?_
  rintro fr' B' ⟨rfl, rfl⟩
  repeat' (first | (with_reducible (first | apply w_seq | apply w_region | apply w_block | apply w_skip | apply w_exit | apply w_ret | apply w_then | apply w_then_exit | apply w_then_ret | apply w_in | apply w_in_here | apply w_in_ret | apply w_round | apply o_nil | apply d_nil)) | ((with_reducible (first | apply w_in_exit)); rfl) | ((with_reducible (first | apply w_draw)); rfl) | ((first | ((with_reducible (first | apply o_op | apply d_op | apply q_op)); rfl; rfl) | ((with_reducible (first | apply w_cond | apply w_end | apply w_return))) | ((with_reducible (first | apply o_guard | apply d_guard | apply q_guard)); rfl)); all_goals (first | ((with_reducible show Is _ _); ((try simp (disch := first | omega | (simp only [yA, yB, yC, yD, yE] <;> omega) | fail) [go_sem, yF, yG, yH, *, if_pos, if_neg, -List.map_take, -List.map_drop, -List.map_append, -List.map_reverse]); exact rfl)) | ((fail_if_success (with_reducible show Is _ _)); (first | ((with_reducible refine fun (hc : (_ : Bool) = _) => ?_); (try simp only [xA, xB, xC, xD, xE, xF, xG, xH, reduceCtorEq, xI, xJ, xK, xL, xM, xN, xO, xP, xQ, xR] at hc); (try (have hx : True := hc; clear hx hc)); (try (exfalso; omega)); (try (with_reducible (exact absurd hc (by assumption)))); (try (with_reducible (exact absurd (by assumption) hc)))) | ((fail_if_success (with_reducible show ACall _ _ _ _ _)); (try ((with_reducible show _ ∨ _); first | exact .inl rfl | (refine .inr ⟨rfl, ?_, ?_⟩; (focus (repeat (first | exact trivial | refine ⟨.inl rfl, ?_⟩ | refine ⟨.inr rfl, ?_⟩))); (first | exact trivial | exact rfl))))))))))
  exact ⟨rfl, rfl⟩
theorem containsFunc0_at {B : List Box} {args : List CV} {f : Fn} {x y : List CV} (ha : Is args [.lst 0 [] false, .fn f x y]) : ACall Tryz.prog 36 args B fun c B' => c = .bool false ∧ B' = B := by
  have ha : args = _ := ha
  subst ha
  have h1 : ∀ {B : List Box} {args : List CV}, Is args [.lst 0 [] false, .fn f x y] → ACall Tryz.prog 60 args B fun c B' => c = .int .i64 (-1) ∧ B' = B := indexFunc0_at
  refine acall_intro mixed Tryz.func36 rfl ca36 (by kernel_rfl) (by rw [Tryz.ntmps36]; simp) ?_
  repeat' (first | (with_reducible (first | apply w_seq | apply w_region | apply w_block | apply w_skip | apply w_exit | apply w_ret | apply w_then | apply w_then_exit | apply w_then_ret | apply w_in | apply w_in_here | apply w_in_ret | apply w_round | apply o_nil | apply d_nil)) | ((with_reducible (first | apply w_in_exit)); rfl) | ((with_reducible (first | apply w_draw)); rfl) | ((first | ((with_reducible (first | apply o_op | apply d_op | apply q_op)); rfl; rfl) | ((with_reducible (first | apply w_cond | apply w_end | apply w_return))) | ((with_reducible (first | apply o_guard | apply d_guard | apply q_guard)); rfl) | ((with_reducible (first | apply o_call_eq | apply d_call | apply q_call)); rfl)); all_goals (first | ((with_reducible show Is _ _); ((try simp (disch := first | omega | (simp only [yA, yB, yC, yD, yE] <;> omega) | fail) [go_sem, yF, yG, yH, *, if_pos, if_neg, -List.map_take, -List.map_drop, -List.map_append, -List.map_reverse]); exact rfl)) | ((fail_if_success (with_reducible show Is _ _)); (first | ((with_reducible refine fun (hc : (_ : Bool) = _) => ?_); (try simp only [xA, xB, xC, xD, xE, xF, xG, xH, reduceCtorEq, xI, xJ, xK, xL, xM, xN, xO, xP, xQ, xR] at hc); (try (have hx : True := hc; clear hx hc)); (try (exfalso; omega)); (try (with_reducible (exact absurd hc (by assumption)))); (try (with_reducible (exact absurd (by assumption) hc)))) | ((with_reducible show ACall _ _ _ _ _); (first | ((with_reducible (first | apply h1)) <;> (first | omega | assumption | exact rfl | ((simp (disch := first | omega | (simp only [yA, yB, yC, yD, yE] <;> omega) | fail) [go_sem, yF, yG, yH, *, -List.map_take, -List.map_drop, -List.map_append, -List.map_reverse]) <;> (first | done | omega | exact rfl)))))) | ((fail_if_success (with_reducible show ACall _ _ _ _ _)); (try ((with_reducible show _ ∨ _); first | exact .inl rfl | (refine .inr ⟨rfl, ?_, ?_⟩; (focus (repeat (first | exact trivial | refine ⟨.inl rfl, ?_⟩ | refine ⟨.inr rfl, ?_⟩))); (first | exact trivial | exact rfl))))))))))
  exact ⟨rfl, rfl⟩
theorem validate0_in (K : List UInt8) (hK : K.length = 32) : PC Tryz.prog true 13 [cfgC K 1 (.lst 0 [] false)] (.int .i64 0) := by
  have h1 : ∀ {B : List Box} {args : List CV} , Is args [.lst 0 [] false, .fn (.func 37) [] []] → ACall Tryz.prog 36 args B fun c B' => c = .bool false ∧ B' = B := containsFunc0_at
  rw [cfgC]
  refine acall_intro mixed Tryz.func13 rfl ca13 (by kernel_rfl) (by rw [Tryz.ntmps13]; simp) ?_
  repeat' (first | (with_reducible (first | apply w_seq | apply w_region | apply w_block | apply w_skip | apply w_exit | apply w_ret | apply w_then | apply w_then_exit | apply w_then_ret | apply w_in | apply w_in_here | apply w_in_ret | apply w_round | apply o_nil | apply d_nil)) | ((with_reducible (first | apply w_in_exit)); rfl) | ((with_reducible (first | apply w_draw)); rfl) | ((first | ((with_reducible (first | apply o_op | apply d_op | apply q_op)); rfl; rfl) | ((with_reducible (first | apply w_cond | apply w_end | apply w_return))) | ((with_reducible (first | apply o_guard | apply d_guard | apply q_guard)); rfl)); all_goals (first | ((with_reducible show Is _ _); ((try simp (disch := first | omega | (simp only [yA, yB, yC, yD, yE] <;> omega) | fail) [go_sem, yF, yG, yH, *, if_pos, if_neg, -List.map_take, -List.map_drop, -List.map_append, -List.map_reverse]); exact rfl)) | ((fail_if_success (with_reducible show Is _ _)); (first | ((with_reducible refine fun (hc : (_ : Bool) = _) => ?_); (try simp only [xA, xB, xC, xD, xE, xF, xG, xH, reduceCtorEq, xI, xJ, xK, xL, xM, xN, xO, xP, xQ, xR] at hc); (try (have hx : True := hc; clear hx hc)); (try (exfalso; omega)); (try (with_reducible (exact absurd hc (by assumption)))); (try (with_reducible (exact absurd (by assumption) hc)))) | ((fail_if_success (with_reducible show ACall _ _ _ _ _)); (try ((with_reducible show _ ∨ _); first | exact .inl rfl | (refine .inr ⟨rfl, ?_, ?_⟩; (focus (repeat (first | exact trivial | refine ⟨.inl rfl, ?_⟩ | refine ⟨.inr rfl, ?_⟩))); (first | exact trivial | exact rfl))))))))))
  refine w_loop (fun fr' B' => fr' = _ ∧ B' = _) (fun _ _ => 0) ⟨rfl, rfl⟩ ?_
  rintro fr' B' ⟨rfl, rfl⟩
  repeat' (first | (with_reducible (first | apply w_seq | apply w_region | apply w_block | apply w_skip | apply w_exit | apply w_ret | apply w_then | apply w_then_exit | apply w_then_ret | apply w_in | apply w_in_here | apply w_in_ret | apply w_round | apply o_nil | apply d_nil)) | ((with_reducible (first | apply w_in_exit)); rfl) | ((with_reducible (first | apply w_draw)); rfl) | ((first | ((with_reducible (first | apply o_op | apply d_op | apply q_op)); rfl; rfl) | ((with_reducible (first | apply w_cond | apply w_end | apply w_return))) | ((with_reducible (first | apply o_guard | apply d_guard | apply q_guard)); rfl) | ((with_reducible (first | apply o_call_eq | apply d_call | apply q_call)); rfl)); all_goals (first | ((with_reducible show Is _ _); ((try simp (disch := first | omega | (simp only [yA, yB, yC, yD, yE] <;> omega) | fail) [go_sem, yF, yG, yH, *, if_pos, if_neg, -List.map_take, -List.map_drop, -List.map_append, -List.map_reverse]); exact rfl)) | ((fail_if_success (with_reducible show Is _ _)); (first | ((with_reducible refine fun (hc : (_ : Bool) = _) => ?_); (try simp only [xA, xB, xC, xD, xE, xF, xG, xH, reduceCtorEq, xI, xJ, xK, xL, xM, xN, xO, xP, xQ, xR] at hc); (try (have hx : True := hc; clear hx hc)); (try (exfalso; omega)); (try (with_reducible (exact absurd hc (by assumption)))); (try (with_reducible (exact absurd (by assumption) hc)))) | ((with_reducible show ACall _ _ _ _ _); (first | ((with_reducible (first | apply h1)) <;> (first | omega | assumption | exact rfl | ((simp (disch := first | omega | (simp only [yA, yB, yC, yD, yE] <;> omega) | fail) [go_sem, yF, yG, yH, *, -List.map_take, -List.map_drop, -List.map_append, -List.map_reverse]) <;> (first | done | omega | exact rfl)))))) | ((fail_if_success (with_reducible show ACall _ _ _ _ _)); (try ((with_reducible show _ ∨ _); first | exact .inl rfl | (refine .inr ⟨rfl, ?_, ?_⟩; (focus (repeat (first | exact trivial | refine ⟨.inl rfl, ?_⟩ | refine ⟨.inr rfl, ?_⟩))); (first | exact trivial | exact rfl))))))))))
  refine w_loop (fun fr' B' => fr' = _ ∧ B' = _) (fun _ _ => 0) ⟨rfl, rfl⟩ ?_
  rintro fr' B' ⟨rfl, rfl⟩
  repeat' (first | (with_reducible (first | apply w_seq | apply w_region | apply w_block | apply w_skip | apply w_exit | apply w_ret | apply w_then | apply w_then_exit | apply w_then_ret | apply w_in | apply w_in_here | apply w_in_ret | apply w_round | apply o_nil | apply d_nil)) | ((with_reducible (first | apply w_in_exit)); rfl) | ((with_reducible (first | apply w_draw)); rfl) | ((first | ((with_reducible (first | apply o_op | apply d_op | apply q_op)); rfl; rfl) | ((with_reducible (first | apply w_cond | apply w_end | apply w_return))) | ((with_reducible (first | apply o_guard | apply d_guard | apply q_guard)); rfl)); all_goals (first | ((with_reducible show Is _ _); ((try simp (disch := first | omega | (simp only [yA, yB, yC, yD, yE] <;> omega) | fail) [go_sem, yF, yG, yH, *, if_pos, if_neg, -List.map_take, -List.map_drop, -List.map_append, -List.map_reverse]); exact rfl)) | ((fail_if_success (with_reducible show Is _ _)); (first | ((with_reducible refine fun (hc : (_ : Bool) = _) => ?_); (try simp only [xA, xB, xC, xD, xE, xF, xG, xH, reduceCtorEq, xI, xJ, xK, xL, xM, xN, xO, xP, xQ, xR] at hc); (try (have hx : True := hc; clear hx hc)); (try (exfalso; omega)); (try (with_reducible (exact absurd hc (by assumption)))); (try (with_reducible (exact absurd (by assumption) hc)))) | ((fail_if_success (with_reducible show ACall _ _ _ _ _)); (try ((with_reducible show _ ∨ _); first | exact .inl rfl | (refine .inr ⟨rfl, ?_, ?_⟩; (focus (repeat (first | exact trivial | refine ⟨.inl rfl, ?_⟩ | refine ⟨.inr rfl, ?_⟩))); (first | exact trivial | exact rfl))))))))))
  rfl
end Go.Proofs.YtdceppjoipoohaaGreatDoor
end
section
namespace Go.Proofs.YtdceppjoipoohaaGreatDoor
open Go Go.Sy
set_option linter.all false
set_option maxRecDepth 100000
set_option maxHeartbeats 4000000
theorem textS_len (k : List UInt8) : (textS k).length = 44 := by simp [textS, textP_len]
theorem byte_ext {x y : UInt8} (h : ∀ r, r < 8 → x.toNat / 2 ^ r % 2 = y.toNat / 2 ^ r % 2) : x = y := by
  apply UInt8.toNat_inj.1
  apply Nat.eq_of_testBit_eq
  intro i
  rcases Nat.lt_or_ge i 8 with hi | hi
  · have := h i hi
    rw [Nat.testBit_eq_decide_div_mod_eq, Nat.testBit_eq_decide_div_mod_eq, this]
  · have hx := x.toNat_lt; have hy := y.toNat_lt
    have hp : (2 : Nat) ^ 8 ≤ 2 ^ i := Nat.pow_le_pow_right (by omega) hi
    rw [Nat.testBit_lt_two_pow (by omega), Nat.testBit_lt_two_pow (by omega)]
theorem key_ext {a b : List UInt8} (ha : a.length = 32) (hb : b.length = 32) (h : ∀ m, m < 256 → bitAt a m = bitAt b m) : a = b := by
  apply List.ext_getElem (by omega)
  intro i h1 h2
  apply byte_ext
  intro r hr
  have := h (8 * i + (7 - r)) (by omega)
  unfold bitAt at this
  rw [show (8 * i + (7 - r)) / 8 = i by omega, show 7 - (8 * i + (7 - r)) % 8 = r by omega, List.getD_eq_getElem?_getD, List.getElem?_eq_getElem h1, List.getD_eq_getElem?_getD, List.getElem?_eq_getElem h2] at this
  exact this
theorem or_bit {x : UInt8} {r q : Nat} (hr : r < 8) (hq : q < 8) : (x ||| pw r).toNat / 2 ^ q % 2 = if q = r then 1 else x.toNat / 2 ^ q % 2 := by
  have e : ∀ n : Nat, n / 2 ^ q % 2 = if n.testBit q then 1 else 0 := by
    intro n
    rw [Nat.testBit_eq_decide_div_mod_eq]
    have := Nat.mod_lt (n / 2 ^ q) (show 0 < 2 by omega)
    by_cases h : n / 2 ^ q % 2 = 1 <;> simp [h]
    omega
  rw [e, e, UInt8.toNat_or, pw_toNat (by omega), Nat.testBit_or, Nat.testBit_two_pow]
  by_cases h : q = r
  · subst h; simp
  · have : ¬ r = q := fun e => h e.symm
    simp [h, this]
theorem keyP_bit (f : Nat → Nat) (hf : ∀ m, f m < 2) (n m : Nat) (hm : m < 256) : bitAt (keyP f n) m = if m < n then f m else 0 := by
  induction n with
  | zero =>
    simp only [keyP, bitAt, List.getD_eq_getElem?_getD, List.getElem?_replicate]
    split <;> simp
  | succ n ih =>
    have hl := keyP_len f n
    simp only [keyP]
    split
    · rename_i hn
      by_cases hb : m / 8 = n / 8
      · have e : bitAt ((keyP f n).set (n / 8) ((keyP f n).getD (n / 8) 0 ||| pw (7 - n % 8))) m = ((keyP f n).getD (n / 8) 0 ||| pw (7 - n % 8)).toNat / 2 ^ (7 - m % 8) % 2 := by
          rw [bitAt, hb, List.getD_eq_getElem?_getD, List.getElem?_set_self (by omega), Option.getD_some]
        rw [e, or_bit (by omega) (by omega)]
        by_cases hmn : m = n
        · subst hmn; rw [if_pos rfl, if_pos (by omega), hn.2]
        · rw [if_neg (by omega)]
          have : (keyP f n).getD (n / 8) 0 = (keyP f n).getD (m / 8) 0 := by rw [hb]
          rw [this]
          have ih2 : ((keyP f n).getD (m / 8) 0).toNat / 2 ^ (7 - m % 8) % 2 = _ := ih
          rw [ih2]
          by_cases h : m < n
          · rw [if_pos h, if_pos (by omega)]
          · rw [if_neg h, if_neg (by omega)]
      · have e : bitAt ((keyP f n).set (n / 8) ((keyP f n).getD (n / 8) 0 ||| pw (7 - n % 8))) m = bitAt (keyP f n) m := by
          rw [bitAt, bitAt, List.getD_eq_getElem?_getD, List.getElem?_set_ne (by omega), ← List.getD_eq_getElem?_getD]
        rw [e, ih]
        by_cases h : m < n
        · rw [if_pos h, if_pos (by omega)]
        · rw [if_neg h, if_neg (by rintro h2; exact hb (by rw [show m = n by omega]))]
    · rename_i hn
      rw [ih]
      by_cases h : m < n
      · rw [if_pos h, if_pos (by omega)]
      · by_cases h2 : m < n + 1
        · have : m = n := by omega
          subst this
          rw [if_neg h, if_pos h2]
          have := hf m
          have : ¬ f m = 1 := fun e => hn ⟨hm, e⟩
          omega
        · rw [if_neg h, if_neg h2]
theorem valV_mk {v : Nat} (h : v < 64) : valV (mk64 v) = some v := by
  have : ∀ k : Fin 64, valV (mk64 k.1) = some k.1 := by decide
  exact this ⟨v, h⟩
theorem six_bits (k : List UInt8) (i j : Nat) (hj : j < 6) : sixP k i 6 / 2 ^ (5 - j) % 2 = bitAt k (6 * i + j) := by
  have h0 := bitAt_lt k (6 * i + 0); have h1 := bitAt_lt k (6 * i + 1); have h2 := bitAt_lt k (6 * i + 2); have h3 := bitAt_lt k (6 * i + 3); have h4 := bitAt_lt k (6 * i + 4); have h5 := bitAt_lt k (6 * i + 5)
  simp only [sixP]
  rcases (show j = 0 ∨ j = 1 ∨ j = 2 ∨ j = 3 ∨ j = 4 ∨ j = 5 by omega) with rfl | rfl | rfl | rfl | rfl | rfl <;> simp only [Nat.sub_zero, Nat.reduceSub, Nat.reducePow] <;> omega
theorem textS_get (k : List UInt8) {i : Nat} (h : i < 43) : (textS k).getD i 0 = mk64 (sixP k i 6) := by
  rw [textS, List.getD_eq_getElem?_getD, List.getElem?_append_left (by rw [textP_len]; exact h), textP, List.getElem?_map, List.getElem?_range h]; rfl
theorem textS_last (k : List UInt8) : (textS k).getD 43 0 = 61 := by
  rw [textS, List.getD_eq_getElem?_getD, List.getElem?_append_right (by rw [textP_len]; omega), textP_len]; rfl
theorem six_lt (k : List UInt8) (i : Nat) : sixP k i 6 < 64 := sixP_lt k i 6
theorem fbit_text (k : List UInt8) {n : Nat} (h : n < 258) : fbit (textS k) n = bitAt k n := by
  rw [fbit, textS_get k (by omega), valV_mk (six_lt _ _), Option.getD_some, six_bits k _ _ (by omega), Nat.div_add_mod]
theorem bitAt_out {k : List UInt8} (hk : k.length = 32) {n : Nat} (h : 256 ≤ n) : bitAt k n = 0 := by
  rw [bitAt, List.getD_eq_getElem?_getD, List.getElem?_eq_none (by omega)]; simp
theorem fbit_lt (s : List UInt8) (n : Nat) : fbit s n < 2 := Nat.mod_lt _ (by omega)
theorem unkey_text {k : List UInt8} (hk : k.length = 32) : unkey (textS k) = some k := by
  rw [unkey, if_pos ⟨textS_len k, textS_last k, fun i hi => by rw [textS_get k hi, valV_mk (six_lt _ _)]; rfl, by rw [fbit_text k (by omega), bitAt_out hk (by omega)], by rw [fbit_text k (by omega), bitAt_out hk (by omega)]⟩]
  congr 1
  apply key_ext (keyP_len _ _) hk
  intro m hm
  rw [keyP_bit _ (fbit_lt _) _ _ hm, if_pos (by omega), fbit_text k (by omega)]
end Go.Proofs.YtdceppjoipoohaaGreatDoor
end
section
namespace Go.Proofs.YtdceppjoipoohaaGreatDoor
open Go Go.Sy
set_option linter.all false
set_option maxRecDepth 100000
set_option maxHeartbeats 4000000
def oct (x : List UInt8) : Bool := decOk 3 x && decide (decV x ≤ 255)
theorem foldl_ge : ∀ (l : List UInt8) (n : Nat), n * 10 ^ l.length ≤ l.foldl (fun n c => 10 * n + (c.toNat - 48)) n
  | [], n => by simp
  | c :: l, n => by
    have := foldl_ge l (10 * n + (c.toNat - 48))
    rw [List.foldl_cons, List.length_cons, Nat.pow_succ]
    refine Nat.le_trans ?_ this
    have h : n * (10 ^ l.length * 10) = (10 * n) * 10 ^ l.length := by rw [Nat.mul_comm (10 ^ l.length), ← Nat.mul_assoc, Nat.mul_comm n]
    rw [h]
    exact Nat.mul_le_mul_right _ (by omega)
theorem oct_eq (x : List UInt8) : (decOk 10 x && decide ((decR 10 x : Int) ≤ 255)) = oct x := by
  by_cases h : x.length ≤ 3
  · have e : decOk 10 x = decOk 3 x := by
      have h10 : x.length ≤ 10 := by omega
      simp [decOk, headOk, h, h10]
    rw [oct, ← e]
    cases hd : decOk 10 x with
    | false => simp
    | true => simp [decR, hd]; omega
  · have e3 : decOk 3 x = false := by simp [decOk, headOk, h]
    rw [oct, e3, Bool.false_and, Bool.and_eq_false_iff]
    cases hd : decOk 10 x with
    | false => exact .inl rfl
    | true =>
      right
      rw [decR, if_pos hd]
      cases x with
      | nil => simp at h
      | cons c x =>
        simp only [decOk, Bool.and_eq_true, List.all_cons] at hd
        have hc : 48 ≤ c.toNat ∧ c.toNat ≤ 57 := by simpa [isDig] using hd.2.1
        have hne : c ≠ 48 := by
          intro hc48
          have := hd.1
          simp [headOk, hc48] at this
          have hl : 1 < (c :: x).length := by simp; simp at h; omega
          simp at h
          have := this.2
          subst this
          simp at h
        have hc1 : 49 ≤ c.toNat := by
          rcases Nat.lt_or_ge c.toNat 49 with h1 | h1
          · exact absurd (UInt8.toNat_inj.1 (by show c.toNat = 48; omega)) hne
          · exact h1
        have hge := foldl_ge x (10 * 0 + (c.toNat - 48))
        have hp : 10 ^ 3 ≤ 10 ^ x.length := Nat.pow_le_pow_right (by decide) (by simp at h; omega)
        have : 1 * 10 ^ x.length ≤ (10 * 0 + (c.toNat - 48)) * 10 ^ x.length := Nat.mul_le_mul_right _ (by omega)
        have hv : decV (c :: x) = x.foldl (fun n c => 10 * n + (c.toNat - 48)) (10 * 0 + (c.toNat - 48)) := rfl
        rw [hv]
        simp only [decide_eq_false_iff_not]
        omega
def a4 (L : List (List UInt8)) (j : Nat) : List UInt8 := (L.take j).map (fun x => UInt8.ofNat (decV x)) ++ List.replicate (16 - j) 0
def p4 (L : List (List UInt8)) : Option (Bool × List UInt8) := if L.all oct then some (false, a4 L 4) else none
def rA (o : Option (Bool × List UInt8)) : CV := match o with | some (six, A) => .tup [addrC six A, .int .i64 0] | none => .tup [addrC false z16, .int .i64 5]
theorem a4_set {L : List (List UInt8)} {j : Nat} (hL : L.length = 4) (hj : j < 4) : (a4 L j).set j (UInt8.ofNat (decV (L[j]'(by omega)))) = a4 L (j + 1) := by
  have e : 16 - j = (16 - (j + 1)) + 1 := by omega
  have hl : ((L.take j).map fun x => UInt8.ofNat (decV x)).length = j := by rw [List.length_map, List.length_take]; omega
  rw [a4, a4, List.set_append_right _ _ (by omega), hl, Nat.sub_self, e, List.replicate_succ, List.set_cons_zero, List.take_succ_eq_append_getElem (by omega), List.map_append, List.append_assoc]
  rfl
theorem a4_len {L : List (List UInt8)} {j : Nat} (hL : L.length = 4) (hj : j ≤ 4) : (a4 L j).length = 16 := by simp [a4, hL]; omega
def a6 (L : List (List UInt8)) (j : Nat) : List UInt8 := (L.take j).flatMap (fun x => [UInt8.ofNat (hexV x / 256), UInt8.ofNat (hexV x)]) ++ List.replicate (16 - 2 * j) 0
def p6 (L : List (List UInt8)) : Option (Bool × List UInt8) := if L.all hexOk then some (true, a6 L 8) else none
theorem fm_len (L : List (List UInt8)) : (L.flatMap (fun x => [UInt8.ofNat (hexV x / 256), UInt8.ofNat (hexV x)])).length = 2 * L.length := by
  induction L with
  | nil => rfl
  | cons x xs ih => rw [List.flatMap_cons, List.length_append, ih]; simp; omega
theorem a6_len {L : List (List UInt8)} {j : Nat} (hL : L.length = 8) (hj : j ≤ 8) : (a6 L j).length = 16 := by
  rw [a6, List.length_append, fm_len, List.length_take, List.length_replicate]; omega
theorem a6_set {L : List (List UInt8)} {j : Nat} (hL : L.length = 8) (hj : j < 8) : ((a6 L j).set (2 * j) (UInt8.ofNat (hexV (L[j]'(by omega)) / 256))).set (2 * j + 1) (UInt8.ofNat (hexV (L[j]'(by omega)))) = a6 L (j + 1) := by
  have e : 16 - 2 * j = (16 - 2 * (j + 1)) + 1 + 1 := by omega
  have hl : ((L.take j).flatMap (fun x => [UInt8.ofNat (hexV x / 256), UInt8.ofNat (hexV x)])).length = 2 * j := by rw [fm_len, List.length_take]; omega
  rw [a6, a6, List.take_succ_eq_append_getElem (by omega), List.flatMap_append]
  generalize (L.take j).flatMap (fun x => [UInt8.ofNat (hexV x / 256), UInt8.ofNat (hexV x)]) = F at *
  rw [List.set_append_right _ _ (by omega), hl, Nat.sub_self, e, List.replicate_succ, List.set_cons_zero, List.set_append_right _ _ (by omega), hl, show 2 * j + 1 - 2 * j = 1 by omega, List.replicate_succ]
  simp
end Go.Proofs.YtdceppjoipoohaaGreatDoor
end
