/- Lemmas and definitions of this claim (own texts, joined by a program; what the claim does not use is left out). -/
import Derived.Test.YtdceppjoipoohaaDoorCa7
section
namespace Go.Proofs.YtdceppjoipoohaaDoor
open Go Go.Sy
set_option linter.all false
set_option maxRecDepth 100000
set_option maxHeartbeats 4000000
def isDig (c : UInt8) : Bool := decide (48 ≤ c.toNat) && decide (c.toNat ≤ 57)
def decV (l : List UInt8) : Nat := l.foldl (fun n c => 10 * n + (c.toNat - 48)) 0
def headOk (m : Nat) (s : List UInt8) : Bool := decide (1 ≤ s.length) && decide (s.length ≤ m) && !(decide (1 < s.length) && (s.head? == some 48))
def decOk (m : Nat) (s : List UInt8) : Bool := headOk m s && s.all isDig
def decR (m : Nat) (s : List UInt8) : Nat := if decOk m s then decV s else 0
theorem decV_app (l : List UInt8) (c : UInt8) : decV (l ++ [c]) = 10 * decV l + (c.toNat - 48) := by simp [decV, List.foldl_append]
theorem decV_take {l : List UInt8} {k : Nat} (h : k < l.length) : decV (l.take (k + 1)) = 10 * decV (l.take k) + (l[k].toNat - 48) := by rw [List.take_succ_eq_append_getElem h, decV_app]
theorem decV_lt : ∀ (l : List UInt8), l.all isDig = true → decV l < 10 ^ l.length := by
  intro l
  suffices h : ∀ (l : List UInt8) (n k : Nat), n < 10 ^ k → l.all isDig = true → l.foldl (fun n c => 10 * n + (c.toNat - 48)) n < 10 ^ (k + l.length) by
    intro hl; have := h l 0 0 (by decide) hl; rwa [Nat.zero_add] at this
  intro l
  induction l with
  | nil => intro n k h _; simpa using h
  | cons c l ih =>
    intro n k h hl
    simp only [List.all_cons, Bool.and_eq_true] at hl
    have hc : 48 ≤ c.toNat ∧ c.toNat ≤ 57 := by simpa [isDig] using hl.1
    have := ih (10 * n + (c.toNat - 48)) (k + 1) (by rw [Nat.pow_succ]; omega) hl.2
    rw [List.foldl_cons, List.length_cons, show k + (l.length + 1) = k + 1 + l.length by omega]
    exact this
theorem dec_bound {s : List UInt8} {j : Nat} (hd : (s.take j).all isDig = true) (hj : j ≤ 10) : decV (s.take j) ≤ 9999999999 := by
  have h1 := decV_lt _ hd
  have h2 : (s.take j).length ≤ 10 := by rw [List.length_take]; omega
  have h3 : 10 ^ (s.take j).length ≤ 10 ^ 10 := Nat.pow_le_pow_right (by decide) h2
  omega
theorem all_take {s : List UInt8} {j : Nat} (h : j < s.length) : (s.take (j + 1)).all isDig = ((s.take j).all isDig && isDig s[j]) := by
  rw [List.take_succ_eq_append_getElem h, List.all_append]; simp
theorem not_all {s : List UInt8} {j : Nat} (h : j < s.length) (hn : isDig s[j] = false) : s.all isDig = false := by
  rw [List.all_eq_false]
  exact ⟨s[j], List.getElem_mem h, by simp [hn]⟩
theorem decimal_in (s : List UInt8) (lim : Int) (hs : s.length < 4611686018427387904) : PC Tryd.prog true 47 [.str s, .int .i64 lim] (.tup [.int .i64 (decR 10 s), .bool (decOk 10 s && decide ((decR 10 s : Int) ≤ lim))]) := by
  refine acall_intro mixed Tryd.func47 rfl ca47 (by kernel_rfl) (by rw [Tryd.ntmps47]; simp) ?_
  have hbad : headOk 10 s = false → decR 10 s = 0 ∧ decOk 10 s = false := fun h => by simp [decR, decOk, h]
  by_cases h0 : s.length = 0
  · obtain ⟨e1, e2⟩ := hbad (by simp [headOk, h0])
    have : s = [] := List.eq_nil_of_length_eq_zero h0
    subst this
    repeat' (first | (with_reducible (first | apply w_seq | apply w_region | apply w_block | apply w_skip | apply w_exit | apply w_ret | apply w_then | apply w_then_exit | apply w_then_ret | apply w_in | apply w_in_here | apply w_in_ret | apply w_round | apply o_nil | apply d_nil)) | ((with_reducible (first | apply w_in_exit)); rfl) | ((with_reducible (first | apply w_draw)); rfl) | ((first | ((with_reducible (first | apply o_op | apply d_op | apply q_op)); rfl; rfl) | ((with_reducible (first | apply w_cond | apply w_end | apply w_return))) | ((with_reducible (first | apply o_guard | apply d_guard | apply q_guard)); rfl)); all_goals (first | ((with_reducible show Is _ _); ((try simp (disch := first | omega | (simp only [yA, yB, yC, yD, yE] <;> omega) | fail) [go_sem, yF, yG, yH, *, if_pos, if_neg, -List.map_take, -List.map_drop, -List.map_append, -List.map_reverse]); exact rfl)) | ((fail_if_success (with_reducible show Is _ _)); (first | ((with_reducible refine fun (hc : (_ : Bool) = _) => ?_); (try simp only [xA, xB, xC, xD, xE, xF, xG, xH, reduceCtorEq, xI, xJ, xK, xL, xM, xN, xO, xP, xQ, xR] at hc); (try (have hx : True := hc; clear hx hc)); (try (exfalso; omega)); (try (with_reducible (exact absurd hc (by assumption)))); (try (with_reducible (exact absurd (by assumption) hc)))) | ((fail_if_success (with_reducible show ACall _ _ _ _ _)); (try ((with_reducible show _ ∨ _); first | exact .inl rfl | (refine .inr ⟨rfl, ?_, ?_⟩; (focus (repeat (first | exact trivial | refine ⟨.inl rfl, ?_⟩ | refine ⟨.inr rfl, ?_⟩))); (first | exact trivial | exact rfl))))))))))
    rfl
  have hpos : 0 < s.length := by omega
  by_cases h10 : s.length ≤ 10
  · by_cases hz : 1 < s.length ∧ s[0]'hpos = 48
    · obtain ⟨hz1, hz2⟩ := hz
      have hh : s.head? = some 48 := by rw [List.head?_eq_getElem?, List.getElem?_eq_getElem (by omega), hz2]
      obtain ⟨e1, e2⟩ := hbad (by simp [headOk, hz1, hh])
      rw [e1, e2]
      repeat' (first | (with_reducible (first | apply w_seq | apply w_region | apply w_block | apply w_skip | apply w_exit | apply w_ret | apply w_then | apply w_then_exit | apply w_then_ret | apply w_in | apply w_in_here | apply w_in_ret | apply w_round | apply o_nil | apply d_nil)) | ((with_reducible (first | apply w_in_exit)); rfl) | ((with_reducible (first | apply w_draw)); rfl) | ((first | ((with_reducible (first | apply o_op | apply d_op | apply q_op)); rfl; rfl) | ((with_reducible (first | apply w_cond | apply w_end | apply w_return))) | ((with_reducible (first | apply o_guard | apply d_guard | apply q_guard)); rfl)); all_goals (first | ((with_reducible show Is _ _); ((try simp (disch := first | omega | (simp only [yA, yB, yC, yD, yE] <;> omega) | fail) [go_sem, yF, yG, yH, *, if_pos, if_neg, -List.map_take, -List.map_drop, -List.map_append, -List.map_reverse]); exact rfl)) | ((fail_if_success (with_reducible show Is _ _)); (first | ((with_reducible refine fun (hc : (_ : Bool) = _) => ?_); (try simp only [xA, xB, xC, xD, xE, xF, xG, xH, reduceCtorEq, xI, xJ, xK, xL, xM, xN, xO, xP, xQ, xR] at hc); (try (have hx : True := hc; clear hx hc)); (try (exfalso; omega)); (try (with_reducible (exact absurd hc (by assumption)))); (try (with_reducible (exact absurd (by assumption) hc)))) | ((fail_if_success (with_reducible show ACall _ _ _ _ _)); (try ((with_reducible show _ ∨ _); first | exact .inl rfl | (refine .inr ⟨rfl, ?_, ?_⟩; (focus (repeat (first | exact trivial | refine ⟨.inl rfl, ?_⟩ | refine ⟨.inr rfl, ?_⟩))); (first | exact trivial | exact rfl))))))))))
      rfl
    · have hh : headOk 10 s = true := by
        cases s with
        | nil => simp at h0
        | cons c s => simp [headOk] at hz ⊢; simp at h10; exact ⟨h10, by cases s with | nil => exact .inl rfl | cons d s => exact .inr (hz (by simp))⟩
      have hz' : 1 < s.length → (s[0]'hpos).toNat ≠ 48 := fun h e => hz ⟨h, UInt8.toNat_inj.1 e⟩
      clear hbad hz
      by_cases h1l : 1 < s.length
      · have hz2 := hz' h1l
        clear hz'
        have hz3 : ((s[0]'hpos).toNat : Int) ≠ 48 := by omega
        repeat' (first | (with_reducible (first | apply w_seq | apply w_region | apply w_block | apply w_skip | apply w_exit | apply w_ret | apply w_then | apply w_then_exit | apply w_then_ret | apply w_in | apply w_in_here | apply w_in_ret | apply w_round | apply o_nil | apply d_nil)) | ((with_reducible (first | apply w_in_exit)); rfl) | ((with_reducible (first | apply w_draw)); rfl) | ((first | ((with_reducible (first | apply o_op | apply d_op | apply q_op)); rfl; rfl) | ((with_reducible (first | apply w_cond | apply w_end | apply w_return))) | ((with_reducible (first | apply o_guard | apply d_guard | apply q_guard)); rfl)); all_goals (first | ((with_reducible show Is _ _); ((try simp (disch := first | omega | (simp only [yA, yB, yC, yD, yE] <;> omega) | fail) [go_sem, yF, yG, yH, *, if_pos, if_neg, -List.map_take, -List.map_drop, -List.map_append, -List.map_reverse]); exact rfl)) | ((fail_if_success (with_reducible show Is _ _)); (first | ((with_reducible refine fun (hc : (_ : Bool) = _) => ?_); (try simp only [xA, xB, xC, xD, xE, xF, xG, xH, reduceCtorEq, xI, xJ, xK, xL, xM, xN, xO, xP, xQ, xR] at hc); (try (have hx : True := hc; clear hx hc)); (try (exfalso; omega)); (try (with_reducible (exact absurd hc (by assumption)))); (try (with_reducible (exact absurd (by assumption) hc)))) | ((fail_if_success (with_reducible show ACall _ _ _ _ _)); (try ((with_reducible show _ ∨ _); first | exact .inl rfl | (refine .inr ⟨rfl, ?_, ?_⟩; (focus (repeat (first | exact trivial | refine ⟨.inl rfl, ?_⟩ | refine ⟨.inr rfl, ?_⟩))); (first | exact trivial | exact rfl))))))))))
        refine w_loop (fun fr B => B = [] ∧ ∃ j : Nat, j ≤ s.length ∧ (s.take j).all isDig = true ∧ fr 28 = .int .i64 j ∧ fr 0 = .str s ∧ fr 6 = .int .i64 (decV (s.take j)) ∧ fr 27 = .int .i64 s.length ∧ fr 1 = .int .i64 lim) (fun fr _ => s.length - natOf (fr 28)) ?_ ?_
        · exact ⟨rfl, 0, by omega, rfl, by (simp (disch := omega) [go_sem, *]) <;> (try omega), by (simp (disch := omega) [go_sem, *]) <;> (try omega), by (simp (disch := omega) [go_sem, *, decV]) <;> (try omega), by (simp (disch := omega) [go_sem, *]) <;> (try omega), by (simp (disch := omega) [go_sem, *]) <;> (try omega)⟩
        rintro fr B ⟨rfl, j, hj, hd, hix, hs0, h6, hx1, hx2⟩
        have hb := dec_bound hd (by omega)
        by_cases hc : j < s.length
        · have hnx := decV_take hc
          have hall := all_take hc
          rw [hd, Bool.true_and] at hall
          have hlt := (s[j]).toNat_lt
          by_cases hg : isDig s[j] = true
          · rw [hg] at hall
            have hg2 : 48 ≤ s[j].toNat ∧ s[j].toNat ≤ 57 := by simpa [isDig] using hg
            have hb2 := dec_bound hall (by omega)
            have hnx2 : (decV (s.take (j + 1)) : Int) = 10 * decV (s.take j) + (s[j].toNat - 48) := by omega
            rw [hnx] at hb2
            repeat' (first | (with_reducible (first | apply w_seq | apply w_region | apply w_block | apply w_skip | apply w_exit | apply w_ret | apply w_then | apply w_then_exit | apply w_then_ret | apply w_in | apply w_in_here | apply w_in_ret | apply w_round | apply o_nil | apply d_nil)) | ((with_reducible (first | apply w_in_exit)); rfl) | ((with_reducible (first | apply w_draw)); rfl) | ((first | ((with_reducible (first | apply o_op | apply d_op | apply q_op)); rfl; rfl) | ((with_reducible (first | apply w_cond | apply w_end | apply w_return))) | ((with_reducible (first | apply o_guard | apply d_guard | apply q_guard)); rfl)); all_goals (first | ((with_reducible show Is _ _); ((try simp (disch := first | omega | (simp only [yA, yB, yC, yD, yE] <;> omega) | fail) [go_sem, yF, yG, yH, *, if_pos, if_neg, -List.map_take, -List.map_drop, -List.map_append, -List.map_reverse]); exact rfl)) | ((fail_if_success (with_reducible show Is _ _)); (first | ((with_reducible refine fun (hc : (_ : Bool) = _) => ?_); (try simp only [xA, xB, xC, xD, xE, xF, xG, xH, reduceCtorEq, xI, xJ, xK, xL, xM, xN, xO, xP, xQ, xR] at hc); (try (have hx : True := hc; clear hx hc)); (try (exfalso; omega)); (try (with_reducible (exact absurd hc (by assumption)))); (try (with_reducible (exact absurd (by assumption) hc)))) | ((fail_if_success (with_reducible show ACall _ _ _ _ _)); (try ((with_reducible show _ ∨ _); first | exact .inl rfl | (refine .inr ⟨rfl, ?_, ?_⟩; (focus (repeat (first | exact trivial | refine ⟨.inl rfl, ?_⟩ | refine ⟨.inr rfl, ?_⟩))); (first | exact trivial | exact rfl))))))))))
            exact ⟨⟨rfl, j + 1, by omega, hall, by (simp (disch := omega) [go_sem, *]) <;> (try omega), by (simp (disch := omega) [go_sem, *]) <;> (try omega), by rw [hnx2] <;> (simp (disch := omega) [go_sem, *]) <;> (try omega), by (simp (disch := omega) [go_sem, *]) <;> (try omega), by (simp (disch := omega) [go_sem, *]) <;> (try omega)⟩, by (simp (disch := omega) [go_sem, *]) <;> (try omega)⟩
          · have hna := not_all hc (by simpa using hg)
            have e1 : decR 10 s = 0 ∧ decOk 10 s = false := by simp [decR, decOk, hna]
            have hg2 : s[j].toNat < 48 ∨ 57 < s[j].toNat := by
              have : ¬ (48 ≤ s[j].toNat ∧ s[j].toNat ≤ 57) := by simpa [isDig] using hg
              omega
            rw [e1.1, e1.2]
            rcases hg2 with hg2 | hg2
            · repeat' (first | (with_reducible (first | apply w_seq | apply w_region | apply w_block | apply w_skip | apply w_exit | apply w_ret | apply w_then | apply w_then_exit | apply w_then_ret | apply w_in | apply w_in_here | apply w_in_ret | apply w_round | apply o_nil | apply d_nil)) | ((with_reducible (first | apply w_in_exit)); rfl) | ((with_reducible (first | apply w_draw)); rfl) | ((first | ((with_reducible (first | apply o_op | apply d_op | apply q_op)); rfl; rfl) | ((with_reducible (first | apply w_cond | apply w_end | apply w_return))) | ((with_reducible (first | apply o_guard | apply d_guard | apply q_guard)); rfl)); all_goals (first | ((with_reducible show Is _ _); ((try simp (disch := first | omega | (simp only [yA, yB, yC, yD, yE] <;> omega) | fail) [go_sem, yF, yG, yH, *, if_pos, if_neg, -List.map_take, -List.map_drop, -List.map_append, -List.map_reverse]); exact rfl)) | ((fail_if_success (with_reducible show Is _ _)); (first | ((with_reducible refine fun (hc : (_ : Bool) = _) => ?_); (try simp only [xA, xB, xC, xD, xE, xF, xG, xH, reduceCtorEq, xI, xJ, xK, xL, xM, xN, xO, xP, xQ, xR] at hc); (try (have hx : True := hc; clear hx hc)); (try (exfalso; omega)); (try (with_reducible (exact absurd hc (by assumption)))); (try (with_reducible (exact absurd (by assumption) hc)))) | ((fail_if_success (with_reducible show ACall _ _ _ _ _)); (try ((with_reducible show _ ∨ _); first | exact .inl rfl | (refine .inr ⟨rfl, ?_, ?_⟩; (focus (repeat (first | exact trivial | refine ⟨.inl rfl, ?_⟩ | refine ⟨.inr rfl, ?_⟩))); (first | exact trivial | exact rfl))))))))))
              rfl
            · have hg3 : ¬ (s[j].toNat : Int) < 48 := by omega
              repeat' (first | (with_reducible (first | apply w_seq | apply w_region | apply w_block | apply w_skip | apply w_exit | apply w_ret | apply w_then | apply w_then_exit | apply w_then_ret | apply w_in | apply w_in_here | apply w_in_ret | apply w_round | apply o_nil | apply d_nil)) | ((with_reducible (first | apply w_in_exit)); rfl) | ((with_reducible (first | apply w_draw)); rfl) | ((first | ((with_reducible (first | apply o_op | apply d_op | apply q_op)); rfl; rfl) | ((with_reducible (first | apply w_cond | apply w_end | apply w_return))) | ((with_reducible (first | apply o_guard | apply d_guard | apply q_guard)); rfl)); all_goals (first | ((with_reducible show Is _ _); ((try simp (disch := first | omega | (simp only [yA, yB, yC, yD, yE] <;> omega) | fail) [go_sem, yF, yG, yH, *, if_pos, if_neg, -List.map_take, -List.map_drop, -List.map_append, -List.map_reverse]); exact rfl)) | ((fail_if_success (with_reducible show Is _ _)); (first | ((with_reducible refine fun (hc : (_ : Bool) = _) => ?_); (try simp only [xA, xB, xC, xD, xE, xF, xG, xH, reduceCtorEq, xI, xJ, xK, xL, xM, xN, xO, xP, xQ, xR] at hc); (try (have hx : True := hc; clear hx hc)); (try (exfalso; omega)); (try (with_reducible (exact absurd hc (by assumption)))); (try (with_reducible (exact absurd (by assumption) hc)))) | ((fail_if_success (with_reducible show ACall _ _ _ _ _)); (try ((with_reducible show _ ∨ _); first | exact .inl rfl | (refine .inr ⟨rfl, ?_, ?_⟩; (focus (repeat (first | exact trivial | refine ⟨.inl rfl, ?_⟩ | refine ⟨.inr rfl, ?_⟩))); (first | exact trivial | exact rfl))))))))))
              rfl
        · obtain rfl : j = s.length := by omega
          rw [List.take_length] at hd h6 hb
          have e1 : decOk 10 s = true := by simp only [decOk, hh, hd, Bool.and_self]
          rw [decR, if_pos e1, e1]
          repeat' (first | (with_reducible (first | apply w_seq | apply w_region | apply w_block | apply w_skip | apply w_exit | apply w_ret | apply w_then | apply w_then_exit | apply w_then_ret | apply w_in | apply w_in_here | apply w_in_ret | apply w_round | apply o_nil | apply d_nil)) | ((with_reducible (first | apply w_in_exit)); rfl) | ((with_reducible (first | apply w_draw)); rfl) | ((first | ((with_reducible (first | apply o_op | apply d_op | apply q_op)); rfl; rfl) | ((with_reducible (first | apply w_cond | apply w_end | apply w_return))) | ((with_reducible (first | apply o_guard | apply d_guard | apply q_guard)); rfl)); all_goals (first | ((with_reducible show Is _ _); ((try simp (disch := first | omega | (simp only [yA, yB, yC, yD, yE] <;> omega) | fail) [go_sem, yF, yG, yH, *, if_pos, if_neg, -List.map_take, -List.map_drop, -List.map_append, -List.map_reverse]); exact rfl)) | ((fail_if_success (with_reducible show Is _ _)); (first | ((with_reducible refine fun (hc : (_ : Bool) = _) => ?_); (try simp only [xA, xB, xC, xD, xE, xF, xG, xH, reduceCtorEq, xI, xJ, xK, xL, xM, xN, xO, xP, xQ, xR] at hc); (try (have hx : True := hc; clear hx hc)); (try (exfalso; omega)); (try (with_reducible (exact absurd hc (by assumption)))); (try (with_reducible (exact absurd (by assumption) hc)))) | ((fail_if_success (with_reducible show ACall _ _ _ _ _)); (try ((with_reducible show _ ∨ _); first | exact .inl rfl | (refine .inr ⟨rfl, ?_, ?_⟩; (focus (repeat (first | exact trivial | refine ⟨.inl rfl, ?_⟩ | refine ⟨.inr rfl, ?_⟩))); (first | exact trivial | exact rfl))))))))))
          rfl
      · clear hz'
        repeat' (first | (with_reducible (first | apply w_seq | apply w_region | apply w_block | apply w_skip | apply w_exit | apply w_ret | apply w_then | apply w_then_exit | apply w_then_ret | apply w_in | apply w_in_here | apply w_in_ret | apply w_round | apply o_nil | apply d_nil)) | ((with_reducible (first | apply w_in_exit)); rfl) | ((with_reducible (first | apply w_draw)); rfl) | ((first | ((with_reducible (first | apply o_op | apply d_op | apply q_op)); rfl; rfl) | ((with_reducible (first | apply w_cond | apply w_end | apply w_return))) | ((with_reducible (first | apply o_guard | apply d_guard | apply q_guard)); rfl)); all_goals (first | ((with_reducible show Is _ _); ((try simp (disch := first | omega | (simp only [yA, yB, yC, yD, yE] <;> omega) | fail) [go_sem, yF, yG, yH, *, if_pos, if_neg, -List.map_take, -List.map_drop, -List.map_append, -List.map_reverse]); exact rfl)) | ((fail_if_success (with_reducible show Is _ _)); (first | ((with_reducible refine fun (hc : (_ : Bool) = _) => ?_); (try simp only [xA, xB, xC, xD, xE, xF, xG, xH, reduceCtorEq, xI, xJ, xK, xL, xM, xN, xO, xP, xQ, xR] at hc); (try (have hx : True := hc; clear hx hc)); (try (exfalso; omega)); (try (with_reducible (exact absurd hc (by assumption)))); (try (with_reducible (exact absurd (by assumption) hc)))) | ((fail_if_success (with_reducible show ACall _ _ _ _ _)); (try ((with_reducible show _ ∨ _); first | exact .inl rfl | (refine .inr ⟨rfl, ?_, ?_⟩; (focus (repeat (first | exact trivial | refine ⟨.inl rfl, ?_⟩ | refine ⟨.inr rfl, ?_⟩))); (first | exact trivial | exact rfl))))))))))
        refine w_loop (fun fr B => B = [] ∧ ∃ j : Nat, j ≤ s.length ∧ (s.take j).all isDig = true ∧ fr 28 = .int .i64 j ∧ fr 0 = .str s ∧ fr 6 = .int .i64 (decV (s.take j)) ∧ fr 27 = .int .i64 s.length ∧ fr 1 = .int .i64 lim) (fun fr _ => s.length - natOf (fr 28)) ?_ ?_
        · exact ⟨rfl, 0, by omega, rfl, by (simp (disch := omega) [go_sem, *]) <;> (try omega), by (simp (disch := omega) [go_sem, *]) <;> (try omega), by (simp (disch := omega) [go_sem, *, decV]) <;> (try omega), by (simp (disch := omega) [go_sem, *]) <;> (try omega), by (simp (disch := omega) [go_sem, *]) <;> (try omega)⟩
        rintro fr B ⟨rfl, j, hj, hd, hix, hs0, h6, hx1, hx2⟩
        have hb := dec_bound hd (by omega)
        by_cases hc : j < s.length
        · have hnx := decV_take hc
          have hall := all_take hc
          rw [hd, Bool.true_and] at hall
          have hlt := (s[j]).toNat_lt
          by_cases hg : isDig s[j] = true
          · rw [hg] at hall
            have hg2 : 48 ≤ s[j].toNat ∧ s[j].toNat ≤ 57 := by simpa [isDig] using hg
            have hb2 := dec_bound hall (by omega)
            have hnx2 : (decV (s.take (j + 1)) : Int) = 10 * decV (s.take j) + (s[j].toNat - 48) := by omega
            rw [hnx] at hb2
            repeat' (first | (with_reducible (first | apply w_seq | apply w_region | apply w_block | apply w_skip | apply w_exit | apply w_ret | apply w_then | apply w_then_exit | apply w_then_ret | apply w_in | apply w_in_here | apply w_in_ret | apply w_round | apply o_nil | apply d_nil)) | ((with_reducible (first | apply w_in_exit)); rfl) | ((with_reducible (first | apply w_draw)); rfl) | ((first | ((with_reducible (first | apply o_op | apply d_op | apply q_op)); rfl; rfl) | ((with_reducible (first | apply w_cond | apply w_end | apply w_return))) | ((with_reducible (first | apply o_guard | apply d_guard | apply q_guard)); rfl)); all_goals (first | ((with_reducible show Is _ _); ((try simp (disch := first | omega | (simp only [yA, yB, yC, yD, yE] <;> omega) | fail) [go_sem, yF, yG, yH, *, if_pos, if_neg, -List.map_take, -List.map_drop, -List.map_append, -List.map_reverse]); exact rfl)) | ((fail_if_success (with_reducible show Is _ _)); (first | ((with_reducible refine fun (hc : (_ : Bool) = _) => ?_); (try simp only [xA, xB, xC, xD, xE, xF, xG, xH, reduceCtorEq, xI, xJ, xK, xL, xM, xN, xO, xP, xQ, xR] at hc); (try (have hx : True := hc; clear hx hc)); (try (exfalso; omega)); (try (with_reducible (exact absurd hc (by assumption)))); (try (with_reducible (exact absurd (by assumption) hc)))) | ((fail_if_success (with_reducible show ACall _ _ _ _ _)); (try ((with_reducible show _ ∨ _); first | exact .inl rfl | (refine .inr ⟨rfl, ?_, ?_⟩; (focus (repeat (first | exact trivial | refine ⟨.inl rfl, ?_⟩ | refine ⟨.inr rfl, ?_⟩))); (first | exact trivial | exact rfl))))))))))
            exact ⟨⟨rfl, j + 1, by omega, hall, by (simp (disch := omega) [go_sem, *]) <;> (try omega), by (simp (disch := omega) [go_sem, *]) <;> (try omega), by rw [hnx2] <;> (simp (disch := omega) [go_sem, *]) <;> (try omega), by (simp (disch := omega) [go_sem, *]) <;> (try omega), by (simp (disch := omega) [go_sem, *]) <;> (try omega)⟩, by (simp (disch := omega) [go_sem, *]) <;> (try omega)⟩
          · have hna := not_all hc (by simpa using hg)
            have e1 : decR 10 s = 0 ∧ decOk 10 s = false := by simp [decR, decOk, hna]
            have hg2 : s[j].toNat < 48 ∨ 57 < s[j].toNat := by
              have : ¬ (48 ≤ s[j].toNat ∧ s[j].toNat ≤ 57) := by simpa [isDig] using hg
              omega
            rw [e1.1, e1.2]
            rcases hg2 with hg2 | hg2
            · repeat' (first | (with_reducible (first | apply w_seq | apply w_region | apply w_block | apply w_skip | apply w_exit | apply w_ret | apply w_then | apply w_then_exit | apply w_then_ret | apply w_in | apply w_in_here | apply w_in_ret | apply w_round | apply o_nil | apply d_nil)) | ((with_reducible (first | apply w_in_exit)); rfl) | ((with_reducible (first | apply w_draw)); rfl) | ((first | ((with_reducible (first | apply o_op | apply d_op | apply q_op)); rfl; rfl) | ((with_reducible (first | apply w_cond | apply w_end | apply w_return))) | ((with_reducible (first | apply o_guard | apply d_guard | apply q_guard)); rfl)); all_goals (first | ((with_reducible show Is _ _); ((try simp (disch := first | omega | (simp only [yA, yB, yC, yD, yE] <;> omega) | fail) [go_sem, yF, yG, yH, *, if_pos, if_neg, -List.map_take, -List.map_drop, -List.map_append, -List.map_reverse]); exact rfl)) | ((fail_if_success (with_reducible show Is _ _)); (first | ((with_reducible refine fun (hc : (_ : Bool) = _) => ?_); (try simp only [xA, xB, xC, xD, xE, xF, xG, xH, reduceCtorEq, xI, xJ, xK, xL, xM, xN, xO, xP, xQ, xR] at hc); (try (have hx : True := hc; clear hx hc)); (try (exfalso; omega)); (try (with_reducible (exact absurd hc (by assumption)))); (try (with_reducible (exact absurd (by assumption) hc)))) | ((fail_if_success (with_reducible show ACall _ _ _ _ _)); (try ((with_reducible show _ ∨ _); first | exact .inl rfl | (refine .inr ⟨rfl, ?_, ?_⟩; (focus (repeat (first | exact trivial | refine ⟨.inl rfl, ?_⟩ | refine ⟨.inr rfl, ?_⟩))); (first | exact trivial | exact rfl))))))))))
              rfl
            · have hg3 : ¬ (s[j].toNat : Int) < 48 := by omega
              repeat' (first | (with_reducible (first | apply w_seq | apply w_region | apply w_block | apply w_skip | apply w_exit | apply w_ret | apply w_then | apply w_then_exit | apply w_then_ret | apply w_in | apply w_in_here | apply w_in_ret | apply w_round | apply o_nil | apply d_nil)) | ((with_reducible (first | apply w_in_exit)); rfl) | ((with_reducible (first | apply w_draw)); rfl) | ((first | ((with_reducible (first | apply o_op | apply d_op | apply q_op)); rfl; rfl) | ((with_reducible (first | apply w_cond | apply w_end | apply w_return))) | ((with_reducible (first | apply o_guard | apply d_guard | apply q_guard)); rfl)); all_goals (first | ((with_reducible show Is _ _); ((try simp (disch := first | omega | (simp only [yA, yB, yC, yD, yE] <;> omega) | fail) [go_sem, yF, yG, yH, *, if_pos, if_neg, -List.map_take, -List.map_drop, -List.map_append, -List.map_reverse]); exact rfl)) | ((fail_if_success (with_reducible show Is _ _)); (first | ((with_reducible refine fun (hc : (_ : Bool) = _) => ?_); (try simp only [xA, xB, xC, xD, xE, xF, xG, xH, reduceCtorEq, xI, xJ, xK, xL, xM, xN, xO, xP, xQ, xR] at hc); (try (have hx : True := hc; clear hx hc)); (try (exfalso; omega)); (try (with_reducible (exact absurd hc (by assumption)))); (try (with_reducible (exact absurd (by assumption) hc)))) | ((fail_if_success (with_reducible show ACall _ _ _ _ _)); (try ((with_reducible show _ ∨ _); first | exact .inl rfl | (refine .inr ⟨rfl, ?_, ?_⟩; (focus (repeat (first | exact trivial | refine ⟨.inl rfl, ?_⟩ | refine ⟨.inr rfl, ?_⟩))); (first | exact trivial | exact rfl))))))))))
              rfl
        · obtain rfl : j = s.length := by omega
          rw [List.take_length] at hd h6 hb
          have e1 : decOk 10 s = true := by simp only [decOk, hh, hd, Bool.and_self]
          rw [decR, if_pos e1, e1]
          repeat' (first | (with_reducible (first | apply w_seq | apply w_region | apply w_block | apply w_skip | apply w_exit | apply w_ret | apply w_then | apply w_then_exit | apply w_then_ret | apply w_in | apply w_in_here | apply w_in_ret | apply w_round | apply o_nil | apply d_nil)) | ((with_reducible (first | apply w_in_exit)); rfl) | ((with_reducible (first | apply w_draw)); rfl) | ((first | ((with_reducible (first | apply o_op | apply d_op | apply q_op)); rfl; rfl) | ((with_reducible (first | apply w_cond | apply w_end | apply w_return))) | ((with_reducible (first | apply o_guard | apply d_guard | apply q_guard)); rfl)); all_goals (first | ((with_reducible show Is _ _); ((try simp (disch := first | omega | (simp only [yA, yB, yC, yD, yE] <;> omega) | fail) [go_sem, yF, yG, yH, *, if_pos, if_neg, -List.map_take, -List.map_drop, -List.map_append, -List.map_reverse]); exact rfl)) | ((fail_if_success (with_reducible show Is _ _)); (first | ((with_reducible refine fun (hc : (_ : Bool) = _) => ?_); (try simp only [xA, xB, xC, xD, xE, xF, xG, xH, reduceCtorEq, xI, xJ, xK, xL, xM, xN, xO, xP, xQ, xR] at hc); (try (have hx : True := hc; clear hx hc)); (try (exfalso; omega)); (try (with_reducible (exact absurd hc (by assumption)))); (try (with_reducible (exact absurd (by assumption) hc)))) | ((fail_if_success (with_reducible show ACall _ _ _ _ _)); (try ((with_reducible show _ ∨ _); first | exact .inl rfl | (refine .inr ⟨rfl, ?_, ?_⟩; (focus (repeat (first | exact trivial | refine ⟨.inl rfl, ?_⟩ | refine ⟨.inr rfl, ?_⟩))); (first | exact trivial | exact rfl))))))))))
          rfl
  · obtain ⟨e1, e2⟩ := hbad (by simp [headOk]; omega)
    rw [e1, e2]
    repeat' (first | (with_reducible (first | apply w_seq | apply w_region | apply w_block | apply w_skip | apply w_exit | apply w_ret | apply w_then | apply w_then_exit | apply w_then_ret | apply w_in | apply w_in_here | apply w_in_ret | apply w_round | apply o_nil | apply d_nil)) | ((with_reducible (first | apply w_in_exit)); rfl) | ((with_reducible (first | apply w_draw)); rfl) | ((first | ((with_reducible (first | apply o_op | apply d_op | apply q_op)); rfl; rfl) | ((with_reducible (first | apply w_cond | apply w_end | apply w_return))) | ((with_reducible (first | apply o_guard | apply d_guard | apply q_guard)); rfl)); all_goals (first | ((with_reducible show Is _ _); ((try simp (disch := first | omega | (simp only [yA, yB, yC, yD, yE] <;> omega) | fail) [go_sem, yF, yG, yH, *, if_pos, if_neg, -List.map_take, -List.map_drop, -List.map_append, -List.map_reverse]); exact rfl)) | ((fail_if_success (with_reducible show Is _ _)); (first | ((with_reducible refine fun (hc : (_ : Bool) = _) => ?_); (try simp only [xA, xB, xC, xD, xE, xF, xG, xH, reduceCtorEq, xI, xJ, xK, xL, xM, xN, xO, xP, xQ, xR] at hc); (try (have hx : True := hc; clear hx hc)); (try (exfalso; omega)); (try (with_reducible (exact absurd hc (by assumption)))); (try (with_reducible (exact absurd (by assumption) hc)))) | ((fail_if_success (with_reducible show ACall _ _ _ _ _)); (try ((with_reducible show _ ∨ _); first | exact .inl rfl | (refine .inr ⟨rfl, ?_, ?_⟩; (focus (repeat (first | exact trivial | refine ⟨.inl rfl, ?_⟩ | refine ⟨.inr rfl, ?_⟩))); (first | exact trivial | exact rfl))))))))))
    rfl
theorem rnumber_in (s : List UInt8) (m : Nat) (hm : m ≤ 10) (hs : s.length < 4611686018427387904) : PC Tryd.prog true 74 [.str s, .int .i64 m] (.tup [.int .i64 (decR m s), .bool (decOk m s)]) := by
  refine acall_intro mixed Tryd.func74 rfl ca74 (by kernel_rfl) (by rw [Tryd.ntmps74]; simp) ?_
  have hbad : headOk m s = false → decR m s = 0 ∧ decOk m s = false := fun h => by simp [decR, decOk, h]
  by_cases h0 : s.length = 0
  · obtain ⟨e1, e2⟩ := hbad (by simp [headOk, h0])
    have : s = [] := List.eq_nil_of_length_eq_zero h0
    subst this
    repeat' (first | (with_reducible (first | apply w_seq | apply w_region | apply w_block | apply w_skip | apply w_exit | apply w_ret | apply w_then | apply w_then_exit | apply w_then_ret | apply w_in | apply w_in_here | apply w_in_ret | apply w_round | apply o_nil | apply d_nil)) | ((with_reducible (first | apply w_in_exit)); rfl) | ((with_reducible (first | apply w_draw)); rfl) | ((first | ((with_reducible (first | apply o_op | apply d_op | apply q_op)); rfl; rfl) | ((with_reducible (first | apply w_cond | apply w_end | apply w_return))) | ((with_reducible (first | apply o_guard | apply d_guard | apply q_guard)); rfl)); all_goals (first | ((with_reducible show Is _ _); ((try simp (disch := first | omega | (simp only [yA, yB, yC, yD, yE] <;> omega) | fail) [go_sem, yF, yG, yH, *, if_pos, if_neg, -List.map_take, -List.map_drop, -List.map_append, -List.map_reverse]); exact rfl)) | ((fail_if_success (with_reducible show Is _ _)); (first | ((with_reducible refine fun (hc : (_ : Bool) = _) => ?_); (try simp only [xA, xB, xC, xD, xE, xF, xG, xH, reduceCtorEq, xI, xJ, xK, xL, xM, xN, xO, xP, xQ, xR] at hc); (try (have hx : True := hc; clear hx hc)); (try (exfalso; omega)); (try (with_reducible (exact absurd hc (by assumption)))); (try (with_reducible (exact absurd (by assumption) hc)))) | ((fail_if_success (with_reducible show ACall _ _ _ _ _)); (try ((with_reducible show _ ∨ _); first | exact .inl rfl | (refine .inr ⟨rfl, ?_, ?_⟩; (focus (repeat (first | exact trivial | refine ⟨.inl rfl, ?_⟩ | refine ⟨.inr rfl, ?_⟩))); (first | exact trivial | exact rfl))))))))))
    rfl
  have hpos : 0 < s.length := by omega
  by_cases h10 : s.length ≤ m
  · by_cases hz : 1 < s.length ∧ s[0]'hpos = 48
    · obtain ⟨hz1, hz2⟩ := hz
      have hh : s.head? = some 48 := by rw [List.head?_eq_getElem?, List.getElem?_eq_getElem (by omega), hz2]
      obtain ⟨e1, e2⟩ := hbad (by simp [headOk, hz1, hh])
      rw [e1, e2]
      repeat' (first | (with_reducible (first | apply w_seq | apply w_region | apply w_block | apply w_skip | apply w_exit | apply w_ret | apply w_then | apply w_then_exit | apply w_then_ret | apply w_in | apply w_in_here | apply w_in_ret | apply w_round | apply o_nil | apply d_nil)) | ((with_reducible (first | apply w_in_exit)); rfl) | ((with_reducible (first | apply w_draw)); rfl) | ((first | ((with_reducible (first | apply o_op | apply d_op | apply q_op)); rfl; rfl) | ((with_reducible (first | apply w_cond | apply w_end | apply w_return))) | ((with_reducible (first | apply o_guard | apply d_guard | apply q_guard)); rfl)); all_goals (first | ((with_reducible show Is _ _); ((try simp (disch := first | omega | (simp only [yA, yB, yC, yD, yE] <;> omega) | fail) [go_sem, yF, yG, yH, *, if_pos, if_neg, -List.map_take, -List.map_drop, -List.map_append, -List.map_reverse]); exact rfl)) | ((fail_if_success (with_reducible show Is _ _)); (first | ((with_reducible refine fun (hc : (_ : Bool) = _) => ?_); (try simp only [xA, xB, xC, xD, xE, xF, xG, xH, reduceCtorEq, xI, xJ, xK, xL, xM, xN, xO, xP, xQ, xR] at hc); (try (have hx : True := hc; clear hx hc)); (try (exfalso; omega)); (try (with_reducible (exact absurd hc (by assumption)))); (try (with_reducible (exact absurd (by assumption) hc)))) | ((fail_if_success (with_reducible show ACall _ _ _ _ _)); (try ((with_reducible show _ ∨ _); first | exact .inl rfl | (refine .inr ⟨rfl, ?_, ?_⟩; (focus (repeat (first | exact trivial | refine ⟨.inl rfl, ?_⟩ | refine ⟨.inr rfl, ?_⟩))); (first | exact trivial | exact rfl))))))))))
      rfl
    · have hh : headOk m s = true := by
        cases s with
        | nil => simp at h0
        | cons c s => simp [headOk] at hz ⊢; simp at h10; exact ⟨h10, by cases s with | nil => exact .inl rfl | cons d s => exact .inr (hz (by simp))⟩
      have hz' : 1 < s.length → (s[0]'hpos).toNat ≠ 48 := fun h e => hz ⟨h, UInt8.toNat_inj.1 e⟩
      clear hbad hz
      by_cases h1l : 1 < s.length
      · have hz2 := hz' h1l
        clear hz'
        have hz3 : ((s[0]'hpos).toNat : Int) ≠ 48 := by omega
        repeat' (first | (with_reducible (first | apply w_seq | apply w_region | apply w_block | apply w_skip | apply w_exit | apply w_ret | apply w_then | apply w_then_exit | apply w_then_ret | apply w_in | apply w_in_here | apply w_in_ret | apply w_round | apply o_nil | apply d_nil)) | ((with_reducible (first | apply w_in_exit)); rfl) | ((with_reducible (first | apply w_draw)); rfl) | ((first | ((with_reducible (first | apply o_op | apply d_op | apply q_op)); rfl; rfl) | ((with_reducible (first | apply w_cond | apply w_end | apply w_return))) | ((with_reducible (first | apply o_guard | apply d_guard | apply q_guard)); rfl)); all_goals (first | ((with_reducible show Is _ _); ((try simp (disch := first | omega | (simp only [yA, yB, yC, yD, yE] <;> omega) | fail) [go_sem, yF, yG, yH, *, if_pos, if_neg, -List.map_take, -List.map_drop, -List.map_append, -List.map_reverse]); exact rfl)) | ((fail_if_success (with_reducible show Is _ _)); (first | ((with_reducible refine fun (hc : (_ : Bool) = _) => ?_); (try simp only [xA, xB, xC, xD, xE, xF, xG, xH, reduceCtorEq, xI, xJ, xK, xL, xM, xN, xO, xP, xQ, xR] at hc); (try (have hx : True := hc; clear hx hc)); (try (exfalso; omega)); (try (with_reducible (exact absurd hc (by assumption)))); (try (with_reducible (exact absurd (by assumption) hc)))) | ((fail_if_success (with_reducible show ACall _ _ _ _ _)); (try ((with_reducible show _ ∨ _); first | exact .inl rfl | (refine .inr ⟨rfl, ?_, ?_⟩; (focus (repeat (first | exact trivial | refine ⟨.inl rfl, ?_⟩ | refine ⟨.inr rfl, ?_⟩))); (first | exact trivial | exact rfl))))))))))
        refine w_loop (fun fr B => B = [] ∧ ∃ j : Nat, j ≤ s.length ∧ (s.take j).all isDig = true ∧ fr 7 = .int .i64 j ∧ fr 0 = .str s ∧ fr 6 = .int .i64 (decV (s.take j)) ∧ fr 1 = .int .i64 m ∧ fr 1 = .int .i64 m) (fun fr _ => s.length - natOf (fr 7)) ?_ ?_
        · exact ⟨rfl, 0, by omega, rfl, by (simp (disch := omega) [go_sem, *]) <;> (try omega), by (simp (disch := omega) [go_sem, *]) <;> (try omega), by (simp (disch := omega) [go_sem, *, decV]) <;> (try omega), by (simp (disch := omega) [go_sem, *]) <;> (try omega), by (simp (disch := omega) [go_sem, *]) <;> (try omega)⟩
        rintro fr B ⟨rfl, j, hj, hd, hix, hs0, h6, hx1, hx2⟩
        have hb := dec_bound hd (by omega)
        by_cases hc : j < s.length
        · have hnx := decV_take hc
          have hall := all_take hc
          rw [hd, Bool.true_and] at hall
          have hlt := (s[j]).toNat_lt
          by_cases hg : isDig s[j] = true
          · rw [hg] at hall
            have hg2 : 48 ≤ s[j].toNat ∧ s[j].toNat ≤ 57 := by simpa [isDig] using hg
            have hb2 := dec_bound hall (by omega)
            have hnx2 : (decV (s.take (j + 1)) : Int) = 10 * decV (s.take j) + (s[j].toNat - 48) := by omega
            rw [hnx] at hb2
            repeat' (first | (with_reducible (first | apply w_seq | apply w_region | apply w_block | apply w_skip | apply w_exit | apply w_ret | apply w_then | apply w_then_exit | apply w_then_ret | apply w_in | apply w_in_here | apply w_in_ret | apply w_round | apply o_nil | apply d_nil)) | ((with_reducible (first | apply w_in_exit)); rfl) | ((with_reducible (first | apply w_draw)); rfl) | ((first | ((with_reducible (first | apply o_op | apply d_op | apply q_op)); rfl; rfl) | ((with_reducible (first | apply w_cond | apply w_end | apply w_return))) | ((with_reducible (first | apply o_guard | apply d_guard | apply q_guard)); rfl)); all_goals (first | ((with_reducible show Is _ _); ((try simp (disch := first | omega | (simp only [yA, yB, yC, yD, yE] <;> omega) | fail) [go_sem, yF, yG, yH, *, if_pos, if_neg, -List.map_take, -List.map_drop, -List.map_append, -List.map_reverse]); exact rfl)) | ((fail_if_success (with_reducible show Is _ _)); (first | ((with_reducible refine fun (hc : (_ : Bool) = _) => ?_); (try simp only [xA, xB, xC, xD, xE, xF, xG, xH, reduceCtorEq, xI, xJ, xK, xL, xM, xN, xO, xP, xQ, xR] at hc); (try (have hx : True := hc; clear hx hc)); (try (exfalso; omega)); (try (with_reducible (exact absurd hc (by assumption)))); (try (with_reducible (exact absurd (by assumption) hc)))) | ((fail_if_success (with_reducible show ACall _ _ _ _ _)); (try ((with_reducible show _ ∨ _); first | exact .inl rfl | (refine .inr ⟨rfl, ?_, ?_⟩; (focus (repeat (first | exact trivial | refine ⟨.inl rfl, ?_⟩ | refine ⟨.inr rfl, ?_⟩))); (first | exact trivial | exact rfl))))))))))
            exact ⟨⟨rfl, j + 1, by omega, hall, by (simp (disch := omega) [go_sem, *]) <;> (try omega), by (simp (disch := omega) [go_sem, *]) <;> (try omega), by rw [hnx2] <;> (simp (disch := omega) [go_sem, *]) <;> (try omega), by (simp (disch := omega) [go_sem, *]) <;> (try omega), by (simp (disch := omega) [go_sem, *]) <;> (try omega)⟩, by (simp (disch := omega) [go_sem, *]) <;> (try omega)⟩
          · have hna := not_all hc (by simpa using hg)
            have e1 : decR m s = 0 ∧ decOk m s = false := by simp [decR, decOk, hna]
            have hg2 : s[j].toNat < 48 ∨ 57 < s[j].toNat := by
              have : ¬ (48 ≤ s[j].toNat ∧ s[j].toNat ≤ 57) := by simpa [isDig] using hg
              omega
            rw [e1.1, e1.2]
            rcases hg2 with hg2 | hg2
            · repeat' (first | (with_reducible (first | apply w_seq | apply w_region | apply w_block | apply w_skip | apply w_exit | apply w_ret | apply w_then | apply w_then_exit | apply w_then_ret | apply w_in | apply w_in_here | apply w_in_ret | apply w_round | apply o_nil | apply d_nil)) | ((with_reducible (first | apply w_in_exit)); rfl) | ((with_reducible (first | apply w_draw)); rfl) | ((first | ((with_reducible (first | apply o_op | apply d_op | apply q_op)); rfl; rfl) | ((with_reducible (first | apply w_cond | apply w_end | apply w_return))) | ((with_reducible (first | apply o_guard | apply d_guard | apply q_guard)); rfl)); all_goals (first | ((with_reducible show Is _ _); ((try simp (disch := first | omega | (simp only [yA, yB, yC, yD, yE] <;> omega) | fail) [go_sem, yF, yG, yH, *, if_pos, if_neg, -List.map_take, -List.map_drop, -List.map_append, -List.map_reverse]); exact rfl)) | ((fail_if_success (with_reducible show Is _ _)); (first | ((with_reducible refine fun (hc : (_ : Bool) = _) => ?_); (try simp only [xA, xB, xC, xD, xE, xF, xG, xH, reduceCtorEq, xI, xJ, xK, xL, xM, xN, xO, xP, xQ, xR] at hc); (try (have hx : True := hc; clear hx hc)); (try (exfalso; omega)); (try (with_reducible (exact absurd hc (by assumption)))); (try (with_reducible (exact absurd (by assumption) hc)))) | ((fail_if_success (with_reducible show ACall _ _ _ _ _)); (try ((with_reducible show _ ∨ _); first | exact .inl rfl | (refine .inr ⟨rfl, ?_, ?_⟩; (focus (repeat (first | exact trivial | refine ⟨.inl rfl, ?_⟩ | refine ⟨.inr rfl, ?_⟩))); (first | exact trivial | exact rfl))))))))))
              rfl
            · have hg3 : ¬ (s[j].toNat : Int) < 48 := by omega
              repeat' (first | (with_reducible (first | apply w_seq | apply w_region | apply w_block | apply w_skip | apply w_exit | apply w_ret | apply w_then | apply w_then_exit | apply w_then_ret | apply w_in | apply w_in_here | apply w_in_ret | apply w_round | apply o_nil | apply d_nil)) | ((with_reducible (first | apply w_in_exit)); rfl) | ((with_reducible (first | apply w_draw)); rfl) | ((first | ((with_reducible (first | apply o_op | apply d_op | apply q_op)); rfl; rfl) | ((with_reducible (first | apply w_cond | apply w_end | apply w_return))) | ((with_reducible (first | apply o_guard | apply d_guard | apply q_guard)); rfl)); all_goals (first | ((with_reducible show Is _ _); ((try simp (disch := first | omega | (simp only [yA, yB, yC, yD, yE] <;> omega) | fail) [go_sem, yF, yG, yH, *, if_pos, if_neg, -List.map_take, -List.map_drop, -List.map_append, -List.map_reverse]); exact rfl)) | ((fail_if_success (with_reducible show Is _ _)); (first | ((with_reducible refine fun (hc : (_ : Bool) = _) => ?_); (try simp only [xA, xB, xC, xD, xE, xF, xG, xH, reduceCtorEq, xI, xJ, xK, xL, xM, xN, xO, xP, xQ, xR] at hc); (try (have hx : True := hc; clear hx hc)); (try (exfalso; omega)); (try (with_reducible (exact absurd hc (by assumption)))); (try (with_reducible (exact absurd (by assumption) hc)))) | ((fail_if_success (with_reducible show ACall _ _ _ _ _)); (try ((with_reducible show _ ∨ _); first | exact .inl rfl | (refine .inr ⟨rfl, ?_, ?_⟩; (focus (repeat (first | exact trivial | refine ⟨.inl rfl, ?_⟩ | refine ⟨.inr rfl, ?_⟩))); (first | exact trivial | exact rfl))))))))))
              rfl
        · obtain rfl : j = s.length := by omega
          rw [List.take_length] at hd h6 hb
          have e1 : decOk m s = true := by simp only [decOk, hh, hd, Bool.and_self]
          rw [decR, if_pos e1, e1]
          repeat' (first | (with_reducible (first | apply w_seq | apply w_region | apply w_block | apply w_skip | apply w_exit | apply w_ret | apply w_then | apply w_then_exit | apply w_then_ret | apply w_in | apply w_in_here | apply w_in_ret | apply w_round | apply o_nil | apply d_nil)) | ((with_reducible (first | apply w_in_exit)); rfl) | ((with_reducible (first | apply w_draw)); rfl) | ((first | ((with_reducible (first | apply o_op | apply d_op | apply q_op)); rfl; rfl) | ((with_reducible (first | apply w_cond | apply w_end | apply w_return))) | ((with_reducible (first | apply o_guard | apply d_guard | apply q_guard)); rfl)); all_goals (first | ((with_reducible show Is _ _); ((try simp (disch := first | omega | (simp only [yA, yB, yC, yD, yE] <;> omega) | fail) [go_sem, yF, yG, yH, *, if_pos, if_neg, -List.map_take, -List.map_drop, -List.map_append, -List.map_reverse]); exact rfl)) | ((fail_if_success (with_reducible show Is _ _)); (first | ((with_reducible refine fun (hc : (_ : Bool) = _) => ?_); (try simp only [xA, xB, xC, xD, xE, xF, xG, xH, reduceCtorEq, xI, xJ, xK, xL, xM, xN, xO, xP, xQ, xR] at hc); (try (have hx : True := hc; clear hx hc)); (try (exfalso; omega)); (try (with_reducible (exact absurd hc (by assumption)))); (try (with_reducible (exact absurd (by assumption) hc)))) | ((fail_if_success (with_reducible show ACall _ _ _ _ _)); (try ((with_reducible show _ ∨ _); first | exact .inl rfl | (refine .inr ⟨rfl, ?_, ?_⟩; (focus (repeat (first | exact trivial | refine ⟨.inl rfl, ?_⟩ | refine ⟨.inr rfl, ?_⟩))); (first | exact trivial | exact rfl))))))))))
          rfl
      · clear hz'
        repeat' (first | (with_reducible (first | apply w_seq | apply w_region | apply w_block | apply w_skip | apply w_exit | apply w_ret | apply w_then | apply w_then_exit | apply w_then_ret | apply w_in | apply w_in_here | apply w_in_ret | apply w_round | apply o_nil | apply d_nil)) | ((with_reducible (first | apply w_in_exit)); rfl) | ((with_reducible (first | apply w_draw)); rfl) | ((first | ((with_reducible (first | apply o_op | apply d_op | apply q_op)); rfl; rfl) | ((with_reducible (first | apply w_cond | apply w_end | apply w_return))) | ((with_reducible (first | apply o_guard | apply d_guard | apply q_guard)); rfl)); all_goals (first | ((with_reducible show Is _ _); ((try simp (disch := first | omega | (simp only [yA, yB, yC, yD, yE] <;> omega) | fail) [go_sem, yF, yG, yH, *, if_pos, if_neg, -List.map_take, -List.map_drop, -List.map_append, -List.map_reverse]); exact rfl)) | ((fail_if_success (with_reducible show Is _ _)); (first | ((with_reducible refine fun (hc : (_ : Bool) = _) => ?_); (try simp only [xA, xB, xC, xD, xE, xF, xG, xH, reduceCtorEq, xI, xJ, xK, xL, xM, xN, xO, xP, xQ, xR] at hc); (try (have hx : True := hc; clear hx hc)); (try (exfalso; omega)); (try (with_reducible (exact absurd hc (by assumption)))); (try (with_reducible (exact absurd (by assumption) hc)))) | ((fail_if_success (with_reducible show ACall _ _ _ _ _)); (try ((with_reducible show _ ∨ _); first | exact .inl rfl | (refine .inr ⟨rfl, ?_, ?_⟩; (focus (repeat (first | exact trivial | refine ⟨.inl rfl, ?_⟩ | refine ⟨.inr rfl, ?_⟩))); (first | exact trivial | exact rfl))))))))))
        refine w_loop (fun fr B => B = [] ∧ ∃ j : Nat, j ≤ s.length ∧ (s.take j).all isDig = true ∧ fr 7 = .int .i64 j ∧ fr 0 = .str s ∧ fr 6 = .int .i64 (decV (s.take j)) ∧ fr 1 = .int .i64 m ∧ fr 1 = .int .i64 m) (fun fr _ => s.length - natOf (fr 7)) ?_ ?_
        · exact ⟨rfl, 0, by omega, rfl, by (simp (disch := omega) [go_sem, *]) <;> (try omega), by (simp (disch := omega) [go_sem, *]) <;> (try omega), by (simp (disch := omega) [go_sem, *, decV]) <;> (try omega), by (simp (disch := omega) [go_sem, *]) <;> (try omega), by (simp (disch := omega) [go_sem, *]) <;> (try omega)⟩
        rintro fr B ⟨rfl, j, hj, hd, hix, hs0, h6, hx1, hx2⟩
        have hb := dec_bound hd (by omega)
        by_cases hc : j < s.length
        · have hnx := decV_take hc
          have hall := all_take hc
          rw [hd, Bool.true_and] at hall
          have hlt := (s[j]).toNat_lt
          by_cases hg : isDig s[j] = true
          · rw [hg] at hall
            have hg2 : 48 ≤ s[j].toNat ∧ s[j].toNat ≤ 57 := by simpa [isDig] using hg
            have hb2 := dec_bound hall (by omega)
            have hnx2 : (decV (s.take (j + 1)) : Int) = 10 * decV (s.take j) + (s[j].toNat - 48) := by omega
            rw [hnx] at hb2
            repeat' (first | (with_reducible (first | apply w_seq | apply w_region | apply w_block | apply w_skip | apply w_exit | apply w_ret | apply w_then | apply w_then_exit | apply w_then_ret | apply w_in | apply w_in_here | apply w_in_ret | apply w_round | apply o_nil | apply d_nil)) | ((with_reducible (first | apply w_in_exit)); rfl) | ((with_reducible (first | apply w_draw)); rfl) | ((first | ((with_reducible (first | apply o_op | apply d_op | apply q_op)); rfl; rfl) | ((with_reducible (first | apply w_cond | apply w_end | apply w_return))) | ((with_reducible (first | apply o_guard | apply d_guard | apply q_guard)); rfl)); all_goals (first | ((with_reducible show Is _ _); ((try simp (disch := first | omega | (simp only [yA, yB, yC, yD, yE] <;> omega) | fail) [go_sem, yF, yG, yH, *, if_pos, if_neg, -List.map_take, -List.map_drop, -List.map_append, -List.map_reverse]); exact rfl)) | ((fail_if_success (with_reducible show Is _ _)); (first | ((with_reducible refine fun (hc : (_ : Bool) = _) => ?_); (try simp only [xA, xB, xC, xD, xE, xF, xG, xH, reduceCtorEq, xI, xJ, xK, xL, xM, xN, xO, xP, xQ, xR] at hc); (try (have hx : True := hc; clear hx hc)); (try (exfalso; omega)); (try (with_reducible (exact absurd hc (by assumption)))); (try (with_reducible (exact absurd (by assumption) hc)))) | ((fail_if_success (with_reducible show ACall _ _ _ _ _)); (try ((with_reducible show _ ∨ _); first | exact .inl rfl | (refine .inr ⟨rfl, ?_, ?_⟩; (focus (repeat (first | exact trivial | refine ⟨.inl rfl, ?_⟩ | refine ⟨.inr rfl, ?_⟩))); (first | exact trivial | exact rfl))))))))))
            exact ⟨⟨rfl, j + 1, by omega, hall, by (simp (disch := omega) [go_sem, *]) <;> (try omega), by (simp (disch := omega) [go_sem, *]) <;> (try omega), by rw [hnx2] <;> (simp (disch := omega) [go_sem, *]) <;> (try omega), by (simp (disch := omega) [go_sem, *]) <;> (try omega), by (simp (disch := omega) [go_sem, *]) <;> (try omega)⟩, by (simp (disch := omega) [go_sem, *]) <;> (try omega)⟩
          · have hna := not_all hc (by simpa using hg)
            have e1 : decR m s = 0 ∧ decOk m s = false := by simp [decR, decOk, hna]
            have hg2 : s[j].toNat < 48 ∨ 57 < s[j].toNat := by
              have : ¬ (48 ≤ s[j].toNat ∧ s[j].toNat ≤ 57) := by simpa [isDig] using hg
              omega
            rw [e1.1, e1.2]
            rcases hg2 with hg2 | hg2
            · repeat' (first | (with_reducible (first | apply w_seq | apply w_region | apply w_block | apply w_skip | apply w_exit | apply w_ret | apply w_then | apply w_then_exit | apply w_then_ret | apply w_in | apply w_in_here | apply w_in_ret | apply w_round | apply o_nil | apply d_nil)) | ((with_reducible (first | apply w_in_exit)); rfl) | ((with_reducible (first | apply w_draw)); rfl) | ((first | ((with_reducible (first | apply o_op | apply d_op | apply q_op)); rfl; rfl) | ((with_reducible (first | apply w_cond | apply w_end | apply w_return))) | ((with_reducible (first | apply o_guard | apply d_guard | apply q_guard)); rfl)); all_goals (first | ((with_reducible show Is _ _); ((try simp (disch := first | omega | (simp only [yA, yB, yC, yD, yE] <;> omega) | fail) [go_sem, yF, yG, yH, *, if_pos, if_neg, -List.map_take, -List.map_drop, -List.map_append, -List.map_reverse]); exact rfl)) | ((fail_if_success (with_reducible show Is _ _)); (first | ((with_reducible refine fun (hc : (_ : Bool) = _) => ?_); (try simp only [xA, xB, xC, xD, xE, xF, xG, xH, reduceCtorEq, xI, xJ, xK, xL, xM, xN, xO, xP, xQ, xR] at hc); (try (have hx : True := hc; clear hx hc)); (try (exfalso; omega)); (try (with_reducible (exact absurd hc (by assumption)))); (try (with_reducible (exact absurd (by assumption) hc)))) | ((fail_if_success (with_reducible show ACall _ _ _ _ _)); (try ((with_reducible show _ ∨ _); first | exact .inl rfl | (refine .inr ⟨rfl, ?_, ?_⟩; (focus (repeat (first | exact trivial | refine ⟨.inl rfl, ?_⟩ | refine ⟨.inr rfl, ?_⟩))); (first | exact trivial | exact rfl))))))))))
              rfl
            · have hg3 : ¬ (s[j].toNat : Int) < 48 := by omega
              repeat' (first | (with_reducible (first | apply w_seq | apply w_region | apply w_block | apply w_skip | apply w_exit | apply w_ret | apply w_then | apply w_then_exit | apply w_then_ret | apply w_in | apply w_in_here | apply w_in_ret | apply w_round | apply o_nil | apply d_nil)) | ((with_reducible (first | apply w_in_exit)); rfl) | ((with_reducible (first | apply w_draw)); rfl) | ((first | ((with_reducible (first | apply o_op | apply d_op | apply q_op)); rfl; rfl) | ((with_reducible (first | apply w_cond | apply w_end | apply w_return))) | ((with_reducible (first | apply o_guard | apply d_guard | apply q_guard)); rfl)); all_goals (first | ((with_reducible show Is _ _); ((try simp (disch := first | omega | (simp only [yA, yB, yC, yD, yE] <;> omega) | fail) [go_sem, yF, yG, yH, *, if_pos, if_neg, -List.map_take, -List.map_drop, -List.map_append, -List.map_reverse]); exact rfl)) | ((fail_if_success (with_reducible show Is _ _)); (first | ((with_reducible refine fun (hc : (_ : Bool) = _) => ?_); (try simp only [xA, xB, xC, xD, xE, xF, xG, xH, reduceCtorEq, xI, xJ, xK, xL, xM, xN, xO, xP, xQ, xR] at hc); (try (have hx : True := hc; clear hx hc)); (try (exfalso; omega)); (try (with_reducible (exact absurd hc (by assumption)))); (try (with_reducible (exact absurd (by assumption) hc)))) | ((fail_if_success (with_reducible show ACall _ _ _ _ _)); (try ((with_reducible show _ ∨ _); first | exact .inl rfl | (refine .inr ⟨rfl, ?_, ?_⟩; (focus (repeat (first | exact trivial | refine ⟨.inl rfl, ?_⟩ | refine ⟨.inr rfl, ?_⟩))); (first | exact trivial | exact rfl))))))))))
              rfl
        · obtain rfl : j = s.length := by omega
          rw [List.take_length] at hd h6 hb
          have e1 : decOk m s = true := by simp only [decOk, hh, hd, Bool.and_self]
          rw [decR, if_pos e1, e1]
          repeat' (first | (with_reducible (first | apply w_seq | apply w_region | apply w_block | apply w_skip | apply w_exit | apply w_ret | apply w_then | apply w_then_exit | apply w_then_ret | apply w_in | apply w_in_here | apply w_in_ret | apply w_round | apply o_nil | apply d_nil)) | ((with_reducible (first | apply w_in_exit)); rfl) | ((with_reducible (first | apply w_draw)); rfl) | ((first | ((with_reducible (first | apply o_op | apply d_op | apply q_op)); rfl; rfl) | ((with_reducible (first | apply w_cond | apply w_end | apply w_return))) | ((with_reducible (first | apply o_guard | apply d_guard | apply q_guard)); rfl)); all_goals (first | ((with_reducible show Is _ _); ((try simp (disch := first | omega | (simp only [yA, yB, yC, yD, yE] <;> omega) | fail) [go_sem, yF, yG, yH, *, if_pos, if_neg, -List.map_take, -List.map_drop, -List.map_append, -List.map_reverse]); exact rfl)) | ((fail_if_success (with_reducible show Is _ _)); (first | ((with_reducible refine fun (hc : (_ : Bool) = _) => ?_); (try simp only [xA, xB, xC, xD, xE, xF, xG, xH, reduceCtorEq, xI, xJ, xK, xL, xM, xN, xO, xP, xQ, xR] at hc); (try (have hx : True := hc; clear hx hc)); (try (exfalso; omega)); (try (with_reducible (exact absurd hc (by assumption)))); (try (with_reducible (exact absurd (by assumption) hc)))) | ((fail_if_success (with_reducible show ACall _ _ _ _ _)); (try ((with_reducible show _ ∨ _); first | exact .inl rfl | (refine .inr ⟨rfl, ?_, ?_⟩; (focus (repeat (first | exact trivial | refine ⟨.inl rfl, ?_⟩ | refine ⟨.inr rfl, ?_⟩))); (first | exact trivial | exact rfl))))))))))
          rfl
  · obtain ⟨e1, e2⟩ := hbad (by simp [headOk]; omega)
    rw [e1, e2]
    repeat' (first | (with_reducible (first | apply w_seq | apply w_region | apply w_block | apply w_skip | apply w_exit | apply w_ret | apply w_then | apply w_then_exit | apply w_then_ret | apply w_in | apply w_in_here | apply w_in_ret | apply w_round | apply o_nil | apply d_nil)) | ((with_reducible (first | apply w_in_exit)); rfl) | ((with_reducible (first | apply w_draw)); rfl) | ((first | ((with_reducible (first | apply o_op | apply d_op | apply q_op)); rfl; rfl) | ((with_reducible (first | apply w_cond | apply w_end | apply w_return))) | ((with_reducible (first | apply o_guard | apply d_guard | apply q_guard)); rfl)); all_goals (first | ((with_reducible show Is _ _); ((try simp (disch := first | omega | (simp only [yA, yB, yC, yD, yE] <;> omega) | fail) [go_sem, yF, yG, yH, *, if_pos, if_neg, -List.map_take, -List.map_drop, -List.map_append, -List.map_reverse]); exact rfl)) | ((fail_if_success (with_reducible show Is _ _)); (first | ((with_reducible refine fun (hc : (_ : Bool) = _) => ?_); (try simp only [xA, xB, xC, xD, xE, xF, xG, xH, reduceCtorEq, xI, xJ, xK, xL, xM, xN, xO, xP, xQ, xR] at hc); (try (have hx : True := hc; clear hx hc)); (try (exfalso; omega)); (try (with_reducible (exact absurd hc (by assumption)))); (try (with_reducible (exact absurd (by assumption) hc)))) | ((fail_if_success (with_reducible show ACall _ _ _ _ _)); (try ((with_reducible show _ ∨ _); first | exact .inl rfl | (refine .inr ⟨rfl, ?_, ?_⟩; (focus (repeat (first | exact trivial | refine ⟨.inl rfl, ?_⟩ | refine ⟨.inr rfl, ?_⟩))); (first | exact trivial | exact rfl))))))))))
    rfl
def digV (c : UInt8) : Option Nat := if 48 ≤ c.toNat ∧ c.toNat ≤ 57 then some (c.toNat - 48) else if 97 ≤ c.toNat ∧ c.toNat ≤ 102 then some (c.toNat - 87) else if 65 ≤ c.toNat ∧ c.toNat ≤ 70 then some (c.toNat - 55) else none
theorem rdigit_in (c : UInt8) : PC Tryd.prog true 92 [byteC c] (.int .i64 ((digV c).getD 16)) := by
  refine acall_intro mixed Tryd.func92 rfl ca92 (by kernel_rfl) (by rw [Tryd.ntmps92]; simp) ?_
  repeat' (first | (with_reducible (first | apply w_seq | apply w_region | apply w_block | apply w_skip | apply w_exit | apply w_ret | apply w_then | apply w_then_exit | apply w_then_ret | apply w_in | apply w_in_here | apply w_in_ret | apply w_round | apply o_nil | apply d_nil)) | ((with_reducible (first | apply w_in_exit)); rfl) | ((with_reducible (first | apply w_draw)); rfl) | ((first | ((with_reducible (first | apply o_op | apply d_op | apply q_op)); rfl; rfl) | ((with_reducible (first | apply w_cond | apply w_end | apply w_return))) | ((with_reducible (first | apply o_guard | apply d_guard | apply q_guard)); rfl)); all_goals (first | ((with_reducible show Is _ _); ((try simp (disch := first | omega | (simp only [yA, yB, yC, yD, yE] <;> omega) | fail) [go_sem, yF, yG, yH, *, if_pos, if_neg, -List.map_take, -List.map_drop, -List.map_append, -List.map_reverse]); exact rfl)) | ((fail_if_success (with_reducible show Is _ _)); (first | ((with_reducible refine fun (hc : (_ : Bool) = _) => ?_); (try simp only [xA, xB, xC, xD, xE, xF, xG, xH, reduceCtorEq, xI, xJ, xK, xL, xM, xN, xO, xP, xQ, xR] at hc); (try (have hx : True := hc; clear hx hc)); (try (exfalso; omega)); (try (with_reducible (exact absurd hc (by assumption)))); (try (with_reducible (exact absurd (by assumption) hc)))) | ((fail_if_success (with_reducible show ACall _ _ _ _ _)); (try ((with_reducible show _ ∨ _); first | exact .inl rfl | (refine .inr ⟨rfl, ?_, ?_⟩; (focus (repeat (first | exact trivial | refine ⟨.inl rfl, ?_⟩ | refine ⟨.inr rfl, ?_⟩))); (first | exact trivial | exact rfl))))))))))
  all_goals (rw [digV]; repeat' split)
  all_goals first | (exfalso; omega) | (simp [go_sem] <;> omega) | (simp [go_sem]; done)
theorem rdigit_at {B : List Box} {args : List CV} {c : UInt8} (hz : Is (omap (Go.Sy.fz true false B 6) args) (some [byteC c])) : ACall Tryd.prog 92 args B fun r B' => r = .int .i64 ((digV c).getD 16) ∧ B' = B := acall_fresh hz (rdigit_in c)
def isHex (c : UInt8) : Bool := (digV c).isSome
def hexV (l : List UInt8) : Nat := l.foldl (fun n c => 16 * n + (digV c).getD 0) 0
def hexOk (s : List UInt8) : Bool := decide (1 ≤ s.length) && decide (s.length ≤ 4) && s.all isHex
def hexR (s : List UInt8) : Nat := if hexOk s then hexV s else 0
theorem hexV_app (l : List UInt8) (c : UInt8) : hexV (l ++ [c]) = 16 * hexV l + (digV c).getD 0 := by simp [hexV, List.foldl_append]
theorem hexV_take {l : List UInt8} {k : Nat} (h : k < l.length) : hexV (l.take (k + 1)) = 16 * hexV (l.take k) + (digV l[k]).getD 0 := by rw [List.take_succ_eq_append_getElem h, hexV_app]
theorem digV_lt {c : UInt8} {n : Nat} (h : digV c = some n) : n < 16 := by
  unfold digV at h
  split at h
  · simp at h; omega
  · split at h
    · simp at h; omega
    · split at h
      · simp at h; omega
      · cases h
theorem hexV_lt : ∀ (l : List UInt8), hexV l < 16 ^ l.length := by
  intro l
  suffices h : ∀ (l : List UInt8) (n k : Nat), n < 16 ^ k → l.foldl (fun n c => 16 * n + (digV c).getD 0) n < 16 ^ (k + l.length) by
    have := h l 0 0 (by decide); rwa [Nat.zero_add] at this
  intro l
  induction l with
  | nil => intro n k h; simpa using h
  | cons c l ih =>
    intro n k h
    have hc : (digV c).getD 0 < 16 := by
      cases hd : digV c with
      | none => simp
      | some v => simpa using digV_lt hd
    have := ih (16 * n + (digV c).getD 0) (k + 1) (by rw [Nat.pow_succ]; omega)
    rw [List.foldl_cons, List.length_cons, show k + (l.length + 1) = k + 1 + l.length by omega]
    exact this
theorem hex_bound {s : List UInt8} {j : Nat} (hj : j ≤ 4) : hexV (s.take j) ≤ 65535 := by
  have h1 := hexV_lt (s.take j)
  have h2 : (s.take j).length ≤ 4 := by rw [List.length_take]; omega
  have h3 : 16 ^ (s.take j).length ≤ 16 ^ 4 := Nat.pow_le_pow_right (by decide) h2
  omega
theorem hex_take {s : List UInt8} {j : Nat} (h : j < s.length) : (s.take (j + 1)).all isHex = ((s.take j).all isHex && isHex s[j]) := by
  rw [List.take_succ_eq_append_getElem h, List.all_append]; simp
theorem not_hex {s : List UInt8} {j : Nat} (h : j < s.length) (hn : digV s[j] = none) : s.all isHex = false := by
  rw [List.all_eq_false]
  exact ⟨s[j], List.getElem_mem h, by simp [isHex, hn]⟩
theorem digV_cases (c : UInt8) : (48 ≤ c.toNat ∧ c.toNat ≤ 57 ∧ digV c = some (c.toNat - 48)) ∨ (97 ≤ c.toNat ∧ c.toNat ≤ 102 ∧ digV c = some (c.toNat - 87)) ∨ (65 ≤ c.toNat ∧ c.toNat ≤ 70 ∧ digV c = some (c.toNat - 55)) ∨ (¬ (48 ≤ c.toNat ∧ c.toNat ≤ 57) ∧ ¬ (97 ≤ c.toNat ∧ c.toNat ≤ 102) ∧ ¬ (65 ≤ c.toNat ∧ c.toNat ≤ 70) ∧ digV c = none) := by
  unfold digV
  split
  · rename_i h; exact .inl ⟨h.1, h.2, rfl⟩
  · split
    · rename_i h; exact .inr (.inl ⟨h.1, h.2, rfl⟩)
    · split
      · rename_i h; exact .inr (.inr (.inl ⟨h.1, h.2, rfl⟩))
      · rename_i h1 h2 h3; exact .inr (.inr (.inr ⟨h1, h2, h3, rfl⟩))
theorem hexadecimal_in (s : List UInt8) (hs : s.length < 4611686018427387904) : PC Tryd.prog true 48 [.str s] (.tup [.int .i64 (hexR s), .bool (hexOk s)]) := by
  refine acall_intro mixed Tryd.func48 rfl ca48 (by kernel_rfl) (by rw [Tryd.ntmps48]; simp) ?_
  have hbad : hexOk s = false → hexR s = 0 := fun h => by simp [hexR, h]
  by_cases h0 : s.length = 0
  · have e := hbad (by simp [hexOk, h0])
    have : s = [] := List.eq_nil_of_length_eq_zero h0
    subst this
    repeat' (first | (with_reducible (first | apply w_seq | apply w_region | apply w_block | apply w_skip | apply w_exit | apply w_ret | apply w_then | apply w_then_exit | apply w_then_ret | apply w_in | apply w_in_here | apply w_in_ret | apply w_round | apply o_nil | apply d_nil)) | ((with_reducible (first | apply w_in_exit)); rfl) | ((with_reducible (first | apply w_draw)); rfl) | ((first | ((with_reducible (first | apply o_op | apply d_op | apply q_op)); rfl; rfl) | ((with_reducible (first | apply w_cond | apply w_end | apply w_return))) | ((with_reducible (first | apply o_guard | apply d_guard | apply q_guard)); rfl)); all_goals (first | ((with_reducible show Is _ _); ((try simp (disch := first | omega | (simp only [yA, yB, yC, yD, yE] <;> omega) | fail) [go_sem, yF, yG, yH, *, if_pos, if_neg, -List.map_take, -List.map_drop, -List.map_append, -List.map_reverse]); exact rfl)) | ((fail_if_success (with_reducible show Is _ _)); (first | ((with_reducible refine fun (hc : (_ : Bool) = _) => ?_); (try simp only [xA, xB, xC, xD, xE, xF, xG, xH, reduceCtorEq, xI, xJ, xK, xL, xM, xN, xO, xP, xQ, xR] at hc); (try (have hx : True := hc; clear hx hc)); (try (exfalso; omega)); (try (with_reducible (exact absurd hc (by assumption)))); (try (with_reducible (exact absurd (by assumption) hc)))) | ((fail_if_success (with_reducible show ACall _ _ _ _ _)); (try ((with_reducible show _ ∨ _); first | exact .inl rfl | (refine .inr ⟨rfl, ?_, ?_⟩; (focus (repeat (first | exact trivial | refine ⟨.inl rfl, ?_⟩ | refine ⟨.inr rfl, ?_⟩))); (first | exact trivial | exact rfl))))))))))
    rfl
  by_cases h10 : s.length ≤ 4
  · clear hbad
    repeat' (first | (with_reducible (first | apply w_seq | apply w_region | apply w_block | apply w_skip | apply w_exit | apply w_ret | apply w_then | apply w_then_exit | apply w_then_ret | apply w_in | apply w_in_here | apply w_in_ret | apply w_round | apply o_nil | apply d_nil)) | ((with_reducible (first | apply w_in_exit)); rfl) | ((with_reducible (first | apply w_draw)); rfl) | ((first | ((with_reducible (first | apply o_op | apply d_op | apply q_op)); rfl; rfl) | ((with_reducible (first | apply w_cond | apply w_end | apply w_return))) | ((with_reducible (first | apply o_guard | apply d_guard | apply q_guard)); rfl)); all_goals (first | ((with_reducible show Is _ _); ((try simp (disch := first | omega | (simp only [yA, yB, yC, yD, yE] <;> omega) | fail) [go_sem, yF, yG, yH, *, if_pos, if_neg, -List.map_take, -List.map_drop, -List.map_append, -List.map_reverse]); exact rfl)) | ((fail_if_success (with_reducible show Is _ _)); (first | ((with_reducible refine fun (hc : (_ : Bool) = _) => ?_); (try simp only [xA, xB, xC, xD, xE, xF, xG, xH, reduceCtorEq, xI, xJ, xK, xL, xM, xN, xO, xP, xQ, xR] at hc); (try (have hx : True := hc; clear hx hc)); (try (exfalso; omega)); (try (with_reducible (exact absurd hc (by assumption)))); (try (with_reducible (exact absurd (by assumption) hc)))) | ((fail_if_success (with_reducible show ACall _ _ _ _ _)); (try ((with_reducible show _ ∨ _); first | exact .inl rfl | (refine .inr ⟨rfl, ?_, ?_⟩; (focus (repeat (first | exact trivial | refine ⟨.inl rfl, ?_⟩ | refine ⟨.inr rfl, ?_⟩))); (first | exact trivial | exact rfl))))))))))
    refine w_loop (fun fr B => B = [] ∧ ∃ j : Nat, j ≤ s.length ∧ (s.take j).all isHex = true ∧ fr 17 = .int .i64 j ∧ fr 16 = .int .i64 s.length ∧ fr 0 = .str s ∧ fr 4 = .int .i64 (hexV (s.take j))) (fun fr _ => s.length - natOf (fr 17)) ?_ ?_
    · exact ⟨rfl, 0, by omega, rfl, by (simp (disch := omega) [go_sem, *]) <;> (try omega), by (simp (disch := omega) [go_sem, *]) <;> (try omega), by (simp (disch := omega) [go_sem, *]) <;> (try omega), by (simp (disch := omega) [go_sem, *, hexV]) <;> (try omega)⟩
    rintro fr B ⟨rfl, j, hj, hd, hix, h16, hs0, h4⟩
    have hb := hex_bound (s := s) (j := j) (by omega)
    by_cases hc : j < s.length
    · have hnx := hexV_take hc
      have hall := hex_take hc
      rw [hd, Bool.true_and] at hall
      have hlt := (s[j]).toNat_lt
      have hb2 := hex_bound (s := s) (j := j + 1) (by omega)
      rcases digV_cases s[j] with ⟨g1, g2, g3⟩ | ⟨g1, g2, g3⟩ | ⟨g1, g2, g3⟩ | ⟨g1, g2, g3, g4⟩
      · have hnx2 : (hexV (s.take (j + 1)) : Int) = 16 * hexV (s.take j) + (s[j].toNat - 48) := by rw [hnx, g3]; simp; omega
        rw [isHex, g3] at hall
        clear g3 hnx
        repeat' (first | (with_reducible (first | apply w_seq | apply w_region | apply w_block | apply w_skip | apply w_exit | apply w_ret | apply w_then | apply w_then_exit | apply w_then_ret | apply w_in | apply w_in_here | apply w_in_ret | apply w_round | apply o_nil | apply d_nil)) | ((with_reducible (first | apply w_in_exit)); rfl) | ((with_reducible (first | apply w_draw)); rfl) | ((first | ((with_reducible (first | apply o_op | apply d_op | apply q_op)); rfl; rfl) | ((with_reducible (first | apply w_cond | apply w_end | apply w_return))) | ((with_reducible (first | apply o_guard | apply d_guard | apply q_guard)); rfl)); all_goals (first | ((with_reducible show Is _ _); ((try simp (disch := first | omega | (simp only [yA, yB, yC, yD, yE] <;> omega) | fail) [go_sem, yF, yG, yH, *, if_pos, if_neg, -List.map_take, -List.map_drop, -List.map_append, -List.map_reverse]); exact rfl)) | ((fail_if_success (with_reducible show Is _ _)); (first | ((with_reducible refine fun (hc : (_ : Bool) = _) => ?_); (try simp only [xA, xB, xC, xD, xE, xF, xG, xH, reduceCtorEq, xI, xJ, xK, xL, xM, xN, xO, xP, xQ, xR] at hc); (try (have hx : True := hc; clear hx hc)); (try (exfalso; omega)); (try (with_reducible (exact absurd hc (by assumption)))); (try (with_reducible (exact absurd (by assumption) hc)))) | ((fail_if_success (with_reducible show ACall _ _ _ _ _)); (try ((with_reducible show _ ∨ _); first | exact .inl rfl | (refine .inr ⟨rfl, ?_, ?_⟩; (focus (repeat (first | exact trivial | refine ⟨.inl rfl, ?_⟩ | refine ⟨.inr rfl, ?_⟩))); (first | exact trivial | exact rfl))))))))))
        exact ⟨⟨rfl, j + 1, by omega, hall, by (simp (disch := omega) [go_sem, *]) <;> (try omega), by (simp (disch := omega) [go_sem, *]) <;> (try omega), by (simp (disch := omega) [go_sem, *]) <;> (try omega), by rw [hnx2] <;> (simp (disch := omega) [go_sem, *]) <;> (try omega)⟩, by (simp (disch := omega) [go_sem, *]) <;> (try omega)⟩
      · have hnx2 : (hexV (s.take (j + 1)) : Int) = 16 * hexV (s.take j) + (s[j].toNat - 97) + 10 := by rw [hnx, g3]; simp; omega
        rw [isHex, g3] at hall
        clear g3 hnx
        repeat' (first | (with_reducible (first | apply w_seq | apply w_region | apply w_block | apply w_skip | apply w_exit | apply w_ret | apply w_then | apply w_then_exit | apply w_then_ret | apply w_in | apply w_in_here | apply w_in_ret | apply w_round | apply o_nil | apply d_nil)) | ((with_reducible (first | apply w_in_exit)); rfl) | ((with_reducible (first | apply w_draw)); rfl) | ((first | ((with_reducible (first | apply o_op | apply d_op | apply q_op)); rfl; rfl) | ((with_reducible (first | apply w_cond | apply w_end | apply w_return))) | ((with_reducible (first | apply o_guard | apply d_guard | apply q_guard)); rfl)); all_goals (first | ((with_reducible show Is _ _); ((try simp (disch := first | omega | (simp only [yA, yB, yC, yD, yE] <;> omega) | fail) [go_sem, yF, yG, yH, *, if_pos, if_neg, -List.map_take, -List.map_drop, -List.map_append, -List.map_reverse]); exact rfl)) | ((fail_if_success (with_reducible show Is _ _)); (first | ((with_reducible refine fun (hc : (_ : Bool) = _) => ?_); (try simp only [xA, xB, xC, xD, xE, xF, xG, xH, reduceCtorEq, xI, xJ, xK, xL, xM, xN, xO, xP, xQ, xR] at hc); (try (have hx : True := hc; clear hx hc)); (try (exfalso; omega)); (try (with_reducible (exact absurd hc (by assumption)))); (try (with_reducible (exact absurd (by assumption) hc)))) | ((fail_if_success (with_reducible show ACall _ _ _ _ _)); (try ((with_reducible show _ ∨ _); first | exact .inl rfl | (refine .inr ⟨rfl, ?_, ?_⟩; (focus (repeat (first | exact trivial | refine ⟨.inl rfl, ?_⟩ | refine ⟨.inr rfl, ?_⟩))); (first | exact trivial | exact rfl))))))))))
        exact ⟨⟨rfl, j + 1, by omega, hall, by (simp (disch := omega) [go_sem, *]) <;> (try omega), by (simp (disch := omega) [go_sem, *]) <;> (try omega), by (simp (disch := omega) [go_sem, *]) <;> (try omega), by rw [hnx2] <;> (simp (disch := omega) [go_sem, *]) <;> (try omega)⟩, by (simp (disch := omega) [go_sem, *]) <;> (try omega)⟩
      · have hnx2 : (hexV (s.take (j + 1)) : Int) = 16 * hexV (s.take j) + (s[j].toNat - 65) + 10 := by rw [hnx, g3]; simp; omega
        rw [isHex, g3] at hall
        clear g3 hnx
        repeat' (first | (with_reducible (first | apply w_seq | apply w_region | apply w_block | apply w_skip | apply w_exit | apply w_ret | apply w_then | apply w_then_exit | apply w_then_ret | apply w_in | apply w_in_here | apply w_in_ret | apply w_round | apply o_nil | apply d_nil)) | ((with_reducible (first | apply w_in_exit)); rfl) | ((with_reducible (first | apply w_draw)); rfl) | ((first | ((with_reducible (first | apply o_op | apply d_op | apply q_op)); rfl; rfl) | ((with_reducible (first | apply w_cond | apply w_end | apply w_return))) | ((with_reducible (first | apply o_guard | apply d_guard | apply q_guard)); rfl)); all_goals (first | ((with_reducible show Is _ _); ((try simp (disch := first | omega | (simp only [yA, yB, yC, yD, yE] <;> omega) | fail) [go_sem, yF, yG, yH, *, if_pos, if_neg, -List.map_take, -List.map_drop, -List.map_append, -List.map_reverse]); exact rfl)) | ((fail_if_success (with_reducible show Is _ _)); (first | ((with_reducible refine fun (hc : (_ : Bool) = _) => ?_); (try simp only [xA, xB, xC, xD, xE, xF, xG, xH, reduceCtorEq, xI, xJ, xK, xL, xM, xN, xO, xP, xQ, xR] at hc); (try (have hx : True := hc; clear hx hc)); (try (exfalso; omega)); (try (with_reducible (exact absurd hc (by assumption)))); (try (with_reducible (exact absurd (by assumption) hc)))) | ((fail_if_success (with_reducible show ACall _ _ _ _ _)); (try ((with_reducible show _ ∨ _); first | exact .inl rfl | (refine .inr ⟨rfl, ?_, ?_⟩; (focus (repeat (first | exact trivial | refine ⟨.inl rfl, ?_⟩ | refine ⟨.inr rfl, ?_⟩))); (first | exact trivial | exact rfl))))))))))
        exact ⟨⟨rfl, j + 1, by omega, hall, by (simp (disch := omega) [go_sem, *]) <;> (try omega), by (simp (disch := omega) [go_sem, *]) <;> (try omega), by (simp (disch := omega) [go_sem, *]) <;> (try omega), by rw [hnx2] <;> (simp (disch := omega) [go_sem, *]) <;> (try omega)⟩, by (simp (disch := omega) [go_sem, *]) <;> (try omega)⟩
      · have hna := not_hex hc g4
        have e1 : hexOk s = false := by simp [hexOk, hna]
        rw [hexR, e1]
        clear g4 hnx
        have g5 : s[j].toNat < 48 ∨ (57 < s[j].toNat ∧ s[j].toNat < 65) ∨ (70 < s[j].toNat ∧ s[j].toNat < 97) ∨ 102 < s[j].toNat := by omega
        clear g1 g2 g3
        rcases g5 with g5 | g5 | g5 | g5 <;> (
          (repeat' (first | (with_reducible (first | apply w_seq | apply w_region | apply w_block | apply w_skip | apply w_exit | apply w_ret | apply w_then | apply w_then_exit | apply w_then_ret | apply w_in | apply w_in_here | apply w_in_ret | apply w_round | apply o_nil | apply d_nil)) | ((with_reducible (first | apply w_in_exit)); rfl) | ((with_reducible (first | apply w_draw)); rfl) | ((first | ((with_reducible (first | apply o_op | apply d_op | apply q_op)); rfl; rfl) | ((with_reducible (first | apply w_cond | apply w_end | apply w_return))) | ((with_reducible (first | apply o_guard | apply d_guard | apply q_guard)); rfl)); all_goals (first | ((with_reducible show Is _ _); ((try simp (disch := first | omega | (simp only [yA, yB, yC, yD, yE] <;> omega) | fail) [go_sem, yF, yG, yH, *, if_pos, if_neg, -List.map_take, -List.map_drop, -List.map_append, -List.map_reverse]); exact rfl)) | ((fail_if_success (with_reducible show Is _ _)); (first | ((with_reducible refine fun (hc : (_ : Bool) = _) => ?_); (try simp only [xA, xB, xC, xD, xE, xF, xG, xH, reduceCtorEq, xI, xJ, xK, xL, xM, xN, xO, xP, xQ, xR] at hc); (try (have hx : True := hc; clear hx hc)); (try (exfalso; omega)); (try (with_reducible (exact absurd hc (by assumption)))); (try (with_reducible (exact absurd (by assumption) hc)))) | ((fail_if_success (with_reducible show ACall _ _ _ _ _)); (try ((with_reducible show _ ∨ _); first | exact .inl rfl | (refine .inr ⟨rfl, ?_, ?_⟩; (focus (repeat (first | exact trivial | refine ⟨.inl rfl, ?_⟩ | refine ⟨.inr rfl, ?_⟩))); (first | exact trivial | exact rfl)))))))))))
          rfl)
    · obtain rfl : j = s.length := by omega
      rw [List.take_length] at hd h4 hb
      have e1 : hexOk s = true := by simp [hexOk, hd]; omega
      rw [hexR, if_pos e1, e1]
      repeat' (first | (with_reducible (first | apply w_seq | apply w_region | apply w_block | apply w_skip | apply w_exit | apply w_ret | apply w_then | apply w_then_exit | apply w_then_ret | apply w_in | apply w_in_here | apply w_in_ret | apply w_round | apply o_nil | apply d_nil)) | ((with_reducible (first | apply w_in_exit)); rfl) | ((with_reducible (first | apply w_draw)); rfl) | ((first | ((with_reducible (first | apply o_op | apply d_op | apply q_op)); rfl; rfl) | ((with_reducible (first | apply w_cond | apply w_end | apply w_return))) | ((with_reducible (first | apply o_guard | apply d_guard | apply q_guard)); rfl)); all_goals (first | ((with_reducible show Is _ _); ((try simp (disch := first | omega | (simp only [yA, yB, yC, yD, yE] <;> omega) | fail) [go_sem, yF, yG, yH, *, if_pos, if_neg, -List.map_take, -List.map_drop, -List.map_append, -List.map_reverse]); exact rfl)) | ((fail_if_success (with_reducible show Is _ _)); (first | ((with_reducible refine fun (hc : (_ : Bool) = _) => ?_); (try simp only [xA, xB, xC, xD, xE, xF, xG, xH, reduceCtorEq, xI, xJ, xK, xL, xM, xN, xO, xP, xQ, xR] at hc); (try (have hx : True := hc; clear hx hc)); (try (exfalso; omega)); (try (with_reducible (exact absurd hc (by assumption)))); (try (with_reducible (exact absurd (by assumption) hc)))) | ((fail_if_success (with_reducible show ACall _ _ _ _ _)); (try ((with_reducible show _ ∨ _); first | exact .inl rfl | (refine .inr ⟨rfl, ?_, ?_⟩; (focus (repeat (first | exact trivial | refine ⟨.inl rfl, ?_⟩ | refine ⟨.inr rfl, ?_⟩))); (first | exact trivial | exact rfl))))))))))
      rfl
  · have e2 : hexOk s = false := by simp [hexOk]; omega
    have e := hbad e2
    rw [e, e2]
    repeat' (first | (with_reducible (first | apply w_seq | apply w_region | apply w_block | apply w_skip | apply w_exit | apply w_ret | apply w_then | apply w_then_exit | apply w_then_ret | apply w_in | apply w_in_here | apply w_in_ret | apply w_round | apply o_nil | apply d_nil)) | ((with_reducible (first | apply w_in_exit)); rfl) | ((with_reducible (first | apply w_draw)); rfl) | ((first | ((with_reducible (first | apply o_op | apply d_op | apply q_op)); rfl; rfl) | ((with_reducible (first | apply w_cond | apply w_end | apply w_return))) | ((with_reducible (first | apply o_guard | apply d_guard | apply q_guard)); rfl)); all_goals (first | ((with_reducible show Is _ _); ((try simp (disch := first | omega | (simp only [yA, yB, yC, yD, yE] <;> omega) | fail) [go_sem, yF, yG, yH, *, if_pos, if_neg, -List.map_take, -List.map_drop, -List.map_append, -List.map_reverse]); exact rfl)) | ((fail_if_success (with_reducible show Is _ _)); (first | ((with_reducible refine fun (hc : (_ : Bool) = _) => ?_); (try simp only [xA, xB, xC, xD, xE, xF, xG, xH, reduceCtorEq, xI, xJ, xK, xL, xM, xN, xO, xP, xQ, xR] at hc); (try (have hx : True := hc; clear hx hc)); (try (exfalso; omega)); (try (with_reducible (exact absurd hc (by assumption)))); (try (with_reducible (exact absurd (by assumption) hc)))) | ((fail_if_success (with_reducible show ACall _ _ _ _ _)); (try ((with_reducible show _ ∨ _); first | exact .inl rfl | (refine .inr ⟨rfl, ?_, ?_⟩; (focus (repeat (first | exact trivial | refine ⟨.inl rfl, ?_⟩ | refine ⟨.inr rfl, ?_⟩))); (first | exact trivial | exact rfl))))))))))
    rfl
theorem decimal_at {B : List Box} {s : List UInt8} {lim : Int} (hs : s.length < 4611686018427387904) : ACall Tryd.prog 47 [.str s, .int .i64 lim] B fun c B' => c = .tup [.int .i64 (decR 10 s), .bool (decOk 10 s && decide ((decR 10 s : Int) ≤ lim))] ∧ B' = B := acall_fresh (nz := false) rfl (decimal_in s lim hs)
theorem rnumber_at {B : List Box} {s : List UInt8} {k : Int} {m : Nat} (hk : k = m) (hm : m ≤ 10) (hs : s.length < 4611686018427387904) : ACall Tryd.prog 74 [.str s, .int .i64 k] B fun c B' => c = .tup [.int .i64 (decR m s), .bool (decOk m s)] ∧ B' = B := by subst hk; exact acall_fresh (nz := false) rfl (rnumber_in s m hm hs)
theorem hexadecimal_at {B : List Box} {s : List UInt8} (hs : s.length < 4611686018427387904) : ACall Tryd.prog 48 [.str s] B fun c B' => c = .tup [.int .i64 (hexR s), .bool (hexOk s)] ∧ B' = B := acall_fresh (nz := false) rfl (hexadecimal_in s hs)
end Go.Proofs.YtdceppjoipoohaaDoor
end
section
namespace Go.Proofs.YtdceppjoipoohaaDoor
open Go Go.Sy
set_option linter.all false
set_option maxRecDepth 100000
set_option maxHeartbeats 4000000
theorem byte_nat (n : Nat) (h : n < 256) : byteC (UInt8.ofNat n) = .int .u8 (n : Int) := by
  rw [byteC]; congr 1; simp; omega
theorem decDigits_len : ∀ (k n : Nat), n < 10 ^ (k + 1) → (Go.Lib.decDigits n).length ≤ k + 1
  | 0, n, h => by
    rw [Go.Lib.decDigits, dif_pos (by simpa using h)]; simp
  | k + 1, n, h => by
    rw [Go.Lib.decDigits]
    split
    · simp
    · rw [List.length_append]
      have := decDigits_len k (n / 10) (by rw [Nat.pow_succ] at h; omega)
      simp only [List.length_singleton]; omega
theorem rdec_at : ∀ (n : Nat), n < 4611686018427387904 → ∀ {B : List Box}, ACall Tryd.prog 34 [.int .i64 n] B fun c B' => c = .str (Go.Lib.decDigits n) ∧ B' = B := by
  intro n
  induction n using Nat.strongRecOn with
  | _ n ih =>
    intro hn B
    rw [Go.Lib.decDigits]
    by_cases hc : n < 10
    · rw [dif_pos hc]
      have hb := byte_nat (48 + n) (by omega)
      generalize UInt8.ofNat (48 + n) = x at *
      have hb' : CV.int .u8 (48 + (n : Int)) = byteC x := by rw [hb]; push_cast; rfl
      clear hb ih
      refine acall_intro mixed Tryd.func34 rfl ca34 (by kernel_rfl) (by rw [Tryd.ntmps34]; simp) ?_
      repeat' (first | (with_reducible (first | apply w_seq | apply w_region | apply w_block | apply w_skip | apply w_exit | apply w_ret | apply w_then | apply w_then_exit | apply w_then_ret | apply w_in | apply w_in_here | apply w_in_ret | apply w_round | apply o_nil | apply d_nil)) | ((with_reducible (first | apply w_in_exit)); rfl) | ((with_reducible (first | apply w_draw)); rfl) | ((first | ((with_reducible (first | apply o_op | apply d_op | apply q_op)); rfl; rfl) | ((with_reducible (first | apply w_cond | apply w_end | apply w_return))) | ((with_reducible (first | apply o_guard | apply d_guard | apply q_guard)); rfl)); all_goals (first | ((with_reducible show Is _ _); ((try simp (disch := first | omega | (simp only [yA, yB, yC, yD, yE] <;> omega) | fail) [go_sem, yF, yG, yH, *, if_pos, if_neg, -List.map_take, -List.map_drop, -List.map_append, -List.map_reverse]); exact rfl)) | ((fail_if_success (with_reducible show Is _ _)); (first | ((with_reducible refine fun (hc : (_ : Bool) = _) => ?_); (try simp only [xA, xB, xC, xD, xE, xF, xG, xH, reduceCtorEq, xI, xJ, xK, xL, xM, xN, xO, xP, xQ, xR] at hc); (try (have hx : True := hc; clear hx hc)); (try (exfalso; omega)); (try (with_reducible (exact absurd hc (by assumption)))); (try (with_reducible (exact absurd (by assumption) hc)))) | ((fail_if_success (with_reducible show ACall _ _ _ _ _)); (try ((with_reducible show _ ∨ _); first | exact .inl rfl | (refine .inr ⟨rfl, ?_, ?_⟩; (focus (repeat (first | exact trivial | refine ⟨.inl rfl, ?_⟩ | refine ⟨.inr rfl, ?_⟩))); (first | exact trivial | exact rfl))))))))))
      exact ⟨rfl, rfl⟩
    · rw [dif_neg hc]
      have ih' : ∀ {B : List Box}, ACall Tryd.prog 34 [.int .i64 ((n : Int) / 10)] B fun c B' => c = .str (Go.Lib.decDigits (n / 10)) ∧ B' = B := by
        intro B
        rw [show ((n : Int) / 10) = ((n / 10 : Nat) : Int) by omega]
        exact ih (n / 10) (by omega) (by omega)
      have hr : ∀ {B : List Box} {args : List CV}, Is args [.int .i64 ((n : Int) / 10)] → ACall Tryd.prog 34 args B fun c B' => c = .str (Go.Lib.decDigits (n / 10)) ∧ B' = B := fun h => by
        have h : _ = _ := h
        subst h
        exact ih'
      have hb := byte_nat (48 + n % 10) (by omega)
      generalize UInt8.ofNat (48 + n % 10) = x at *
      have hb' : CV.int .u8 (48 + (n : Int) % 10) = byteC x := by rw [hb]; congr 1
      have hDl := decDigits_len 18 (n / 10) (by omega)
      generalize Go.Lib.decDigits (n / 10) = D at *
      clear hb ih ih'
      refine acall_intro mixed Tryd.func34 rfl ca34 (by kernel_rfl) (by rw [Tryd.ntmps34]; simp) ?_
      repeat' (first | (with_reducible (first | apply w_seq | apply w_region | apply w_block | apply w_skip | apply w_exit | apply w_ret | apply w_then | apply w_then_exit | apply w_then_ret | apply w_in | apply w_in_here | apply w_in_ret | apply w_round | apply o_nil | apply d_nil)) | ((with_reducible (first | apply w_in_exit)); rfl) | ((with_reducible (first | apply w_draw)); rfl) | ((first | ((with_reducible (first | apply o_op | apply d_op | apply q_op)); rfl; rfl) | ((with_reducible (first | apply w_cond | apply w_end | apply w_return))) | ((with_reducible (first | apply o_guard | apply d_guard | apply q_guard)); rfl) | ((with_reducible (first | apply o_call_eq | apply d_call | apply q_call)); rfl)); all_goals (first | ((with_reducible show Is _ _); ((try simp (disch := first | omega | (simp only [yA, yB, yC, yD, yE] <;> omega) | fail) [go_sem, yF, yG, yH, *, if_pos, if_neg, -List.map_take, -List.map_drop, -List.map_append, -List.map_reverse]); exact rfl)) | ((fail_if_success (with_reducible show Is _ _)); (first | ((with_reducible refine fun (hc : (_ : Bool) = _) => ?_); (try simp only [xA, xB, xC, xD, xE, xF, xG, xH, reduceCtorEq, xI, xJ, xK, xL, xM, xN, xO, xP, xQ, xR] at hc); (try (have hx : True := hc; clear hx hc)); (try (exfalso; omega)); (try (with_reducible (exact absurd hc (by assumption)))); (try (with_reducible (exact absurd (by assumption) hc)))) | ((with_reducible show ACall _ _ _ _ _); (first | ((with_reducible (first | apply hr)) <;> (first | omega | assumption | exact rfl | ((simp (disch := first | omega | (simp only [yA, yB, yC, yD, yE] <;> omega) | fail) [go_sem, yF, yG, yH, *, -List.map_take, -List.map_drop, -List.map_append, -List.map_reverse]) <;> (first | done | omega | exact rfl)))))) | ((fail_if_success (with_reducible show ACall _ _ _ _ _)); (try ((with_reducible show _ ∨ _); first | exact .inl rfl | (refine .inr ⟨rfl, ?_, ?_⟩; (focus (repeat (first | exact trivial | refine ⟨.inl rfl, ?_⟩ | refine ⟨.inr rfl, ?_⟩))); (first | exact trivial | exact rfl))))))))))
      exact ⟨rfl, rfl⟩
theorem digs16 : ∀ d : Fin 16, (([48, 49, 50, 51, 52, 53, 54, 55, 56, 57, 97, 98, 99, 100, 101, 102] : List UInt8).drop d.1).take 1 = [hexD d.1] := by decide
def empC (c : CV) : Nat := match c with | .str [] => 1 | _ => 0
theorem group_in (n0 : Nat) (hn0 : n0 < 65536) : PC Tryd.prog true 35 [.int .i64 n0] (.str (hexT n0)) := by
  refine acall_intro mixed Tryd.func35 rfl ca35 (by kernel_rfl) (by rw [Tryd.ntmps35]; simp) ?_
  repeat' (first | (with_reducible (first | apply w_seq | apply w_region | apply w_block | apply w_skip | apply w_exit | apply w_ret | apply w_then | apply w_then_exit | apply w_then_ret | apply w_in | apply w_in_here | apply w_in_ret | apply w_round | apply o_nil | apply d_nil)) | ((with_reducible (first | apply w_in_exit)); rfl) | ((with_reducible (first | apply w_draw)); rfl) | ((first | ((with_reducible (first | apply o_op | apply d_op | apply q_op)); rfl; rfl) | ((with_reducible (first | apply w_cond | apply w_end | apply w_return))) | ((with_reducible (first | apply o_guard | apply d_guard | apply q_guard)); rfl)); all_goals (first | ((with_reducible show Is _ _); ((try simp (disch := first | omega | (simp only [yA, yB, yC, yD, yE] <;> omega) | fail) [go_sem, yF, yG, yH, *, if_pos, if_neg, -List.map_take, -List.map_drop, -List.map_append, -List.map_reverse]); exact rfl)) | ((fail_if_success (with_reducible show Is _ _)); (first | ((with_reducible refine fun (hc : (_ : Bool) = _) => ?_); (try simp only [xA, xB, xC, xD, xE, xF, xG, xH, reduceCtorEq, xI, xJ, xK, xL, xM, xN, xO, xP, xQ, xR] at hc); (try (have hx : True := hc; clear hx hc)); (try (exfalso; omega)); (try (with_reducible (exact absurd hc (by assumption)))); (try (with_reducible (exact absurd (by assumption) hc)))) | ((fail_if_success (with_reducible show ACall _ _ _ _ _)); (try ((with_reducible show _ ∨ _); first | exact .inl rfl | (refine .inr ⟨rfl, ?_, ?_⟩; (focus (repeat (first | exact trivial | refine ⟨.inl rfl, ?_⟩ | refine ⟨.inr rfl, ?_⟩))); (first | exact trivial | exact rfl))))))))))
  refine w_loop (fun fr B => B = [] ∧ ∃ (n : Nat) (s : List UInt8), ((s = [] ∧ n = n0) ∨ (s ≠ [] ∧ ((n = 0 ∧ s = hexT n0) ∨ (0 < n ∧ hexT n0 = hexT n ++ s)))) ∧ ((s.length = 0 ∧ n < 65536) ∨ (s.length = 1 ∧ n < 4096) ∨ (s.length = 2 ∧ n < 256) ∨ (s.length = 3 ∧ n < 16) ∨ (s.length ≤ 4 ∧ n = 0)) ∧ fr 0 = .int .i64 n ∧ fr 3 = .str s) (fun fr _ => 2 * natOf (fr 0) + empC (fr 3)) ?_ ?_
  · exact ⟨rfl, n0, [], .inl ⟨rfl, rfl⟩, .inl ⟨rfl, hn0⟩, by (simp (disch := omega) [go_sem, *]) <;> (try omega), by (simp (disch := omega) [go_sem, *]) <;> (try omega)⟩
  rintro fr B ⟨rfl, n, s, hs, hl, h0, h3⟩
  have step : ∀ d, n % 16 = d → (0 < n ∨ s = []) → ((hexD d :: s = [] ∧ n / 16 = n0) ∨ (hexD d :: s ≠ [] ∧ ((n / 16 = 0 ∧ hexD d :: s = hexT n0) ∨ (0 < n / 16 ∧ hexT n0 = hexT (n / 16) ++ hexD d :: s)))) := fun d hd hgo => by
    refine .inr ⟨by simp, ?_⟩
    have key2 : hexT n0 = hexT n ++ s := by
      rcases hs with ⟨rfl, rfl⟩ | ⟨h1, ⟨h2, h3⟩ | ⟨h2, h3⟩⟩
      · simp
      · rcases hgo with h | h
        · omega
        · exact absurd h h1
      · exact h3
    by_cases hc : n < 16
    · left
      refine ⟨by omega, ?_⟩
      rw [key2, hexT, dif_pos hc, ← hd, Nat.mod_eq_of_lt hc]; rfl
    · right
      refine ⟨by omega, ?_⟩
      rw [key2, hexT, dif_neg hc, hd]; simp
  obtain ⟨d, hd⟩ : ∃ d, n % 16 = d := ⟨_, rfl⟩
  have hd16 : d < 16 := by omega
  have hdi : (n : Int) % 16 = d := by omega
  have hdg := digs16 ⟨d, by omega⟩
  dsimp only at hdg
  have step := step d hd
  by_cases hg : 0 < n
  · have st := step (.inl hg)
    clear step hs
    replace hd : Hid _ := hd
    have hlen : s.length ≤ 4 := by omega
    repeat' (first | (with_reducible (first | apply w_seq | apply w_region | apply w_block | apply w_skip | apply w_exit | apply w_ret | apply w_then | apply w_then_exit | apply w_then_ret | apply w_in | apply w_in_here | apply w_in_ret | apply w_round | apply o_nil | apply d_nil)) | ((with_reducible (first | apply w_in_exit)); rfl) | ((with_reducible (first | apply w_draw)); rfl) | ((first | ((with_reducible (first | apply o_op | apply d_op | apply q_op)); rfl; rfl) | ((with_reducible (first | apply w_cond | apply w_end | apply w_return))) | ((with_reducible (first | apply o_guard | apply d_guard | apply q_guard)); rfl)); all_goals (first | ((with_reducible show Is _ _); ((try simp (disch := first | omega | (simp only [yA, yB, yC, yD, yE] <;> omega) | fail) [go_sem, yF, yG, yH, *, if_pos, if_neg, -List.map_take, -List.map_drop, -List.map_append, -List.map_reverse]); exact rfl)) | ((fail_if_success (with_reducible show Is _ _)); (first | ((with_reducible refine fun (hc : (_ : Bool) = _) => ?_); (try simp only [xA, xB, xC, xD, xE, xF, xG, xH, reduceCtorEq, xI, xJ, xK, xL, xM, xN, xO, xP, xQ, xR] at hc); (try (have hx : True := hc; clear hx hc)); (try (exfalso; omega)); (try (with_reducible (exact absurd hc (by assumption)))); (try (with_reducible (exact absurd (by assumption) hc)))) | ((fail_if_success (with_reducible show ACall _ _ _ _ _)); (try ((with_reducible show _ ∨ _); first | exact .inl rfl | (refine .inr ⟨rfl, ?_, ?_⟩; (focus (repeat (first | exact trivial | refine ⟨.inl rfl, ?_⟩ | refine ⟨.inr rfl, ?_⟩))); (first | exact trivial | exact rfl))))))))))
    refine ⟨⟨rfl, n / 16, hexD d :: s, st, by simp only [List.length_cons]; omega, by (simp (disch := omega) [go_sem, *]) <;> (try omega), by (simp (disch := omega) [go_sem, *]) <;> (try omega)⟩, ?_⟩
    (simp (disch := omega) [go_sem, *, empC, natOf]) <;> (try omega)
  · obtain rfl : n = 0 := by omega
    by_cases hs0 : s = []
    · subst hs0
      have st := step (.inr rfl)
      clear step hs
      replace hd : Hid _ := hd
      obtain rfl : d = 0 := by have hd : 0 % 16 = d := hd; omega
      repeat' (first | (with_reducible (first | apply w_seq | apply w_region | apply w_block | apply w_skip | apply w_exit | apply w_ret | apply w_then | apply w_then_exit | apply w_then_ret | apply w_in | apply w_in_here | apply w_in_ret | apply w_round | apply o_nil | apply d_nil)) | ((with_reducible (first | apply w_in_exit)); rfl) | ((with_reducible (first | apply w_draw)); rfl) | ((first | ((with_reducible (first | apply o_op | apply d_op | apply q_op)); rfl; rfl) | ((with_reducible (first | apply w_cond | apply w_end | apply w_return))) | ((with_reducible (first | apply o_guard | apply d_guard | apply q_guard)); rfl)); all_goals (first | ((with_reducible show Is _ _); ((try simp (disch := first | omega | (simp only [yA, yB, yC, yD, yE] <;> omega) | fail) [go_sem, yF, yG, yH, *, if_pos, if_neg, -List.map_take, -List.map_drop, -List.map_append, -List.map_reverse]); exact rfl)) | ((fail_if_success (with_reducible show Is _ _)); (first | ((with_reducible refine fun (hc : (_ : Bool) = _) => ?_); (try simp only [xA, xB, xC, xD, xE, xF, xG, xH, reduceCtorEq, xI, xJ, xK, xL, xM, xN, xO, xP, xQ, xR] at hc); (try (have hx : True := hc; clear hx hc)); (try (exfalso; omega)); (try (with_reducible (exact absurd hc (by assumption)))); (try (with_reducible (exact absurd (by assumption) hc)))) | ((fail_if_success (with_reducible show ACall _ _ _ _ _)); (try ((with_reducible show _ ∨ _); first | exact .inl rfl | (refine .inr ⟨rfl, ?_, ?_⟩; (focus (repeat (first | exact trivial | refine ⟨.inl rfl, ?_⟩ | refine ⟨.inr rfl, ?_⟩))); (first | exact trivial | exact rfl))))))))))
      exact ⟨⟨rfl, 0, [48], st, by simp, by (simp (disch := omega) [go_sem, *]) <;> (try omega), by (simp (disch := omega) [go_sem, *]) <;> (try omega)⟩, by (simp (disch := omega) [go_sem, *, empC, natOf]) <;> (try omega)⟩
    · have hfin : s = hexT n0 := by
        rcases hs with ⟨h, _⟩ | ⟨_, ⟨_, h⟩ | ⟨h, _⟩⟩
        · exact absurd h hs0
        · exact h
        · omega
      clear step hs
      have hne : s.isEmpty = false := by cases s with | nil => exact absurd rfl hs0 | cons => rfl
      subst hfin
      repeat' (first | (with_reducible (first | apply w_seq | apply w_region | apply w_block | apply w_skip | apply w_exit | apply w_ret | apply w_then | apply w_then_exit | apply w_then_ret | apply w_in | apply w_in_here | apply w_in_ret | apply w_round | apply o_nil | apply d_nil)) | ((with_reducible (first | apply w_in_exit)); rfl) | ((with_reducible (first | apply w_draw)); rfl) | ((first | ((with_reducible (first | apply o_op | apply d_op | apply q_op)); rfl; rfl) | ((with_reducible (first | apply w_cond | apply w_end | apply w_return))) | ((with_reducible (first | apply o_guard | apply d_guard | apply q_guard)); rfl)); all_goals (first | ((with_reducible show Is _ _); ((try simp (disch := first | omega | (simp only [yA, yB, yC, yD, yE] <;> omega) | fail) [go_sem, yF, yG, yH, *, if_pos, if_neg, -List.map_take, -List.map_drop, -List.map_append, -List.map_reverse]); exact rfl)) | ((fail_if_success (with_reducible show Is _ _)); (first | ((with_reducible refine fun (hc : (_ : Bool) = _) => ?_); (try simp only [xA, xB, xC, xD, xE, xF, xG, xH, reduceCtorEq, xI, xJ, xK, xL, xM, xN, xO, xP, xQ, xR] at hc); (try (have hx : True := hc; clear hx hc)); (try (exfalso; omega)); (try (with_reducible (exact absurd hc (by assumption)))); (try (with_reducible (exact absurd (by assumption) hc)))) | ((fail_if_success (with_reducible show ACall _ _ _ _ _)); (try ((with_reducible show _ ∨ _); first | exact .inl rfl | (refine .inr ⟨rfl, ?_, ?_⟩; (focus (repeat (first | exact trivial | refine ⟨.inl rfl, ?_⟩ | refine ⟨.inr rfl, ?_⟩))); (first | exact trivial | exact rfl))))))))))
      rfl
theorem group_at {B : List Box} {n : Int} {m : Nat} (hn : n = m) (hm : m < 65536) : ACall Tryd.prog 35 [.int .i64 n] B fun c B' => c = .str (hexT m) ∧ B' = B := by subst hn; exact acall_fresh (nz := false) rfl (group_in m hm)
def lastJ (s : List UInt8) : Nat → Int
  | 0 => -1
  | j + 1 => if s[j]? = some 58 then j else lastJ s j
theorem last_in (s : List UInt8) (hs : s.length < 4611686018427387904) : PC Tryd.prog true 73 [.str s] (.int .i64 (lastJ s s.length)) := by
  refine acall_intro mixed Tryd.func73 rfl ca73 (by kernel_rfl) (by rw [Tryd.ntmps73]; simp) ?_
  repeat' (first | (with_reducible (first | apply w_seq | apply w_region | apply w_block | apply w_skip | apply w_exit | apply w_ret | apply w_then | apply w_then_exit | apply w_then_ret | apply w_in | apply w_in_here | apply w_in_ret | apply w_round | apply o_nil | apply d_nil)) | ((with_reducible (first | apply w_in_exit)); rfl) | ((with_reducible (first | apply w_draw)); rfl) | ((first | ((with_reducible (first | apply o_op | apply d_op | apply q_op)); rfl; rfl) | ((with_reducible (first | apply w_cond | apply w_end | apply w_return))) | ((with_reducible (first | apply o_guard | apply d_guard | apply q_guard)); rfl)); all_goals (first | ((with_reducible show Is _ _); ((try simp (disch := first | omega | (simp only [yA, yB, yC, yD, yE] <;> omega) | fail) [go_sem, yF, yG, yH, *, if_pos, if_neg, -List.map_take, -List.map_drop, -List.map_append, -List.map_reverse]); exact rfl)) | ((fail_if_success (with_reducible show Is _ _)); (first | ((with_reducible refine fun (hc : (_ : Bool) = _) => ?_); (try simp only [xA, xB, xC, xD, xE, xF, xG, xH, reduceCtorEq, xI, xJ, xK, xL, xM, xN, xO, xP, xQ, xR] at hc); (try (have hx : True := hc; clear hx hc)); (try (exfalso; omega)); (try (with_reducible (exact absurd hc (by assumption)))); (try (with_reducible (exact absurd (by assumption) hc)))) | ((fail_if_success (with_reducible show ACall _ _ _ _ _)); (try ((with_reducible show _ ∨ _); first | exact .inl rfl | (refine .inr ⟨rfl, ?_, ?_⟩; (focus (repeat (first | exact trivial | refine ⟨.inl rfl, ?_⟩ | refine ⟨.inr rfl, ?_⟩))); (first | exact trivial | exact rfl))))))))))
  refine w_loop (fun fr B => B = [] ∧ ∃ j : Nat, j ≤ s.length ∧ fr 4 = .int .i64 j ∧ fr 0 = .str s ∧ fr 3 = .int .i64 (lastJ s j)) (fun fr _ => s.length - natOf (fr 4)) ?_ ?_
  · exact ⟨rfl, 0, by omega, by (simp (disch := omega) [go_sem, *]) <;> (try omega), by (simp (disch := omega) [go_sem, *]) <;> (try omega), by (simp (disch := omega) [go_sem, *, lastJ]) <;> (try omega)⟩
  rintro fr B ⟨rfl, j, hj, h4, h0, h3⟩
  by_cases hc : j < s.length
  · have hnx : lastJ s (j + 1) = if s[j] = 58 then (j : Int) else lastJ s j := by rw [lastJ, List.getElem?_eq_getElem hc]; simp
    have hlt := s[j].toNat_lt
    by_cases h58 : s[j] = 58
    · rw [if_pos h58] at hnx
      have h58' : (s[j].toNat : Int) = 58 := by rw [h58]; rfl
      clear h58
      repeat' (first | (with_reducible (first | apply w_seq | apply w_region | apply w_block | apply w_skip | apply w_exit | apply w_ret | apply w_then | apply w_then_exit | apply w_then_ret | apply w_in | apply w_in_here | apply w_in_ret | apply w_round | apply o_nil | apply d_nil)) | ((with_reducible (first | apply w_in_exit)); rfl) | ((with_reducible (first | apply w_draw)); rfl) | ((first | ((with_reducible (first | apply o_op | apply d_op | apply q_op)); rfl; rfl) | ((with_reducible (first | apply w_cond | apply w_end | apply w_return))) | ((with_reducible (first | apply o_guard | apply d_guard | apply q_guard)); rfl)); all_goals (first | ((with_reducible show Is _ _); ((try simp (disch := first | omega | (simp only [yA, yB, yC, yD, yE] <;> omega) | fail) [go_sem, yF, yG, yH, *, if_pos, if_neg, -List.map_take, -List.map_drop, -List.map_append, -List.map_reverse]); exact rfl)) | ((fail_if_success (with_reducible show Is _ _)); (first | ((with_reducible refine fun (hc : (_ : Bool) = _) => ?_); (try simp only [xA, xB, xC, xD, xE, xF, xG, xH, reduceCtorEq, xI, xJ, xK, xL, xM, xN, xO, xP, xQ, xR] at hc); (try (have hx : True := hc; clear hx hc)); (try (exfalso; omega)); (try (with_reducible (exact absurd hc (by assumption)))); (try (with_reducible (exact absurd (by assumption) hc)))) | ((fail_if_success (with_reducible show ACall _ _ _ _ _)); (try ((with_reducible show _ ∨ _); first | exact .inl rfl | (refine .inr ⟨rfl, ?_, ?_⟩; (focus (repeat (first | exact trivial | refine ⟨.inl rfl, ?_⟩ | refine ⟨.inr rfl, ?_⟩))); (first | exact trivial | exact rfl))))))))))
      exact ⟨⟨rfl, j + 1, by omega, by (simp (disch := omega) [go_sem, *]) <;> (try omega), by (simp (disch := omega) [go_sem, *]) <;> (try omega), by rw [hnx] <;> (simp (disch := omega) [go_sem, *]) <;> (try omega)⟩, by (simp (disch := omega) [go_sem, *]) <;> (try omega)⟩
    · rw [if_neg h58] at hnx
      have h58' : (s[j].toNat : Int) ≠ 58 := fun h => h58 (UInt8.toNat_inj.1 (by have : s[j].toNat = 58 := (by omega); rw [this]; rfl))
      clear h58
      repeat' (first | (with_reducible (first | apply w_seq | apply w_region | apply w_block | apply w_skip | apply w_exit | apply w_ret | apply w_then | apply w_then_exit | apply w_then_ret | apply w_in | apply w_in_here | apply w_in_ret | apply w_round | apply o_nil | apply d_nil)) | ((with_reducible (first | apply w_in_exit)); rfl) | ((with_reducible (first | apply w_draw)); rfl) | ((first | ((with_reducible (first | apply o_op | apply d_op | apply q_op)); rfl; rfl) | ((with_reducible (first | apply w_cond | apply w_end | apply w_return))) | ((with_reducible (first | apply o_guard | apply d_guard | apply q_guard)); rfl)); all_goals (first | ((with_reducible show Is _ _); ((try simp (disch := first | omega | (simp only [yA, yB, yC, yD, yE] <;> omega) | fail) [go_sem, yF, yG, yH, *, if_pos, if_neg, -List.map_take, -List.map_drop, -List.map_append, -List.map_reverse]); exact rfl)) | ((fail_if_success (with_reducible show Is _ _)); (first | ((with_reducible refine fun (hc : (_ : Bool) = _) => ?_); (try simp only [xA, xB, xC, xD, xE, xF, xG, xH, reduceCtorEq, xI, xJ, xK, xL, xM, xN, xO, xP, xQ, xR] at hc); (try (have hx : True := hc; clear hx hc)); (try (exfalso; omega)); (try (with_reducible (exact absurd hc (by assumption)))); (try (with_reducible (exact absurd (by assumption) hc)))) | ((fail_if_success (with_reducible show ACall _ _ _ _ _)); (try ((with_reducible show _ ∨ _); first | exact .inl rfl | (refine .inr ⟨rfl, ?_, ?_⟩; (focus (repeat (first | exact trivial | refine ⟨.inl rfl, ?_⟩ | refine ⟨.inr rfl, ?_⟩))); (first | exact trivial | exact rfl))))))))))
      exact ⟨⟨rfl, j + 1, by omega, by (simp (disch := omega) [go_sem, *]) <;> (try omega), by (simp (disch := omega) [go_sem, *]) <;> (try omega), by rw [hnx] <;> (simp (disch := omega) [go_sem, *]) <;> (try omega)⟩, by (simp (disch := omega) [go_sem, *]) <;> (try omega)⟩
  · obtain rfl : j = s.length := by omega
    repeat' (first | (with_reducible (first | apply w_seq | apply w_region | apply w_block | apply w_skip | apply w_exit | apply w_ret | apply w_then | apply w_then_exit | apply w_then_ret | apply w_in | apply w_in_here | apply w_in_ret | apply w_round | apply o_nil | apply d_nil)) | ((with_reducible (first | apply w_in_exit)); rfl) | ((with_reducible (first | apply w_draw)); rfl) | ((first | ((with_reducible (first | apply o_op | apply d_op | apply q_op)); rfl; rfl) | ((with_reducible (first | apply w_cond | apply w_end | apply w_return))) | ((with_reducible (first | apply o_guard | apply d_guard | apply q_guard)); rfl)); all_goals (first | ((with_reducible show Is _ _); ((try simp (disch := first | omega | (simp only [yA, yB, yC, yD, yE] <;> omega) | fail) [go_sem, yF, yG, yH, *, if_pos, if_neg, -List.map_take, -List.map_drop, -List.map_append, -List.map_reverse]); exact rfl)) | ((fail_if_success (with_reducible show Is _ _)); (first | ((with_reducible refine fun (hc : (_ : Bool) = _) => ?_); (try simp only [xA, xB, xC, xD, xE, xF, xG, xH, reduceCtorEq, xI, xJ, xK, xL, xM, xN, xO, xP, xQ, xR] at hc); (try (have hx : True := hc; clear hx hc)); (try (exfalso; omega)); (try (with_reducible (exact absurd hc (by assumption)))); (try (with_reducible (exact absurd (by assumption) hc)))) | ((fail_if_success (with_reducible show ACall _ _ _ _ _)); (try ((with_reducible show _ ∨ _); first | exact .inl rfl | (refine .inr ⟨rfl, ?_, ?_⟩; (focus (repeat (first | exact trivial | refine ⟨.inl rfl, ?_⟩ | refine ⟨.inr rfl, ?_⟩))); (first | exact trivial | exact rfl))))))))))
    rfl
end Go.Proofs.YtdceppjoipoohaaDoor
end
section
namespace Go.Proofs.YtdceppjoipoohaaDoor
open Go Go.Sy
set_option linter.all false
set_option maxRecDepth 100000
set_option maxHeartbeats 4000000
theorem splitL_cons {b c : UInt8} {s : List UInt8} {x : List UInt8} {xs : List (List UInt8)} (h : splitL b s = x :: xs) (hc : c ≠ b) : splitL b (c :: s) = (c :: x) :: xs := by rw [splitL, if_neg hc, h]
theorem splitL_snoc (b : UInt8) : ∀ (s : List UInt8) (c : UInt8), splitL b (s ++ [c]) = if c = b then splitL b s ++ [[]] else (splitL b s).dropLast ++ [((splitL b s).getLast?.getD []) ++ [c]]
  | [], c => by
    by_cases hc : c = b
    · rw [if_pos hc]; simp [splitL, hc]
    · rw [if_neg hc]; simp [splitL, hc]
  | d :: s, c => by
    have ih := splitL_snoc b s c
    obtain ⟨x, xs, h⟩ : ∃ x xs, splitL b s = x :: xs := by
      cases h : splitL b s with
      | nil => exact absurd h (splitL_ne b s)
      | cons x xs => exact ⟨x, xs, rfl⟩
    by_cases hc : c = b
    · rw [if_pos hc] at ih ⊢
      by_cases hd : d = b
      · rw [List.cons_append, splitL, if_pos hd, ih, splitL, if_pos hd]; rfl
      · rw [h] at ih
        rw [List.cons_append, splitL_cons ih hd, splitL_cons h hd]; rfl
    · rw [if_neg hc] at ih ⊢
      by_cases hd : d = b
      · rw [List.cons_append, splitL, if_pos hd, ih, splitL, if_pos hd, h]; simp
      · rw [h] at ih
        cases xs with
        | nil =>
          simp at ih
          rw [List.cons_append, splitL_cons ih hd, splitL_cons h hd]; simp
        | cons y ys =>
          simp at ih
          rw [List.cons_append, splitL_cons ih hd, splitL_cons h hd]; simp
theorem rsplit_in (s : List UInt8) (b : UInt8) (hs : s.length < 1000000000) : PC Tryd.prog true 70 [.str s, byteC b] (.lst (splitL b s).length ((splitL b s).map .str) false) := by
  refine acall_intro mixed Tryd.func70 rfl ca70 (by kernel_rfl) (by rw [Tryd.ntmps70]; simp) ?_
  repeat' (first | (with_reducible (first | apply w_seq | apply w_region | apply w_block | apply w_skip | apply w_exit | apply w_ret | apply w_then | apply w_then_exit | apply w_then_ret | apply w_in | apply w_in_here | apply w_in_ret | apply w_round | apply o_nil | apply d_nil)) | ((with_reducible (first | apply w_in_exit)); rfl) | ((with_reducible (first | apply w_draw)); rfl) | ((first | ((with_reducible (first | apply o_op | apply d_op | apply q_op)); rfl; rfl) | ((with_reducible (first | apply w_cond | apply w_end | apply w_return))) | ((with_reducible (first | apply o_guard | apply d_guard | apply q_guard)); rfl)); all_goals (first | ((with_reducible show Is _ _); ((try simp (disch := first | omega | (simp only [yA, yB, yC, yD, yE] <;> omega) | fail) [go_sem, yF, yG, yH, *, if_pos, if_neg, -List.map_take, -List.map_drop, -List.map_append, -List.map_reverse]); exact rfl)) | ((fail_if_success (with_reducible show Is _ _)); (first | ((with_reducible refine fun (hc : (_ : Bool) = _) => ?_); (try simp only [xA, xB, xC, xD, xE, xF, xG, xH, reduceCtorEq, xI, xJ, xK, xL, xM, xN, xO, xP, xQ, xR] at hc); (try (have hx : True := hc; clear hx hc)); (try (exfalso; omega)); (try (with_reducible (exact absurd hc (by assumption)))); (try (with_reducible (exact absurd (by assumption) hc)))) | ((fail_if_success (with_reducible show ACall _ _ _ _ _)); (try ((with_reducible show _ ∨ _); first | exact .inl rfl | (refine .inr ⟨rfl, ?_, ?_⟩; (focus (repeat (first | exact trivial | refine ⟨.inl rfl, ?_⟩ | refine ⟨.inr rfl, ?_⟩))); (first | exact trivial | exact rfl))))))))))
  refine w_loop (fun fr B => ∃ (j β n : Nat) (init : List (List UInt8)) (last : List UInt8) (ic rest : List CV), j ≤ s.length ∧ splitL b (s.take j) = init ++ [last] ∧ ic = init.map .str ∧ ic.length = n ∧ n ≤ j ∧ last.length ≤ j ∧ fr 0 = .str s ∧ fr 1 = byteC b ∧ fr 6 = .int .i64 j ∧ fr 5 = .cview β 0 (n + 1) (n + 1 + rest.length) 1 ∧ B[β]? = some ⟨ic ++ .str last :: rest, false⟩) (fun fr _ => s.length - natOf (fr 6)) ?_ ?_
  · exact ⟨0, 0, 0, [], [], [], [], by omega, rfl, rfl, rfl, by omega, by simp, by (simp (disch := omega) [go_sem, *]) <;> (try omega), by (simp (disch := omega) [go_sem, *]) <;> (try omega), by (simp (disch := omega) [go_sem, *]) <;> (try omega), by (simp (disch := omega) [go_sem, *]) <;> (try omega), by (simp (disch := omega) [go_sem, *]) <;> (try omega)⟩
  rintro fr B ⟨j, β, n, init, last, ic, rest, hj, hsp, hic, hn, hnj, hlj, h0, h1, h6, h5, hβ⟩
  have hdr : (ic ++ .str last :: rest).drop n = .str last :: rest := by rw [← hn]; simp
  have htk : (ic ++ .str last :: rest).take n = ic := by rw [← hn]; simp
  have hdr1 : (ic ++ .str last :: rest).drop (n + 1) = rest := by rw [← List.drop_drop, hdr]; rfl
  have htk1 : (ic ++ .str last :: rest).take (n + 1) = ic ++ [.str last] := by rw [← hn, List.take_length_add_append]; rfl
  have hln : (ic ++ .str last :: rest).length = n + 1 + rest.length := by rw [List.length_append, List.length_cons, hn]; omega
  have xb := bx_pack hβ
  replace hic : Hid _ := hic
  by_cases hc : j < s.length
  · have hsn := splitL_snoc b (s.take j) s[j]
    rw [← List.take_succ_eq_append_getElem hc, hsp] at hsn
    have hlt := s[j].toNat_lt
    by_cases heb : s[j] = b
    · rw [if_pos heb] at hsn
      have heb' : (s[j].toNat : Int) = b.toNat := by rw [heb]
      by_cases hroom : 0 < rest.length
      · obtain ⟨r0, rest, rfl⟩ : ∃ r0 r, rest = r0 :: r := by
          cases rest with
          | nil => simp at hroom
          | cons a b => exact ⟨a, b, rfl⟩
        have hsp2 : (ic ++ .str last :: r0 :: rest).drop (n + 1 + 1) = rest := by rw [← List.drop_drop, hdr1]; rfl
        replace hsn : Hid _ := hsn
        replace hsp : Hid _ := hsp
        clear heb
        repeat' (first | (with_reducible (first | apply w_seq | apply w_region | apply w_block | apply w_skip | apply w_exit | apply w_ret | apply w_then | apply w_then_exit | apply w_then_ret | apply w_in | apply w_in_here | apply w_in_ret | apply w_round | apply o_nil | apply d_nil)) | ((with_reducible (first | apply w_in_exit)); rfl) | ((with_reducible (first | apply w_draw)); rfl) | ((first | ((with_reducible (first | apply o_op | apply d_op | apply q_op)); rfl; rfl) | ((with_reducible (first | apply w_cond | apply w_end | apply w_return))) | ((with_reducible (first | apply o_guard | apply d_guard | apply q_guard)); rfl)); all_goals (first | ((with_reducible show Is _ _); ((try simp (disch := first | omega | (simp only [yA, yB, yC, yD, yE] <;> omega) | fail) [go_sem, yF, yG, yH, *, if_pos, if_neg, -List.map_take, -List.map_drop, -List.map_append, -List.map_reverse]); exact rfl)) | ((fail_if_success (with_reducible show Is _ _)); (first | ((with_reducible refine fun (hc : (_ : Bool) = _) => ?_); (try simp only [xA, xB, xC, xD, xE, xF, xG, xH, reduceCtorEq, xI, xJ, xK, xL, xM, xN, xO, xP, xQ, xR] at hc); (try (have hx : True := hc; clear hx hc)); (try (exfalso; omega)); (try (with_reducible (exact absurd hc (by assumption)))); (try (with_reducible (exact absurd (by assumption) hc)))) | ((fail_if_success (with_reducible show ACall _ _ _ _ _)); (try ((with_reducible show _ ∨ _); first | exact .inl rfl | (refine .inr ⟨rfl, ?_, ?_⟩; (focus (repeat (first | exact trivial | refine ⟨.inl rfl, ?_⟩ | refine ⟨.inr rfl, ?_⟩))); (first | exact trivial | exact rfl))))))))))
        have hsn : _ = _ := hsn
        have hic : ic = init.map .str := hic
        refine ⟨⟨j + 1, β, n + 1, init ++ [last], [], ic ++ [.str last], rest, by omega, hsn, by rw [hic]; simp, by simp [hn], by omega, by simp, by (simp (disch := omega) [go_sem, *]) <;> (try omega), by (simp (disch := omega) [go_sem, *]) <;> (try omega), by (simp (disch := omega) [go_sem, *]) <;> (try omega), by (simp (disch := omega) [go_sem, *]) <;> (try omega), ?_⟩, by (simp (disch := omega) [go_sem, *]) <;> (try omega)⟩
        (simp (disch := omega) [go_sem, *]) <;> (try omega)
        rw [show n + 1 + 1 - n = 2 by omega]; rfl
      · obtain rfl : rest = [] := List.eq_nil_of_length_eq_zero (by omega)
        obtain ⟨k1, hk1⟩ : ∃ k1, n + 1 = k1 := ⟨_, rfl⟩
        obtain ⟨k2, hk2⟩ : ∃ k2, n + 1 = k2 := ⟨_, rfl⟩
        replace h5 : fr 5 = .cview β 0 k1 k2 1 := by rw [← hk1, ← hk2]; exact hk1 ▸ h5
        replace hk1 : Hid _ := hk1
        replace hk2 : Hid _ := hk2
        replace hsn : Hid _ := hsn
        replace hsp : Hid _ := hsp
        clear heb
        repeat' (first | (with_reducible (first | apply w_seq | apply w_region | apply w_block | apply w_skip | apply w_exit | apply w_ret | apply w_then | apply w_then_exit | apply w_then_ret | apply w_in | apply w_in_here | apply w_in_ret | apply w_round | apply o_nil | apply d_nil)) | ((with_reducible (first | apply w_in_exit)); rfl) | ((with_reducible (first | apply w_draw)); rfl) | ((first | ((with_reducible (first | apply o_op | apply d_op | apply q_op)); rfl; rfl) | ((with_reducible (first | apply w_cond | apply w_end | apply w_return))) | ((with_reducible (first | apply o_guard | apply d_guard | apply q_guard)); rfl)); all_goals (first | ((with_reducible show Is _ _); ((try simp (disch := first | omega | (simp only [yA, yB, yC, yD, yE] <;> omega) | fail) [go_sem, yF, yG, yH, *, if_pos, if_neg, -List.map_take, -List.map_drop, -List.map_append, -List.map_reverse]); exact rfl)) | ((fail_if_success (with_reducible show Is _ _)); (first | ((with_reducible refine fun (hc : (_ : Bool) = _) => ?_); (try simp only [xA, xB, xC, xD, xE, xF, xG, xH, reduceCtorEq, xI, xJ, xK, xL, xM, xN, xO, xP, xQ, xR] at hc); (try (have hx : True := hc; clear hx hc)); (try (exfalso; omega)); (try (with_reducible (exact absurd hc (by assumption)))); (try (with_reducible (exact absurd (by assumption) hc)))) | ((fail_if_success (with_reducible show ACall _ _ _ _ _)); (try ((with_reducible show _ ∨ _); first | exact .inl rfl | (refine .inr ⟨rfl, ?_, ?_⟩; (focus (repeat (first | exact trivial | refine ⟨.inl rfl, ?_⟩ | refine ⟨.inr rfl, ?_⟩))); (first | exact trivial | exact rfl))))))))))
        have hk1 : n + 1 = k1 := hk1
        have hk2 : n + 1 = k2 := hk2
        subst hk1 hk2
        have hβ2 : (B ++ [⟨[CV.str []], false⟩])[β]? = some ⟨ic ++ [.str last], false⟩ := by simp [xb]
        refine o_appendG (P := Tryd.prog) (e := 9) (esz := 1) (m := 1) (k := n + 1) (zs := [.str []]) (olds := ic ++ [.str last]) (news := [.str []]) rfl (by (try simp (disch := first | omega | (simp only [yA, yB, yC, yD, yE] <;> omega) | fail) [go_sem, yF, yG, yH, *, -List.map_take, -List.map_drop, -List.map_append, -List.map_reverse]); exact rfl) (by (try simp (disch := first | omega | (simp only [yA, yB, yC, yD, yE] <;> omega) | fail) [go_sem, yF, yG, yH, *, -List.map_take, -List.map_drop, -List.map_append, -List.map_reverse]); exact rfl) (by simp (disch := first | omega | (simp only [yA, yB, yC, yD, yE] <;> omega) | fail) [go_sem, yF, yG, yH, *, -List.map_take, -List.map_drop, -List.map_append, -List.map_reverse]) (by simp (disch := first | omega | (simp only [yA, yB, yC, yD, yE] <;> omega) | fail) [go_sem, yF, yG, yH, *, -List.map_take, -List.map_drop, -List.map_append, -List.map_reverse]) (by simp (disch := first | omega | (simp only [yA, yB, yC, yD, yE] <;> omega) | fail) [go_sem, yF, yG, yH, *, -List.map_take, -List.map_drop, -List.map_append, -List.map_reverse]) rfl (by decide) ⟨_, by simp (disch := first | omega | (simp only [yA, yB, yC, yD, yE] <;> omega) | fail) [go_sem, yF, yG, yH, *, -List.map_take, -List.map_drop, -List.map_append, -List.map_reverse]; rfl⟩ (by simp (disch := first | omega | (simp only [yA, yB, yC, yD, yE] <;> omega) | fail) [go_sem, yF, yG, yH, *, -List.map_take, -List.map_drop, -List.map_append, -List.map_reverse]) (by simp) (by decide) (.inr (.inr ⟨β, 0, n + 1, _, rfl, hβ2, by omega, by rw [List.drop_zero, List.take_of_length_le (by simp [hn])]⟩)) (by simp (disch := first | omega | (simp only [yA, yB, yC, yD, yE] <;> omega) | fail) [go_sem, yF, yG, yH, *, -List.map_take, -List.map_drop, -List.map_append, -List.map_reverse]; omega) (by omega) ?_
        intro cap hcap
        obtain ⟨rs, hrs, hrl⟩ : ∃ rs, repC [CV.str []] (cap - (n + 1 + 1)) = rs ∧ cap = n + 1 + 1 + rs.length := ⟨_, rfl, by rw [repC_length]; simp; omega⟩
        rw [hrs]
        subst hrl
        clear hrs hcap
        repeat' (first | (with_reducible (first | apply w_seq | apply w_region | apply w_block | apply w_skip | apply w_exit | apply w_ret | apply w_then | apply w_then_exit | apply w_then_ret | apply w_in | apply w_in_here | apply w_in_ret | apply w_round | apply o_nil | apply d_nil)) | ((with_reducible (first | apply w_in_exit)); rfl) | ((with_reducible (first | apply w_draw)); rfl) | ((first | ((with_reducible (first | apply o_op | apply d_op | apply q_op)); rfl; rfl) | ((with_reducible (first | apply w_cond | apply w_end | apply w_return))) | ((with_reducible (first | apply o_guard | apply d_guard | apply q_guard)); rfl)); all_goals (first | ((with_reducible show Is _ _); ((try simp (disch := first | omega | (simp only [yA, yB, yC, yD, yE] <;> omega) | fail) [go_sem, yF, yG, yH, *, if_pos, if_neg, -List.map_take, -List.map_drop, -List.map_append, -List.map_reverse]); exact rfl)) | ((fail_if_success (with_reducible show Is _ _)); (first | ((with_reducible refine fun (hc : (_ : Bool) = _) => ?_); (try simp only [xA, xB, xC, xD, xE, xF, xG, xH, reduceCtorEq, xI, xJ, xK, xL, xM, xN, xO, xP, xQ, xR] at hc); (try (have hx : True := hc; clear hx hc)); (try (exfalso; omega)); (try (with_reducible (exact absurd hc (by assumption)))); (try (with_reducible (exact absurd (by assumption) hc)))) | ((fail_if_success (with_reducible show ACall _ _ _ _ _)); (try ((with_reducible show _ ∨ _); first | exact .inl rfl | (refine .inr ⟨rfl, ?_, ?_⟩; (focus (repeat (first | exact trivial | refine ⟨.inl rfl, ?_⟩ | refine ⟨.inr rfl, ?_⟩))); (first | exact trivial | exact rfl))))))))))
        have hsn : _ = _ := hsn
        have hic : ic = init.map .str := hic
        refine ⟨⟨j + 1, B.length + 1, n + 1, init ++ [last], [], ic ++ [.str last], rs, by omega, hsn, by rw [hic]; simp, by simp [hn], by omega, by simp, by (simp (disch := omega) [go_sem, *]) <;> (try omega), by (simp (disch := omega) [go_sem, *]) <;> (try omega), by (simp (disch := omega) [go_sem, *]) <;> (try omega), by (simp (disch := omega) [go_sem, *]) <;> (try omega), ?_⟩, by (simp (disch := omega) [go_sem, *]) <;> (try omega)⟩
        simp
    · rw [if_neg heb] at hsn
      have heb' : (s[j].toNat : Int) ≠ b.toNat := fun h => heb (UInt8.toNat_inj.1 (by omega))
      have hsl : (s.drop j).take 1 = [s[j]] := by rw [List.drop_eq_getElem_cons hc]; rfl
      replace hsn : Hid _ := hsn
      replace hsp : Hid _ := hsp
      clear heb
      repeat' (first | (with_reducible (first | apply w_seq | apply w_region | apply w_block | apply w_skip | apply w_exit | apply w_ret | apply w_then | apply w_then_exit | apply w_then_ret | apply w_in | apply w_in_here | apply w_in_ret | apply w_round | apply o_nil | apply d_nil)) | ((with_reducible (first | apply w_in_exit)); rfl) | ((with_reducible (first | apply w_draw)); rfl) | ((first | ((with_reducible (first | apply o_op | apply d_op | apply q_op)); rfl; rfl) | ((with_reducible (first | apply w_cond | apply w_end | apply w_return))) | ((with_reducible (first | apply o_guard | apply d_guard | apply q_guard)); rfl)); all_goals (first | ((with_reducible show Is _ _); ((try simp (disch := first | omega | (simp only [yA, yB, yC, yD, yE] <;> omega) | fail) [go_sem, yF, yG, yH, *, if_pos, if_neg, -List.map_take, -List.map_drop, -List.map_append, -List.map_reverse]); exact rfl)) | ((fail_if_success (with_reducible show Is _ _)); (first | ((with_reducible refine fun (hc : (_ : Bool) = _) => ?_); (try simp only [xA, xB, xC, xD, xE, xF, xG, xH, reduceCtorEq, xI, xJ, xK, xL, xM, xN, xO, xP, xQ, xR] at hc); (try (have hx : True := hc; clear hx hc)); (try (exfalso; omega)); (try (with_reducible (exact absurd hc (by assumption)))); (try (with_reducible (exact absurd (by assumption) hc)))) | ((fail_if_success (with_reducible show ACall _ _ _ _ _)); (try ((with_reducible show _ ∨ _); first | exact .inl rfl | (refine .inr ⟨rfl, ?_, ?_⟩; (focus (repeat (first | exact trivial | refine ⟨.inl rfl, ?_⟩ | refine ⟨.inr rfl, ?_⟩))); (first | exact trivial | exact rfl))))))))))
      have hsn : _ = _ := hsn
      have hic : ic = init.map .str := hic
      refine ⟨⟨j + 1, β, n, init, last ++ [s[j]], ic, rest, by omega, by rw [hsn]; simp, hic, hn, by omega, by simp; omega, by (simp (disch := omega) [go_sem, *]) <;> (try omega), by (simp (disch := omega) [go_sem, *]) <;> (try omega), by (simp (disch := omega) [go_sem, *]) <;> (try omega), by (simp (disch := omega) [go_sem, *]) <;> (try omega), ?_⟩, by (simp (disch := omega) [go_sem, *]) <;> (try omega)⟩
      (simp (disch := omega) [go_sem, *]) <;> (try omega)
  · obtain rfl : j = s.length := by omega
    repeat' (first | (with_reducible (first | apply w_seq | apply w_region | apply w_block | apply w_skip | apply w_exit | apply w_ret | apply w_then | apply w_then_exit | apply w_then_ret | apply w_in | apply w_in_here | apply w_in_ret | apply w_round | apply o_nil | apply d_nil)) | ((with_reducible (first | apply w_in_exit)); rfl) | ((with_reducible (first | apply w_draw)); rfl) | ((first | ((with_reducible (first | apply o_op | apply d_op | apply q_op)); rfl; rfl) | ((with_reducible (first | apply w_cond | apply w_end | apply w_return))) | ((with_reducible (first | apply o_guard | apply d_guard | apply q_guard)); rfl)); all_goals (first | ((with_reducible show Is _ _); ((try simp (disch := first | omega | (simp only [yA, yB, yC, yD, yE] <;> omega) | fail) [go_sem, yF, yG, yH, *, if_pos, if_neg, -List.map_take, -List.map_drop, -List.map_append, -List.map_reverse]); exact rfl)) | ((fail_if_success (with_reducible show Is _ _)); (first | ((with_reducible refine fun (hc : (_ : Bool) = _) => ?_); (try simp only [xA, xB, xC, xD, xE, xF, xG, xH, reduceCtorEq, xI, xJ, xK, xL, xM, xN, xO, xP, xQ, xR] at hc); (try (have hx : True := hc; clear hx hc)); (try (exfalso; omega)); (try (with_reducible (exact absurd hc (by assumption)))); (try (with_reducible (exact absurd (by assumption) hc)))) | ((fail_if_success (with_reducible show ACall _ _ _ _ _)); (try ((with_reducible show _ ∨ _); first | exact .inl rfl | (refine .inr ⟨rfl, ?_, ?_⟩; (focus (repeat (first | exact trivial | refine ⟨.inl rfl, ?_⟩ | refine ⟨.inr rfl, ?_⟩))); (first | exact trivial | exact rfl))))))))))
    have hic : ic = init.map .str := hic
    rw [List.take_length] at hsp
    rw [fz_cview, hβ]
    simp only [List.drop_zero, Nat.mul_one]
    rw [htk1, hic, ← List.map_singleton (f := CV.str), ← List.map_append, ← hsp]
    have hl2 : n + 1 = (splitL b s).length := by rw [hsp, List.length_append, ← hn, hic]; simp
    rw [hl2]
    have : ∀ L : List (List UInt8), omap (Go.Sy.fz true true B 5) (L.map CV.str) = some (L.map CV.str) := fun L => by
      induction L with
      | nil => rfl
      | cons x xs ih => rw [List.map_cons, omap_two, ih]; rfl
    rw [this]; rfl
end Go.Proofs.YtdceppjoipoohaaDoor
end
