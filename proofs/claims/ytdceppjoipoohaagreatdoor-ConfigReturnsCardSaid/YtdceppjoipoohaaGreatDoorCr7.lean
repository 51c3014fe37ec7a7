/- Lemmas and definitions of this claim (own texts, joined by a program; what the claim does not use is left out). -/
import Derived.Test.YtdceppjoipoohaaGreatDoorCr6
section
namespace Go.Proofs.YtdceppjoipoohaaGreatDoor
open Go Go.Sy
set_option linter.all false
set_option maxRecDepth 100000
set_option maxHeartbeats 4000000
def isDig (c : UInt8) : Bool := decide (48 ≤ c.toNat) && decide (c.toNat ≤ 57)
def decV (l : List UInt8) : Nat := l.foldl (fun n c => 10 * n + (c.toNat - 48)) 0
def headOk (m : Nat) (s : List UInt8) : Bool := decide (1 ≤ s.length) && decide (s.length ≤ m) && !(decide (1 < s.length) && (s.head? == some 48))
def decOk (m : Nat) (s : List UInt8) : Bool := headOk m s && s.all isDig
def decR (m : Nat) (s : List UInt8) : Nat := if decOk m s then decV s else 0
theorem decV_app (l : List UInt8) (c : UInt8) : decV (l ++ [c]) = 10 * decV l + (c.toNat - 48) := by simp [decV, List.foldl_append]
theorem decV_take {l : List UInt8} {k : Nat} (h : k < l.length) : decV (l.take (k + 1)) = 10 * decV (l.take k) + (l[k].toNat - 48) := by rw [List.take_succ_eq_append_getElem h, decV_app]
theorem decV_lt : ∀ (l : List UInt8), l.all isDig = true → decV l < 10 ^ l.length := by
  intro l
  suffices h : ∀ (l : List UInt8) (n k : Nat), n < 10 ^ k → l.all isDig = true → l.foldl (fun n c => 10 * n + (c.toNat - 48)) n < 10 ^ (k + l.length) by
    intro hl; have := h l 0 0 (by decide) hl; rwa [Nat.zero_add] at this
  intro l
  induction l with
  | nil => intro n k h _; simpa using h
  | cons c l ih =>
    intro n k h hl
    simp only [List.all_cons, Bool.and_eq_true] at hl
    have hc : 48 ≤ c.toNat ∧ c.toNat ≤ 57 := by simpa [isDig] using hl.1
    have := ih (10 * n + (c.toNat - 48)) (k + 1) (by rw [Nat.pow_succ]; omega) hl.2
    rw [List.foldl_cons, List.length_cons, show k + (l.length + 1) = k + 1 + l.length by omega]
    exact this
theorem dec_bound {s : List UInt8} {j : Nat} (hd : (s.take j).all isDig = true) (hj : j ≤ 10) : decV (s.take j) ≤ 9999999999 := by
  have h1 := decV_lt _ hd
  have h2 : (s.take j).length ≤ 10 := by rw [List.length_take]; omega
  have h3 : 10 ^ (s.take j).length ≤ 10 ^ 10 := Nat.pow_le_pow_right (by decide) h2
  omega
theorem all_take {s : List UInt8} {j : Nat} (h : j < s.length) : (s.take (j + 1)).all isDig = ((s.take j).all isDig && isDig s[j]) := by
  rw [List.take_succ_eq_append_getElem h, List.all_append]; simp
theorem not_all {s : List UInt8} {j : Nat} (h : j < s.length) (hn : isDig s[j] = false) : s.all isDig = false := by
  rw [List.all_eq_false]
  exact ⟨s[j], List.getElem_mem h, by simp [hn]⟩
theorem decimal_in (s : List UInt8) (lim : Int) (hs : s.length < 4611686018427387904) : PC Tryz.prog true 43 [.str s, .int .i64 lim] (.tup [.int .i64 (decR 10 s), .bool (decOk 10 s && decide ((decR 10 s : Int) ≤ lim))]) := by
  refine acall_intro mixed Tryz.func43 rfl ca43 (by kernel_rfl) (by rw [Tryz.ntmps43]; simp) ?_
  have hbad : headOk 10 s = false → decR 10 s = 0 ∧ decOk 10 s = false := fun h => by simp [decR, decOk, h]
  by_cases h0 : s.length = 0
  · obtain ⟨e1, e2⟩ := hbad (by simp [headOk, h0])
    have : s = [] := List.eq_nil_of_length_eq_zero h0
    subst this
    repeat' (first | (with_reducible first | apply jA | apply jB | apply jC | apply jD | apply jE | apply jF | apply jG | apply jH | apply jI | apply jJ | apply jK | apply jL | apply jM | apply jN | apply jO) | ((with_reducible first | apply jP | apply jQ); rfl) | ((first | ((with_reducible first | apply jR | apply jS | apply jT); rfl; rfl) | (with_reducible first | apply jU | apply jV | apply jW) | ((with_reducible first | apply jX | apply jY | apply jZ); rfl)); all_goals (first | ((with_reducible show Is _ _); exact kE) | ((with_reducible refine fun (hc : (_ : Bool) = _) => ?_); (try simp only [xZ, xY, xP, reduceCtorEq] at hc); (try (have hx : True := hc; clear hx hc)); (try exact kX)) | ((fail_if_success (with_reducible first | show Is _ _ | show ACall _ _ _ _ _)); (try ((with_reducible show _ ∨ _); exact kT))))))
    rfl
  have hpos : 0 < s.length := by omega
  by_cases h10 : s.length ≤ 10
  · by_cases hz : 1 < s.length ∧ s[0]'hpos = 48
    · obtain ⟨hz1, hz2⟩ := hz
      have hh : s.head? = some 48 := by rw [List.head?_eq_getElem?, List.getElem?_eq_getElem (by omega), hz2]
      obtain ⟨e1, e2⟩ := hbad (by simp [headOk, hz1, hh])
      rw [e1, e2]
      repeat' (first | (with_reducible first | apply jA | apply jB | apply jC | apply jD | apply jE | apply jF | apply jG | apply jH | apply jI | apply jJ | apply jK | apply jL | apply jM | apply jN | apply jO) | ((with_reducible first | apply jP | apply jQ); rfl) | ((first | ((with_reducible first | apply jR | apply jS | apply jT); rfl; rfl) | (with_reducible first | apply jU | apply jV | apply jW) | ((with_reducible first | apply jX | apply jY | apply jZ); rfl)); all_goals (first | ((with_reducible show Is _ _); exact kE) | ((with_reducible refine fun (hc : (_ : Bool) = _) => ?_); (try simp only [xZ, xY, xP, reduceCtorEq] at hc); (try (have hx : True := hc; clear hx hc)); (try exact kX)) | ((fail_if_success (with_reducible first | show Is _ _ | show ACall _ _ _ _ _)); (try ((with_reducible show _ ∨ _); exact kT))))))
      rfl
    · have hh : headOk 10 s = true := by
        cases s with
        | nil => simp at h0
        | cons c s => simp [headOk] at hz ⊢; simp at h10; exact ⟨h10, by cases s with | nil => exact .inl rfl | cons d s => exact .inr (hz (by simp))⟩
      have hz' : 1 < s.length → (s[0]'hpos).toNat ≠ 48 := fun h e => hz ⟨h, UInt8.toNat_inj.1 e⟩
      clear hbad hz
      by_cases h1l : 1 < s.length
      · have hz2 := hz' h1l
        clear hz'
        have hz3 : ((s[0]'hpos).toNat : Int) ≠ 48 := by omega
        repeat' (first | (with_reducible first | apply jA | apply jB | apply jC | apply jD | apply jE | apply jF | apply jG | apply jH | apply jI | apply jJ | apply jK | apply jL | apply jM | apply jN | apply jO) | ((with_reducible first | apply jP | apply jQ); rfl) | ((first | ((with_reducible first | apply jR | apply jS | apply jT); rfl; rfl) | (with_reducible first | apply jU | apply jV | apply jW) | ((with_reducible first | apply jX | apply jY | apply jZ); rfl)); all_goals (first | ((with_reducible show Is _ _); exact kE) | ((with_reducible refine fun (hc : (_ : Bool) = _) => ?_); (try simp only [xZ, xY, xP, reduceCtorEq] at hc); (try (have hx : True := hc; clear hx hc)); (try exact kX)) | ((fail_if_success (with_reducible first | show Is _ _ | show ACall _ _ _ _ _)); (try ((with_reducible show _ ∨ _); exact kT))))))
        refine w_loop (fun fr B => B = [] ∧ ∃ j : Nat, j ≤ s.length ∧ (s.take j).all isDig = true ∧ fr 28 = .int .i64 j ∧ fr 0 = .str s ∧ fr 6 = .int .i64 (decV (s.take j)) ∧ fr 27 = .int .i64 s.length ∧ fr 1 = .int .i64 lim) (fun fr _ => s.length - natOf (fr 28)) ?_ ?_
        · exact ⟨rfl, 0, by omega, rfl, by (simp (disch := omega) [go_sem, *]) <;> (try omega), by (simp (disch := omega) [go_sem, *]) <;> (try omega), by (simp (disch := omega) [go_sem, *, decV]) <;> (try omega), by (simp (disch := omega) [go_sem, *]) <;> (try omega), by (simp (disch := omega) [go_sem, *]) <;> (try omega)⟩
        rintro fr B ⟨rfl, j, hj, hd, hix, hs0, h6, hx1, hx2⟩
        have hb := dec_bound hd (by omega)
        by_cases hc : j < s.length
        · have hnx := decV_take hc
          have hall := all_take hc
          rw [hd, Bool.true_and] at hall
          have hlt := (s[j]).toNat_lt
          by_cases hg : isDig s[j] = true
          · rw [hg] at hall
            have hg2 : 48 ≤ s[j].toNat ∧ s[j].toNat ≤ 57 := by simpa [isDig] using hg
            have hb2 := dec_bound hall (by omega)
            have hnx2 : (decV (s.take (j + 1)) : Int) = 10 * decV (s.take j) + (s[j].toNat - 48) := by omega
            rw [hnx] at hb2
            repeat' (first | (with_reducible first | apply jA | apply jB | apply jC | apply jD | apply jE | apply jF | apply jG | apply jH | apply jI | apply jJ | apply jK | apply jL | apply jM | apply jN | apply jO) | ((with_reducible first | apply jP | apply jQ); rfl) | ((first | ((with_reducible first | apply jR | apply jS | apply jT); rfl; rfl) | (with_reducible first | apply jU | apply jV | apply jW) | ((with_reducible first | apply jX | apply jY | apply jZ); rfl)); all_goals (first | ((with_reducible show Is _ _); exact kE) | ((with_reducible refine fun (hc : (_ : Bool) = _) => ?_); (try simp only [xZ, xY, xP, reduceCtorEq] at hc); (try (have hx : True := hc; clear hx hc)); (try exact kX)) | ((fail_if_success (with_reducible first | show Is _ _ | show ACall _ _ _ _ _)); (try ((with_reducible show _ ∨ _); exact kT))))))
            exact ⟨⟨rfl, j + 1, by omega, hall, by (simp (disch := omega) [go_sem, *]) <;> (try omega), by (simp (disch := omega) [go_sem, *]) <;> (try omega), by rw [hnx2] <;> (simp (disch := omega) [go_sem, *]) <;> (try omega), by (simp (disch := omega) [go_sem, *]) <;> (try omega), by (simp (disch := omega) [go_sem, *]) <;> (try omega)⟩, by (simp (disch := omega) [go_sem, *]) <;> (try omega)⟩
          · have hna := not_all hc (by simpa using hg)
            have e1 : decR 10 s = 0 ∧ decOk 10 s = false := by simp [decR, decOk, hna]
            have hg2 : s[j].toNat < 48 ∨ 57 < s[j].toNat := by
              have : ¬ (48 ≤ s[j].toNat ∧ s[j].toNat ≤ 57) := by simpa [isDig] using hg
              omega
            rw [e1.1, e1.2]
            rcases hg2 with hg2 | hg2
            · repeat' (first | (with_reducible first | apply jA | apply jB | apply jC | apply jD | apply jE | apply jF | apply jG | apply jH | apply jI | apply jJ | apply jK | apply jL | apply jM | apply jN | apply jO) | ((with_reducible first | apply jP | apply jQ); rfl) | ((first | ((with_reducible first | apply jR | apply jS | apply jT); rfl; rfl) | (with_reducible first | apply jU | apply jV | apply jW) | ((with_reducible first | apply jX | apply jY | apply jZ); rfl)); all_goals (first | ((with_reducible show Is _ _); exact kE) | ((with_reducible refine fun (hc : (_ : Bool) = _) => ?_); (try simp only [xZ, xY, xP, reduceCtorEq] at hc); (try (have hx : True := hc; clear hx hc)); (try exact kX)) | ((fail_if_success (with_reducible first | show Is _ _ | show ACall _ _ _ _ _)); (try ((with_reducible show _ ∨ _); exact kT))))))
              rfl
            · have hg3 : ¬ (s[j].toNat : Int) < 48 := by omega
              repeat' (first | (with_reducible first | apply jA | apply jB | apply jC | apply jD | apply jE | apply jF | apply jG | apply jH | apply jI | apply jJ | apply jK | apply jL | apply jM | apply jN | apply jO) | ((with_reducible first | apply jP | apply jQ); rfl) | ((first | ((with_reducible first | apply jR | apply jS | apply jT); rfl; rfl) | (with_reducible first | apply jU | apply jV | apply jW) | ((with_reducible first | apply jX | apply jY | apply jZ); rfl)); all_goals (first | ((with_reducible show Is _ _); exact kE) | ((with_reducible refine fun (hc : (_ : Bool) = _) => ?_); (try simp only [xZ, xY, xP, reduceCtorEq] at hc); (try (have hx : True := hc; clear hx hc)); (try exact kX)) | ((fail_if_success (with_reducible first | show Is _ _ | show ACall _ _ _ _ _)); (try ((with_reducible show _ ∨ _); exact kT))))))
              rfl
        · obtain rfl : j = s.length := by omega
          rw [List.take_length] at hd h6 hb
          have e1 : decOk 10 s = true := by simp only [decOk, hh, hd, Bool.and_self]
          rw [decR, if_pos e1, e1]
          repeat' (first | (with_reducible first | apply jA | apply jB | apply jC | apply jD | apply jE | apply jF | apply jG | apply jH | apply jI | apply jJ | apply jK | apply jL | apply jM | apply jN | apply jO) | ((with_reducible first | apply jP | apply jQ); rfl) | ((first | ((with_reducible first | apply jR | apply jS | apply jT); rfl; rfl) | (with_reducible first | apply jU | apply jV | apply jW) | ((with_reducible first | apply jX | apply jY | apply jZ); rfl)); all_goals (first | ((with_reducible show Is _ _); exact kE) | ((with_reducible refine fun (hc : (_ : Bool) = _) => ?_); (try simp only [xZ, xY, xP, reduceCtorEq] at hc); (try (have hx : True := hc; clear hx hc)); (try exact kX)) | ((fail_if_success (with_reducible first | show Is _ _ | show ACall _ _ _ _ _)); (try ((with_reducible show _ ∨ _); exact kT))))))
          rfl
      · clear hz'
        repeat' (first | (with_reducible first | apply jA | apply jB | apply jC | apply jD | apply jE | apply jF | apply jG | apply jH | apply jI | apply jJ | apply jK | apply jL | apply jM | apply jN | apply jO) | ((with_reducible first | apply jP | apply jQ); rfl) | ((first | ((with_reducible first | apply jR | apply jS | apply jT); rfl; rfl) | (with_reducible first | apply jU | apply jV | apply jW) | ((with_reducible first | apply jX | apply jY | apply jZ); rfl)); all_goals (first | ((with_reducible show Is _ _); exact kE) | ((with_reducible refine fun (hc : (_ : Bool) = _) => ?_); (try simp only [xZ, xY, xP, reduceCtorEq] at hc); (try (have hx : True := hc; clear hx hc)); (try exact kX)) | ((fail_if_success (with_reducible first | show Is _ _ | show ACall _ _ _ _ _)); (try ((with_reducible show _ ∨ _); exact kT))))))
        refine w_loop (fun fr B => B = [] ∧ ∃ j : Nat, j ≤ s.length ∧ (s.take j).all isDig = true ∧ fr 28 = .int .i64 j ∧ fr 0 = .str s ∧ fr 6 = .int .i64 (decV (s.take j)) ∧ fr 27 = .int .i64 s.length ∧ fr 1 = .int .i64 lim) (fun fr _ => s.length - natOf (fr 28)) ?_ ?_
        · exact ⟨rfl, 0, by omega, rfl, by (simp (disch := omega) [go_sem, *]) <;> (try omega), by (simp (disch := omega) [go_sem, *]) <;> (try omega), by (simp (disch := omega) [go_sem, *, decV]) <;> (try omega), by (simp (disch := omega) [go_sem, *]) <;> (try omega), by (simp (disch := omega) [go_sem, *]) <;> (try omega)⟩
        rintro fr B ⟨rfl, j, hj, hd, hix, hs0, h6, hx1, hx2⟩
        have hb := dec_bound hd (by omega)
        by_cases hc : j < s.length
        · have hnx := decV_take hc
          have hall := all_take hc
          rw [hd, Bool.true_and] at hall
          have hlt := (s[j]).toNat_lt
          by_cases hg : isDig s[j] = true
          · rw [hg] at hall
            have hg2 : 48 ≤ s[j].toNat ∧ s[j].toNat ≤ 57 := by simpa [isDig] using hg
            have hb2 := dec_bound hall (by omega)
            have hnx2 : (decV (s.take (j + 1)) : Int) = 10 * decV (s.take j) + (s[j].toNat - 48) := by omega
            rw [hnx] at hb2
            repeat' (first | (with_reducible first | apply jA | apply jB | apply jC | apply jD | apply jE | apply jF | apply jG | apply jH | apply jI | apply jJ | apply jK | apply jL | apply jM | apply jN | apply jO) | ((with_reducible first | apply jP | apply jQ); rfl) | ((first | ((with_reducible first | apply jR | apply jS | apply jT); rfl; rfl) | (with_reducible first | apply jU | apply jV | apply jW) | ((with_reducible first | apply jX | apply jY | apply jZ); rfl)); all_goals (first | ((with_reducible show Is _ _); exact kE) | ((with_reducible refine fun (hc : (_ : Bool) = _) => ?_); (try simp only [xZ, xY, xP, reduceCtorEq] at hc); (try (have hx : True := hc; clear hx hc)); (try exact kX)) | ((fail_if_success (with_reducible first | show Is _ _ | show ACall _ _ _ _ _)); (try ((with_reducible show _ ∨ _); exact kT))))))
            exact ⟨⟨rfl, j + 1, by omega, hall, by (simp (disch := omega) [go_sem, *]) <;> (try omega), by (simp (disch := omega) [go_sem, *]) <;> (try omega), by rw [hnx2] <;> (simp (disch := omega) [go_sem, *]) <;> (try omega), by (simp (disch := omega) [go_sem, *]) <;> (try omega), by (simp (disch := omega) [go_sem, *]) <;> (try omega)⟩, by (simp (disch := omega) [go_sem, *]) <;> (try omega)⟩
          · have hna := not_all hc (by simpa using hg)
            have e1 : decR 10 s = 0 ∧ decOk 10 s = false := by simp [decR, decOk, hna]
            have hg2 : s[j].toNat < 48 ∨ 57 < s[j].toNat := by
              have : ¬ (48 ≤ s[j].toNat ∧ s[j].toNat ≤ 57) := by simpa [isDig] using hg
              omega
            rw [e1.1, e1.2]
            rcases hg2 with hg2 | hg2
            · repeat' (first | (with_reducible first | apply jA | apply jB | apply jC | apply jD | apply jE | apply jF | apply jG | apply jH | apply jI | apply jJ | apply jK | apply jL | apply jM | apply jN | apply jO) | ((with_reducible first | apply jP | apply jQ); rfl) | ((first | ((with_reducible first | apply jR | apply jS | apply jT); rfl; rfl) | (with_reducible first | apply jU | apply jV | apply jW) | ((with_reducible first | apply jX | apply jY | apply jZ); rfl)); all_goals (first | ((with_reducible show Is _ _); exact kE) | ((with_reducible refine fun (hc : (_ : Bool) = _) => ?_); (try simp only [xZ, xY, xP, reduceCtorEq] at hc); (try (have hx : True := hc; clear hx hc)); (try exact kX)) | ((fail_if_success (with_reducible first | show Is _ _ | show ACall _ _ _ _ _)); (try ((with_reducible show _ ∨ _); exact kT))))))
              rfl
            · have hg3 : ¬ (s[j].toNat : Int) < 48 := by omega
              repeat' (first | (with_reducible first | apply jA | apply jB | apply jC | apply jD | apply jE | apply jF | apply jG | apply jH | apply jI | apply jJ | apply jK | apply jL | apply jM | apply jN | apply jO) | ((with_reducible first | apply jP | apply jQ); rfl) | ((first | ((with_reducible first | apply jR | apply jS | apply jT); rfl; rfl) | (with_reducible first | apply jU | apply jV | apply jW) | ((with_reducible first | apply jX | apply jY | apply jZ); rfl)); all_goals (first | ((with_reducible show Is _ _); exact kE) | ((with_reducible refine fun (hc : (_ : Bool) = _) => ?_); (try simp only [xZ, xY, xP, reduceCtorEq] at hc); (try (have hx : True := hc; clear hx hc)); (try exact kX)) | ((fail_if_success (with_reducible first | show Is _ _ | show ACall _ _ _ _ _)); (try ((with_reducible show _ ∨ _); exact kT))))))
              rfl
        · obtain rfl : j = s.length := by omega
          rw [List.take_length] at hd h6 hb
          have e1 : decOk 10 s = true := by simp only [decOk, hh, hd, Bool.and_self]
          rw [decR, if_pos e1, e1]
          repeat' (first | (with_reducible first | apply jA | apply jB | apply jC | apply jD | apply jE | apply jF | apply jG | apply jH | apply jI | apply jJ | apply jK | apply jL | apply jM | apply jN | apply jO) | ((with_reducible first | apply jP | apply jQ); rfl) | ((first | ((with_reducible first | apply jR | apply jS | apply jT); rfl; rfl) | (with_reducible first | apply jU | apply jV | apply jW) | ((with_reducible first | apply jX | apply jY | apply jZ); rfl)); all_goals (first | ((with_reducible show Is _ _); exact kE) | ((with_reducible refine fun (hc : (_ : Bool) = _) => ?_); (try simp only [xZ, xY, xP, reduceCtorEq] at hc); (try (have hx : True := hc; clear hx hc)); (try exact kX)) | ((fail_if_success (with_reducible first | show Is _ _ | show ACall _ _ _ _ _)); (try ((with_reducible show _ ∨ _); exact kT))))))
          rfl
  · obtain ⟨e1, e2⟩ := hbad (by simp [headOk]; omega)
    rw [e1, e2]
    repeat' (first | (with_reducible first | apply jA | apply jB | apply jC | apply jD | apply jE | apply jF | apply jG | apply jH | apply jI | apply jJ | apply jK | apply jL | apply jM | apply jN | apply jO) | ((with_reducible first | apply jP | apply jQ); rfl) | ((first | ((with_reducible first | apply jR | apply jS | apply jT); rfl; rfl) | (with_reducible first | apply jU | apply jV | apply jW) | ((with_reducible first | apply jX | apply jY | apply jZ); rfl)); all_goals (first | ((with_reducible show Is _ _); exact kE) | ((with_reducible refine fun (hc : (_ : Bool) = _) => ?_); (try simp only [xZ, xY, xP, reduceCtorEq] at hc); (try (have hx : True := hc; clear hx hc)); (try exact kX)) | ((fail_if_success (with_reducible first | show Is _ _ | show ACall _ _ _ _ _)); (try ((with_reducible show _ ∨ _); exact kT))))))
    rfl
def digV (c : UInt8) : Option Nat := if 48 ≤ c.toNat ∧ c.toNat ≤ 57 then some (c.toNat - 48) else if 97 ≤ c.toNat ∧ c.toNat ≤ 102 then some (c.toNat - 87) else if 65 ≤ c.toNat ∧ c.toNat ≤ 70 then some (c.toNat - 55) else none
def isHex (c : UInt8) : Bool := (digV c).isSome
def hexV (l : List UInt8) : Nat := l.foldl (fun n c => 16 * n + (digV c).getD 0) 0
def hexOk (s : List UInt8) : Bool := decide (1 ≤ s.length) && decide (s.length ≤ 4) && s.all isHex
def hexR (s : List UInt8) : Nat := if hexOk s then hexV s else 0
theorem hexV_app (l : List UInt8) (c : UInt8) : hexV (l ++ [c]) = 16 * hexV l + (digV c).getD 0 := by simp [hexV, List.foldl_append]
theorem hexV_take {l : List UInt8} {k : Nat} (h : k < l.length) : hexV (l.take (k + 1)) = 16 * hexV (l.take k) + (digV l[k]).getD 0 := by rw [List.take_succ_eq_append_getElem h, hexV_app]
theorem digV_lt {c : UInt8} {n : Nat} (h : digV c = some n) : n < 16 := by
  unfold digV at h
  split at h
  · simp at h; omega
  · split at h
    · simp at h; omega
    · split at h
      · simp at h; omega
      · cases h
theorem hexV_lt : ∀ (l : List UInt8), hexV l < 16 ^ l.length := by
  intro l
  suffices h : ∀ (l : List UInt8) (n k : Nat), n < 16 ^ k → l.foldl (fun n c => 16 * n + (digV c).getD 0) n < 16 ^ (k + l.length) by
    have := h l 0 0 (by decide); rwa [Nat.zero_add] at this
  intro l
  induction l with
  | nil => intro n k h; simpa using h
  | cons c l ih =>
    intro n k h
    have hc : (digV c).getD 0 < 16 := by
      cases hd : digV c with
      | none => simp
      | some v => simpa using digV_lt hd
    have := ih (16 * n + (digV c).getD 0) (k + 1) (by rw [Nat.pow_succ]; omega)
    rw [List.foldl_cons, List.length_cons, show k + (l.length + 1) = k + 1 + l.length by omega]
    exact this
theorem hex_bound {s : List UInt8} {j : Nat} (hj : j ≤ 4) : hexV (s.take j) ≤ 65535 := by
  have h1 := hexV_lt (s.take j)
  have h2 : (s.take j).length ≤ 4 := by rw [List.length_take]; omega
  have h3 : 16 ^ (s.take j).length ≤ 16 ^ 4 := Nat.pow_le_pow_right (by decide) h2
  omega
theorem hex_take {s : List UInt8} {j : Nat} (h : j < s.length) : (s.take (j + 1)).all isHex = ((s.take j).all isHex && isHex s[j]) := by
  rw [List.take_succ_eq_append_getElem h, List.all_append]; simp
theorem not_hex {s : List UInt8} {j : Nat} (h : j < s.length) (hn : digV s[j] = none) : s.all isHex = false := by
  rw [List.all_eq_false]
  exact ⟨s[j], List.getElem_mem h, by simp [isHex, hn]⟩
theorem digV_cases (c : UInt8) : (48 ≤ c.toNat ∧ c.toNat ≤ 57 ∧ digV c = some (c.toNat - 48)) ∨ (97 ≤ c.toNat ∧ c.toNat ≤ 102 ∧ digV c = some (c.toNat - 87)) ∨ (65 ≤ c.toNat ∧ c.toNat ≤ 70 ∧ digV c = some (c.toNat - 55)) ∨ (¬ (48 ≤ c.toNat ∧ c.toNat ≤ 57) ∧ ¬ (97 ≤ c.toNat ∧ c.toNat ≤ 102) ∧ ¬ (65 ≤ c.toNat ∧ c.toNat ≤ 70) ∧ digV c = none) := by
  unfold digV
  split
  · rename_i h; exact .inl ⟨h.1, h.2, rfl⟩
  · split
    · rename_i h; exact .inr (.inl ⟨h.1, h.2, rfl⟩)
    · split
      · rename_i h; exact .inr (.inr (.inl ⟨h.1, h.2, rfl⟩))
      · rename_i h1 h2 h3; exact .inr (.inr (.inr ⟨h1, h2, h3, rfl⟩))
theorem hexadecimal_in (s : List UInt8) (hs : s.length < 4611686018427387904) : PC Tryz.prog true 65 [.str s] (.tup [.int .i64 (hexR s), .bool (hexOk s)]) := by
  refine acall_intro mixed Tryz.func65 rfl ca65 (by kernel_rfl) (by rw [Tryz.ntmps65]; simp) ?_
  have hbad : hexOk s = false → hexR s = 0 := fun h => by simp [hexR, h]
  by_cases h0 : s.length = 0
  · have e := hbad (by simp [hexOk, h0])
    have : s = [] := List.eq_nil_of_length_eq_zero h0
    subst this
    repeat' (first | (with_reducible first | apply jA | apply jB | apply jC | apply jD | apply jE | apply jF | apply jG | apply jH | apply jI | apply jJ | apply jK | apply jL | apply jM | apply jN | apply jO) | ((with_reducible first | apply jP | apply jQ); rfl) | ((first | ((with_reducible first | apply jR | apply jS | apply jT); rfl; rfl) | (with_reducible first | apply jU | apply jV | apply jW) | ((with_reducible first | apply jX | apply jY | apply jZ); rfl)); all_goals (first | ((with_reducible show Is _ _); exact kE) | ((with_reducible refine fun (hc : (_ : Bool) = _) => ?_); (try simp only [xZ, xY, xP, reduceCtorEq] at hc); (try (have hx : True := hc; clear hx hc)); (try exact kX)) | ((fail_if_success (with_reducible first | show Is _ _ | show ACall _ _ _ _ _)); (try ((with_reducible show _ ∨ _); exact kT))))))
    rfl
  by_cases h10 : s.length ≤ 4
  · clear hbad
    repeat' (first | (with_reducible first | apply jA | apply jB | apply jC | apply jD | apply jE | apply jF | apply jG | apply jH | apply jI | apply jJ | apply jK | apply jL | apply jM | apply jN | apply jO) | ((with_reducible first | apply jP | apply jQ); rfl) | ((first | ((with_reducible first | apply jR | apply jS | apply jT); rfl; rfl) | (with_reducible first | apply jU | apply jV | apply jW) | ((with_reducible first | apply jX | apply jY | apply jZ); rfl)); all_goals (first | ((with_reducible show Is _ _); exact kE) | ((with_reducible refine fun (hc : (_ : Bool) = _) => ?_); (try simp only [xZ, xY, xP, reduceCtorEq] at hc); (try (have hx : True := hc; clear hx hc)); (try exact kX)) | ((fail_if_success (with_reducible first | show Is _ _ | show ACall _ _ _ _ _)); (try ((with_reducible show _ ∨ _); exact kT))))))
    refine w_loop (fun fr B => B = [] ∧ ∃ j : Nat, j ≤ s.length ∧ (s.take j).all isHex = true ∧ fr 17 = .int .i64 j ∧ fr 16 = .int .i64 s.length ∧ fr 0 = .str s ∧ fr 4 = .int .i64 (hexV (s.take j))) (fun fr _ => s.length - natOf (fr 17)) ?_ ?_
    · exact ⟨rfl, 0, by omega, rfl, by (simp (disch := omega) [go_sem, *]) <;> (try omega), by (simp (disch := omega) [go_sem, *]) <;> (try omega), by (simp (disch := omega) [go_sem, *]) <;> (try omega), by (simp (disch := omega) [go_sem, *, hexV]) <;> (try omega)⟩
    rintro fr B ⟨rfl, j, hj, hd, hix, h16, hs0, h4⟩
    have hb := hex_bound (s := s) (j := j) (by omega)
    by_cases hc : j < s.length
    · have hnx := hexV_take hc
      have hall := hex_take hc
      rw [hd, Bool.true_and] at hall
      have hlt := (s[j]).toNat_lt
      have hb2 := hex_bound (s := s) (j := j + 1) (by omega)
      rcases digV_cases s[j] with ⟨g1, g2, g3⟩ | ⟨g1, g2, g3⟩ | ⟨g1, g2, g3⟩ | ⟨g1, g2, g3, g4⟩
      · have hnx2 : (hexV (s.take (j + 1)) : Int) = 16 * hexV (s.take j) + (s[j].toNat - 48) := by rw [hnx, g3]; simp; omega
        rw [isHex, g3] at hall
        clear g3 hnx
        repeat' (first | (with_reducible first | apply jA | apply jB | apply jC | apply jD | apply jE | apply jF | apply jG | apply jH | apply jI | apply jJ | apply jK | apply jL | apply jM | apply jN | apply jO) | ((with_reducible first | apply jP | apply jQ); rfl) | ((first | ((with_reducible first | apply jR | apply jS | apply jT); rfl; rfl) | (with_reducible first | apply jU | apply jV | apply jW) | ((with_reducible first | apply jX | apply jY | apply jZ); rfl)); all_goals (first | ((with_reducible show Is _ _); exact kE) | ((with_reducible refine fun (hc : (_ : Bool) = _) => ?_); (try simp only [xZ, xY, xP, reduceCtorEq] at hc); (try (have hx : True := hc; clear hx hc)); (try exact kX)) | ((fail_if_success (with_reducible first | show Is _ _ | show ACall _ _ _ _ _)); (try ((with_reducible show _ ∨ _); exact kT))))))
        exact ⟨⟨rfl, j + 1, by omega, hall, by (simp (disch := omega) [go_sem, *]) <;> (try omega), by (simp (disch := omega) [go_sem, *]) <;> (try omega), by (simp (disch := omega) [go_sem, *]) <;> (try omega), by rw [hnx2] <;> (simp (disch := omega) [go_sem, *]) <;> (try omega)⟩, by (simp (disch := omega) [go_sem, *]) <;> (try omega)⟩
      · have hnx2 : (hexV (s.take (j + 1)) : Int) = 16 * hexV (s.take j) + (s[j].toNat - 97) + 10 := by rw [hnx, g3]; simp; omega
        rw [isHex, g3] at hall
        clear g3 hnx
        repeat' (first | (with_reducible first | apply jA | apply jB | apply jC | apply jD | apply jE | apply jF | apply jG | apply jH | apply jI | apply jJ | apply jK | apply jL | apply jM | apply jN | apply jO) | ((with_reducible first | apply jP | apply jQ); rfl) | ((first | ((with_reducible first | apply jR | apply jS | apply jT); rfl; rfl) | (with_reducible first | apply jU | apply jV | apply jW) | ((with_reducible first | apply jX | apply jY | apply jZ); rfl)); all_goals (first | ((with_reducible show Is _ _); exact kE) | ((with_reducible refine fun (hc : (_ : Bool) = _) => ?_); (try simp only [xZ, xY, xP, reduceCtorEq] at hc); (try (have hx : True := hc; clear hx hc)); (try exact kX)) | ((fail_if_success (with_reducible first | show Is _ _ | show ACall _ _ _ _ _)); (try ((with_reducible show _ ∨ _); exact kT))))))
        exact ⟨⟨rfl, j + 1, by omega, hall, by (simp (disch := omega) [go_sem, *]) <;> (try omega), by (simp (disch := omega) [go_sem, *]) <;> (try omega), by (simp (disch := omega) [go_sem, *]) <;> (try omega), by rw [hnx2] <;> (simp (disch := omega) [go_sem, *]) <;> (try omega)⟩, by (simp (disch := omega) [go_sem, *]) <;> (try omega)⟩
      · have hnx2 : (hexV (s.take (j + 1)) : Int) = 16 * hexV (s.take j) + (s[j].toNat - 65) + 10 := by rw [hnx, g3]; simp; omega
        rw [isHex, g3] at hall
        clear g3 hnx
        repeat' (first | (with_reducible first | apply jA | apply jB | apply jC | apply jD | apply jE | apply jF | apply jG | apply jH | apply jI | apply jJ | apply jK | apply jL | apply jM | apply jN | apply jO) | ((with_reducible first | apply jP | apply jQ); rfl) | ((first | ((with_reducible first | apply jR | apply jS | apply jT); rfl; rfl) | (with_reducible first | apply jU | apply jV | apply jW) | ((with_reducible first | apply jX | apply jY | apply jZ); rfl)); all_goals (first | ((with_reducible show Is _ _); exact kE) | ((with_reducible refine fun (hc : (_ : Bool) = _) => ?_); (try simp only [xZ, xY, xP, reduceCtorEq] at hc); (try (have hx : True := hc; clear hx hc)); (try exact kX)) | ((fail_if_success (with_reducible first | show Is _ _ | show ACall _ _ _ _ _)); (try ((with_reducible show _ ∨ _); exact kT))))))
        exact ⟨⟨rfl, j + 1, by omega, hall, by (simp (disch := omega) [go_sem, *]) <;> (try omega), by (simp (disch := omega) [go_sem, *]) <;> (try omega), by (simp (disch := omega) [go_sem, *]) <;> (try omega), by rw [hnx2] <;> (simp (disch := omega) [go_sem, *]) <;> (try omega)⟩, by (simp (disch := omega) [go_sem, *]) <;> (try omega)⟩
      · have hna := not_hex hc g4
        have e1 : hexOk s = false := by simp [hexOk, hna]
        rw [hexR, e1]
        clear g4 hnx
        have g5 : s[j].toNat < 48 ∨ (57 < s[j].toNat ∧ s[j].toNat < 65) ∨ (70 < s[j].toNat ∧ s[j].toNat < 97) ∨ 102 < s[j].toNat := by omega
        clear g1 g2 g3
        rcases g5 with g5 | g5 | g5 | g5 <;> (
          (repeat' (first | (with_reducible first | apply jA | apply jB | apply jC | apply jD | apply jE | apply jF | apply jG | apply jH | apply jI | apply jJ | apply jK | apply jL | apply jM | apply jN | apply jO) | ((with_reducible first | apply jP | apply jQ); rfl) | ((first | ((with_reducible first | apply jR | apply jS | apply jT); rfl; rfl) | (with_reducible first | apply jU | apply jV | apply jW) | ((with_reducible first | apply jX | apply jY | apply jZ); rfl)); all_goals (first | ((with_reducible show Is _ _); exact kE) | ((with_reducible refine fun (hc : (_ : Bool) = _) => ?_); (try simp only [xZ, xY, xP, reduceCtorEq] at hc); (try (have hx : True := hc; clear hx hc)); (try exact kX)) | ((fail_if_success (with_reducible first | show Is _ _ | show ACall _ _ _ _ _)); (try ((with_reducible show _ ∨ _); exact kT)))))))
          rfl)
    · obtain rfl : j = s.length := by omega
      rw [List.take_length] at hd h4 hb
      have e1 : hexOk s = true := by simp [hexOk, hd]; omega
      rw [hexR, if_pos e1, e1]
      repeat' (first | (with_reducible first | apply jA | apply jB | apply jC | apply jD | apply jE | apply jF | apply jG | apply jH | apply jI | apply jJ | apply jK | apply jL | apply jM | apply jN | apply jO) | ((with_reducible first | apply jP | apply jQ); rfl) | ((first | ((with_reducible first | apply jR | apply jS | apply jT); rfl; rfl) | (with_reducible first | apply jU | apply jV | apply jW) | ((with_reducible first | apply jX | apply jY | apply jZ); rfl)); all_goals (first | ((with_reducible show Is _ _); exact kE) | ((with_reducible refine fun (hc : (_ : Bool) = _) => ?_); (try simp only [xZ, xY, xP, reduceCtorEq] at hc); (try (have hx : True := hc; clear hx hc)); (try exact kX)) | ((fail_if_success (with_reducible first | show Is _ _ | show ACall _ _ _ _ _)); (try ((with_reducible show _ ∨ _); exact kT))))))
      rfl
  · have e2 : hexOk s = false := by simp [hexOk]; omega
    have e := hbad e2
    rw [e, e2]
    repeat' (first | (with_reducible first | apply jA | apply jB | apply jC | apply jD | apply jE | apply jF | apply jG | apply jH | apply jI | apply jJ | apply jK | apply jL | apply jM | apply jN | apply jO) | ((with_reducible first | apply jP | apply jQ); rfl) | ((first | ((with_reducible first | apply jR | apply jS | apply jT); rfl; rfl) | (with_reducible first | apply jU | apply jV | apply jW) | ((with_reducible first | apply jX | apply jY | apply jZ); rfl)); all_goals (first | ((with_reducible show Is _ _); exact kE) | ((with_reducible refine fun (hc : (_ : Bool) = _) => ?_); (try simp only [xZ, xY, xP, reduceCtorEq] at hc); (try (have hx : True := hc; clear hx hc)); (try exact kX)) | ((fail_if_success (with_reducible first | show Is _ _ | show ACall _ _ _ _ _)); (try ((with_reducible show _ ∨ _); exact kT))))))
    rfl
theorem decimal_at {B : List Box} {s : List UInt8} {lim : Int} (hs : s.length < 4611686018427387904) : ACall Tryz.prog 43 [.str s, .int .i64 lim] B fun c B' => c = .tup [.int .i64 (decR 10 s), .bool (decOk 10 s && decide ((decR 10 s : Int) ≤ lim))] ∧ B' = B := acall_fresh (nz := false) rfl (decimal_in s lim hs)
theorem hexadecimal_at {B : List Box} {s : List UInt8} (hs : s.length < 4611686018427387904) : ACall Tryz.prog 65 [.str s] B fun c B' => c = .tup [.int .i64 (hexR s), .bool (hexOk s)] ∧ B' = B := acall_fresh (nz := false) rfl (hexadecimal_in s hs)
end Go.Proofs.YtdceppjoipoohaaGreatDoor
end
section
namespace Go.Proofs.YtdceppjoipoohaaGreatDoor
open Go Go.Sy
set_option linter.all false
set_option maxRecDepth 100000
set_option maxHeartbeats 4000000
theorem byte_nat (n : Nat) (h : n < 256) : byteC (UInt8.ofNat n) = .int .u8 (n : Int) := by
  rw [byteC]; congr 1; simp; omega
theorem decDigits_len : ∀ (k n : Nat), n < 10 ^ (k + 1) → (Go.Lib.decDigits n).length ≤ k + 1
  | 0, n, h => by
    rw [Go.Lib.decDigits, dif_pos (by simpa using h)]; simp
  | k + 1, n, h => by
    rw [Go.Lib.decDigits]
    split
    · simp
    · rw [List.length_append]
      have := decDigits_len k (n / 10) (by rw [Nat.pow_succ] at h; omega)
      simp only [List.length_singleton]; omega
def lastJ (s : List UInt8) : Nat → Int
  | 0 => -1
  | j + 1 => if s[j]? = some 58 then j else lastJ s j
end Go.Proofs.YtdceppjoipoohaaGreatDoor
end
section
namespace Go.Proofs.YtdceppjoipoohaaGreatDoor
open Go Go.Sy
set_option linter.all false
set_option maxRecDepth 100000
set_option maxHeartbeats 4000000
theorem kE_GG0 {α : Type} {x y : α} (h : Is x y := by first | ((try simp (disch := first | omega | (simp only [yZ, yB] <;> omega) | fail) [go_sem, yY, *, addrC, if_pos, if_neg, -List.map_take, -List.map_drop, -List.map_append, -List.map_reverse]); exact rfl) | fail) : Is x y := h
theorem kD_GG0 {p : Prop} (h : p := by (first | omega | assumption | exact rfl | ((simp (disch := first | omega | (simp only [yZ, yB] <;> omega) | fail) [go_sem, yY, *, addrC, -List.map_take, -List.map_drop, -List.map_append, -List.map_reverse]) <;> (first | done | omega | exact rfl)) | fail)) : p := h
theorem kE_GG1 {α : Type} {x y : α} (h : Is x y := by first | ((try simp (disch := first | omega | (simp only [yZ, yB] <;> omega) | fail) [go_sem, yY, *, cons_get1, cons_take1, cons_drop1, if_pos, if_neg, -List.map_take, -List.map_drop, -List.map_append, -List.map_reverse]); exact rfl) | fail) : Is x y := h
theorem kD_GG1 {p : Prop} (h : p := by (first | omega | assumption | exact rfl | ((simp (disch := first | omega | (simp only [yZ, yB] <;> omega) | fail) [go_sem, yY, *, cons_get1, cons_take1, cons_drop1, -List.map_take, -List.map_drop, -List.map_append, -List.map_reverse]) <;> (first | done | omega | exact rfl)) | fail)) : p := h
theorem kE_GG2 {α : Type} {x y : α} (h : Is x y := by first | ((try simp (disch := first | omega | (simp only [yZ, yB] <;> omega) | fail) [go_sem, yY, *, omap_strs, if_pos, if_neg, -List.map_take, -List.map_drop, -List.map_append, -List.map_reverse]); exact rfl) | fail) : Is x y := h
theorem kD_GG2 {p : Prop} (h : p := by (first | omega | assumption | exact rfl | ((simp (disch := first | omega | (simp only [yZ, yB] <;> omega) | fail) [go_sem, yY, *, omap_strs, -List.map_take, -List.map_drop, -List.map_append, -List.map_reverse]) <;> (first | done | omega | exact rfl)) | fail)) : p := h
theorem vld_full {six : Bool} {A : List UInt8} (hA : A.length = 16) : vld six A (if six then 128 else 32) = okA six A := by
  cases h : okA six A with
  | false => simp [vld, h]
  | true =>
    have hc : cutL A (if six then 128 else 32) = A := by
      rw [cut_same hA]
      intro k h1 h2
      cases six with
      | true => simp at h1; omega
      | false =>
        simp at h1
        have hz : A.drop 4 = z12 := by simpa [okA] using h
        have hk : k / 8 < 16 := by omega
        have : A.getD (k / 8) 0 = 0 := by
          have h3 : (A.drop 4)[k / 8 - 4]? = some 0 := by
            rw [hz]
            have : k / 8 - 4 < 12 := by omega
            show (List.replicate 12 (0 : UInt8))[k / 8 - 4]? = some 0
            rw [List.getElem?_replicate, if_pos this]
          rw [List.getElem?_drop, show 4 + (k / 8 - 4) = k / 8 by omega] at h3
          rw [List.getD_eq_getElem?_getD, h3]; rfl
        rw [bitI, this]; simp
    cases six with
    | true => simp [vld, h]; simpa using hc
    | false => simp [vld, h]; simpa using hc
theorem cvalid_in (six : Bool) (A : List UInt8) (hA : A.length = 16) : PC Tryz.prog true 68 [addrC six A] (.bool (okA six A)) := by
  have hv := vld_full (six := six) hA
  have hiv : ∀ {B : List Box} {args : List CV} {s : Int}, Is (omap (Go.Sy.fz true false B 6) args) (some [prefC six A s]) → s = (if six then 128 else 32) → ACall Tryz.prog 44 args B fun c B' => c = .bool (okA six A) ∧ B' = B := fun h hs => by
    rw [← hv]
    have := iValid_at h hA
    rw [hs] at this
    exact this
  refine acall_intro mixed Tryz.func68 rfl ca68 (by kernel_rfl) (by rw [Tryz.ntmps68]; simp) ?_
  cases six
  · repeat' (first | (with_reducible first | apply jA | apply jB | apply jC | apply jD | apply jE | apply jF | apply jG | apply jH | apply jI | apply jJ | apply jK | apply jL | apply jM | apply jN | apply jO) | ((with_reducible first | apply jP | apply jQ); rfl) | ((first | ((with_reducible first | apply jR | apply jS | apply jT); rfl; rfl) | (with_reducible first | apply jU | apply jV | apply jW) | ((with_reducible first | apply jX | apply jY | apply jZ); rfl) | ((with_reducible first | apply kA | apply kB | apply kC); rfl)); all_goals (first | ((with_reducible show Is _ _); exact kE_GG0) | ((with_reducible refine fun (hc : (_ : Bool) = _) => ?_); (try simp only [xZ, xY, xP, reduceCtorEq] at hc); (try (have hx : True := hc; clear hx hc)); (try exact kX)) | ((with_reducible show ACall _ _ _ _ _); (first | ((with_reducible apply hiv) <;> exact kD_GG0))) | ((fail_if_success (with_reducible first | show Is _ _ | show ACall _ _ _ _ _)); (try ((with_reducible show _ ∨ _); exact kT))))))
    rfl
  · repeat' (first | (with_reducible first | apply jA | apply jB | apply jC | apply jD | apply jE | apply jF | apply jG | apply jH | apply jI | apply jJ | apply jK | apply jL | apply jM | apply jN | apply jO) | ((with_reducible first | apply jP | apply jQ); rfl) | ((first | ((with_reducible first | apply jR | apply jS | apply jT); rfl; rfl) | (with_reducible first | apply jU | apply jV | apply jW) | ((with_reducible first | apply jX | apply jY | apply jZ); rfl) | ((with_reducible first | apply kA | apply kB | apply kC); rfl)); all_goals (first | ((with_reducible show Is _ _); exact kE_GG0) | ((with_reducible refine fun (hc : (_ : Bool) = _) => ?_); (try simp only [xZ, xY, xP, reduceCtorEq] at hc); (try (have hx : True := hc; clear hx hc)); (try exact kX)) | ((with_reducible show ACall _ _ _ _ _); (first | ((with_reducible apply hiv) <;> exact kD_GG0))) | ((fail_if_success (with_reducible first | show Is _ _ | show ACall _ _ _ _ _)); (try ((with_reducible show _ ∨ _); exact kT))))))
    rfl
theorem cvalid_at {B : List Box} {args : List CV} {six : Bool} {A : List UInt8} (hz : Is (omap (Go.Sy.fz true false B 6) args) (some [addrC six A])) (hA : A.length = 16) : ACall Tryz.prog 68 args B fun c B' => c = .bool (okA six A) ∧ B' = B := acall_fresh hz (cvalid_in six A hA)
def grp (A : List UInt8) (i : Nat) : Nat := (A.getD (2 * i) 0).toNat * 256 + (A.getD (2 * i + 1) 0).toNat
theorem grp_lt (A : List UInt8) (i : Nat) : grp A i < 65536 := by
  have h1 := (A.getD (2 * i) 0).toNat_lt
  have h2 := (A.getD (2 * i + 1) 0).toNat_lt
  unfold grp; omega
def parts6 (A : List UInt8) (n : Nat) : List (List UInt8) := (List.range n).map fun i => hexT (grp A i)
def parts4 (A : List UInt8) (n : Nat) : List (List UInt8) := (List.range n).map fun i => Go.Lib.decDigits (A.getD i 0).toNat
theorem parts6_succ (A : List UInt8) (n : Nat) : parts6 A (n + 1) = parts6 A n ++ [hexT (grp A n)] := by simp [parts6, List.range_succ]
theorem parts4_succ (A : List UInt8) (n : Nat) : parts4 A (n + 1) = parts4 A n ++ [Go.Lib.decDigits (A.getD n 0).toNat] := by simp [parts4, List.range_succ]
def fmtA (six : Bool) (A : List UInt8) : List UInt8 := if okA six A then (if six then Go.Lib.join (parts6 A 8) [58] else Go.Lib.join (parts4 A 4) [46]) else []
theorem or_grp (a b : UInt8) : bits .or .i64 ((a.toNat : Int) * 256) (b.toNat : Int) = ((a.toNat * 256 + b.toNat : Nat) : Int) := by
  have ha := a.toNat_lt
  have hb := b.toNat_lt
  rw [show ((a.toNat : Int) * 256) = ((a.toNat * 256 : Nat) : Int) by omega, i64_or_nat _ _ (by omega) (by omega)]
  congr 1
  have := Nat.two_pow_add_eq_or_of_lt (i := 8) (b := b.toNat) (by omega) a.toNat
  rw [show (2 : Nat) ^ 8 * a.toNat = a.toNat * 256 by omega] at this
  omega
theorem omap_strs {nz fr : Bool} {k : Nat} {B : List Box} : ∀ L : List (List UInt8), omap (Go.Sy.fz nz fr B (k + 1)) (L.map CV.str) = some (L.map CV.str)
  | [] => rfl
  | x :: xs => by rw [List.map_cons, omap_two, omap_strs xs]; rfl
theorem join_le {t : List UInt8} {k : Nat} : ∀ L : List (List UInt8), (∀ x ∈ L, x.length ≤ k) → (Go.Lib.join L t).length ≤ L.length * (k + t.length)
  | [], _ => by simp [Go.Lib.join_nil]
  | x :: xs, h => by
    rw [Go.Lib.join_cons, List.length_append]
    have h1 := h x (by simp)
    have h2 : (Go.Lib.joinTail t xs).length ≤ xs.length * (k + t.length) := by
      have hx : ∀ y ∈ xs, y.length ≤ k := fun y hy => h y (by simp [hy])
      clear h h1
      induction xs with
      | nil => simp [Go.Lib.joinTail]
      | cons y ys ih =>
        have := ih (fun z hz => hx z (by simp [hz]))
        have h1 := hx y (by simp)
        unfold Go.Lib.joinTail at this ⊢
        rw [List.map_cons, List.flatten_cons, List.length_append, List.length_append, List.length_cons, Nat.succ_mul]
        omega
    rw [List.length_cons, Nat.succ_mul]; omega
theorem hexT_len : ∀ (k n : Nat), n < 16 ^ (k + 1) → (hexT n).length ≤ k + 1
  | 0, n, h => by rw [hexT, dif_pos (by simpa using h)]; simp
  | k + 1, n, h => by
    rw [hexT]
    split
    · simp
    · rw [List.length_append]
      have := hexT_len k (n / 16) (by rw [Nat.pow_succ] at h; omega)
      simp only [List.length_singleton]; omega
theorem fmtAddr_in (six : Bool) (A : List UInt8) (hA : A.length = 16) : PC Tryz.prog true 45 [addrC six A] (.str (fmtA six A)) := by
  have hv : ∀ {B : List Box} {args : List CV}, Is (omap (Go.Sy.fz true false B 6) args) (some [addrC six A]) → ACall Tryz.prog 68 args B fun c B' => c = .bool (okA six A) ∧ B' = B := fun h => cvalid_at h hA
  refine acall_intro mixed Tryz.func45 rfl ca45 (by kernel_rfl) (by rw [Tryz.ntmps45]; simp) ?_
  cases hok : okA six A with
  | false =>
    rw [hok] at hv
    have hf : fmtA six A = [] := by simp [fmtA, hok]
    rw [hf]
    repeat' (first | (with_reducible first | apply jA | apply jB | apply jC | apply jD | apply jE | apply jF | apply jG | apply jH | apply jI | apply jJ | apply jK | apply jL | apply jM | apply jN | apply jO) | ((with_reducible first | apply jP | apply jQ); rfl) | ((first | ((with_reducible first | apply jR | apply jS | apply jT); rfl; rfl) | (with_reducible first | apply jU | apply jV | apply jW) | ((with_reducible first | apply jX | apply jY | apply jZ); rfl) | ((with_reducible first | apply kA | apply kB | apply kC); rfl)); all_goals (first | ((with_reducible show Is _ _); exact kE_GG0) | ((with_reducible refine fun (hc : (_ : Bool) = _) => ?_); (try simp only [xZ, xY, xP, reduceCtorEq] at hc); (try (have hx : True := hc; clear hx hc)); (try exact kX)) | ((with_reducible show ACall _ _ _ _ _); (first | ((with_reducible apply hv) <;> exact kD_GG0))) | ((fail_if_success (with_reducible first | show Is _ _ | show ACall _ _ _ _ _)); (try ((with_reducible show _ ∨ _); exact kT))))))
    rfl
  | true =>
    rw [hok] at hv
    cases six
    · have hf : fmtA false A = Go.Lib.join (parts4 A 4) [46] := by simp [fmtA, hok]
      rw [hf]
      repeat' (first | (with_reducible first | apply jA | apply jB | apply jC | apply jD | apply jE | apply jF | apply jG | apply jH | apply jI | apply jJ | apply jK | apply jL | apply jM | apply jN | apply jO) | ((with_reducible first | apply jP | apply jQ); rfl) | ((first | ((with_reducible first | apply jR | apply jS | apply jT); rfl; rfl) | (with_reducible first | apply jU | apply jV | apply jW) | ((with_reducible first | apply jX | apply jY | apply jZ); rfl) | ((with_reducible first | apply kA | apply kB | apply kC); rfl)); all_goals (first | ((with_reducible show Is _ _); exact kE_GG0) | ((with_reducible refine fun (hc : (_ : Bool) = _) => ?_); (try simp only [xZ, xY, xP, reduceCtorEq] at hc); (try (have hx : True := hc; clear hx hc)); (try exact kX)) | ((with_reducible show ACall _ _ _ _ _); (first | ((with_reducible apply hv) <;> exact kD_GG0))) | ((fail_if_success (with_reducible first | show Is _ _ | show ACall _ _ _ _ _)); (try ((with_reducible show _ ∨ _); exact kT))))))
      refine w_loop (fun fr B => ∃ (i : Nat) (oc : CV), i ≤ 4 ∧ fr 36 = .int .i64 i ∧ fr 1 = .ptr 0 0 ∧ fr 3 = oc ∧ B[0]? = some ⟨.bool false :: A.map byteC, false⟩ ∧ ((i = 0 ∧ oc = .nilS) ∨ ∃ β m, β ≠ 0 ∧ oc = .view β 0 i 1 false ∧ B[β]? = some ⟨(parts4 A i).map .str, m⟩)) (fun fr _ => 4 - natOf (fr 36)) ?_ ?_
      · exact ⟨0, .nilS, by omega, by (simp (disch := omega) [go_sem, *]) <;> (try omega), by (simp (disch := omega) [go_sem, *]) <;> (try omega), by (simp (disch := omega) [go_sem, *]) <;> (try omega), by (simp (disch := omega) [go_sem, *]) <;> (try omega), .inl ⟨rfl, rfl⟩⟩
      rintro fr B ⟨i, oc, hi, h36, h1, h3, h0, hO⟩
      have x0 := bx_pack h0
      by_cases hc : i < 4
      · have hp := parts4_succ A i
        have hpl : (parts4 A i).length = i := by simp [parts4]
        have hgd : A.getD i 0 = A[i]'(by omega) := by rw [List.getD_eq_getElem?_getD, List.getElem?_eq_getElem (by omega)]; rfl
        have hlt := (A[i]'(by omega)).toNat_lt
        have hit : ∀ {B : List Box} {args : List CV}, Is args [.int .i64 ((A[i]'(by omega)).toNat : Int)] → ACall Tryz.prog 27 args B fun c B' => c = .str (Go.Lib.decDigits (A.getD i 0).toNat) ∧ B' = B := fun {B args} h => by
          have h : _ = _ := h
          subst h
          have := itoa_at (B := B) (n := ((A[i]'(by omega)).toNat : Int)) (by omega)
          rw [Go.Lib.itoa, if_neg (by omega), Int.toNat_natCast] at this
          rw [hgd]
          exact this
        generalize Go.Lib.decDigits (A.getD i 0).toNat = T at *
        clear hgd
        rcases hO with ⟨hi0, rfl⟩ | ⟨β, m, hβ0, rfl, hβ⟩
        · have hp0 : parts4 A i = [] := by rw [hi0]; rfl
          rw [hp0] at hp
          replace hi0 : Hid _ := hi0
          repeat' (first | (with_reducible first | apply jA | apply jB | apply jC | apply jD | apply jE | apply jF | apply jG | apply jH | apply jI | apply jJ | apply jK | apply jL | apply jM | apply jN | apply jO) | ((with_reducible first | apply jP | apply jQ); rfl) | ((first | ((with_reducible first | apply jR | apply jS | apply jT); rfl; rfl) | (with_reducible first | apply jU | apply jV | apply jW) | ((with_reducible first | apply jX | apply jY | apply jZ); rfl) | ((with_reducible first | apply kA | apply kB | apply kC); rfl)); all_goals (first | ((with_reducible show Is _ _); exact kE_GG1) | ((with_reducible refine fun (hc : (_ : Bool) = _) => ?_); (try simp only [xZ, xY, xP, reduceCtorEq] at hc); (try (have hx : True := hc; clear hx hc)); (try exact kX)) | ((with_reducible show ACall _ _ _ _ _); (first | ((with_reducible apply hit) <;> exact kD_GG1))) | ((fail_if_success (with_reducible first | show Is _ _ | show ACall _ _ _ _ _)); (try ((with_reducible show _ ∨ _); exact kT))))))
          have hi0 : i = 0 := hi0
          refine ⟨⟨i + 1, .view (B.length + 1) 0 1 1 false, by omega, by (simp (disch := omega) [go_sem, *]) <;> (try omega), by (simp (disch := omega) [go_sem, *]) <;> (try omega), by (simp (disch := omega) [go_sem, *]) <;> (try omega), by (simp (disch := omega) [go_sem, *]) <;> (try omega), .inr ⟨B.length + 1, false, by omega, by rw [hi0], ?_⟩⟩, by (simp (disch := omega) [go_sem, *]) <;> (try omega)⟩
          rw [hp]; simp
        · have xb := bx_pack hβ
          have z0 : ∀ y X, (B.set β y ++ X)[0]? = some ⟨.bool false :: A.map byteC, false⟩ := fun y X => by
            rw [List.getElem?_append_left (by rw [List.length_set]; exact (List.getElem?_eq_some_iff.1 h0).1), List.getElem?_set_ne hβ0]; exact h0
          repeat' (first | (with_reducible first | apply jA | apply jB | apply jC | apply jD | apply jE | apply jF | apply jG | apply jH | apply jI | apply jJ | apply jK | apply jL | apply jM | apply jN | apply jO) | ((with_reducible first | apply jP | apply jQ); rfl) | ((first | ((with_reducible first | apply jR | apply jS | apply jT); rfl; rfl) | (with_reducible first | apply jU | apply jV | apply jW) | ((with_reducible first | apply jX | apply jY | apply jZ); rfl) | ((with_reducible first | apply kA | apply kB | apply kC); rfl)); all_goals (first | ((with_reducible show Is _ _); exact kE_GG1) | ((with_reducible refine fun (hc : (_ : Bool) = _) => ?_); (try simp only [xZ, xY, xP, reduceCtorEq] at hc); (try (have hx : True := hc; clear hx hc)); (try exact kX)) | ((with_reducible show ACall _ _ _ _ _); (first | ((with_reducible apply hit) <;> exact kD_GG1))) | ((fail_if_success (with_reducible first | show Is _ _ | show ACall _ _ _ _ _)); (try ((with_reducible show _ ∨ _); exact kT))))))
          refine ⟨⟨i + 1, .view β 0 (i + 1) 1 false, by omega, by (simp (disch := omega) [go_sem, *]) <;> (try omega), by (simp (disch := omega) [go_sem, *]) <;> (try omega), by (simp (disch := omega) [go_sem, *]) <;> (try omega), by (simp (disch := omega) [go_sem, *]) <;> (try omega), .inr ⟨β, true, hβ0, rfl, ?_⟩⟩, by (simp (disch := omega) [go_sem, *]) <;> (try omega)⟩
          rw [hp, List.map_append]; (simp (disch := omega) [go_sem, *]) <;> (try omega)
      · obtain rfl : i = 4 := by omega
        rcases hO with ⟨hi0, _⟩ | ⟨β, m, hβ0, rfl, hβ⟩
        · omega
        · have hpl : (parts4 A 4).length = 4 := by simp [parts4]
          have hj : ∀ {B : List Box} {args : List CV}, Is (omap (Go.Sy.fz true false B 6) args) (some [.lst 4 ((parts4 A 4).map .str) false, .str [46]]) → ACall Tryz.prog 30 args B fun c B' => c = .str (Go.Lib.join (parts4 A 4) [46]) ∧ B' = B := fun h => join_at h hpl.symm (by omega) (by
            have := join_le (t := [46]) (k := 3) (parts4 A 4) fun x hx => by
              simp only [parts4, List.mem_map, List.mem_range] at hx
              obtain ⟨i, _, rfl⟩ := hx
              have := (A.getD i 0).toNat_lt
              exact decDigits_len 2 _ (by omega)
            rw [hpl] at this
            simp at this
            omega)
          generalize parts4 A 4 = L at *
          have xb := bx_pack hβ
          have htk : (L.map CV.str).take 4 = L.map CV.str := List.take_of_length_le (by simp; omega)
          repeat' (first | (with_reducible first | apply jA | apply jB | apply jC | apply jD | apply jE | apply jF | apply jG | apply jH | apply jI | apply jJ | apply jK | apply jL | apply jM | apply jN | apply jO) | ((with_reducible first | apply jP | apply jQ); rfl) | ((first | ((with_reducible first | apply jR | apply jS | apply jT); rfl; rfl) | (with_reducible first | apply jU | apply jV | apply jW) | ((with_reducible first | apply jX | apply jY | apply jZ); rfl) | ((with_reducible first | apply kA | apply kB | apply kC); rfl)); all_goals (first | ((with_reducible show Is _ _); exact kE_GG2) | ((with_reducible refine fun (hc : (_ : Bool) = _) => ?_); (try simp only [xZ, xY, xP, reduceCtorEq] at hc); (try (have hx : True := hc; clear hx hc)); (try exact kX)) | ((with_reducible show ACall _ _ _ _ _); (first | ((with_reducible apply hj) <;> exact kD_GG2))) | ((fail_if_success (with_reducible first | show Is _ _ | show ACall _ _ _ _ _)); (try ((with_reducible show _ ∨ _); exact kT))))))
          rfl
    · have hf : fmtA true A = Go.Lib.join (parts6 A 8) [58] := by simp [fmtA, hok]
      rw [hf]
      repeat' (first | (with_reducible first | apply jA | apply jB | apply jC | apply jD | apply jE | apply jF | apply jG | apply jH | apply jI | apply jJ | apply jK | apply jL | apply jM | apply jN | apply jO) | ((with_reducible first | apply jP | apply jQ); rfl) | ((first | ((with_reducible first | apply jR | apply jS | apply jT); rfl; rfl) | (with_reducible first | apply jU | apply jV | apply jW) | ((with_reducible first | apply jX | apply jY | apply jZ); rfl) | ((with_reducible first | apply kA | apply kB | apply kC); rfl)); all_goals (first | ((with_reducible show Is _ _); exact kE_GG0) | ((with_reducible refine fun (hc : (_ : Bool) = _) => ?_); (try simp only [xZ, xY, xP, reduceCtorEq] at hc); (try (have hx : True := hc; clear hx hc)); (try exact kX)) | ((with_reducible show ACall _ _ _ _ _); (first | ((with_reducible apply hv) <;> exact kD_GG0))) | ((fail_if_success (with_reducible first | show Is _ _ | show ACall _ _ _ _ _)); (try ((with_reducible show _ ∨ _); exact kT))))))
      refine w_loop (fun fr B => ∃ (i : Nat) (oc : CV), i ≤ 8 ∧ fr 11 = .int .i64 i ∧ fr 1 = .ptr 0 0 ∧ fr 3 = oc ∧ B[0]? = some ⟨.bool true :: A.map byteC, false⟩ ∧ ((i = 0 ∧ oc = .nilS) ∨ ∃ β m, β ≠ 0 ∧ oc = .view β 0 i 1 false ∧ B[β]? = some ⟨(parts6 A i).map .str, m⟩)) (fun fr _ => 8 - natOf (fr 11)) ?_ ?_
      · exact ⟨0, .nilS, by omega, by (simp (disch := omega) [go_sem, *]) <;> (try omega), by (simp (disch := omega) [go_sem, *]) <;> (try omega), by (simp (disch := omega) [go_sem, *]) <;> (try omega), by (simp (disch := omega) [go_sem, *]) <;> (try omega), .inl ⟨rfl, rfl⟩⟩
      rintro fr B ⟨i, oc, hi, h11, h1, h3, h0, hO⟩
      have x0 := bx_pack h0
      by_cases hc : i < 8
      · have hp := parts6_succ A i
        have hpl : (parts6 A i).length = i := by simp [parts6]
        have hg1 : A.getD (2 * i) 0 = A[2 * i]'(by omega) := by rw [List.getD_eq_getElem?_getD, List.getElem?_eq_getElem (by omega)]; rfl
        have hg2 : A.getD (2 * i + 1) 0 = A[2 * i + 1]'(by omega) := by rw [List.getD_eq_getElem?_getD, List.getElem?_eq_getElem (by omega)]; rfl
        have hgl := grp_lt A i
        have hor : bits .or .i64 (((A[2 * i]'(by omega)).toNat : Int) * 256) ((A[2 * i + 1]'(by omega)).toNat : Int) = (grp A i : Int) := by rw [or_grp, grp, hg1, hg2]
        have hlt1 := (A[2 * i]'(by omega)).toNat_lt
        have hlt2 := (A[2 * i + 1]'(by omega)).toNat_lt
        have hfm : ∀ {B : List Box} {args : List CV}, Is args [.int .i64 (grp A i), .int .i64 16] → ACall Tryz.prog 29 args B fun c B' => c = .str (hexT (grp A i)) ∧ B' = B := fun {B args} h => by
          have h : _ = _ := h
          subst h
          exact fmt16_at hgl
        generalize hexT (grp A i) = T at *
        generalize grp A i = g at *
        clear hg1 hg2
        have h2i : (2 * (i : Int)).toNat = 2 * i := by omega
        have h2i1 : (2 * (i : Int) + 1).toNat = 2 * i + 1 := by omega
        have z1 : ∀ (X : List Box) (h : 0 < (B ++ X).length), (B ++ X)[0]'h = ⟨.bool true :: A.map byteC, false⟩ := fun X h => by
          have := x0.1 X
          rw [List.getElem?_eq_getElem h] at this
          exact Option.some.inj this
        rcases hO with ⟨hi0, rfl⟩ | ⟨β, m, hβ0, rfl, hβ⟩
        · have hp0 : parts6 A i = [] := by rw [hi0]; rfl
          rw [hp0] at hp
          replace hi0 : Hid _ := hi0
          repeat' (first | (with_reducible first | apply jA | apply jB | apply jC | apply jD | apply jE | apply jF | apply jG | apply jH | apply jI | apply jJ | apply jK | apply jL | apply jM | apply jN | apply jO) | ((with_reducible apply jP); rfl) | ((first | ((with_reducible first | apply jR | apply jS | apply jT); rfl; rfl) | (with_reducible first | apply jU | apply jV | apply jW) | ((with_reducible first | apply jX | apply jY | apply jZ); rfl)); all_goals (first | ((with_reducible show Is _ _); exact kE) | ((with_reducible refine fun (hc : (_ : Bool) = _) => ?_); (try simp only [xZ, xY, xP, reduceCtorEq] at hc); (try (have hx : True := hc; clear hx hc)); (try exact kX)) | ((fail_if_success (with_reducible first | show Is _ _ | show ACall _ _ _ _ _)); (try ((with_reducible show _ ∨ _); exact kT))))))
          refine w_drawH [17] [⟨[.str T], false⟩] rfl rfl ?_
          repeat' (first | (with_reducible first | apply jA | apply jB | apply jC | apply jD | apply jE | apply jF | apply jG | apply jH | apply jI | apply jJ | apply jK | apply jL | apply jM | apply jN | apply jO) | ((with_reducible apply jP); rfl) | ((first | ((with_reducible first | apply d_made | apply q_made); rfl; rfl)); (iterate 6 exact kE_GG1)) | ((first | ((with_reducible first | apply d_fop | apply q_fop); rfl; rfl)); (intro Bx hJ; (first | (obtain ⟨_, hJ1, hJ2⟩ := hJ) | (try simp only at hJ)); exact kE_GG1)) | ((with_reducible first | apply d_free | apply q_free); rfl; (iterate 2 exact kE_GG1); (intro Bx hJ); (first | ((with_reducible apply hfm) <;> exact kD_GG1))) | ((first | ((with_reducible first | apply jR | apply jS | apply jT); rfl; rfl) | (with_reducible first | apply jU | apply jV | apply jW) | ((with_reducible first | apply jX | apply jY | apply jZ); rfl) | ((with_reducible first | apply kA | apply kB | apply kC); rfl)); all_goals (first | ((with_reducible show Is _ _); exact kE_GG1) | ((with_reducible refine fun (hc : (_ : Bool) = _) => ?_); (try simp only [xZ, xY, xP, reduceCtorEq] at hc); (try (have hx : True := hc; clear hx hc)); (try exact kX)) | ((with_reducible show ACall _ _ _ _ _); (first | ((with_reducible apply hfm) <;> exact kD_GG1))) | ((fail_if_success (with_reducible first | show Is _ _ | show ACall _ _ _ _ _)); (try ((with_reducible show _ ∨ _); first | exact .inl rfl | (refine .inr ⟨rfl, ?_, ?_⟩; (focus (repeat (first | exact trivial | refine ⟨.inl rfl, ?_⟩ | refine ⟨.inr rfl, ?_⟩ | refine ⟨.inr (by (simp (disch := first | omega | (simp only [yZ, yB] <;> omega) | fail) [go_sem, yY, *, cons_get1, cons_take1, cons_drop1, -List.map_take, -List.map_drop, -List.map_append, -List.map_reverse])), ?_⟩))); (first | exact trivial | exact rfl | (refine ⟨_, ?_, ?_⟩; (focus (simp (disch := first | omega | (simp only [yZ, yB] <;> omega) | fail) [go_sem, yY, *, cons_get1, cons_take1, cons_drop1, -List.map_take, -List.map_drop, -List.map_append, -List.map_reverse]; (try exact rfl))); (simp (disch := first | omega | (simp only [yZ, yB] <;> omega) | fail) [go_sem, yY, *, cons_get1, cons_take1, cons_drop1, -List.map_take, -List.map_drop, -List.map_append, -List.map_reverse])) | (simp (disch := first | omega | (simp only [yZ, yB] <;> omega) | fail) [go_sem, yY, *, cons_get1, cons_take1, cons_drop1, -List.map_take, -List.map_drop, -List.map_append, -List.map_reverse]))) | exact .inl (by (simp (disch := first | omega | (simp only [yZ, yB] <;> omega) | fail) [go_sem, yY, *, cons_get1, cons_take1, cons_drop1, -List.map_take, -List.map_drop, -List.map_append, -List.map_reverse]))))))))
          have hi0 : i = 0 := hi0
          refine ⟨⟨i + 1, .view (B.length + 1) 0 1 1 false, by omega, by (simp (disch := omega) [go_sem, *]) <;> (try omega), by (simp (disch := omega) [go_sem, *]) <;> (try omega), by (simp (disch := omega) [go_sem, *]) <;> (try omega), by (simp (disch := omega) [go_sem, *]) <;> (try omega), .inr ⟨B.length + 1, false, by omega, by rw [hi0], ?_⟩⟩, by (simp (disch := omega) [go_sem, *]) <;> (try omega)⟩
          rw [hp]; simp
        · have xb := bx_pack hβ
          have z0 : ∀ y X, (B.set β y ++ X)[0]? = some ⟨.bool true :: A.map byteC, false⟩ := fun y X => by
            rw [List.getElem?_append_left (by rw [List.length_set]; exact (List.getElem?_eq_some_iff.1 h0).1), List.getElem?_set_ne hβ0]; exact h0
          repeat' (first | (with_reducible first | apply jA | apply jB | apply jC | apply jD | apply jE | apply jF | apply jG | apply jH | apply jI | apply jJ | apply jK | apply jL | apply jM | apply jN | apply jO) | ((with_reducible apply jP); rfl) | ((first | ((with_reducible first | apply jR | apply jS | apply jT); rfl; rfl) | (with_reducible first | apply jU | apply jV | apply jW) | ((with_reducible first | apply jX | apply jY | apply jZ); rfl)); all_goals (first | ((with_reducible show Is _ _); exact kE) | ((with_reducible refine fun (hc : (_ : Bool) = _) => ?_); (try simp only [xZ, xY, xP, reduceCtorEq] at hc); (try (have hx : True := hc; clear hx hc)); (try exact kX)) | ((fail_if_success (with_reducible first | show Is _ _ | show ACall _ _ _ _ _)); (try ((with_reducible show _ ∨ _); exact kT))))))
          refine w_drawH [17] [⟨[.str T], false⟩] rfl rfl ?_
          repeat' (first | (with_reducible first | apply jA | apply jB | apply jC | apply jD | apply jE | apply jF | apply jG | apply jH | apply jI | apply jJ | apply jK | apply jL | apply jM | apply jN | apply jO) | ((with_reducible apply jP); rfl) | ((first | ((with_reducible first | apply d_made | apply q_made); rfl; rfl)); (iterate 6 exact kE_GG1)) | ((first | ((with_reducible first | apply d_fop | apply q_fop); rfl; rfl)); (intro Bx hJ; (first | (obtain ⟨_, hJ1, hJ2⟩ := hJ) | (try simp only at hJ)); exact kE_GG1)) | ((with_reducible first | apply d_free | apply q_free); rfl; (iterate 2 exact kE_GG1); (intro Bx hJ); (first | ((with_reducible apply hfm) <;> exact kD_GG1))) | ((first | ((with_reducible first | apply jR | apply jS | apply jT); rfl; rfl) | (with_reducible first | apply jU | apply jV | apply jW) | ((with_reducible first | apply jX | apply jY | apply jZ); rfl) | ((with_reducible first | apply kA | apply kB | apply kC); rfl)); all_goals (first | ((with_reducible show Is _ _); exact kE_GG1) | ((with_reducible refine fun (hc : (_ : Bool) = _) => ?_); (try simp only [xZ, xY, xP, reduceCtorEq] at hc); (try (have hx : True := hc; clear hx hc)); (try exact kX)) | ((with_reducible show ACall _ _ _ _ _); (first | ((with_reducible apply hfm) <;> exact kD_GG1))) | ((fail_if_success (with_reducible first | show Is _ _ | show ACall _ _ _ _ _)); (try ((with_reducible show _ ∨ _); first | exact .inl rfl | (refine .inr ⟨rfl, ?_, ?_⟩; (focus (repeat (first | exact trivial | refine ⟨.inl rfl, ?_⟩ | refine ⟨.inr rfl, ?_⟩ | refine ⟨.inr (by (simp (disch := first | omega | (simp only [yZ, yB] <;> omega) | fail) [go_sem, yY, *, cons_get1, cons_take1, cons_drop1, -List.map_take, -List.map_drop, -List.map_append, -List.map_reverse])), ?_⟩))); (first | exact trivial | exact rfl | (refine ⟨_, ?_, ?_⟩; (focus (simp (disch := first | omega | (simp only [yZ, yB] <;> omega) | fail) [go_sem, yY, *, cons_get1, cons_take1, cons_drop1, -List.map_take, -List.map_drop, -List.map_append, -List.map_reverse]; (try exact rfl))); (simp (disch := first | omega | (simp only [yZ, yB] <;> omega) | fail) [go_sem, yY, *, cons_get1, cons_take1, cons_drop1, -List.map_take, -List.map_drop, -List.map_append, -List.map_reverse])) | (simp (disch := first | omega | (simp only [yZ, yB] <;> omega) | fail) [go_sem, yY, *, cons_get1, cons_take1, cons_drop1, -List.map_take, -List.map_drop, -List.map_append, -List.map_reverse]))) | exact .inl (by (simp (disch := first | omega | (simp only [yZ, yB] <;> omega) | fail) [go_sem, yY, *, cons_get1, cons_take1, cons_drop1, -List.map_take, -List.map_drop, -List.map_append, -List.map_reverse]))))))))
          refine ⟨⟨i + 1, .view β 0 (i + 1) 1 false, by omega, by (simp (disch := omega) [go_sem, *]) <;> (try omega), by (simp (disch := omega) [go_sem, *]) <;> (try omega), by (simp (disch := omega) [go_sem, *]) <;> (try omega), by (simp (disch := omega) [go_sem, *]) <;> (try omega), .inr ⟨β, true, hβ0, rfl, ?_⟩⟩, by (simp (disch := omega) [go_sem, *]) <;> (try omega)⟩
          rw [hp, List.map_append]; (simp (disch := omega) [go_sem, *]) <;> (try omega)
      · obtain rfl : i = 8 := by omega
        rcases hO with ⟨hi0, _⟩ | ⟨β, m, hβ0, rfl, hβ⟩
        · omega
        · have hpl : (parts6 A 8).length = 8 := by simp [parts6]
          have hj : ∀ {B : List Box} {args : List CV}, Is (omap (Go.Sy.fz true false B 6) args) (some [.lst 8 ((parts6 A 8).map .str) false, .str [58]]) → ACall Tryz.prog 30 args B fun c B' => c = .str (Go.Lib.join (parts6 A 8) [58]) ∧ B' = B := fun h => join_at h hpl.symm (by omega) (by
            have := join_le (t := [58]) (k := 4) (parts6 A 8) fun x hx => by
              simp only [parts6, List.mem_map, List.mem_range] at hx
              obtain ⟨i, _, rfl⟩ := hx
              exact hexT_len 3 _ (grp_lt A i)
            rw [hpl] at this
            simp at this
            omega)
          generalize parts6 A 8 = L at *
          have xb := bx_pack hβ
          have htk : (L.map CV.str).take 8 = L.map CV.str := List.take_of_length_le (by simp; omega)
          repeat' (first | (with_reducible first | apply jA | apply jB | apply jC | apply jD | apply jE | apply jF | apply jG | apply jH | apply jI | apply jJ | apply jK | apply jL | apply jM | apply jN | apply jO) | ((with_reducible first | apply jP | apply jQ); rfl) | ((first | ((with_reducible first | apply jR | apply jS | apply jT); rfl; rfl) | (with_reducible first | apply jU | apply jV | apply jW) | ((with_reducible first | apply jX | apply jY | apply jZ); rfl) | ((with_reducible first | apply kA | apply kB | apply kC); rfl)); all_goals (first | ((with_reducible show Is _ _); exact kE_GG2) | ((with_reducible refine fun (hc : (_ : Bool) = _) => ?_); (try simp only [xZ, xY, xP, reduceCtorEq] at hc); (try (have hx : True := hc; clear hx hc)); (try exact kX)) | ((with_reducible show ACall _ _ _ _ _); (first | ((with_reducible apply hj) <;> exact kD_GG2))) | ((fail_if_success (with_reducible first | show Is _ _ | show ACall _ _ _ _ _)); (try ((with_reducible show _ ∨ _); exact kT))))))
          rfl
theorem fmtAddr_at {B : List Box} {args : List CV} {six : Bool} {A : List UInt8} (hz : Is (omap (Go.Sy.fz true false B 6) args) (some [addrC six A])) (hA : A.length = 16) : ACall Tryz.prog 45 args B fun c B' => c = .str (fmtA six A) ∧ B' = B := acall_fresh hz (fmtAddr_in six A hA)
end Go.Proofs.YtdceppjoipoohaaGreatDoor
end
section
namespace Go.Proofs.YtdceppjoipoohaaGreatDoor
open Go Go.Sy
set_option linter.all false
set_option maxRecDepth 100000
set_option maxHeartbeats 4000000
theorem kE_ZB0 {α : Type} {x y : α} (h : Is x y := by first | ((try simp (disch := first | omega | (simp only [yZ, yB] <;> omega) | fail) [go_sem, yY, *, bx_get0, bx_get, bx_set0, bx_set, if_pos, if_neg, -List.map_take, -List.map_drop, -List.map_append, -List.map_reverse]); exact rfl) | fail) : Is x y := h
theorem kD_ZB0 {p : Prop} (h : p := by (first | omega | assumption | exact rfl | ((simp (disch := first | omega | (simp only [yZ, yB] <;> omega) | fail) [go_sem, yY, *, bx_get0, bx_get, bx_set0, bx_set, -List.map_take, -List.map_drop, -List.map_append, -List.map_reverse]) <;> (first | done | omega | exact rfl)) | fail)) : p := h
def idxL (L : List (List UInt8)) (x : List UInt8) : Int := if x ∈ L then (L.idxOf x : Int) else -1
theorem index_in (L : List (List UInt8)) (x : List UInt8) (hL : L.length < 1000000) : PC Tryz.prog true 85 [.lst L.length (L.map .str) false, .str x] (.int .i64 (idxL L x)) := by
  have hml : (L.map CV.str).length = L.length := List.length_map _
  refine acall_intro mixed Tryz.func85 rfl ca85 (by kernel_rfl) (by rw [Tryz.ntmps85]; simp) ?_
  repeat' (first | (with_reducible first | apply jA | apply jB | apply jC | apply jD | apply jE | apply jF | apply jG | apply jH | apply jI | apply jJ | apply jK | apply jL | apply jM | apply jN | apply jO) | ((with_reducible first | apply jP | apply jQ); rfl) | ((first | ((with_reducible first | apply jR | apply jS | apply jT); rfl; rfl) | (with_reducible first | apply jU | apply jV | apply jW) | ((with_reducible first | apply jX | apply jY | apply jZ); rfl)); all_goals (first | ((with_reducible show Is _ _); exact kE) | ((with_reducible refine fun (hc : (_ : Bool) = _) => ?_); (try simp only [xZ, xY, xP, reduceCtorEq] at hc); (try (have hx : True := hc; clear hx hc)); (try exact kX)) | ((fail_if_success (with_reducible first | show Is _ _ | show ACall _ _ _ _ _)); (try ((with_reducible show _ ∨ _); exact kT))))))
  refine w_loop (fun fr B => ∃ j : Nat, j ≤ L.length ∧ x ∉ L.take j ∧ fr 8 = .int .i64 j ∧ fr 7 = .int .i64 L.length ∧ fr 0 = .lst L.length (L.map .str) false ∧ fr 1 = .str x ∧ B = []) (fun fr _ => L.length - natOf (fr 8)) ?_ ?_
  · exact ⟨0, by omega, by simp, by (simp (disch := omega) [go_sem, *]) <;> (try omega), by (simp (disch := omega) [go_sem, *]) <;> (try omega), by (simp (disch := omega) [go_sem, *]) <;> (try omega), by (simp (disch := omega) [go_sem, *]) <;> (try omega), rfl⟩
  rintro fr B ⟨j, hj, hn, h8, h7, h0, h1, rfl⟩
  have hm : natOf (fr 8) = j := by rw [h8]; rfl
  by_cases hc : j < L.length
  · have hx : (L.map CV.str).drop j = .str (L[j]'hc) :: (L.map CV.str).drop (j + 1) := by
      rw [List.drop_eq_getElem_cons (by simp; omega)]; simp
    by_cases he : x = L[j]'hc
    · have hr : idxL L x = j := by
        have hi : x ∈ L := he ▸ List.getElem_mem hc
        rw [idxL, if_pos hi]
        have h1 : ¬ L.idxOf x < j := fun h => hn (by
          rw [List.mem_take_iff_getElem]
          exact ⟨L.idxOf x, by have := List.idxOf_lt_length_iff.2 hi; omega, List.getElem_idxOf (List.idxOf_lt_length_iff.2 hi)⟩)
        have h2 : L.idxOf x ≤ j := by
          rcases Nat.lt_or_ge j (L.idxOf x) with h | h
          · have := List.not_of_lt_findIdx (p := (· == x)) (xs := L) h
            rw [← he] at this
            simp at this
          · exact h
        omega
      rw [hr]
      generalize L[j]'hc = y at *
      subst he
      clear hn hr
      repeat' (first | (with_reducible first | apply jA | apply jB | apply jC | apply jD | apply jE | apply jF | apply jG | apply jH | apply jI | apply jJ | apply jK | apply jL | apply jM | apply jN | apply jO) | ((with_reducible first | apply jP | apply jQ); rfl) | ((first | ((with_reducible first | apply jR | apply jS | apply jT); rfl; rfl) | (with_reducible first | apply jU | apply jV | apply jW) | ((with_reducible first | apply jX | apply jY | apply jZ); rfl)); all_goals (first | ((with_reducible show Is _ _); exact kE) | ((with_reducible refine fun (hc : (_ : Bool) = _) => ?_); (try simp only [xZ, xY, xP, reduceCtorEq] at hc); (try (have hx : True := hc; clear hx hc)); (try exact kX)) | ((fail_if_success (with_reducible first | show Is _ _ | show ACall _ _ _ _ _)); (try ((with_reducible show _ ∨ _); exact kT))))))
      all_goals rfl
    · have hn2 : x ∉ L.take (j + 1) := by
        rw [List.take_succ_eq_append_getElem hc]
        simp only [List.mem_append, List.mem_singleton]
        rintro (h | h)
        · exact hn h
        · exact he h
      have he2 : (x == L[j]'hc) = false := by simpa using he
      generalize L[j]'hc = y at *
      replace hn : Hid _ := hn
      replace hn2 : Hid _ := hn2
      repeat' (first | (with_reducible first | apply jA | apply jB | apply jC | apply jD | apply jE | apply jF | apply jG | apply jH | apply jI | apply jJ | apply jK | apply jL | apply jM | apply jN | apply jO) | ((with_reducible first | apply jP | apply jQ); rfl) | ((first | ((with_reducible first | apply jR | apply jS | apply jT); rfl; rfl) | (with_reducible first | apply jU | apply jV | apply jW) | ((with_reducible first | apply jX | apply jY | apply jZ); rfl)); all_goals (first | ((with_reducible show Is _ _); exact kE) | ((with_reducible refine fun (hc : (_ : Bool) = _) => ?_); (try simp only [xZ, xY, xP, reduceCtorEq] at hc); (try (have hx : True := hc; clear hx hc)); (try exact kX)) | ((fail_if_success (with_reducible first | show Is _ _ | show ACall _ _ _ _ _)); (try ((with_reducible show _ ∨ _); exact kT))))))
      exact ⟨⟨j + 1, by omega, hn2, by (simp (disch := omega) [go_sem, *]) <;> (try omega), by (simp (disch := omega) [go_sem, *]) <;> (try omega), by (simp (disch := omega) [go_sem, *]) <;> (try omega), by (simp (disch := omega) [go_sem, *]) <;> (try omega), rfl⟩, by (simp (disch := omega) [go_sem, *]) <;> (try omega)⟩
  · obtain rfl : j = L.length := by omega
    rw [List.take_length] at hn
    rw [idxL, if_neg hn]
    clear hn
    repeat' (first | (with_reducible first | apply jA | apply jB | apply jC | apply jD | apply jE | apply jF | apply jG | apply jH | apply jI | apply jJ | apply jK | apply jL | apply jM | apply jN | apply jO) | ((with_reducible first | apply jP | apply jQ); rfl) | ((first | ((with_reducible first | apply jR | apply jS | apply jT); rfl; rfl) | (with_reducible first | apply jU | apply jV | apply jW) | ((with_reducible first | apply jX | apply jY | apply jZ); rfl)); all_goals (first | ((with_reducible show Is _ _); exact kE) | ((with_reducible refine fun (hc : (_ : Bool) = _) => ?_); (try simp only [xZ, xY, xP, reduceCtorEq] at hc); (try (have hx : True := hc; clear hx hc)); (try exact kX)) | ((fail_if_success (with_reducible first | show Is _ _ | show ACall _ _ _ _ _)); (try ((with_reducible show _ ∨ _); exact kT))))))
    all_goals rfl
theorem contains_in (L : List (List UInt8)) (x : List UInt8) (hL : L.length < 1000000) : PC Tryz.prog true 58 [.lst L.length (L.map .str) false, .str x] (.bool (decide (x ∈ L))) := by
  have hi : ∀ {B : List Box} {args : List CV}, Is (omap (Go.Sy.fz true false B 6) args) (some [.lst L.length (L.map .str) false, .str x]) → ACall Tryz.prog 85 args B fun c B' => c = .int .i64 (idxL L x) ∧ B' = B := fun h => acall_fresh h (index_in L x hL)
  have ho := @omap_strs
  refine acall_intro mixed Tryz.func58 rfl ca58 (by kernel_rfl) (by rw [Tryz.ntmps58]; simp) ?_
  by_cases h : x ∈ L
  · have e : idxL L x = (L.idxOf x : Nat) := by rw [idxL, if_pos h]
    rw [e] at hi
    simp only [h, decide_true]
    clear e h
    repeat' (first | (with_reducible first | apply jA | apply jB | apply jC | apply jD | apply jE | apply jF | apply jG | apply jH | apply jI | apply jJ | apply jK | apply jL | apply jM | apply jN | apply jO) | ((with_reducible first | apply jP | apply jQ); rfl) | ((first | ((with_reducible first | apply jR | apply jS | apply jT); rfl; rfl) | (with_reducible first | apply jU | apply jV | apply jW) | ((with_reducible first | apply jX | apply jY | apply jZ); rfl) | ((with_reducible first | apply kA | apply kB | apply kC); rfl)); all_goals (first | ((with_reducible show Is _ _); exact kE) | ((with_reducible refine fun (hc : (_ : Bool) = _) => ?_); (try simp only [xZ, xY, xP, reduceCtorEq] at hc); (try (have hx : True := hc; clear hx hc)); (try exact kX)) | ((with_reducible show ACall _ _ _ _ _); (first | ((with_reducible apply hi) <;> exact kD))) | ((fail_if_success (with_reducible first | show Is _ _ | show ACall _ _ _ _ _)); (try ((with_reducible show _ ∨ _); exact kT))))))
    rfl
  · have e : idxL L x = -1 := by rw [idxL, if_neg h]
    rw [e] at hi
    simp only [h, decide_false]
    clear e h
    repeat' (first | (with_reducible first | apply jA | apply jB | apply jC | apply jD | apply jE | apply jF | apply jG | apply jH | apply jI | apply jJ | apply jK | apply jL | apply jM | apply jN | apply jO) | ((with_reducible first | apply jP | apply jQ); rfl) | ((first | ((with_reducible first | apply jR | apply jS | apply jT); rfl; rfl) | (with_reducible first | apply jU | apply jV | apply jW) | ((with_reducible first | apply jX | apply jY | apply jZ); rfl) | ((with_reducible first | apply kA | apply kB | apply kC); rfl)); all_goals (first | ((with_reducible show Is _ _); exact kE) | ((with_reducible refine fun (hc : (_ : Bool) = _) => ?_); (try simp only [xZ, xY, xP, reduceCtorEq] at hc); (try (have hx : True := hc; clear hx hc)); (try exact kX)) | ((with_reducible show ACall _ _ _ _ _); (first | ((with_reducible apply hi) <;> exact kD))) | ((fail_if_success (with_reducible first | show Is _ _ | show ACall _ _ _ _ _)); (try ((with_reducible show _ ∨ _); exact kT))))))
    rfl
theorem containsS_at {B : List Box} {args : List CV} {L : List (List UInt8)} {x : List UInt8} {n : Nat} {b : Bool} (hz : Is (omap (Go.Sy.fz true false B 6) args) (some [.lst n (L.map .str) false, .str x])) (hn : n = L.length) (hb : decide (x ∈ L) = b) (hL : L.length < 1000000) : ACall Tryz.prog 58 args B fun c B' => c = .bool b ∧ B' = B := by
  subst hn hb
  exact acall_fresh hz (contains_in L x hL)
theorem containsN_at {B : List Box} {x : List UInt8} : ACall Tryz.prog 58 [.nilS, .str x] B fun c B' => c = .bool false ∧ B' = B := by
  have hi : ∀ {B : List Box} {args : List CV}, Is args [.nilS, .str x] → ACall Tryz.prog 85 args B fun c B' => c = .int .i64 (-1) ∧ B' = B := fun {B args} h => by
    have h : args = _ := h
    subst h
    refine acall_intro mixed Tryz.func85 rfl ca85 (by kernel_rfl) (by rw [Tryz.ntmps85]; simp) ?_
    repeat' (first | (with_reducible first | apply jA | apply jB | apply jC | apply jD | apply jE | apply jF | apply jG | apply jH | apply jI | apply jJ | apply jK | apply jL | apply jM | apply jN | apply jO) | ((with_reducible first | apply jP | apply jQ); rfl) | ((first | ((with_reducible first | apply jR | apply jS | apply jT); rfl; rfl) | (with_reducible first | apply jU | apply jV | apply jW) | ((with_reducible first | apply jX | apply jY | apply jZ); rfl)); all_goals (first | ((with_reducible show Is _ _); exact kE) | ((with_reducible refine fun (hc : (_ : Bool) = _) => ?_); (try simp only [xZ, xY, xP, reduceCtorEq] at hc); (try (have hx : True := hc; clear hx hc)); (try exact kX)) | ((fail_if_success (with_reducible first | show Is _ _ | show ACall _ _ _ _ _)); (try ((with_reducible show _ ∨ _); exact kT))))))
    refine w_loop (fun fr B' => fr 8 = .int .i64 0 ∧ fr 7 = .int .i64 0 ∧ B' = B) (fun fr _ => 0) ?_ ?_
    · exact ⟨by (simp (disch := omega) [go_sem, *]) <;> (try omega), by (simp (disch := omega) [go_sem, *]) <;> (try omega), rfl⟩
    rintro fr B' ⟨h8, h7, rfl⟩
    repeat' (first | (with_reducible first | apply jA | apply jB | apply jC | apply jD | apply jE | apply jF | apply jG | apply jH | apply jI | apply jJ | apply jK | apply jL | apply jM | apply jN | apply jO) | ((with_reducible first | apply jP | apply jQ); rfl) | ((first | ((with_reducible first | apply jR | apply jS | apply jT); rfl; rfl) | (with_reducible first | apply jU | apply jV | apply jW) | ((with_reducible first | apply jX | apply jY | apply jZ); rfl)); all_goals (first | ((with_reducible show Is _ _); exact kE) | ((with_reducible refine fun (hc : (_ : Bool) = _) => ?_); (try simp only [xZ, xY, xP, reduceCtorEq] at hc); (try (have hx : True := hc; clear hx hc)); (try exact kX)) | ((fail_if_success (with_reducible first | show Is _ _ | show ACall _ _ _ _ _)); (try ((with_reducible show _ ∨ _); exact kT))))))
    all_goals exact ⟨rfl, rfl⟩
  refine acall_intro mixed Tryz.func58 rfl ca58 (by kernel_rfl) (by rw [Tryz.ntmps58]; simp) ?_
  repeat' (first | (with_reducible first | apply jA | apply jB | apply jC | apply jD | apply jE | apply jF | apply jG | apply jH | apply jI | apply jJ | apply jK | apply jL | apply jM | apply jN | apply jO) | ((with_reducible first | apply jP | apply jQ); rfl) | ((first | ((with_reducible first | apply jR | apply jS | apply jT); rfl; rfl) | (with_reducible first | apply jU | apply jV | apply jW) | ((with_reducible first | apply jX | apply jY | apply jZ); rfl) | ((with_reducible first | apply kA | apply kB | apply kC); rfl)); all_goals (first | ((with_reducible show Is _ _); exact kE) | ((with_reducible refine fun (hc : (_ : Bool) = _) => ?_); (try simp only [xZ, xY, xP, reduceCtorEq] at hc); (try (have hx : True := hc; clear hx hc)); (try exact kX)) | ((with_reducible show ACall _ _ _ _ _); (first | ((with_reducible apply hi) <;> exact kD))) | ((fail_if_success (with_reducible first | show Is _ _ | show ACall _ _ _ _ _)); (try ((with_reducible show _ ∨ _); exact kT))))))
  exact ⟨rfl, rfl⟩
def pz (K : List UInt8) (port : Int) (pe : CV) (n : Int) (nm : CV) (st : Bool) : Box := ⟨K.map byteC ++ [.int .i64 port, pe, .int .i64 n, nm, .bool st], false⟩
theorem require_at {B : List Box} {args : List CV} {β : Nat} (ha : Is args [.ptr β 0, .bool true]) : ACall Tryz.prog 57 args B fun c B' => c = .tup [] ∧ B' = B := by
  have ha : args = _ := ha
  subst ha
  refine acall_intro mixed Tryz.func57 rfl ca57 (by kernel_rfl) (by rw [Tryz.ntmps57]; simp) ?_
  repeat' (first | (with_reducible first | apply jA | apply jB | apply jC | apply jD | apply jE | apply jF | apply jG | apply jH | apply jI | apply jJ | apply jK | apply jL | apply jM | apply jN | apply jO) | ((with_reducible first | apply jP | apply jQ); rfl) | ((first | ((with_reducible first | apply jR | apply jS | apply jT); rfl; rfl) | (with_reducible first | apply jU | apply jV | apply jW) | ((with_reducible first | apply jX | apply jY | apply jZ); rfl)); all_goals (first | ((with_reducible show Is _ _); exact kE) | ((with_reducible refine fun (hc : (_ : Bool) = _) => ?_); (try simp only [xZ, xY, xP, reduceCtorEq] at hc); (try (have hx : True := hc; clear hx hc)); (try exact kX)) | ((fail_if_success (with_reducible first | show Is _ _ | show ACall _ _ _ _ _)); (try ((with_reducible show _ ∨ _); exact kT))))))
  exact ⟨rfl, rfl⟩
theorem key_at {B : List Box} {args : List CV} {β : Nat} {s K : List UInt8} (ha : Is args [.ptr β 0, .str s]) (hs : s.length < 1073741823) (hK : unkey s = some K) (hl : K.length = 32) : ACall Tryz.prog 86 args B fun c B' => c = .agg (K.map byteC) ∧ B' = B ++ [⟨K.map byteC, false⟩, ⟨K.map byteC, false⟩] := by
  have ha : args = _ := ha
  subst ha
  have hpk : ∀ {B : List Box}, ACall Tryz.prog 105 [.str s] B fun c B' => c = .tup [.agg (K.map byteC), .int .i64 0] ∧ B' = B := by
    intro B
    have := @parseKey_at B s hs
    rw [hK] at this
    exact this
  have hrq : ∀ {B : List Box} {args : List CV}, Is args [.ptr β 0, .bool true] → ACall Tryz.prog 57 args B fun c B' => c = .tup [] ∧ B' = B := require_at
  refine acall_intro mixed Tryz.func86 rfl ca86 (by kernel_rfl) (by rw [Tryz.ntmps86]; simp) ?_
  repeat' (first | (with_reducible first | apply jA | apply jB | apply jC | apply jD | apply jE | apply jF | apply jG | apply jH | apply jI | apply jJ | apply jK | apply jL | apply jM | apply jN | apply jO) | ((with_reducible first | apply jP | apply jQ); rfl) | ((first | ((with_reducible first | apply jR | apply jS | apply jT); rfl; rfl) | (with_reducible first | apply jU | apply jV | apply jW) | ((with_reducible first | apply jX | apply jY | apply jZ); rfl) | ((with_reducible first | apply kA | apply kB | apply kC); rfl)); all_goals (first | ((with_reducible show Is _ _); exact kE_ZB0) | ((with_reducible refine fun (hc : (_ : Bool) = _) => ?_); (try simp only [xZ, xY, xP, reduceCtorEq] at hc); (try (have hx : True := hc; clear hx hc)); (try exact kX)) | ((with_reducible show ACall _ _ _ _ _); (first | ((with_reducible apply hpk) <;> exact kD_ZB0) | ((with_reducible apply hrq) <;> exact kD_ZB0))) | ((fail_if_success (with_reducible first | show Is _ _ | show ACall _ _ _ _ _)); (try ((with_reducible show _ ∨ _); exact kT))))))
  exact ⟨rfl, rfl⟩
theorem number_at {B : List Box} {args : List CV} {β : Nat} {s : List UInt8} (ha : Is args [.ptr β 0, .str s]) (hs : s.length < 1073741823) (hd : decOk 10 s = true) (hv : decV s ≤ 9999999999) : ACall Tryz.prog 87 args B fun c B' => c = .int .i64 (decV s) ∧ B' = B := by
  have ha : args = _ := ha
  subst ha
  have hde : ∀ {B : List Box}, ACall Tryz.prog 43 [.str s, .int .i64 9999999999] B fun c B' => c = .tup [.int .i64 (decV s), .bool true] ∧ B' = B := by
    intro B
    have := @decimal_at B s 9999999999 (by omega)
    have e : decR 10 s = decV s := by rw [decR, if_pos hd]
    rw [e, hd, decide_eq_true (by omega : (decV s : Int) ≤ 9999999999)] at this
    exact this
  have hrq : ∀ {B : List Box} {args : List CV}, Is args [.ptr β 0, .bool true] → ACall Tryz.prog 57 args B fun c B' => c = .tup [] ∧ B' = B := require_at
  generalize decV s = v at *
  refine acall_intro mixed Tryz.func87 rfl ca87 (by kernel_rfl) (by rw [Tryz.ntmps87]; simp) ?_
  repeat' (first | (with_reducible first | apply jA | apply jB | apply jC | apply jD | apply jE | apply jF | apply jG | apply jH | apply jI | apply jJ | apply jK | apply jL | apply jM | apply jN | apply jO) | ((with_reducible first | apply jP | apply jQ); rfl) | ((first | ((with_reducible first | apply jR | apply jS | apply jT); rfl; rfl) | (with_reducible first | apply jU | apply jV | apply jW) | ((with_reducible first | apply jX | apply jY | apply jZ); rfl) | ((with_reducible first | apply kA | apply kB | apply kC); rfl)); all_goals (first | ((with_reducible show Is _ _); exact kE) | ((with_reducible refine fun (hc : (_ : Bool) = _) => ?_); (try simp only [xZ, xY, xP, reduceCtorEq] at hc); (try (have hx : True := hc; clear hx hc)); (try exact kX)) | ((with_reducible show ACall _ _ _ _ _); (first | ((with_reducible apply hde) <;> exact kD) | ((with_reducible apply hrq) <;> exact kD))) | ((fail_if_success (with_reducible first | show Is _ _ | show ACall _ _ _ _ _)); (try ((with_reducible show _ ∨ _); exact kT))))))
  exact ⟨rfl, rfl⟩
end Go.Proofs.YtdceppjoipoohaaGreatDoor
end
section
namespace Go.Proofs.YtdceppjoipoohaaGreatDoor
open Go Go.Sy
set_option linter.all false
set_option maxRecDepth 100000
set_option maxHeartbeats 4000000
theorem kE_ZC0 {α : Type} {x y : α} (h : Is x y := by first | ((try simp (disch := first | omega | (simp only [yZ, yB] <;> omega) | fail) [go_sem, yY, *, sPriv, bx_get0, bx_get, bx_set0, bx_set, if_pos, if_neg, -List.map_take, -List.map_drop, -List.map_append, -List.map_reverse]); exact rfl) | fail) : Is x y := h
theorem kD_ZC0 {p : Prop} (h : p := by (first | omega | assumption | exact rfl | ((simp (disch := first | omega | (simp only [yZ, yB] <;> omega) | fail) [go_sem, yY, *, sPriv, bx_get0, bx_get, bx_set0, bx_set, -List.map_take, -List.map_drop, -List.map_append, -List.map_reverse]) <;> (first | done | omega | exact rfl)) | fail)) : p := h
theorem kE_ZC1 {α : Type} {x y : α} (h : Is x y := by first | ((try simp (disch := first | omega | (simp only [yZ, yB] <;> omega) | fail) [go_sem, yY, *, sPort, bx_get0, bx_get, bx_set0, bx_set, if_pos, if_neg, -List.map_take, -List.map_drop, -List.map_append, -List.map_reverse]); exact rfl) | fail) : Is x y := h
theorem kD_ZC1 {p : Prop} (h : p := by (first | omega | assumption | exact rfl | ((simp (disch := first | omega | (simp only [yZ, yB] <;> omega) | fail) [go_sem, yY, *, sPort, bx_get0, bx_get, bx_set0, bx_set, -List.map_take, -List.map_drop, -List.map_append, -List.map_reverse]) <;> (first | done | omega | exact rfl)) | fail)) : p := h
theorem kE_ZC2 {α : Type} {x y : α} (h : Is x y := by first | ((try simp (disch := first | omega | (simp only [yZ, yB] <;> omega) | fail) [go_sem, yY, *, sIface, bx_get0, bx_get, bx_set0, bx_set, if_pos, if_neg, -List.map_take, -List.map_drop, -List.map_append, -List.map_reverse]); exact rfl) | fail) : Is x y := h
theorem kD_ZC2 {p : Prop} (h : p := by (first | omega | assumption | exact rfl | ((simp (disch := first | omega | (simp only [yZ, yB] <;> omega) | fail) [go_sem, yY, *, sIface, bx_get0, bx_get, bx_set0, bx_set, -List.map_take, -List.map_drop, -List.map_append, -List.map_reverse]) <;> (first | done | omega | exact rfl)) | fail)) : p := h
def sIface : List UInt8 := [91, 73, 110, 116, 101, 114, 102, 97, 99, 101, 93]
def sPriv : List UInt8 := [80, 114, 105, 118, 97, 116, 101, 75, 101, 121]
def sPort : List UInt8 := [76, 105, 115, 116, 101, 110, 80, 111, 114, 116]
theorem valueK_at {B : List Box} {args : List CV} {β : Nat} {s K K' : List UInt8} {port n : Int} {nm : CV} {st : Bool} (ha : Is args [.ptr β 0, .str sPriv, .str s]) (hB : B[β]? = some (pz K port .nilS n nm st)) (hK : K.length = 32) (hs : s.length < 1073741823) (hk : unkey s = some K') (hl : K'.length = 32) : ACall Tryz.prog 59 args B fun c B' => c = .tup [] ∧ B' = B.set β (pz K' port .nilS n nm st) ++ [⟨K'.map byteC, false⟩, ⟨K'.map byteC, false⟩] := by
  have ha : args = _ := ha
  subst ha
  rw [pz] at hB
  obtain ⟨p1, p2, p3, p4, p5, p6, p7, p8, p9, p10, p11, p12, p13⟩ := bx_pack hB
  have hky : ∀ {B : List Box} {args : List CV}, Is args [.ptr β 0, .str s] → ACall Tryz.prog 86 args B fun c B' => c = .agg (K'.map byteC) ∧ B' = B ++ [⟨K'.map byteC, false⟩, ⟨K'.map byteC, false⟩] := fun h => key_at h hs hk hl
  refine acall_intro mixed Tryz.func59 rfl ca59 (by kernel_rfl) (by rw [Tryz.ntmps59]; simp) ?_
  repeat' (first | (with_reducible first | apply jA | apply jB | apply jC | apply jD | apply jE | apply jF | apply jG | apply jH | apply jI | apply jJ | apply jK | apply jL | apply jM | apply jN | apply jO) | ((with_reducible first | apply jP | apply jQ); rfl) | ((first | ((with_reducible first | apply jR | apply jS | apply jT); rfl; rfl) | (with_reducible first | apply jU | apply jV | apply jW) | ((with_reducible first | apply jX | apply jY | apply jZ); rfl) | ((with_reducible first | apply kA | apply kB | apply kC); rfl)); all_goals (first | ((with_reducible show Is _ _); exact kE_ZC0) | ((with_reducible refine fun (hc : (_ : Bool) = _) => ?_); (try simp only [xZ, xY, xP, reduceCtorEq] at hc); (try (have hx : True := hc; clear hx hc)); (try exact kX)) | ((with_reducible show ACall _ _ _ _ _); (first | ((with_reducible apply hky) <;> exact kD_ZC0))) | ((fail_if_success (with_reducible first | show Is _ _ | show ACall _ _ _ _ _)); (try ((with_reducible show _ ∨ _); exact kT))))))
  exact ⟨rfl, rfl⟩
theorem valueP_at {B : List Box} {args : List CV} {β : Nat} {s K : List UInt8} {port n : Int} {nm : CV} {st : Bool} (ha : Is args [.ptr β 0, .str sPort, .str s]) (hB : B[β]? = some (pz K port .nilS n nm st)) (hK : K.length = 32) (hs : s.length < 1073741823) (hd : decOk 10 s = true) (hv : decV s ≤ 9999999999) : ACall Tryz.prog 59 args B fun c B' => c = .tup [] ∧ B' = B.set β (pz K (decV s) .nilS n nm st) := by
  have ha : args = _ := ha
  subst ha
  rw [pz] at hB
  obtain ⟨p1, p2, p3, p4, p5, p6, p7, p8, p9, p10, p11, p12, p13⟩ := bx_pack hB
  have hnu : ∀ {B : List Box} {args : List CV}, Is args [.ptr β 0, .str s] → ACall Tryz.prog 87 args B fun c B' => c = .int .i64 (decV s) ∧ B' = B := fun h => number_at h hs hd hv
  generalize decV s = v at *
  refine acall_intro mixed Tryz.func59 rfl ca59 (by kernel_rfl) (by rw [Tryz.ntmps59]; simp) ?_
  repeat' (first | (with_reducible first | apply jA | apply jB | apply jC | apply jD | apply jE | apply jF | apply jG | apply jH | apply jI | apply jJ | apply jK | apply jL | apply jM | apply jN | apply jO) | ((with_reducible first | apply jP | apply jQ); rfl) | ((first | ((with_reducible first | apply jR | apply jS | apply jT); rfl; rfl) | (with_reducible first | apply jU | apply jV | apply jW) | ((with_reducible first | apply jX | apply jY | apply jZ); rfl) | ((with_reducible first | apply kA | apply kB | apply kC); rfl)); all_goals (first | ((with_reducible show Is _ _); exact kE_ZC1) | ((with_reducible refine fun (hc : (_ : Bool) = _) => ?_); (try simp only [xZ, xY, xP, reduceCtorEq] at hc); (try (have hx : True := hc; clear hx hc)); (try exact kX)) | ((with_reducible show ACall _ _ _ _ _); (first | ((with_reducible apply hnu) <;> exact kD_ZC1))) | ((fail_if_success (with_reducible first | show Is _ _ | show ACall _ _ _ _ _)); (try ((with_reducible show _ ∨ _); exact kT))))))
  exact ⟨rfl, rfl⟩
theorem readI_at {B : List Box} {args : List CV} {β : Nat} {s K : List UInt8} {port n : Int} {pe nm : CV} (ha : Is args [.ptr β 0, .str s]) (hB : B[β]? = some (pz K port pe n nm false)) (hK : K.length = 32) (hs : s.length < 1073741823) (ht : trimT s = sIface) : ACall Tryz.prog 34 args B fun c B' => c = .tup [] ∧ B' = B.set β (pz K port pe n nm true) := by
  have ha : args = _ := ha
  subst ha
  rw [pz] at hB
  obtain ⟨p1, p2, p3, p4, p5, p6, p7, p8, p9, p10, p11, p12, p13⟩ := bx_pack hB
  have htr : ∀ {B : List Box} {args : List CV}, Is (omap (Go.Sy.fz true false B 6) args) (some [.str s, .str [32, 9]]) → ACall Tryz.prog 56 args B fun r B' => r = .str sIface ∧ B' = B := fun h => by
    rw [← ht]; exact trim_at h (by omega)
  have hrq : ∀ {B : List Box} {args : List CV}, Is args [.ptr β 0, .bool true] → ACall Tryz.prog 57 args B fun c B' => c = .tup [] ∧ B' = B := require_at
  clear ht
  refine acall_intro mixed Tryz.func34 rfl ca34 (by kernel_rfl) (by rw [Tryz.ntmps34]; simp) ?_
  repeat' (first | (with_reducible first | apply jA | apply jB | apply jC | apply jD | apply jE | apply jF | apply jG | apply jH | apply jI | apply jJ | apply jK | apply jL | apply jM | apply jN | apply jO) | ((with_reducible first | apply jP | apply jQ); rfl) | ((first | ((with_reducible first | apply jR | apply jS | apply jT); rfl; rfl) | (with_reducible first | apply jU | apply jV | apply jW) | ((with_reducible first | apply jX | apply jY | apply jZ); rfl) | ((with_reducible first | apply kA | apply kB | apply kC); rfl)); all_goals (first | ((with_reducible show Is _ _); exact kE_ZC2) | ((with_reducible refine fun (hc : (_ : Bool) = _) => ?_); (try simp only [xZ, xY, xP, reduceCtorEq] at hc); (try (have hx : True := hc; clear hx hc)); (try exact kX)) | ((with_reducible show ACall _ _ _ _ _); (first | ((with_reducible apply htr) <;> exact kD_ZC2) | ((with_reducible apply hrq) <;> exact kD_ZC2))) | ((fail_if_success (with_reducible first | show Is _ _ | show ACall _ _ _ _ _)); (try ((with_reducible show _ ∨ _); exact kT))))))
  exact ⟨rfl, rfl⟩
theorem readC_at {B : List Box} {args : List CV} {β : Nat} {s r : List UInt8} (ha : Is args [.ptr β 0, .str s]) (hs : s.length < 1073741823) (ht : trimT s = 35 :: r) : ACall Tryz.prog 34 args B fun c B' => c = .tup [] ∧ B' = B := by
  have ha : args = _ := ha
  subst ha
  have htr : ∀ {B : List Box} {args : List CV}, Is (omap (Go.Sy.fz true false B 6) args) (some [.str s, .str [32, 9]]) → ACall Tryz.prog 56 args B fun c B' => c = .str (35 :: r) ∧ B' = B := fun h => by
    rw [← ht]; exact trim_at h (by omega)
  clear ht
  refine acall_intro mixed Tryz.func34 rfl ca34 (by kernel_rfl) (by rw [Tryz.ntmps34]; simp) ?_
  repeat' (first | (with_reducible first | apply jA | apply jB | apply jC | apply jD | apply jE | apply jF | apply jG | apply jH | apply jI | apply jJ | apply jK | apply jL | apply jM | apply jN | apply jO) | ((with_reducible first | apply jP | apply jQ); rfl) | ((first | ((with_reducible first | apply jR | apply jS | apply jT); rfl; rfl) | (with_reducible first | apply jU | apply jV | apply jW) | ((with_reducible first | apply jX | apply jY | apply jZ); rfl) | ((with_reducible first | apply kA | apply kB | apply kC); rfl)); all_goals (first | ((with_reducible show Is _ _); exact kE) | ((with_reducible refine fun (hc : (_ : Bool) = _) => ?_); (try simp only [xZ, xY, xP, reduceCtorEq] at hc); (try (have hx : True := hc; clear hx hc)); (try exact kX)) | ((with_reducible show ACall _ _ _ _ _); (first | ((with_reducible apply htr) <;> exact kD))) | ((fail_if_success (with_reducible first | show Is _ _ | show ACall _ _ _ _ _)); (try ((with_reducible show _ ∨ _); exact kT))))))
  exact ⟨rfl, rfl⟩
def sPeer : List UInt8 := [91, 80, 101, 101, 114, 93]
end Go.Proofs.YtdceppjoipoohaaGreatDoor
end
section
namespace Go.Sy
set_option linter.all false
open Go.RowKit (Below)
section
variable {P : Program} {N n : Nat} {I0 I : Nat → Nat → Prop} {μ0 μ : List (List Place)} {B : List Box} {w0 w : World} {o : Oper} {a : Act} {fr : Fr} {ops : Array Oper}
theorem AWc_defer {id : Nat} {l : List Oper} {f : Operand} {ts : Array TypeId} {ty : TypeId} {pos : String} {after : Array Edge} {Q : Exit → Fr → List Box → Prop} {ops : List Oper} (he : ops = l ++ [⟨none, .defer { callee := .value f, args := #[], argTypes := ts }, ty, pos, after, none⟩]) (n1 : l.all noDefer = true)
    (h : WPo P n ops.toArray (fun fr1 B1 => (∃ g caps, opv fr1 f = .fn (.func g) [] caps ∧ (g, caps.length) ∈ quietD) ∧ Q .normal fr1 B1) l fr B) : AWc P n (.region id ops.toArray false) Q fr B := by
  intro N I0 μ0 w0 I μ w a Q' hs hq
  refine (wpIn_wide (n := 0)).1 (wpIn_region_list (F := freeF none) ?_)
  rw [show ops.toArray.toList = l ++ [⟨none, .defer { callee := .value f, args := #[], argTypes := ts }, ty, pos, after, none⟩] by simpa using he]
  refine WPo_in [_] l fr B n1 h I μ w a hs fun fr1 B1 a1 I1 μ1 w1 hp hs1 => ?_
  obtain ⟨⟨g, caps, hf, hg⟩, hQ⟩ := hp
  have hv := opv_rel hs1.frame f
  rw [hf] at hv
  obtain ⟨vs, us, hv1, hv2, hv3⟩ := hv.fn_inv
  rw [R.nil_iff] at hv2
  subst hv2
  unfold wpListIn
  rw [want_sound (o := ⟨none, .defer { callee := .value f, args := #[], argTypes := ts }, ty, pos, after, none⟩) (t := true) hs1.frame rfl, if_pos rfl]
  refine ⟨fun _ _ => trivial, ?_⟩
  rw [show (freeF none).round = none from rfl, Oper.semAt_none]
  have hrun : (execOp a1.eval ⟨none, .defer { callee := .value f, args := #[], argTypes := ts }, ty, pos, after, none⟩).run P w1 = .ok (.defer { target := .fn (.func g) us.toArray, args := #[] }) w1 := by
    simp [execOp, resolve, hv1, Deferred.ofValue]
  rw [hrun, Oper.uponIn_defer]
  unfold wpListIn
  refine hq _ _ _ _ _ _ _ hQ ⟨hs1.size, hs1.defers.quiet ⟨g, us.toArray, rfl, ?_⟩, hs1.frame, hs1.box, hs1.ext, hs1.below⟩
  have := hv3.len
  rw [List.size_toArray, ← this]
  exact hg
theorem acall_seq2 {f : FuncId} {fn : Func} {x u v : Code} {args : List CV} {B : List Box} {Q : CV → List Box → Prop} (hm : Fit P) (hf : P.funcs[f]? = some fn) (hb : fn.body = some (.seq x (.seq u v))) (hc : callable P f = true)
    (hd : drawsOk x = true ∧ drawsOk v = true) (hn : args.length ≤ fn.ntmps) (Iv : Fr → List Box → Prop)
    (h1 : WPc P fn.ntmps x (thenC Iv fun _ _ _ => False) (frOf args) B)
    (h2 : ∀ fr B, Iv fr B → AWc P fn.ntmps u (thenC (fun fr B => WPc P fn.ntmps v (retC P fn.results.toList Q) fr B) fun _ _ _ => False) fr B) : ACall P f args B Q := by
  refine ⟨hc, fun N I μ w vs hB hv => call_intro hm.quiet hf hb hB hv hn fun a Q' hst hq => ?_⟩
  refine wp_seq (WPc_sound hm.mixed x _ _ _ hd.1 h1 N I μ w I μ w a _ hst fun ex fr1 B1 a1 I1 μ1 w1 hQ1 hs1 => ?_)
  cases ex with
  | normal =>
    refine wp_seq (h2 _ _ hQ1 N I μ w I1 μ1 w1 a1 _ hs1 fun ex fr4 B4 a4 I4 μ4 w4 hQ4 hs4 => ?_)
    cases ex with
    | normal => exact WPc_sound hm.mixed v _ _ _ hd.2 hQ4 N I μ w I4 μ4 w4 a4 _ hs4 hq
    | _ => exact hQ4.elim
  | _ => exact hQ1.elim
end
end Go.Sy
end
section
namespace Go.Proofs.YtdceppjoipoohaaGreatDoor
open Go Go.Sy
set_option linter.all false
set_option maxRecDepth 100000
set_option maxHeartbeats 4000000
open Go.RowKit (Below)
theorem trimSuffix_at {B : List Box} {s t : List UInt8} (h : s.length ≤ 4611686018427387904) : ACall Tryz.prog 55 [.str s, .str t] B fun c B' => c = .str (Go.Lib.trimSuffix s t) ∧ B' = B :=
  acall_of_calls (Q := fun c => c = .str (Go.Lib.trimSuffix s t)) (by kernel_rfl) fun I μ w vs ht hI hv => by
    obtain ⟨ws, rfl, hv2⟩ := R.str_cons hv
    obtain ⟨ws, rfl, hv3⟩ := R.str_cons hv2
    obtain rfl := R.none hv3
    refine (Tryz.strings_TrimSuffix ⟨s.toArray⟩ ⟨t.toArray⟩ w (by show s.length ≤ _; omega)).mono fun e w' ⟨he, hw⟩ => ?_
    subst hw
    exact ⟨_, _, he, by simp, Below.same, .str _ (.nil _)⟩
end Go.Proofs.YtdceppjoipoohaaGreatDoor
end
section
namespace Go.Proofs.YtdceppjoipoohaaGreatDoor
open Go Go.Sy
set_option linter.all false
set_option maxRecDepth 100000
set_option maxHeartbeats 4000000
def z32 : List UInt8 := List.replicate 32 0
def cfgC (K : List UInt8) (port : Int) (pe : CV) : CV := .agg (K.map byteC ++ [.int .i64 port, pe])
end Go.Proofs.YtdceppjoipoohaaGreatDoor
end
section
namespace Go.Proofs.YtdceppjoipoohaaGreatDoor
open Go Go.Sy
set_option linter.all false
set_option maxRecDepth 100000
set_option maxHeartbeats 4000000
theorem textS_len (k : List UInt8) : (textS k).length = 44 := by simp [textS, textP_len]
theorem byte_ext {x y : UInt8} (h : ∀ r, r < 8 → x.toNat / 2 ^ r % 2 = y.toNat / 2 ^ r % 2) : x = y := by
  apply UInt8.toNat_inj.1
  apply Nat.eq_of_testBit_eq
  intro i
  rcases Nat.lt_or_ge i 8 with hi | hi
  · have := h i hi
    rw [Nat.testBit_eq_decide_div_mod_eq, Nat.testBit_eq_decide_div_mod_eq, this]
  · have hx := x.toNat_lt; have hy := y.toNat_lt
    have hp : (2 : Nat) ^ 8 ≤ 2 ^ i := Nat.pow_le_pow_right (by omega) hi
    rw [Nat.testBit_lt_two_pow (by omega), Nat.testBit_lt_two_pow (by omega)]
theorem key_ext {a b : List UInt8} (ha : a.length = 32) (hb : b.length = 32) (h : ∀ m, m < 256 → bitAt a m = bitAt b m) : a = b := by
  apply List.ext_getElem (by omega)
  intro i h1 h2
  apply byte_ext
  intro r hr
  have := h (8 * i + (7 - r)) (by omega)
  unfold bitAt at this
  rw [show (8 * i + (7 - r)) / 8 = i by omega, show 7 - (8 * i + (7 - r)) % 8 = r by omega, List.getD_eq_getElem?_getD, List.getElem?_eq_getElem h1, List.getD_eq_getElem?_getD, List.getElem?_eq_getElem h2] at this
  exact this
theorem or_bit {x : UInt8} {r q : Nat} (hr : r < 8) (hq : q < 8) : (x ||| pw r).toNat / 2 ^ q % 2 = if q = r then 1 else x.toNat / 2 ^ q % 2 := by
  have e : ∀ n : Nat, n / 2 ^ q % 2 = if n.testBit q then 1 else 0 := by
    intro n
    rw [Nat.testBit_eq_decide_div_mod_eq]
    have := Nat.mod_lt (n / 2 ^ q) (show 0 < 2 by omega)
    by_cases h : n / 2 ^ q % 2 = 1 <;> simp [h]
    omega
  rw [e, e, UInt8.toNat_or, pw_toNat (by omega), Nat.testBit_or, Nat.testBit_two_pow]
  by_cases h : q = r
  · subst h; simp
  · have : ¬ r = q := fun e => h e.symm
    simp [h, this]
theorem keyP_bit (f : Nat → Nat) (hf : ∀ m, f m < 2) (n m : Nat) (hm : m < 256) : bitAt (keyP f n) m = if m < n then f m else 0 := by
  induction n with
  | zero =>
    simp only [keyP, bitAt, List.getD_eq_getElem?_getD, List.getElem?_replicate]
    split <;> simp
  | succ n ih =>
    have hl := keyP_len f n
    simp only [keyP]
    split
    · rename_i hn
      by_cases hb : m / 8 = n / 8
      · have e : bitAt ((keyP f n).set (n / 8) ((keyP f n).getD (n / 8) 0 ||| pw (7 - n % 8))) m = ((keyP f n).getD (n / 8) 0 ||| pw (7 - n % 8)).toNat / 2 ^ (7 - m % 8) % 2 := by
          rw [bitAt, hb, List.getD_eq_getElem?_getD, List.getElem?_set_self (by omega), Option.getD_some]
        rw [e, or_bit (by omega) (by omega)]
        by_cases hmn : m = n
        · subst hmn; rw [if_pos rfl, if_pos (by omega), hn.2]
        · rw [if_neg (by omega)]
          have : (keyP f n).getD (n / 8) 0 = (keyP f n).getD (m / 8) 0 := by rw [hb]
          rw [this]
          have ih2 : ((keyP f n).getD (m / 8) 0).toNat / 2 ^ (7 - m % 8) % 2 = _ := ih
          rw [ih2]
          by_cases h : m < n
          · rw [if_pos h, if_pos (by omega)]
          · rw [if_neg h, if_neg (by omega)]
      · have e : bitAt ((keyP f n).set (n / 8) ((keyP f n).getD (n / 8) 0 ||| pw (7 - n % 8))) m = bitAt (keyP f n) m := by
          rw [bitAt, bitAt, List.getD_eq_getElem?_getD, List.getElem?_set_ne (by omega), ← List.getD_eq_getElem?_getD]
        rw [e, ih]
        by_cases h : m < n
        · rw [if_pos h, if_pos (by omega)]
        · rw [if_neg h, if_neg (by rintro h2; exact hb (by rw [show m = n by omega]))]
    · rename_i hn
      rw [ih]
      by_cases h : m < n
      · rw [if_pos h, if_pos (by omega)]
      · by_cases h2 : m < n + 1
        · have : m = n := by omega
          subst this
          rw [if_neg h, if_pos h2]
          have := hf m
          have : ¬ f m = 1 := fun e => hn ⟨hm, e⟩
          omega
        · rw [if_neg h, if_neg h2]
theorem valV_mk {v : Nat} (h : v < 64) : valV (mk64 v) = some v := by
  have : ∀ k : Fin 64, valV (mk64 k.1) = some k.1 := by decide
  exact this ⟨v, h⟩
theorem six_bits (k : List UInt8) (i j : Nat) (hj : j < 6) : sixP k i 6 / 2 ^ (5 - j) % 2 = bitAt k (6 * i + j) := by
  have h0 := bitAt_lt k (6 * i + 0); have h1 := bitAt_lt k (6 * i + 1); have h2 := bitAt_lt k (6 * i + 2); have h3 := bitAt_lt k (6 * i + 3); have h4 := bitAt_lt k (6 * i + 4); have h5 := bitAt_lt k (6 * i + 5)
  simp only [sixP]
  rcases (show j = 0 ∨ j = 1 ∨ j = 2 ∨ j = 3 ∨ j = 4 ∨ j = 5 by omega) with rfl | rfl | rfl | rfl | rfl | rfl <;> simp only [Nat.sub_zero, Nat.reduceSub, Nat.reducePow] <;> omega
theorem textS_get (k : List UInt8) {i : Nat} (h : i < 43) : (textS k).getD i 0 = mk64 (sixP k i 6) := by
  rw [textS, List.getD_eq_getElem?_getD, List.getElem?_append_left (by rw [textP_len]; exact h), textP, List.getElem?_map, List.getElem?_range h]; rfl
theorem textS_last (k : List UInt8) : (textS k).getD 43 0 = 61 := by
  rw [textS, List.getD_eq_getElem?_getD, List.getElem?_append_right (by rw [textP_len]; omega), textP_len]; rfl
theorem six_lt (k : List UInt8) (i : Nat) : sixP k i 6 < 64 := sixP_lt k i 6
theorem fbit_text (k : List UInt8) {n : Nat} (h : n < 258) : fbit (textS k) n = bitAt k n := by
  rw [fbit, textS_get k (by omega), valV_mk (six_lt _ _), Option.getD_some, six_bits k _ _ (by omega), Nat.div_add_mod]
theorem bitAt_out {k : List UInt8} (hk : k.length = 32) {n : Nat} (h : 256 ≤ n) : bitAt k n = 0 := by
  rw [bitAt, List.getD_eq_getElem?_getD, List.getElem?_eq_none (by omega)]; simp
theorem fbit_lt (s : List UInt8) (n : Nat) : fbit s n < 2 := Nat.mod_lt _ (by omega)
theorem unkey_text {k : List UInt8} (hk : k.length = 32) : unkey (textS k) = some k := by
  rw [unkey, if_pos ⟨textS_len k, textS_last k, fun i hi => by rw [textS_get k hi, valV_mk (six_lt _ _)]; rfl, by rw [fbit_text k (by omega), bitAt_out hk (by omega)], by rw [fbit_text k (by omega), bitAt_out hk (by omega)]⟩]
  congr 1
  apply key_ext (keyP_len _ _) hk
  intro m hm
  rw [keyP_bit _ (fbit_lt _) _ _ hm, if_pos (by omega), fbit_text k (by omega)]
end Go.Proofs.YtdceppjoipoohaaGreatDoor
end
section
namespace Go.Proofs.YtdceppjoipoohaaGreatDoor
open Go Go.Sy
set_option linter.all false
set_option maxRecDepth 100000
set_option maxHeartbeats 4000000
def oct (x : List UInt8) : Bool := decOk 3 x && decide (decV x ≤ 255)
theorem foldl_ge : ∀ (l : List UInt8) (n : Nat), n * 10 ^ l.length ≤ l.foldl (fun n c => 10 * n + (c.toNat - 48)) n
  | [], n => by simp
  | c :: l, n => by
    have := foldl_ge l (10 * n + (c.toNat - 48))
    rw [List.foldl_cons, List.length_cons, Nat.pow_succ]
    refine Nat.le_trans ?_ this
    have h : n * (10 ^ l.length * 10) = (10 * n) * 10 ^ l.length := by rw [Nat.mul_comm (10 ^ l.length), ← Nat.mul_assoc, Nat.mul_comm n]
    rw [h]
    exact Nat.mul_le_mul_right _ (by omega)
theorem oct_eq (x : List UInt8) : (decOk 10 x && decide ((decR 10 x : Int) ≤ 255)) = oct x := by
  by_cases h : x.length ≤ 3
  · have e : decOk 10 x = decOk 3 x := by
      have h10 : x.length ≤ 10 := by omega
      simp [decOk, headOk, h, h10]
    rw [oct, ← e]
    cases hd : decOk 10 x with
    | false => simp
    | true => simp [decR, hd]; omega
  · have e3 : decOk 3 x = false := by simp [decOk, headOk, h]
    rw [oct, e3, Bool.false_and, Bool.and_eq_false_iff]
    cases hd : decOk 10 x with
    | false => exact .inl rfl
    | true =>
      right
      rw [decR, if_pos hd]
      cases x with
      | nil => simp at h
      | cons c x =>
        simp only [decOk, Bool.and_eq_true, List.all_cons] at hd
        have hc : 48 ≤ c.toNat ∧ c.toNat ≤ 57 := by simpa [isDig] using hd.2.1
        have hne : c ≠ 48 := by
          intro hc48
          have := hd.1
          simp [headOk, hc48] at this
          have hl : 1 < (c :: x).length := by simp; simp at h; omega
          simp at h
          have := this.2
          subst this
          simp at h
        have hc1 : 49 ≤ c.toNat := by
          rcases Nat.lt_or_ge c.toNat 49 with h1 | h1
          · exact absurd (UInt8.toNat_inj.1 (by show c.toNat = 48; omega)) hne
          · exact h1
        have hge := foldl_ge x (10 * 0 + (c.toNat - 48))
        have hp : 10 ^ 3 ≤ 10 ^ x.length := Nat.pow_le_pow_right (by decide) (by simp at h; omega)
        have : 1 * 10 ^ x.length ≤ (10 * 0 + (c.toNat - 48)) * 10 ^ x.length := Nat.mul_le_mul_right _ (by omega)
        have hv : decV (c :: x) = x.foldl (fun n c => 10 * n + (c.toNat - 48)) (10 * 0 + (c.toNat - 48)) := rfl
        rw [hv]
        simp only [decide_eq_false_iff_not]
        omega
def a4 (L : List (List UInt8)) (j : Nat) : List UInt8 := (L.take j).map (fun x => UInt8.ofNat (decV x)) ++ List.replicate (16 - j) 0
def p4 (L : List (List UInt8)) : Option (Bool × List UInt8) := if L.all oct then some (false, a4 L 4) else none
def rA (o : Option (Bool × List UInt8)) : CV := match o with | some (six, A) => .tup [addrC six A, .int .i64 0] | none => .tup [addrC false z16, .int .i64 5]
theorem a4_set {L : List (List UInt8)} {j : Nat} (hL : L.length = 4) (hj : j < 4) : (a4 L j).set j (UInt8.ofNat (decV (L[j]'(by omega)))) = a4 L (j + 1) := by
  have e : 16 - j = (16 - (j + 1)) + 1 := by omega
  have hl : ((L.take j).map fun x => UInt8.ofNat (decV x)).length = j := by rw [List.length_map, List.length_take]; omega
  rw [a4, a4, List.set_append_right _ _ (by omega), hl, Nat.sub_self, e, List.replicate_succ, List.set_cons_zero, List.take_succ_eq_append_getElem (by omega), List.map_append, List.append_assoc]
  rfl
theorem a4_len {L : List (List UInt8)} {j : Nat} (hL : L.length = 4) (hj : j ≤ 4) : (a4 L j).length = 16 := by simp [a4, hL]; omega
def a6 (L : List (List UInt8)) (j : Nat) : List UInt8 := (L.take j).flatMap (fun x => [UInt8.ofNat (hexV x / 256), UInt8.ofNat (hexV x)]) ++ List.replicate (16 - 2 * j) 0
def p6 (L : List (List UInt8)) : Option (Bool × List UInt8) := if L.all hexOk then some (true, a6 L 8) else none
theorem fm_len (L : List (List UInt8)) : (L.flatMap (fun x => [UInt8.ofNat (hexV x / 256), UInt8.ofNat (hexV x)])).length = 2 * L.length := by
  induction L with
  | nil => rfl
  | cons x xs ih => rw [List.flatMap_cons, List.length_append, ih]; simp; omega
theorem a6_len {L : List (List UInt8)} {j : Nat} (hL : L.length = 8) (hj : j ≤ 8) : (a6 L j).length = 16 := by
  rw [a6, List.length_append, fm_len, List.length_take, List.length_replicate]; omega
theorem a6_set {L : List (List UInt8)} {j : Nat} (hL : L.length = 8) (hj : j < 8) : ((a6 L j).set (2 * j) (UInt8.ofNat (hexV (L[j]'(by omega)) / 256))).set (2 * j + 1) (UInt8.ofNat (hexV (L[j]'(by omega)))) = a6 L (j + 1) := by
  have e : 16 - 2 * j = (16 - 2 * (j + 1)) + 1 + 1 := by omega
  have hl : ((L.take j).flatMap (fun x => [UInt8.ofNat (hexV x / 256), UInt8.ofNat (hexV x)])).length = 2 * j := by rw [fm_len, List.length_take]; omega
  rw [a6, a6, List.take_succ_eq_append_getElem (by omega), List.flatMap_append]
  generalize (L.take j).flatMap (fun x => [UInt8.ofNat (hexV x / 256), UInt8.ofNat (hexV x)]) = F at *
  rw [List.set_append_right _ _ (by omega), hl, Nat.sub_self, e, List.replicate_succ, List.set_cons_zero, List.set_append_right _ _ (by omega), hl, show 2 * j + 1 - 2 * j = 1 by omega, List.replicate_succ]
  simp
end Go.Proofs.YtdceppjoipoohaaGreatDoor
end
