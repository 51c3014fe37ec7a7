/- Lemmas and definitions of this claim (own texts, joined by a program; what the claim does not use is left out). -/
import Derived.Test.YtdceppjoipoohaaDoorCc7
section
namespace Go.Proofs.YtdceppjoipoohaaDoor
open Go Go.Sy
set_option linter.all false
set_option maxRecDepth 100000
set_option maxHeartbeats 4000000
theorem kE_GJ0 {α : Type} {x y : α} (h : Is x y := by first | ((try simp (disch := first | omega | (simp only [yZ, yB] <;> omega) | fail) [go_sem, yY, *, cons_get1, cons_take1, cons_drop1, if_pos, if_neg, -List.map_take, -List.map_drop, -List.map_append, -List.map_reverse]); exact rfl) | fail) : Is x y := h
theorem kD_GJ0 {p : Prop} (h : p := by (first | omega | assumption | exact rfl | ((simp (disch := first | omega | (simp only [yZ, yB] <;> omega) | fail) [go_sem, yY, *, cons_get1, cons_take1, cons_drop1, -List.map_take, -List.map_drop, -List.map_append, -List.map_reverse]) <;> (first | done | omega | exact rfl)) | fail)) : p := h
theorem splitL_mem (b : UInt8) : ∀ (s x : List UInt8), x ∈ splitL b s → x.length ≤ s.length
  | [], x, h => by simp [splitL] at h; subst h; simp
  | c :: s, x, h => by
    rw [splitL] at h
    have ih := splitL_mem b s
    split at h
    · rcases List.mem_cons.1 h with rfl | h
      · simp
      · have := ih x h; simp; omega
    · split at h
      · have : x = [c] := by simpa using h
        subst this; simp
      · rename_i y ys he
        rcases List.mem_cons.1 h with rfl | h
        · have := ih y (by rw [he]; simp); simp; omega
        · have := ih x (by rw [he]; simp [h]); simp; omega
theorem splitL_num (b : UInt8) : ∀ (s : List UInt8), (splitL b s).length ≤ s.length + 1
  | [] => by simp [splitL]
  | c :: s => by
    have ih := splitL_num b s
    rw [splitL]
    split
    · simp; omega
    · split
      · simp
      · rename_i y ys he
        rw [he] at ih
        simp at ih ⊢; omega
theorem p4_len {L : List (List UInt8)} {six : Bool} {A : List UInt8} (hL : L.length = 4) (h : p4 L = some (six, A)) : A.length = 16 := by
  rw [p4] at h
  split at h
  · have := (Prod.mk.inj (Option.some.inj h)).2
    subst this; exact a4_len hL (by omega)
  · cases h
theorem p6_len {L : List (List UInt8)} {six : Bool} {A : List UInt8} (hL : L.length = 8) (h : p6 L = some (six, A)) : A.length = 16 := by
  rw [p6] at h
  split at h
  · have := (Prod.mk.inj (Option.some.inj h)).2
    subst this; exact a6_len hL (by omega)
  · cases h
def parseA (s : List UInt8) : Option (Bool × List UInt8) := if (splitL 46 s).length = 4 then p4 (splitL 46 s) else if (splitL 58 s).length = 8 then p6 (splitL 58 s) else none
theorem set2b {a b : CV} {M : List CV} {n : Nat} (hn : n + 1 < M.length) : (M.take n ++ a :: M.drop (1 + n)).take (n + 1) ++ b :: (M.take n ++ a :: M.drop (1 + n)).drop (1 + (n + 1)) = (M.set n a).set (n + 1) b := by
  have hX : M.take n ++ a :: M.drop (1 + n) = M.set n a := by
    rw [List.set_eq_take_append_cons_drop, if_pos (by omega), Nat.add_comm 1 n]
  rw [hX, List.set_eq_take_append_cons_drop (l := M.set n a), if_pos (by simp; omega), Nat.add_comm 1 (n + 1)]
theorem parse_in (s : List UInt8) (hs : s.length < 1000000000) : PC Tryd.prog true 19 [.str s] (rA (parseA s)) := by
  refine acall_intro mixed Tryd.func19 rfl ca19 (by kernel_rfl) (by rw [Tryd.ntmps19]; simp) ?_
  have hn4 := splitL_num 46 s
  have hn6 := splitL_num 58 s
  have hm4 := fun x hx => Nat.lt_of_le_of_lt (splitL_mem 46 s x hx) hs
  have hm6 := fun x hx => Nat.lt_of_le_of_lt (splitL_mem 58 s x hx) hs
  have hsp4 : ∀ {B : List Box}, ACall Tryd.prog 46 [.str s, .str [46]] B fun c B' => c = .lst (splitL 46 s).length ((splitL 46 s).map .str) true ∧ B' = B := split_at (b := 46) (by omega)
  have hsp6 : ∀ {B : List Box}, ACall Tryd.prog 46 [.str s, .str [58]] B fun c B' => c = .lst (splitL 58 s).length ((splitL 58 s).map .str) true ∧ B' = B := split_at (b := 58) (by omega)
  by_cases hL : (splitL 46 s).length = 4
  · have hp : parseA s = p4 (splitL 46 s) := by rw [parseA, if_pos hL]
    rw [hp]
    rw [hL] at hsp4
    generalize splitL 46 s = L at *
    clear hp hsp6 hn4 hn6 hm6
    repeat' (first | (with_reducible first | apply jA | apply jB | apply jC | apply jD | apply jE | apply jF | apply jG | apply jH | apply jI | apply jJ | apply jK | apply jL | apply jM | apply jN | apply jO) | ((with_reducible first | apply jP | apply jQ); rfl) | ((first | ((with_reducible first | apply jR | apply jS | apply jT); rfl; rfl) | (with_reducible first | apply jU | apply jV | apply jW) | ((with_reducible first | apply jX | apply jY | apply jZ); rfl) | ((with_reducible first | apply kA | apply kB | apply kC); rfl)); all_goals (first | ((with_reducible show Is _ _); exact kE) | ((with_reducible refine fun (hc : (_ : Bool) = _) => ?_); (try simp only [xZ, xY, xP, reduceCtorEq] at hc); (try (have hx : True := hc; clear hx hc)); (try exact kX)) | ((with_reducible show ACall _ _ _ _ _); (first | ((with_reducible apply hsp4) <;> exact kD))) | ((fail_if_success (with_reducible first | show Is _ _ | show ACall _ _ _ _ _)); (try ((with_reducible show _ ∨ _); exact kT))))))
    refine w_loop (fun fr B => ∃ j : Nat, j ≤ 4 ∧ (L.take j).all oct = true ∧ fr 22 = .int .i64 j ∧ fr 21 = .int .i64 4 ∧ fr 20 = .lst 4 (L.map .str) true ∧ fr 4 = .ptr 1 0 ∧ fr 2 = .ptr 0 0 ∧ fr 3 = .int .i64 0 ∧ B = [⟨.bool false :: z16.map byteC, false⟩, ⟨.bool false :: (a4 L j).map byteC, false⟩]) (fun fr _ => 4 - natOf (fr 22)) ?_ ?_
    · exact ⟨0, by omega, rfl, by (simp (disch := omega) [go_sem, *]) <;> (try omega), by (simp (disch := omega) [go_sem, *]) <;> (try omega), by (simp (disch := omega) [go_sem, *]) <;> (try omega), by (simp (disch := omega) [go_sem, *]) <;> (try omega), by (simp (disch := omega) [go_sem, *]) <;> (try omega), by (simp (disch := omega) [go_sem, *]) <;> (try omega), rfl⟩
    rintro fr B ⟨j, hj, hall, h11, h10, h9, h4, h2, h3, rfl⟩
    have hal := a4_len hL hj
    by_cases hc : j < 4
    · have hset := a4_set hL hc
      have hx : (L.map CV.str).drop j = .str (L[j]'(by omega)) :: (L.map CV.str).drop (j + 1) := by
        rw [List.drop_eq_getElem_cons (by simp; omega)]; simp
      have hxl := hm4 (L[j]'(by omega)) (List.getElem_mem _)
      have hnall : (L.take (j + 1)).all oct = oct (L[j]'(by omega)) := by rw [List.take_succ_eq_append_getElem (by omega), List.all_append, hall]; simp
      have hno : oct (L[j]'(by omega)) = false → p4 L = none := fun h => by
        have : L.all oct = false := by
          rw [List.all_eq_false]
          exact ⟨_, List.getElem_mem (show j < L.length by omega), by simp [h]⟩
        simp [p4, this]
      have hnum : ∀ {B : List Box}, ACall Tryd.prog 47 [.str (L[j]'(by omega)), .int .i64 255] B fun c B' => c = .tup [.int .i64 (decR 10 (L[j]'(by omega))), .bool (oct (L[j]'(by omega)))] ∧ B' = B := by
        intro B
        have := @decimal_at B (L[j]'(by omega)) 255 (by omega)
        rwa [oct_eq] at this
      generalize (L[j]'(by omega)) = x at *
      cases ho : oct x with
      | false =>
        rw [hno ho]
        rw [ho] at hnum
        clear hset hno hnall ho
        generalize decR 10 x = v at *
        repeat' (first | (with_reducible first | apply jA | apply jB | apply jC | apply jD | apply jE | apply jF | apply jG | apply jH | apply jI | apply jJ | apply jK | apply jL | apply jM | apply jN | apply jO) | ((with_reducible first | apply jP | apply jQ); rfl) | ((first | ((with_reducible first | apply jR | apply jS | apply jT); rfl; rfl) | (with_reducible first | apply jU | apply jV | apply jW) | ((with_reducible first | apply jX | apply jY | apply jZ); rfl) | ((with_reducible first | apply kA | apply kB | apply kC); rfl)); all_goals (first | ((with_reducible show Is _ _); exact kE_GJ0) | ((with_reducible refine fun (hc : (_ : Bool) = _) => ?_); (try simp only [xZ, xY, xP, reduceCtorEq] at hc); (try (have hx : True := hc; clear hx hc)); (try exact kX)) | ((with_reducible show ACall _ _ _ _ _); (first | ((with_reducible apply hnum) <;> exact kD_GJ0))) | ((fail_if_success (with_reducible first | show Is _ _ | show ACall _ _ _ _ _)); (try ((with_reducible show _ ∨ _); exact kT))))))
        rfl
      | true =>
        have hb : decR 10 x ≤ 255 ∧ decV x = decR 10 x := by
          rw [← oct_eq, Bool.and_eq_true] at ho
          have h2 := of_decide_eq_true ho.2
          exact ⟨by omega, by rw [decR, if_pos ho.1]⟩
        rw [ho] at hnall hnum
        have hby := byte_nat (decR 10 x) (by omega)
        rw [hb.2] at hset
        have hb2 := hb.1
        clear hb ho hno
        generalize decR 10 x = v at *
        generalize UInt8.ofNat v = y at *
        repeat' (first | (with_reducible first | apply jA | apply jB | apply jC | apply jD | apply jE | apply jF | apply jG | apply jH | apply jI | apply jJ | apply jK | apply jL | apply jM | apply jN | apply jO) | ((with_reducible first | apply jP | apply jQ); rfl) | ((first | ((with_reducible first | apply jR | apply jS | apply jT); rfl; rfl) | (with_reducible first | apply jU | apply jV | apply jW) | ((with_reducible first | apply jX | apply jY | apply jZ); rfl) | ((with_reducible first | apply kA | apply kB | apply kC); rfl)); all_goals (first | ((with_reducible show Is _ _); exact kE_GJ0) | ((with_reducible refine fun (hc : (_ : Bool) = _) => ?_); (try simp only [xZ, xY, xP, reduceCtorEq] at hc); (try (have hx : True := hc; clear hx hc)); (try exact kX)) | ((with_reducible show ACall _ _ _ _ _); (first | ((with_reducible apply hnum) <;> exact kD_GJ0))) | ((fail_if_success (with_reducible first | show Is _ _ | show ACall _ _ _ _ _)); (try ((with_reducible show _ ∨ _); exact kT))))))
        refine ⟨⟨j + 1, by omega, hnall, by (simp (disch := omega) [go_sem, *]) <;> (try omega), by (simp (disch := omega) [go_sem, *]) <;> (try omega), by (simp (disch := omega) [go_sem, *]) <;> (try omega), by (simp (disch := omega) [go_sem, *]) <;> (try omega), by (simp (disch := omega) [go_sem, *]) <;> (try omega), by (simp (disch := omega) [go_sem, *]) <;> (try omega), ?_⟩, by (simp (disch := omega) [go_sem, *]) <;> (try omega)⟩
        rw [← hset, List.set_eq_take_append_cons_drop, if_pos (by omega), List.map_append, List.map_cons, hby, Nat.add_comm 1 j]
    · obtain rfl : j = 4 := by omega
      have hp : p4 L = some (false, a4 L 4) := by rw [List.take_of_length_le (by omega)] at hall; simp [p4, hall]
      rw [hp]
      repeat' (first | (with_reducible first | apply jA | apply jB | apply jC | apply jD | apply jE | apply jF | apply jG | apply jH | apply jI | apply jJ | apply jK | apply jL | apply jM | apply jN | apply jO) | ((with_reducible first | apply jP | apply jQ); rfl) | ((first | ((with_reducible first | apply jR | apply jS | apply jT); rfl; rfl) | (with_reducible first | apply jU | apply jV | apply jW) | ((with_reducible first | apply jX | apply jY | apply jZ); rfl)); all_goals (first | ((with_reducible show Is _ _); exact kE) | ((with_reducible refine fun (hc : (_ : Bool) = _) => ?_); (try simp only [xZ, xY, xP, reduceCtorEq] at hc); (try (have hx : True := hc; clear hx hc)); (try exact kX)) | ((fail_if_success (with_reducible first | show Is _ _ | show ACall _ _ _ _ _)); (try ((with_reducible show _ ∨ _); exact kT))))))
      (simp (disch := omega) [go_sem, *, rA, addrC]) <;> (try omega)
  by_cases hL6 : (splitL 58 s).length = 8
  · have hp : parseA s = p6 (splitL 58 s) := by rw [parseA, if_neg hL, if_pos hL6]
    rw [hp]
    rw [hL6] at hsp6
    generalize splitL 58 s = L at *
    clear hp hm4
    repeat' (first | (with_reducible first | apply jA | apply jB | apply jC | apply jD | apply jE | apply jF | apply jG | apply jH | apply jI | apply jJ | apply jK | apply jL | apply jM | apply jN | apply jO) | ((with_reducible first | apply jP | apply jQ); rfl) | ((first | ((with_reducible first | apply jR | apply jS | apply jT); rfl; rfl) | (with_reducible first | apply jU | apply jV | apply jW) | ((with_reducible first | apply jX | apply jY | apply jZ); rfl) | ((with_reducible first | apply kA | apply kB | apply kC); rfl)); all_goals (first | ((with_reducible show Is _ _); exact kE) | ((with_reducible refine fun (hc : (_ : Bool) = _) => ?_); (try simp only [xZ, xY, xP, reduceCtorEq] at hc); (try (have hx : True := hc; clear hx hc)); (try exact kX)) | ((with_reducible show ACall _ _ _ _ _); (first | ((with_reducible apply hsp4) <;> exact kD) | ((with_reducible apply hsp6) <;> exact kD))) | ((fail_if_success (with_reducible first | show Is _ _ | show ACall _ _ _ _ _)); (try ((with_reducible show _ ∨ _); exact kT))))))
    clear hsp4 hsp6 hL
    refine w_loop (fun fr B => ∃ j : Nat, j ≤ 8 ∧ (L.take j).all hexOk = true ∧ fr 51 = .int .i64 j ∧ fr 50 = .int .i64 8 ∧ fr 49 = .lst 8 (L.map .str) true ∧ fr 4 = .ptr 1 0 ∧ fr 2 = .ptr 0 0 ∧ fr 3 = .int .i64 0 ∧ B = [⟨.bool false :: z16.map byteC, false⟩, ⟨.bool true :: (a6 L j).map byteC, false⟩]) (fun fr _ => 8 - natOf (fr 51)) ?_ ?_
    · exact ⟨0, by omega, rfl, by (simp (disch := omega) [go_sem, *]) <;> (try omega), by (simp (disch := omega) [go_sem, *]) <;> (try omega), by (simp (disch := omega) [go_sem, *]) <;> (try omega), by (simp (disch := omega) [go_sem, *]) <;> (try omega), by (simp (disch := omega) [go_sem, *]) <;> (try omega), by (simp (disch := omega) [go_sem, *]) <;> (try omega), rfl⟩
    rintro fr B ⟨j, hj, hall, h13, h12, h11, h4, h2, h3, rfl⟩
    have hal := a6_len hL6 hj
    by_cases hc : j < 8
    · have hset := a6_set hL6 hc
      have hx : (L.map CV.str).drop j = .str (L[j]'(by omega)) :: (L.map CV.str).drop (j + 1) := by
        rw [List.drop_eq_getElem_cons (by simp; omega)]; simp
      have hxl := hm6 (L[j]'(by omega)) (List.getElem_mem _)
      have hnall : (L.take (j + 1)).all hexOk = hexOk (L[j]'(by omega)) := by rw [List.take_succ_eq_append_getElem (by omega), List.all_append, hall]; simp
      have hno : hexOk (L[j]'(by omega)) = false → p6 L = none := fun h => by
        have : L.all hexOk = false := by
          rw [List.all_eq_false]
          exact ⟨_, List.getElem_mem (show j < L.length by omega), by simp [h]⟩
        simp [p6, this]
      have hnum : ∀ {B : List Box}, ACall Tryd.prog 48 [.str (L[j]'(by omega))] B fun c B' => c = .tup [.int .i64 (hexR (L[j]'(by omega))), .bool (hexOk (L[j]'(by omega)))] ∧ B' = B := hexadecimal_at (by omega)
      generalize (L[j]'(by omega)) = x at *
      cases ho : hexOk x with
      | false =>
        rw [hno ho]
        rw [ho] at hnum
        clear hset hno hnall ho
        generalize hexR x = v at *
        repeat' (first | (with_reducible first | apply jA | apply jB | apply jC | apply jD | apply jE | apply jF | apply jG | apply jH | apply jI | apply jJ | apply jK | apply jL | apply jM | apply jN | apply jO) | ((with_reducible first | apply jP | apply jQ); rfl) | ((first | ((with_reducible first | apply jR | apply jS | apply jT); rfl; rfl) | (with_reducible first | apply jU | apply jV | apply jW) | ((with_reducible first | apply jX | apply jY | apply jZ); rfl) | ((with_reducible first | apply kA | apply kB | apply kC); rfl)); all_goals (first | ((with_reducible show Is _ _); exact kE_GJ0) | ((with_reducible refine fun (hc : (_ : Bool) = _) => ?_); (try simp only [xZ, xY, xP, reduceCtorEq] at hc); (try (have hx : True := hc; clear hx hc)); (try exact kX)) | ((with_reducible show ACall _ _ _ _ _); (first | ((with_reducible apply hnum) <;> exact kD_GJ0))) | ((fail_if_success (with_reducible first | show Is _ _ | show ACall _ _ _ _ _)); (try ((with_reducible show _ ∨ _); exact kT))))))
        rfl
      | true =>
        have hb : hexR x ≤ 65535 ∧ hexV x = hexR x := by
          have hl : x.length ≤ 4 := by simp [hexOk] at ho; exact ho.1.2
          have := hex_bound (s := x) hl
          rw [List.take_length] at this
          rw [hexR, if_pos ho]
          exact ⟨this, rfl⟩
        rw [ho] at hnall hnum
        have hby1 := byte_nat (hexR x / 256) (by omega)
        have hby2 := byte_wrap (hexR x)
        rw [hb.2] at hset
        have hb2 := hb.1
        clear hb ho hno
        generalize hexR x = w at *
        replace hset : Hid _ := hset
        have h2i : (2 * (j : Int)).toNat = 2 * j := by omega
        repeat' (first | (with_reducible first | apply jA | apply jB | apply jC | apply jD | apply jE | apply jF | apply jG | apply jH | apply jI | apply jJ | apply jK | apply jL | apply jM | apply jN | apply jO) | ((with_reducible first | apply jP | apply jQ); rfl) | ((first | ((with_reducible first | apply jR | apply jS | apply jT); rfl; rfl) | (with_reducible first | apply jU | apply jV | apply jW) | ((with_reducible first | apply jX | apply jY | apply jZ); rfl) | ((with_reducible first | apply kA | apply kB | apply kC); rfl)); all_goals (first | ((with_reducible show Is _ _); exact kE_GJ0) | ((with_reducible refine fun (hc : (_ : Bool) = _) => ?_); (try simp only [xZ, xY, xP, reduceCtorEq] at hc); (try (have hx : True := hc; clear hx hc)); (try exact kX)) | ((with_reducible show ACall _ _ _ _ _); (first | ((with_reducible apply hnum) <;> exact kD_GJ0))) | ((fail_if_success (with_reducible first | show Is _ _ | show ACall _ _ _ _ _)); (try ((with_reducible show _ ∨ _); exact kT))))))
        refine ⟨⟨j + 1, by omega, hnall, by (simp (disch := omega) [go_sem, *]) <;> (try omega), by (simp (disch := omega) [go_sem, *]) <;> (try omega), by (simp (disch := omega) [go_sem, *]) <;> (try omega), by (simp (disch := omega) [go_sem, *]) <;> (try omega), by (simp (disch := omega) [go_sem, *]) <;> (try omega), by (simp (disch := omega) [go_sem, *]) <;> (try omega), ?_⟩, by (simp (disch := omega) [go_sem, *]) <;> (try omega)⟩
        rw [← (show _ = a6 L (j + 1) from hset), List.map_set, List.map_set, hby1, hby2]
        simp only [List.map_drop, List.map_take]
        rw [set2b (by simp; omega)]
        simp
    · obtain rfl : j = 8 := by omega
      have hp : p6 L = some (true, a6 L 8) := by rw [List.take_of_length_le (by omega)] at hall; simp [p6, hall]
      rw [hp]
      repeat' (first | (with_reducible first | apply jA | apply jB | apply jC | apply jD | apply jE | apply jF | apply jG | apply jH | apply jI | apply jJ | apply jK | apply jL | apply jM | apply jN | apply jO) | ((with_reducible first | apply jP | apply jQ); rfl) | ((first | ((with_reducible first | apply jR | apply jS | apply jT); rfl; rfl) | (with_reducible first | apply jU | apply jV | apply jW) | ((with_reducible first | apply jX | apply jY | apply jZ); rfl)); all_goals (first | ((with_reducible show Is _ _); exact kE) | ((with_reducible refine fun (hc : (_ : Bool) = _) => ?_); (try simp only [xZ, xY, xP, reduceCtorEq] at hc); (try (have hx : True := hc; clear hx hc)); (try exact kX)) | ((fail_if_success (with_reducible first | show Is _ _ | show ACall _ _ _ _ _)); (try ((with_reducible show _ ∨ _); exact kT))))))
      (simp (disch := omega) [go_sem, *, rA, addrC]) <;> (try omega)
  · have hp : parseA s = none := by rw [parseA, if_neg hL, if_neg hL6]
    rw [hp]
    clear hp hm4 hm6
    repeat' (first | (with_reducible first | apply jA | apply jB | apply jC | apply jD | apply jE | apply jF | apply jG | apply jH | apply jI | apply jJ | apply jK | apply jL | apply jM | apply jN | apply jO) | ((with_reducible first | apply jP | apply jQ); rfl) | ((first | ((with_reducible first | apply jR | apply jS | apply jT); rfl; rfl) | (with_reducible first | apply jU | apply jV | apply jW) | ((with_reducible first | apply jX | apply jY | apply jZ); rfl) | ((with_reducible first | apply kA | apply kB | apply kC); rfl)); all_goals (first | ((with_reducible show Is _ _); exact kE) | ((with_reducible refine fun (hc : (_ : Bool) = _) => ?_); (try simp only [xZ, xY, xP, reduceCtorEq] at hc); (try (have hx : True := hc; clear hx hc)); (try exact kX)) | ((with_reducible show ACall _ _ _ _ _); (first | ((with_reducible apply hsp4) <;> exact kD) | ((with_reducible apply hsp6) <;> exact kD))) | ((fail_if_success (with_reducible first | show Is _ _ | show ACall _ _ _ _ _)); (try ((with_reducible show _ ∨ _); exact kT))))))
    rfl
end Go.Proofs.YtdceppjoipoohaaDoor
end
section
namespace Go.Proofs.YtdceppjoipoohaaDoor
open Go Go.Sy
set_option linter.all false
set_option maxRecDepth 100000
set_option maxHeartbeats 4000000
theorem kE_GK0 {α : Type} {x y : α} (h : Is x y := by first | ((try simp (disch := first | omega | (simp only [yZ, yB] <;> omega) | fail) [go_sem, yY, *, prefC, if_pos, if_neg, -List.map_take, -List.map_drop, -List.map_append, -List.map_reverse]); exact rfl) | fail) : Is x y := h
theorem kD_GK0 {p : Prop} (h : p := by (first | omega | assumption | exact rfl | ((simp (disch := first | omega | (simp only [yZ, yB] <;> omega) | fail) [go_sem, yY, *, prefC, -List.map_take, -List.map_drop, -List.map_append, -List.map_reverse]) <;> (first | done | omega | exact rfl)) | fail)) : p := h
theorem fmtA_len (six : Bool) (A : List UInt8) : (fmtA six A).length ≤ 40 := by
  rw [fmtA]
  split
  · split
    · have := join_le (t := [58]) (k := 4) (parts6 A 8) fun x hx => by
        simp only [parts6, List.mem_map, List.mem_range] at hx
        obtain ⟨i, _, rfl⟩ := hx
        exact hexT_len 3 _ (grp_lt A i)
      simpa [parts6] using this
    · have := join_le (t := [46]) (k := 3) (parts4 A 4) fun x hx => by
        simp only [parts4, List.mem_map, List.mem_range] at hx
        obtain ⟨i, _, rfl⟩ := hx
        have := (A.getD i 0).toNat_lt
        exact decDigits_len 2 _ (by omega)
      simp [parts4] at this ⊢
      omega
  · simp
def brk (six : Bool) (t : List UInt8) : List UInt8 := if six then 91 :: (t ++ [93]) else t
def fmtE (six : Bool) (A : List UInt8) (p : Int) : List UInt8 := if okA six A = true ∧ 1 ≤ p ∧ p ≤ 65535 then brk six (fmtA six A) ++ 58 :: Go.Lib.decDigits p.toNat else []
theorem fmtA_nil {six : Bool} {A : List UInt8} : (fmtA six A = []) ↔ okA six A = false := by
  cases h : okA six A with
  | false => simp [fmtA, h]
  | true =>
    simp only [fmtA, h, if_true, Bool.true_eq_false, iff_false]
    cases six with
    | true => simp [parts6, show List.range 8 = [0, 1, 2, 3, 4, 5, 6, 7] from rfl, Go.Lib.join_cons, Go.Lib.joinTail]
    | false => simp [parts4, show List.range 4 = [0, 1, 2, 3] from rfl, Go.Lib.join_cons, Go.Lib.joinTail]
theorem fmtE_in (six : Bool) (A : List UInt8) (p : Int) (hA : A.length = 16) (hp : -9223372036854775808 ≤ p ∧ p ≤ 9223372036854775807) : PC Tryd.prog true 16 [prefC six A p] (.str (fmtE six A p)) := by
  refine acall_intro mixed Tryd.func16 rfl ca16 (by kernel_rfl) (by rw [Tryd.ntmps16]; simp) ?_
  have hf : ∀ {B : List Box} {args : List CV}, Is (omap (Go.Sy.fz true false B 6) args) (some [addrC six A]) → ACall Tryd.prog 15 args B fun c B' => c = .str (fmtA six A) ∧ B' = B := fun h => fmtAddr_at h hA
  have hfl := fmtA_len six A
  have hnil := @fmtA_nil six A
  by_cases hok : okA six A = true
  · have hne : fmtA six A ≠ [] := fun h => by rw [hnil.1 h] at hok; cases hok
    have hq : (fmtA six A == []) = false := by simpa using hne
    by_cases hr : 1 ≤ p ∧ p ≤ 65535
    · have e : fmtE six A p = brk six (fmtA six A) ++ 58 :: Go.Lib.decDigits p.toNat := by rw [fmtE, if_pos ⟨hok, hr⟩]
      have hi : ∀ {B : List Box}, ACall Tryd.prog 43 [.int .i64 p] B fun c B' => c = .str (Go.Lib.decDigits p.toNat) ∧ B' = B := by
        intro B
        have := itoa_at (B := B) (n := p) hp
        rwa [Go.Lib.itoa, if_neg (by omega)] at this
      have hdl := decDigits_len 4 p.toNat (by omega)
      rw [e]
      have hr1 := hr.1
      have hr2 := hr.2
      clear e hnil hok hne hr
      generalize fmtA six A = t at *
      generalize Go.Lib.decDigits p.toNat = d at *
      cases six with
      | true =>
        repeat' (first | (with_reducible first | apply jA | apply jB | apply jC | apply jD | apply jE | apply jF | apply jG | apply jH | apply jI | apply jJ | apply jK | apply jL | apply jM | apply jN | apply jO) | ((with_reducible first | apply jP | apply jQ); rfl) | ((first | ((with_reducible first | apply jR | apply jS | apply jT); rfl; rfl) | (with_reducible first | apply jU | apply jV | apply jW) | ((with_reducible first | apply jX | apply jY | apply jZ); rfl) | ((with_reducible first | apply kA | apply kB | apply kC); rfl)); all_goals (first | ((with_reducible show Is _ _); exact kE_GK0) | ((with_reducible refine fun (hc : (_ : Bool) = _) => ?_); (try simp only [xZ, xY, xP, reduceCtorEq] at hc); (try (have hx : True := hc; clear hx hc)); (try exact kX)) | ((with_reducible show ACall _ _ _ _ _); (first | ((with_reducible apply hf) <;> exact kD_GK0) | ((with_reducible apply hi) <;> exact kD_GK0))) | ((fail_if_success (with_reducible first | show Is _ _ | show ACall _ _ _ _ _)); (try ((with_reducible show _ ∨ _); exact kT))))))
        (simp (disch := omega) [go_sem, *, brk]) <;> (try omega)
      | false =>
        repeat' (first | (with_reducible first | apply jA | apply jB | apply jC | apply jD | apply jE | apply jF | apply jG | apply jH | apply jI | apply jJ | apply jK | apply jL | apply jM | apply jN | apply jO) | ((with_reducible first | apply jP | apply jQ); rfl) | ((first | ((with_reducible first | apply jR | apply jS | apply jT); rfl; rfl) | (with_reducible first | apply jU | apply jV | apply jW) | ((with_reducible first | apply jX | apply jY | apply jZ); rfl) | ((with_reducible first | apply kA | apply kB | apply kC); rfl)); all_goals (first | ((with_reducible show Is _ _); exact kE_GK0) | ((with_reducible refine fun (hc : (_ : Bool) = _) => ?_); (try simp only [xZ, xY, xP, reduceCtorEq] at hc); (try (have hx : True := hc; clear hx hc)); (try exact kX)) | ((with_reducible show ACall _ _ _ _ _); (first | ((with_reducible apply hf) <;> exact kD_GK0) | ((with_reducible apply hi) <;> exact kD_GK0))) | ((fail_if_success (with_reducible first | show Is _ _ | show ACall _ _ _ _ _)); (try ((with_reducible show _ ∨ _); exact kT))))))
        (simp (disch := omega) [go_sem, *, brk]) <;> (try omega)
    · have e : fmtE six A p = [] := by rw [fmtE, if_neg fun h => hr h.2]
      rw [e]
      have hr2 : p < 1 ∨ (1 ≤ p ∧ 65535 < p) := by omega
      clear e hnil hok hne hr
      generalize fmtA six A = t at *
      rcases hr2 with hr | ⟨hr, hr2⟩
      · repeat' (first | (with_reducible first | apply jA | apply jB | apply jC | apply jD | apply jE | apply jF | apply jG | apply jH | apply jI | apply jJ | apply jK | apply jL | apply jM | apply jN | apply jO) | ((with_reducible first | apply jP | apply jQ); rfl) | ((first | ((with_reducible first | apply jR | apply jS | apply jT); rfl; rfl) | (with_reducible first | apply jU | apply jV | apply jW) | ((with_reducible first | apply jX | apply jY | apply jZ); rfl) | ((with_reducible first | apply kA | apply kB | apply kC); rfl)); all_goals (first | ((with_reducible show Is _ _); exact kE_GK0) | ((with_reducible refine fun (hc : (_ : Bool) = _) => ?_); (try simp only [xZ, xY, xP, reduceCtorEq] at hc); (try (have hx : True := hc; clear hx hc)); (try exact kX)) | ((with_reducible show ACall _ _ _ _ _); (first | ((with_reducible apply hf) <;> exact kD_GK0))) | ((fail_if_success (with_reducible first | show Is _ _ | show ACall _ _ _ _ _)); (try ((with_reducible show _ ∨ _); exact kT))))))
        rfl
      · repeat' (first | (with_reducible first | apply jA | apply jB | apply jC | apply jD | apply jE | apply jF | apply jG | apply jH | apply jI | apply jJ | apply jK | apply jL | apply jM | apply jN | apply jO) | ((with_reducible first | apply jP | apply jQ); rfl) | ((first | ((with_reducible first | apply jR | apply jS | apply jT); rfl; rfl) | (with_reducible first | apply jU | apply jV | apply jW) | ((with_reducible first | apply jX | apply jY | apply jZ); rfl) | ((with_reducible first | apply kA | apply kB | apply kC); rfl)); all_goals (first | ((with_reducible show Is _ _); exact kE_GK0) | ((with_reducible refine fun (hc : (_ : Bool) = _) => ?_); (try simp only [xZ, xY, xP, reduceCtorEq] at hc); (try (have hx : True := hc; clear hx hc)); (try exact kX)) | ((with_reducible show ACall _ _ _ _ _); (first | ((with_reducible apply hf) <;> exact kD_GK0))) | ((fail_if_success (with_reducible first | show Is _ _ | show ACall _ _ _ _ _)); (try ((with_reducible show _ ∨ _); exact kT))))))
        rfl
  · have e : fmtE six A p = [] := by rw [fmtE, if_neg fun h => hok h.1]
    rw [e]
    rw [hnil.2 (by simpa using hok)] at hf
    repeat' (first | (with_reducible first | apply jA | apply jB | apply jC | apply jD | apply jE | apply jF | apply jG | apply jH | apply jI | apply jJ | apply jK | apply jL | apply jM | apply jN | apply jO) | ((with_reducible first | apply jP | apply jQ); rfl) | ((first | ((with_reducible first | apply jR | apply jS | apply jT); rfl; rfl) | (with_reducible first | apply jU | apply jV | apply jW) | ((with_reducible first | apply jX | apply jY | apply jZ); rfl) | ((with_reducible first | apply kA | apply kB | apply kC); rfl)); all_goals (first | ((with_reducible show Is _ _); exact kE_GK0) | ((with_reducible refine fun (hc : (_ : Bool) = _) => ?_); (try simp only [xZ, xY, xP, reduceCtorEq] at hc); (try (have hx : True := hc; clear hx hc)); (try exact kX)) | ((with_reducible show ACall _ _ _ _ _); (first | ((with_reducible apply hf) <;> exact kD_GK0))) | ((fail_if_success (with_reducible first | show Is _ _ | show ACall _ _ _ _ _)); (try ((with_reducible show _ ∨ _); exact kT))))))
    rfl
theorem rfmtE_in (six : Bool) (A : List UInt8) (p : Int) (hA : A.length = 16) (hp : -9223372036854775808 ≤ p ∧ p ≤ 9223372036854775807) : PC Tryd.prog true 12 [prefC six A p] (.str (fmtE six A p)) := by
  refine acall_intro mixed Tryd.func12 rfl ca12 (by kernel_rfl) (by rw [Tryd.ntmps12]; simp) ?_
  have hf : ∀ {B : List Box} {args : List CV}, Is (omap (Go.Sy.fz true false B 6) args) (some [addrC six A]) → ACall Tryd.prog 11 args B fun c B' => c = .str (fmtA six A) ∧ B' = B := fun h => rfmtAddr_at h hA
  have hfl := fmtA_len six A
  have hnil := @fmtA_nil six A
  by_cases hok : okA six A = true
  · have hne : fmtA six A ≠ [] := fun h => by rw [hnil.1 h] at hok; cases hok
    have hq : (fmtA six A == []) = false := by simpa using hne
    by_cases hr : 1 ≤ p ∧ p ≤ 65535
    · have e : fmtE six A p = brk six (fmtA six A) ++ 58 :: Go.Lib.decDigits p.toNat := by rw [fmtE, if_pos ⟨hok, hr⟩]
      have hi : ∀ {B : List Box}, ACall Tryd.prog 34 [.int .i64 p] B fun c B' => c = .str (Go.Lib.decDigits p.toNat) ∧ B' = B := by
        intro B
        have := rdec_at p.toNat (by omega) (B := B)
        rwa [Int.toNat_of_nonneg (by omega)] at this
      have hdl := decDigits_len 4 p.toNat (by omega)
      rw [e]
      have hr1 := hr.1
      have hr2 := hr.2
      clear e hnil hok hne hr
      generalize fmtA six A = t at *
      generalize Go.Lib.decDigits p.toNat = d at *
      cases six with
      | true =>
        repeat' (first | (with_reducible first | apply jA | apply jB | apply jC | apply jD | apply jE | apply jF | apply jG | apply jH | apply jI | apply jJ | apply jK | apply jL | apply jM | apply jN | apply jO) | ((with_reducible first | apply jP | apply jQ); rfl) | ((first | ((with_reducible first | apply jR | apply jS | apply jT); rfl; rfl) | (with_reducible first | apply jU | apply jV | apply jW) | ((with_reducible first | apply jX | apply jY | apply jZ); rfl) | ((with_reducible first | apply kA | apply kB | apply kC); rfl)); all_goals (first | ((with_reducible show Is _ _); exact kE_GK0) | ((with_reducible refine fun (hc : (_ : Bool) = _) => ?_); (try simp only [xZ, xY, xP, reduceCtorEq] at hc); (try (have hx : True := hc; clear hx hc)); (try exact kX)) | ((with_reducible show ACall _ _ _ _ _); (first | ((with_reducible apply hf) <;> exact kD_GK0) | ((with_reducible apply hi) <;> exact kD_GK0))) | ((fail_if_success (with_reducible first | show Is _ _ | show ACall _ _ _ _ _)); (try ((with_reducible show _ ∨ _); exact kT))))))
        (simp (disch := omega) [go_sem, *, brk]) <;> (try omega)
      | false =>
        repeat' (first | (with_reducible first | apply jA | apply jB | apply jC | apply jD | apply jE | apply jF | apply jG | apply jH | apply jI | apply jJ | apply jK | apply jL | apply jM | apply jN | apply jO) | ((with_reducible first | apply jP | apply jQ); rfl) | ((first | ((with_reducible first | apply jR | apply jS | apply jT); rfl; rfl) | (with_reducible first | apply jU | apply jV | apply jW) | ((with_reducible first | apply jX | apply jY | apply jZ); rfl) | ((with_reducible first | apply kA | apply kB | apply kC); rfl)); all_goals (first | ((with_reducible show Is _ _); exact kE_GK0) | ((with_reducible refine fun (hc : (_ : Bool) = _) => ?_); (try simp only [xZ, xY, xP, reduceCtorEq] at hc); (try (have hx : True := hc; clear hx hc)); (try exact kX)) | ((with_reducible show ACall _ _ _ _ _); (first | ((with_reducible apply hf) <;> exact kD_GK0) | ((with_reducible apply hi) <;> exact kD_GK0))) | ((fail_if_success (with_reducible first | show Is _ _ | show ACall _ _ _ _ _)); (try ((with_reducible show _ ∨ _); exact kT))))))
        (simp (disch := omega) [go_sem, *, brk]) <;> (try omega)
    · have e : fmtE six A p = [] := by rw [fmtE, if_neg fun h => hr h.2]
      rw [e]
      have hr2 : p < 1 ∨ (1 ≤ p ∧ 65535 < p) := by omega
      clear e hnil hok hne hr
      generalize fmtA six A = t at *
      rcases hr2 with hr | ⟨hr, hr2⟩
      · repeat' (first | (with_reducible first | apply jA | apply jB | apply jC | apply jD | apply jE | apply jF | apply jG | apply jH | apply jI | apply jJ | apply jK | apply jL | apply jM | apply jN | apply jO) | ((with_reducible first | apply jP | apply jQ); rfl) | ((first | ((with_reducible first | apply jR | apply jS | apply jT); rfl; rfl) | (with_reducible first | apply jU | apply jV | apply jW) | ((with_reducible first | apply jX | apply jY | apply jZ); rfl) | ((with_reducible first | apply kA | apply kB | apply kC); rfl)); all_goals (first | ((with_reducible show Is _ _); exact kE_GK0) | ((with_reducible refine fun (hc : (_ : Bool) = _) => ?_); (try simp only [xZ, xY, xP, reduceCtorEq] at hc); (try (have hx : True := hc; clear hx hc)); (try exact kX)) | ((with_reducible show ACall _ _ _ _ _); (first | ((with_reducible apply hf) <;> exact kD_GK0))) | ((fail_if_success (with_reducible first | show Is _ _ | show ACall _ _ _ _ _)); (try ((with_reducible show _ ∨ _); exact kT))))))
        rfl
      · repeat' (first | (with_reducible first | apply jA | apply jB | apply jC | apply jD | apply jE | apply jF | apply jG | apply jH | apply jI | apply jJ | apply jK | apply jL | apply jM | apply jN | apply jO) | ((with_reducible first | apply jP | apply jQ); rfl) | ((first | ((with_reducible first | apply jR | apply jS | apply jT); rfl; rfl) | (with_reducible first | apply jU | apply jV | apply jW) | ((with_reducible first | apply jX | apply jY | apply jZ); rfl) | ((with_reducible first | apply kA | apply kB | apply kC); rfl)); all_goals (first | ((with_reducible show Is _ _); exact kE_GK0) | ((with_reducible refine fun (hc : (_ : Bool) = _) => ?_); (try simp only [xZ, xY, xP, reduceCtorEq] at hc); (try (have hx : True := hc; clear hx hc)); (try exact kX)) | ((with_reducible show ACall _ _ _ _ _); (first | ((with_reducible apply hf) <;> exact kD_GK0))) | ((fail_if_success (with_reducible first | show Is _ _ | show ACall _ _ _ _ _)); (try ((with_reducible show _ ∨ _); exact kT))))))
        rfl
  · have e : fmtE six A p = [] := by rw [fmtE, if_neg fun h => hok h.1]
    rw [e]
    rw [hnil.2 (by simpa using hok)] at hf
    repeat' (first | (with_reducible first | apply jA | apply jB | apply jC | apply jD | apply jE | apply jF | apply jG | apply jH | apply jI | apply jJ | apply jK | apply jL | apply jM | apply jN | apply jO) | ((with_reducible first | apply jP | apply jQ); rfl) | ((first | ((with_reducible first | apply jR | apply jS | apply jT); rfl; rfl) | (with_reducible first | apply jU | apply jV | apply jW) | ((with_reducible first | apply jX | apply jY | apply jZ); rfl) | ((with_reducible first | apply kA | apply kB | apply kC); rfl)); all_goals (first | ((with_reducible show Is _ _); exact kE_GK0) | ((with_reducible refine fun (hc : (_ : Bool) = _) => ?_); (try simp only [xZ, xY, xP, reduceCtorEq] at hc); (try (have hx : True := hc; clear hx hc)); (try exact kX)) | ((with_reducible show ACall _ _ _ _ _); (first | ((with_reducible apply hf) <;> exact kD_GK0))) | ((fail_if_success (with_reducible first | show Is _ _ | show ACall _ _ _ _ _)); (try ((with_reducible show _ ∨ _); exact kT))))))
    rfl
def fmtP (six : Bool) (A : List UInt8) (s : Int) : List UInt8 := if vld six A s then fmtA six A ++ 47 :: Go.Lib.decDigits s.toNat else []
theorem fmtP_in (six : Bool) (A : List UInt8) (p : Int) (hA : A.length = 16) (hp : -9223372036854775808 ≤ p ∧ p ≤ 9223372036854775807) : PC Tryd.prog true 17 [prefC six A p] (.str (fmtP six A p)) := by
  refine acall_intro mixed Tryd.func17 rfl ca17 (by kernel_rfl) (by rw [Tryd.ntmps17]; simp) ?_
  have hf : ∀ {B : List Box} {args : List CV}, Is (omap (Go.Sy.fz true false B 6) args) (some [addrC six A]) → ACall Tryd.prog 15 args B fun c B' => c = .str (fmtA six A) ∧ B' = B := fun h => fmtAddr_at h hA
  have hv : ∀ {B : List Box} {args : List CV}, Is (omap (Go.Sy.fz true false B 6) args) (some [prefC six A p]) → ACall Tryd.prog 44 args B fun c B' => c = .bool (vld six A p) ∧ B' = B := fun h => iValid_at h hA
  have hfl := fmtA_len six A
  cases hok : vld six A p with
  | true =>
    have hr := vld_range hok
    have e : fmtP six A p = fmtA six A ++ 47 :: Go.Lib.decDigits p.toNat := by rw [fmtP, if_pos hok]
    have hi : ∀ {B : List Box}, ACall Tryd.prog 43 [.int .i64 p] B fun c B' => c = .str (Go.Lib.decDigits p.toNat) ∧ B' = B := by
      intro B
      have := itoa_at (B := B) (n := p) hp
      rwa [Go.Lib.itoa, if_neg (by omega)] at this
    have hdl := decDigits_len 4 p.toNat (by omega)
    rw [e]
    rw [hok] at hv
    clear e hok
    generalize fmtA six A = t at *
    generalize Go.Lib.decDigits p.toNat = d at *
    repeat' (first | (with_reducible first | apply jA | apply jB | apply jC | apply jD | apply jE | apply jF | apply jG | apply jH | apply jI | apply jJ | apply jK | apply jL | apply jM | apply jN | apply jO) | ((with_reducible first | apply jP | apply jQ); rfl) | ((first | ((with_reducible first | apply jR | apply jS | apply jT); rfl; rfl) | (with_reducible first | apply jU | apply jV | apply jW) | ((with_reducible first | apply jX | apply jY | apply jZ); rfl) | ((with_reducible first | apply kA | apply kB | apply kC); rfl)); all_goals (first | ((with_reducible show Is _ _); exact kE_GK0) | ((with_reducible refine fun (hc : (_ : Bool) = _) => ?_); (try simp only [xZ, xY, xP, reduceCtorEq] at hc); (try (have hx : True := hc; clear hx hc)); (try exact kX)) | ((with_reducible show ACall _ _ _ _ _); (first | ((with_reducible apply hf) <;> exact kD_GK0) | ((with_reducible apply hi) <;> exact kD_GK0) | ((with_reducible apply hv) <;> exact kD_GK0))) | ((fail_if_success (with_reducible first | show Is _ _ | show ACall _ _ _ _ _)); (try ((with_reducible show _ ∨ _); exact kT))))))
    (simp (disch := omega) [go_sem, *, brk]) <;> (try omega)
  | false =>
    have e : fmtP six A p = [] := by rw [fmtP, hok]; rfl
    rw [e]
    rw [hok] at hv
    clear e
    repeat' (first | (with_reducible first | apply jA | apply jB | apply jC | apply jD | apply jE | apply jF | apply jG | apply jH | apply jI | apply jJ | apply jK | apply jL | apply jM | apply jN | apply jO) | ((with_reducible first | apply jP | apply jQ); rfl) | ((first | ((with_reducible first | apply jR | apply jS | apply jT); rfl; rfl) | (with_reducible first | apply jU | apply jV | apply jW) | ((with_reducible first | apply jX | apply jY | apply jZ); rfl) | ((with_reducible first | apply kA | apply kB | apply kC); rfl)); all_goals (first | ((with_reducible show Is _ _); exact kE_GK0) | ((with_reducible refine fun (hc : (_ : Bool) = _) => ?_); (try simp only [xZ, xY, xP, reduceCtorEq] at hc); (try (have hx : True := hc; clear hx hc)); (try exact kX)) | ((with_reducible show ACall _ _ _ _ _); (first | ((with_reducible apply hv) <;> exact kD_GK0))) | ((fail_if_success (with_reducible first | show Is _ _ | show ACall _ _ _ _ _)); (try ((with_reducible show _ ∨ _); exact kT))))))
    rfl
theorem rfmtP_in (six : Bool) (A : List UInt8) (p : Int) (hA : A.length = 16) (hp : -9223372036854775808 ≤ p ∧ p ≤ 9223372036854775807) : PC Tryd.prog true 13 [prefC six A p] (.str (fmtP six A p)) := by
  refine acall_intro mixed Tryd.func13 rfl ca13 (by kernel_rfl) (by rw [Tryd.ntmps13]; simp) ?_
  have hf : ∀ {B : List Box} {args : List CV}, Is (omap (Go.Sy.fz true false B 6) args) (some [addrC six A]) → ACall Tryd.prog 11 args B fun c B' => c = .str (fmtA six A) ∧ B' = B := fun h => rfmtAddr_at h hA
  have hv : ∀ {B : List Box} {args : List CV}, Is (omap (Go.Sy.fz true false B 6) args) (some [prefC six A p]) → ACall Tryd.prog 36 args B fun c B' => c = .bool (vld six A p) ∧ B' = B := fun h => rValid_at h hA
  have hfl := fmtA_len six A
  cases hok : vld six A p with
  | true =>
    have hr := vld_range hok
    have e : fmtP six A p = fmtA six A ++ 47 :: Go.Lib.decDigits p.toNat := by rw [fmtP, if_pos hok]
    have hi : ∀ {B : List Box}, ACall Tryd.prog 34 [.int .i64 p] B fun c B' => c = .str (Go.Lib.decDigits p.toNat) ∧ B' = B := by
      intro B
      have := rdec_at p.toNat (by omega) (B := B)
      rwa [Int.toNat_of_nonneg (by omega)] at this
    have hdl := decDigits_len 4 p.toNat (by omega)
    rw [e]
    rw [hok] at hv
    clear e hok
    generalize fmtA six A = t at *
    generalize Go.Lib.decDigits p.toNat = d at *
    repeat' (first | (with_reducible first | apply jA | apply jB | apply jC | apply jD | apply jE | apply jF | apply jG | apply jH | apply jI | apply jJ | apply jK | apply jL | apply jM | apply jN | apply jO) | ((with_reducible first | apply jP | apply jQ); rfl) | ((first | ((with_reducible first | apply jR | apply jS | apply jT); rfl; rfl) | (with_reducible first | apply jU | apply jV | apply jW) | ((with_reducible first | apply jX | apply jY | apply jZ); rfl) | ((with_reducible first | apply kA | apply kB | apply kC); rfl)); all_goals (first | ((with_reducible show Is _ _); exact kE_GK0) | ((with_reducible refine fun (hc : (_ : Bool) = _) => ?_); (try simp only [xZ, xY, xP, reduceCtorEq] at hc); (try (have hx : True := hc; clear hx hc)); (try exact kX)) | ((with_reducible show ACall _ _ _ _ _); (first | ((with_reducible apply hf) <;> exact kD_GK0) | ((with_reducible apply hi) <;> exact kD_GK0) | ((with_reducible apply hv) <;> exact kD_GK0))) | ((fail_if_success (with_reducible first | show Is _ _ | show ACall _ _ _ _ _)); (try ((with_reducible show _ ∨ _); exact kT))))))
    (simp (disch := omega) [go_sem, *, brk]) <;> (try omega)
  | false =>
    have e : fmtP six A p = [] := by rw [fmtP, hok]; rfl
    rw [e]
    rw [hok] at hv
    clear e
    repeat' (first | (with_reducible first | apply jA | apply jB | apply jC | apply jD | apply jE | apply jF | apply jG | apply jH | apply jI | apply jJ | apply jK | apply jL | apply jM | apply jN | apply jO) | ((with_reducible first | apply jP | apply jQ); rfl) | ((first | ((with_reducible first | apply jR | apply jS | apply jT); rfl; rfl) | (with_reducible first | apply jU | apply jV | apply jW) | ((with_reducible first | apply jX | apply jY | apply jZ); rfl) | ((with_reducible first | apply kA | apply kB | apply kC); rfl)); all_goals (first | ((with_reducible show Is _ _); exact kE_GK0) | ((with_reducible refine fun (hc : (_ : Bool) = _) => ?_); (try simp only [xZ, xY, xP, reduceCtorEq] at hc); (try (have hx : True := hc; clear hx hc)); (try exact kX)) | ((with_reducible show ACall _ _ _ _ _); (first | ((with_reducible apply hv) <;> exact kD_GK0))) | ((fail_if_success (with_reducible first | show Is _ _ | show ACall _ _ _ _ _)); (try ((with_reducible show _ ∨ _); exact kT))))))
    rfl
end Go.Proofs.YtdceppjoipoohaaDoor
end
section
namespace Go.Proofs.YtdceppjoipoohaaDoor
open Go Go.Sy
set_option linter.all false
set_option maxRecDepth 100000
set_option maxHeartbeats 4000000
theorem dec_eq (m lim : Nat) (h1 : 1 ≤ m) (hm : m ≤ 10) (hl : lim < 10 ^ m) (x : List UInt8) : (decOk 10 x && decide ((decR 10 x : Int) ≤ lim)) = (decOk m x && decide (decV x ≤ lim)) := by
  by_cases h : x.length ≤ m
  · have e : decOk 10 x = decOk m x := by
      have h10 : x.length ≤ 10 := by omega
      simp [decOk, headOk, h, h10]
    rw [← e]
    cases hd : decOk 10 x with
    | false => simp
    | true => simp [decR, hd]
  · have e3 : decOk m x = false := by simp [decOk, headOk, h]
    rw [e3, Bool.false_and, Bool.and_eq_false_iff]
    cases hd : decOk 10 x with
    | false => exact .inl rfl
    | true =>
      right
      rw [decR, if_pos hd]
      cases x with
      | nil => simp at h
      | cons c x =>
        simp only [decOk, Bool.and_eq_true, List.all_cons] at hd
        have hc : 48 ≤ c.toNat ∧ c.toNat ≤ 57 := by simpa [isDig] using hd.2.1
        have hne : c ≠ 48 ∨ x = [] := by
          by_cases hx : x = []
          · exact .inr hx
          left
          intro hc48
          have := hd.1
          simp [headOk, hc48] at this
          exact hx this.2
        simp at h
        have hp : 10 ^ m ≤ 10 ^ x.length := Nat.pow_le_pow_right (by decide) (by omega)
        have hge := foldl_ge x (10 * 0 + (c.toNat - 48))
        have hv : decV (c :: x) = x.foldl (fun n c => 10 * n + (c.toNat - 48)) (10 * 0 + (c.toNat - 48)) := rfl
        rw [hv]
        simp only [decide_eq_false_iff_not]
        rcases hne with hne | rfl
        · have hc1 : 49 ≤ c.toNat := by
            rcases Nat.lt_or_ge c.toNat 49 with h1 | h1
            · exact absurd (UInt8.toNat_inj.1 (by show c.toNat = 48; omega)) hne
            · exact h1
          have : 1 * 10 ^ x.length ≤ (10 * 0 + (c.toNat - 48)) * 10 ^ x.length := Nat.mul_le_mul_right _ (by omega)
          omega
        · simp at h
          omega
def rE (o : Option (Bool × List UInt8 × Nat)) : CV := match o with | some (six, A, n) => .tup [prefC six A n, .int .i64 0] | none => .tup [prefC false z16 0, .int .i64 5]
theorem parse_at {B : List Box} {s : List UInt8} (hs : s.length < 1000000000) : ACall Tryd.prog 19 [.str s] B fun c B' => c = rA (parseA s) ∧ B' = B := acall_fresh (nz := false) rfl (parse_in s hs)
theorem parseA_len {s : List UInt8} {six : Bool} {A : List UInt8} (h : parseA s = some (six, A)) : A.length = 16 := by
  rw [parseA] at h
  split at h
  · exact p4_len (by assumption) h
  · split at h
    · exact p6_len (by assumption) h
    · cases h
end Go.Proofs.YtdceppjoipoohaaDoor
end
section
namespace Go.Proofs.YtdceppjoipoohaaDoor
open Go Go.Sy
set_option linter.all false
set_option maxRecDepth 100000
set_option maxHeartbeats 4000000
def endP (q : Option (Bool × List UInt8)) (y : List UInt8) : Option (Bool × List UInt8 × Nat) :=
  match q with
  | some (six, A) => if decOk 3 y = true ∧ vld six A (decV y) = true then some (six, A, decV y) else none
  | none => none
def twoP : List (List UInt8) → Option (Bool × List UInt8 × Nat)
  | [x, y] => endP (parseA x) y
  | _ => none
def parseP (s : List UInt8) : Option (Bool × List UInt8 × Nat) := twoP (splitL 47 s)
theorem splitL_has (b : UInt8) (s : List UInt8) (h : b ∉ s) : splitL b s = [s] := by
  induction s with
  | nil => rfl
  | cons c s ih =>
    rw [splitL, if_neg fun e => h (by simp [e]), ih fun e => h (by simp [e])]
theorem splitL_len (b : UInt8) : ∀ s : List UInt8, (splitL b s).length = s.count b + 1
  | [] => rfl
  | c :: s => by
    have ih := splitL_len b s
    rw [splitL, List.count_cons]
    split
    · rename_i hc; simp [hc, ih]
    · rename_i hc
      split
      · rename_i he; exact absurd he (splitL_ne b s)
      · rename_i x xs he
        rw [he] at ih
        simp [hc] at ih ⊢; omega
theorem decOk_no {m : Nat} {y : List UInt8} (h : (47 : UInt8) ∈ y) : decOk m y = false := by
  have : y.all isDig = false := by
    rw [List.all_eq_false]
    exact ⟨47, h, by decide⟩
  rw [decOk, this, Bool.and_false]
theorem parseP_cut (s : List UInt8) : parseP s = endP (parseA (Go.Lib.cut s [47]).1) (Go.Lib.cut s [47]).2.1 := by
  have hnil : ∀ q, endP q [] = none := by
    intro q
    rcases q with _ | ⟨six, A⟩
    · rfl
    · rw [endP, if_neg]; rintro ⟨h, _⟩; exact absurd h (by decide)
  rw [Go.Lib.cut]
  have hg := Go.Lib.index_ge s [47]
  by_cases hi : 0 ≤ Go.Lib.index s [47]
  · obtain ⟨i, hi2⟩ : ∃ i : Nat, Go.Lib.index s [47] = i := ⟨(Go.Lib.index s [47]).toNat, by omega⟩
    rw [if_pos hi, hi2]
    rw [parseP, splitL_hit 47 s i hi2]
    show _ = endP (parseA (s.take i)) (s.drop (i + 1))
    by_cases hm : (47 : UInt8) ∈ s.drop (i + 1)
    · have hn : splitL 47 (s.drop (i + 1)) ≠ [s.drop (i + 1)] := fun h => by
        have := congrArg List.length h
        have h2 := splitL_len 47 (s.drop (i + 1))
        rw [this] at h2
        have := List.count_pos_iff.2 hm
        simp at h2
        omega
      have e : endP (parseA (s.take i)) (s.drop (i + 1)) = none := by
        rcases parseA (s.take i) with _ | ⟨six, A⟩
        · rfl
        · rw [endP, if_neg]; rintro ⟨h, _⟩; rw [decOk_no hm] at h; cases h
      rw [e]
      have hl := splitL_len 47 (s.drop (i + 1))
      have := List.count_pos_iff.2 hm
      match hz : splitL 47 (s.drop (i + 1)) with
      | [] => rfl
      | [z] => rw [hz] at hl; simp at hl; omega
      | _ :: _ :: _ => rfl
    · rw [splitL_has 47 _ hm]; rfl
  · have h1 : Go.Lib.index s [47] = -1 := by omega
    rw [if_neg hi, parseP, splitL_miss 47 s h1, hnil]; rfl
theorem cut_le (s : List UInt8) : (Go.Lib.cut s [47]).1.length ≤ s.length ∧ (Go.Lib.cut s [47]).2.1.length ≤ s.length := by
  rw [Go.Lib.cut]
  split <;> simp <;> omega
end Go.Proofs.YtdceppjoipoohaaDoor
end
section
namespace Go.Proofs.YtdceppjoipoohaaDoor
open Go Go.Sy
set_option linter.all false
set_option maxRecDepth 100000
set_option maxHeartbeats 4000000
theorem kE_GN0 {α : Type} {x y : α} (h : Is x y := by first | ((try simp (disch := first | omega | (simp only [yZ, yB] <;> omega) | fail) [go_sem, yY, *, rA, addrC, if_pos, if_neg, -List.map_take, -List.map_drop, -List.map_append, -List.map_reverse]); exact rfl) | fail) : Is x y := h
theorem kD_GN0 {p : Prop} (h : p := by (first | omega | assumption | exact rfl | ((simp (disch := first | omega | (simp only [yZ, yB] <;> omega) | fail) [go_sem, yY, *, rA, addrC, -List.map_take, -List.map_drop, -List.map_append, -List.map_reverse]) <;> (first | done | omega | exact rfl)) | fail)) : p := h
theorem kE_GN1 {α : Type} {x y : α} (h : Is x y := by first | ((try simp (disch := first | omega | (simp only [yZ, yB] <;> omega) | fail) [go_sem, yY, *, prefC, if_pos, if_neg, -List.map_take, -List.map_drop, -List.map_append, -List.map_reverse]); exact rfl) | fail) : Is x y := h
theorem kD_GN1 {p : Prop} (h : p := by (first | omega | assumption | exact rfl | ((simp (disch := first | omega | (simp only [yZ, yB] <;> omega) | fail) [go_sem, yY, *, prefC, -List.map_take, -List.map_drop, -List.map_append, -List.map_reverse]) <;> (first | done | omega | exact rfl)) | fail)) : p := h
theorem parseP_in (s : List UInt8) (hs : s.length < 1000000000) : PC Tryd.prog true 21 [.str s] (rE (parseP s)) := by
  refine acall_intro mixed Tryd.func21 rfl ca21 (by kernel_rfl) (by rw [Tryd.ntmps21]; simp) ?_
  have hcu : ∀ {B : List Box}, ACall Tryd.prog 52 [.str s, .str [47]] B fun c B' => c = .tup [.str (Go.Lib.cut s [47]).1, .str (Go.Lib.cut s [47]).2.1, .bool (Go.Lib.cut s [47]).2.2] ∧ B' = B := cutS_at (by omega)
  have hle := cut_le s
  rw [parseP_cut]
  generalize (Go.Lib.cut s [47]).1 = x at *
  generalize (Go.Lib.cut s [47]).2.1 = y at *
  generalize (Go.Lib.cut s [47]).2.2 = b at *
  have hxl := hle.1
  have hyl := hle.2
  clear hle
  have hde : ∀ {B : List Box}, ACall Tryd.prog 47 [.str y, .int .i64 128] B fun c B' => c = .tup [.int .i64 (decR 10 y), .bool (decOk 3 y && decide (decV y ≤ 128))] ∧ B' = B := by
    intro B
    have := @decimal_at B y 128 (by omega)
    rwa [show (128 : Int) = (128 : Nat) from rfl, dec_eq 3 128 (by decide) (by decide) (by decide)] at this
  have hpa : ∀ {B : List Box}, ACall Tryd.prog 19 [.str x] B fun c B' => c = rA (parseA x) ∧ B' = B := parse_at (by omega)
  have hpl := @parseA_len x
  have hv : decOk 3 y = true → decR 10 y = decV y := fun h => by
    have h10 : decOk 10 y = true := by
      simp only [decOk, headOk, Bool.and_eq_true, decide_eq_true_eq] at h ⊢
      exact ⟨⟨⟨h.1.1.1, by omega⟩, h.1.2⟩, h.2⟩
    rw [decR, if_pos h10]
  generalize parseA x = q at *
  generalize decR 10 y = v at *
  cases q with
  | none =>
    repeat' (first | (with_reducible first | apply jA | apply jB | apply jC | apply jD | apply jE | apply jF | apply jG | apply jH | apply jI | apply jJ | apply jK | apply jL | apply jM | apply jN | apply jO) | ((with_reducible first | apply jP | apply jQ); rfl) | ((first | ((with_reducible first | apply jR | apply jS | apply jT); rfl; rfl) | (with_reducible first | apply jU | apply jV | apply jW) | ((with_reducible first | apply jX | apply jY | apply jZ); rfl) | ((with_reducible first | apply kA | apply kB | apply kC); rfl)); all_goals (first | ((with_reducible show Is _ _); exact kE_GN0) | ((with_reducible refine fun (hc : (_ : Bool) = _) => ?_); (try simp only [xZ, xY, xP, reduceCtorEq] at hc); (try (have hx : True := hc; clear hx hc)); (try exact kX)) | ((with_reducible show ACall _ _ _ _ _); (first | ((with_reducible apply hcu) <;> exact kD_GN0) | ((with_reducible apply hde) <;> exact kD_GN0) | ((with_reducible apply hpa) <;> exact kD_GN0))) | ((fail_if_success (with_reducible first | show Is _ _ | show ACall _ _ _ _ _)); (try ((with_reducible show _ ∨ _); exact kT))))))
    rfl
  | some q =>
    obtain ⟨six, A⟩ := q
    have hA := hpl rfl
    clear hpl
    simp only [rA, addrC] at hpa
    cases hok : decOk 3 y && decide (decV y ≤ 128) with
    | false =>
      rw [hok] at hde
      have e : endP (some (six, A)) y = none := by
        rw [endP, if_neg]
        rintro ⟨h1, h2⟩
        have := vld_range h2
        rw [h1, Bool.true_and, decide_eq_false_iff_not] at hok
        omega
      rw [e]
      clear hok hv e
      repeat' (first | (with_reducible first | apply jA | apply jB | apply jC | apply jD | apply jE | apply jF | apply jG | apply jH | apply jI | apply jJ | apply jK | apply jL | apply jM | apply jN | apply jO) | ((with_reducible first | apply jP | apply jQ); rfl) | ((first | ((with_reducible first | apply jR | apply jS | apply jT); rfl; rfl) | (with_reducible first | apply jU | apply jV | apply jW) | ((with_reducible first | apply jX | apply jY | apply jZ); rfl) | ((with_reducible first | apply kA | apply kB | apply kC); rfl)); all_goals (first | ((with_reducible show Is _ _); exact kE) | ((with_reducible refine fun (hc : (_ : Bool) = _) => ?_); (try simp only [xZ, xY, xP, reduceCtorEq] at hc); (try (have hx : True := hc; clear hx hc)); (try exact kX)) | ((with_reducible show ACall _ _ _ _ _); (first | ((with_reducible apply hcu) <;> exact kD) | ((with_reducible apply hde) <;> exact kD) | ((with_reducible apply hpa) <;> exact kD))) | ((fail_if_success (with_reducible first | show Is _ _ | show ACall _ _ _ _ _)); (try ((with_reducible show _ ∨ _); exact kT))))))
      rfl
    | true =>
      rw [hok] at hde
      rw [Bool.and_eq_true, decide_eq_true_eq] at hok
      have hv := hv hok.1
      have hvl := hok.2
      have hva : ∀ {B : List Box} {args : List CV}, Is (omap (Go.Sy.fz true false B 6) args) (some [prefC six A v]) → ACall Tryd.prog 44 args B fun c B' => c = .bool (vld six A v) ∧ B' = B := fun h => iValid_at h hA
      rw [← hv] at hvl
      cases hd : vld six A v with
      | false =>
        have e : endP (some (six, A)) y = none := by
          rw [endP, if_neg]; rintro ⟨_, h2⟩; rw [← hv, hd] at h2; cases h2
        rw [e]
        rw [hd] at hva
        clear hok hv e hd
        repeat' (first | (with_reducible first | apply jA | apply jB | apply jC | apply jD | apply jE | apply jF | apply jG | apply jH | apply jI | apply jJ | apply jK | apply jL | apply jM | apply jN | apply jO) | ((with_reducible first | apply jP | apply jQ); rfl) | ((first | ((with_reducible first | apply jR | apply jS | apply jT); rfl; rfl) | (with_reducible first | apply jU | apply jV | apply jW) | ((with_reducible first | apply jX | apply jY | apply jZ); rfl) | ((with_reducible first | apply kA | apply kB | apply kC); rfl)); all_goals (first | ((with_reducible show Is _ _); exact kE_GN1) | ((with_reducible refine fun (hc : (_ : Bool) = _) => ?_); (try simp only [xZ, xY, xP, reduceCtorEq] at hc); (try (have hx : True := hc; clear hx hc)); (try exact kX)) | ((with_reducible show ACall _ _ _ _ _); (first | ((with_reducible apply hcu) <;> exact kD_GN1) | ((with_reducible apply hde) <;> exact kD_GN1) | ((with_reducible apply hpa) <;> exact kD_GN1) | ((with_reducible apply hva) <;> exact kD_GN1))) | ((fail_if_success (with_reducible first | show Is _ _ | show ACall _ _ _ _ _)); (try ((with_reducible show _ ∨ _); exact kT))))))
        rfl
      | true =>
        have e : endP (some (six, A)) y = some (six, A, v) := by
          rw [endP, if_pos ⟨hok.1, by rw [← hv, hd]⟩, hv]
        rw [e]
        rw [hd] at hva
        clear hok hv e hd
        repeat' (first | (with_reducible first | apply jA | apply jB | apply jC | apply jD | apply jE | apply jF | apply jG | apply jH | apply jI | apply jJ | apply jK | apply jL | apply jM | apply jN | apply jO) | ((with_reducible first | apply jP | apply jQ); rfl) | ((first | ((with_reducible first | apply jR | apply jS | apply jT); rfl; rfl) | (with_reducible first | apply jU | apply jV | apply jW) | ((with_reducible first | apply jX | apply jY | apply jZ); rfl) | ((with_reducible first | apply kA | apply kB | apply kC); rfl)); all_goals (first | ((with_reducible show Is _ _); exact kE_GN1) | ((with_reducible refine fun (hc : (_ : Bool) = _) => ?_); (try simp only [xZ, xY, xP, reduceCtorEq] at hc); (try (have hx : True := hc; clear hx hc)); (try exact kX)) | ((with_reducible show ACall _ _ _ _ _); (first | ((with_reducible apply hcu) <;> exact kD_GN1) | ((with_reducible apply hde) <;> exact kD_GN1) | ((with_reducible apply hpa) <;> exact kD_GN1) | ((with_reducible apply hva) <;> exact kD_GN1))) | ((fail_if_success (with_reducible first | show Is _ _ | show ACall _ _ _ _ _)); (try ((with_reducible show _ ∨ _); exact kT))))))
        (simp (disch := omega) [go_sem, *, rE, prefC]) <;> (try omega)
end Go.Proofs.YtdceppjoipoohaaDoor
end
section
namespace Go.Proofs.YtdceppjoipoohaaDoor
open Go Go.Sy
set_option linter.all false
set_option maxRecDepth 100000
set_option maxHeartbeats 4000000
theorem kE_GP0 {α : Type} {x y : α} (h : Is x y := by first | ((try simp (disch := first | omega | (simp only [yZ, yB] <;> omega) | fail) [go_sem, yY, *, host00, z12, addrC, byteC, if_pos, if_neg, -List.map_take, -List.map_drop, -List.map_append, -List.map_reverse]); exact rfl) | fail) : Is x y := h
theorem kE_GP1 {α : Type} {x y : α} (h : Is x y := by first | ((try simp (disch := first | omega | (simp only [yZ, yB] <;> omega) | fail) [go_sem, yY, *, prefC, addrC, if_pos, if_neg, -List.map_take, -List.map_drop, -List.map_append, -List.map_reverse]); exact rfl) | fail) : Is x y := h
theorem kD_GP1 {p : Prop} (h : p := by (first | omega | assumption | exact rfl | ((simp (disch := first | omega | (simp only [yZ, yB] <;> omega) | fail) [go_sem, yY, *, prefC, addrC, -List.map_take, -List.map_drop, -List.map_append, -List.map_reverse]) <;> (first | done | omega | exact rfl)) | fail)) : p := h
theorem fmtE_len (six : Bool) (A : List UInt8) (p : Int) : (fmtE six A p).length < 1000 := by
  rw [fmtE]
  split
  · rename_i h
    have h1 := fmtA_len six A
    have h2 := decDigits_len 4 p.toNat (by omega)
    have h3 : (brk six (fmtA six A)).length ≤ (fmtA six A).length + 2 := by rw [brk]; split <;> simp
    rw [List.length_append, List.length_cons]; omega
  · simp
theorem fmtP_len (six : Bool) (A : List UInt8) (p : Int) : (fmtP six A p).length < 1000 := by
  rw [fmtP]
  split
  · rename_i h
    have h0 := vld_range h
    have h1 := fmtA_len six A
    have h2 := decDigits_len 4 p.toNat (by omega)
    rw [List.length_append, List.length_cons]; omega
  · simp
theorem parseP_at {B : List Box} {s : List UInt8} (hs : s.length < 1000000000) : ACall Tryd.prog 21 [.str s] B fun c B' => c = rE (parseP s) ∧ B' = B := acall_fresh (nz := false) rfl (parseP_in s hs)
theorem fmtE_at {B : List Box} {args : List CV} {six : Bool} {A : List UInt8} {p : Int} (hz : Is (omap (Go.Sy.fz true false B 6) args) (some [prefC six A p])) (hA : A.length = 16) (hp : -9223372036854775808 ≤ p ∧ p ≤ 9223372036854775807) : ACall Tryd.prog 16 args B fun c B' => c = .str (fmtE six A p) ∧ B' = B := acall_fresh hz (fmtE_in six A p hA hp)
theorem rfmtE_at {B : List Box} {args : List CV} {six : Bool} {A : List UInt8} {p : Int} (hz : Is (omap (Go.Sy.fz true false B 6) args) (some [prefC six A p])) (hA : A.length = 16) (hp : -9223372036854775808 ≤ p ∧ p ≤ 9223372036854775807) : ACall Tryd.prog 12 args B fun c B' => c = .str (fmtE six A p) ∧ B' = B := acall_fresh hz (rfmtE_in six A p hA hp)
theorem fmtP_at {B : List Box} {args : List CV} {six : Bool} {A : List UInt8} {p : Int} (hz : Is (omap (Go.Sy.fz true false B 6) args) (some [prefC six A p])) (hA : A.length = 16) (hp : -9223372036854775808 ≤ p ∧ p ≤ 9223372036854775807) : ACall Tryd.prog 17 args B fun c B' => c = .str (fmtP six A p) ∧ B' = B := acall_fresh hz (fmtP_in six A p hA hp)
theorem rfmtP_at {B : List Box} {args : List CV} {six : Bool} {A : List UInt8} {p : Int} (hz : Is (omap (Go.Sy.fz true false B 6) args) (some [prefC six A p])) (hA : A.length = 16) (hp : -9223372036854775808 ≤ p ∧ p ≤ 9223372036854775807) : ACall Tryd.prog 13 args B fun c B' => c = .str (fmtP six A p) ∧ B' = B := acall_fresh hz (rfmtP_in six A p hA hp)
def host00 : List UInt8 := [10, 0, 0, 0] ++ z12
theorem host_in : PC Tryd.prog true 45 [.int .i64 0, .int .i64 0] (addrC false host00) := by
  refine acall_intro mixed Tryd.func45 rfl ca45 (by kernel_rfl) (by rw [Tryd.ntmps45]; simp) ?_
  repeat' (first | (with_reducible first | apply jA | apply jB | apply jC | apply jD | apply jE | apply jF | apply jG | apply jH | apply jI | apply jJ | apply jK | apply jL | apply jM | apply jN | apply jO) | ((with_reducible first | apply jP | apply jQ); rfl) | ((first | ((with_reducible first | apply jR | apply jS | apply jT); rfl; rfl) | (with_reducible first | apply jU | apply jV | apply jW) | ((with_reducible first | apply jX | apply jY | apply jZ); rfl)); all_goals (first | ((with_reducible show Is _ _); exact kE_GP0) | ((with_reducible refine fun (hc : (_ : Bool) = _) => ?_); (try simp only [xZ, xY, xP, reduceCtorEq] at hc); (try (have hx : True := hc; clear hx hc)); (try exact kX)) | ((fail_if_success (with_reducible first | show Is _ _ | show ACall _ _ _ _ _)); (try ((with_reducible show _ ∨ _); exact kT))))))
  rfl
theorem fmt_ten : fmtP false (cutL host00 8) 8 = [49, 48, 46, 48, 46, 48, 46, 48, 47, 56] := by
  have e : cutL host00 8 = host00 := by decide +kernel
  have hv : vld false host00 8 = true := by decide +kernel
  rw [e, fmtP, if_pos hv, fmtA, if_pos (by decide +kernel)]
  simp only [parts4, show List.range 4 = [0, 1, 2, 3] from rfl, List.map_cons, List.map_nil, Go.Lib.join_cons, Go.Lib.joinTail]
  have h0 : Go.Lib.decDigits 0 = [48] := by rw [Go.Lib.decDigits]; rfl
  have h8 : Go.Lib.decDigits 8 = [56] := by rw [Go.Lib.decDigits]; rfl
  have h1 : Go.Lib.decDigits 1 = [49] := by rw [Go.Lib.decDigits]; rfl
  have h10 : Go.Lib.decDigits 10 = [49, 48] := by rw [Go.Lib.decDigits, dif_neg (by decide), show 10 / 10 = 1 from rfl, h1]; rfl
  have e1 : (host00.getD 0 0).toNat = 10 := rfl
  have e2 : (host00.getD 1 0).toNat = 0 := rfl
  have e3 : (host00.getD 2 0).toNat = 0 := rfl
  have e4 : (host00.getD 3 0).toNat = 0 := rfl
  rw [e1, e2, e3, e4, h10, h0, show (8 : Int).toNat = 8 from rfl, h8]
  rfl
theorem read_ten : parseP [49, 48, 46, 48, 46, 48, 46, 49, 47, 56] = none := by decide +kernel
theorem begun_in : PC Tryd.prog true 18 [] (.bool true) := by
  have h1 : ∀ {B : List Box} {args : List CV}, Is (omap (Go.Sy.fz true false B 6) args) (some [.int .i64 0, .int .i64 0]) → ACall Tryd.prog 45 args B fun c B' => c = addrC false host00 ∧ B' = B := fun h => acall_fresh h host_in
  have h2 : ∀ {B : List Box} {args : List CV}, Is (omap (Go.Sy.fz true false B 6) args) (some [addrC false host00, .int .i64 8]) → ACall Tryd.prog 32 args B fun c B' => c = prefC false (cutL host00 8) 8 ∧ B' = B := fun h => masked_at (s := 8) h rfl rfl (by decide)
  have hcl : (cutL host00 8).length = 16 := cutL_len _ _
  have h3 : ∀ {B : List Box} {args : List CV}, Is (omap (Go.Sy.fz true false B 6) args) (some [prefC false (cutL host00 8) 8]) → ACall Tryd.prog 17 args B fun c B' => c = .str [49, 48, 46, 48, 46, 48, 46, 48, 47, 56] ∧ B' = B := fun h => by
    rw [← fmt_ten]
    exact fmtP_at h hcl (by decide)
  have h4 : ∀ {B : List Box}, ACall Tryd.prog 21 [.str [49, 48, 46, 48, 46, 48, 46, 49, 47, 56]] B fun c B' => c = .tup [prefC false z16 0, .int .i64 5] ∧ B' = B := by
    intro B
    have := @parseP_at B [49, 48, 46, 48, 46, 48, 46, 49, 47, 56] (by decide)
    rwa [read_ten] at this
  have hl : host00.length = 16 := rfl
  have hz : z16.length = 16 := rfl
  generalize cutL host00 8 = C at *
  generalize host00 = H at *
  generalize z16 = Z at *
  refine acall_intro mixed Tryd.func18 rfl ca18 (by kernel_rfl) (by rw [Tryd.ntmps18]; simp) ?_
  repeat' (first | (with_reducible first | apply jA | apply jB | apply jC | apply jD | apply jE | apply jF | apply jG | apply jH | apply jI | apply jJ | apply jK | apply jL | apply jM | apply jN | apply jO) | ((with_reducible first | apply jP | apply jQ); rfl) | ((first | ((with_reducible first | apply jR | apply jS | apply jT); rfl; rfl) | (with_reducible first | apply jU | apply jV | apply jW) | ((with_reducible first | apply jX | apply jY | apply jZ); rfl) | ((with_reducible first | apply kA | apply kB | apply kC); rfl)); all_goals (first | ((with_reducible show Is _ _); exact kE_GP1) | ((with_reducible refine fun (hc : (_ : Bool) = _) => ?_); (try simp only [xZ, xY, xP, reduceCtorEq] at hc); (try (have hx : True := hc; clear hx hc)); (try exact kX)) | ((with_reducible show ACall _ _ _ _ _); (first | ((with_reducible apply h1) <;> exact kD_GP1) | ((with_reducible apply h2) <;> exact kD_GP1) | ((with_reducible apply h3) <;> exact kD_GP1) | ((with_reducible apply h4) <;> exact kD_GP1))) | ((fail_if_success (with_reducible first | show Is _ _ | show ACall _ _ _ _ _)); (try ((with_reducible show _ ∨ _); exact kT))))))
  all_goals rfl
theorem begun_at {B : List Box} {args : List CV} (hz : Is (omap (Go.Sy.fz true false B 6) args) (some [])) : ACall Tryd.prog 18 args B fun c B' => c = .bool true ∧ B' = B := acall_fresh hz begun_in
end Go.Proofs.YtdceppjoipoohaaDoor
end
section
namespace Go.Proofs.YtdceppjoipoohaaDoor
open Go Go.Sy
set_option linter.all false
set_option maxRecDepth 100000
set_option maxHeartbeats 4000000
abbrev Pf := (Bool × List UInt8) × Int
abbrev Pe := List UInt8 × List UInt8 × Bool × Pf × Int × List Pf
def pfC (p : (Bool × List UInt8) × Int) : List CV := (.bool p.1.1 :: p.1.2.map byteC) ++ [.int .i64 p.2]
def peC (p : List UInt8 × List UInt8 × Bool × ((Bool × List UInt8) × Int) × Int × List ((Bool × List UInt8) × Int)) : List CV := p.1.map byteC ++ (p.2.1.map byteC ++ ([.bool p.2.2.1] ++ (pfC p.2.2.2.1 ++ ([.int .i64 p.2.2.2.2.1] ++ [.lst p.2.2.2.2.2.length (p.2.2.2.2.2.flatMap pfC) false]))))
def PfL (p : Pf) : Prop := p.1.2.length = 16 ∧ -9223372036854775808 ≤ p.2 ∧ p.2 ≤ 9223372036854775807
def PeL (p : Pe) : Prop := p.1.length = 32 ∧ p.2.1.length = 32 ∧ PfL p.2.2.2.1 ∧ (-9223372036854775808 ≤ p.2.2.2.2.1 ∧ p.2.2.2.2.1 ≤ 9223372036854775807) ∧ ∀ q ∈ p.2.2.2.2.2, PfL q
theorem pfC_len {p : Pf} (h : PfL p) : (pfC p).length = 18 := by simp [pfC, h.1]
theorem peC_len {p : Pe} (h : PeL p) : (peC p).length = 85 := by
  have := pfC_len h.2.2.1
  simp [peC, h.1, h.2.1, this]
@[go_sem] theorem pf_om1 {nz fr : Bool} {B : List Box} {k : Nat} (t : (Bool × List UInt8) × Int) : omap (Go.Sy.fz nz fr B (k + 1)) (pfC t) = some (pfC t) := by simp [pfC, go_sem]
@[go_sem] theorem pf_om {nz fr : Bool} {B : List Box} {k : Nat} (L : List ((Bool × List UInt8) × Int)) : omap (Go.Sy.fz nz fr B (k + 1)) (L.flatMap pfC) = some (L.flatMap pfC) := omap_fl pf_om1 L
@[go_sem] theorem pe_om1 {nz : Bool} {B : List Box} {k : Nat} (t : List UInt8 × List UInt8 × Bool × ((Bool × List UInt8) × Int) × Int × List ((Bool × List UInt8) × Int)) : omap (Go.Sy.fz nz false B (k + 2)) (peC t) = some (peC t) := by simp [peC, pfC, go_sem]
@[go_sem] theorem pe_om {nz : Bool} {B : List Box} {k : Nat} (L : List (List UInt8 × List UInt8 × Bool × ((Bool × List UInt8) × Int) × Int × List ((Bool × List UInt8) × Int))) : omap (Go.Sy.fz nz false B (k + 2)) (L.flatMap peC) = some (L.flatMap peC) := omap_fl pe_om1 L
def pfO : (Bool × List UInt8) × Int := ((false, List.replicate 16 0), 0)
theorem pfIndexFunc_at {B : List Box} {args : List CV} {L : List ((Bool × List UInt8) × Int)} {s : CV} {g : FuncId} {first caps : List CV} {p : ((Bool × List UInt8) × Int) → Bool} (ha : Is args [s, .fn (.func g) first caps]) (hs : Row pfC 18 B s L) (hg : ∀ a ∈ L, ACall Tryd.prog g (first ++ [.agg (pfC a)] ++ caps) B fun c B' => c = .bool (p a) ∧ B' = B) :
    ACall Tryd.prog 104 args B fun c B' => c = .int .i64 (idxF p L) ∧ B' = B := by
  have ha : args = _ := ha
  subst ha
  have hn := hs.small
  obtain ⟨cs, hcs, hs⟩ := hs.at_
  refine acall_intro mixed Tryd.func104 rfl ca104 (by kernel_rfl) (by rw [Tryd.ntmps104]; simp) ?_
  rcases hs with ⟨fl, e⟩ | ⟨b, cap, e, hb⟩ | ⟨b, fl, _ | _, e, hb⟩
  all_goals
    repeat' (first | (with_reducible first | apply jA | apply jB | apply jC | apply jD | apply jE | apply jF | apply jG | apply jH | apply jI | apply jJ | apply jK | apply jL | apply jM | apply jN | apply jO) | ((with_reducible first | apply jP | apply jQ); rfl) | ((first | ((with_reducible first | apply jR | apply jS | apply jT); rfl; rfl) | (with_reducible first | apply jU | apply jV | apply jW) | ((with_reducible first | apply jX | apply jY | apply jZ); rfl)); all_goals (first | ((with_reducible show Is _ _); exact kE) | ((with_reducible refine fun (hc : (_ : Bool) = _) => ?_); (try simp only [xZ, xY, xP, reduceCtorEq] at hc); (try (have hx : True := hc; clear hx hc)); (try exact kX)) | ((fail_if_success (with_reducible first | show Is _ _ | show ACall _ _ _ _ _)); (try ((with_reducible show _ ∨ _); exact kT))))))
    refine w_loop (fun fr B' => ∃ i : Nat, i ≤ L.length ∧ i ≤ L.findIdx p ∧ fr 8 = .int .i64 i ∧ fr 7 = .int .i64 L.length ∧ fr 0 = s ∧ fr 1 = .fn (.func g) first caps ∧ B' = B) (fun fr _ => L.length - natOf (fr 8)) ?_ ?_
    · exact ⟨0, by omega, by omega, by (simp (disch := omega) [go_sem, *]) <;> (try omega), by (simp (disch := omega) [go_sem, *]) <;> (try omega), by (simp (disch := omega) [go_sem, *]) <;> (try omega), by (simp (disch := omega) [go_sem, *]) <;> (try omega), rfl⟩
    · rintro fr B' ⟨i, hi, hf, h8, h7, h0, h1, rfl⟩
      by_cases hc : i < L.length
      · obtain ⟨c1, c2⟩ := hcs i hc
        have c3 : (pfC L[i]).length = 18 := by rw [← c2, List.length_take, List.length_drop]; omega
        have c4 : (pfC L[i]).take 18 = pfC L[i] := List.take_of_length_le (by omega)
        have hgi : ∀ (B : List Box) (args : List CV), B = B' → args = first ++ (.agg (pfC L[i]) :: caps) → ACall Tryd.prog g args B fun c B'' => c = .bool (p L[i]) ∧ B'' = B := fun B args h1 h2 => by subst h1 h2; simpa using hg L[i] (List.getElem_mem hc)
        by_cases hp : p L[i] = true
        · have e : L.findIdx p = i := fI_at hc hp hf
          rw [idxF, e, if_pos hc]
          repeat' (first | (with_reducible first | apply jA | apply jB | apply jC | apply jD | apply jE | apply jF | apply jG | apply jH | apply jI | apply jJ | apply jK | apply jL | apply jM | apply jN | apply jO) | ((with_reducible first | apply jP | apply jQ); rfl) | ((first | ((with_reducible first | apply jR | apply jS | apply jT); rfl; rfl) | (with_reducible first | apply jU | apply jV | apply jW) | ((with_reducible first | apply jX | apply jY | apply jZ); rfl) | ((with_reducible first | apply kA | apply kB | apply kC); rfl)); all_goals (first | ((with_reducible show Is _ _); exact kE) | ((with_reducible refine fun (hc : (_ : Bool) = _) => ?_); (try simp only [xZ, xY, xP, reduceCtorEq] at hc); (try (have hx : True := hc; clear hx hc)); (try exact kX)) | ((with_reducible show ACall _ _ _ _ _); (first | ((with_reducible apply hgi) <;> exact kD))) | ((fail_if_success (with_reducible first | show Is _ _ | show ACall _ _ _ _ _)); (try ((with_reducible show _ ∨ _); exact kT))))))
          exact ⟨rfl, rfl⟩
        · have e : i + 1 ≤ L.findIdx p := fI_next hc hp hf
          repeat' (first | (with_reducible first | apply jA | apply jB | apply jC | apply jD | apply jE | apply jF | apply jG | apply jH | apply jI | apply jJ | apply jK | apply jL | apply jM | apply jN | apply jO) | ((with_reducible first | apply jP | apply jQ); rfl) | ((first | ((with_reducible first | apply jR | apply jS | apply jT); rfl; rfl) | (with_reducible first | apply jU | apply jV | apply jW) | ((with_reducible first | apply jX | apply jY | apply jZ); rfl) | ((with_reducible first | apply kA | apply kB | apply kC); rfl)); all_goals (first | ((with_reducible show Is _ _); exact kE) | ((with_reducible refine fun (hc : (_ : Bool) = _) => ?_); (try simp only [xZ, xY, xP, reduceCtorEq] at hc); (try (have hx : True := hc; clear hx hc)); (try exact kX)) | ((with_reducible show ACall _ _ _ _ _); (first | ((with_reducible apply hgi) <;> exact kD))) | ((fail_if_success (with_reducible first | show Is _ _ | show ACall _ _ _ _ _)); (try ((with_reducible show _ ∨ _); exact kT))))))
          exact ⟨⟨i + 1, by omega, e, by (simp (disch := omega) [go_sem, *]) <;> (try omega), by (simp (disch := omega) [go_sem, *]) <;> (try omega), by (simp (disch := omega) [go_sem, *]) <;> (try omega), by (simp (disch := omega) [go_sem, *]) <;> (try omega), rfl⟩, by (simp (disch := omega) [go_sem, *]) <;> (try omega)⟩
      · rw [idxF, if_neg (by omega)]
        repeat' (first | (with_reducible first | apply jA | apply jB | apply jC | apply jD | apply jE | apply jF | apply jG | apply jH | apply jI | apply jJ | apply jK | apply jL | apply jM | apply jN | apply jO) | ((with_reducible first | apply jP | apply jQ); rfl) | ((first | ((with_reducible first | apply jR | apply jS | apply jT); rfl; rfl) | (with_reducible first | apply jU | apply jV | apply jW) | ((with_reducible first | apply jX | apply jY | apply jZ); rfl)); all_goals (first | ((with_reducible show Is _ _); exact kE) | ((with_reducible refine fun (hc : (_ : Bool) = _) => ?_); (try simp only [xZ, xY, xP, reduceCtorEq] at hc); (try (have hx : True := hc; clear hx hc)); (try exact kX)) | ((fail_if_success (with_reducible first | show Is _ _ | show ACall _ _ _ _ _)); (try ((with_reducible show _ ∨ _); exact kT))))))
        exact ⟨rfl, rfl⟩
theorem pfContainsFunc_at {B : List Box} {args : List CV} {L : List ((Bool × List UInt8) × Int)} {s : CV} {g : FuncId} {first caps : List CV} {p : ((Bool × List UInt8) × Int) → Bool} (ha : Is args [s, .fn (.func g) first caps]) (hs : Row pfC 18 B s L) (hg : ∀ a ∈ L, ACall Tryd.prog g (first ++ [.agg (pfC a)] ++ caps) B fun c B' => c = .bool (p a) ∧ B' = B) :
    ACall Tryd.prog 88 args B fun c B' => c = .bool (L.any p) ∧ B' = B := by
  have ha : args = _ := ha
  subst ha
  have hidx : ∀ (args : List CV), Is args [s, .fn (.func g) first caps] → ACall Tryd.prog 104 args B fun c B' => c = .int .i64 (idxF p L) ∧ B' = B := fun args h => pfIndexFunc_at h hs hg
  rw [← idxF_any]
  generalize idxF p L = x at *
  refine acall_intro mixed Tryd.func88 rfl ca88 (by kernel_rfl) (by rw [Tryd.ntmps88]; simp) ?_
  repeat' (first | (with_reducible first | apply jA | apply jB | apply jC | apply jD | apply jE | apply jF | apply jG | apply jH | apply jI | apply jJ | apply jK | apply jL | apply jM | apply jN | apply jO) | ((with_reducible first | apply jP | apply jQ); rfl) | ((first | ((with_reducible first | apply jR | apply jS | apply jT); rfl; rfl) | (with_reducible first | apply jU | apply jV | apply jW) | ((with_reducible first | apply jX | apply jY | apply jZ); rfl) | ((with_reducible first | apply kA | apply kB | apply kC); rfl)); all_goals (first | ((with_reducible show Is _ _); exact kE) | ((with_reducible refine fun (hc : (_ : Bool) = _) => ?_); (try simp only [xZ, xY, xP, reduceCtorEq] at hc); (try (have hx : True := hc; clear hx hc)); (try exact kX)) | ((with_reducible show ACall _ _ _ _ _); (first | ((with_reducible apply hidx) <;> exact kD))) | ((fail_if_success (with_reducible first | show Is _ _ | show ACall _ _ _ _ _)); (try ((with_reducible show _ ∨ _); exact kT))))))
  all_goals exact ⟨rfl, rfl⟩
theorem peIndexFunc_at {B : List Box} {args : List CV} {L : List (List UInt8 × List UInt8 × Bool × ((Bool × List UInt8) × Int) × Int × List ((Bool × List UInt8) × Int))} {s : CV} {g : FuncId} {first caps : List CV} {p : (List UInt8 × List UInt8 × Bool × ((Bool × List UInt8) × Int) × Int × List ((Bool × List UInt8) × Int)) → Bool} (ha : Is args [s, .fn (.func g) first caps]) (hs : Row peC 85 B s L) (hg : ∀ a ∈ L, ACall Tryd.prog g (first ++ [.agg (peC a)] ++ caps) B fun c B' => c = .bool (p a) ∧ B' = B) :
    ACall Tryd.prog 87 args B fun c B' => c = .int .i64 (idxF p L) ∧ B' = B := by
  have ha : args = _ := ha
  subst ha
  have hn := hs.small
  obtain ⟨cs, hcs, hs⟩ := hs.at_
  refine acall_intro mixed Tryd.func87 rfl ca87 (by kernel_rfl) (by rw [Tryd.ntmps87]; simp) ?_
  rcases hs with ⟨fl, e⟩ | ⟨b, cap, e, hb⟩ | ⟨b, fl, _ | _, e, hb⟩
  all_goals
    repeat' (first | (with_reducible first | apply jA | apply jB | apply jC | apply jD | apply jE | apply jF | apply jG | apply jH | apply jI | apply jJ | apply jK | apply jL | apply jM | apply jN | apply jO) | ((with_reducible first | apply jP | apply jQ); rfl) | ((first | ((with_reducible first | apply jR | apply jS | apply jT); rfl; rfl) | (with_reducible first | apply jU | apply jV | apply jW) | ((with_reducible first | apply jX | apply jY | apply jZ); rfl)); all_goals (first | ((with_reducible show Is _ _); exact kE) | ((with_reducible refine fun (hc : (_ : Bool) = _) => ?_); (try simp only [xZ, xY, xP, reduceCtorEq] at hc); (try (have hx : True := hc; clear hx hc)); (try exact kX)) | ((fail_if_success (with_reducible first | show Is _ _ | show ACall _ _ _ _ _)); (try ((with_reducible show _ ∨ _); exact kT))))))
    refine w_loop (fun fr B' => ∃ i : Nat, i ≤ L.length ∧ i ≤ L.findIdx p ∧ fr 8 = .int .i64 i ∧ fr 7 = .int .i64 L.length ∧ fr 0 = s ∧ fr 1 = .fn (.func g) first caps ∧ B' = B) (fun fr _ => L.length - natOf (fr 8)) ?_ ?_
    · exact ⟨0, by omega, by omega, by (simp (disch := omega) [go_sem, *]) <;> (try omega), by (simp (disch := omega) [go_sem, *]) <;> (try omega), by (simp (disch := omega) [go_sem, *]) <;> (try omega), by (simp (disch := omega) [go_sem, *]) <;> (try omega), rfl⟩
    · rintro fr B' ⟨i, hi, hf, h8, h7, h0, h1, rfl⟩
      by_cases hc : i < L.length
      · obtain ⟨c1, c2⟩ := hcs i hc
        have c3 : (peC L[i]).length = 85 := by rw [← c2, List.length_take, List.length_drop]; omega
        have c4 : (peC L[i]).take 85 = peC L[i] := List.take_of_length_le (by omega)
        have hgi : ∀ (B : List Box) (args : List CV), B = B' → args = first ++ (.agg (peC L[i]) :: caps) → ACall Tryd.prog g args B fun c B'' => c = .bool (p L[i]) ∧ B'' = B := fun B args h1 h2 => by subst h1 h2; simpa using hg L[i] (List.getElem_mem hc)
        by_cases hp : p L[i] = true
        · have e : L.findIdx p = i := fI_at hc hp hf
          rw [idxF, e, if_pos hc]
          repeat' (first | (with_reducible first | apply jA | apply jB | apply jC | apply jD | apply jE | apply jF | apply jG | apply jH | apply jI | apply jJ | apply jK | apply jL | apply jM | apply jN | apply jO) | ((with_reducible first | apply jP | apply jQ); rfl) | ((first | ((with_reducible first | apply jR | apply jS | apply jT); rfl; rfl) | (with_reducible first | apply jU | apply jV | apply jW) | ((with_reducible first | apply jX | apply jY | apply jZ); rfl) | ((with_reducible first | apply kA | apply kB | apply kC); rfl)); all_goals (first | ((with_reducible show Is _ _); exact kE) | ((with_reducible refine fun (hc : (_ : Bool) = _) => ?_); (try simp only [xZ, xY, xP, reduceCtorEq] at hc); (try (have hx : True := hc; clear hx hc)); (try exact kX)) | ((with_reducible show ACall _ _ _ _ _); (first | ((with_reducible apply hgi) <;> exact kD))) | ((fail_if_success (with_reducible first | show Is _ _ | show ACall _ _ _ _ _)); (try ((with_reducible show _ ∨ _); exact kT))))))
          exact ⟨rfl, rfl⟩
        · have e : i + 1 ≤ L.findIdx p := fI_next hc hp hf
          repeat' (first | (with_reducible first | apply jA | apply jB | apply jC | apply jD | apply jE | apply jF | apply jG | apply jH | apply jI | apply jJ | apply jK | apply jL | apply jM | apply jN | apply jO) | ((with_reducible first | apply jP | apply jQ); rfl) | ((first | ((with_reducible first | apply jR | apply jS | apply jT); rfl; rfl) | (with_reducible first | apply jU | apply jV | apply jW) | ((with_reducible first | apply jX | apply jY | apply jZ); rfl) | ((with_reducible first | apply kA | apply kB | apply kC); rfl)); all_goals (first | ((with_reducible show Is _ _); exact kE) | ((with_reducible refine fun (hc : (_ : Bool) = _) => ?_); (try simp only [xZ, xY, xP, reduceCtorEq] at hc); (try (have hx : True := hc; clear hx hc)); (try exact kX)) | ((with_reducible show ACall _ _ _ _ _); (first | ((with_reducible apply hgi) <;> exact kD))) | ((fail_if_success (with_reducible first | show Is _ _ | show ACall _ _ _ _ _)); (try ((with_reducible show _ ∨ _); exact kT))))))
          exact ⟨⟨i + 1, by omega, e, by (simp (disch := omega) [go_sem, *]) <;> (try omega), by (simp (disch := omega) [go_sem, *]) <;> (try omega), by (simp (disch := omega) [go_sem, *]) <;> (try omega), by (simp (disch := omega) [go_sem, *]) <;> (try omega), rfl⟩, by (simp (disch := omega) [go_sem, *]) <;> (try omega)⟩
      · rw [idxF, if_neg (by omega)]
        repeat' (first | (with_reducible first | apply jA | apply jB | apply jC | apply jD | apply jE | apply jF | apply jG | apply jH | apply jI | apply jJ | apply jK | apply jL | apply jM | apply jN | apply jO) | ((with_reducible first | apply jP | apply jQ); rfl) | ((first | ((with_reducible first | apply jR | apply jS | apply jT); rfl; rfl) | (with_reducible first | apply jU | apply jV | apply jW) | ((with_reducible first | apply jX | apply jY | apply jZ); rfl)); all_goals (first | ((with_reducible show Is _ _); exact kE) | ((with_reducible refine fun (hc : (_ : Bool) = _) => ?_); (try simp only [xZ, xY, xP, reduceCtorEq] at hc); (try (have hx : True := hc; clear hx hc)); (try exact kX)) | ((fail_if_success (with_reducible first | show Is _ _ | show ACall _ _ _ _ _)); (try ((with_reducible show _ ∨ _); exact kT))))))
        exact ⟨rfl, rfl⟩
theorem peContainsFunc_at {B : List Box} {args : List CV} {L : List (List UInt8 × List UInt8 × Bool × ((Bool × List UInt8) × Int) × Int × List ((Bool × List UInt8) × Int))} {s : CV} {g : FuncId} {first caps : List CV} {p : (List UInt8 × List UInt8 × Bool × ((Bool × List UInt8) × Int) × Int × List ((Bool × List UInt8) × Int)) → Bool} (ha : Is args [s, .fn (.func g) first caps]) (hs : Row peC 85 B s L) (hg : ∀ a ∈ L, ACall Tryd.prog g (first ++ [.agg (peC a)] ++ caps) B fun c B' => c = .bool (p a) ∧ B' = B) :
    ACall Tryd.prog 61 args B fun c B' => c = .bool (L.any p) ∧ B' = B := by
  have ha : args = _ := ha
  subst ha
  have hidx : ∀ (args : List CV), Is args [s, .fn (.func g) first caps] → ACall Tryd.prog 87 args B fun c B' => c = .int .i64 (idxF p L) ∧ B' = B := fun args h => peIndexFunc_at h hs hg
  rw [← idxF_any]
  generalize idxF p L = x at *
  refine acall_intro mixed Tryd.func61 rfl ca61 (by kernel_rfl) (by rw [Tryd.ntmps61]; simp) ?_
  repeat' (first | (with_reducible first | apply jA | apply jB | apply jC | apply jD | apply jE | apply jF | apply jG | apply jH | apply jI | apply jJ | apply jK | apply jL | apply jM | apply jN | apply jO) | ((with_reducible first | apply jP | apply jQ); rfl) | ((first | ((with_reducible first | apply jR | apply jS | apply jT); rfl; rfl) | (with_reducible first | apply jU | apply jV | apply jW) | ((with_reducible first | apply jX | apply jY | apply jZ); rfl) | ((with_reducible first | apply kA | apply kB | apply kC); rfl)); all_goals (first | ((with_reducible show Is _ _); exact kE) | ((with_reducible refine fun (hc : (_ : Bool) = _) => ?_); (try simp only [xZ, xY, xP, reduceCtorEq] at hc); (try (have hx : True := hc; clear hx hc)); (try exact kX)) | ((with_reducible show ACall _ _ _ _ _); (first | ((with_reducible apply hidx) <;> exact kD))) | ((fail_if_success (with_reducible first | show Is _ _ | show ACall _ _ _ _ _)); (try ((with_reducible show _ ∨ _); exact kT))))))
  all_goals exact ⟨rfl, rfl⟩
end Go.Proofs.YtdceppjoipoohaaDoor
end
section
namespace Go.Proofs.YtdceppjoipoohaaDoor
open Go Go.Sy
set_option linter.all false
set_option maxRecDepth 100000
set_option maxHeartbeats 4000000
def okEP (p : Pf) : Bool := okA p.1.1 p.1.2 && (decide (1 ≤ p.2) && decide (p.2 ≤ 65535))
def timed (n : Int) : Bool := n == 0 || (decide (1000 ≤ n) && decide (n ≤ 1073741824))
def vldP (q : Pf) : Bool := vld q.1.1 q.1.2 q.2
def okPe (p : Pe) : Bool := (if p.2.2.1 then okEP p.2.2.2.1 else p.2.2.2.1 == pfO) && (timed p.2.2.2.2.1 && p.2.2.2.2.2.all vldP)
theorem fmtE_nil (p : Pf) : (fmtE p.1.1 p.1.2 p.2 == []) = !okEP p := by
  rw [fmtE, okEP]
  by_cases h : okA p.1.1 p.1.2 = true ∧ 1 ≤ p.2 ∧ p.2 ≤ 65535
  · rw [if_pos h, h.1, decide_eq_true h.2.1, decide_eq_true h.2.2]
    simp
  · rw [if_neg h]
    have : (okA p.1.1 p.1.2 && (decide (1 ≤ p.2) && decide (p.2 ≤ 65535))) = false := by
      rw [Bool.eq_false_iff]
      simp only [ne_eq, Bool.and_eq_true, decide_eq_true_eq]
      exact h
    rw [this]; rfl
theorem timed_in (n : Int) : PC Tryd.prog true 91 [.int .i64 n] (.bool (timed n)) := by
  refine acall_intro mixed Tryd.func91 rfl ca91 (by kernel_rfl) (by rw [Tryd.ntmps91]; simp) ?_
  rw [timed]
  by_cases h0 : n = 0
  · subst h0
    repeat' (first | (with_reducible first | apply jA | apply jB | apply jC | apply jD | apply jE | apply jF | apply jG | apply jH | apply jI | apply jJ | apply jK | apply jL | apply jM | apply jN | apply jO) | ((with_reducible first | apply jP | apply jQ); rfl) | ((first | ((with_reducible first | apply jR | apply jS | apply jT); rfl; rfl) | (with_reducible first | apply jU | apply jV | apply jW) | ((with_reducible first | apply jX | apply jY | apply jZ); rfl)); all_goals (first | ((with_reducible show Is _ _); exact kE) | ((with_reducible refine fun (hc : (_ : Bool) = _) => ?_); (try simp only [xZ, xY, xP, reduceCtorEq] at hc); (try (have hx : True := hc; clear hx hc)); (try exact kX)) | ((fail_if_success (with_reducible first | show Is _ _ | show ACall _ _ _ _ _)); (try ((with_reducible show _ ∨ _); exact kT))))))
    rfl
  · have h00 : (n == 0) = false := by simpa using h0
    by_cases h1 : 1000 ≤ n
    · by_cases h2 : n ≤ 1073741824
      · rw [h00, decide_eq_true h1, decide_eq_true h2]
        repeat' (first | (with_reducible first | apply jA | apply jB | apply jC | apply jD | apply jE | apply jF | apply jG | apply jH | apply jI | apply jJ | apply jK | apply jL | apply jM | apply jN | apply jO) | ((with_reducible first | apply jP | apply jQ); rfl) | ((first | ((with_reducible first | apply jR | apply jS | apply jT); rfl; rfl) | (with_reducible first | apply jU | apply jV | apply jW) | ((with_reducible first | apply jX | apply jY | apply jZ); rfl)); all_goals (first | ((with_reducible show Is _ _); exact kE) | ((with_reducible refine fun (hc : (_ : Bool) = _) => ?_); (try simp only [xZ, xY, xP, reduceCtorEq] at hc); (try (have hx : True := hc; clear hx hc)); (try exact kX)) | ((fail_if_success (with_reducible first | show Is _ _ | show ACall _ _ _ _ _)); (try ((with_reducible show _ ∨ _); exact kT))))))
        rfl
      · rw [h00, decide_eq_true h1, decide_eq_false h2]
        repeat' (first | (with_reducible first | apply jA | apply jB | apply jC | apply jD | apply jE | apply jF | apply jG | apply jH | apply jI | apply jJ | apply jK | apply jL | apply jM | apply jN | apply jO) | ((with_reducible first | apply jP | apply jQ); rfl) | ((first | ((with_reducible first | apply jR | apply jS | apply jT); rfl; rfl) | (with_reducible first | apply jU | apply jV | apply jW) | ((with_reducible first | apply jX | apply jY | apply jZ); rfl)); all_goals (first | ((with_reducible show Is _ _); exact kE) | ((with_reducible refine fun (hc : (_ : Bool) = _) => ?_); (try simp only [xZ, xY, xP, reduceCtorEq] at hc); (try (have hx : True := hc; clear hx hc)); (try exact kX)) | ((fail_if_success (with_reducible first | show Is _ _ | show ACall _ _ _ _ _)); (try ((with_reducible show _ ∨ _); exact kT))))))
        rfl
    · rw [h00, decide_eq_false h1]
      repeat' (first | (with_reducible first | apply jA | apply jB | apply jC | apply jD | apply jE | apply jF | apply jG | apply jH | apply jI | apply jJ | apply jK | apply jL | apply jM | apply jN | apply jO) | ((with_reducible first | apply jP | apply jQ); rfl) | ((first | ((with_reducible first | apply jR | apply jS | apply jT); rfl; rfl) | (with_reducible first | apply jU | apply jV | apply jW) | ((with_reducible first | apply jX | apply jY | apply jZ); rfl)); all_goals (first | ((with_reducible show Is _ _); exact kE) | ((with_reducible refine fun (hc : (_ : Bool) = _) => ?_); (try simp only [xZ, xY, xP, reduceCtorEq] at hc); (try (have hx : True := hc; clear hx hc)); (try exact kX)) | ((fail_if_success (with_reducible first | show Is _ _ | show ACall _ _ _ _ _)); (try ((with_reducible show _ ∨ _); exact kT))))))
      rfl
theorem proper1_in (q : Pf) (h : PfL q) : PC Tryd.prog true 89 [.agg (pfC q)] (.bool (!vldP q)) := by
  have hv : ∀ {B : List Box} {args : List CV}, Is (omap (Go.Sy.fz true false B 6) args) (some [.agg (pfC q)]) → ACall Tryd.prog 44 args B fun c B' => c = .bool (vldP q) ∧ B' = B := fun h2 => iValid_at (by exact h2) h.1
  have hl := pfC_len h
  have ho : ∀ {nz fr : Bool} {B : List Box} {k : Nat}, omap (Go.Sy.fz nz fr B (k + 1)) (pfC q) = some (pfC q) := pf_om1 q
  generalize vldP q = v at *
  generalize pfC q = X at *
  refine acall_intro mixed Tryd.func89 rfl ca89 (by kernel_rfl) (by rw [Tryd.ntmps89]; simp) ?_
  repeat' (first | (with_reducible first | apply jA | apply jB | apply jC | apply jD | apply jE | apply jF | apply jG | apply jH | apply jI | apply jJ | apply jK | apply jL | apply jM | apply jN | apply jO) | ((with_reducible first | apply jP | apply jQ); rfl) | ((first | ((with_reducible first | apply jR | apply jS | apply jT); rfl; rfl) | (with_reducible first | apply jU | apply jV | apply jW) | ((with_reducible first | apply jX | apply jY | apply jZ); rfl) | ((with_reducible first | apply kA | apply kB | apply kC); rfl)); all_goals (first | ((with_reducible show Is _ _); exact kE) | ((with_reducible refine fun (hc : (_ : Bool) = _) => ?_); (try simp only [xZ, xY, xP, reduceCtorEq] at hc); (try (have hx : True := hc; clear hx hc)); (try exact kX)) | ((with_reducible show ACall _ _ _ _ _); (first | ((with_reducible apply hv) <;> exact kD))) | ((fail_if_success (with_reducible first | show Is _ _ | show ACall _ _ _ _ _)); (try ((with_reducible show _ ∨ _); exact kT))))))
  rfl
theorem pe_parts {p : Pe} (h : PeL p) : (peC p).drop 64 = .bool p.2.2.1 :: (pfC p.2.2.2.1 ++ [.int .i64 p.2.2.2.2.1, .lst p.2.2.2.2.2.length (p.2.2.2.2.2.flatMap pfC) false]) ∧ ((peC p).drop 65).take 18 = pfC p.2.2.2.1 ∧ (peC p).drop 83 = [.int .i64 p.2.2.2.2.1, .lst p.2.2.2.2.2.length (p.2.2.2.2.2.flatMap pfC) false] ∧ (peC p).drop 84 = [.lst p.2.2.2.2.2.length (p.2.2.2.2.2.flatMap pfC) false] ∧ (peC p).take 32 = p.1.map byteC ∧ ((peC p).drop 32).take 32 = p.2.1.map byteC := by
  obtain ⟨h1, h2, h3, _⟩ := h
  have l1 : (p.1.map byteC).length = 32 := by simp [h1]
  have l2 : (p.2.1.map byteC).length = 32 := by simp [h2]
  have l3 := pfC_len h3
  have d32 : (peC p).drop 32 = p.2.1.map byteC ++ ([.bool p.2.2.1] ++ (pfC p.2.2.2.1 ++ ([.int .i64 p.2.2.2.2.1] ++ [.lst p.2.2.2.2.2.length (p.2.2.2.2.2.flatMap pfC) false]))) := by rw [peC, List.drop_left' l1]
  have d64 : (peC p).drop 64 = .bool p.2.2.1 :: (pfC p.2.2.2.1 ++ [.int .i64 p.2.2.2.2.1, .lst p.2.2.2.2.2.length (p.2.2.2.2.2.flatMap pfC) false]) := by
    rw [show (64 : Nat) = 32 + 32 from rfl, ← List.drop_drop, d32, List.drop_left' l2]; rfl
  have d65 : (peC p).drop 65 = pfC p.2.2.2.1 ++ [.int .i64 p.2.2.2.2.1, .lst p.2.2.2.2.2.length (p.2.2.2.2.2.flatMap pfC) false] := by
    rw [show (65 : Nat) = 64 + 1 from rfl, ← List.drop_drop, d64]; rfl
  have d83 : (peC p).drop 83 = [.int .i64 p.2.2.2.2.1, .lst p.2.2.2.2.2.length (p.2.2.2.2.2.flatMap pfC) false] := by
    rw [show (83 : Nat) = 65 + 18 from rfl, ← List.drop_drop, d65, List.drop_left' l3]
  refine ⟨d64, by rw [d65, List.take_left' l3], d83, ?_, by rw [peC, List.take_left' l1], by rw [d32, List.take_left' l2]⟩
  rw [show (84 : Nat) = 83 + 1 from rfl, ← List.drop_drop, d83]; rfl
theorem proper_in (p : Pe) (h : PeL p) (hl : p.2.2.2.2.2.length < 1000000) : PC Tryd.prog true 63 [.agg (peC p)] (.bool (okPe p)) := by
  obtain ⟨pu, sh, has, ep, kp, al⟩ := p
  obtain ⟨h1, h2, h3, h4, h5⟩ := h
  dsimp only at *
  have hal : ∀ a ∈ al, (pfC a).length = 18 := fun a ha => pfC_len (h5 a ha)
  have hcf : ∀ {B : List Box} {args : List CV}, Is args [.lst al.length (al.flatMap pfC) false, .fn (.func 89) [] []] → ACall Tryd.prog 88 args B fun c B' => c = .bool (al.any fun a => !vldP a) ∧ B' = B := fun hz => pfContainsFunc_at hz ⟨by omega, _, cells_all hal, .inl ⟨_, rfl⟩⟩ fun a ha => acall_fresh (nz := true) (by simp [go_sem]) (proper1_in a (h5 a ha))
  have hany : (al.any fun a => !vldP a) = !al.all vldP := by simp [List.all_eq_not_any_not]
  rw [hany] at hcf
  have hfe : ∀ {B : List Box} {args : List CV}, Is (omap (Go.Sy.fz true false B 6) args) (some [.agg (pfC ep)]) → ACall Tryd.prog 16 args B fun c B' => c = .str (fmtE ep.1.1 ep.1.2 ep.2) ∧ B' = B := fun hz => fmtE_at (by exact hz) h3.1 h3.2
  have hfn := fmtE_nil ep
  have hel := pfC_len h3
  have ho : ∀ {nz fr : Bool} {B : List Box} {k : Nat}, omap (Go.Sy.fz nz fr B (k + 1)) (pfC ep) = some (pfC ep) := pf_om1 ep
  rw [okPe]
  dsimp only
  obtain ⟨d64, d65, d83, d84, -, -⟩ := pe_parts (p := (pu, sh, has, ep, kp, al)) ⟨h1, h2, h3, h4, h5⟩
  have hXl := peC_len (p := (pu, sh, has, ep, kp, al)) ⟨h1, h2, h3, h4, h5⟩
  dsimp only at d64 d65 d83 d84
  generalize peC (pu, sh, has, ep, kp, al) = X at *
  generalize al.all vldP = av at *
  generalize al.flatMap pfC = Y at *
  generalize al.length = n at *
  obtain ⟨⟨e6, eA⟩, en⟩ := ep
  have hZ : ([.bool false, .int .u8 0, .int .u8 0, .int .u8 0, .int .u8 0, .int .u8 0, .int .u8 0, .int .u8 0, .int .u8 0, .int .u8 0, .int .u8 0, .int .u8 0, .int .u8 0, .int .u8 0, .int .u8 0, .int .u8 0, .int .u8 0, .int .i64 0] : List CV) = .bool false :: (z16.map byteC ++ [.int .i64 0]) := rfl
  have hz : z16.length = 16 := rfl
  have hO : (((e6, eA), en) == pfO) = ((e6 == false && eA == z16) && en == 0) := rfl
  rw [hO]
  clear hO h5 hal hany
  obtain ⟨h31, h32⟩ := h3
  have h32a := h32.1
  have h32b := h32.2
  dsimp only at *
  generalize okEP ((e6, eA), en) = oe at *
  generalize fmtE e6 eA en = fe at *
  generalize z16 = Z at *
  rw [pfC] at *
  dsimp only at *
  simp only [List.cons_append] at *
  refine acall_intro mixed Tryd.func63 rfl ca63 (by kernel_rfl) (by rw [Tryd.ntmps63]; simp) ?_
  cases has
  · clear hfn
    cases e6
    · by_cases hA : eA = Z
      · subst hA
        by_cases hn : en = 0
        · subst hn
          have hb : ((false == false && eA == eA) && ((0 : Int) == 0)) = true := by simp
          rw [if_neg (by decide), hb]
          clear hb
          · by_cases k0 : kp = 0
            · have kk : timed kp = true := by rw [k0]; rfl
              rw [kk]
              subst k0
              cases av
              · repeat' (first | (with_reducible first | apply jA | apply jB | apply jC | apply jD | apply jE | apply jF | apply jG | apply jH | apply jI | apply jJ | apply jK | apply jL | apply jM | apply jN | apply jO) | ((with_reducible first | apply jP | apply jQ); rfl) | ((first | ((with_reducible first | apply jR | apply jS | apply jT); rfl; rfl) | (with_reducible first | apply jU | apply jV | apply jW) | ((with_reducible first | apply jX | apply jY | apply jZ); rfl) | ((with_reducible first | apply kA | apply kB | apply kC); rfl)); all_goals (first | ((with_reducible show Is _ _); exact kE) | ((with_reducible refine fun (hc : (_ : Bool) = _) => ?_); (try simp only [xZ, xY, xP, reduceCtorEq] at hc); (try (have hx : True := hc; clear hx hc)); (try exact kX)) | ((with_reducible show ACall _ _ _ _ _); (first | ((with_reducible apply hcf) <;> exact kD) | ((with_reducible apply hfe) <;> exact kD))) | ((fail_if_success (with_reducible first | show Is _ _ | show ACall _ _ _ _ _)); (try ((with_reducible show _ ∨ _); exact kT))))))
                rfl
              · repeat' (first | (with_reducible first | apply jA | apply jB | apply jC | apply jD | apply jE | apply jF | apply jG | apply jH | apply jI | apply jJ | apply jK | apply jL | apply jM | apply jN | apply jO) | ((with_reducible first | apply jP | apply jQ); rfl) | ((first | ((with_reducible first | apply jR | apply jS | apply jT); rfl; rfl) | (with_reducible first | apply jU | apply jV | apply jW) | ((with_reducible first | apply jX | apply jY | apply jZ); rfl) | ((with_reducible first | apply kA | apply kB | apply kC); rfl)); all_goals (first | ((with_reducible show Is _ _); exact kE) | ((with_reducible refine fun (hc : (_ : Bool) = _) => ?_); (try simp only [xZ, xY, xP, reduceCtorEq] at hc); (try (have hx : True := hc; clear hx hc)); (try exact kX)) | ((with_reducible show ACall _ _ _ _ _); (first | ((with_reducible apply hcf) <;> exact kD) | ((with_reducible apply hfe) <;> exact kD))) | ((fail_if_success (with_reducible first | show Is _ _ | show ACall _ _ _ _ _)); (try ((with_reducible show _ ∨ _); exact kT))))))
                rfl
            · have k00 : (kp == 0) = false := by simpa using k0
              by_cases k1 : 1000 ≤ kp
              · by_cases k2 : kp ≤ 1073741824
                · have kk : timed kp = true := by rw [timed, k00, decide_eq_true k1, decide_eq_true k2]; rfl
                  rw [kk]
                  clear kk
                  cases av
                  · repeat' (first | (with_reducible first | apply jA | apply jB | apply jC | apply jD | apply jE | apply jF | apply jG | apply jH | apply jI | apply jJ | apply jK | apply jL | apply jM | apply jN | apply jO) | ((with_reducible first | apply jP | apply jQ); rfl) | ((first | ((with_reducible first | apply jR | apply jS | apply jT); rfl; rfl) | (with_reducible first | apply jU | apply jV | apply jW) | ((with_reducible first | apply jX | apply jY | apply jZ); rfl) | ((with_reducible first | apply kA | apply kB | apply kC); rfl)); all_goals (first | ((with_reducible show Is _ _); exact kE) | ((with_reducible refine fun (hc : (_ : Bool) = _) => ?_); (try simp only [xZ, xY, xP, reduceCtorEq] at hc); (try (have hx : True := hc; clear hx hc)); (try exact kX)) | ((with_reducible show ACall _ _ _ _ _); (first | ((with_reducible apply hcf) <;> exact kD) | ((with_reducible apply hfe) <;> exact kD))) | ((fail_if_success (with_reducible first | show Is _ _ | show ACall _ _ _ _ _)); (try ((with_reducible show _ ∨ _); exact kT))))))
                    rfl
                  · repeat' (first | (with_reducible first | apply jA | apply jB | apply jC | apply jD | apply jE | apply jF | apply jG | apply jH | apply jI | apply jJ | apply jK | apply jL | apply jM | apply jN | apply jO) | ((with_reducible first | apply jP | apply jQ); rfl) | ((first | ((with_reducible first | apply jR | apply jS | apply jT); rfl; rfl) | (with_reducible first | apply jU | apply jV | apply jW) | ((with_reducible first | apply jX | apply jY | apply jZ); rfl) | ((with_reducible first | apply kA | apply kB | apply kC); rfl)); all_goals (first | ((with_reducible show Is _ _); exact kE) | ((with_reducible refine fun (hc : (_ : Bool) = _) => ?_); (try simp only [xZ, xY, xP, reduceCtorEq] at hc); (try (have hx : True := hc; clear hx hc)); (try exact kX)) | ((with_reducible show ACall _ _ _ _ _); (first | ((with_reducible apply hcf) <;> exact kD) | ((with_reducible apply hfe) <;> exact kD))) | ((fail_if_success (with_reducible first | show Is _ _ | show ACall _ _ _ _ _)); (try ((with_reducible show _ ∨ _); exact kT))))))
                    rfl
                · have kk : timed kp = false := by rw [timed, k00, decide_eq_true k1, decide_eq_false k2]; rfl
                  rw [kk]
                  clear kk
                  repeat' (first | (with_reducible first | apply jA | apply jB | apply jC | apply jD | apply jE | apply jF | apply jG | apply jH | apply jI | apply jJ | apply jK | apply jL | apply jM | apply jN | apply jO) | ((with_reducible first | apply jP | apply jQ); rfl) | ((first | ((with_reducible first | apply jR | apply jS | apply jT); rfl; rfl) | (with_reducible first | apply jU | apply jV | apply jW) | ((with_reducible first | apply jX | apply jY | apply jZ); rfl) | ((with_reducible first | apply kA | apply kB | apply kC); rfl)); all_goals (first | ((with_reducible show Is _ _); exact kE) | ((with_reducible refine fun (hc : (_ : Bool) = _) => ?_); (try simp only [xZ, xY, xP, reduceCtorEq] at hc); (try (have hx : True := hc; clear hx hc)); (try exact kX)) | ((with_reducible show ACall _ _ _ _ _); (first | ((with_reducible apply hcf) <;> exact kD) | ((with_reducible apply hfe) <;> exact kD))) | ((fail_if_success (with_reducible first | show Is _ _ | show ACall _ _ _ _ _)); (try ((with_reducible show _ ∨ _); exact kT))))))
                  rfl
              · have kk : timed kp = false := by rw [timed, k00, decide_eq_false k1]; rfl
                rw [kk]
                clear kk
                repeat' (first | (with_reducible first | apply jA | apply jB | apply jC | apply jD | apply jE | apply jF | apply jG | apply jH | apply jI | apply jJ | apply jK | apply jL | apply jM | apply jN | apply jO) | ((with_reducible first | apply jP | apply jQ); rfl) | ((first | ((with_reducible first | apply jR | apply jS | apply jT); rfl; rfl) | (with_reducible first | apply jU | apply jV | apply jW) | ((with_reducible first | apply jX | apply jY | apply jZ); rfl) | ((with_reducible first | apply kA | apply kB | apply kC); rfl)); all_goals (first | ((with_reducible show Is _ _); exact kE) | ((with_reducible refine fun (hc : (_ : Bool) = _) => ?_); (try simp only [xZ, xY, xP, reduceCtorEq] at hc); (try (have hx : True := hc; clear hx hc)); (try exact kX)) | ((with_reducible show ACall _ _ _ _ _); (first | ((with_reducible apply hcf) <;> exact kD) | ((with_reducible apply hfe) <;> exact kD))) | ((fail_if_success (with_reducible first | show Is _ _ | show ACall _ _ _ _ _)); (try ((with_reducible show _ ∨ _); exact kT))))))
                rfl
        · have hb : ((false == false && eA == eA) && (en == 0)) = false := by simpa using hn
          have hn2 : (en == 0) = false := by simpa using hn
          rw [if_neg (by decide), hb]
          clear hb
          repeat' (first | (with_reducible first | apply jA | apply jB | apply jC | apply jD | apply jE | apply jF | apply jG | apply jH | apply jI | apply jJ | apply jK | apply jL | apply jM | apply jN | apply jO) | ((with_reducible first | apply jP | apply jQ); rfl) | ((first | ((with_reducible first | apply jR | apply jS | apply jT); rfl; rfl) | (with_reducible first | apply jU | apply jV | apply jW) | ((with_reducible first | apply jX | apply jY | apply jZ); rfl) | ((with_reducible first | apply kA | apply kB | apply kC); rfl)); all_goals (first | ((with_reducible show Is _ _); exact kE) | ((with_reducible refine fun (hc : (_ : Bool) = _) => ?_); (try simp only [xZ, xY, xP, reduceCtorEq] at hc); (try (have hx : True := hc; clear hx hc)); (try exact kX)) | ((with_reducible show ACall _ _ _ _ _); (first | ((with_reducible apply hcf) <;> exact kD) | ((with_reducible apply hfe) <;> exact kD))) | ((fail_if_success (with_reducible first | show Is _ _ | show ACall _ _ _ _ _)); (try ((with_reducible show _ ∨ _); exact kT))))))
          rfl
      · have hA2 : (eA == Z) = false := by simpa using hA
        rw [if_neg (by decide), hA2]
        repeat' (first | (with_reducible first | apply jA | apply jB | apply jC | apply jD | apply jE | apply jF | apply jG | apply jH | apply jI | apply jJ | apply jK | apply jL | apply jM | apply jN | apply jO) | ((with_reducible first | apply jP | apply jQ); rfl) | ((first | ((with_reducible first | apply jR | apply jS | apply jT); rfl; rfl) | (with_reducible first | apply jU | apply jV | apply jW) | ((with_reducible first | apply jX | apply jY | apply jZ); rfl) | ((with_reducible first | apply kA | apply kB | apply kC); rfl)); all_goals (first | ((with_reducible show Is _ _); exact kE) | ((with_reducible refine fun (hc : (_ : Bool) = _) => ?_); (try simp only [xZ, xY, xP, reduceCtorEq] at hc); (try (have hx : True := hc; clear hx hc)); (try exact kX)) | ((with_reducible show ACall _ _ _ _ _); (first | ((with_reducible apply hcf) <;> exact kD) | ((with_reducible apply hfe) <;> exact kD))) | ((fail_if_success (with_reducible first | show Is _ _ | show ACall _ _ _ _ _)); (try ((with_reducible show _ ∨ _); exact kT))))))
        rfl
    · rw [if_neg (by decide)]
      repeat' (first | (with_reducible first | apply jA | apply jB | apply jC | apply jD | apply jE | apply jF | apply jG | apply jH | apply jI | apply jJ | apply jK | apply jL | apply jM | apply jN | apply jO) | ((with_reducible first | apply jP | apply jQ); rfl) | ((first | ((with_reducible first | apply jR | apply jS | apply jT); rfl; rfl) | (with_reducible first | apply jU | apply jV | apply jW) | ((with_reducible first | apply jX | apply jY | apply jZ); rfl) | ((with_reducible first | apply kA | apply kB | apply kC); rfl)); all_goals (first | ((with_reducible show Is _ _); exact kE) | ((with_reducible refine fun (hc : (_ : Bool) = _) => ?_); (try simp only [xZ, xY, xP, reduceCtorEq] at hc); (try (have hx : True := hc; clear hx hc)); (try exact kX)) | ((with_reducible show ACall _ _ _ _ _); (first | ((with_reducible apply hcf) <;> exact kD) | ((with_reducible apply hfe) <;> exact kD))) | ((fail_if_success (with_reducible first | show Is _ _ | show ACall _ _ _ _ _)); (try ((with_reducible show _ ∨ _); exact kT))))))
      rfl
  · rw [if_pos rfl]
    cases oe
    · have hfe0 : fe = [] := by simpa using hfn
      subst hfe0
      repeat' (first | (with_reducible first | apply jA | apply jB | apply jC | apply jD | apply jE | apply jF | apply jG | apply jH | apply jI | apply jJ | apply jK | apply jL | apply jM | apply jN | apply jO) | ((with_reducible first | apply jP | apply jQ); rfl) | ((first | ((with_reducible first | apply jR | apply jS | apply jT); rfl; rfl) | (with_reducible first | apply jU | apply jV | apply jW) | ((with_reducible first | apply jX | apply jY | apply jZ); rfl) | ((with_reducible first | apply kA | apply kB | apply kC); rfl)); all_goals (first | ((with_reducible show Is _ _); exact kE) | ((with_reducible refine fun (hc : (_ : Bool) = _) => ?_); (try simp only [xZ, xY, xP, reduceCtorEq] at hc); (try (have hx : True := hc; clear hx hc)); (try exact kX)) | ((with_reducible show ACall _ _ _ _ _); (first | ((with_reducible apply hcf) <;> exact kD) | ((with_reducible apply hfe) <;> exact kD))) | ((fail_if_success (with_reducible first | show Is _ _ | show ACall _ _ _ _ _)); (try ((with_reducible show _ ∨ _); exact kT))))))
      rfl
    · have hfe0 : (fe == []) = false := hfn
      clear hfn
      · by_cases k0 : kp = 0
        · have kk : timed kp = true := by rw [k0]; rfl
          rw [kk]
          subst k0
          cases av
          · repeat' (first | (with_reducible first | apply jA | apply jB | apply jC | apply jD | apply jE | apply jF | apply jG | apply jH | apply jI | apply jJ | apply jK | apply jL | apply jM | apply jN | apply jO) | ((with_reducible first | apply jP | apply jQ); rfl) | ((first | ((with_reducible first | apply jR | apply jS | apply jT); rfl; rfl) | (with_reducible first | apply jU | apply jV | apply jW) | ((with_reducible first | apply jX | apply jY | apply jZ); rfl) | ((with_reducible first | apply kA | apply kB | apply kC); rfl)); all_goals (first | ((with_reducible show Is _ _); exact kE) | ((with_reducible refine fun (hc : (_ : Bool) = _) => ?_); (try simp only [xZ, xY, xP, reduceCtorEq] at hc); (try (have hx : True := hc; clear hx hc)); (try exact kX)) | ((with_reducible show ACall _ _ _ _ _); (first | ((with_reducible apply hcf) <;> exact kD) | ((with_reducible apply hfe) <;> exact kD))) | ((fail_if_success (with_reducible first | show Is _ _ | show ACall _ _ _ _ _)); (try ((with_reducible show _ ∨ _); exact kT))))))
            rfl
          · repeat' (first | (with_reducible first | apply jA | apply jB | apply jC | apply jD | apply jE | apply jF | apply jG | apply jH | apply jI | apply jJ | apply jK | apply jL | apply jM | apply jN | apply jO) | ((with_reducible first | apply jP | apply jQ); rfl) | ((first | ((with_reducible first | apply jR | apply jS | apply jT); rfl; rfl) | (with_reducible first | apply jU | apply jV | apply jW) | ((with_reducible first | apply jX | apply jY | apply jZ); rfl) | ((with_reducible first | apply kA | apply kB | apply kC); rfl)); all_goals (first | ((with_reducible show Is _ _); exact kE) | ((with_reducible refine fun (hc : (_ : Bool) = _) => ?_); (try simp only [xZ, xY, xP, reduceCtorEq] at hc); (try (have hx : True := hc; clear hx hc)); (try exact kX)) | ((with_reducible show ACall _ _ _ _ _); (first | ((with_reducible apply hcf) <;> exact kD) | ((with_reducible apply hfe) <;> exact kD))) | ((fail_if_success (with_reducible first | show Is _ _ | show ACall _ _ _ _ _)); (try ((with_reducible show _ ∨ _); exact kT))))))
            rfl
        · have k00 : (kp == 0) = false := by simpa using k0
          by_cases k1 : 1000 ≤ kp
          · by_cases k2 : kp ≤ 1073741824
            · have kk : timed kp = true := by rw [timed, k00, decide_eq_true k1, decide_eq_true k2]; rfl
              rw [kk]
              clear kk
              cases av
              · repeat' (first | (with_reducible first | apply jA | apply jB | apply jC | apply jD | apply jE | apply jF | apply jG | apply jH | apply jI | apply jJ | apply jK | apply jL | apply jM | apply jN | apply jO) | ((with_reducible first | apply jP | apply jQ); rfl) | ((first | ((with_reducible first | apply jR | apply jS | apply jT); rfl; rfl) | (with_reducible first | apply jU | apply jV | apply jW) | ((with_reducible first | apply jX | apply jY | apply jZ); rfl) | ((with_reducible first | apply kA | apply kB | apply kC); rfl)); all_goals (first | ((with_reducible show Is _ _); exact kE) | ((with_reducible refine fun (hc : (_ : Bool) = _) => ?_); (try simp only [xZ, xY, xP, reduceCtorEq] at hc); (try (have hx : True := hc; clear hx hc)); (try exact kX)) | ((with_reducible show ACall _ _ _ _ _); (first | ((with_reducible apply hcf) <;> exact kD) | ((with_reducible apply hfe) <;> exact kD))) | ((fail_if_success (with_reducible first | show Is _ _ | show ACall _ _ _ _ _)); (try ((with_reducible show _ ∨ _); exact kT))))))
                rfl
              · repeat' (first | (with_reducible first | apply jA | apply jB | apply jC | apply jD | apply jE | apply jF | apply jG | apply jH | apply jI | apply jJ | apply jK | apply jL | apply jM | apply jN | apply jO) | ((with_reducible first | apply jP | apply jQ); rfl) | ((first | ((with_reducible first | apply jR | apply jS | apply jT); rfl; rfl) | (with_reducible first | apply jU | apply jV | apply jW) | ((with_reducible first | apply jX | apply jY | apply jZ); rfl) | ((with_reducible first | apply kA | apply kB | apply kC); rfl)); all_goals (first | ((with_reducible show Is _ _); exact kE) | ((with_reducible refine fun (hc : (_ : Bool) = _) => ?_); (try simp only [xZ, xY, xP, reduceCtorEq] at hc); (try (have hx : True := hc; clear hx hc)); (try exact kX)) | ((with_reducible show ACall _ _ _ _ _); (first | ((with_reducible apply hcf) <;> exact kD) | ((with_reducible apply hfe) <;> exact kD))) | ((fail_if_success (with_reducible first | show Is _ _ | show ACall _ _ _ _ _)); (try ((with_reducible show _ ∨ _); exact kT))))))
                rfl
            · have kk : timed kp = false := by rw [timed, k00, decide_eq_true k1, decide_eq_false k2]; rfl
              rw [kk]
              clear kk
              repeat' (first | (with_reducible first | apply jA | apply jB | apply jC | apply jD | apply jE | apply jF | apply jG | apply jH | apply jI | apply jJ | apply jK | apply jL | apply jM | apply jN | apply jO) | ((with_reducible first | apply jP | apply jQ); rfl) | ((first | ((with_reducible first | apply jR | apply jS | apply jT); rfl; rfl) | (with_reducible first | apply jU | apply jV | apply jW) | ((with_reducible first | apply jX | apply jY | apply jZ); rfl) | ((with_reducible first | apply kA | apply kB | apply kC); rfl)); all_goals (first | ((with_reducible show Is _ _); exact kE) | ((with_reducible refine fun (hc : (_ : Bool) = _) => ?_); (try simp only [xZ, xY, xP, reduceCtorEq] at hc); (try (have hx : True := hc; clear hx hc)); (try exact kX)) | ((with_reducible show ACall _ _ _ _ _); (first | ((with_reducible apply hcf) <;> exact kD) | ((with_reducible apply hfe) <;> exact kD))) | ((fail_if_success (with_reducible first | show Is _ _ | show ACall _ _ _ _ _)); (try ((with_reducible show _ ∨ _); exact kT))))))
              rfl
          · have kk : timed kp = false := by rw [timed, k00, decide_eq_false k1]; rfl
            rw [kk]
            clear kk
            repeat' (first | (with_reducible first | apply jA | apply jB | apply jC | apply jD | apply jE | apply jF | apply jG | apply jH | apply jI | apply jJ | apply jK | apply jL | apply jM | apply jN | apply jO) | ((with_reducible first | apply jP | apply jQ); rfl) | ((first | ((with_reducible first | apply jR | apply jS | apply jT); rfl; rfl) | (with_reducible first | apply jU | apply jV | apply jW) | ((with_reducible first | apply jX | apply jY | apply jZ); rfl) | ((with_reducible first | apply kA | apply kB | apply kC); rfl)); all_goals (first | ((with_reducible show Is _ _); exact kE) | ((with_reducible refine fun (hc : (_ : Bool) = _) => ?_); (try simp only [xZ, xY, xP, reduceCtorEq] at hc); (try (have hx : True := hc; clear hx hc)); (try exact kX)) | ((with_reducible show ACall _ _ _ _ _); (first | ((with_reducible apply hcf) <;> exact kD) | ((with_reducible apply hfe) <;> exact kD))) | ((fail_if_success (with_reducible first | show Is _ _ | show ACall _ _ _ _ _)); (try ((with_reducible show _ ∨ _); exact kT))))))
            rfl
end Go.Proofs.YtdceppjoipoohaaDoor
end
