/- Lemmas and definitions of this claim (own texts, joined by a program; what the claim does not use is left out). -/
import Derived.Test.YtdceppjoipoohaaGreatDoorCr7
section
namespace Go.Proofs.YtdceppjoipoohaaGreatDoor
open Go Go.Sy
set_option linter.all false
set_option maxRecDepth 100000
set_option maxHeartbeats 4000000
theorem kE_GJ0 {α : Type} {x y : α} (h : Is x y := by first | ((try simp (disch := first | omega | (simp only [yZ, yB] <;> omega) | fail) [go_sem, yY, *, cons_get1, cons_take1, cons_drop1, if_pos, if_neg, -List.map_take, -List.map_drop, -List.map_append, -List.map_reverse]); exact rfl) | fail) : Is x y := h
theorem kD_GJ0 {p : Prop} (h : p := by (first | omega | assumption | exact rfl | ((simp (disch := first | omega | (simp only [yZ, yB] <;> omega) | fail) [go_sem, yY, *, cons_get1, cons_take1, cons_drop1, -List.map_take, -List.map_drop, -List.map_append, -List.map_reverse]) <;> (first | done | omega | exact rfl)) | fail)) : p := h
theorem splitL_mem (b : UInt8) : ∀ (s x : List UInt8), x ∈ splitL b s → x.length ≤ s.length
  | [], x, h => by simp [splitL] at h; subst h; simp
  | c :: s, x, h => by
    rw [splitL] at h
    have ih := splitL_mem b s
    split at h
    · rcases List.mem_cons.1 h with rfl | h
      · simp
      · have := ih x h; simp; omega
    · split at h
      · have : x = [c] := by simpa using h
        subst this; simp
      · rename_i y ys he
        rcases List.mem_cons.1 h with rfl | h
        · have := ih y (by rw [he]; simp); simp; omega
        · have := ih x (by rw [he]; simp [h]); simp; omega
theorem splitL_num (b : UInt8) : ∀ (s : List UInt8), (splitL b s).length ≤ s.length + 1
  | [] => by simp [splitL]
  | c :: s => by
    have ih := splitL_num b s
    rw [splitL]
    split
    · simp; omega
    · split
      · simp
      · rename_i y ys he
        rw [he] at ih
        simp at ih ⊢; omega
theorem p4_len {L : List (List UInt8)} {six : Bool} {A : List UInt8} (hL : L.length = 4) (h : p4 L = some (six, A)) : A.length = 16 := by
  rw [p4] at h
  split at h
  · have := (Prod.mk.inj (Option.some.inj h)).2
    subst this; exact a4_len hL (by omega)
  · cases h
theorem p6_len {L : List (List UInt8)} {six : Bool} {A : List UInt8} (hL : L.length = 8) (h : p6 L = some (six, A)) : A.length = 16 := by
  rw [p6] at h
  split at h
  · have := (Prod.mk.inj (Option.some.inj h)).2
    subst this; exact a6_len hL (by omega)
  · cases h
def parseA (s : List UInt8) : Option (Bool × List UInt8) := if (splitL 46 s).length = 4 then p4 (splitL 46 s) else if (splitL 58 s).length = 8 then p6 (splitL 58 s) else none
theorem set2b {a b : CV} {M : List CV} {n : Nat} (hn : n + 1 < M.length) : (M.take n ++ a :: M.drop (1 + n)).take (n + 1) ++ b :: (M.take n ++ a :: M.drop (1 + n)).drop (1 + (n + 1)) = (M.set n a).set (n + 1) b := by
  have hX : M.take n ++ a :: M.drop (1 + n) = M.set n a := by
    rw [List.set_eq_take_append_cons_drop, if_pos (by omega), Nat.add_comm 1 n]
  rw [hX, List.set_eq_take_append_cons_drop (l := M.set n a), if_pos (by simp; omega), Nat.add_comm 1 (n + 1)]
theorem parse_in (s : List UInt8) (hs : s.length < 1000000000) : PC Tryz.prog true 42 [.str s] (rA (parseA s)) := by
  refine acall_intro mixed Tryz.func42 rfl ca42 (by kernel_rfl) (by rw [Tryz.ntmps42]; simp) ?_
  have hn4 := splitL_num 46 s
  have hn6 := splitL_num 58 s
  have hm4 := fun x hx => Nat.lt_of_le_of_lt (splitL_mem 46 s x hx) hs
  have hm6 := fun x hx => Nat.lt_of_le_of_lt (splitL_mem 58 s x hx) hs
  have hsp4 : ∀ {B : List Box}, ACall Tryz.prog 54 [.str s, .str [46]] B fun c B' => c = .lst (splitL 46 s).length ((splitL 46 s).map .str) true ∧ B' = B := split_at (b := 46) (by omega)
  have hsp6 : ∀ {B : List Box}, ACall Tryz.prog 54 [.str s, .str [58]] B fun c B' => c = .lst (splitL 58 s).length ((splitL 58 s).map .str) true ∧ B' = B := split_at (b := 58) (by omega)
  by_cases hL : (splitL 46 s).length = 4
  · have hp : parseA s = p4 (splitL 46 s) := by rw [parseA, if_pos hL]
    rw [hp]
    rw [hL] at hsp4
    generalize splitL 46 s = L at *
    clear hp hsp6 hn4 hn6 hm6
    repeat' (first | (with_reducible first | apply jA | apply jB | apply jC | apply jD | apply jE | apply jF | apply jG | apply jH | apply jI | apply jJ | apply jK | apply jL | apply jM | apply jN | apply jO) | ((with_reducible first | apply jP | apply jQ); rfl) | ((first | ((with_reducible first | apply jR | apply jS | apply jT); rfl; rfl) | (with_reducible first | apply jU | apply jV | apply jW) | ((with_reducible first | apply jX | apply jY | apply jZ); rfl) | ((with_reducible first | apply kA | apply kB | apply kC); rfl)); all_goals (first | ((with_reducible show Is _ _); exact kE) | ((with_reducible refine fun (hc : (_ : Bool) = _) => ?_); (try simp only [xZ, xY, xP, reduceCtorEq] at hc); (try (have hx : True := hc; clear hx hc)); (try exact kX)) | ((with_reducible show ACall _ _ _ _ _); (first | ((with_reducible apply hsp4) <;> exact kD))) | ((fail_if_success (with_reducible first | show Is _ _ | show ACall _ _ _ _ _)); (try ((with_reducible show _ ∨ _); exact kT))))))
    refine w_loop (fun fr B => ∃ j : Nat, j ≤ 4 ∧ (L.take j).all oct = true ∧ fr 22 = .int .i64 j ∧ fr 21 = .int .i64 4 ∧ fr 20 = .lst 4 (L.map .str) true ∧ fr 4 = .ptr 1 0 ∧ fr 2 = .ptr 0 0 ∧ fr 3 = .int .i64 0 ∧ B = [⟨.bool false :: z16.map byteC, false⟩, ⟨.bool false :: (a4 L j).map byteC, false⟩]) (fun fr _ => 4 - natOf (fr 22)) ?_ ?_
    · exact ⟨0, by omega, rfl, by (simp (disch := omega) [go_sem, *]) <;> (try omega), by (simp (disch := omega) [go_sem, *]) <;> (try omega), by (simp (disch := omega) [go_sem, *]) <;> (try omega), by (simp (disch := omega) [go_sem, *]) <;> (try omega), by (simp (disch := omega) [go_sem, *]) <;> (try omega), by (simp (disch := omega) [go_sem, *]) <;> (try omega), rfl⟩
    rintro fr B ⟨j, hj, hall, h11, h10, h9, h4, h2, h3, rfl⟩
    have hal := a4_len hL hj
    by_cases hc : j < 4
    · have hset := a4_set hL hc
      have hx : (L.map CV.str).drop j = .str (L[j]'(by omega)) :: (L.map CV.str).drop (j + 1) := by
        rw [List.drop_eq_getElem_cons (by simp; omega)]; simp
      have hxl := hm4 (L[j]'(by omega)) (List.getElem_mem _)
      have hnall : (L.take (j + 1)).all oct = oct (L[j]'(by omega)) := by rw [List.take_succ_eq_append_getElem (by omega), List.all_append, hall]; simp
      have hno : oct (L[j]'(by omega)) = false → p4 L = none := fun h => by
        have : L.all oct = false := by
          rw [List.all_eq_false]
          exact ⟨_, List.getElem_mem (show j < L.length by omega), by simp [h]⟩
        simp [p4, this]
      have hnum : ∀ {B : List Box}, ACall Tryz.prog 43 [.str (L[j]'(by omega)), .int .i64 255] B fun c B' => c = .tup [.int .i64 (decR 10 (L[j]'(by omega))), .bool (oct (L[j]'(by omega)))] ∧ B' = B := by
        intro B
        have := @decimal_at B (L[j]'(by omega)) 255 (by omega)
        rwa [oct_eq] at this
      generalize (L[j]'(by omega)) = x at *
      cases ho : oct x with
      | false =>
        rw [hno ho]
        rw [ho] at hnum
        clear hset hno hnall ho
        generalize decR 10 x = v at *
        repeat' (first | (with_reducible first | apply jA | apply jB | apply jC | apply jD | apply jE | apply jF | apply jG | apply jH | apply jI | apply jJ | apply jK | apply jL | apply jM | apply jN | apply jO) | ((with_reducible first | apply jP | apply jQ); rfl) | ((first | ((with_reducible first | apply jR | apply jS | apply jT); rfl; rfl) | (with_reducible first | apply jU | apply jV | apply jW) | ((with_reducible first | apply jX | apply jY | apply jZ); rfl) | ((with_reducible first | apply kA | apply kB | apply kC); rfl)); all_goals (first | ((with_reducible show Is _ _); exact kE_GJ0) | ((with_reducible refine fun (hc : (_ : Bool) = _) => ?_); (try simp only [xZ, xY, xP, reduceCtorEq] at hc); (try (have hx : True := hc; clear hx hc)); (try exact kX)) | ((with_reducible show ACall _ _ _ _ _); (first | ((with_reducible apply hnum) <;> exact kD_GJ0))) | ((fail_if_success (with_reducible first | show Is _ _ | show ACall _ _ _ _ _)); (try ((with_reducible show _ ∨ _); exact kT))))))
        rfl
      | true =>
        have hb : decR 10 x ≤ 255 ∧ decV x = decR 10 x := by
          rw [← oct_eq, Bool.and_eq_true] at ho
          have h2 := of_decide_eq_true ho.2
          exact ⟨by omega, by rw [decR, if_pos ho.1]⟩
        rw [ho] at hnall hnum
        have hby := byte_nat (decR 10 x) (by omega)
        rw [hb.2] at hset
        have hb2 := hb.1
        clear hb ho hno
        generalize decR 10 x = v at *
        generalize UInt8.ofNat v = y at *
        repeat' (first | (with_reducible first | apply jA | apply jB | apply jC | apply jD | apply jE | apply jF | apply jG | apply jH | apply jI | apply jJ | apply jK | apply jL | apply jM | apply jN | apply jO) | ((with_reducible first | apply jP | apply jQ); rfl) | ((first | ((with_reducible first | apply jR | apply jS | apply jT); rfl; rfl) | (with_reducible first | apply jU | apply jV | apply jW) | ((with_reducible first | apply jX | apply jY | apply jZ); rfl) | ((with_reducible first | apply kA | apply kB | apply kC); rfl)); all_goals (first | ((with_reducible show Is _ _); exact kE_GJ0) | ((with_reducible refine fun (hc : (_ : Bool) = _) => ?_); (try simp only [xZ, xY, xP, reduceCtorEq] at hc); (try (have hx : True := hc; clear hx hc)); (try exact kX)) | ((with_reducible show ACall _ _ _ _ _); (first | ((with_reducible apply hnum) <;> exact kD_GJ0))) | ((fail_if_success (with_reducible first | show Is _ _ | show ACall _ _ _ _ _)); (try ((with_reducible show _ ∨ _); exact kT))))))
        refine ⟨⟨j + 1, by omega, hnall, by (simp (disch := omega) [go_sem, *]) <;> (try omega), by (simp (disch := omega) [go_sem, *]) <;> (try omega), by (simp (disch := omega) [go_sem, *]) <;> (try omega), by (simp (disch := omega) [go_sem, *]) <;> (try omega), by (simp (disch := omega) [go_sem, *]) <;> (try omega), by (simp (disch := omega) [go_sem, *]) <;> (try omega), ?_⟩, by (simp (disch := omega) [go_sem, *]) <;> (try omega)⟩
        rw [← hset, List.set_eq_take_append_cons_drop, if_pos (by omega), List.map_append, List.map_cons, hby, Nat.add_comm 1 j]
    · obtain rfl : j = 4 := by omega
      have hp : p4 L = some (false, a4 L 4) := by rw [List.take_of_length_le (by omega)] at hall; simp [p4, hall]
      rw [hp]
      repeat' (first | (with_reducible first | apply jA | apply jB | apply jC | apply jD | apply jE | apply jF | apply jG | apply jH | apply jI | apply jJ | apply jK | apply jL | apply jM | apply jN | apply jO) | ((with_reducible first | apply jP | apply jQ); rfl) | ((first | ((with_reducible first | apply jR | apply jS | apply jT); rfl; rfl) | (with_reducible first | apply jU | apply jV | apply jW) | ((with_reducible first | apply jX | apply jY | apply jZ); rfl)); all_goals (first | ((with_reducible show Is _ _); exact kE) | ((with_reducible refine fun (hc : (_ : Bool) = _) => ?_); (try simp only [xZ, xY, xP, reduceCtorEq] at hc); (try (have hx : True := hc; clear hx hc)); (try exact kX)) | ((fail_if_success (with_reducible first | show Is _ _ | show ACall _ _ _ _ _)); (try ((with_reducible show _ ∨ _); exact kT))))))
      (simp (disch := omega) [go_sem, *, rA, addrC]) <;> (try omega)
  by_cases hL6 : (splitL 58 s).length = 8
  · have hp : parseA s = p6 (splitL 58 s) := by rw [parseA, if_neg hL, if_pos hL6]
    rw [hp]
    rw [hL6] at hsp6
    generalize splitL 58 s = L at *
    clear hp hm4
    repeat' (first | (with_reducible first | apply jA | apply jB | apply jC | apply jD | apply jE | apply jF | apply jG | apply jH | apply jI | apply jJ | apply jK | apply jL | apply jM | apply jN | apply jO) | ((with_reducible first | apply jP | apply jQ); rfl) | ((first | ((with_reducible first | apply jR | apply jS | apply jT); rfl; rfl) | (with_reducible first | apply jU | apply jV | apply jW) | ((with_reducible first | apply jX | apply jY | apply jZ); rfl) | ((with_reducible first | apply kA | apply kB | apply kC); rfl)); all_goals (first | ((with_reducible show Is _ _); exact kE) | ((with_reducible refine fun (hc : (_ : Bool) = _) => ?_); (try simp only [xZ, xY, xP, reduceCtorEq] at hc); (try (have hx : True := hc; clear hx hc)); (try exact kX)) | ((with_reducible show ACall _ _ _ _ _); (first | ((with_reducible apply hsp4) <;> exact kD) | ((with_reducible apply hsp6) <;> exact kD))) | ((fail_if_success (with_reducible first | show Is _ _ | show ACall _ _ _ _ _)); (try ((with_reducible show _ ∨ _); exact kT))))))
    clear hsp4 hsp6 hL
    refine w_loop (fun fr B => ∃ j : Nat, j ≤ 8 ∧ (L.take j).all hexOk = true ∧ fr 51 = .int .i64 j ∧ fr 50 = .int .i64 8 ∧ fr 49 = .lst 8 (L.map .str) true ∧ fr 4 = .ptr 1 0 ∧ fr 2 = .ptr 0 0 ∧ fr 3 = .int .i64 0 ∧ B = [⟨.bool false :: z16.map byteC, false⟩, ⟨.bool true :: (a6 L j).map byteC, false⟩]) (fun fr _ => 8 - natOf (fr 51)) ?_ ?_
    · exact ⟨0, by omega, rfl, by (simp (disch := omega) [go_sem, *]) <;> (try omega), by (simp (disch := omega) [go_sem, *]) <;> (try omega), by (simp (disch := omega) [go_sem, *]) <;> (try omega), by (simp (disch := omega) [go_sem, *]) <;> (try omega), by (simp (disch := omega) [go_sem, *]) <;> (try omega), by (simp (disch := omega) [go_sem, *]) <;> (try omega), rfl⟩
    rintro fr B ⟨j, hj, hall, h13, h12, h11, h4, h2, h3, rfl⟩
    have hal := a6_len hL6 hj
    by_cases hc : j < 8
    · have hset := a6_set hL6 hc
      have hx : (L.map CV.str).drop j = .str (L[j]'(by omega)) :: (L.map CV.str).drop (j + 1) := by
        rw [List.drop_eq_getElem_cons (by simp; omega)]; simp
      have hxl := hm6 (L[j]'(by omega)) (List.getElem_mem _)
      have hnall : (L.take (j + 1)).all hexOk = hexOk (L[j]'(by omega)) := by rw [List.take_succ_eq_append_getElem (by omega), List.all_append, hall]; simp
      have hno : hexOk (L[j]'(by omega)) = false → p6 L = none := fun h => by
        have : L.all hexOk = false := by
          rw [List.all_eq_false]
          exact ⟨_, List.getElem_mem (show j < L.length by omega), by simp [h]⟩
        simp [p6, this]
      have hnum : ∀ {B : List Box}, ACall Tryz.prog 65 [.str (L[j]'(by omega))] B fun c B' => c = .tup [.int .i64 (hexR (L[j]'(by omega))), .bool (hexOk (L[j]'(by omega)))] ∧ B' = B := hexadecimal_at (by omega)
      generalize (L[j]'(by omega)) = x at *
      cases ho : hexOk x with
      | false =>
        rw [hno ho]
        rw [ho] at hnum
        clear hset hno hnall ho
        generalize hexR x = v at *
        repeat' (first | (with_reducible first | apply jA | apply jB | apply jC | apply jD | apply jE | apply jF | apply jG | apply jH | apply jI | apply jJ | apply jK | apply jL | apply jM | apply jN | apply jO) | ((with_reducible first | apply jP | apply jQ); rfl) | ((first | ((with_reducible first | apply jR | apply jS | apply jT); rfl; rfl) | (with_reducible first | apply jU | apply jV | apply jW) | ((with_reducible first | apply jX | apply jY | apply jZ); rfl) | ((with_reducible first | apply kA | apply kB | apply kC); rfl)); all_goals (first | ((with_reducible show Is _ _); exact kE_GJ0) | ((with_reducible refine fun (hc : (_ : Bool) = _) => ?_); (try simp only [xZ, xY, xP, reduceCtorEq] at hc); (try (have hx : True := hc; clear hx hc)); (try exact kX)) | ((with_reducible show ACall _ _ _ _ _); (first | ((with_reducible apply hnum) <;> exact kD_GJ0))) | ((fail_if_success (with_reducible first | show Is _ _ | show ACall _ _ _ _ _)); (try ((with_reducible show _ ∨ _); exact kT))))))
        rfl
      | true =>
        have hb : hexR x ≤ 65535 ∧ hexV x = hexR x := by
          have hl : x.length ≤ 4 := by simp [hexOk] at ho; exact ho.1.2
          have := hex_bound (s := x) hl
          rw [List.take_length] at this
          rw [hexR, if_pos ho]
          exact ⟨this, rfl⟩
        rw [ho] at hnall hnum
        have hby1 := byte_nat (hexR x / 256) (by omega)
        have hby2 := byte_wrap (hexR x)
        rw [hb.2] at hset
        have hb2 := hb.1
        clear hb ho hno
        generalize hexR x = w at *
        replace hset : Hid _ := hset
        have h2i : (2 * (j : Int)).toNat = 2 * j := by omega
        repeat' (first | (with_reducible first | apply jA | apply jB | apply jC | apply jD | apply jE | apply jF | apply jG | apply jH | apply jI | apply jJ | apply jK | apply jL | apply jM | apply jN | apply jO) | ((with_reducible first | apply jP | apply jQ); rfl) | ((first | ((with_reducible first | apply jR | apply jS | apply jT); rfl; rfl) | (with_reducible first | apply jU | apply jV | apply jW) | ((with_reducible first | apply jX | apply jY | apply jZ); rfl) | ((with_reducible first | apply kA | apply kB | apply kC); rfl)); all_goals (first | ((with_reducible show Is _ _); exact kE_GJ0) | ((with_reducible refine fun (hc : (_ : Bool) = _) => ?_); (try simp only [xZ, xY, xP, reduceCtorEq] at hc); (try (have hx : True := hc; clear hx hc)); (try exact kX)) | ((with_reducible show ACall _ _ _ _ _); (first | ((with_reducible apply hnum) <;> exact kD_GJ0))) | ((fail_if_success (with_reducible first | show Is _ _ | show ACall _ _ _ _ _)); (try ((with_reducible show _ ∨ _); exact kT))))))
        refine ⟨⟨j + 1, by omega, hnall, by (simp (disch := omega) [go_sem, *]) <;> (try omega), by (simp (disch := omega) [go_sem, *]) <;> (try omega), by (simp (disch := omega) [go_sem, *]) <;> (try omega), by (simp (disch := omega) [go_sem, *]) <;> (try omega), by (simp (disch := omega) [go_sem, *]) <;> (try omega), by (simp (disch := omega) [go_sem, *]) <;> (try omega), ?_⟩, by (simp (disch := omega) [go_sem, *]) <;> (try omega)⟩
        rw [← (show _ = a6 L (j + 1) from hset), List.map_set, List.map_set, hby1, hby2]
        simp only [List.map_drop, List.map_take]
        rw [set2b (by simp; omega)]
        simp
    · obtain rfl : j = 8 := by omega
      have hp : p6 L = some (true, a6 L 8) := by rw [List.take_of_length_le (by omega)] at hall; simp [p6, hall]
      rw [hp]
      repeat' (first | (with_reducible first | apply jA | apply jB | apply jC | apply jD | apply jE | apply jF | apply jG | apply jH | apply jI | apply jJ | apply jK | apply jL | apply jM | apply jN | apply jO) | ((with_reducible first | apply jP | apply jQ); rfl) | ((first | ((with_reducible first | apply jR | apply jS | apply jT); rfl; rfl) | (with_reducible first | apply jU | apply jV | apply jW) | ((with_reducible first | apply jX | apply jY | apply jZ); rfl)); all_goals (first | ((with_reducible show Is _ _); exact kE) | ((with_reducible refine fun (hc : (_ : Bool) = _) => ?_); (try simp only [xZ, xY, xP, reduceCtorEq] at hc); (try (have hx : True := hc; clear hx hc)); (try exact kX)) | ((fail_if_success (with_reducible first | show Is _ _ | show ACall _ _ _ _ _)); (try ((with_reducible show _ ∨ _); exact kT))))))
      (simp (disch := omega) [go_sem, *, rA, addrC]) <;> (try omega)
  · have hp : parseA s = none := by rw [parseA, if_neg hL, if_neg hL6]
    rw [hp]
    clear hp hm4 hm6
    repeat' (first | (with_reducible first | apply jA | apply jB | apply jC | apply jD | apply jE | apply jF | apply jG | apply jH | apply jI | apply jJ | apply jK | apply jL | apply jM | apply jN | apply jO) | ((with_reducible first | apply jP | apply jQ); rfl) | ((first | ((with_reducible first | apply jR | apply jS | apply jT); rfl; rfl) | (with_reducible first | apply jU | apply jV | apply jW) | ((with_reducible first | apply jX | apply jY | apply jZ); rfl) | ((with_reducible first | apply kA | apply kB | apply kC); rfl)); all_goals (first | ((with_reducible show Is _ _); exact kE) | ((with_reducible refine fun (hc : (_ : Bool) = _) => ?_); (try simp only [xZ, xY, xP, reduceCtorEq] at hc); (try (have hx : True := hc; clear hx hc)); (try exact kX)) | ((with_reducible show ACall _ _ _ _ _); (first | ((with_reducible apply hsp4) <;> exact kD) | ((with_reducible apply hsp6) <;> exact kD))) | ((fail_if_success (with_reducible first | show Is _ _ | show ACall _ _ _ _ _)); (try ((with_reducible show _ ∨ _); exact kT))))))
    rfl
end Go.Proofs.YtdceppjoipoohaaGreatDoor
end
section
namespace Go.Proofs.YtdceppjoipoohaaGreatDoor
open Go Go.Sy
set_option linter.all false
set_option maxRecDepth 100000
set_option maxHeartbeats 4000000
theorem kE_GK0 {α : Type} {x y : α} (h : Is x y := by first | ((try simp (disch := first | omega | (simp only [yZ, yB] <;> omega) | fail) [go_sem, yY, *, prefC, if_pos, if_neg, -List.map_take, -List.map_drop, -List.map_append, -List.map_reverse]); exact rfl) | fail) : Is x y := h
theorem kD_GK0 {p : Prop} (h : p := by (first | omega | assumption | exact rfl | ((simp (disch := first | omega | (simp only [yZ, yB] <;> omega) | fail) [go_sem, yY, *, prefC, -List.map_take, -List.map_drop, -List.map_append, -List.map_reverse]) <;> (first | done | omega | exact rfl)) | fail)) : p := h
theorem fmtA_len (six : Bool) (A : List UInt8) : (fmtA six A).length ≤ 40 := by
  rw [fmtA]
  split
  · split
    · have := join_le (t := [58]) (k := 4) (parts6 A 8) fun x hx => by
        simp only [parts6, List.mem_map, List.mem_range] at hx
        obtain ⟨i, _, rfl⟩ := hx
        exact hexT_len 3 _ (grp_lt A i)
      simpa [parts6] using this
    · have := join_le (t := [46]) (k := 3) (parts4 A 4) fun x hx => by
        simp only [parts4, List.mem_map, List.mem_range] at hx
        obtain ⟨i, _, rfl⟩ := hx
        have := (A.getD i 0).toNat_lt
        exact decDigits_len 2 _ (by omega)
      simp [parts4] at this ⊢
      omega
  · simp
def brk (six : Bool) (t : List UInt8) : List UInt8 := if six then 91 :: (t ++ [93]) else t
def fmtE (six : Bool) (A : List UInt8) (p : Int) : List UInt8 := if okA six A = true ∧ 1 ≤ p ∧ p ≤ 65535 then brk six (fmtA six A) ++ 58 :: Go.Lib.decDigits p.toNat else []
theorem decDigits_ne (n : Nat) : Go.Lib.decDigits n ≠ [] := by
  rw [Go.Lib.decDigits]; split <;> simp
theorem fmtA_nil {six : Bool} {A : List UInt8} : (fmtA six A = []) ↔ okA six A = false := by
  cases h : okA six A with
  | false => simp [fmtA, h]
  | true =>
    simp only [fmtA, h, if_true, Bool.true_eq_false, iff_false]
    cases six with
    | true => simp [parts6, show List.range 8 = [0, 1, 2, 3, 4, 5, 6, 7] from rfl, Go.Lib.join_cons, Go.Lib.joinTail]
    | false => simp [parts4, show List.range 4 = [0, 1, 2, 3] from rfl, Go.Lib.join_cons, Go.Lib.joinTail]
theorem fmtE_in (six : Bool) (A : List UInt8) (p : Int) (hA : A.length = 16) (hp : -9223372036854775808 ≤ p ∧ p ≤ 9223372036854775807) : PC Tryz.prog true 28 [prefC six A p] (.str (fmtE six A p)) := by
  refine acall_intro mixed Tryz.func28 rfl ca28 (by kernel_rfl) (by rw [Tryz.ntmps28]; simp) ?_
  have hf : ∀ {B : List Box} {args : List CV}, Is (omap (Go.Sy.fz true false B 6) args) (some [addrC six A]) → ACall Tryz.prog 45 args B fun c B' => c = .str (fmtA six A) ∧ B' = B := fun h => fmtAddr_at h hA
  have hfl := fmtA_len six A
  have hnil := @fmtA_nil six A
  by_cases hok : okA six A = true
  · have hne : fmtA six A ≠ [] := fun h => by rw [hnil.1 h] at hok; cases hok
    have hq : (fmtA six A == []) = false := by simpa using hne
    by_cases hr : 1 ≤ p ∧ p ≤ 65535
    · have e : fmtE six A p = brk six (fmtA six A) ++ 58 :: Go.Lib.decDigits p.toNat := by rw [fmtE, if_pos ⟨hok, hr⟩]
      have hi : ∀ {B : List Box}, ACall Tryz.prog 27 [.int .i64 p] B fun c B' => c = .str (Go.Lib.decDigits p.toNat) ∧ B' = B := by
        intro B
        have := itoa_at (B := B) (n := p) hp
        rwa [Go.Lib.itoa, if_neg (by omega)] at this
      have hdl := decDigits_len 4 p.toNat (by omega)
      rw [e]
      have hr1 := hr.1
      have hr2 := hr.2
      clear e hnil hok hne hr
      generalize fmtA six A = t at *
      generalize Go.Lib.decDigits p.toNat = d at *
      cases six with
      | true =>
        repeat' (first | (with_reducible first | apply jA | apply jB | apply jC | apply jD | apply jE | apply jF | apply jG | apply jH | apply jI | apply jJ | apply jK | apply jL | apply jM | apply jN | apply jO) | ((with_reducible first | apply jP | apply jQ); rfl) | ((first | ((with_reducible first | apply jR | apply jS | apply jT); rfl; rfl) | (with_reducible first | apply jU | apply jV | apply jW) | ((with_reducible first | apply jX | apply jY | apply jZ); rfl) | ((with_reducible first | apply kA | apply kB | apply kC); rfl)); all_goals (first | ((with_reducible show Is _ _); exact kE_GK0) | ((with_reducible refine fun (hc : (_ : Bool) = _) => ?_); (try simp only [xZ, xY, xP, reduceCtorEq] at hc); (try (have hx : True := hc; clear hx hc)); (try exact kX)) | ((with_reducible show ACall _ _ _ _ _); (first | ((with_reducible apply hf) <;> exact kD_GK0) | ((with_reducible apply hi) <;> exact kD_GK0))) | ((fail_if_success (with_reducible first | show Is _ _ | show ACall _ _ _ _ _)); (try ((with_reducible show _ ∨ _); exact kT))))))
        (simp (disch := omega) [go_sem, *, brk]) <;> (try omega)
      | false =>
        repeat' (first | (with_reducible first | apply jA | apply jB | apply jC | apply jD | apply jE | apply jF | apply jG | apply jH | apply jI | apply jJ | apply jK | apply jL | apply jM | apply jN | apply jO) | ((with_reducible first | apply jP | apply jQ); rfl) | ((first | ((with_reducible first | apply jR | apply jS | apply jT); rfl; rfl) | (with_reducible first | apply jU | apply jV | apply jW) | ((with_reducible first | apply jX | apply jY | apply jZ); rfl) | ((with_reducible first | apply kA | apply kB | apply kC); rfl)); all_goals (first | ((with_reducible show Is _ _); exact kE_GK0) | ((with_reducible refine fun (hc : (_ : Bool) = _) => ?_); (try simp only [xZ, xY, xP, reduceCtorEq] at hc); (try (have hx : True := hc; clear hx hc)); (try exact kX)) | ((with_reducible show ACall _ _ _ _ _); (first | ((with_reducible apply hf) <;> exact kD_GK0) | ((with_reducible apply hi) <;> exact kD_GK0))) | ((fail_if_success (with_reducible first | show Is _ _ | show ACall _ _ _ _ _)); (try ((with_reducible show _ ∨ _); exact kT))))))
        (simp (disch := omega) [go_sem, *, brk]) <;> (try omega)
    · have e : fmtE six A p = [] := by rw [fmtE, if_neg fun h => hr h.2]
      rw [e]
      have hr2 : p < 1 ∨ (1 ≤ p ∧ 65535 < p) := by omega
      clear e hnil hok hne hr
      generalize fmtA six A = t at *
      rcases hr2 with hr | ⟨hr, hr2⟩
      · repeat' (first | (with_reducible first | apply jA | apply jB | apply jC | apply jD | apply jE | apply jF | apply jG | apply jH | apply jI | apply jJ | apply jK | apply jL | apply jM | apply jN | apply jO) | ((with_reducible first | apply jP | apply jQ); rfl) | ((first | ((with_reducible first | apply jR | apply jS | apply jT); rfl; rfl) | (with_reducible first | apply jU | apply jV | apply jW) | ((with_reducible first | apply jX | apply jY | apply jZ); rfl) | ((with_reducible first | apply kA | apply kB | apply kC); rfl)); all_goals (first | ((with_reducible show Is _ _); exact kE_GK0) | ((with_reducible refine fun (hc : (_ : Bool) = _) => ?_); (try simp only [xZ, xY, xP, reduceCtorEq] at hc); (try (have hx : True := hc; clear hx hc)); (try exact kX)) | ((with_reducible show ACall _ _ _ _ _); (first | ((with_reducible apply hf) <;> exact kD_GK0))) | ((fail_if_success (with_reducible first | show Is _ _ | show ACall _ _ _ _ _)); (try ((with_reducible show _ ∨ _); exact kT))))))
        rfl
      · repeat' (first | (with_reducible first | apply jA | apply jB | apply jC | apply jD | apply jE | apply jF | apply jG | apply jH | apply jI | apply jJ | apply jK | apply jL | apply jM | apply jN | apply jO) | ((with_reducible first | apply jP | apply jQ); rfl) | ((first | ((with_reducible first | apply jR | apply jS | apply jT); rfl; rfl) | (with_reducible first | apply jU | apply jV | apply jW) | ((with_reducible first | apply jX | apply jY | apply jZ); rfl) | ((with_reducible first | apply kA | apply kB | apply kC); rfl)); all_goals (first | ((with_reducible show Is _ _); exact kE_GK0) | ((with_reducible refine fun (hc : (_ : Bool) = _) => ?_); (try simp only [xZ, xY, xP, reduceCtorEq] at hc); (try (have hx : True := hc; clear hx hc)); (try exact kX)) | ((with_reducible show ACall _ _ _ _ _); (first | ((with_reducible apply hf) <;> exact kD_GK0))) | ((fail_if_success (with_reducible first | show Is _ _ | show ACall _ _ _ _ _)); (try ((with_reducible show _ ∨ _); exact kT))))))
        rfl
  · have e : fmtE six A p = [] := by rw [fmtE, if_neg fun h => hok h.1]
    rw [e]
    rw [hnil.2 (by simpa using hok)] at hf
    repeat' (first | (with_reducible first | apply jA | apply jB | apply jC | apply jD | apply jE | apply jF | apply jG | apply jH | apply jI | apply jJ | apply jK | apply jL | apply jM | apply jN | apply jO) | ((with_reducible first | apply jP | apply jQ); rfl) | ((first | ((with_reducible first | apply jR | apply jS | apply jT); rfl; rfl) | (with_reducible first | apply jU | apply jV | apply jW) | ((with_reducible first | apply jX | apply jY | apply jZ); rfl) | ((with_reducible first | apply kA | apply kB | apply kC); rfl)); all_goals (first | ((with_reducible show Is _ _); exact kE_GK0) | ((with_reducible refine fun (hc : (_ : Bool) = _) => ?_); (try simp only [xZ, xY, xP, reduceCtorEq] at hc); (try (have hx : True := hc; clear hx hc)); (try exact kX)) | ((with_reducible show ACall _ _ _ _ _); (first | ((with_reducible apply hf) <;> exact kD_GK0))) | ((fail_if_success (with_reducible first | show Is _ _ | show ACall _ _ _ _ _)); (try ((with_reducible show _ ∨ _); exact kT))))))
    rfl
def fmtP (six : Bool) (A : List UInt8) (s : Int) : List UInt8 := if vld six A s then fmtA six A ++ 47 :: Go.Lib.decDigits s.toNat else []
theorem fmtP_in (six : Bool) (A : List UInt8) (p : Int) (hA : A.length = 16) (hp : -9223372036854775808 ≤ p ∧ p ≤ 9223372036854775807) : PC Tryz.prog true 17 [prefC six A p] (.str (fmtP six A p)) := by
  refine acall_intro mixed Tryz.func17 rfl ca17 (by kernel_rfl) (by rw [Tryz.ntmps17]; simp) ?_
  have hf : ∀ {B : List Box} {args : List CV}, Is (omap (Go.Sy.fz true false B 6) args) (some [addrC six A]) → ACall Tryz.prog 45 args B fun c B' => c = .str (fmtA six A) ∧ B' = B := fun h => fmtAddr_at h hA
  have hv : ∀ {B : List Box} {args : List CV}, Is (omap (Go.Sy.fz true false B 6) args) (some [prefC six A p]) → ACall Tryz.prog 44 args B fun c B' => c = .bool (vld six A p) ∧ B' = B := fun h => iValid_at h hA
  have hfl := fmtA_len six A
  cases hok : vld six A p with
  | true =>
    have hr := vld_range hok
    have e : fmtP six A p = fmtA six A ++ 47 :: Go.Lib.decDigits p.toNat := by rw [fmtP, if_pos hok]
    have hi : ∀ {B : List Box}, ACall Tryz.prog 27 [.int .i64 p] B fun c B' => c = .str (Go.Lib.decDigits p.toNat) ∧ B' = B := by
      intro B
      have := itoa_at (B := B) (n := p) hp
      rwa [Go.Lib.itoa, if_neg (by omega)] at this
    have hdl := decDigits_len 4 p.toNat (by omega)
    rw [e]
    rw [hok] at hv
    clear e hok
    generalize fmtA six A = t at *
    generalize Go.Lib.decDigits p.toNat = d at *
    repeat' (first | (with_reducible first | apply jA | apply jB | apply jC | apply jD | apply jE | apply jF | apply jG | apply jH | apply jI | apply jJ | apply jK | apply jL | apply jM | apply jN | apply jO) | ((with_reducible first | apply jP | apply jQ); rfl) | ((first | ((with_reducible first | apply jR | apply jS | apply jT); rfl; rfl) | (with_reducible first | apply jU | apply jV | apply jW) | ((with_reducible first | apply jX | apply jY | apply jZ); rfl) | ((with_reducible first | apply kA | apply kB | apply kC); rfl)); all_goals (first | ((with_reducible show Is _ _); exact kE_GK0) | ((with_reducible refine fun (hc : (_ : Bool) = _) => ?_); (try simp only [xZ, xY, xP, reduceCtorEq] at hc); (try (have hx : True := hc; clear hx hc)); (try exact kX)) | ((with_reducible show ACall _ _ _ _ _); (first | ((with_reducible apply hf) <;> exact kD_GK0) | ((with_reducible apply hi) <;> exact kD_GK0) | ((with_reducible apply hv) <;> exact kD_GK0))) | ((fail_if_success (with_reducible first | show Is _ _ | show ACall _ _ _ _ _)); (try ((with_reducible show _ ∨ _); exact kT))))))
    (simp (disch := omega) [go_sem, *, brk]) <;> (try omega)
  | false =>
    have e : fmtP six A p = [] := by rw [fmtP, hok]; rfl
    rw [e]
    rw [hok] at hv
    clear e
    repeat' (first | (with_reducible first | apply jA | apply jB | apply jC | apply jD | apply jE | apply jF | apply jG | apply jH | apply jI | apply jJ | apply jK | apply jL | apply jM | apply jN | apply jO) | ((with_reducible first | apply jP | apply jQ); rfl) | ((first | ((with_reducible first | apply jR | apply jS | apply jT); rfl; rfl) | (with_reducible first | apply jU | apply jV | apply jW) | ((with_reducible first | apply jX | apply jY | apply jZ); rfl) | ((with_reducible first | apply kA | apply kB | apply kC); rfl)); all_goals (first | ((with_reducible show Is _ _); exact kE_GK0) | ((with_reducible refine fun (hc : (_ : Bool) = _) => ?_); (try simp only [xZ, xY, xP, reduceCtorEq] at hc); (try (have hx : True := hc; clear hx hc)); (try exact kX)) | ((with_reducible show ACall _ _ _ _ _); (first | ((with_reducible apply hv) <;> exact kD_GK0))) | ((fail_if_success (with_reducible first | show Is _ _ | show ACall _ _ _ _ _)); (try ((with_reducible show _ ∨ _); exact kT))))))
    rfl
end Go.Proofs.YtdceppjoipoohaaGreatDoor
end
section
namespace Go.Proofs.YtdceppjoipoohaaGreatDoor
open Go Go.Sy
set_option linter.all false
set_option maxRecDepth 100000
set_option maxHeartbeats 4000000
theorem kE_GL0 {α : Type} {x y : α} (h : Is x y := by first | ((try simp (disch := first | omega | (simp only [yZ, yB] <;> omega) | fail) [go_sem, yY, *, rA, addrC, if_pos, if_neg, -List.map_take, -List.map_drop, -List.map_append, -List.map_reverse]); exact rfl) | fail) : Is x y := h
theorem kD_GL0 {p : Prop} (h : p := by (first | omega | assumption | exact rfl | ((simp (disch := first | omega | (simp only [yZ, yB] <;> omega) | fail) [go_sem, yY, *, rA, addrC, -List.map_take, -List.map_drop, -List.map_append, -List.map_reverse]) <;> (first | done | omega | exact rfl)) | fail)) : p := h
theorem dec_eq (m lim : Nat) (h1 : 1 ≤ m) (hm : m ≤ 10) (hl : lim < 10 ^ m) (x : List UInt8) : (decOk 10 x && decide ((decR 10 x : Int) ≤ lim)) = (decOk m x && decide (decV x ≤ lim)) := by
  by_cases h : x.length ≤ m
  · have e : decOk 10 x = decOk m x := by
      have h10 : x.length ≤ 10 := by omega
      simp [decOk, headOk, h, h10]
    rw [← e]
    cases hd : decOk 10 x with
    | false => simp
    | true => simp [decR, hd]
  · have e3 : decOk m x = false := by simp [decOk, headOk, h]
    rw [e3, Bool.false_and, Bool.and_eq_false_iff]
    cases hd : decOk 10 x with
    | false => exact .inl rfl
    | true =>
      right
      rw [decR, if_pos hd]
      cases x with
      | nil => simp at h
      | cons c x =>
        simp only [decOk, Bool.and_eq_true, List.all_cons] at hd
        have hc : 48 ≤ c.toNat ∧ c.toNat ≤ 57 := by simpa [isDig] using hd.2.1
        have hne : c ≠ 48 ∨ x = [] := by
          by_cases hx : x = []
          · exact .inr hx
          left
          intro hc48
          have := hd.1
          simp [headOk, hc48] at this
          exact hx this.2
        simp at h
        have hp : 10 ^ m ≤ 10 ^ x.length := Nat.pow_le_pow_right (by decide) (by omega)
        have hge := foldl_ge x (10 * 0 + (c.toNat - 48))
        have hv : decV (c :: x) = x.foldl (fun n c => 10 * n + (c.toNat - 48)) (10 * 0 + (c.toNat - 48)) := rfl
        rw [hv]
        simp only [decide_eq_false_iff_not]
        rcases hne with hne | rfl
        · have hc1 : 49 ≤ c.toNat := by
            rcases Nat.lt_or_ge c.toNat 49 with h1 | h1
            · exact absurd (UInt8.toNat_inj.1 (by show c.toNat = 48; omega)) hne
            · exact h1
          have : 1 * 10 ^ x.length ≤ (10 * 0 + (c.toNat - 48)) * 10 ^ x.length := Nat.mul_le_mul_right _ (by omega)
          omega
        · simp at h
          omega
theorem pre_one (b : UInt8) (t : List UInt8) : [b].isPrefixOf t = (t.head? == some b) := by
  cases t with
  | nil => rfl
  | cons c t =>
    rw [Bool.eq_iff_iff]
    simp [List.isPrefixOf]
    exact eq_comm
theorem suf_one (b : UInt8) (t : List UInt8) : [b].isSuffixOf t = (t.getLast? == some b) := by
  rw [List.isSuffixOf, List.reverse_singleton, pre_one, List.head?_reverse]
theorem lastOcc_lastJ (s : List UInt8) : ∀ k, Go.Lib.lastOcc s [58] k = lastJ s k
  | 0 => rfl
  | k + 1 => by
    rw [Go.Lib.lastOcc, lastJ, lastOcc_lastJ s k]
    have : Go.Lib.occAt s [58] k = true ↔ s[k]? = some 58 := by
      rw [Go.Lib.occAt, pre_one, ← List.head?_drop]; simp
    simp only [this]
theorem lastIndex_lastJ (s : List UInt8) : Go.Lib.lastIndex s [58] = lastJ s s.length := by
  rw [Go.Lib.lastIndex, lastOcc_lastJ]
  cases s with
  | nil => rfl
  | cons c s => rw [if_pos (by simp)]; simp
def brkt (t : List UInt8) : Bool := decide (2 ≤ t.length) && (t.head? == some 91) && (t.getLast? == some 93)
def unb (t : List UInt8) : List UInt8 := if brkt t then (t.drop 1).take (t.length - 2) else t
def endE (br : Bool) (q : Option (Bool × List UInt8)) (y : List UInt8) : Option (Bool × List UInt8 × Nat) :=
  match q with
  | some (six, A) => if decOk 5 y = true ∧ 1 ≤ decV y ∧ decV y ≤ 65535 ∧ six = br then some (six, A, decV y) else none
  | none => none
def parseE (s : List UInt8) : Option (Bool × List UInt8 × Nat) :=
  if lastJ s s.length < 0 then none else endE (brkt (s.take (lastJ s s.length).toNat)) (parseA (unb (s.take (lastJ s s.length).toNat))) (s.drop ((lastJ s s.length).toNat + 1))
def rE (o : Option (Bool × List UInt8 × Nat)) : CV := match o with | some (six, A, n) => .tup [prefC six A n, .int .i64 0] | none => .tup [prefC false z16 0, .int .i64 5]
theorem pre_suf (t : List UInt8) : (Go.Lib.hasPrefix t [91] && Go.Lib.hasSuffix t [93]) = brkt t := by
  rw [Go.Lib.hasPrefix, Go.Lib.hasSuffix, pre_one, suf_one, brkt]
  match t with
  | [] => rfl
  | [c] =>
    simp
    intro h1 h2
    rw [h1] at h2
    exact absurd h2 (by decide)
  | c :: d :: t => simp
theorem lastJ_lt (s : List UInt8) : ∀ k, lastJ s k < k ∧ -1 ≤ lastJ s k
  | 0 => ⟨by simp [lastJ], by simp [lastJ]⟩
  | k + 1 => by
    have := lastJ_lt s k
    rw [lastJ]
    split <;> omega
theorem unb_le (t : List UInt8) : (unb t).length ≤ t.length := by
  rw [unb]
  split
  · rw [List.length_take, List.length_drop]; omega
  · exact Nat.le_refl _
theorem parse_at {B : List Box} {s : List UInt8} (hs : s.length < 1000000000) : ACall Tryz.prog 42 [.str s] B fun c B' => c = rA (parseA s) ∧ B' = B := acall_fresh (nz := false) rfl (parse_in s hs)
theorem parseA_len {s : List UInt8} {six : Bool} {A : List UInt8} (h : parseA s = some (six, A)) : A.length = 16 := by
  rw [parseA] at h
  split at h
  · exact p4_len (by assumption) h
  · split at h
    · exact p6_len (by assumption) h
    · cases h
theorem parseE_in (s : List UInt8) (hs : s.length < 1000000000) : PC Tryz.prog true 106 [.str s] (rE (parseE s)) := by
  refine acall_intro mixed Tryz.func106 rfl ca106 (by kernel_rfl) (by rw [Tryz.ntmps106]; simp) ?_
  have hla : ∀ {B : List Box}, ACall Tryz.prog 119 [.str s, .str [58]] B fun c B' => c = .int .i64 (lastJ s s.length) ∧ B' = B := by
    intro B
    have := @lastIndex_at B s [58] (by omega)
    rwa [lastIndex_lastJ] at this
  have hlt := lastJ_lt s s.length
  rw [parseE]
  by_cases hn : lastJ s s.length < 0
  · rw [if_pos hn]
    repeat' (first | (with_reducible first | apply jA | apply jB | apply jC | apply jD | apply jE | apply jF | apply jG | apply jH | apply jI | apply jJ | apply jK | apply jL | apply jM | apply jN | apply jO) | ((with_reducible first | apply jP | apply jQ); rfl) | ((first | ((with_reducible first | apply jR | apply jS | apply jT); rfl; rfl) | (with_reducible first | apply jU | apply jV | apply jW) | ((with_reducible first | apply jX | apply jY | apply jZ); rfl) | ((with_reducible first | apply kA | apply kB | apply kC); rfl)); all_goals (first | ((with_reducible show Is _ _); exact kE) | ((with_reducible refine fun (hc : (_ : Bool) = _) => ?_); (try simp only [xZ, xY, xP, reduceCtorEq] at hc); (try (have hx : True := hc; clear hx hc)); (try exact kX)) | ((with_reducible show ACall _ _ _ _ _); (first | ((with_reducible apply hla) <;> exact kD))) | ((fail_if_success (with_reducible first | show Is _ _ | show ACall _ _ _ _ _)); (try ((with_reducible show _ ∨ _); exact kT))))))
    rfl
  rw [if_neg hn]
  obtain ⟨a, ha⟩ : ∃ a : Nat, lastJ s s.length = a := ⟨_, (Int.toNat_of_nonneg (by omega)).symm⟩
  rw [ha] at hlt hla ⊢
  rw [Int.toNat_natCast]
  obtain ⟨t, hT⟩ : ∃ t, s.take a = t := ⟨_, rfl⟩
  obtain ⟨y, hY⟩ : ∃ y, s.drop (a + 1) = y := ⟨_, rfl⟩
  have htl : t.length = a := by rw [← hT, List.length_take]; omega
  have hyl : y.length = s.length - (a + 1) := by rw [← hY, List.length_drop]
  have hY2 : y.take (s.length - (a + 1)) = y := List.take_of_length_le (by omega)
  rw [hT, hY]
  have hul := unb_le t
  have hde : ∀ {B : List Box}, ACall Tryz.prog 43 [.str y, .int .i64 65535] B fun c B' => c = .tup [.int .i64 (decR 10 y), .bool (decOk 5 y && decide (decV y ≤ 65535))] ∧ B' = B := by
    intro B
    have := @decimal_at B y 65535 (by omega)
    rwa [show (65535 : Int) = (65535 : Nat) from rfl, dec_eq 5 65535 (by decide) (by decide) (by decide)] at this
  have hpf : ∀ {B : List Box}, ACall Tryz.prog 120 [.str t, .str [91]] B fun c B' => c = .bool (Go.Lib.hasPrefix t [91]) ∧ B' = B := hasPrefix_at
  have hsf : ∀ {B : List Box}, ACall Tryz.prog 121 [.str t, .str [93]] B fun c B' => c = .bool (Go.Lib.hasSuffix t [93]) ∧ B' = B := hasSuffix_at (by omega)
  have hpa : ∀ {B : List Box}, ACall Tryz.prog 42 [.str (unb t)] B fun c B' => c = rA (parseA (unb t)) ∧ B' = B := parse_at (by omega)
  have hps := pre_suf t
  have hpl := @parseA_len (unb t)
  have hv : decOk 5 y = true → decR 10 y = decV y := fun h => by
    have h10 : decOk 10 y = true := by
      simp only [decOk, headOk, Bool.and_eq_true, decide_eq_true_eq] at h ⊢
      exact ⟨⟨⟨h.1.1.1, by omega⟩, h.1.2⟩, h.2⟩
    rw [decR, if_pos h10]
  have hub : unb t = if brkt t then (t.drop 1).take (t.length - 2) else t := rfl
  have hb2 : brkt t = true → 2 ≤ t.length := fun h => by
    simp only [brkt, Bool.and_eq_true, decide_eq_true_eq] at h; exact h.1.1
  generalize unb t = u at *
  generalize parseA u = q at *
  generalize brkt t = br at *
  generalize Go.Lib.hasPrefix t [91] = pf at *
  generalize Go.Lib.hasSuffix t [93] = sf at *
  generalize decR 10 y = v at *
  clear hn ha
  cases pf with
  | false =>
    obtain rfl : br = false := by rw [← hps]; rfl
    obtain rfl : u = t := by rw [hub]; rfl
    clear hps hub hb2
    cases q with
    | none =>
      repeat' (first | (with_reducible first | apply jA | apply jB | apply jC | apply jD | apply jE | apply jF | apply jG | apply jH | apply jI | apply jJ | apply jK | apply jL | apply jM | apply jN | apply jO) | ((with_reducible first | apply jP | apply jQ); rfl) | ((first | ((with_reducible first | apply jR | apply jS | apply jT); rfl; rfl) | (with_reducible first | apply jU | apply jV | apply jW) | ((with_reducible first | apply jX | apply jY | apply jZ); rfl) | ((with_reducible first | apply kA | apply kB | apply kC); rfl)); all_goals (first | ((with_reducible show Is _ _); exact kE_GL0) | ((with_reducible refine fun (hc : (_ : Bool) = _) => ?_); (try simp only [xZ, xY, xP, reduceCtorEq] at hc); (try (have hx : True := hc; clear hx hc)); (try exact kX)) | ((with_reducible show ACall _ _ _ _ _); (first | ((with_reducible apply hla) <;> exact kD_GL0) | ((with_reducible apply hde) <;> exact kD_GL0) | ((with_reducible apply hpf) <;> exact kD_GL0) | ((with_reducible apply hsf) <;> exact kD_GL0) | ((with_reducible apply hpa) <;> exact kD_GL0))) | ((fail_if_success (with_reducible first | show Is _ _ | show ACall _ _ _ _ _)); (try ((with_reducible show _ ∨ _); exact kT))))))
      rfl
    | some q =>
      obtain ⟨six, A⟩ := q
      have hA := hpl rfl
      clear hpl
      simp only [rA, addrC] at hpa
      cases hok : decOk 5 y && decide (decV y ≤ 65535) with
      | false =>
        rw [hok] at hde
        have e : endE false (some (six, A)) y = none := by
          rw [endE, if_neg]; rintro ⟨h1, h2, h3, h4⟩; simp [h1, h3] at hok
        rw [e]
        clear hok hv e
        repeat' (first | (with_reducible first | apply jA | apply jB | apply jC | apply jD | apply jE | apply jF | apply jG | apply jH | apply jI | apply jJ | apply jK | apply jL | apply jM | apply jN | apply jO) | ((with_reducible first | apply jP | apply jQ); rfl) | ((first | ((with_reducible first | apply jR | apply jS | apply jT); rfl; rfl) | (with_reducible first | apply jU | apply jV | apply jW) | ((with_reducible first | apply jX | apply jY | apply jZ); rfl) | ((with_reducible first | apply kA | apply kB | apply kC); rfl)); all_goals (first | ((with_reducible show Is _ _); exact kE) | ((with_reducible refine fun (hc : (_ : Bool) = _) => ?_); (try simp only [xZ, xY, xP, reduceCtorEq] at hc); (try (have hx : True := hc; clear hx hc)); (try exact kX)) | ((with_reducible show ACall _ _ _ _ _); (first | ((with_reducible apply hla) <;> exact kD) | ((with_reducible apply hde) <;> exact kD) | ((with_reducible apply hpf) <;> exact kD) | ((with_reducible apply hsf) <;> exact kD) | ((with_reducible apply hpa) <;> exact kD))) | ((fail_if_success (with_reducible first | show Is _ _ | show ACall _ _ _ _ _)); (try ((with_reducible show _ ∨ _); exact kT))))))
        rfl
      | true =>
        rw [hok] at hde
        rw [Bool.and_eq_true, decide_eq_true_eq] at hok
        have hv := hv hok.1
        by_cases h1 : 1 ≤ decV y
        · by_cases h6 : six = false
          · have e : endE false (some (six, A)) y = some (six, A, decV y) := by rw [endE, if_pos ⟨hok.1, h1, hok.2, h6⟩]
            rw [e]
            have hvl := hok.2
            clear hok e
            subst h6
            rw [← hv] at h1 hvl ⊢
            clear hv
            repeat' (first | (with_reducible first | apply jA | apply jB | apply jC | apply jD | apply jE | apply jF | apply jG | apply jH | apply jI | apply jJ | apply jK | apply jL | apply jM | apply jN | apply jO) | ((with_reducible first | apply jP | apply jQ); rfl) | ((first | ((with_reducible first | apply jR | apply jS | apply jT); rfl; rfl) | (with_reducible first | apply jU | apply jV | apply jW) | ((with_reducible first | apply jX | apply jY | apply jZ); rfl) | ((with_reducible first | apply kA | apply kB | apply kC); rfl)); all_goals (first | ((with_reducible show Is _ _); exact kE) | ((with_reducible refine fun (hc : (_ : Bool) = _) => ?_); (try simp only [xZ, xY, xP, reduceCtorEq] at hc); (try (have hx : True := hc; clear hx hc)); (try exact kX)) | ((with_reducible show ACall _ _ _ _ _); (first | ((with_reducible apply hla) <;> exact kD) | ((with_reducible apply hde) <;> exact kD) | ((with_reducible apply hpf) <;> exact kD) | ((with_reducible apply hsf) <;> exact kD) | ((with_reducible apply hpa) <;> exact kD))) | ((fail_if_success (with_reducible first | show Is _ _ | show ACall _ _ _ _ _)); (try ((with_reducible show _ ∨ _); exact kT))))))
            (simp (disch := omega) [go_sem, *, rE, prefC]) <;> (try omega)
          · have e : endE false (some (six, A)) y = none := by
              rw [endE, if_neg]; rintro ⟨_, _, _, h4⟩; exact h6 h4
            rw [e]
            have hvl := hok.2
            have h6 : six = !false := by cases six <;> simp at h6 ⊢
            clear hok e
            subst h6
            rw [← hv] at h1 hvl
            clear hv
            repeat' (first | (with_reducible first | apply jA | apply jB | apply jC | apply jD | apply jE | apply jF | apply jG | apply jH | apply jI | apply jJ | apply jK | apply jL | apply jM | apply jN | apply jO) | ((with_reducible first | apply jP | apply jQ); rfl) | ((first | ((with_reducible first | apply jR | apply jS | apply jT); rfl; rfl) | (with_reducible first | apply jU | apply jV | apply jW) | ((with_reducible first | apply jX | apply jY | apply jZ); rfl) | ((with_reducible first | apply kA | apply kB | apply kC); rfl)); all_goals (first | ((with_reducible show Is _ _); exact kE) | ((with_reducible refine fun (hc : (_ : Bool) = _) => ?_); (try simp only [xZ, xY, xP, reduceCtorEq] at hc); (try (have hx : True := hc; clear hx hc)); (try exact kX)) | ((with_reducible show ACall _ _ _ _ _); (first | ((with_reducible apply hla) <;> exact kD) | ((with_reducible apply hde) <;> exact kD) | ((with_reducible apply hpf) <;> exact kD) | ((with_reducible apply hsf) <;> exact kD) | ((with_reducible apply hpa) <;> exact kD))) | ((fail_if_success (with_reducible first | show Is _ _ | show ACall _ _ _ _ _)); (try ((with_reducible show _ ∨ _); exact kT))))))
            rfl
        · have e : endE false (some (six, A)) y = none := by
            rw [endE, if_neg]; rintro ⟨_, h2, _⟩; exact h1 h2
          rw [e]
          have hvl := hok.2
          clear hok e
          rw [← hv] at h1 hvl
          clear hv
          repeat' (first | (with_reducible first | apply jA | apply jB | apply jC | apply jD | apply jE | apply jF | apply jG | apply jH | apply jI | apply jJ | apply jK | apply jL | apply jM | apply jN | apply jO) | ((with_reducible first | apply jP | apply jQ); rfl) | ((first | ((with_reducible first | apply jR | apply jS | apply jT); rfl; rfl) | (with_reducible first | apply jU | apply jV | apply jW) | ((with_reducible first | apply jX | apply jY | apply jZ); rfl) | ((with_reducible first | apply kA | apply kB | apply kC); rfl)); all_goals (first | ((with_reducible show Is _ _); exact kE) | ((with_reducible refine fun (hc : (_ : Bool) = _) => ?_); (try simp only [xZ, xY, xP, reduceCtorEq] at hc); (try (have hx : True := hc; clear hx hc)); (try exact kX)) | ((with_reducible show ACall _ _ _ _ _); (first | ((with_reducible apply hla) <;> exact kD) | ((with_reducible apply hde) <;> exact kD) | ((with_reducible apply hpf) <;> exact kD) | ((with_reducible apply hsf) <;> exact kD) | ((with_reducible apply hpa) <;> exact kD))) | ((fail_if_success (with_reducible first | show Is _ _ | show ACall _ _ _ _ _)); (try ((with_reducible show _ ∨ _); exact kT))))))
          rfl
  | true =>
    cases sf with
    | false =>
      obtain rfl : br = false := by rw [← hps]; rfl
      obtain rfl : u = t := by rw [hub]; rfl
      clear hps hub hb2
      cases q with
      | none =>
        repeat' (first | (with_reducible first | apply jA | apply jB | apply jC | apply jD | apply jE | apply jF | apply jG | apply jH | apply jI | apply jJ | apply jK | apply jL | apply jM | apply jN | apply jO) | ((with_reducible first | apply jP | apply jQ); rfl) | ((first | ((with_reducible first | apply jR | apply jS | apply jT); rfl; rfl) | (with_reducible first | apply jU | apply jV | apply jW) | ((with_reducible first | apply jX | apply jY | apply jZ); rfl) | ((with_reducible first | apply kA | apply kB | apply kC); rfl)); all_goals (first | ((with_reducible show Is _ _); exact kE_GL0) | ((with_reducible refine fun (hc : (_ : Bool) = _) => ?_); (try simp only [xZ, xY, xP, reduceCtorEq] at hc); (try (have hx : True := hc; clear hx hc)); (try exact kX)) | ((with_reducible show ACall _ _ _ _ _); (first | ((with_reducible apply hla) <;> exact kD_GL0) | ((with_reducible apply hde) <;> exact kD_GL0) | ((with_reducible apply hpf) <;> exact kD_GL0) | ((with_reducible apply hsf) <;> exact kD_GL0) | ((with_reducible apply hpa) <;> exact kD_GL0))) | ((fail_if_success (with_reducible first | show Is _ _ | show ACall _ _ _ _ _)); (try ((with_reducible show _ ∨ _); exact kT))))))
        rfl
      | some q =>
        obtain ⟨six, A⟩ := q
        have hA := hpl rfl
        clear hpl
        simp only [rA, addrC] at hpa
        cases hok : decOk 5 y && decide (decV y ≤ 65535) with
        | false =>
          rw [hok] at hde
          have e : endE false (some (six, A)) y = none := by
            rw [endE, if_neg]; rintro ⟨h1, h2, h3, h4⟩; simp [h1, h3] at hok
          rw [e]
          clear hok hv e
          repeat' (first | (with_reducible first | apply jA | apply jB | apply jC | apply jD | apply jE | apply jF | apply jG | apply jH | apply jI | apply jJ | apply jK | apply jL | apply jM | apply jN | apply jO) | ((with_reducible first | apply jP | apply jQ); rfl) | ((first | ((with_reducible first | apply jR | apply jS | apply jT); rfl; rfl) | (with_reducible first | apply jU | apply jV | apply jW) | ((with_reducible first | apply jX | apply jY | apply jZ); rfl) | ((with_reducible first | apply kA | apply kB | apply kC); rfl)); all_goals (first | ((with_reducible show Is _ _); exact kE) | ((with_reducible refine fun (hc : (_ : Bool) = _) => ?_); (try simp only [xZ, xY, xP, reduceCtorEq] at hc); (try (have hx : True := hc; clear hx hc)); (try exact kX)) | ((with_reducible show ACall _ _ _ _ _); (first | ((with_reducible apply hla) <;> exact kD) | ((with_reducible apply hde) <;> exact kD) | ((with_reducible apply hpf) <;> exact kD) | ((with_reducible apply hsf) <;> exact kD) | ((with_reducible apply hpa) <;> exact kD))) | ((fail_if_success (with_reducible first | show Is _ _ | show ACall _ _ _ _ _)); (try ((with_reducible show _ ∨ _); exact kT))))))
          rfl
        | true =>
          rw [hok] at hde
          rw [Bool.and_eq_true, decide_eq_true_eq] at hok
          have hv := hv hok.1
          by_cases h1 : 1 ≤ decV y
          · by_cases h6 : six = false
            · have e : endE false (some (six, A)) y = some (six, A, decV y) := by rw [endE, if_pos ⟨hok.1, h1, hok.2, h6⟩]
              rw [e]
              have hvl := hok.2
              clear hok e
              subst h6
              rw [← hv] at h1 hvl ⊢
              clear hv
              repeat' (first | (with_reducible first | apply jA | apply jB | apply jC | apply jD | apply jE | apply jF | apply jG | apply jH | apply jI | apply jJ | apply jK | apply jL | apply jM | apply jN | apply jO) | ((with_reducible first | apply jP | apply jQ); rfl) | ((first | ((with_reducible first | apply jR | apply jS | apply jT); rfl; rfl) | (with_reducible first | apply jU | apply jV | apply jW) | ((with_reducible first | apply jX | apply jY | apply jZ); rfl) | ((with_reducible first | apply kA | apply kB | apply kC); rfl)); all_goals (first | ((with_reducible show Is _ _); exact kE) | ((with_reducible refine fun (hc : (_ : Bool) = _) => ?_); (try simp only [xZ, xY, xP, reduceCtorEq] at hc); (try (have hx : True := hc; clear hx hc)); (try exact kX)) | ((with_reducible show ACall _ _ _ _ _); (first | ((with_reducible apply hla) <;> exact kD) | ((with_reducible apply hde) <;> exact kD) | ((with_reducible apply hpf) <;> exact kD) | ((with_reducible apply hsf) <;> exact kD) | ((with_reducible apply hpa) <;> exact kD))) | ((fail_if_success (with_reducible first | show Is _ _ | show ACall _ _ _ _ _)); (try ((with_reducible show _ ∨ _); exact kT))))))
              (simp (disch := omega) [go_sem, *, rE, prefC]) <;> (try omega)
            · have e : endE false (some (six, A)) y = none := by
                rw [endE, if_neg]; rintro ⟨_, _, _, h4⟩; exact h6 h4
              rw [e]
              have hvl := hok.2
              have h6 : six = !false := by cases six <;> simp at h6 ⊢
              clear hok e
              subst h6
              rw [← hv] at h1 hvl
              clear hv
              repeat' (first | (with_reducible first | apply jA | apply jB | apply jC | apply jD | apply jE | apply jF | apply jG | apply jH | apply jI | apply jJ | apply jK | apply jL | apply jM | apply jN | apply jO) | ((with_reducible first | apply jP | apply jQ); rfl) | ((first | ((with_reducible first | apply jR | apply jS | apply jT); rfl; rfl) | (with_reducible first | apply jU | apply jV | apply jW) | ((with_reducible first | apply jX | apply jY | apply jZ); rfl) | ((with_reducible first | apply kA | apply kB | apply kC); rfl)); all_goals (first | ((with_reducible show Is _ _); exact kE) | ((with_reducible refine fun (hc : (_ : Bool) = _) => ?_); (try simp only [xZ, xY, xP, reduceCtorEq] at hc); (try (have hx : True := hc; clear hx hc)); (try exact kX)) | ((with_reducible show ACall _ _ _ _ _); (first | ((with_reducible apply hla) <;> exact kD) | ((with_reducible apply hde) <;> exact kD) | ((with_reducible apply hpf) <;> exact kD) | ((with_reducible apply hsf) <;> exact kD) | ((with_reducible apply hpa) <;> exact kD))) | ((fail_if_success (with_reducible first | show Is _ _ | show ACall _ _ _ _ _)); (try ((with_reducible show _ ∨ _); exact kT))))))
              rfl
          · have e : endE false (some (six, A)) y = none := by
              rw [endE, if_neg]; rintro ⟨_, h2, _⟩; exact h1 h2
            rw [e]
            have hvl := hok.2
            clear hok e
            rw [← hv] at h1 hvl
            clear hv
            repeat' (first | (with_reducible first | apply jA | apply jB | apply jC | apply jD | apply jE | apply jF | apply jG | apply jH | apply jI | apply jJ | apply jK | apply jL | apply jM | apply jN | apply jO) | ((with_reducible first | apply jP | apply jQ); rfl) | ((first | ((with_reducible first | apply jR | apply jS | apply jT); rfl; rfl) | (with_reducible first | apply jU | apply jV | apply jW) | ((with_reducible first | apply jX | apply jY | apply jZ); rfl) | ((with_reducible first | apply kA | apply kB | apply kC); rfl)); all_goals (first | ((with_reducible show Is _ _); exact kE) | ((with_reducible refine fun (hc : (_ : Bool) = _) => ?_); (try simp only [xZ, xY, xP, reduceCtorEq] at hc); (try (have hx : True := hc; clear hx hc)); (try exact kX)) | ((with_reducible show ACall _ _ _ _ _); (first | ((with_reducible apply hla) <;> exact kD) | ((with_reducible apply hde) <;> exact kD) | ((with_reducible apply hpf) <;> exact kD) | ((with_reducible apply hsf) <;> exact kD) | ((with_reducible apply hpa) <;> exact kD))) | ((fail_if_success (with_reducible first | show Is _ _ | show ACall _ _ _ _ _)); (try ((with_reducible show _ ∨ _); exact kT))))))
            rfl
    | true =>
      obtain rfl : br = true := by rw [← hps]; rfl
      rw [if_pos rfl] at hub
      have hb2 := hb2 rfl
      have hub2 : t.tail.take (a - 1 - 1) = u := by rw [hub, ← htl, List.drop_one]; rfl
      clear hps hub
      cases q with
      | none =>
        repeat' (first | (with_reducible first | apply jA | apply jB | apply jC | apply jD | apply jE | apply jF | apply jG | apply jH | apply jI | apply jJ | apply jK | apply jL | apply jM | apply jN | apply jO) | ((with_reducible first | apply jP | apply jQ); rfl) | ((first | ((with_reducible first | apply jR | apply jS | apply jT); rfl; rfl) | (with_reducible first | apply jU | apply jV | apply jW) | ((with_reducible first | apply jX | apply jY | apply jZ); rfl) | ((with_reducible first | apply kA | apply kB | apply kC); rfl)); all_goals (first | ((with_reducible show Is _ _); exact kE_GL0) | ((with_reducible refine fun (hc : (_ : Bool) = _) => ?_); (try simp only [xZ, xY, xP, reduceCtorEq] at hc); (try (have hx : True := hc; clear hx hc)); (try exact kX)) | ((with_reducible show ACall _ _ _ _ _); (first | ((with_reducible apply hla) <;> exact kD_GL0) | ((with_reducible apply hde) <;> exact kD_GL0) | ((with_reducible apply hpf) <;> exact kD_GL0) | ((with_reducible apply hsf) <;> exact kD_GL0) | ((with_reducible apply hpa) <;> exact kD_GL0))) | ((fail_if_success (with_reducible first | show Is _ _ | show ACall _ _ _ _ _)); (try ((with_reducible show _ ∨ _); exact kT))))))
        rfl
      | some q =>
        obtain ⟨six, A⟩ := q
        have hA := hpl rfl
        clear hpl
        simp only [rA, addrC] at hpa
        cases hok : decOk 5 y && decide (decV y ≤ 65535) with
        | false =>
          rw [hok] at hde
          have e : endE true (some (six, A)) y = none := by
            rw [endE, if_neg]; rintro ⟨h1, h2, h3, h4⟩; simp [h1, h3] at hok
          rw [e]
          clear hok hv e
          repeat' (first | (with_reducible first | apply jA | apply jB | apply jC | apply jD | apply jE | apply jF | apply jG | apply jH | apply jI | apply jJ | apply jK | apply jL | apply jM | apply jN | apply jO) | ((with_reducible first | apply jP | apply jQ); rfl) | ((first | ((with_reducible first | apply jR | apply jS | apply jT); rfl; rfl) | (with_reducible first | apply jU | apply jV | apply jW) | ((with_reducible first | apply jX | apply jY | apply jZ); rfl) | ((with_reducible first | apply kA | apply kB | apply kC); rfl)); all_goals (first | ((with_reducible show Is _ _); exact kE) | ((with_reducible refine fun (hc : (_ : Bool) = _) => ?_); (try simp only [xZ, xY, xP, reduceCtorEq] at hc); (try (have hx : True := hc; clear hx hc)); (try exact kX)) | ((with_reducible show ACall _ _ _ _ _); (first | ((with_reducible apply hla) <;> exact kD) | ((with_reducible apply hde) <;> exact kD) | ((with_reducible apply hpf) <;> exact kD) | ((with_reducible apply hsf) <;> exact kD) | ((with_reducible apply hpa) <;> exact kD))) | ((fail_if_success (with_reducible first | show Is _ _ | show ACall _ _ _ _ _)); (try ((with_reducible show _ ∨ _); exact kT))))))
          rfl
        | true =>
          rw [hok] at hde
          rw [Bool.and_eq_true, decide_eq_true_eq] at hok
          have hv := hv hok.1
          by_cases h1 : 1 ≤ decV y
          · by_cases h6 : six = true
            · have e : endE true (some (six, A)) y = some (six, A, decV y) := by rw [endE, if_pos ⟨hok.1, h1, hok.2, h6⟩]
              rw [e]
              have hvl := hok.2
              clear hok e
              subst h6
              rw [← hv] at h1 hvl ⊢
              clear hv
              repeat' (first | (with_reducible first | apply jA | apply jB | apply jC | apply jD | apply jE | apply jF | apply jG | apply jH | apply jI | apply jJ | apply jK | apply jL | apply jM | apply jN | apply jO) | ((with_reducible first | apply jP | apply jQ); rfl) | ((first | ((with_reducible first | apply jR | apply jS | apply jT); rfl; rfl) | (with_reducible first | apply jU | apply jV | apply jW) | ((with_reducible first | apply jX | apply jY | apply jZ); rfl) | ((with_reducible first | apply kA | apply kB | apply kC); rfl)); all_goals (first | ((with_reducible show Is _ _); exact kE) | ((with_reducible refine fun (hc : (_ : Bool) = _) => ?_); (try simp only [xZ, xY, xP, reduceCtorEq] at hc); (try (have hx : True := hc; clear hx hc)); (try exact kX)) | ((with_reducible show ACall _ _ _ _ _); (first | ((with_reducible apply hla) <;> exact kD) | ((with_reducible apply hde) <;> exact kD) | ((with_reducible apply hpf) <;> exact kD) | ((with_reducible apply hsf) <;> exact kD) | ((with_reducible apply hpa) <;> exact kD))) | ((fail_if_success (with_reducible first | show Is _ _ | show ACall _ _ _ _ _)); (try ((with_reducible show _ ∨ _); exact kT))))))
              (simp (disch := omega) [go_sem, *, rE, prefC]) <;> (try omega)
            · have e : endE true (some (six, A)) y = none := by
                rw [endE, if_neg]; rintro ⟨_, _, _, h4⟩; exact h6 h4
              rw [e]
              have hvl := hok.2
              have h6 : six = !true := by cases six <;> simp at h6 ⊢
              clear hok e
              subst h6
              rw [← hv] at h1 hvl
              clear hv
              repeat' (first | (with_reducible first | apply jA | apply jB | apply jC | apply jD | apply jE | apply jF | apply jG | apply jH | apply jI | apply jJ | apply jK | apply jL | apply jM | apply jN | apply jO) | ((with_reducible first | apply jP | apply jQ); rfl) | ((first | ((with_reducible first | apply jR | apply jS | apply jT); rfl; rfl) | (with_reducible first | apply jU | apply jV | apply jW) | ((with_reducible first | apply jX | apply jY | apply jZ); rfl) | ((with_reducible first | apply kA | apply kB | apply kC); rfl)); all_goals (first | ((with_reducible show Is _ _); exact kE) | ((with_reducible refine fun (hc : (_ : Bool) = _) => ?_); (try simp only [xZ, xY, xP, reduceCtorEq] at hc); (try (have hx : True := hc; clear hx hc)); (try exact kX)) | ((with_reducible show ACall _ _ _ _ _); (first | ((with_reducible apply hla) <;> exact kD) | ((with_reducible apply hde) <;> exact kD) | ((with_reducible apply hpf) <;> exact kD) | ((with_reducible apply hsf) <;> exact kD) | ((with_reducible apply hpa) <;> exact kD))) | ((fail_if_success (with_reducible first | show Is _ _ | show ACall _ _ _ _ _)); (try ((with_reducible show _ ∨ _); exact kT))))))
              rfl
          · have e : endE true (some (six, A)) y = none := by
              rw [endE, if_neg]; rintro ⟨_, h2, _⟩; exact h1 h2
            rw [e]
            have hvl := hok.2
            clear hok e
            rw [← hv] at h1 hvl
            clear hv
            repeat' (first | (with_reducible first | apply jA | apply jB | apply jC | apply jD | apply jE | apply jF | apply jG | apply jH | apply jI | apply jJ | apply jK | apply jL | apply jM | apply jN | apply jO) | ((with_reducible first | apply jP | apply jQ); rfl) | ((first | ((with_reducible first | apply jR | apply jS | apply jT); rfl; rfl) | (with_reducible first | apply jU | apply jV | apply jW) | ((with_reducible first | apply jX | apply jY | apply jZ); rfl) | ((with_reducible first | apply kA | apply kB | apply kC); rfl)); all_goals (first | ((with_reducible show Is _ _); exact kE) | ((with_reducible refine fun (hc : (_ : Bool) = _) => ?_); (try simp only [xZ, xY, xP, reduceCtorEq] at hc); (try (have hx : True := hc; clear hx hc)); (try exact kX)) | ((with_reducible show ACall _ _ _ _ _); (first | ((with_reducible apply hla) <;> exact kD) | ((with_reducible apply hde) <;> exact kD) | ((with_reducible apply hpf) <;> exact kD) | ((with_reducible apply hsf) <;> exact kD) | ((with_reducible apply hpa) <;> exact kD))) | ((fail_if_success (with_reducible first | show Is _ _ | show ACall _ _ _ _ _)); (try ((with_reducible show _ ∨ _); exact kT))))))
            rfl
end Go.Proofs.YtdceppjoipoohaaGreatDoor
end
section
namespace Go.Proofs.YtdceppjoipoohaaGreatDoor
open Go Go.Sy
set_option linter.all false
set_option maxRecDepth 100000
set_option maxHeartbeats 4000000
def endP (q : Option (Bool × List UInt8)) (y : List UInt8) : Option (Bool × List UInt8 × Nat) :=
  match q with
  | some (six, A) => if decOk 3 y = true ∧ vld six A (decV y) = true then some (six, A, decV y) else none
  | none => none
def twoP : List (List UInt8) → Option (Bool × List UInt8 × Nat)
  | [x, y] => endP (parseA x) y
  | _ => none
def parseP (s : List UInt8) : Option (Bool × List UInt8 × Nat) := twoP (splitL 47 s)
theorem splitL_has (b : UInt8) (s : List UInt8) (h : b ∉ s) : splitL b s = [s] := by
  induction s with
  | nil => rfl
  | cons c s ih =>
    rw [splitL, if_neg fun e => h (by simp [e]), ih fun e => h (by simp [e])]
theorem splitL_len (b : UInt8) : ∀ s : List UInt8, (splitL b s).length = s.count b + 1
  | [] => rfl
  | c :: s => by
    have ih := splitL_len b s
    rw [splitL, List.count_cons]
    split
    · rename_i hc; simp [hc, ih]
    · rename_i hc
      split
      · rename_i he; exact absurd he (splitL_ne b s)
      · rename_i x xs he
        rw [he] at ih
        simp [hc] at ih ⊢; omega
theorem decOk_no {m : Nat} {y : List UInt8} (h : (47 : UInt8) ∈ y) : decOk m y = false := by
  have : y.all isDig = false := by
    rw [List.all_eq_false]
    exact ⟨47, h, by decide⟩
  rw [decOk, this, Bool.and_false]
theorem parseP_cut (s : List UInt8) : parseP s = endP (parseA (Go.Lib.cut s [47]).1) (Go.Lib.cut s [47]).2.1 := by
  have hnil : ∀ q, endP q [] = none := by
    intro q
    rcases q with _ | ⟨six, A⟩
    · rfl
    · rw [endP, if_neg]; rintro ⟨h, _⟩; exact absurd h (by decide)
  rw [Go.Lib.cut]
  have hg := Go.Lib.index_ge s [47]
  by_cases hi : 0 ≤ Go.Lib.index s [47]
  · obtain ⟨i, hi2⟩ : ∃ i : Nat, Go.Lib.index s [47] = i := ⟨(Go.Lib.index s [47]).toNat, by omega⟩
    rw [if_pos hi, hi2]
    rw [parseP, splitL_hit 47 s i hi2]
    show _ = endP (parseA (s.take i)) (s.drop (i + 1))
    by_cases hm : (47 : UInt8) ∈ s.drop (i + 1)
    · have hn : splitL 47 (s.drop (i + 1)) ≠ [s.drop (i + 1)] := fun h => by
        have := congrArg List.length h
        have h2 := splitL_len 47 (s.drop (i + 1))
        rw [this] at h2
        have := List.count_pos_iff.2 hm
        simp at h2
        omega
      have e : endP (parseA (s.take i)) (s.drop (i + 1)) = none := by
        rcases parseA (s.take i) with _ | ⟨six, A⟩
        · rfl
        · rw [endP, if_neg]; rintro ⟨h, _⟩; rw [decOk_no hm] at h; cases h
      rw [e]
      have hl := splitL_len 47 (s.drop (i + 1))
      have := List.count_pos_iff.2 hm
      match hz : splitL 47 (s.drop (i + 1)) with
      | [] => rfl
      | [z] => rw [hz] at hl; simp at hl; omega
      | _ :: _ :: _ => rfl
    · rw [splitL_has 47 _ hm]; rfl
  · have h1 : Go.Lib.index s [47] = -1 := by omega
    rw [if_neg hi, parseP, splitL_miss 47 s h1, hnil]; rfl
theorem cut_le (s : List UInt8) : (Go.Lib.cut s [47]).1.length ≤ s.length ∧ (Go.Lib.cut s [47]).2.1.length ≤ s.length := by
  rw [Go.Lib.cut]
  split <;> simp <;> omega
end Go.Proofs.YtdceppjoipoohaaGreatDoor
end
section
namespace Go.Proofs.YtdceppjoipoohaaGreatDoor
open Go Go.Sy
set_option linter.all false
set_option maxRecDepth 100000
set_option maxHeartbeats 4000000
theorem splitL_cons {b c : UInt8} {s : List UInt8} {x : List UInt8} {xs : List (List UInt8)} (h : splitL b s = x :: xs) (hc : c ≠ b) : splitL b (c :: s) = (c :: x) :: xs := by rw [splitL, if_neg hc, h]
end Go.Proofs.YtdceppjoipoohaaGreatDoor
end
section
namespace Go.Proofs.YtdceppjoipoohaaGreatDoor
open Go Go.Sy
set_option linter.all false
set_option maxRecDepth 100000
set_option maxHeartbeats 4000000
theorem digit_ok : ∀ d : Fin 10, isDig (UInt8.ofNat (48 + d.1)) = true ∧ (UInt8.ofNat (48 + d.1)).toNat - 48 = d.1 ∧ (UInt8.ofNat (48 + d.1) = 48 → d.1 = 0) := by decide
theorem dec_all : ∀ n : Nat, (Go.Lib.decDigits n).all isDig = true ∧ decV (Go.Lib.decDigits n) = n ∧ (n ≠ 0 → (Go.Lib.decDigits n).head? ≠ some 48) := by
  intro n
  induction n using Nat.strongRecOn with
  | _ n ih =>
    rw [Go.Lib.decDigits]
    split
    · rename_i h
      obtain ⟨h1, h2, h3⟩ := digit_ok ⟨n, h⟩
      refine ⟨by rw [List.all_cons, h1]; rfl, ?_, fun hn => ?_⟩
      · show 10 * 0 + _ = n
        rw [h2]; simp
      · intro e
        exact hn (h3 (Option.some.inj e))
    · rename_i h
      obtain ⟨h1, h2, h3⟩ := digit_ok ⟨n % 10, by omega⟩
      obtain ⟨i1, i2, i3⟩ := ih (n / 10) (by omega)
      dsimp only at h1 h2 h3
      refine ⟨by rw [List.all_append, i1, List.all_cons, h1]; rfl, ?_, fun _ => ?_⟩
      · rw [decV_app, i2, h2]; omega
      · have hne := decDigits_ne (n / 10)
        rw [List.head?_append]
        obtain ⟨c, r, hcr⟩ := List.exists_cons_of_ne_nil hne
        have := i3 (by omega)
        rw [hcr] at this ⊢
        exact this
theorem decOk_dec (k n : Nat) (h : n < 10 ^ (k + 1)) : decOk (k + 1) (Go.Lib.decDigits n) = true := by
  obtain ⟨h1, _, h3⟩ := dec_all n
  have hl := decDigits_len k n h
  have hne : 0 < (Go.Lib.decDigits n).length := List.length_pos_iff.2 (decDigits_ne n)
  rw [decOk, h1, headOk]
  have : (decide (1 < (Go.Lib.decDigits n).length) && ((Go.Lib.decDigits n).head? == some 48)) = false := by
    by_cases hn : n = 0
    · subst hn; rw [show Go.Lib.decDigits 0 = [48] by rw [Go.Lib.decDigits]; rfl]; rfl
    · have := h3 hn
      rw [Bool.and_eq_false_iff]; right
      simpa using this
  rw [this]
  simp; omega
theorem dec_mem {n : Nat} {c : UInt8} (h : c ∈ Go.Lib.decDigits n) : 48 ≤ c.toNat ∧ c.toNat ≤ 57 := by
  have := List.all_eq_true.1 (dec_all n).1 c h
  simpa [isDig] using this
theorem hexD_ok : ∀ d : Fin 16, digV (hexD d.1) = some d.1 ∧ ((48 ≤ (hexD d.1).toNat ∧ (hexD d.1).toNat ≤ 57) ∨ (97 ≤ (hexD d.1).toNat ∧ (hexD d.1).toNat ≤ 102)) := by decide
theorem hex_all : ∀ n : Nat, (hexT n).all isHex = true ∧ hexV (hexT n) = n ∧ (∀ c ∈ hexT n, (48 ≤ c.toNat ∧ c.toNat ≤ 57) ∨ (97 ≤ c.toNat ∧ c.toNat ≤ 102)) ∧ hexT n ≠ [] := by
  intro n
  induction n using Nat.strongRecOn with
  | _ n ih =>
    rw [hexT]
    split
    · rename_i h
      obtain ⟨h1, h2⟩ := hexD_ok ⟨n, h⟩
      dsimp only at h1 h2
      refine ⟨by rw [List.all_cons, isHex, h1]; rfl, ?_, fun c hc => ?_, by simp⟩
      · show 16 * 0 + _ = n
        rw [h1]; simp
      · rw [List.mem_singleton] at hc; subst hc; exact h2
    · rename_i h
      obtain ⟨h1, h2⟩ := hexD_ok ⟨n % 16, by omega⟩
      obtain ⟨i1, i2, i3, i4⟩ := ih (n / 16) (by omega)
      dsimp only at h1 h2
      refine ⟨by rw [List.all_append, i1, List.all_cons, isHex, h1]; rfl, ?_, fun c hc => ?_, by simp⟩
      · rw [hexV_app, i2, h1, Option.getD_some]; omega
      · rcases List.mem_append.1 hc with hc | hc
        · exact i3 c hc
        · rw [List.mem_singleton] at hc; subst hc; exact h2
theorem hexOk_hex {n : Nat} (h : n < 65536) : hexOk (hexT n) = true := by
  obtain ⟨h1, _, _, h4⟩ := hex_all n
  have hl := hexT_len 3 n (by omega)
  have := List.length_pos_iff.2 h4
  rw [hexOk, h1]
  simp; omega
theorem splitL_app (b : UInt8) (s : List UInt8) : ∀ x : List UInt8, b ∉ x → splitL b (x ++ b :: s) = x :: splitL b s
  | [], _ => by simp [splitL]
  | c :: x, h => by
    rw [List.cons_append]
    exact splitL_cons (splitL_app b s x fun e => h (by simp [e])) fun e => h (by simp [e])
theorem join_two (x y : List UInt8) (r : List (List UInt8)) (b : UInt8) : Go.Lib.join (x :: y :: r) [b] = x ++ b :: Go.Lib.join (y :: r) [b] := by
  rw [Go.Lib.join_cons, Go.Lib.join_cons]; simp [Go.Lib.joinTail]
theorem splitL_join (b : UInt8) : ∀ (r : List (List UInt8)) (x : List UInt8), (∀ y ∈ x :: r, b ∉ y) → splitL b (Go.Lib.join (x :: r) [b]) = x :: r
  | [], x, h => by rw [Go.Lib.join_one, splitL_has b x (h x (by simp))]
  | y :: r, x, h => by rw [join_two, splitL_app b _ x (h x (by simp)), splitL_join b r y fun z hz => h z (by simp [hz])]
theorem mem_join (b c : UInt8) : ∀ (r : List (List UInt8)) (x : List UInt8), c ∈ Go.Lib.join (x :: r) [b] → c = b ∨ ∃ y ∈ x :: r, c ∈ y
  | [], x, h => by rw [Go.Lib.join_one] at h; exact .inr ⟨x, by simp, h⟩
  | y :: r, x, h => by
    rw [join_two] at h
    rcases List.mem_append.1 h with h | h
    · exact .inr ⟨x, by simp, h⟩
    · rcases List.mem_cons.1 h with h | h
      · exact .inl h
      · rcases mem_join b c r y h with h | ⟨z, hz, h⟩
        · exact .inl h
        · exact .inr ⟨z, by simp [hz], h⟩
theorem a4_back {A : List UInt8} (hA : A.length = 16) (hz : A.drop 4 = z12) : a4 (parts4 A 4) 4 = A := by
  have hd : ∀ x : UInt8, UInt8.ofNat (decV (Go.Lib.decDigits x.toNat)) = x := fun x => by rw [(dec_all _).2.1]; exact UInt8.ofNat_toNat
  match A, hA with
  | [a, b, c, d, _, _, _, _, _, _, _, _, _, _, _, _], _ =>
    have hz : _ = z12 := hz
    show [UInt8.ofNat (decV (Go.Lib.decDigits a.toNat)), UInt8.ofNat (decV (Go.Lib.decDigits b.toNat)), UInt8.ofNat (decV (Go.Lib.decDigits c.toNat)), UInt8.ofNat (decV (Go.Lib.decDigits d.toNat))] ++ z12 = _
    rw [hd, hd, hd, hd, ← hz]
    rfl
theorem a6_back {A : List UInt8} (hA : A.length = 16) : a6 (parts6 A 8) 8 = A := by
  have h1 : ∀ x y : UInt8, UInt8.ofNat (hexV (hexT (x.toNat * 256 + y.toNat)) / 256) = x := fun x y => by
    have := y.toNat_lt
    rw [(hex_all _).2.1, show (x.toNat * 256 + y.toNat) / 256 = x.toNat by omega]; exact UInt8.ofNat_toNat
  have h2 : ∀ x y : UInt8, UInt8.ofNat (hexV (hexT (x.toNat * 256 + y.toNat))) = y := fun x y => by
    have := y.toNat_lt
    rw [(hex_all _).2.1]
    apply UInt8.toNat_inj.1
    rw [UInt8.toNat_ofNat']; omega
  match A, hA with
  | [a0, a1, a2, a3, a4, a5, a6, a7, a8, a9, a10, a11, a12, a13, a14, a15], _ =>
    show [UInt8.ofNat (hexV (hexT (a0.toNat * 256 + a1.toNat)) / 256), UInt8.ofNat (hexV (hexT (a0.toNat * 256 + a1.toNat))), UInt8.ofNat (hexV (hexT (a2.toNat * 256 + a3.toNat)) / 256), UInt8.ofNat (hexV (hexT (a2.toNat * 256 + a3.toNat))), UInt8.ofNat (hexV (hexT (a4.toNat * 256 + a5.toNat)) / 256), UInt8.ofNat (hexV (hexT (a4.toNat * 256 + a5.toNat))), UInt8.ofNat (hexV (hexT (a6.toNat * 256 + a7.toNat)) / 256), UInt8.ofNat (hexV (hexT (a6.toNat * 256 + a7.toNat))), UInt8.ofNat (hexV (hexT (a8.toNat * 256 + a9.toNat)) / 256), UInt8.ofNat (hexV (hexT (a8.toNat * 256 + a9.toNat))), UInt8.ofNat (hexV (hexT (a10.toNat * 256 + a11.toNat)) / 256), UInt8.ofNat (hexV (hexT (a10.toNat * 256 + a11.toNat))), UInt8.ofNat (hexV (hexT (a12.toNat * 256 + a13.toNat)) / 256), UInt8.ofNat (hexV (hexT (a12.toNat * 256 + a13.toNat))), UInt8.ofNat (hexV (hexT (a14.toNat * 256 + a15.toNat)) / 256), UInt8.ofNat (hexV (hexT (a14.toNat * 256 + a15.toNat)))] = _
    simp only [h1, h2]
theorem parts4_mem {A x : List UInt8} {n : Nat} (h : x ∈ parts4 A n) : oct x = true ∧ ∀ c ∈ x, 48 ≤ c.toNat ∧ c.toNat ≤ 57 := by
  simp only [parts4, List.mem_map, List.mem_range] at h
  obtain ⟨i, _, rfl⟩ := h
  have := (A.getD i 0).toNat_lt
  refine ⟨?_, fun c hc => dec_mem hc⟩
  rw [oct, decOk_dec 2 _ (by omega), (dec_all _).2.1, Bool.true_and, decide_eq_true_eq]
  omega
theorem parts6_mem {A x : List UInt8} {n : Nat} (h : x ∈ parts6 A n) : hexOk x = true ∧ ∀ c ∈ x, (48 ≤ c.toNat ∧ c.toNat ≤ 57) ∨ (97 ≤ c.toNat ∧ c.toNat ≤ 102) := by
  simp only [parts6, List.mem_map, List.mem_range] at h
  obtain ⟨i, _, rfl⟩ := h
  exact ⟨hexOk_hex (grp_lt A i), (hex_all _).2.2.1⟩
theorem fmtA_mem {six : Bool} {A : List UInt8} {c : UInt8} (h : c ∈ fmtA six A) : (48 ≤ c.toNat ∧ c.toNat ≤ 58) ∨ (97 ≤ c.toNat ∧ c.toNat ≤ 102) ∨ (c.toNat = 46 ∧ six = false) := by
  rw [fmtA] at h
  split at h
  · split at h
    · rcases mem_join 58 c _ _ h with rfl | ⟨y, hy, hc⟩
      · left; decide
      · have := (parts6_mem (A := A) (n := 8) hy).2 c hc; omega
    · rename_i h6
      rcases mem_join 46 c _ _ h with rfl | ⟨y, hy, hc⟩
      · right; right; exact ⟨rfl, by simpa using h6⟩
      · have := (parts4_mem (A := A) (n := 4) hy).2 c hc; omega
  · simp at h
theorem parseA_back {six : Bool} {A : List UInt8} (hA : A.length = 16) (hok : okA six A = true) : parseA (fmtA six A) = some (six, A) := by
  cases six with
  | true =>
    have e : fmtA true A = Go.Lib.join (parts6 A 8) [58] := by rw [fmtA, if_pos hok]; rfl
    have h46 : (46 : UInt8) ∉ fmtA true A := fun h => by
      rcases fmtA_mem h with h | h | h <;> simp at h
    rw [parseA, splitL_has 46 _ h46, if_neg (by simp), e]
    have h58 : splitL 58 (Go.Lib.join (parts6 A 8) [58]) = parts6 A 8 := splitL_join 58 _ _ fun y hy hc => by
      have := (parts6_mem (A := A) (n := 8) hy).2 58 hc; simp at this
    rw [h58, if_pos (by simp [parts6]), p6, if_pos, a6_back hA]
    rw [List.all_eq_true]
    exact fun x hx => (parts6_mem hx).1
  | false =>
    have e : fmtA false A = Go.Lib.join (parts4 A 4) [46] := by rw [fmtA, if_pos hok]; rfl
    have h46 : splitL 46 (Go.Lib.join (parts4 A 4) [46]) = parts4 A 4 := splitL_join 46 _ _ fun y hy hc => by
      have := (parts4_mem (A := A) (n := 4) hy).2 46 hc; simp at this
    rw [parseA, e, h46, if_pos (by simp [parts4]), p4, if_pos, a4_back hA (by simpa [okA] using hok)]
    rw [List.all_eq_true]
    exact fun x hx => (parts4_mem hx).1
theorem lastJ_none (s : List UInt8) (k : Nat) : ∀ j, (∀ i, k < i → i < k + 1 + j → s[i]? ≠ some 58) → s[k]? = some 58 → lastJ s (k + 1 + j) = k
  | 0, _, h => by rw [Nat.add_zero, lastJ, if_pos h]
  | j + 1, hn, h => by
    rw [show k + 1 + (j + 1) = (k + 1 + j) + 1 by omega, lastJ, if_neg (hn _ (by omega) (by omega))]
    exact lastJ_none s k j (fun i h1 h2 => hn i h1 (by omega)) h
theorem lastJ_app (t d : List UInt8) (h : (58 : UInt8) ∉ d) : lastJ (t ++ 58 :: d) (t ++ 58 :: d).length = t.length := by
  have hl : (t ++ 58 :: d).length = t.length + 1 + d.length := by simp; omega
  rw [hl]
  refine lastJ_none _ t.length d.length (fun i h1 h2 e => ?_) (by simp)
  obtain ⟨j, rfl⟩ : ∃ j, i = t.length + 1 + j := ⟨i - (t.length + 1), by omega⟩
  rw [List.getElem?_append_right (by omega), show t.length + 1 + j - t.length = j + 1 by omega, List.getElem?_cons_succ] at e
  exact h (List.mem_of_getElem? e)
theorem fmtA_ne {six : Bool} {A : List UInt8} (hok : okA six A = true) : fmtA six A ≠ [] := fun h => by
  rw [fmtA_nil.1 h] at hok; cases hok
theorem brk_back {six : Bool} {A : List UInt8} (hok : okA six A = true) : brkt (brk six (fmtA six A)) = six ∧ unb (brk six (fmtA six A)) = fmtA six A := by
  have hm := fun c => @fmtA_mem six A c
  have hne := fmtA_ne hok
  generalize fmtA six A = t at *
  have h1 : brkt (brk six t) = six := by
    cases six with
    | true => 
      have : (91 :: (t ++ [93])).getLast? = some 93 := by rw [show (91 : UInt8) :: (t ++ [93]) = (91 :: t) ++ [93] by simp, List.getLast?_concat]
      simp only [brkt, brk, if_true, this]
      simp
    | false =>
      obtain ⟨c, t, rfl⟩ : ∃ c r, t = c :: r := by
        cases t with
        | nil => exact absurd rfl hne
        | cons c r => exact ⟨c, r, rfl⟩
      have : c ≠ 91 := fun e => by
        subst e
        have := hm 91 (by simp)
        simp at this
      simp [brkt, brk, this]
  refine ⟨h1, ?_⟩
  rw [unb, h1]
  cases six with
  | true => simp [brk]
  | false => rfl
theorem parseE_back {six : Bool} {A : List UInt8} {p : Nat} (hA : A.length = 16) (hok : okA six A = true) (h1 : 1 ≤ p) (h2 : p ≤ 65535) : parseE (fmtE six A p) = some (six, A, p) := by
  have e : fmtE six A p = brk six (fmtA six A) ++ 58 :: Go.Lib.decDigits p := by rw [fmtE, if_pos ⟨hok, by omega, by omega⟩]; rfl
  have hd : (58 : UInt8) ∉ Go.Lib.decDigits p := fun h => by have := dec_mem h; simp at this
  obtain ⟨b1, b2⟩ := brk_back hok
  have hpa := parseA_back hA hok
  rw [e, parseE, lastJ_app _ _ hd, if_neg (by omega), Int.toNat_natCast, List.take_left, b1, b2, hpa]
  have : (brk six (fmtA six A) ++ 58 :: Go.Lib.decDigits p).drop ((brk six (fmtA six A)).length + 1) = Go.Lib.decDigits p := by
    rw [← List.drop_drop, List.drop_left]; rfl
  rw [this, endE, if_pos ⟨decOk_dec 4 p (by omega), by rw [(dec_all p).2.1]; exact h1, by rw [(dec_all p).2.1]; exact h2, rfl⟩, (dec_all p).2.1]
theorem parseP_back {six : Bool} {A : List UInt8} {p : Nat} (hA : A.length = 16) (hok : vld six A p = true) : parseP (fmtP six A p) = some (six, A, p) := by
  have hr := vld_range hok
  have hoa : okA six A = true := by rw [vld, Bool.and_eq_true] at hok; exact hok.1
  have e : fmtP six A p = fmtA six A ++ 47 :: Go.Lib.decDigits p := by rw [fmtP, if_pos hok]; rfl
  have h47 : (47 : UInt8) ∉ Go.Lib.decDigits p := fun h => by have := dec_mem h; simp at this
  have h47' : (47 : UInt8) ∉ fmtA six A := fun h => by
    rcases fmtA_mem h with h | h | h <;> simp at h
  rw [e, parseP, splitL_app 47 _ _ h47', splitL_has 47 _ h47]
  show endP _ _ = _
  rw [parseA_back hA hoa, endP, if_pos ⟨decOk_dec 2 p (by omega), by rw [(dec_all p).2.1]; exact hok⟩, (dec_all p).2.1]
end Go.Proofs.YtdceppjoipoohaaGreatDoor
end
section
namespace Go.Proofs.YtdceppjoipoohaaGreatDoor
open Go Go.Sy
set_option linter.all false
set_option maxRecDepth 100000
set_option maxHeartbeats 4000000
theorem index_app (b : UInt8) (y : List UInt8) : ∀ x : List UInt8, b ∉ x → Go.Lib.index (x ++ b :: y) [b] = x.length
  | [], _ => by rw [List.nil_append, index_one, if_pos rfl]; rfl
  | c :: x, h => by
    have ih := index_app b y x fun e => h (by simp [e])
    rw [List.cons_append, index_one, if_neg fun e => h (by simp [e]), ih, if_neg (by omega)]
    simp
theorem cut_app (b : UInt8) (x y : List UInt8) (h : b ∉ x) : Go.Lib.cut (x ++ b :: y) [b] = (x, y, true) := by
  rw [Go.Lib.cut, index_app b y x h, if_pos (by omega), Int.toNat_natCast]
  have h1 : (x ++ b :: y).take x.length = x := List.take_left
  have h2 : (x ++ b :: y).drop (x.length + [b].length) = y := by rw [← List.drop_drop, List.drop_left]; rfl
  rw [h1, h2]
theorem mk64_ok : ∀ j : Fin 64, mk64 j.1 ≠ 10 ∧ blank (mk64 j.1) = false := by decide
theorem text_mem {k : List UInt8} {c : UInt8} (h : c ∈ textS k) : c ≠ 10 ∧ blank c = false := by
  rw [textS] at h
  rcases List.mem_append.1 h with h | h
  · simp only [textP, List.mem_map, List.mem_range] at h
    obtain ⟨i, _, rfl⟩ := h
    exact mk64_ok ⟨sixP k i 6, six_lt k i⟩
  · rw [List.mem_singleton] at h
    subst h
    exact ⟨by decide, by decide⟩
theorem text_shape (k : List UInt8) : ∃ c m, textS k = c :: (m ++ [61]) ∧ blank c = false := by
  have hl := textP_len k 43
  have hm := @text_mem k
  rw [textS] at hm ⊢
  cases h : textP k 43 with
  | nil => rw [h] at hl; simp at hl
  | cons c m =>
    rw [h] at hm
    exact ⟨c, m, rfl, (hm (c := c) (by simp)).2⟩
end Go.Proofs.YtdceppjoipoohaaGreatDoor
end
section
namespace Go.Proofs.YtdceppjoipoohaaGreatDoor
open Go Go.Sy
set_option linter.all false
set_option maxRecDepth 100000
set_option maxHeartbeats 4000000
theorem kE_GO0 {α : Type} {x y : α} (h : Is x y := by first | ((try simp (disch := first | omega | (simp only [yZ, yB] <;> omega) | fail) [go_sem, yY, *, addrC, prefC, bx_get0, bx_get, bx_set0, bx_set, if_pos, if_neg, -List.map_take, -List.map_drop, -List.map_append, -List.map_reverse]); exact rfl) | fail) : Is x y := h
theorem kD_GO0 {p : Prop} (h : p := by (first | omega | assumption | exact rfl | ((simp (disch := first | omega | (simp only [yZ, yB] <;> omega) | fail) [go_sem, yY, *, addrC, prefC, bx_get0, bx_get, bx_set0, bx_set, -List.map_take, -List.map_drop, -List.map_append, -List.map_reverse]) <;> (first | done | omega | exact rfl)) | fail)) : p := h
def bgA (l : List UInt8) (a : Nat) : Nat := nxA l (nxA l (nxA l a 256) 256) 256
def bgV (l : List UInt8) (a n : Nat) : Nat := (nxV l a 256 * 65536 + nxV l (nxA l a 256) 256 * 256 + nxV l (nxA l (nxA l a 256) 256) 256) % n
theorem bgA_le {l : List UInt8} {a : Nat} (h : a ≤ l.length) : bgA l a ≤ l.length := nxA_le (nxA_le (nxA_le h))
theorem bgV_lt {l : List UInt8} {a n : Nat} (h : 0 < n) : bgV l a n < n := Nat.mod_lt _ h
theorem or_low (k x y : Nat) (hx : x * 2 ^ k < 4611686018427387904) (hy : y < 2 ^ k) (hy2 : y < 4611686018427387904) : bits .or .i64 ((x * 2 ^ k : Nat) : Int) (y : Int) = ((x * 2 ^ k + y : Nat) : Int) := by
  have h2 := Nat.two_pow_add_eq_or_of_lt (i := k) (b := y) hy x
  rw [i64_or_nat _ _ (by omega) (by omega)]
  congr 1
  rw [Nat.mul_comm] at h2
  exact h2.symm
theorem big_or (x y z : Nat) (hx : x < 256) (hy : y < 256) (hz : z < 256) : bits .or .i64 (bits .or .i64 ((x : Int) * 65536) ((y : Int) * 256)) (z : Int) = ((x * 65536 + y * 256 + z : Nat) : Int) := by
  have e1 := or_low 16 x (y * 256) (by omega) (by omega) (by omega)
  have e2 := or_low 8 (x * 256 + y) z (by omega) (by omega) (by omega)
  rw [show ((x : Int) * 65536) = ((x * 2 ^ 16 : Nat) : Int) by omega, show ((y : Int) * 256) = ((y * 256 : Nat) : Int) by omega, e1, show x * 2 ^ 16 + y * 256 = (x * 256 + y) * 2 ^ 8 by omega, e2]
theorem big_at {B : List Box} {β : Nat} {args : List CV} {l : List UInt8} {a n : Nat} {m : Int} (ha : Is args [.ptr β 0, .int .i64 m]) (hm : m = n) (hn : 1 ≤ n ∧ n ≤ 16777216) (hB : B[β]? = some (cb l a)) (hl : a ≤ l.length ∧ l.length < 1000000) : ACall Tryz.prog 19 args B fun c B' => c = .int .i64 (bgV l a n) ∧ B' = B.set β (cb l (bgA l a)) := by
  have ha : args = _ := ha
  subst ha hm
  obtain ⟨p1, p2, p3, p4, p5, p6, p7, p8, p9, p10, p11, p12, p13⟩ := bx_pack hB
  have h1 := nxA_le (n := 256) hl.1
  have h2 := nxA_le (n := 256) h1
  have hnx : ∀ (b : Nat), b ≤ l.length → ∀ (B : List Box) (args : List CV), Is args [.ptr β 0, .int .i64 256] → B[β]? = some (cb l b) → ACall Tryz.prog 21 args B fun c B' => c = .int .i64 (nxV l b 256) ∧ B' = B.set β (cb l (nxA l b 256)) := fun b hb _ _ h h2 => next_at (n := 256) h rfl h2 ⟨hb, by omega⟩
  have k1 := hnx a hl.1
  have k2 := hnx _ h1
  have k3 := hnx _ h2
  have b1 := nxV_lt (l := l) (a := a) (n := 256) (by omega)
  have b2 := nxV_lt (l := l) (a := nxA l a 256) (n := 256) (by omega)
  have b3 := nxV_lt (l := l) (a := nxA l (nxA l a 256) 256) (n := 256) (by omega)
  rw [bgA, bgV]
  generalize nxV l (nxA l (nxA l a 256) 256) 256 = v3 at *
  generalize nxV l (nxA l a 256) 256 = v2 at *
  generalize nxV l a 256 = v1 at *
  generalize nxA l (nxA l (nxA l a 256) 256) 256 = a3 at *
  generalize nxA l (nxA l a 256) 256 = a2 at *
  generalize nxA l a 256 = a1 at *
  have hor := big_or v1 v2 v3 b1 b2 b3
  have htm : (((v1 * 65536 + v2 * 256 + v3 : Nat) : Int)).tmod (n : Int) = (((v1 * 65536 + v2 * 256 + v3) % n : Nat) : Int) := rfl
  generalize hW : v1 * 65536 + v2 * 256 + v3 = W at *
  have hnp : (n : Int) ≠ 0 := by omega
  have hn1 := hn.1
  have hn2 := hn.2
  clear hnx hn
  refine acall_intro mixed Tryz.func19 rfl ca19 (by kernel_rfl) (by rw [Tryz.ntmps19]; simp) ?_
  repeat' (first | (with_reducible first | apply jA | apply jB | apply jC | apply jD | apply jE | apply jF | apply jG | apply jH | apply jI | apply jJ | apply jK | apply jL | apply jM | apply jN | apply jO) | ((with_reducible first | apply jP | apply jQ); rfl) | ((first | ((with_reducible first | apply jR | apply jS | apply jT); rfl; rfl) | (with_reducible first | apply jU | apply jV | apply jW) | ((with_reducible first | apply jX | apply jY | apply jZ); rfl) | ((with_reducible first | apply kA | apply kB | apply kC); rfl)); all_goals (first | ((with_reducible show Is _ _); exact kE) | ((with_reducible refine fun (hc : (_ : Bool) = _) => ?_); (try simp only [xZ, xY, xP, reduceCtorEq] at hc); (try (have hx : True := hc; clear hx hc)); (try exact kX)) | ((with_reducible show ACall _ _ _ _ _); (first | ((with_reducible apply k1) <;> exact kD) | ((with_reducible apply k2) <;> exact kD) | ((with_reducible apply k3) <;> exact kD))) | ((fail_if_success (with_reducible first | show Is _ _ | show ACall _ _ _ _ _)); (try ((with_reducible show _ ∨ _); exact kT))))))
  exact ⟨rfl, rfl⟩
def epP (l : List UInt8) (a : Nat) : Nat := 1 + bgV l (adA l a) 65535
def epA (l : List UInt8) (a : Nat) : Nat := bgA l (adA l a)
def epG (l : List UInt8) (a : Nat) : List Box := ⟨.bool (adSix l a) :: ((adIP l a).map byteC ++ [.int .i64 (epP l a : Nat)]), false⟩ :: adG l a
theorem epA_le {l : List UInt8} {a : Nat} (h : a ≤ l.length) : epA l a ≤ l.length := bgA_le (adA_le h)
theorem epP_le (l : List UInt8) (a : Nat) : 1 ≤ epP l a ∧ epP l a ≤ 65535 := by
  have := bgV_lt (l := l) (a := adA l a) (n := 65535) (by omega)
  unfold epP; omega
theorem endpoint_at {B : List Box} {β : Nat} {args : List CV} {l : List UInt8} {a : Nat} (ha : Is args [.ptr β 0]) (hB : B[β]? = some (cb l a)) (hl : a ≤ l.length ∧ l.length < 1000000) : ACall Tryz.prog 23 args B fun c B' => c = prefC (adSix l a) (adIP l a) (epP l a) ∧ B' = B.set β (cb l (epA l a)) ++ epG l a := by
  have ha : args = _ := ha
  subst ha
  obtain ⟨p1, p2, p3, p4, p5, p6, p7, p8, p9, p10, p11, p12, p13⟩ := bx_pack hB
  have had : ∀ (B : List Box) (args : List CV), Is args [.ptr β 0] → B[β]? = some (cb l a) → ACall Tryz.prog 49 args B fun c B' => c = addrC (adSix l a) (adIP l a) ∧ B' = B.set β (cb l (adA l a)) ++ adG l a := fun B args h h2 => addr_at h h2 hl
  have hal := adA_le hl.1
  have hlen := adIP_len l a
  have hbg : ∀ (B : List Box) (args : List CV), Is args [.ptr β 0, .int .i64 65535] → B[β]? = some (cb l (adA l a)) → ACall Tryz.prog 19 args B fun c B' => c = .int .i64 (bgV l (adA l a) 65535) ∧ B' = B.set β (cb l (bgA l (adA l a))) := fun B args h h2 => big_at (n := 65535) h rfl (by omega) h2 ⟨hal, hl.2⟩
  have hb := bgV_lt (l := l) (a := adA l a) (n := 65535) (by omega)
  rw [epA, epG, epP]
  generalize bgV l (adA l a) 65535 = v at *
  generalize bgA l (adA l a) = a2 at *
  generalize adSix l a = six at *
  generalize adIP l a = A at *
  generalize adG l a = G at *
  generalize adA l a = a1 at *
  refine acall_intro mixed Tryz.func23 rfl ca23 (by kernel_rfl) (by rw [Tryz.ntmps23]; simp) ?_
  cases six
  all_goals
    repeat' (first | (with_reducible first | apply jA | apply jB | apply jC | apply jD | apply jE | apply jF | apply jG | apply jH | apply jI | apply jJ | apply jK | apply jL | apply jM | apply jN | apply jO) | ((with_reducible first | apply jP | apply jQ); rfl) | ((with_reducible apply w_drawA); (conv => lhs; reduce); exact kE_GO0; exact kE_GO0) | ((first | ((with_reducible first | apply d_made | apply q_made); rfl; rfl)); (iterate 6 exact kE_GO0)) | ((first | ((with_reducible first | apply d_fop | apply q_fop); rfl; rfl)); (intro Bx hJ; (first | (obtain ⟨_, hJ1, hJ2⟩ := hJ) | (try simp only at hJ)); exact kE_GO0)) | ((with_reducible first | apply d_free | apply q_free); rfl; (iterate 2 exact kE_GO0); (intro Bx hJ); (first | ((with_reducible apply had) <;> exact kD_GO0) | ((with_reducible apply hbg) <;> exact kD_GO0))) | ((first | ((with_reducible first | apply jR | apply jS | apply jT); rfl; rfl) | (with_reducible first | apply jU | apply jV | apply jW) | ((with_reducible first | apply jX | apply jY | apply jZ); rfl) | ((with_reducible first | apply kA | apply kB | apply kC); rfl)); all_goals (first | ((with_reducible show Is _ _); exact kE_GO0) | ((with_reducible refine fun (hc : (_ : Bool) = _) => ?_); (try simp only [xZ, xY, xP, reduceCtorEq] at hc); (try (have hx : True := hc; clear hx hc)); (try exact kX)) | ((with_reducible show ACall _ _ _ _ _); (first | ((with_reducible apply had) <;> exact kD_GO0) | ((with_reducible apply hbg) <;> exact kD_GO0))) | ((fail_if_success (with_reducible first | show Is _ _ | show ACall _ _ _ _ _)); (try ((with_reducible show _ ∨ _); first | exact .inl rfl | (refine .inr ⟨rfl, ?_, ?_⟩; (focus (repeat (first | exact trivial | refine ⟨.inl rfl, ?_⟩ | refine ⟨.inr rfl, ?_⟩ | refine ⟨.inr (by (simp (disch := first | omega | (simp only [yZ, yB] <;> omega) | fail) [go_sem, yY, *, addrC, prefC, bx_get0, bx_get, bx_set0, bx_set, -List.map_take, -List.map_drop, -List.map_append, -List.map_reverse])), ?_⟩))); (first | exact trivial | exact rfl | (refine ⟨_, ?_, ?_⟩; (focus (simp (disch := first | omega | (simp only [yZ, yB] <;> omega) | fail) [go_sem, yY, *, addrC, prefC, bx_get0, bx_get, bx_set0, bx_set, -List.map_take, -List.map_drop, -List.map_append, -List.map_reverse]; (try exact rfl))); (simp (disch := first | omega | (simp only [yZ, yB] <;> omega) | fail) [go_sem, yY, *, addrC, prefC, bx_get0, bx_get, bx_set0, bx_set, -List.map_take, -List.map_drop, -List.map_append, -List.map_reverse])) | (simp (disch := first | omega | (simp only [yZ, yB] <;> omega) | fail) [go_sem, yY, *, addrC, prefC, bx_get0, bx_get, bx_set0, bx_set, -List.map_take, -List.map_drop, -List.map_append, -List.map_reverse]))) | exact .inl (by (simp (disch := first | omega | (simp only [yZ, yB] <;> omega) | fail) [go_sem, yY, *, addrC, prefC, bx_get0, bx_get, bx_set0, bx_set, -List.map_take, -List.map_drop, -List.map_append, -List.map_reverse]))))))))
    exact ⟨rfl, rfl⟩
end Go.Proofs.YtdceppjoipoohaaGreatDoor
end
section
namespace Go.Proofs.YtdceppjoipoohaaGreatDoor
open Go Go.Sy
set_option linter.all false
set_option maxRecDepth 100000
set_option maxHeartbeats 4000000
theorem kE_GN0 {α : Type} {x y : α} (h : Is x y := by first | ((try simp (disch := first | omega | (simp only [yZ, yB] <;> omega) | fail) [go_sem, yY, *, rA, addrC, if_pos, if_neg, -List.map_take, -List.map_drop, -List.map_append, -List.map_reverse]); exact rfl) | fail) : Is x y := h
theorem kD_GN0 {p : Prop} (h : p := by (first | omega | assumption | exact rfl | ((simp (disch := first | omega | (simp only [yZ, yB] <;> omega) | fail) [go_sem, yY, *, rA, addrC, -List.map_take, -List.map_drop, -List.map_append, -List.map_reverse]) <;> (first | done | omega | exact rfl)) | fail)) : p := h
theorem kE_GN1 {α : Type} {x y : α} (h : Is x y := by first | ((try simp (disch := first | omega | (simp only [yZ, yB] <;> omega) | fail) [go_sem, yY, *, prefC, if_pos, if_neg, -List.map_take, -List.map_drop, -List.map_append, -List.map_reverse]); exact rfl) | fail) : Is x y := h
theorem kD_GN1 {p : Prop} (h : p := by (first | omega | assumption | exact rfl | ((simp (disch := first | omega | (simp only [yZ, yB] <;> omega) | fail) [go_sem, yY, *, prefC, -List.map_take, -List.map_drop, -List.map_append, -List.map_reverse]) <;> (first | done | omega | exact rfl)) | fail)) : p := h
theorem parseP_in (s : List UInt8) (hs : s.length < 1000000000) : PC Tryz.prog true 16 [.str s] (rE (parseP s)) := by
  refine acall_intro mixed Tryz.func16 rfl ca16 (by kernel_rfl) (by rw [Tryz.ntmps16]; simp) ?_
  have hcu : ∀ {B : List Box}, ACall Tryz.prog 41 [.str s, .str [47]] B fun c B' => c = .tup [.str (Go.Lib.cut s [47]).1, .str (Go.Lib.cut s [47]).2.1, .bool (Go.Lib.cut s [47]).2.2] ∧ B' = B := cutS_at (by omega)
  have hle := cut_le s
  rw [parseP_cut]
  generalize (Go.Lib.cut s [47]).1 = x at *
  generalize (Go.Lib.cut s [47]).2.1 = y at *
  generalize (Go.Lib.cut s [47]).2.2 = b at *
  have hxl := hle.1
  have hyl := hle.2
  clear hle
  have hde : ∀ {B : List Box}, ACall Tryz.prog 43 [.str y, .int .i64 128] B fun c B' => c = .tup [.int .i64 (decR 10 y), .bool (decOk 3 y && decide (decV y ≤ 128))] ∧ B' = B := by
    intro B
    have := @decimal_at B y 128 (by omega)
    rwa [show (128 : Int) = (128 : Nat) from rfl, dec_eq 3 128 (by decide) (by decide) (by decide)] at this
  have hpa : ∀ {B : List Box}, ACall Tryz.prog 42 [.str x] B fun c B' => c = rA (parseA x) ∧ B' = B := parse_at (by omega)
  have hpl := @parseA_len x
  have hv : decOk 3 y = true → decR 10 y = decV y := fun h => by
    have h10 : decOk 10 y = true := by
      simp only [decOk, headOk, Bool.and_eq_true, decide_eq_true_eq] at h ⊢
      exact ⟨⟨⟨h.1.1.1, by omega⟩, h.1.2⟩, h.2⟩
    rw [decR, if_pos h10]
  generalize parseA x = q at *
  generalize decR 10 y = v at *
  cases q with
  | none =>
    repeat' (first | (with_reducible first | apply jA | apply jB | apply jC | apply jD | apply jE | apply jF | apply jG | apply jH | apply jI | apply jJ | apply jK | apply jL | apply jM | apply jN | apply jO) | ((with_reducible first | apply jP | apply jQ); rfl) | ((first | ((with_reducible first | apply jR | apply jS | apply jT); rfl; rfl) | (with_reducible first | apply jU | apply jV | apply jW) | ((with_reducible first | apply jX | apply jY | apply jZ); rfl) | ((with_reducible first | apply kA | apply kB | apply kC); rfl)); all_goals (first | ((with_reducible show Is _ _); exact kE_GN0) | ((with_reducible refine fun (hc : (_ : Bool) = _) => ?_); (try simp only [xZ, xY, xP, reduceCtorEq] at hc); (try (have hx : True := hc; clear hx hc)); (try exact kX)) | ((with_reducible show ACall _ _ _ _ _); (first | ((with_reducible apply hcu) <;> exact kD_GN0) | ((with_reducible apply hde) <;> exact kD_GN0) | ((with_reducible apply hpa) <;> exact kD_GN0))) | ((fail_if_success (with_reducible first | show Is _ _ | show ACall _ _ _ _ _)); (try ((with_reducible show _ ∨ _); exact kT))))))
    rfl
  | some q =>
    obtain ⟨six, A⟩ := q
    have hA := hpl rfl
    clear hpl
    simp only [rA, addrC] at hpa
    cases hok : decOk 3 y && decide (decV y ≤ 128) with
    | false =>
      rw [hok] at hde
      have e : endP (some (six, A)) y = none := by
        rw [endP, if_neg]
        rintro ⟨h1, h2⟩
        have := vld_range h2
        rw [h1, Bool.true_and, decide_eq_false_iff_not] at hok
        omega
      rw [e]
      clear hok hv e
      repeat' (first | (with_reducible first | apply jA | apply jB | apply jC | apply jD | apply jE | apply jF | apply jG | apply jH | apply jI | apply jJ | apply jK | apply jL | apply jM | apply jN | apply jO) | ((with_reducible first | apply jP | apply jQ); rfl) | ((first | ((with_reducible first | apply jR | apply jS | apply jT); rfl; rfl) | (with_reducible first | apply jU | apply jV | apply jW) | ((with_reducible first | apply jX | apply jY | apply jZ); rfl) | ((with_reducible first | apply kA | apply kB | apply kC); rfl)); all_goals (first | ((with_reducible show Is _ _); exact kE) | ((with_reducible refine fun (hc : (_ : Bool) = _) => ?_); (try simp only [xZ, xY, xP, reduceCtorEq] at hc); (try (have hx : True := hc; clear hx hc)); (try exact kX)) | ((with_reducible show ACall _ _ _ _ _); (first | ((with_reducible apply hcu) <;> exact kD) | ((with_reducible apply hde) <;> exact kD) | ((with_reducible apply hpa) <;> exact kD))) | ((fail_if_success (with_reducible first | show Is _ _ | show ACall _ _ _ _ _)); (try ((with_reducible show _ ∨ _); exact kT))))))
      rfl
    | true =>
      rw [hok] at hde
      rw [Bool.and_eq_true, decide_eq_true_eq] at hok
      have hv := hv hok.1
      have hvl := hok.2
      have hva : ∀ {B : List Box} {args : List CV}, Is (omap (Go.Sy.fz true false B 6) args) (some [prefC six A v]) → ACall Tryz.prog 44 args B fun c B' => c = .bool (vld six A v) ∧ B' = B := fun h => iValid_at h hA
      rw [← hv] at hvl
      cases hd : vld six A v with
      | false =>
        have e : endP (some (six, A)) y = none := by
          rw [endP, if_neg]; rintro ⟨_, h2⟩; rw [← hv, hd] at h2; cases h2
        rw [e]
        rw [hd] at hva
        clear hok hv e hd
        repeat' (first | (with_reducible first | apply jA | apply jB | apply jC | apply jD | apply jE | apply jF | apply jG | apply jH | apply jI | apply jJ | apply jK | apply jL | apply jM | apply jN | apply jO) | ((with_reducible first | apply jP | apply jQ); rfl) | ((first | ((with_reducible first | apply jR | apply jS | apply jT); rfl; rfl) | (with_reducible first | apply jU | apply jV | apply jW) | ((with_reducible first | apply jX | apply jY | apply jZ); rfl) | ((with_reducible first | apply kA | apply kB | apply kC); rfl)); all_goals (first | ((with_reducible show Is _ _); exact kE_GN1) | ((with_reducible refine fun (hc : (_ : Bool) = _) => ?_); (try simp only [xZ, xY, xP, reduceCtorEq] at hc); (try (have hx : True := hc; clear hx hc)); (try exact kX)) | ((with_reducible show ACall _ _ _ _ _); (first | ((with_reducible apply hcu) <;> exact kD_GN1) | ((with_reducible apply hde) <;> exact kD_GN1) | ((with_reducible apply hpa) <;> exact kD_GN1) | ((with_reducible apply hva) <;> exact kD_GN1))) | ((fail_if_success (with_reducible first | show Is _ _ | show ACall _ _ _ _ _)); (try ((with_reducible show _ ∨ _); exact kT))))))
        rfl
      | true =>
        have e : endP (some (six, A)) y = some (six, A, v) := by
          rw [endP, if_pos ⟨hok.1, by rw [← hv, hd]⟩, hv]
        rw [e]
        rw [hd] at hva
        clear hok hv e hd
        repeat' (first | (with_reducible first | apply jA | apply jB | apply jC | apply jD | apply jE | apply jF | apply jG | apply jH | apply jI | apply jJ | apply jK | apply jL | apply jM | apply jN | apply jO) | ((with_reducible first | apply jP | apply jQ); rfl) | ((first | ((with_reducible first | apply jR | apply jS | apply jT); rfl; rfl) | (with_reducible first | apply jU | apply jV | apply jW) | ((with_reducible first | apply jX | apply jY | apply jZ); rfl) | ((with_reducible first | apply kA | apply kB | apply kC); rfl)); all_goals (first | ((with_reducible show Is _ _); exact kE_GN1) | ((with_reducible refine fun (hc : (_ : Bool) = _) => ?_); (try simp only [xZ, xY, xP, reduceCtorEq] at hc); (try (have hx : True := hc; clear hx hc)); (try exact kX)) | ((with_reducible show ACall _ _ _ _ _); (first | ((with_reducible apply hcu) <;> exact kD_GN1) | ((with_reducible apply hde) <;> exact kD_GN1) | ((with_reducible apply hpa) <;> exact kD_GN1) | ((with_reducible apply hva) <;> exact kD_GN1))) | ((fail_if_success (with_reducible first | show Is _ _ | show ACall _ _ _ _ _)); (try ((with_reducible show _ ∨ _); exact kT))))))
        (simp (disch := omega) [go_sem, *, rE, prefC]) <;> (try omega)
end Go.Proofs.YtdceppjoipoohaaGreatDoor
end
section
namespace Go.Proofs.YtdceppjoipoohaaGreatDoor
open Go Go.Sy
set_option linter.all false
set_option maxRecDepth 100000
set_option maxHeartbeats 4000000
theorem kE_GP0 {α : Type} {x y : α} (h : Is x y := by first | ((try simp (disch := first | omega | (simp only [yZ, yB] <;> omega) | fail) [go_sem, yY, *, host00, z12, addrC, byteC, if_pos, if_neg, -List.map_take, -List.map_drop, -List.map_append, -List.map_reverse]); exact rfl) | fail) : Is x y := h
theorem kE_GP1 {α : Type} {x y : α} (h : Is x y := by first | ((try simp (disch := first | omega | (simp only [yZ, yB] <;> omega) | fail) [go_sem, yY, *, prefC, addrC, if_pos, if_neg, -List.map_take, -List.map_drop, -List.map_append, -List.map_reverse]); exact rfl) | fail) : Is x y := h
theorem kD_GP1 {p : Prop} (h : p := by (first | omega | assumption | exact rfl | ((simp (disch := first | omega | (simp only [yZ, yB] <;> omega) | fail) [go_sem, yY, *, prefC, addrC, -List.map_take, -List.map_drop, -List.map_append, -List.map_reverse]) <;> (first | done | omega | exact rfl)) | fail)) : p := h
theorem fmtE_len (six : Bool) (A : List UInt8) (p : Int) : (fmtE six A p).length < 1000 := by
  rw [fmtE]
  split
  · rename_i h
    have h1 := fmtA_len six A
    have h2 := decDigits_len 4 p.toNat (by omega)
    have h3 : (brk six (fmtA six A)).length ≤ (fmtA six A).length + 2 := by rw [brk]; split <;> simp
    rw [List.length_append, List.length_cons]; omega
  · simp
theorem fmtP_len (six : Bool) (A : List UInt8) (p : Int) : (fmtP six A p).length < 1000 := by
  rw [fmtP]
  split
  · rename_i h
    have h0 := vld_range h
    have h1 := fmtA_len six A
    have h2 := decDigits_len 4 p.toNat (by omega)
    rw [List.length_append, List.length_cons]; omega
  · simp
theorem parseE_at {B : List Box} {s : List UInt8} (hs : s.length < 1000000000) : ACall Tryz.prog 106 [.str s] B fun c B' => c = rE (parseE s) ∧ B' = B := acall_fresh (nz := false) rfl (parseE_in s hs)
theorem parseP_at {B : List Box} {s : List UInt8} (hs : s.length < 1000000000) : ACall Tryz.prog 16 [.str s] B fun c B' => c = rE (parseP s) ∧ B' = B := acall_fresh (nz := false) rfl (parseP_in s hs)
theorem fmtE_at {B : List Box} {args : List CV} {six : Bool} {A : List UInt8} {p : Int} (hz : Is (omap (Go.Sy.fz true false B 6) args) (some [prefC six A p])) (hA : A.length = 16) (hp : -9223372036854775808 ≤ p ∧ p ≤ 9223372036854775807) : ACall Tryz.prog 28 args B fun c B' => c = .str (fmtE six A p) ∧ B' = B := acall_fresh hz (fmtE_in six A p hA hp)
theorem fmtP_at {B : List Box} {args : List CV} {six : Bool} {A : List UInt8} {p : Int} (hz : Is (omap (Go.Sy.fz true false B 6) args) (some [prefC six A p])) (hA : A.length = 16) (hp : -9223372036854775808 ≤ p ∧ p ≤ 9223372036854775807) : ACall Tryz.prog 17 args B fun c B' => c = .str (fmtP six A p) ∧ B' = B := acall_fresh hz (fmtP_in six A p hA hp)
def host00 : List UInt8 := [10, 0, 0, 0] ++ z12
theorem host_in : PC Tryz.prog true 15 [.int .i64 0, .int .i64 0] (addrC false host00) := by
  refine acall_intro mixed Tryz.func15 rfl ca15 (by kernel_rfl) (by rw [Tryz.ntmps15]; simp) ?_
  repeat' (first | (with_reducible first | apply jA | apply jB | apply jC | apply jD | apply jE | apply jF | apply jG | apply jH | apply jI | apply jJ | apply jK | apply jL | apply jM | apply jN | apply jO) | ((with_reducible first | apply jP | apply jQ); rfl) | ((first | ((with_reducible first | apply jR | apply jS | apply jT); rfl; rfl) | (with_reducible first | apply jU | apply jV | apply jW) | ((with_reducible first | apply jX | apply jY | apply jZ); rfl)); all_goals (first | ((with_reducible show Is _ _); exact kE_GP0) | ((with_reducible refine fun (hc : (_ : Bool) = _) => ?_); (try simp only [xZ, xY, xP, reduceCtorEq] at hc); (try (have hx : True := hc; clear hx hc)); (try exact kX)) | ((fail_if_success (with_reducible first | show Is _ _ | show ACall _ _ _ _ _)); (try ((with_reducible show _ ∨ _); exact kT))))))
  rfl
theorem fmt_ten : fmtP false (cutL host00 8) 8 = [49, 48, 46, 48, 46, 48, 46, 48, 47, 56] := by
  have e : cutL host00 8 = host00 := by decide +kernel
  have hv : vld false host00 8 = true := by decide +kernel
  rw [e, fmtP, if_pos hv, fmtA, if_pos (by decide +kernel)]
  simp only [parts4, show List.range 4 = [0, 1, 2, 3] from rfl, List.map_cons, List.map_nil, Go.Lib.join_cons, Go.Lib.joinTail]
  have h0 : Go.Lib.decDigits 0 = [48] := by rw [Go.Lib.decDigits]; rfl
  have h8 : Go.Lib.decDigits 8 = [56] := by rw [Go.Lib.decDigits]; rfl
  have h1 : Go.Lib.decDigits 1 = [49] := by rw [Go.Lib.decDigits]; rfl
  have h10 : Go.Lib.decDigits 10 = [49, 48] := by rw [Go.Lib.decDigits, dif_neg (by decide), show 10 / 10 = 1 from rfl, h1]; rfl
  have e1 : (host00.getD 0 0).toNat = 10 := rfl
  have e2 : (host00.getD 1 0).toNat = 0 := rfl
  have e3 : (host00.getD 2 0).toNat = 0 := rfl
  have e4 : (host00.getD 3 0).toNat = 0 := rfl
  rw [e1, e2, e3, e4, h10, h0, show (8 : Int).toNat = 8 from rfl, h8]
  rfl
theorem read_ten : parseP [49, 48, 46, 48, 46, 48, 46, 49, 47, 56] = none := by decide +kernel
theorem begun_in : PC Tryz.prog true 7 [] (.bool true) := by
  have h1 : ∀ {B : List Box} {args : List CV}, Is (omap (Go.Sy.fz true false B 6) args) (some [.int .i64 0, .int .i64 0]) → ACall Tryz.prog 15 args B fun c B' => c = addrC false host00 ∧ B' = B := fun h => acall_fresh h host_in
  have h2 : ∀ {B : List Box} {args : List CV}, Is (omap (Go.Sy.fz true false B 6) args) (some [addrC false host00, .int .i64 8]) → ACall Tryz.prog 14 args B fun c B' => c = prefC false (cutL host00 8) 8 ∧ B' = B := fun h => masked_at (s := 8) h rfl rfl (by decide)
  have hcl : (cutL host00 8).length = 16 := cutL_len _ _
  have h3 : ∀ {B : List Box} {args : List CV}, Is (omap (Go.Sy.fz true false B 6) args) (some [prefC false (cutL host00 8) 8]) → ACall Tryz.prog 17 args B fun c B' => c = .str [49, 48, 46, 48, 46, 48, 46, 48, 47, 56] ∧ B' = B := fun h => by
    rw [← fmt_ten]
    exact fmtP_at h hcl (by decide)
  have h4 : ∀ {B : List Box}, ACall Tryz.prog 16 [.str [49, 48, 46, 48, 46, 48, 46, 49, 47, 56]] B fun c B' => c = .tup [prefC false z16 0, .int .i64 5] ∧ B' = B := by
    intro B
    have := @parseP_at B [49, 48, 46, 48, 46, 48, 46, 49, 47, 56] (by decide)
    rwa [read_ten] at this
  have hl : host00.length = 16 := rfl
  have hz : z16.length = 16 := rfl
  generalize cutL host00 8 = C at *
  generalize host00 = H at *
  generalize z16 = Z at *
  refine acall_intro mixed Tryz.func7 rfl ca7 (by kernel_rfl) (by rw [Tryz.ntmps7]; simp) ?_
  repeat' (first | (with_reducible first | apply jA | apply jB | apply jC | apply jD | apply jE | apply jF | apply jG | apply jH | apply jI | apply jJ | apply jK | apply jL | apply jM | apply jN | apply jO) | ((with_reducible first | apply jP | apply jQ); rfl) | ((first | ((with_reducible first | apply jR | apply jS | apply jT); rfl; rfl) | (with_reducible first | apply jU | apply jV | apply jW) | ((with_reducible first | apply jX | apply jY | apply jZ); rfl) | ((with_reducible first | apply kA | apply kB | apply kC); rfl)); all_goals (first | ((with_reducible show Is _ _); exact kE_GP1) | ((with_reducible refine fun (hc : (_ : Bool) = _) => ?_); (try simp only [xZ, xY, xP, reduceCtorEq] at hc); (try (have hx : True := hc; clear hx hc)); (try exact kX)) | ((with_reducible show ACall _ _ _ _ _); (first | ((with_reducible apply h1) <;> exact kD_GP1) | ((with_reducible apply h2) <;> exact kD_GP1) | ((with_reducible apply h3) <;> exact kD_GP1) | ((with_reducible apply h4) <;> exact kD_GP1))) | ((fail_if_success (with_reducible first | show Is _ _ | show ACall _ _ _ _ _)); (try ((with_reducible show _ ∨ _); exact kT))))))
  all_goals rfl
theorem begun_at {B : List Box} {args : List CV} (hz : Is (omap (Go.Sy.fz true false B 6) args) (some [])) : ACall Tryz.prog 7 args B fun c B' => c = .bool true ∧ B' = B := acall_fresh hz begun_in
end Go.Proofs.YtdceppjoipoohaaGreatDoor
end
section
namespace Go.Proofs.YtdceppjoipoohaaGreatDoor
open Go Go.Sy
set_option linter.all false
set_option maxRecDepth 100000
set_option maxHeartbeats 4000000
abbrev Pf := (Bool × List UInt8) × Int
abbrev Pe := List UInt8 × List UInt8 × Bool × Pf × Int × List Pf
def pfC (p : (Bool × List UInt8) × Int) : List CV := (.bool p.1.1 :: p.1.2.map byteC) ++ [.int .i64 p.2]
def peC (p : List UInt8 × List UInt8 × Bool × ((Bool × List UInt8) × Int) × Int × List ((Bool × List UInt8) × Int)) : List CV := p.1.map byteC ++ (p.2.1.map byteC ++ ([.bool p.2.2.1] ++ (pfC p.2.2.2.1 ++ ([.int .i64 p.2.2.2.2.1] ++ [.lst p.2.2.2.2.2.length (p.2.2.2.2.2.flatMap pfC) false]))))
def PfL (p : Pf) : Prop := p.1.2.length = 16 ∧ -9223372036854775808 ≤ p.2 ∧ p.2 ≤ 9223372036854775807
def PeL (p : Pe) : Prop := p.1.length = 32 ∧ p.2.1.length = 32 ∧ PfL p.2.2.2.1 ∧ (-9223372036854775808 ≤ p.2.2.2.2.1 ∧ p.2.2.2.2.1 ≤ 9223372036854775807) ∧ ∀ q ∈ p.2.2.2.2.2, PfL q
theorem pfC_len {p : Pf} (h : PfL p) : (pfC p).length = 18 := by simp [pfC, h.1]
theorem peC_len {p : Pe} (h : PeL p) : (peC p).length = 85 := by
  have := pfC_len h.2.2.1
  simp [peC, h.1, h.2.1, this]
@[go_sem] theorem pf_om1 {nz fr : Bool} {B : List Box} {k : Nat} (t : (Bool × List UInt8) × Int) : omap (Go.Sy.fz nz fr B (k + 1)) (pfC t) = some (pfC t) := by simp [pfC, go_sem]
@[go_sem] theorem pf_om {nz fr : Bool} {B : List Box} {k : Nat} (L : List ((Bool × List UInt8) × Int)) : omap (Go.Sy.fz nz fr B (k + 1)) (L.flatMap pfC) = some (L.flatMap pfC) := omap_fl pf_om1 L
@[go_sem] theorem pe_om1 {nz : Bool} {B : List Box} {k : Nat} (t : List UInt8 × List UInt8 × Bool × ((Bool × List UInt8) × Int) × Int × List ((Bool × List UInt8) × Int)) : omap (Go.Sy.fz nz false B (k + 2)) (peC t) = some (peC t) := by simp [peC, pfC, go_sem]
@[go_sem] theorem pe_om {nz : Bool} {B : List Box} {k : Nat} (L : List (List UInt8 × List UInt8 × Bool × ((Bool × List UInt8) × Int) × Int × List ((Bool × List UInt8) × Int))) : omap (Go.Sy.fz nz false B (k + 2)) (L.flatMap peC) = some (L.flatMap peC) := omap_fl pe_om1 L
def pfO : (Bool × List UInt8) × Int := ((false, List.replicate 16 0), 0)
theorem pfIndexFunc_at {B : List Box} {args : List CV} {L : List ((Bool × List UInt8) × Int)} {s : CV} {g : FuncId} {first caps : List CV} {p : ((Bool × List UInt8) × Int) → Bool} (ha : Is args [s, .fn (.func g) first caps]) (hs : Row pfC 18 B s L) (hg : ∀ a ∈ L, ACall Tryz.prog g (first ++ [.agg (pfC a)] ++ caps) B fun c B' => c = .bool (p a) ∧ B' = B) :
    ACall Tryz.prog 89 args B fun c B' => c = .int .i64 (idxF p L) ∧ B' = B := by
  have ha : args = _ := ha
  subst ha
  have hn := hs.small
  obtain ⟨cs, hcs, hs⟩ := hs.at_
  refine acall_intro mixed Tryz.func89 rfl ca89 (by kernel_rfl) (by rw [Tryz.ntmps89]; simp) ?_
  rcases hs with ⟨fl, e⟩ | ⟨b, cap, e, hb⟩ | ⟨b, fl, _ | _, e, hb⟩
  all_goals
    repeat' (first | (with_reducible first | apply jA | apply jB | apply jC | apply jD | apply jE | apply jF | apply jG | apply jH | apply jI | apply jJ | apply jK | apply jL | apply jM | apply jN | apply jO) | ((with_reducible first | apply jP | apply jQ); rfl) | ((first | ((with_reducible first | apply jR | apply jS | apply jT); rfl; rfl) | (with_reducible first | apply jU | apply jV | apply jW) | ((with_reducible first | apply jX | apply jY | apply jZ); rfl)); all_goals (first | ((with_reducible show Is _ _); exact kE) | ((with_reducible refine fun (hc : (_ : Bool) = _) => ?_); (try simp only [xZ, xY, xP, reduceCtorEq] at hc); (try (have hx : True := hc; clear hx hc)); (try exact kX)) | ((fail_if_success (with_reducible first | show Is _ _ | show ACall _ _ _ _ _)); (try ((with_reducible show _ ∨ _); exact kT))))))
    refine w_loop (fun fr B' => ∃ i : Nat, i ≤ L.length ∧ i ≤ L.findIdx p ∧ fr 8 = .int .i64 i ∧ fr 7 = .int .i64 L.length ∧ fr 0 = s ∧ fr 1 = .fn (.func g) first caps ∧ B' = B) (fun fr _ => L.length - natOf (fr 8)) ?_ ?_
    · exact ⟨0, by omega, by omega, by (simp (disch := omega) [go_sem, *]) <;> (try omega), by (simp (disch := omega) [go_sem, *]) <;> (try omega), by (simp (disch := omega) [go_sem, *]) <;> (try omega), by (simp (disch := omega) [go_sem, *]) <;> (try omega), rfl⟩
    · rintro fr B' ⟨i, hi, hf, h8, h7, h0, h1, rfl⟩
      by_cases hc : i < L.length
      · obtain ⟨c1, c2⟩ := hcs i hc
        have c3 : (pfC L[i]).length = 18 := by rw [← c2, List.length_take, List.length_drop]; omega
        have c4 : (pfC L[i]).take 18 = pfC L[i] := List.take_of_length_le (by omega)
        have hgi : ∀ (B : List Box) (args : List CV), B = B' → args = first ++ (.agg (pfC L[i]) :: caps) → ACall Tryz.prog g args B fun c B'' => c = .bool (p L[i]) ∧ B'' = B := fun B args h1 h2 => by subst h1 h2; simpa using hg L[i] (List.getElem_mem hc)
        by_cases hp : p L[i] = true
        · have e : L.findIdx p = i := fI_at hc hp hf
          rw [idxF, e, if_pos hc]
          repeat' (first | (with_reducible first | apply jA | apply jB | apply jC | apply jD | apply jE | apply jF | apply jG | apply jH | apply jI | apply jJ | apply jK | apply jL | apply jM | apply jN | apply jO) | ((with_reducible first | apply jP | apply jQ); rfl) | ((first | ((with_reducible first | apply jR | apply jS | apply jT); rfl; rfl) | (with_reducible first | apply jU | apply jV | apply jW) | ((with_reducible first | apply jX | apply jY | apply jZ); rfl) | ((with_reducible first | apply kA | apply kB | apply kC); rfl)); all_goals (first | ((with_reducible show Is _ _); exact kE) | ((with_reducible refine fun (hc : (_ : Bool) = _) => ?_); (try simp only [xZ, xY, xP, reduceCtorEq] at hc); (try (have hx : True := hc; clear hx hc)); (try exact kX)) | ((with_reducible show ACall _ _ _ _ _); (first | ((with_reducible apply hgi) <;> exact kD))) | ((fail_if_success (with_reducible first | show Is _ _ | show ACall _ _ _ _ _)); (try ((with_reducible show _ ∨ _); exact kT))))))
          exact ⟨rfl, rfl⟩
        · have e : i + 1 ≤ L.findIdx p := fI_next hc hp hf
          repeat' (first | (with_reducible first | apply jA | apply jB | apply jC | apply jD | apply jE | apply jF | apply jG | apply jH | apply jI | apply jJ | apply jK | apply jL | apply jM | apply jN | apply jO) | ((with_reducible first | apply jP | apply jQ); rfl) | ((first | ((with_reducible first | apply jR | apply jS | apply jT); rfl; rfl) | (with_reducible first | apply jU | apply jV | apply jW) | ((with_reducible first | apply jX | apply jY | apply jZ); rfl) | ((with_reducible first | apply kA | apply kB | apply kC); rfl)); all_goals (first | ((with_reducible show Is _ _); exact kE) | ((with_reducible refine fun (hc : (_ : Bool) = _) => ?_); (try simp only [xZ, xY, xP, reduceCtorEq] at hc); (try (have hx : True := hc; clear hx hc)); (try exact kX)) | ((with_reducible show ACall _ _ _ _ _); (first | ((with_reducible apply hgi) <;> exact kD))) | ((fail_if_success (with_reducible first | show Is _ _ | show ACall _ _ _ _ _)); (try ((with_reducible show _ ∨ _); exact kT))))))
          exact ⟨⟨i + 1, by omega, e, by (simp (disch := omega) [go_sem, *]) <;> (try omega), by (simp (disch := omega) [go_sem, *]) <;> (try omega), by (simp (disch := omega) [go_sem, *]) <;> (try omega), by (simp (disch := omega) [go_sem, *]) <;> (try omega), rfl⟩, by (simp (disch := omega) [go_sem, *]) <;> (try omega)⟩
      · rw [idxF, if_neg (by omega)]
        repeat' (first | (with_reducible first | apply jA | apply jB | apply jC | apply jD | apply jE | apply jF | apply jG | apply jH | apply jI | apply jJ | apply jK | apply jL | apply jM | apply jN | apply jO) | ((with_reducible first | apply jP | apply jQ); rfl) | ((first | ((with_reducible first | apply jR | apply jS | apply jT); rfl; rfl) | (with_reducible first | apply jU | apply jV | apply jW) | ((with_reducible first | apply jX | apply jY | apply jZ); rfl)); all_goals (first | ((with_reducible show Is _ _); exact kE) | ((with_reducible refine fun (hc : (_ : Bool) = _) => ?_); (try simp only [xZ, xY, xP, reduceCtorEq] at hc); (try (have hx : True := hc; clear hx hc)); (try exact kX)) | ((fail_if_success (with_reducible first | show Is _ _ | show ACall _ _ _ _ _)); (try ((with_reducible show _ ∨ _); exact kT))))))
        exact ⟨rfl, rfl⟩
theorem pfContainsFunc_at {B : List Box} {args : List CV} {L : List ((Bool × List UInt8) × Int)} {s : CV} {g : FuncId} {first caps : List CV} {p : ((Bool × List UInt8) × Int) → Bool} (ha : Is args [s, .fn (.func g) first caps]) (hs : Row pfC 18 B s L) (hg : ∀ a ∈ L, ACall Tryz.prog g (first ++ [.agg (pfC a)] ++ caps) B fun c B' => c = .bool (p a) ∧ B' = B) :
    ACall Tryz.prog 61 args B fun c B' => c = .bool (L.any p) ∧ B' = B := by
  have ha : args = _ := ha
  subst ha
  have hidx : ∀ (args : List CV), Is args [s, .fn (.func g) first caps] → ACall Tryz.prog 89 args B fun c B' => c = .int .i64 (idxF p L) ∧ B' = B := fun args h => pfIndexFunc_at h hs hg
  rw [← idxF_any]
  generalize idxF p L = x at *
  refine acall_intro mixed Tryz.func61 rfl ca61 (by kernel_rfl) (by rw [Tryz.ntmps61]; simp) ?_
  repeat' (first | (with_reducible first | apply jA | apply jB | apply jC | apply jD | apply jE | apply jF | apply jG | apply jH | apply jI | apply jJ | apply jK | apply jL | apply jM | apply jN | apply jO) | ((with_reducible first | apply jP | apply jQ); rfl) | ((first | ((with_reducible first | apply jR | apply jS | apply jT); rfl; rfl) | (with_reducible first | apply jU | apply jV | apply jW) | ((with_reducible first | apply jX | apply jY | apply jZ); rfl) | ((with_reducible first | apply kA | apply kB | apply kC); rfl)); all_goals (first | ((with_reducible show Is _ _); exact kE) | ((with_reducible refine fun (hc : (_ : Bool) = _) => ?_); (try simp only [xZ, xY, xP, reduceCtorEq] at hc); (try (have hx : True := hc; clear hx hc)); (try exact kX)) | ((with_reducible show ACall _ _ _ _ _); (first | ((with_reducible apply hidx) <;> exact kD))) | ((fail_if_success (with_reducible first | show Is _ _ | show ACall _ _ _ _ _)); (try ((with_reducible show _ ∨ _); exact kT))))))
  all_goals exact ⟨rfl, rfl⟩
theorem peIndexFunc_at {B : List Box} {args : List CV} {L : List (List UInt8 × List UInt8 × Bool × ((Bool × List UInt8) × Int) × Int × List ((Bool × List UInt8) × Int))} {s : CV} {g : FuncId} {first caps : List CV} {p : (List UInt8 × List UInt8 × Bool × ((Bool × List UInt8) × Int) × Int × List ((Bool × List UInt8) × Int)) → Bool} (ha : Is args [s, .fn (.func g) first caps]) (hs : Row peC 85 B s L) (hg : ∀ a ∈ L, ACall Tryz.prog g (first ++ [.agg (peC a)] ++ caps) B fun c B' => c = .bool (p a) ∧ B' = B) :
    ACall Tryz.prog 60 args B fun c B' => c = .int .i64 (idxF p L) ∧ B' = B := by
  have ha : args = _ := ha
  subst ha
  have hn := hs.small
  obtain ⟨cs, hcs, hs⟩ := hs.at_
  refine acall_intro mixed Tryz.func60 rfl ca60 (by kernel_rfl) (by rw [Tryz.ntmps60]; simp) ?_
  rcases hs with ⟨fl, e⟩ | ⟨b, cap, e, hb⟩ | ⟨b, fl, _ | _, e, hb⟩
  all_goals
    repeat' (first | (with_reducible first | apply jA | apply jB | apply jC | apply jD | apply jE | apply jF | apply jG | apply jH | apply jI | apply jJ | apply jK | apply jL | apply jM | apply jN | apply jO) | ((with_reducible first | apply jP | apply jQ); rfl) | ((first | ((with_reducible first | apply jR | apply jS | apply jT); rfl; rfl) | (with_reducible first | apply jU | apply jV | apply jW) | ((with_reducible first | apply jX | apply jY | apply jZ); rfl)); all_goals (first | ((with_reducible show Is _ _); exact kE) | ((with_reducible refine fun (hc : (_ : Bool) = _) => ?_); (try simp only [xZ, xY, xP, reduceCtorEq] at hc); (try (have hx : True := hc; clear hx hc)); (try exact kX)) | ((fail_if_success (with_reducible first | show Is _ _ | show ACall _ _ _ _ _)); (try ((with_reducible show _ ∨ _); exact kT))))))
    refine w_loop (fun fr B' => ∃ i : Nat, i ≤ L.length ∧ i ≤ L.findIdx p ∧ fr 8 = .int .i64 i ∧ fr 7 = .int .i64 L.length ∧ fr 0 = s ∧ fr 1 = .fn (.func g) first caps ∧ B' = B) (fun fr _ => L.length - natOf (fr 8)) ?_ ?_
    · exact ⟨0, by omega, by omega, by (simp (disch := omega) [go_sem, *]) <;> (try omega), by (simp (disch := omega) [go_sem, *]) <;> (try omega), by (simp (disch := omega) [go_sem, *]) <;> (try omega), by (simp (disch := omega) [go_sem, *]) <;> (try omega), rfl⟩
    · rintro fr B' ⟨i, hi, hf, h8, h7, h0, h1, rfl⟩
      by_cases hc : i < L.length
      · obtain ⟨c1, c2⟩ := hcs i hc
        have c3 : (peC L[i]).length = 85 := by rw [← c2, List.length_take, List.length_drop]; omega
        have c4 : (peC L[i]).take 85 = peC L[i] := List.take_of_length_le (by omega)
        have hgi : ∀ (B : List Box) (args : List CV), B = B' → args = first ++ (.agg (peC L[i]) :: caps) → ACall Tryz.prog g args B fun c B'' => c = .bool (p L[i]) ∧ B'' = B := fun B args h1 h2 => by subst h1 h2; simpa using hg L[i] (List.getElem_mem hc)
        by_cases hp : p L[i] = true
        · have e : L.findIdx p = i := fI_at hc hp hf
          rw [idxF, e, if_pos hc]
          repeat' (first | (with_reducible first | apply jA | apply jB | apply jC | apply jD | apply jE | apply jF | apply jG | apply jH | apply jI | apply jJ | apply jK | apply jL | apply jM | apply jN | apply jO) | ((with_reducible first | apply jP | apply jQ); rfl) | ((first | ((with_reducible first | apply jR | apply jS | apply jT); rfl; rfl) | (with_reducible first | apply jU | apply jV | apply jW) | ((with_reducible first | apply jX | apply jY | apply jZ); rfl) | ((with_reducible first | apply kA | apply kB | apply kC); rfl)); all_goals (first | ((with_reducible show Is _ _); exact kE) | ((with_reducible refine fun (hc : (_ : Bool) = _) => ?_); (try simp only [xZ, xY, xP, reduceCtorEq] at hc); (try (have hx : True := hc; clear hx hc)); (try exact kX)) | ((with_reducible show ACall _ _ _ _ _); (first | ((with_reducible apply hgi) <;> exact kD))) | ((fail_if_success (with_reducible first | show Is _ _ | show ACall _ _ _ _ _)); (try ((with_reducible show _ ∨ _); exact kT))))))
          exact ⟨rfl, rfl⟩
        · have e : i + 1 ≤ L.findIdx p := fI_next hc hp hf
          repeat' (first | (with_reducible first | apply jA | apply jB | apply jC | apply jD | apply jE | apply jF | apply jG | apply jH | apply jI | apply jJ | apply jK | apply jL | apply jM | apply jN | apply jO) | ((with_reducible first | apply jP | apply jQ); rfl) | ((first | ((with_reducible first | apply jR | apply jS | apply jT); rfl; rfl) | (with_reducible first | apply jU | apply jV | apply jW) | ((with_reducible first | apply jX | apply jY | apply jZ); rfl) | ((with_reducible first | apply kA | apply kB | apply kC); rfl)); all_goals (first | ((with_reducible show Is _ _); exact kE) | ((with_reducible refine fun (hc : (_ : Bool) = _) => ?_); (try simp only [xZ, xY, xP, reduceCtorEq] at hc); (try (have hx : True := hc; clear hx hc)); (try exact kX)) | ((with_reducible show ACall _ _ _ _ _); (first | ((with_reducible apply hgi) <;> exact kD))) | ((fail_if_success (with_reducible first | show Is _ _ | show ACall _ _ _ _ _)); (try ((with_reducible show _ ∨ _); exact kT))))))
          exact ⟨⟨i + 1, by omega, e, by (simp (disch := omega) [go_sem, *]) <;> (try omega), by (simp (disch := omega) [go_sem, *]) <;> (try omega), by (simp (disch := omega) [go_sem, *]) <;> (try omega), by (simp (disch := omega) [go_sem, *]) <;> (try omega), rfl⟩, by (simp (disch := omega) [go_sem, *]) <;> (try omega)⟩
      · rw [idxF, if_neg (by omega)]
        repeat' (first | (with_reducible first | apply jA | apply jB | apply jC | apply jD | apply jE | apply jF | apply jG | apply jH | apply jI | apply jJ | apply jK | apply jL | apply jM | apply jN | apply jO) | ((with_reducible first | apply jP | apply jQ); rfl) | ((first | ((with_reducible first | apply jR | apply jS | apply jT); rfl; rfl) | (with_reducible first | apply jU | apply jV | apply jW) | ((with_reducible first | apply jX | apply jY | apply jZ); rfl)); all_goals (first | ((with_reducible show Is _ _); exact kE) | ((with_reducible refine fun (hc : (_ : Bool) = _) => ?_); (try simp only [xZ, xY, xP, reduceCtorEq] at hc); (try (have hx : True := hc; clear hx hc)); (try exact kX)) | ((fail_if_success (with_reducible first | show Is _ _ | show ACall _ _ _ _ _)); (try ((with_reducible show _ ∨ _); exact kT))))))
        exact ⟨rfl, rfl⟩
theorem peContainsFunc_at {B : List Box} {args : List CV} {L : List (List UInt8 × List UInt8 × Bool × ((Bool × List UInt8) × Int) × Int × List ((Bool × List UInt8) × Int))} {s : CV} {g : FuncId} {first caps : List CV} {p : (List UInt8 × List UInt8 × Bool × ((Bool × List UInt8) × Int) × Int × List ((Bool × List UInt8) × Int)) → Bool} (ha : Is args [s, .fn (.func g) first caps]) (hs : Row peC 85 B s L) (hg : ∀ a ∈ L, ACall Tryz.prog g (first ++ [.agg (peC a)] ++ caps) B fun c B' => c = .bool (p a) ∧ B' = B) :
    ACall Tryz.prog 36 args B fun c B' => c = .bool (L.any p) ∧ B' = B := by
  have ha : args = _ := ha
  subst ha
  have hidx : ∀ (args : List CV), Is args [s, .fn (.func g) first caps] → ACall Tryz.prog 60 args B fun c B' => c = .int .i64 (idxF p L) ∧ B' = B := fun args h => peIndexFunc_at h hs hg
  rw [← idxF_any]
  generalize idxF p L = x at *
  refine acall_intro mixed Tryz.func36 rfl ca36 (by kernel_rfl) (by rw [Tryz.ntmps36]; simp) ?_
  repeat' (first | (with_reducible first | apply jA | apply jB | apply jC | apply jD | apply jE | apply jF | apply jG | apply jH | apply jI | apply jJ | apply jK | apply jL | apply jM | apply jN | apply jO) | ((with_reducible first | apply jP | apply jQ); rfl) | ((first | ((with_reducible first | apply jR | apply jS | apply jT); rfl; rfl) | (with_reducible first | apply jU | apply jV | apply jW) | ((with_reducible first | apply jX | apply jY | apply jZ); rfl) | ((with_reducible first | apply kA | apply kB | apply kC); rfl)); all_goals (first | ((with_reducible show Is _ _); exact kE) | ((with_reducible refine fun (hc : (_ : Bool) = _) => ?_); (try simp only [xZ, xY, xP, reduceCtorEq] at hc); (try (have hx : True := hc; clear hx hc)); (try exact kX)) | ((with_reducible show ACall _ _ _ _ _); (first | ((with_reducible apply hidx) <;> exact kD))) | ((fail_if_success (with_reducible first | show Is _ _ | show ACall _ _ _ _ _)); (try ((with_reducible show _ ∨ _); exact kT))))))
  all_goals exact ⟨rfl, rfl⟩
end Go.Proofs.YtdceppjoipoohaaGreatDoor
end
