/- Lemmas and definitions of this claim (own texts, joined by a program; what the claim does not use is left out). -/
import Derived.Test.YtcbdghgogmcllaaGreatDoorSf6
set_option linter.all false
set_option maxRecDepth 100000
set_option maxHeartbeats 4000000
section
namespace Go.Proofs.YtcbdghgogmcllaaGreatDoor
open Go Go.Sy
theorem kE_GJ0 {α : Type} {x y : α} (h : Is x y := by first | ((try simp (disch := first | omega | (simp only [yZ, yB] <;> omega) | fail) [go_sem, yY, *, cons_get1, cons_take1, cons_drop1, if_pos, if_neg, -List.map_take, -List.map_drop, -List.map_append, -List.map_reverse]); exact rfl) | fail) : Is x y := h
theorem kD_GJ0 {p : Prop} (h : p := by (first | omega | assumption | exact rfl | ((simp (disch := first | omega | (simp only [yZ, yB] <;> omega) | fail) [go_sem, yY, *, cons_get1, cons_take1, cons_drop1, -List.map_take, -List.map_drop, -List.map_append, -List.map_reverse]) <;> (first | done | omega | exact rfl)) | fail)) : p := h
theorem wB_GJ0 {p q : Prop} (k : q) (h : Hq q → p := by (intro k; (repeat' (first | (with_reducible first | apply jA | apply jB | apply jC | apply jD | apply jE | apply jF | apply jG | apply jH | apply jI | apply jJ | apply jK | apply jL | apply jM | apply jN | apply jO) | ((with_reducible first | apply jP | apply jQ); rfl) | ((first | ((with_reducible first | apply jR | apply jS | apply jT); rfl; rfl) | (with_reducible first | apply jU | apply jV | apply jW) | ((with_reducible first | apply jX | apply jY | apply jZ); rfl) | ((with_reducible first | apply kA | apply kB | apply kC); rfl)); all_goals (first | ((with_reducible show Is _ _); exact kE_GJ0) | ((with_reducible refine fun (hc : (_ : Bool) = _) => ?_); (try simp only [xZ, xY, xP, reduceCtorEq] at hc); (try (have hx : True := hc; clear hx hc)); (try exact kX)) | ((with_reducible show ACall _ _ _ _ _); (first | ((with_reducible apply c0) <;> exact kD_GJ0) | ((with_reducible apply c1) <;> exact kD_GJ0) | ((with_reducible apply c2) <;> exact kD_GJ0) | ((with_reducible apply c3) <;> exact kD_GJ0) | ((with_reducible apply c4) <;> exact kD_GJ0) | ((with_reducible apply c5) <;> exact kD_GJ0) | ((with_reducible apply c6) <;> exact kD_GJ0) | ((with_reducible apply c7) <;> exact kD_GJ0))) | ((fail_if_success (with_reducible first | show Is _ _ | show ACall _ _ _ _ _)); (try ((with_reducible show _ ∨ _); exact kT))))) | (((with_reducible first | apply o_callQ | apply q_callQ); rfl); (iterate 2 exact kE_GJ0); (first | ((with_reducible apply q0) <;> exact kD_GJ0))))); exact hq k)) : p := h ⟨k⟩
theorem w_GJ01 {A0 p q : Prop} (c0 : A0) (k : q) (h : A0 → Hq q → p := by (intro c0 k; exact wB_GJ0 (hq k))) : p := h c0 ⟨k⟩
theorem splitL_mem (b : UInt8) : ∀ (s x : List UInt8), x ∈ splitL b s → x.length ≤ s.length
  | [], x, h => by simp [splitL] at h; subst h; simp
  | c :: s, x, h => by
    rw [splitL] at h
    have ih := splitL_mem b s
    split at h
    · rcases List.mem_cons.1 h with rfl | h
      · simp
      · have := ih x h; simp; omega
    · split at h
      · have : x = [c] := by simpa using h
        subst this; simp
      · rename_i y ys he
        rcases List.mem_cons.1 h with rfl | h
        · have := ih y (by rw [he]; simp); simp; omega
        · have := ih x (by rw [he]; simp [h]); simp; omega
theorem splitL_num (b : UInt8) : ∀ (s : List UInt8), (splitL b s).length ≤ s.length + 1
  | [] => by simp [splitL]
  | c :: s => by
    have ih := splitL_num b s
    rw [splitL]
    split
    · simp; omega
    · split
      · simp
      · rename_i y ys he
        rw [he] at ih
        simp at ih ⊢; omega
theorem strs_fz {nz : Bool} {B : List Box} {L : List (List UInt8)} {n : Nat} : omap (Go.Sy.fz nz false B 6) [.lst n (L.map .str) false] = some [.lst n (L.map .str) false] := by
  have h : Go.Sy.fz nz false B 6 (.lst n (L.map .str) false) = some (.lst n (L.map .str) false) := by
    rw [show Go.Sy.fz nz false B 6 (.lst n (L.map .str) false) = Option.map (fun cs => CV.lst n cs (false && !nz)) (omap (Go.Sy.fz nz false B 5) (L.map .str)) from rfl, omap_strs]; rfl
  exact omap_one h
theorem p4_len {L : List (List UInt8)} {six : Bool} {A : List UInt8} (hL : L.length = 4) (h : p4 L = some (six, A)) : A.length = 16 := by
  rw [p4] at h
  split at h
  · have := (Prod.mk.inj (Option.some.inj h)).2
    subst this; exact a4_len hL (by omega)
  · cases h
theorem p6_len {L : List (List UInt8)} {six : Bool} {A : List UInt8} (hL : L.length = 8) (h : p6 L = some (six, A)) : A.length = 16 := by
  rw [p6] at h
  split at h
  · have := (Prod.mk.inj (Option.some.inj h)).2
    subst this; exact a6_len hL (by omega)
  · cases h
def parseA (s : List UInt8) : Option (Bool × List UInt8) := if (splitL 46 s).length = 4 then p4 (splitL 46 s) else if (splitL 58 s).length = 8 then p6 (splitL 58 s) else none
theorem rsplit_at {B : List Box} {args : List CV} {s : List UInt8} {b : UInt8} (hz : Is (omap (Go.Sy.fz true false B 6) args) (some [.str s, byteC b])) (hs : s.length < 1000000000) : ACall Tryz.prog 24 args B fun c B' => c = .lst (splitL b s).length ((splitL b s).map .str) false ∧ B' = B := acall_fresh hz (rsplit_in s b hs)
theorem rfour_at {B : List Box} {L : List (List UInt8)} {n : Nat} (hn : n = 4) (hL : L.length = 4) (hs : ∀ x ∈ L, x.length < 1000000000) : ACall Tryz.prog 126 [.lst n (L.map .str) false] B fun c B' => c = rA (p4 L) ∧ B' = B := by subst hn; exact acall_fresh (nz := false) strs_fz (rfour_in L hL hs)
theorem rsix_at {B : List Box} {L : List (List UInt8)} {n : Nat} (hn : n = 8) (hL : L.length = 8) (hs : ∀ x ∈ L, x.length < 1000000000) : ACall Tryz.prog 127 [.lst n (L.map .str) false] B fun c B' => c = rA (p6 L) ∧ B' = B := by subst hn; exact acall_fresh (nz := false) strs_fz (rsix_in L hL hs)
theorem rparse_in (s : List UInt8) (hs : s.length < 1000000000) : PC Tryz.prog true 96 [.str s] (rA (parseA s)) := by
  refine acall_intro mixed Tryz.func96 rfl ca96 (by kernel_rfl) (by rw [Tryz.ntmps96]; simp) ?_
  have hn4 := splitL_num 46 s
  have hn6 := splitL_num 58 s
  have hm4 := fun x hx => Nat.lt_of_le_of_lt (splitL_mem 46 s x hx) hs
  have hm6 := fun x hx => Nat.lt_of_le_of_lt (splitL_mem 58 s x hx) hs
  have hsp4 : ∀ {B : List Box}, ACall Tryz.prog 24 [.str s, .int .u8 46] B fun c B' => c = .lst (splitL 46 s).length ((splitL 46 s).map .str) false ∧ B' = B := rsplit_at (b := 46) rfl hs
  have hsp6 : ∀ {B : List Box}, ACall Tryz.prog 24 [.str s, .int .u8 58] B fun c B' => c = .lst (splitL 58 s).length ((splitL 58 s).map .str) false ∧ B' = B := rsplit_at (b := 58) rfl hs
  by_cases h4 : (splitL 46 s).length = 4
  · have hp : parseA s = p4 (splitL 46 s) := by rw [parseA, if_pos h4]
    rw [hp]
    have hf : ∀ {B : List Box}, ACall Tryz.prog 126 [.lst 4 ((splitL 46 s).map .str) false] B fun c B' => c = rA (p4 (splitL 46 s)) ∧ B' = B := rfour_at rfl h4 hm4
    rw [h4] at hsp4
    generalize splitL 46 s = L at *
    clear hp hsp6 hn4 hn6 hm4 hm6
    cases hq : p4 L with
    | none =>
      rw [hq, rA] at hf
      repeat' (first | (with_reducible first | apply jA | apply jB | apply jC | apply jD | apply jE | apply jF | apply jG | apply jH | apply jI | apply jJ | apply jK | apply jL | apply jM | apply jN | apply jO) | ((with_reducible first | apply jP | apply jQ); rfl) | ((first | ((with_reducible first | apply jR | apply jS | apply jT); rfl; rfl) | (with_reducible first | apply jU | apply jV | apply jW) | ((with_reducible first | apply jX | apply jY | apply jZ); rfl) | ((with_reducible first | apply kA | apply kB | apply kC); rfl)); all_goals (first | ((with_reducible show Is _ _); exact kE) | ((with_reducible refine fun (hc : (_ : Bool) = _) => ?_); (try simp only [xZ, xY, xP, reduceCtorEq] at hc); (try (have hx : True := hc; clear hx hc)); (try exact kX)) | ((with_reducible show ACall _ _ _ _ _); (first | ((with_reducible apply hsp4) <;> exact kD) | ((with_reducible apply hf) <;> exact kD))) | ((fail_if_success (with_reducible first | show Is _ _ | show ACall _ _ _ _ _)); (try ((with_reducible show _ ∨ _); exact kT))))))
      rfl
    | some q =>
      obtain ⟨six, A⟩ := q
      have hA := p4_len h4 hq
      rw [hq, rA, addrC] at hf
      repeat' (first | (with_reducible first | apply jA | apply jB | apply jC | apply jD | apply jE | apply jF | apply jG | apply jH | apply jI | apply jJ | apply jK | apply jL | apply jM | apply jN | apply jO) | ((with_reducible first | apply jP | apply jQ); rfl) | ((first | ((with_reducible first | apply jR | apply jS | apply jT); rfl; rfl) | (with_reducible first | apply jU | apply jV | apply jW) | ((with_reducible first | apply jX | apply jY | apply jZ); rfl) | ((with_reducible first | apply kA | apply kB | apply kC); rfl)); all_goals (first | ((with_reducible show Is _ _); exact kE) | ((with_reducible refine fun (hc : (_ : Bool) = _) => ?_); (try simp only [xZ, xY, xP, reduceCtorEq] at hc); (try (have hx : True := hc; clear hx hc)); (try exact kX)) | ((with_reducible show ACall _ _ _ _ _); (first | ((with_reducible apply hsp4) <;> exact kD) | ((with_reducible apply hf) <;> exact kD))) | ((fail_if_success (with_reducible first | show Is _ _ | show ACall _ _ _ _ _)); (try ((with_reducible show _ ∨ _); exact kT))))))
      (simp (disch := omega) [go_sem, *, rA, addrC]) <;> (try omega)
  · by_cases h6 : (splitL 58 s).length = 8
    · have hp : parseA s = p6 (splitL 58 s) := by rw [parseA, if_neg h4, if_pos h6]
      rw [hp]
      have hf : ∀ {B : List Box}, ACall Tryz.prog 127 [.lst 8 ((splitL 58 s).map .str) false] B fun c B' => c = rA (p6 (splitL 58 s)) ∧ B' = B := rsix_at rfl h6 hm6
      rw [h6] at hsp6
      generalize splitL 58 s = L at *
      clear hp hm4 hm6
      cases hq : p6 L with
      | none =>
        rw [hq, rA] at hf
        repeat' (first | (with_reducible first | apply jA | apply jB | apply jC | apply jD | apply jE | apply jF | apply jG | apply jH | apply jI | apply jJ | apply jK | apply jL | apply jM | apply jN | apply jO) | ((with_reducible first | apply jP | apply jQ); rfl) | ((first | ((with_reducible first | apply jR | apply jS | apply jT); rfl; rfl) | (with_reducible first | apply jU | apply jV | apply jW) | ((with_reducible first | apply jX | apply jY | apply jZ); rfl) | ((with_reducible first | apply kA | apply kB | apply kC); rfl)); all_goals (first | ((with_reducible show Is _ _); exact kE) | ((with_reducible refine fun (hc : (_ : Bool) = _) => ?_); (try simp only [xZ, xY, xP, reduceCtorEq] at hc); (try (have hx : True := hc; clear hx hc)); (try exact kX)) | ((with_reducible show ACall _ _ _ _ _); (first | ((with_reducible apply hsp4) <;> exact kD) | ((with_reducible apply hsp6) <;> exact kD) | ((with_reducible apply hf) <;> exact kD))) | ((fail_if_success (with_reducible first | show Is _ _ | show ACall _ _ _ _ _)); (try ((with_reducible show _ ∨ _); exact kT))))))
        rfl
      | some q =>
        obtain ⟨six, A⟩ := q
        have hA := p6_len h6 hq
        rw [hq, rA, addrC] at hf
        repeat' (first | (with_reducible first | apply jA | apply jB | apply jC | apply jD | apply jE | apply jF | apply jG | apply jH | apply jI | apply jJ | apply jK | apply jL | apply jM | apply jN | apply jO) | ((with_reducible first | apply jP | apply jQ); rfl) | ((first | ((with_reducible first | apply jR | apply jS | apply jT); rfl; rfl) | (with_reducible first | apply jU | apply jV | apply jW) | ((with_reducible first | apply jX | apply jY | apply jZ); rfl) | ((with_reducible first | apply kA | apply kB | apply kC); rfl)); all_goals (first | ((with_reducible show Is _ _); exact kE) | ((with_reducible refine fun (hc : (_ : Bool) = _) => ?_); (try simp only [xZ, xY, xP, reduceCtorEq] at hc); (try (have hx : True := hc; clear hx hc)); (try exact kX)) | ((with_reducible show ACall _ _ _ _ _); (first | ((with_reducible apply hsp4) <;> exact kD) | ((with_reducible apply hsp6) <;> exact kD) | ((with_reducible apply hf) <;> exact kD))) | ((fail_if_success (with_reducible first | show Is _ _ | show ACall _ _ _ _ _)); (try ((with_reducible show _ ∨ _); exact kT))))))
        (simp (disch := omega) [go_sem, *, rA, addrC]) <;> (try omega)
    · have hp : parseA s = none := by rw [parseA, if_neg h4, if_neg h6]
      rw [hp]
      clear hp hm4 hm6
      refine w2 @hsp4 @hsp6 ?_ 
      rfl
theorem set2b {a b : CV} {M : List CV} {n : Nat} (hn : n + 1 < M.length) : (M.take n ++ a :: M.drop (1 + n)).take (n + 1) ++ b :: (M.take n ++ a :: M.drop (1 + n)).drop (1 + (n + 1)) = (M.set n a).set (n + 1) b := by
  have hX : M.take n ++ a :: M.drop (1 + n) = M.set n a := by
    rw [List.set_eq_take_append_cons_drop, if_pos (by omega), Nat.add_comm 1 n]
  rw [hX, List.set_eq_take_append_cons_drop (l := M.set n a), if_pos (by simp; omega), Nat.add_comm 1 (n + 1)]
theorem parse_in (s : List UInt8) (hs : s.length < 1000000000) : PC Tryz.prog true 113 [.str s] (rA (parseA s)) := by
  refine acall_intro mixed Tryz.func113 rfl ca113 (by kernel_rfl) (by rw [Tryz.ntmps113]; simp) ?_
  have hn4 := splitL_num 46 s
  have hn6 := splitL_num 58 s
  have hm4 := fun x hx => Nat.lt_of_le_of_lt (splitL_mem 46 s x hx) hs
  have hm6 := fun x hx => Nat.lt_of_le_of_lt (splitL_mem 58 s x hx) hs
  have hsp4 : ∀ {B : List Box}, ACall Tryz.prog 45 [.str s, .str [46]] B fun c B' => c = .lst (splitL 46 s).length ((splitL 46 s).map .str) true ∧ B' = B := split_at (b := 46) (by omega)
  have hsp6 : ∀ {B : List Box}, ACall Tryz.prog 45 [.str s, .str [58]] B fun c B' => c = .lst (splitL 58 s).length ((splitL 58 s).map .str) true ∧ B' = B := split_at (b := 58) (by omega)
  by_cases hL : (splitL 46 s).length = 4
  · have hp : parseA s = p4 (splitL 46 s) := by rw [parseA, if_pos hL]
    rw [hp]
    rw [hL] at hsp4
    generalize splitL 46 s = L at *
    clear hp hsp6 hn4 hn6 hm6
    refine w1 @hsp4 ?_ 
    refine w_loop (fun fr B => ∃ j : Nat, j ≤ 4 ∧ (L.take j).all oct = true ∧ fr 22 = .int .i64 j ∧ fr 21 = .int .i64 4 ∧ fr 20 = .lst 4 (L.map .str) true ∧ fr 4 = .ptr 1 0 ∧ fr 2 = .ptr 0 0 ∧ fr 3 = .int .i64 0 ∧ B = [⟨.bool false :: z16.map byteC, false⟩, ⟨.bool false :: (a4 L j).map byteC, false⟩]) (fun fr _ => 4 - natOf (fr 22)) ?_ ?_
    · exact ⟨0, by omega, rfl, kS, kS, kS, kS, kS, kS, rfl⟩
    rintro fr B ⟨j, hj, hall, h11, h10, h9, h4, h2, h3, rfl⟩
    have hal := a4_len hL hj
    by_cases hc : j < 4
    · have hset := a4_set hL hc
      have hx : (L.map CV.str).drop j = .str (L[j]'(by omega)) :: (L.map CV.str).drop (j + 1) := by
        rw [List.drop_eq_getElem_cons (by simp; omega)]; simp
      have hxl := hm4 (L[j]'(by omega)) (List.getElem_mem _)
      have hnall : (L.take (j + 1)).all oct = oct (L[j]'(by omega)) := by rw [List.take_succ_eq_append_getElem (by omega), List.all_append, hall]; simp
      have hno : oct (L[j]'(by omega)) = false → p4 L = none := fun h => by
        have : L.all oct = false := by
          rw [List.all_eq_false]
          exact ⟨_, List.getElem_mem (show j < L.length by omega), by simp [h]⟩
        simp [p4, this]
      have hnum : ∀ {B : List Box}, ACall Tryz.prog 110 [.str (L[j]'(by omega)), .int .i64 255] B fun c B' => c = .tup [.int .i64 (decR 10 (L[j]'(by omega))), .bool (oct (L[j]'(by omega)))] ∧ B' = B := by
        intro B
        have := @decimal_at B (L[j]'(by omega)) 255 (by omega)
        rwa [oct_eq] at this
      generalize (L[j]'(by omega)) = x at *
      cases ho : oct x with
      | false =>
        rw [hno ho]
        rw [ho] at hnum
        clear hset hno hnall ho
        generalize decR 10 x = v at *
        refine w_GJ01 @hnum ?_ 
        rfl
      | true =>
        have hb : decR 10 x ≤ 255 ∧ decV x = decR 10 x := by
          rw [← oct_eq, Bool.and_eq_true] at ho
          have h2 := of_decide_eq_true ho.2
          exact ⟨by omega, by rw [decR, if_pos ho.1]⟩
        rw [ho] at hnall hnum
        have hby := byte_nat (decR 10 x) (by omega)
        rw [hb.2] at hset
        have hb2 := hb.1
        clear hb ho hno
        generalize decR 10 x = v at *
        generalize UInt8.ofNat v = y at *
        refine w_GJ01 @hnum ?_ 
        refine ⟨⟨j + 1, by omega, hnall, kS, kS, kS, kS, kS, kS, ?_⟩, kS⟩
        rw [← hset, List.set_eq_take_append_cons_drop, if_pos (by omega), List.map_append, List.map_cons, hby, Nat.add_comm 1 j]
    · obtain rfl : j = 4 := by omega
      have hp : p4 L = some (false, a4 L 4) := by rw [List.take_of_length_le (by omega)] at hall; simp [p4, hall]
      rw [hp]
      refine w0 ?_ 
      (simp (disch := omega) [go_sem, *, rA, addrC]) <;> (try omega)
  by_cases hL6 : (splitL 58 s).length = 8
  · have hp : parseA s = p6 (splitL 58 s) := by rw [parseA, if_neg hL, if_pos hL6]
    rw [hp]
    rw [hL6] at hsp6
    generalize splitL 58 s = L at *
    clear hp hm4
    refine w2 @hsp4 @hsp6 ?_ 
    clear hsp4 hsp6 hL
    refine w_loop (fun fr B => ∃ j : Nat, j ≤ 8 ∧ (L.take j).all hexOk = true ∧ fr 51 = .int .i64 j ∧ fr 50 = .int .i64 8 ∧ fr 49 = .lst 8 (L.map .str) true ∧ fr 4 = .ptr 1 0 ∧ fr 2 = .ptr 0 0 ∧ fr 3 = .int .i64 0 ∧ B = [⟨.bool false :: z16.map byteC, false⟩, ⟨.bool true :: (a6 L j).map byteC, false⟩]) (fun fr _ => 8 - natOf (fr 51)) ?_ ?_
    · exact ⟨0, by omega, rfl, kS, kS, kS, kS, kS, kS, rfl⟩
    rintro fr B ⟨j, hj, hall, h13, h12, h11, h4, h2, h3, rfl⟩
    have hal := a6_len hL6 hj
    by_cases hc : j < 8
    · have hset := a6_set hL6 hc
      have hx : (L.map CV.str).drop j = .str (L[j]'(by omega)) :: (L.map CV.str).drop (j + 1) := by
        rw [List.drop_eq_getElem_cons (by simp; omega)]; simp
      have hxl := hm6 (L[j]'(by omega)) (List.getElem_mem _)
      have hnall : (L.take (j + 1)).all hexOk = hexOk (L[j]'(by omega)) := by rw [List.take_succ_eq_append_getElem (by omega), List.all_append, hall]; simp
      have hno : hexOk (L[j]'(by omega)) = false → p6 L = none := fun h => by
        have : L.all hexOk = false := by
          rw [List.all_eq_false]
          exact ⟨_, List.getElem_mem (show j < L.length by omega), by simp [h]⟩
        simp [p6, this]
      have hnum : ∀ {B : List Box}, ACall Tryz.prog 140 [.str (L[j]'(by omega))] B fun c B' => c = .tup [.int .i64 (hexR (L[j]'(by omega))), .bool (hexOk (L[j]'(by omega)))] ∧ B' = B := hexadecimal_at (by omega)
      generalize (L[j]'(by omega)) = x at *
      cases ho : hexOk x with
      | false =>
        rw [hno ho]
        rw [ho] at hnum
        clear hset hno hnall ho
        generalize hexR x = v at *
        refine w_GJ01 @hnum ?_ 
        rfl
      | true =>
        have hb : hexR x ≤ 65535 ∧ hexV x = hexR x := by
          have hl : x.length ≤ 4 := by simp [hexOk] at ho; exact ho.1.2
          have := hex_bound (s := x) hl
          rw [List.take_length] at this
          rw [hexR, if_pos ho]
          exact ⟨this, rfl⟩
        rw [ho] at hnall hnum
        have hby1 := byte_nat (hexR x / 256) (by omega)
        have hby2 := byte_wrap (hexR x)
        rw [hb.2] at hset
        have hb2 := hb.1
        clear hb ho hno
        generalize hexR x = w at *
        replace hset : Hid _ := hset
        have h2i : (2 * (j : Int)).toNat = 2 * j := by omega
        refine w_GJ01 @hnum ?_ 
        refine ⟨⟨j + 1, by omega, hnall, kS, kS, kS, kS, kS, kS, ?_⟩, kS⟩
        rw [← (show _ = a6 L (j + 1) from hset), List.map_set, List.map_set, hby1, hby2]
        simp only [List.map_drop, List.map_take]
        rw [set2b (by simp; omega)]
        simp
    · obtain rfl : j = 8 := by omega
      have hp : p6 L = some (true, a6 L 8) := by rw [List.take_of_length_le (by omega)] at hall; simp [p6, hall]
      rw [hp]
      refine w0 ?_ 
      (simp (disch := omega) [go_sem, *, rA, addrC]) <;> (try omega)
  · have hp : parseA s = none := by rw [parseA, if_neg hL, if_neg hL6]
    rw [hp]
    clear hp hm4 hm6
    refine w2 @hsp4 @hsp6 ?_ 
    rfl
end Go.Proofs.YtcbdghgogmcllaaGreatDoor
end
section
namespace Go.Proofs.YtcbdghgogmcllaaGreatDoor
open Go Go.Sy
theorem kE_GK0 {α : Type} {x y : α} (h : Is x y := by first | ((try simp (disch := first | omega | (simp only [yZ, yB] <;> omega) | fail) [go_sem, yY, *, prefC, if_pos, if_neg, -List.map_take, -List.map_drop, -List.map_append, -List.map_reverse]); exact rfl) | fail) : Is x y := h
theorem kD_GK0 {p : Prop} (h : p := by (first | omega | assumption | exact rfl | ((simp (disch := first | omega | (simp only [yZ, yB] <;> omega) | fail) [go_sem, yY, *, prefC, -List.map_take, -List.map_drop, -List.map_append, -List.map_reverse]) <;> (first | done | omega | exact rfl)) | fail)) : p := h
theorem wB_GK0 {p q : Prop} (k : q) (h : Hq q → p := by (intro k; (repeat' (first | (with_reducible first | apply jA | apply jB | apply jC | apply jD | apply jE | apply jF | apply jG | apply jH | apply jI | apply jJ | apply jK | apply jL | apply jM | apply jN | apply jO) | ((with_reducible first | apply jP | apply jQ); rfl) | ((first | ((with_reducible first | apply jR | apply jS | apply jT); rfl; rfl) | (with_reducible first | apply jU | apply jV | apply jW) | ((with_reducible first | apply jX | apply jY | apply jZ); rfl) | ((with_reducible first | apply kA | apply kB | apply kC); rfl)); all_goals (first | ((with_reducible show Is _ _); exact kE_GK0) | ((with_reducible refine fun (hc : (_ : Bool) = _) => ?_); (try simp only [xZ, xY, xP, reduceCtorEq] at hc); (try (have hx : True := hc; clear hx hc)); (try exact kX)) | ((with_reducible show ACall _ _ _ _ _); (first | ((with_reducible apply c0) <;> exact kD_GK0) | ((with_reducible apply c1) <;> exact kD_GK0) | ((with_reducible apply c2) <;> exact kD_GK0) | ((with_reducible apply c3) <;> exact kD_GK0) | ((with_reducible apply c4) <;> exact kD_GK0) | ((with_reducible apply c5) <;> exact kD_GK0) | ((with_reducible apply c6) <;> exact kD_GK0) | ((with_reducible apply c7) <;> exact kD_GK0))) | ((fail_if_success (with_reducible first | show Is _ _ | show ACall _ _ _ _ _)); (try ((with_reducible show _ ∨ _); exact kT))))) | (((with_reducible first | apply o_callQ | apply q_callQ); rfl); (iterate 2 exact kE_GK0); (first | ((with_reducible apply q0) <;> exact kD_GK0))))); exact hq k)) : p := h ⟨k⟩
theorem w_GK01 {A0 p q : Prop} (c0 : A0) (k : q) (h : A0 → Hq q → p := by (intro c0 k; exact wB_GK0 (hq k))) : p := h c0 ⟨k⟩
theorem fmtA_len (six : Bool) (A : List UInt8) : (fmtA six A).length ≤ 40 := by
  rw [fmtA]
  split
  · split
    · have := join_le (t := [58]) (k := 4) (parts6 A 8) fun x hx => by
        simp only [parts6, List.mem_map, List.mem_range] at hx
        obtain ⟨i, _, rfl⟩ := hx
        exact hexT_len 3 _ (grp_lt A i)
      simpa [parts6] using this
    · have := join_le (t := [46]) (k := 3) (parts4 A 4) fun x hx => by
        simp only [parts4, List.mem_map, List.mem_range] at hx
        obtain ⟨i, _, rfl⟩ := hx
        have := (A.getD i 0).toNat_lt
        exact decDigits_len 2 _ (by omega)
      simp [parts4] at this ⊢
      omega
  · simp
def brk (six : Bool) (t : List UInt8) : List UInt8 := if six then 91 :: (t ++ [93]) else t
def fmtE (six : Bool) (A : List UInt8) (p : Int) : List UInt8 := if okA six A = true ∧ 1 ≤ p ∧ p ≤ 65535 then brk six (fmtA six A) ++ 58 :: Go.Lib.decDigits p.toNat else []
theorem decDigits_ne (n : Nat) : Go.Lib.decDigits n ≠ [] := by
  rw [Go.Lib.decDigits]; split <;> simp
theorem fmtA_nil {six : Bool} {A : List UInt8} : (fmtA six A = []) ↔ okA six A = false := by
  cases h : okA six A with
  | false => simp [fmtA, h]
  | true =>
    simp only [fmtA, h, if_true, Bool.true_eq_false, iff_false]
    cases six with
    | true => simp [parts6, show List.range 8 = [0, 1, 2, 3, 4, 5, 6, 7] from rfl, Go.Lib.join_cons, Go.Lib.joinTail]
    | false => simp [parts4, show List.range 4 = [0, 1, 2, 3] from rfl, Go.Lib.join_cons, Go.Lib.joinTail]
theorem fmtE_in (six : Bool) (A : List UInt8) (p : Int) (hA : A.length = 16) (hp : -9223372036854775808 ≤ p ∧ p ≤ 9223372036854775807) : PC Tryz.prog true 73 [prefC six A p] (.str (fmtE six A p)) := by
  refine acall_intro mixed Tryz.func73 rfl ca73 (by kernel_rfl) (by rw [Tryz.ntmps73]; simp) ?_
  have hf : ∀ {B : List Box} {args : List CV}, Is (omap (Go.Sy.fz true false B 6) args) (some [addrC six A]) → ACall Tryz.prog 108 args B fun c B' => c = .str (fmtA six A) ∧ B' = B := fun h => fmtAddr_at h hA
  have hfl := fmtA_len six A
  have hnil := @fmtA_nil six A
  by_cases hok : okA six A = true
  · have hne : fmtA six A ≠ [] := fun h => by rw [hnil.1 h] at hok; cases hok
    have hq : (fmtA six A == []) = false := by simpa using hne
    by_cases hr : 1 ≤ p ∧ p ≤ 65535
    · have e : fmtE six A p = brk six (fmtA six A) ++ 58 :: Go.Lib.decDigits p.toNat := by rw [fmtE, if_pos ⟨hok, hr⟩]
      have hi : ∀ {B : List Box}, ACall Tryz.prog 83 [.int .i64 p] B fun c B' => c = .str (Go.Lib.decDigits p.toNat) ∧ B' = B := by
        intro B
        have := itoa_at (B := B) (n := p) hp
        rwa [Go.Lib.itoa, if_neg (by omega)] at this
      have hdl := decDigits_len 4 p.toNat (by omega)
      rw [e]
      have hr1 := hr.1
      have hr2 := hr.2
      clear e hnil hok hne hr
      generalize fmtA six A = t at *
      generalize Go.Lib.decDigits p.toNat = d at *
      cases six with
      | true =>
        repeat' (first | (with_reducible first | apply jA | apply jB | apply jC | apply jD | apply jE | apply jF | apply jG | apply jH | apply jI | apply jJ | apply jK | apply jL | apply jM | apply jN | apply jO) | ((with_reducible first | apply jP | apply jQ); rfl) | ((first | ((with_reducible first | apply jR | apply jS | apply jT); rfl; rfl) | (with_reducible first | apply jU | apply jV | apply jW) | ((with_reducible first | apply jX | apply jY | apply jZ); rfl) | ((with_reducible first | apply kA | apply kB | apply kC); rfl)); all_goals (first | ((with_reducible show Is _ _); exact kE_GK0) | ((with_reducible refine fun (hc : (_ : Bool) = _) => ?_); (try simp only [xZ, xY, xP, reduceCtorEq] at hc); (try (have hx : True := hc; clear hx hc)); (try exact kX)) | ((with_reducible show ACall _ _ _ _ _); (first | ((with_reducible apply hf) <;> exact kD_GK0) | ((with_reducible apply hi) <;> exact kD_GK0))) | ((fail_if_success (with_reducible first | show Is _ _ | show ACall _ _ _ _ _)); (try ((with_reducible show _ ∨ _); exact kT))))))
        (simp (disch := omega) [go_sem, *, brk]) <;> (try omega)
      | false =>
        repeat' (first | (with_reducible first | apply jA | apply jB | apply jC | apply jD | apply jE | apply jF | apply jG | apply jH | apply jI | apply jJ | apply jK | apply jL | apply jM | apply jN | apply jO) | ((with_reducible first | apply jP | apply jQ); rfl) | ((first | ((with_reducible first | apply jR | apply jS | apply jT); rfl; rfl) | (with_reducible first | apply jU | apply jV | apply jW) | ((with_reducible first | apply jX | apply jY | apply jZ); rfl) | ((with_reducible first | apply kA | apply kB | apply kC); rfl)); all_goals (first | ((with_reducible show Is _ _); exact kE_GK0) | ((with_reducible refine fun (hc : (_ : Bool) = _) => ?_); (try simp only [xZ, xY, xP, reduceCtorEq] at hc); (try (have hx : True := hc; clear hx hc)); (try exact kX)) | ((with_reducible show ACall _ _ _ _ _); (first | ((with_reducible apply hf) <;> exact kD_GK0) | ((with_reducible apply hi) <;> exact kD_GK0))) | ((fail_if_success (with_reducible first | show Is _ _ | show ACall _ _ _ _ _)); (try ((with_reducible show _ ∨ _); exact kT))))))
        (simp (disch := omega) [go_sem, *, brk]) <;> (try omega)
    · have e : fmtE six A p = [] := by rw [fmtE, if_neg fun h => hr h.2]
      rw [e]
      have hr2 : p < 1 ∨ (1 ≤ p ∧ 65535 < p) := by omega
      clear e hnil hok hne hr
      generalize fmtA six A = t at *
      rcases hr2 with hr | ⟨hr, hr2⟩
      · repeat' (first | (with_reducible first | apply jA | apply jB | apply jC | apply jD | apply jE | apply jF | apply jG | apply jH | apply jI | apply jJ | apply jK | apply jL | apply jM | apply jN | apply jO) | ((with_reducible first | apply jP | apply jQ); rfl) | ((first | ((with_reducible first | apply jR | apply jS | apply jT); rfl; rfl) | (with_reducible first | apply jU | apply jV | apply jW) | ((with_reducible first | apply jX | apply jY | apply jZ); rfl) | ((with_reducible first | apply kA | apply kB | apply kC); rfl)); all_goals (first | ((with_reducible show Is _ _); exact kE_GK0) | ((with_reducible refine fun (hc : (_ : Bool) = _) => ?_); (try simp only [xZ, xY, xP, reduceCtorEq] at hc); (try (have hx : True := hc; clear hx hc)); (try exact kX)) | ((with_reducible show ACall _ _ _ _ _); (first | ((with_reducible apply hf) <;> exact kD_GK0))) | ((fail_if_success (with_reducible first | show Is _ _ | show ACall _ _ _ _ _)); (try ((with_reducible show _ ∨ _); exact kT))))))
        rfl
      · repeat' (first | (with_reducible first | apply jA | apply jB | apply jC | apply jD | apply jE | apply jF | apply jG | apply jH | apply jI | apply jJ | apply jK | apply jL | apply jM | apply jN | apply jO) | ((with_reducible first | apply jP | apply jQ); rfl) | ((first | ((with_reducible first | apply jR | apply jS | apply jT); rfl; rfl) | (with_reducible first | apply jU | apply jV | apply jW) | ((with_reducible first | apply jX | apply jY | apply jZ); rfl) | ((with_reducible first | apply kA | apply kB | apply kC); rfl)); all_goals (first | ((with_reducible show Is _ _); exact kE_GK0) | ((with_reducible refine fun (hc : (_ : Bool) = _) => ?_); (try simp only [xZ, xY, xP, reduceCtorEq] at hc); (try (have hx : True := hc; clear hx hc)); (try exact kX)) | ((with_reducible show ACall _ _ _ _ _); (first | ((with_reducible apply hf) <;> exact kD_GK0))) | ((fail_if_success (with_reducible first | show Is _ _ | show ACall _ _ _ _ _)); (try ((with_reducible show _ ∨ _); exact kT))))))
        rfl
  · have e : fmtE six A p = [] := by rw [fmtE, if_neg fun h => hok h.1]
    rw [e]
    rw [hnil.2 (by simpa using hok)] at hf
    refine w_GK01 @hf ?_ 
    rfl
theorem rfmtE_in (six : Bool) (A : List UInt8) (p : Int) (hA : A.length = 16) (hp : -9223372036854775808 ≤ p ∧ p ≤ 9223372036854775807) : PC Tryz.prog true 52 [prefC six A p] (.str (fmtE six A p)) := by
  refine acall_intro mixed Tryz.func52 rfl ca52 (by kernel_rfl) (by rw [Tryz.ntmps52]; simp) ?_
  have hf : ∀ {B : List Box} {args : List CV}, Is (omap (Go.Sy.fz true false B 6) args) (some [addrC six A]) → ACall Tryz.prog 93 args B fun c B' => c = .str (fmtA six A) ∧ B' = B := fun h => rfmtAddr_at h hA
  have hfl := fmtA_len six A
  have hnil := @fmtA_nil six A
  by_cases hok : okA six A = true
  · have hne : fmtA six A ≠ [] := fun h => by rw [hnil.1 h] at hok; cases hok
    have hq : (fmtA six A == []) = false := by simpa using hne
    by_cases hr : 1 ≤ p ∧ p ≤ 65535
    · have e : fmtE six A p = brk six (fmtA six A) ++ 58 :: Go.Lib.decDigits p.toNat := by rw [fmtE, if_pos ⟨hok, hr⟩]
      have hi : ∀ {B : List Box}, ACall Tryz.prog 29 [.int .i64 p] B fun c B' => c = .str (Go.Lib.decDigits p.toNat) ∧ B' = B := by
        intro B
        have := rdec_at p.toNat (by omega) (B := B)
        rwa [Int.toNat_of_nonneg (by omega)] at this
      have hdl := decDigits_len 4 p.toNat (by omega)
      rw [e]
      have hr1 := hr.1
      have hr2 := hr.2
      clear e hnil hok hne hr
      generalize fmtA six A = t at *
      generalize Go.Lib.decDigits p.toNat = d at *
      cases six with
      | true =>
        repeat' (first | (with_reducible first | apply jA | apply jB | apply jC | apply jD | apply jE | apply jF | apply jG | apply jH | apply jI | apply jJ | apply jK | apply jL | apply jM | apply jN | apply jO) | ((with_reducible first | apply jP | apply jQ); rfl) | ((first | ((with_reducible first | apply jR | apply jS | apply jT); rfl; rfl) | (with_reducible first | apply jU | apply jV | apply jW) | ((with_reducible first | apply jX | apply jY | apply jZ); rfl) | ((with_reducible first | apply kA | apply kB | apply kC); rfl)); all_goals (first | ((with_reducible show Is _ _); exact kE_GK0) | ((with_reducible refine fun (hc : (_ : Bool) = _) => ?_); (try simp only [xZ, xY, xP, reduceCtorEq] at hc); (try (have hx : True := hc; clear hx hc)); (try exact kX)) | ((with_reducible show ACall _ _ _ _ _); (first | ((with_reducible apply hf) <;> exact kD_GK0) | ((with_reducible apply hi) <;> exact kD_GK0))) | ((fail_if_success (with_reducible first | show Is _ _ | show ACall _ _ _ _ _)); (try ((with_reducible show _ ∨ _); exact kT))))))
        (simp (disch := omega) [go_sem, *, brk]) <;> (try omega)
      | false =>
        repeat' (first | (with_reducible first | apply jA | apply jB | apply jC | apply jD | apply jE | apply jF | apply jG | apply jH | apply jI | apply jJ | apply jK | apply jL | apply jM | apply jN | apply jO) | ((with_reducible first | apply jP | apply jQ); rfl) | ((first | ((with_reducible first | apply jR | apply jS | apply jT); rfl; rfl) | (with_reducible first | apply jU | apply jV | apply jW) | ((with_reducible first | apply jX | apply jY | apply jZ); rfl) | ((with_reducible first | apply kA | apply kB | apply kC); rfl)); all_goals (first | ((with_reducible show Is _ _); exact kE_GK0) | ((with_reducible refine fun (hc : (_ : Bool) = _) => ?_); (try simp only [xZ, xY, xP, reduceCtorEq] at hc); (try (have hx : True := hc; clear hx hc)); (try exact kX)) | ((with_reducible show ACall _ _ _ _ _); (first | ((with_reducible apply hf) <;> exact kD_GK0) | ((with_reducible apply hi) <;> exact kD_GK0))) | ((fail_if_success (with_reducible first | show Is _ _ | show ACall _ _ _ _ _)); (try ((with_reducible show _ ∨ _); exact kT))))))
        (simp (disch := omega) [go_sem, *, brk]) <;> (try omega)
    · have e : fmtE six A p = [] := by rw [fmtE, if_neg fun h => hr h.2]
      rw [e]
      have hr2 : p < 1 ∨ (1 ≤ p ∧ 65535 < p) := by omega
      clear e hnil hok hne hr
      generalize fmtA six A = t at *
      rcases hr2 with hr | ⟨hr, hr2⟩
      · repeat' (first | (with_reducible first | apply jA | apply jB | apply jC | apply jD | apply jE | apply jF | apply jG | apply jH | apply jI | apply jJ | apply jK | apply jL | apply jM | apply jN | apply jO) | ((with_reducible first | apply jP | apply jQ); rfl) | ((first | ((with_reducible first | apply jR | apply jS | apply jT); rfl; rfl) | (with_reducible first | apply jU | apply jV | apply jW) | ((with_reducible first | apply jX | apply jY | apply jZ); rfl) | ((with_reducible first | apply kA | apply kB | apply kC); rfl)); all_goals (first | ((with_reducible show Is _ _); exact kE_GK0) | ((with_reducible refine fun (hc : (_ : Bool) = _) => ?_); (try simp only [xZ, xY, xP, reduceCtorEq] at hc); (try (have hx : True := hc; clear hx hc)); (try exact kX)) | ((with_reducible show ACall _ _ _ _ _); (first | ((with_reducible apply hf) <;> exact kD_GK0))) | ((fail_if_success (with_reducible first | show Is _ _ | show ACall _ _ _ _ _)); (try ((with_reducible show _ ∨ _); exact kT))))))
        rfl
      · repeat' (first | (with_reducible first | apply jA | apply jB | apply jC | apply jD | apply jE | apply jF | apply jG | apply jH | apply jI | apply jJ | apply jK | apply jL | apply jM | apply jN | apply jO) | ((with_reducible first | apply jP | apply jQ); rfl) | ((first | ((with_reducible first | apply jR | apply jS | apply jT); rfl; rfl) | (with_reducible first | apply jU | apply jV | apply jW) | ((with_reducible first | apply jX | apply jY | apply jZ); rfl) | ((with_reducible first | apply kA | apply kB | apply kC); rfl)); all_goals (first | ((with_reducible show Is _ _); exact kE_GK0) | ((with_reducible refine fun (hc : (_ : Bool) = _) => ?_); (try simp only [xZ, xY, xP, reduceCtorEq] at hc); (try (have hx : True := hc; clear hx hc)); (try exact kX)) | ((with_reducible show ACall _ _ _ _ _); (first | ((with_reducible apply hf) <;> exact kD_GK0))) | ((fail_if_success (with_reducible first | show Is _ _ | show ACall _ _ _ _ _)); (try ((with_reducible show _ ∨ _); exact kT))))))
        rfl
  · have e : fmtE six A p = [] := by rw [fmtE, if_neg fun h => hok h.1]
    rw [e]
    rw [hnil.2 (by simpa using hok)] at hf
    refine w_GK01 @hf ?_ 
    rfl
end Go.Proofs.YtcbdghgogmcllaaGreatDoor
end
section
namespace Go.Proofs.YtcbdghgogmcllaaGreatDoor
open Go Go.Sy
theorem kE_GL0 {α : Type} {x y : α} (h : Is x y := by first | ((try simp (disch := first | omega | (simp only [yZ, yB] <;> omega) | fail) [go_sem, yY, *, rA, addrC, if_pos, if_neg, -List.map_take, -List.map_drop, -List.map_append, -List.map_reverse]); exact rfl) | fail) : Is x y := h
theorem kD_GL0 {p : Prop} (h : p := by (first | omega | assumption | exact rfl | ((simp (disch := first | omega | (simp only [yZ, yB] <;> omega) | fail) [go_sem, yY, *, rA, addrC, -List.map_take, -List.map_drop, -List.map_append, -List.map_reverse]) <;> (first | done | omega | exact rfl)) | fail)) : p := h
theorem wB_GL0 {p q : Prop} (k : q) (h : Hq q → p := by (intro k; (repeat' (first | (with_reducible first | apply jA | apply jB | apply jC | apply jD | apply jE | apply jF | apply jG | apply jH | apply jI | apply jJ | apply jK | apply jL | apply jM | apply jN | apply jO) | ((with_reducible first | apply jP | apply jQ); rfl) | ((first | ((with_reducible first | apply jR | apply jS | apply jT); rfl; rfl) | (with_reducible first | apply jU | apply jV | apply jW) | ((with_reducible first | apply jX | apply jY | apply jZ); rfl) | ((with_reducible first | apply kA | apply kB | apply kC); rfl)); all_goals (first | ((with_reducible show Is _ _); exact kE_GL0) | ((with_reducible refine fun (hc : (_ : Bool) = _) => ?_); (try simp only [xZ, xY, xP, reduceCtorEq] at hc); (try (have hx : True := hc; clear hx hc)); (try exact kX)) | ((with_reducible show ACall _ _ _ _ _); (first | ((with_reducible apply c0) <;> exact kD_GL0) | ((with_reducible apply c1) <;> exact kD_GL0) | ((with_reducible apply c2) <;> exact kD_GL0) | ((with_reducible apply c3) <;> exact kD_GL0) | ((with_reducible apply c4) <;> exact kD_GL0) | ((with_reducible apply c5) <;> exact kD_GL0) | ((with_reducible apply c6) <;> exact kD_GL0) | ((with_reducible apply c7) <;> exact kD_GL0))) | ((fail_if_success (with_reducible first | show Is _ _ | show ACall _ _ _ _ _)); (try ((with_reducible show _ ∨ _); exact kT))))) | (((with_reducible first | apply o_callQ | apply q_callQ); rfl); (iterate 2 exact kE_GL0); (first | ((with_reducible apply q0) <;> exact kD_GL0))))); exact hq k)) : p := h ⟨k⟩
theorem w_GL05 {A0 A1 A2 A3 A4 p q : Prop} (c0 : A0) (c1 : A1) (c2 : A2) (c3 : A3) (c4 : A4) (k : q) (h : A0 → A1 → A2 → A3 → A4 → Hq q → p := by (intro c0 c1 c2 c3 c4 k; exact wB_GL0 (hq k))) : p := h c0 c1 c2 c3 c4 ⟨k⟩
theorem dec_eq (m lim : Nat) (h1 : 1 ≤ m) (hm : m ≤ 10) (hl : lim < 10 ^ m) (x : List UInt8) : (decOk 10 x && decide ((decR 10 x : Int) ≤ lim)) = (decOk m x && decide (decV x ≤ lim)) := by
  by_cases h : x.length ≤ m
  · have e : decOk 10 x = decOk m x := by
      have h10 : x.length ≤ 10 := by omega
      simp [decOk, headOk, h, h10]
    rw [← e]
    cases hd : decOk 10 x with
    | false => simp
    | true => simp [decR, hd]
  · have e3 : decOk m x = false := by simp [decOk, headOk, h]
    rw [e3, Bool.false_and, Bool.and_eq_false_iff]
    cases hd : decOk 10 x with
    | false => exact .inl rfl
    | true =>
      right
      rw [decR, if_pos hd]
      cases x with
      | nil => simp at h
      | cons c x =>
        simp only [decOk, Bool.and_eq_true, List.all_cons] at hd
        have hc : 48 ≤ c.toNat ∧ c.toNat ≤ 57 := by simpa [isDig] using hd.2.1
        have hne : c ≠ 48 ∨ x = [] := by
          by_cases hx : x = []
          · exact .inr hx
          left
          intro hc48
          have := hd.1
          simp [headOk, hc48] at this
          exact hx this.2
        simp at h
        have hp : 10 ^ m ≤ 10 ^ x.length := Nat.pow_le_pow_right (by decide) (by omega)
        have hge := foldl_ge x (10 * 0 + (c.toNat - 48))
        have hv : decV (c :: x) = x.foldl (fun n c => 10 * n + (c.toNat - 48)) (10 * 0 + (c.toNat - 48)) := rfl
        rw [hv]
        simp only [decide_eq_false_iff_not]
        rcases hne with hne | rfl
        · have hc1 : 49 ≤ c.toNat := by
            rcases Nat.lt_or_ge c.toNat 49 with h1 | h1
            · exact absurd (UInt8.toNat_inj.1 (by show c.toNat = 48; omega)) hne
            · exact h1
          have : 1 * 10 ^ x.length ≤ (10 * 0 + (c.toNat - 48)) * 10 ^ x.length := Nat.mul_le_mul_right _ (by omega)
          omega
        · simp at h
          omega
theorem pre_one (b : UInt8) (t : List UInt8) : [b].isPrefixOf t = (t.head? == some b) := by
  cases t with
  | nil => rfl
  | cons c t =>
    rw [Bool.eq_iff_iff]
    simp [List.isPrefixOf]
    exact eq_comm
theorem suf_one (b : UInt8) (t : List UInt8) : [b].isSuffixOf t = (t.getLast? == some b) := by
  rw [List.isSuffixOf, List.reverse_singleton, pre_one, List.head?_reverse]
theorem lastOcc_lastJ (s : List UInt8) : ∀ k, Go.Lib.lastOcc s [58] k = lastJ s k
  | 0 => rfl
  | k + 1 => by
    rw [Go.Lib.lastOcc, lastJ, lastOcc_lastJ s k]
    have : Go.Lib.occAt s [58] k = true ↔ s[k]? = some 58 := by
      rw [Go.Lib.occAt, pre_one, ← List.head?_drop]; simp
    simp only [this]
theorem lastIndex_lastJ (s : List UInt8) : Go.Lib.lastIndex s [58] = lastJ s s.length := by
  rw [Go.Lib.lastIndex, lastOcc_lastJ]
  cases s with
  | nil => rfl
  | cons c s => rw [if_pos (by simp)]; simp
def brkt (t : List UInt8) : Bool := decide (2 ≤ t.length) && (t.head? == some 91) && (t.getLast? == some 93)
def unb (t : List UInt8) : List UInt8 := if brkt t then (t.drop 1).take (t.length - 2) else t
def endE (br : Bool) (q : Option (Bool × List UInt8)) (y : List UInt8) : Option (Bool × List UInt8 × Nat) :=
  match q with
  | some (six, A) => if decOk 5 y = true ∧ 1 ≤ decV y ∧ decV y ≤ 65535 ∧ six = br then some (six, A, decV y) else none
  | none => none
def parseE (s : List UInt8) : Option (Bool × List UInt8 × Nat) :=
  if lastJ s s.length < 0 then none else endE (brkt (s.take (lastJ s s.length).toNat)) (parseA (unb (s.take (lastJ s s.length).toNat))) (s.drop ((lastJ s s.length).toNat + 1))
def rE (o : Option (Bool × List UInt8 × Nat)) : CV := match o with | some (six, A, n) => .tup [prefC six A n, .int .i64 0] | none => .tup [prefC false z16 0, .int .i64 5]
theorem pre_suf (t : List UInt8) : (Go.Lib.hasPrefix t [91] && Go.Lib.hasSuffix t [93]) = brkt t := by
  rw [Go.Lib.hasPrefix, Go.Lib.hasSuffix, pre_one, suf_one, brkt]
  match t with
  | [] => rfl
  | [c] =>
    simp
    intro h1 h2
    rw [h1] at h2
    exact absurd h2 (by decide)
  | c :: d :: t => simp
theorem lastJ_lt (s : List UInt8) : ∀ k, lastJ s k < k ∧ -1 ≤ lastJ s k
  | 0 => ⟨by simp [lastJ], by simp [lastJ]⟩
  | k + 1 => by
    have := lastJ_lt s k
    rw [lastJ]
    split <;> omega
theorem unb_le (t : List UInt8) : (unb t).length ≤ t.length := by
  rw [unb]
  split
  · rw [List.length_take, List.length_drop]; omega
  · exact Nat.le_refl _
theorem parse_at {B : List Box} {s : List UInt8} (hs : s.length < 1000000000) : ACall Tryz.prog 113 [.str s] B fun c B' => c = rA (parseA s) ∧ B' = B := acall_fresh (nz := false) rfl (parse_in s hs)
theorem rparse_at {B : List Box} {s : List UInt8} (hs : s.length < 1000000000) : ACall Tryz.prog 96 [.str s] B fun c B' => c = rA (parseA s) ∧ B' = B := acall_fresh (nz := false) rfl (rparse_in s hs)
theorem parseA_len {s : List UInt8} {six : Bool} {A : List UInt8} (h : parseA s = some (six, A)) : A.length = 16 := by
  rw [parseA] at h
  split at h
  · exact p4_len (by assumption) h
  · split at h
    · exact p6_len (by assumption) h
    · cases h
theorem parseE_in (s : List UInt8) (hs : s.length < 1000000000) : PC Tryz.prog true 75 [.str s] (rE (parseE s)) := by
  refine acall_intro mixed Tryz.func75 rfl ca75 (by kernel_rfl) (by rw [Tryz.ntmps75]; simp) ?_
  have hla : ∀ {B : List Box}, ACall Tryz.prog 109 [.str s, .str [58]] B fun c B' => c = .int .i64 (lastJ s s.length) ∧ B' = B := by
    intro B
    have := @lastIndex_at B s [58] (by omega)
    rwa [lastIndex_lastJ] at this
  have hlt := lastJ_lt s s.length
  rw [parseE]
  by_cases hn : lastJ s s.length < 0
  · rw [if_pos hn]
    refine w1 @hla ?_ 
    rfl
  rw [if_neg hn]
  obtain ⟨a, ha⟩ : ∃ a : Nat, lastJ s s.length = a := ⟨_, (Int.toNat_of_nonneg (by omega)).symm⟩
  rw [ha] at hlt hla ⊢
  rw [Int.toNat_natCast]
  obtain ⟨t, hT⟩ : ∃ t, s.take a = t := ⟨_, rfl⟩
  obtain ⟨y, hY⟩ : ∃ y, s.drop (a + 1) = y := ⟨_, rfl⟩
  have htl : t.length = a := by rw [← hT, List.length_take]; omega
  have hyl : y.length = s.length - (a + 1) := by rw [← hY, List.length_drop]
  have hY2 : y.take (s.length - (a + 1)) = y := List.take_of_length_le (by omega)
  rw [hT, hY]
  have hul := unb_le t
  have hde : ∀ {B : List Box}, ACall Tryz.prog 110 [.str y, .int .i64 65535] B fun c B' => c = .tup [.int .i64 (decR 10 y), .bool (decOk 5 y && decide (decV y ≤ 65535))] ∧ B' = B := by
    intro B
    have := @decimal_at B y 65535 (by omega)
    rwa [show (65535 : Int) = (65535 : Nat) from rfl, dec_eq 5 65535 (by decide) (by decide) (by decide)] at this
  have hpf : ∀ {B : List Box}, ACall Tryz.prog 111 [.str t, .str [91]] B fun c B' => c = .bool (Go.Lib.hasPrefix t [91]) ∧ B' = B := hasPrefix_at
  have hsf : ∀ {B : List Box}, ACall Tryz.prog 112 [.str t, .str [93]] B fun c B' => c = .bool (Go.Lib.hasSuffix t [93]) ∧ B' = B := hasSuffix_at (by omega)
  have hpa : ∀ {B : List Box}, ACall Tryz.prog 113 [.str (unb t)] B fun c B' => c = rA (parseA (unb t)) ∧ B' = B := parse_at (by omega)
  have hps := pre_suf t
  have hpl := @parseA_len (unb t)
  have hv : decOk 5 y = true → decR 10 y = decV y := fun h => by
    have h10 : decOk 10 y = true := by
      simp only [decOk, headOk, Bool.and_eq_true, decide_eq_true_eq] at h ⊢
      exact ⟨⟨⟨h.1.1.1, by omega⟩, h.1.2⟩, h.2⟩
    rw [decR, if_pos h10]
  have hub : unb t = if brkt t then (t.drop 1).take (t.length - 2) else t := rfl
  have hb2 : brkt t = true → 2 ≤ t.length := fun h => by
    simp only [brkt, Bool.and_eq_true, decide_eq_true_eq] at h; exact h.1.1
  generalize unb t = u at *
  generalize parseA u = q at *
  generalize brkt t = br at *
  generalize Go.Lib.hasPrefix t [91] = pf at *
  generalize Go.Lib.hasSuffix t [93] = sf at *
  generalize decR 10 y = v at *
  clear hn ha
  cases pf with
  | false =>
    obtain rfl : br = false := by rw [← hps]; rfl
    obtain rfl : u = t := by rw [hub]; rfl
    clear hps hub hb2
    cases q with
    | none =>
      refine w_GL05 @hla @hde @hpf @hsf @hpa ?_ 
      rfl
    | some q =>
      obtain ⟨six, A⟩ := q
      have hA := hpl rfl
      clear hpl
      simp only [rA, addrC] at hpa
      cases hok : decOk 5 y && decide (decV y ≤ 65535) with
      | false =>
        rw [hok] at hde
        have e : endE false (some (six, A)) y = none := by
          rw [endE, if_neg]; rintro ⟨h1, h2, h3, h4⟩; simp [h1, h3] at hok
        rw [e]
        clear hok hv e
        refine w5 @hla @hde @hpf @hsf @hpa ?_ 
        rfl
      | true =>
        rw [hok] at hde
        rw [Bool.and_eq_true, decide_eq_true_eq] at hok
        have hv := hv hok.1
        by_cases h1 : 1 ≤ decV y
        · by_cases h6 : six = false
          · have e : endE false (some (six, A)) y = some (six, A, decV y) := by rw [endE, if_pos ⟨hok.1, h1, hok.2, h6⟩]
            rw [e]
            have hvl := hok.2
            clear hok e
            subst h6
            rw [← hv] at h1 hvl ⊢
            clear hv
            refine w5 @hla @hde @hpf @hsf @hpa ?_ 
            (simp (disch := omega) [go_sem, *, rE, prefC]) <;> (try omega)
          · have e : endE false (some (six, A)) y = none := by
              rw [endE, if_neg]; rintro ⟨_, _, _, h4⟩; exact h6 h4
            rw [e]
            have hvl := hok.2
            have h6 : six = !false := by cases six <;> simp at h6 ⊢
            clear hok e
            subst h6
            rw [← hv] at h1 hvl
            clear hv
            refine w5 @hla @hde @hpf @hsf @hpa ?_ 
            rfl
        · have e : endE false (some (six, A)) y = none := by
            rw [endE, if_neg]; rintro ⟨_, h2, _⟩; exact h1 h2
          rw [e]
          have hvl := hok.2
          clear hok e
          rw [← hv] at h1 hvl
          clear hv
          refine w5 @hla @hde @hpf @hsf @hpa ?_ 
          rfl
  | true =>
    cases sf with
    | false =>
      obtain rfl : br = false := by rw [← hps]; rfl
      obtain rfl : u = t := by rw [hub]; rfl
      clear hps hub hb2
      cases q with
      | none =>
        refine w_GL05 @hla @hde @hpf @hsf @hpa ?_ 
        rfl
      | some q =>
        obtain ⟨six, A⟩ := q
        have hA := hpl rfl
        clear hpl
        simp only [rA, addrC] at hpa
        cases hok : decOk 5 y && decide (decV y ≤ 65535) with
        | false =>
          rw [hok] at hde
          have e : endE false (some (six, A)) y = none := by
            rw [endE, if_neg]; rintro ⟨h1, h2, h3, h4⟩; simp [h1, h3] at hok
          rw [e]
          clear hok hv e
          refine w5 @hla @hde @hpf @hsf @hpa ?_ 
          rfl
        | true =>
          rw [hok] at hde
          rw [Bool.and_eq_true, decide_eq_true_eq] at hok
          have hv := hv hok.1
          by_cases h1 : 1 ≤ decV y
          · by_cases h6 : six = false
            · have e : endE false (some (six, A)) y = some (six, A, decV y) := by rw [endE, if_pos ⟨hok.1, h1, hok.2, h6⟩]
              rw [e]
              have hvl := hok.2
              clear hok e
              subst h6
              rw [← hv] at h1 hvl ⊢
              clear hv
              refine w5 @hla @hde @hpf @hsf @hpa ?_ 
              (simp (disch := omega) [go_sem, *, rE, prefC]) <;> (try omega)
            · have e : endE false (some (six, A)) y = none := by
                rw [endE, if_neg]; rintro ⟨_, _, _, h4⟩; exact h6 h4
              rw [e]
              have hvl := hok.2
              have h6 : six = !false := by cases six <;> simp at h6 ⊢
              clear hok e
              subst h6
              rw [← hv] at h1 hvl
              clear hv
              refine w5 @hla @hde @hpf @hsf @hpa ?_ 
              rfl
          · have e : endE false (some (six, A)) y = none := by
              rw [endE, if_neg]; rintro ⟨_, h2, _⟩; exact h1 h2
            rw [e]
            have hvl := hok.2
            clear hok e
            rw [← hv] at h1 hvl
            clear hv
            refine w5 @hla @hde @hpf @hsf @hpa ?_ 
            rfl
    | true =>
      obtain rfl : br = true := by rw [← hps]; rfl
      rw [if_pos rfl] at hub
      have hb2 := hb2 rfl
      have hub2 : t.tail.take (a - 1 - 1) = u := by rw [hub, ← htl, List.drop_one]; rfl
      clear hps hub
      cases q with
      | none =>
        refine w_GL05 @hla @hde @hpf @hsf @hpa ?_ 
        rfl
      | some q =>
        obtain ⟨six, A⟩ := q
        have hA := hpl rfl
        clear hpl
        simp only [rA, addrC] at hpa
        cases hok : decOk 5 y && decide (decV y ≤ 65535) with
        | false =>
          rw [hok] at hde
          have e : endE true (some (six, A)) y = none := by
            rw [endE, if_neg]; rintro ⟨h1, h2, h3, h4⟩; simp [h1, h3] at hok
          rw [e]
          clear hok hv e
          refine w5 @hla @hde @hpf @hsf @hpa ?_ 
          rfl
        | true =>
          rw [hok] at hde
          rw [Bool.and_eq_true, decide_eq_true_eq] at hok
          have hv := hv hok.1
          by_cases h1 : 1 ≤ decV y
          · by_cases h6 : six = true
            · have e : endE true (some (six, A)) y = some (six, A, decV y) := by rw [endE, if_pos ⟨hok.1, h1, hok.2, h6⟩]
              rw [e]
              have hvl := hok.2
              clear hok e
              subst h6
              rw [← hv] at h1 hvl ⊢
              clear hv
              refine w5 @hla @hde @hpf @hsf @hpa ?_ 
              (simp (disch := omega) [go_sem, *, rE, prefC]) <;> (try omega)
            · have e : endE true (some (six, A)) y = none := by
                rw [endE, if_neg]; rintro ⟨_, _, _, h4⟩; exact h6 h4
              rw [e]
              have hvl := hok.2
              have h6 : six = !true := by cases six <;> simp at h6 ⊢
              clear hok e
              subst h6
              rw [← hv] at h1 hvl
              clear hv
              refine w5 @hla @hde @hpf @hsf @hpa ?_ 
              rfl
          · have e : endE true (some (six, A)) y = none := by
              rw [endE, if_neg]; rintro ⟨_, h2, _⟩; exact h1 h2
            rw [e]
            have hvl := hok.2
            clear hok e
            rw [← hv] at h1 hvl
            clear hv
            refine w5 @hla @hde @hpf @hsf @hpa ?_ 
            rfl
end Go.Proofs.YtcbdghgogmcllaaGreatDoor
end
section
namespace Go.Proofs.YtcbdghgogmcllaaGreatDoor
open Go Go.Sy
theorem kE_GM0 {α : Type} {x y : α} (h : Is x y := by first | ((try simp (disch := first | omega | (simp only [yZ, yB] <;> omega) | fail) [go_sem, yY, *, rA, addrC, cons_get1, if_pos, if_neg, -List.map_take, -List.map_drop, -List.map_append, -List.map_reverse]); exact rfl) | fail) : Is x y := h
theorem kD_GM0 {p : Prop} (h : p := by (first | omega | assumption | exact rfl | ((simp (disch := first | omega | (simp only [yZ, yB] <;> omega) | fail) [go_sem, yY, *, rA, addrC, cons_get1, -List.map_take, -List.map_drop, -List.map_append, -List.map_reverse]) <;> (first | done | omega | exact rfl)) | fail)) : p := h
theorem wB_GM0 {p q : Prop} (k : q) (h : Hq q → p := by (intro k; (repeat' (first | (with_reducible first | apply jA | apply jB | apply jC | apply jD | apply jE | apply jF | apply jG | apply jH | apply jI | apply jJ | apply jK | apply jL | apply jM | apply jN | apply jO) | ((with_reducible first | apply jP | apply jQ); rfl) | ((first | ((with_reducible first | apply jR | apply jS | apply jT); rfl; rfl) | (with_reducible first | apply jU | apply jV | apply jW) | ((with_reducible first | apply jX | apply jY | apply jZ); rfl) | ((with_reducible first | apply kA | apply kB | apply kC); rfl)); all_goals (first | ((with_reducible show Is _ _); exact kE_GM0) | ((with_reducible refine fun (hc : (_ : Bool) = _) => ?_); (try simp only [xZ, xY, xP, reduceCtorEq] at hc); (try (have hx : True := hc; clear hx hc)); (try exact kX)) | ((with_reducible show ACall _ _ _ _ _); (first | ((with_reducible apply c0) <;> exact kD_GM0) | ((with_reducible apply c1) <;> exact kD_GM0) | ((with_reducible apply c2) <;> exact kD_GM0) | ((with_reducible apply c3) <;> exact kD_GM0) | ((with_reducible apply c4) <;> exact kD_GM0) | ((with_reducible apply c5) <;> exact kD_GM0) | ((with_reducible apply c6) <;> exact kD_GM0) | ((with_reducible apply c7) <;> exact kD_GM0))) | ((fail_if_success (with_reducible first | show Is _ _ | show ACall _ _ _ _ _)); (try ((with_reducible show _ ∨ _); exact kT))))) | (((with_reducible first | apply o_callQ | apply q_callQ); rfl); (iterate 2 exact kE_GM0); (first | ((with_reducible apply q0) <;> exact kD_GM0))))); exact hq k)) : p := h ⟨k⟩
theorem w_GM03 {A0 A1 A2 p q : Prop} (c0 : A0) (c1 : A1) (c2 : A2) (k : q) (h : A0 → A1 → A2 → Hq q → p := by (intro c0 c1 c2 k; exact wB_GM0 (hq k))) : p := h c0 c1 c2 ⟨k⟩
theorem rparseE_in (s : List UInt8) (hs : s.length < 1000000000) : PC Tryz.prog true 54 [.str s] (rE (parseE s)) := by
  refine acall_intro mixed Tryz.func54 rfl ca54 (by kernel_rfl) (by rw [Tryz.ntmps54]; simp) ?_
  have hla : ∀ {B : List Box}, ACall Tryz.prog 95 [.str s] B fun c B' => c = .int .i64 (lastJ s s.length) ∧ B' = B := acall_fresh (nz := false) rfl (last_in s (by omega))
  have hlt := lastJ_lt s s.length
  rw [parseE]
  by_cases hn : lastJ s s.length < 0
  · rw [if_pos hn]
    refine w1 @hla ?_ 
    rfl
  rw [if_neg hn]
  obtain ⟨a, ha⟩ : ∃ a : Nat, lastJ s s.length = a := ⟨_, (Int.toNat_of_nonneg (by omega)).symm⟩
  rw [ha] at hlt hla ⊢
  rw [Int.toNat_natCast]
  obtain ⟨t, hT⟩ : ∃ t, s.take a = t := ⟨_, rfl⟩
  obtain ⟨y, hY⟩ : ∃ y, s.drop (a + 1) = y := ⟨_, rfl⟩
  have htl : t.length = a := by rw [← hT, List.length_take]; omega
  have hyl : y.length = s.length - (a + 1) := by rw [← hY, List.length_drop]
  have hY2 : y.take (s.length - (a + 1)) = y := List.take_of_length_le (by omega)
  rw [hT, hY]
  have hul := unb_le t
  have hde : ∀ {B : List Box}, ACall Tryz.prog 97 [.str y, .int .i64 5] B fun c B' => c = .tup [.int .i64 (decR 5 y), .bool (decOk 5 y)] ∧ B' = B := rnumber_at (m := 5) rfl (by decide) (by omega)
  have hpa : ∀ {B : List Box}, ACall Tryz.prog 96 [.str (unb t)] B fun c B' => c = rA (parseA (unb t)) ∧ B' = B := rparse_at (by omega)
  have hpl := @parseA_len (unb t)
  by_cases ha0 : a = 0
  · subst ha0
    obtain rfl : t = [] := List.eq_nil_of_length_eq_zero htl
    have e : endE (brkt []) (parseA (unb [])) y = none := by
      rw [show parseA (unb []) = none by rfl, endE]
    rw [e]
    clear hpa hpl e
    refine w1 @hla ?_ 
    rfl
  have hub : unb t = if brkt t then (t.drop 1).take (t.length - 2) else t := rfl
  have hb2 : brkt t = true → 2 ≤ t.length := fun h => by
    simp only [brkt, Bool.and_eq_true, decide_eq_true_eq] at h; exact h.1.1
  generalize unb t = u at *
  generalize parseA u = q at *
  generalize hbr : brkt t = br at *
  clear hn ha
  by_cases hl2 : t.length < 2
  · obtain rfl : br = false := by rw [← hbr, brkt]; simp; omega
    obtain rfl : u = t := by rw [hub]; rfl
    clear hbr hub hb2
    cases q with
    | none =>
      refine w_GM03 @hla @hde @hpa ?_ 
      rfl
    | some q =>
      obtain ⟨six, A⟩ := q
      have hA := hpl rfl
      clear hpl
      simp only [rA, addrC] at hpa
      cases hok : decOk 5 y with
      | false =>
        rw [hok] at hde
        have e : endE false (some (six, A)) y = none := by
          rw [endE, if_neg]; rintro ⟨h1, _⟩; simp [h1] at hok
        rw [e]
        clear hok e
        by_cases h6 : six = false
        · subst h6
          refine w3 @hla @hde @hpa ?_ 
          rfl
        · have h6 : six = !false := by cases six <;> simp at h6 ⊢
          subst h6
          refine w3 @hla @hde @hpa ?_ 
          rfl
      | true =>
        have hv : decR 5 y = decV y := by rw [decR, if_pos hok]
        rw [hok, hv] at hde
        by_cases h6 : six = false
        · by_cases h1 : 1 ≤ decV y
          · by_cases h2 : decV y ≤ 65535
            · have e : endE false (some (six, A)) y = some (six, A, decV y) := by rw [endE, if_pos ⟨hok, h1, h2, h6⟩]
              rw [e]
              clear hok e hv
              subst h6
              generalize decV y = v at *
              refine w3 @hla @hde @hpa ?_ 
              (simp (disch := omega) [go_sem, *, rE, prefC]) <;> (try omega)
            · have e : endE false (some (six, A)) y = none := by
                rw [endE, if_neg]; rintro ⟨_, _, h3, _⟩; exact h2 h3
              rw [e]
              clear hok e hv
              subst h6
              generalize decV y = v at *
              refine w3 @hla @hde @hpa ?_ 
              rfl
          · have e : endE false (some (six, A)) y = none := by
              rw [endE, if_neg]; rintro ⟨_, h3, _⟩; exact h1 h3
            rw [e]
            clear hok e hv
            subst h6
            generalize decV y = v at *
            refine w3 @hla @hde @hpa ?_ 
            rfl
        · have e : endE false (some (six, A)) y = none := by
            rw [endE, if_neg]; rintro ⟨_, _, _, h4⟩; exact h6 h4
          rw [e]
          have h6 : six = !false := by cases six <;> simp at h6 ⊢
          clear hok e hv
          subst h6
          generalize decV y = v at *
          refine w3 @hla @hde @hpa ?_ 
          rfl
  have hh : t.head? = some (t[0]'(by omega)) := by rw [List.head?_eq_getElem?, List.getElem?_eq_getElem]
  have hg : t.getLast? = some (t[a - 1]'(by omega)) := by rw [List.getLast?_eq_getElem?, show t.length - 1 = a - 1 by omega, List.getElem?_eq_getElem]
  by_cases hc0 : (t[0]'(by omega)) = 91
  · have hc1 : (t[0]'(by omega)).toNat = 91 := by rw [hc0]; rfl
    by_cases hc9 : (t[a - 1]'(by omega)) = 93
    · obtain rfl : br = true := by rw [← hbr, brkt, hh, hg, hc0, hc9]; simp; omega
      have hc2 : (t[a - 1]'(by omega)).toNat = 93 := by rw [hc9]; rfl
      rw [if_pos rfl] at hub
      have hub2 : t.tail.take (a - 1 - 1) = u := by rw [hub, ← htl, List.drop_one]; rfl
      clear hbr hub hb2 hh hg hc0 hc9
      cases q with
      | none =>
        refine w_GM03 @hla @hde @hpa ?_ 
        rfl
      | some q =>
        obtain ⟨six, A⟩ := q
        have hA := hpl rfl
        clear hpl
        simp only [rA, addrC] at hpa
        cases hok : decOk 5 y with
        | false =>
          rw [hok] at hde
          have e : endE true (some (six, A)) y = none := by
            rw [endE, if_neg]; rintro ⟨h1, _⟩; simp [h1] at hok
          rw [e]
          clear hok e
          by_cases h6 : six = true
          · subst h6
            refine w3 @hla @hde @hpa ?_ 
            rfl
          · have h6 : six = !true := by cases six <;> simp at h6 ⊢
            subst h6
            refine w3 @hla @hde @hpa ?_ 
            rfl
        | true =>
          have hv : decR 5 y = decV y := by rw [decR, if_pos hok]
          rw [hok, hv] at hde
          by_cases h6 : six = true
          · by_cases h1 : 1 ≤ decV y
            · by_cases h2 : decV y ≤ 65535
              · have e : endE true (some (six, A)) y = some (six, A, decV y) := by rw [endE, if_pos ⟨hok, h1, h2, h6⟩]
                rw [e]
                clear hok e hv
                subst h6
                generalize decV y = v at *
                refine w3 @hla @hde @hpa ?_ 
                (simp (disch := omega) [go_sem, *, rE, prefC]) <;> (try omega)
              · have e : endE true (some (six, A)) y = none := by
                  rw [endE, if_neg]; rintro ⟨_, _, h3, _⟩; exact h2 h3
                rw [e]
                clear hok e hv
                subst h6
                generalize decV y = v at *
                refine w3 @hla @hde @hpa ?_ 
                rfl
            · have e : endE true (some (six, A)) y = none := by
                rw [endE, if_neg]; rintro ⟨_, h3, _⟩; exact h1 h3
              rw [e]
              clear hok e hv
              subst h6
              generalize decV y = v at *
              refine w3 @hla @hde @hpa ?_ 
              rfl
          · have e : endE true (some (six, A)) y = none := by
              rw [endE, if_neg]; rintro ⟨_, _, _, h4⟩; exact h6 h4
            rw [e]
            have h6 : six = !true := by cases six <;> simp at h6 ⊢
            clear hok e hv
            subst h6
            generalize decV y = v at *
            refine w3 @hla @hde @hpa ?_ 
            rfl
    · obtain rfl : br = false := by rw [← hbr, brkt, hg]; simp [hc9]
      have hc2 : (t[a - 1]'(by omega)).toNat ≠ 93 := fun h => hc9 (UInt8.toNat_inj.1 h)
      obtain rfl : u = t := by rw [hub]; rfl
      clear hbr hub hb2 hh hg hc0 hc9
      cases q with
      | none =>
        refine w_GM03 @hla @hde @hpa ?_ 
        rfl
      | some q =>
        obtain ⟨six, A⟩ := q
        have hA := hpl rfl
        clear hpl
        simp only [rA, addrC] at hpa
        cases hok : decOk 5 y with
        | false =>
          rw [hok] at hde
          have e : endE false (some (six, A)) y = none := by
            rw [endE, if_neg]; rintro ⟨h1, _⟩; simp [h1] at hok
          rw [e]
          clear hok e
          by_cases h6 : six = false
          · subst h6
            refine w3 @hla @hde @hpa ?_ 
            rfl
          · have h6 : six = !false := by cases six <;> simp at h6 ⊢
            subst h6
            refine w3 @hla @hde @hpa ?_ 
            rfl
        | true =>
          have hv : decR 5 y = decV y := by rw [decR, if_pos hok]
          rw [hok, hv] at hde
          by_cases h6 : six = false
          · by_cases h1 : 1 ≤ decV y
            · by_cases h2 : decV y ≤ 65535
              · have e : endE false (some (six, A)) y = some (six, A, decV y) := by rw [endE, if_pos ⟨hok, h1, h2, h6⟩]
                rw [e]
                clear hok e hv
                subst h6
                generalize decV y = v at *
                refine w3 @hla @hde @hpa ?_ 
                (simp (disch := omega) [go_sem, *, rE, prefC]) <;> (try omega)
              · have e : endE false (some (six, A)) y = none := by
                  rw [endE, if_neg]; rintro ⟨_, _, h3, _⟩; exact h2 h3
                rw [e]
                clear hok e hv
                subst h6
                generalize decV y = v at *
                refine w3 @hla @hde @hpa ?_ 
                rfl
            · have e : endE false (some (six, A)) y = none := by
                rw [endE, if_neg]; rintro ⟨_, h3, _⟩; exact h1 h3
              rw [e]
              clear hok e hv
              subst h6
              generalize decV y = v at *
              refine w3 @hla @hde @hpa ?_ 
              rfl
          · have e : endE false (some (six, A)) y = none := by
              rw [endE, if_neg]; rintro ⟨_, _, _, h4⟩; exact h6 h4
            rw [e]
            have h6 : six = !false := by cases six <;> simp at h6 ⊢
            clear hok e hv
            subst h6
            generalize decV y = v at *
            refine w3 @hla @hde @hpa ?_ 
            rfl
  · obtain rfl : br = false := by rw [← hbr, brkt, hh]; simp [hc0]
    obtain rfl : u = t := by rw [hub]; rfl
    have hc1 : (u[0]'(by omega)).toNat ≠ 91 := fun h => hc0 (UInt8.toNat_inj.1 h)
    clear hbr hub hb2 hh hg hc0
    cases q with
    | none =>
      refine w_GM03 @hla @hde @hpa ?_ 
      rfl
    | some q =>
      obtain ⟨six, A⟩ := q
      have hA := hpl rfl
      clear hpl
      simp only [rA, addrC] at hpa
      cases hok : decOk 5 y with
      | false =>
        rw [hok] at hde
        have e : endE false (some (six, A)) y = none := by
          rw [endE, if_neg]; rintro ⟨h1, _⟩; simp [h1] at hok
        rw [e]
        clear hok e
        by_cases h6 : six = false
        · subst h6
          refine w3 @hla @hde @hpa ?_ 
          rfl
        · have h6 : six = !false := by cases six <;> simp at h6 ⊢
          subst h6
          refine w3 @hla @hde @hpa ?_ 
          rfl
      | true =>
        have hv : decR 5 y = decV y := by rw [decR, if_pos hok]
        rw [hok, hv] at hde
        by_cases h6 : six = false
        · by_cases h1 : 1 ≤ decV y
          · by_cases h2 : decV y ≤ 65535
            · have e : endE false (some (six, A)) y = some (six, A, decV y) := by rw [endE, if_pos ⟨hok, h1, h2, h6⟩]
              rw [e]
              clear hok e hv
              subst h6
              generalize decV y = v at *
              refine w3 @hla @hde @hpa ?_ 
              (simp (disch := omega) [go_sem, *, rE, prefC]) <;> (try omega)
            · have e : endE false (some (six, A)) y = none := by
                rw [endE, if_neg]; rintro ⟨_, _, h3, _⟩; exact h2 h3
              rw [e]
              clear hok e hv
              subst h6
              generalize decV y = v at *
              refine w3 @hla @hde @hpa ?_ 
              rfl
          · have e : endE false (some (six, A)) y = none := by
              rw [endE, if_neg]; rintro ⟨_, h3, _⟩; exact h1 h3
            rw [e]
            clear hok e hv
            subst h6
            generalize decV y = v at *
            refine w3 @hla @hde @hpa ?_ 
            rfl
        · have e : endE false (some (six, A)) y = none := by
            rw [endE, if_neg]; rintro ⟨_, _, _, h4⟩; exact h6 h4
          rw [e]
          have h6 : six = !false := by cases six <;> simp at h6 ⊢
          clear hok e hv
          subst h6
          generalize decV y = v at *
          refine w3 @hla @hde @hpa ?_ 
          rfl
end Go.Proofs.YtcbdghgogmcllaaGreatDoor
end
section
namespace Go.Proofs.YtcbdghgogmcllaaGreatDoor
open Go Go.Sy
theorem splitL_has (b : UInt8) (s : List UInt8) (h : b ∉ s) : splitL b s = [s] := by
  induction s with
  | nil => rfl
  | cons c s ih =>
    rw [splitL, if_neg fun e => h (by simp [e]), ih fun e => h (by simp [e])]
end Go.Proofs.YtcbdghgogmcllaaGreatDoor
end
section
namespace Go.Proofs.YtcbdghgogmcllaaGreatDoor
open Go Go.Sy
theorem digit_ok : ∀ d : Fin 10, isDig (UInt8.ofNat (48 + d.1)) = true ∧ (UInt8.ofNat (48 + d.1)).toNat - 48 = d.1 ∧ (UInt8.ofNat (48 + d.1) = 48 → d.1 = 0) := by decide
theorem dec_all : ∀ n : Nat, (Go.Lib.decDigits n).all isDig = true ∧ decV (Go.Lib.decDigits n) = n ∧ (n ≠ 0 → (Go.Lib.decDigits n).head? ≠ some 48) := by
  intro n
  induction n using Nat.strongRecOn with
  | _ n ih =>
    rw [Go.Lib.decDigits]
    split
    · rename_i h
      obtain ⟨h1, h2, h3⟩ := digit_ok ⟨n, h⟩
      refine ⟨by rw [List.all_cons, h1]; rfl, ?_, fun hn => ?_⟩
      · show 10 * 0 + _ = n
        rw [h2]; simp
      · intro e
        exact hn (h3 (Option.some.inj e))
    · rename_i h
      obtain ⟨h1, h2, h3⟩ := digit_ok ⟨n % 10, by omega⟩
      obtain ⟨i1, i2, i3⟩ := ih (n / 10) (by omega)
      dsimp only at h1 h2 h3
      refine ⟨by rw [List.all_append, i1, List.all_cons, h1]; rfl, ?_, fun _ => ?_⟩
      · rw [decV_app, i2, h2]; omega
      · have hne := decDigits_ne (n / 10)
        rw [List.head?_append]
        obtain ⟨c, r, hcr⟩ := List.exists_cons_of_ne_nil hne
        have := i3 (by omega)
        rw [hcr] at this ⊢
        exact this
theorem decOk_dec (k n : Nat) (h : n < 10 ^ (k + 1)) : decOk (k + 1) (Go.Lib.decDigits n) = true := by
  obtain ⟨h1, _, h3⟩ := dec_all n
  have hl := decDigits_len k n h
  have hne : 0 < (Go.Lib.decDigits n).length := List.length_pos_iff.2 (decDigits_ne n)
  rw [decOk, h1, headOk]
  have : (decide (1 < (Go.Lib.decDigits n).length) && ((Go.Lib.decDigits n).head? == some 48)) = false := by
    by_cases hn : n = 0
    · subst hn; rw [show Go.Lib.decDigits 0 = [48] by rw [Go.Lib.decDigits]; rfl]; rfl
    · have := h3 hn
      rw [Bool.and_eq_false_iff]; right
      simpa using this
  rw [this]
  simp; omega
theorem dec_mem {n : Nat} {c : UInt8} (h : c ∈ Go.Lib.decDigits n) : 48 ≤ c.toNat ∧ c.toNat ≤ 57 := by
  have := List.all_eq_true.1 (dec_all n).1 c h
  simpa [isDig] using this
theorem hexD_ok : ∀ d : Fin 16, digV (hexD d.1) = some d.1 ∧ ((48 ≤ (hexD d.1).toNat ∧ (hexD d.1).toNat ≤ 57) ∨ (97 ≤ (hexD d.1).toNat ∧ (hexD d.1).toNat ≤ 102)) := by decide
theorem hex_all : ∀ n : Nat, (hexT n).all isHex = true ∧ hexV (hexT n) = n ∧ (∀ c ∈ hexT n, (48 ≤ c.toNat ∧ c.toNat ≤ 57) ∨ (97 ≤ c.toNat ∧ c.toNat ≤ 102)) ∧ hexT n ≠ [] := by
  intro n
  induction n using Nat.strongRecOn with
  | _ n ih =>
    rw [hexT]
    split
    · rename_i h
      obtain ⟨h1, h2⟩ := hexD_ok ⟨n, h⟩
      dsimp only at h1 h2
      refine ⟨by rw [List.all_cons, isHex, h1]; rfl, ?_, fun c hc => ?_, by simp⟩
      · show 16 * 0 + _ = n
        rw [h1]; simp
      · rw [List.mem_singleton] at hc; subst hc; exact h2
    · rename_i h
      obtain ⟨h1, h2⟩ := hexD_ok ⟨n % 16, by omega⟩
      obtain ⟨i1, i2, i3, i4⟩ := ih (n / 16) (by omega)
      dsimp only at h1 h2
      refine ⟨by rw [List.all_append, i1, List.all_cons, isHex, h1]; rfl, ?_, fun c hc => ?_, by simp⟩
      · rw [hexV_app, i2, h1, Option.getD_some]; omega
      · rcases List.mem_append.1 hc with hc | hc
        · exact i3 c hc
        · rw [List.mem_singleton] at hc; subst hc; exact h2
theorem hexOk_hex {n : Nat} (h : n < 65536) : hexOk (hexT n) = true := by
  obtain ⟨h1, _, _, h4⟩ := hex_all n
  have hl := hexT_len 3 n (by omega)
  have := List.length_pos_iff.2 h4
  rw [hexOk, h1]
  simp; omega
theorem splitL_app (b : UInt8) (s : List UInt8) : ∀ x : List UInt8, b ∉ x → splitL b (x ++ b :: s) = x :: splitL b s
  | [], _ => by simp [splitL]
  | c :: x, h => by
    rw [List.cons_append]
    exact splitL_cons (splitL_app b s x fun e => h (by simp [e])) fun e => h (by simp [e])
theorem join_two (x y : List UInt8) (r : List (List UInt8)) (b : UInt8) : Go.Lib.join (x :: y :: r) [b] = x ++ b :: Go.Lib.join (y :: r) [b] := by
  rw [Go.Lib.join_cons, Go.Lib.join_cons]; simp [Go.Lib.joinTail]
theorem splitL_join (b : UInt8) : ∀ (r : List (List UInt8)) (x : List UInt8), (∀ y ∈ x :: r, b ∉ y) → splitL b (Go.Lib.join (x :: r) [b]) = x :: r
  | [], x, h => by rw [Go.Lib.join_one, splitL_has b x (h x (by simp))]
  | y :: r, x, h => by rw [join_two, splitL_app b _ x (h x (by simp)), splitL_join b r y fun z hz => h z (by simp [hz])]
theorem mem_join (b c : UInt8) : ∀ (r : List (List UInt8)) (x : List UInt8), c ∈ Go.Lib.join (x :: r) [b] → c = b ∨ ∃ y ∈ x :: r, c ∈ y
  | [], x, h => by rw [Go.Lib.join_one] at h; exact .inr ⟨x, by simp, h⟩
  | y :: r, x, h => by
    rw [join_two] at h
    rcases List.mem_append.1 h with h | h
    · exact .inr ⟨x, by simp, h⟩
    · rcases List.mem_cons.1 h with h | h
      · exact .inl h
      · rcases mem_join b c r y h with h | ⟨z, hz, h⟩
        · exact .inl h
        · exact .inr ⟨z, by simp [hz], h⟩
theorem a4_back {A : List UInt8} (hA : A.length = 16) (hz : A.drop 4 = z12) : a4 (parts4 A 4) 4 = A := by
  have hd : ∀ x : UInt8, UInt8.ofNat (decV (Go.Lib.decDigits x.toNat)) = x := fun x => by rw [(dec_all _).2.1]; exact UInt8.ofNat_toNat
  match A, hA with
  | [a, b, c, d, _, _, _, _, _, _, _, _, _, _, _, _], _ =>
    have hz : _ = z12 := hz
    show [UInt8.ofNat (decV (Go.Lib.decDigits a.toNat)), UInt8.ofNat (decV (Go.Lib.decDigits b.toNat)), UInt8.ofNat (decV (Go.Lib.decDigits c.toNat)), UInt8.ofNat (decV (Go.Lib.decDigits d.toNat))] ++ z12 = _
    rw [hd, hd, hd, hd, ← hz]
    rfl
theorem a6_back {A : List UInt8} (hA : A.length = 16) : a6 (parts6 A 8) 8 = A := by
  have h1 : ∀ x y : UInt8, UInt8.ofNat (hexV (hexT (x.toNat * 256 + y.toNat)) / 256) = x := fun x y => by
    have := y.toNat_lt
    rw [(hex_all _).2.1, show (x.toNat * 256 + y.toNat) / 256 = x.toNat by omega]; exact UInt8.ofNat_toNat
  have h2 : ∀ x y : UInt8, UInt8.ofNat (hexV (hexT (x.toNat * 256 + y.toNat))) = y := fun x y => by
    have := y.toNat_lt
    rw [(hex_all _).2.1]
    apply UInt8.toNat_inj.1
    rw [UInt8.toNat_ofNat']; omega
  match A, hA with
  | [a0, a1, a2, a3, a4, a5, a6, a7, a8, a9, a10, a11, a12, a13, a14, a15], _ =>
    show [UInt8.ofNat (hexV (hexT (a0.toNat * 256 + a1.toNat)) / 256), UInt8.ofNat (hexV (hexT (a0.toNat * 256 + a1.toNat))), UInt8.ofNat (hexV (hexT (a2.toNat * 256 + a3.toNat)) / 256), UInt8.ofNat (hexV (hexT (a2.toNat * 256 + a3.toNat))), UInt8.ofNat (hexV (hexT (a4.toNat * 256 + a5.toNat)) / 256), UInt8.ofNat (hexV (hexT (a4.toNat * 256 + a5.toNat))), UInt8.ofNat (hexV (hexT (a6.toNat * 256 + a7.toNat)) / 256), UInt8.ofNat (hexV (hexT (a6.toNat * 256 + a7.toNat))), UInt8.ofNat (hexV (hexT (a8.toNat * 256 + a9.toNat)) / 256), UInt8.ofNat (hexV (hexT (a8.toNat * 256 + a9.toNat))), UInt8.ofNat (hexV (hexT (a10.toNat * 256 + a11.toNat)) / 256), UInt8.ofNat (hexV (hexT (a10.toNat * 256 + a11.toNat))), UInt8.ofNat (hexV (hexT (a12.toNat * 256 + a13.toNat)) / 256), UInt8.ofNat (hexV (hexT (a12.toNat * 256 + a13.toNat))), UInt8.ofNat (hexV (hexT (a14.toNat * 256 + a15.toNat)) / 256), UInt8.ofNat (hexV (hexT (a14.toNat * 256 + a15.toNat)))] = _
    simp only [h1, h2]
theorem parts4_mem {A x : List UInt8} {n : Nat} (h : x ∈ parts4 A n) : oct x = true ∧ ∀ c ∈ x, 48 ≤ c.toNat ∧ c.toNat ≤ 57 := by
  simp only [parts4, List.mem_map, List.mem_range] at h
  obtain ⟨i, _, rfl⟩ := h
  have := (A.getD i 0).toNat_lt
  refine ⟨?_, fun c hc => dec_mem hc⟩
  rw [oct, decOk_dec 2 _ (by omega), (dec_all _).2.1, Bool.true_and, decide_eq_true_eq]
  omega
theorem parts6_mem {A x : List UInt8} {n : Nat} (h : x ∈ parts6 A n) : hexOk x = true ∧ ∀ c ∈ x, (48 ≤ c.toNat ∧ c.toNat ≤ 57) ∨ (97 ≤ c.toNat ∧ c.toNat ≤ 102) := by
  simp only [parts6, List.mem_map, List.mem_range] at h
  obtain ⟨i, _, rfl⟩ := h
  exact ⟨hexOk_hex (grp_lt A i), (hex_all _).2.2.1⟩
theorem fmtA_mem {six : Bool} {A : List UInt8} {c : UInt8} (h : c ∈ fmtA six A) : (48 ≤ c.toNat ∧ c.toNat ≤ 58) ∨ (97 ≤ c.toNat ∧ c.toNat ≤ 102) ∨ (c.toNat = 46 ∧ six = false) := by
  rw [fmtA] at h
  split at h
  · split at h
    · rcases mem_join 58 c _ _ h with rfl | ⟨y, hy, hc⟩
      · left; decide
      · have := (parts6_mem (A := A) (n := 8) hy).2 c hc; omega
    · rename_i h6
      rcases mem_join 46 c _ _ h with rfl | ⟨y, hy, hc⟩
      · right; right; exact ⟨rfl, by simpa using h6⟩
      · have := (parts4_mem (A := A) (n := 4) hy).2 c hc; omega
  · simp at h
theorem parseA_back {six : Bool} {A : List UInt8} (hA : A.length = 16) (hok : okA six A = true) : parseA (fmtA six A) = some (six, A) := by
  cases six with
  | true =>
    have e : fmtA true A = Go.Lib.join (parts6 A 8) [58] := by rw [fmtA, if_pos hok]; rfl
    have h46 : (46 : UInt8) ∉ fmtA true A := fun h => by
      rcases fmtA_mem h with h | h | h <;> simp at h
    rw [parseA, splitL_has 46 _ h46, if_neg (by simp), e]
    have h58 : splitL 58 (Go.Lib.join (parts6 A 8) [58]) = parts6 A 8 := splitL_join 58 _ _ fun y hy hc => by
      have := (parts6_mem (A := A) (n := 8) hy).2 58 hc; simp at this
    rw [h58, if_pos (by simp [parts6]), p6, if_pos, a6_back hA]
    rw [List.all_eq_true]
    exact fun x hx => (parts6_mem hx).1
  | false =>
    have e : fmtA false A = Go.Lib.join (parts4 A 4) [46] := by rw [fmtA, if_pos hok]; rfl
    have h46 : splitL 46 (Go.Lib.join (parts4 A 4) [46]) = parts4 A 4 := splitL_join 46 _ _ fun y hy hc => by
      have := (parts4_mem (A := A) (n := 4) hy).2 46 hc; simp at this
    rw [parseA, e, h46, if_pos (by simp [parts4]), p4, if_pos, a4_back hA (by simpa [okA] using hok)]
    rw [List.all_eq_true]
    exact fun x hx => (parts4_mem hx).1
theorem lastJ_none (s : List UInt8) (k : Nat) : ∀ j, (∀ i, k < i → i < k + 1 + j → s[i]? ≠ some 58) → s[k]? = some 58 → lastJ s (k + 1 + j) = k
  | 0, _, h => by rw [Nat.add_zero, lastJ, if_pos h]
  | j + 1, hn, h => by
    rw [show k + 1 + (j + 1) = (k + 1 + j) + 1 by omega, lastJ, if_neg (hn _ (by omega) (by omega))]
    exact lastJ_none s k j (fun i h1 h2 => hn i h1 (by omega)) h
theorem lastJ_app (t d : List UInt8) (h : (58 : UInt8) ∉ d) : lastJ (t ++ 58 :: d) (t ++ 58 :: d).length = t.length := by
  have hl : (t ++ 58 :: d).length = t.length + 1 + d.length := by simp; omega
  rw [hl]
  refine lastJ_none _ t.length d.length (fun i h1 h2 e => ?_) (by simp)
  obtain ⟨j, rfl⟩ : ∃ j, i = t.length + 1 + j := ⟨i - (t.length + 1), by omega⟩
  rw [List.getElem?_append_right (by omega), show t.length + 1 + j - t.length = j + 1 by omega, List.getElem?_cons_succ] at e
  exact h (List.mem_of_getElem? e)
theorem fmtA_ne {six : Bool} {A : List UInt8} (hok : okA six A = true) : fmtA six A ≠ [] := fun h => by
  rw [fmtA_nil.1 h] at hok; cases hok
theorem brk_back {six : Bool} {A : List UInt8} (hok : okA six A = true) : brkt (brk six (fmtA six A)) = six ∧ unb (brk six (fmtA six A)) = fmtA six A := by
  have hm := fun c => @fmtA_mem six A c
  have hne := fmtA_ne hok
  generalize fmtA six A = t at *
  have h1 : brkt (brk six t) = six := by
    cases six with
    | true => 
      have : (91 :: (t ++ [93])).getLast? = some 93 := by rw [show (91 : UInt8) :: (t ++ [93]) = (91 :: t) ++ [93] by simp, List.getLast?_concat]
      simp only [brkt, brk, if_true, this]
      simp
    | false =>
      obtain ⟨c, t, rfl⟩ : ∃ c r, t = c :: r := by
        cases t with
        | nil => exact absurd rfl hne
        | cons c r => exact ⟨c, r, rfl⟩
      have : c ≠ 91 := fun e => by
        subst e
        have := hm 91 (by simp)
        simp at this
      simp [brkt, brk, this]
  refine ⟨h1, ?_⟩
  rw [unb, h1]
  cases six with
  | true => simp [brk]
  | false => rfl
theorem parseE_back {six : Bool} {A : List UInt8} {p : Nat} (hA : A.length = 16) (hok : okA six A = true) (h1 : 1 ≤ p) (h2 : p ≤ 65535) : parseE (fmtE six A p) = some (six, A, p) := by
  have e : fmtE six A p = brk six (fmtA six A) ++ 58 :: Go.Lib.decDigits p := by rw [fmtE, if_pos ⟨hok, by omega, by omega⟩]; rfl
  have hd : (58 : UInt8) ∉ Go.Lib.decDigits p := fun h => by have := dec_mem h; simp at this
  obtain ⟨b1, b2⟩ := brk_back hok
  have hpa := parseA_back hA hok
  rw [e, parseE, lastJ_app _ _ hd, if_neg (by omega), Int.toNat_natCast, List.take_left, b1, b2, hpa]
  have : (brk six (fmtA six A) ++ 58 :: Go.Lib.decDigits p).drop ((brk six (fmtA six A)).length + 1) = Go.Lib.decDigits p := by
    rw [← List.drop_drop, List.drop_left]; rfl
  rw [this, endE, if_pos ⟨decOk_dec 4 p (by omega), by rw [(dec_all p).2.1]; exact h1, by rw [(dec_all p).2.1]; exact h2, rfl⟩, (dec_all p).2.1]
end Go.Proofs.YtcbdghgogmcllaaGreatDoor
end
section
namespace Go.Proofs.YtcbdghgogmcllaaGreatDoor
open Go Go.Sy
theorem fmtE_len (six : Bool) (A : List UInt8) (p : Int) : (fmtE six A p).length < 1000 := by
  rw [fmtE]
  split
  · rename_i h
    have h1 := fmtA_len six A
    have h2 := decDigits_len 4 p.toNat (by omega)
    have h3 : (brk six (fmtA six A)).length ≤ (fmtA six A).length + 2 := by rw [brk]; split <;> simp
    rw [List.length_append, List.length_cons]; omega
  · simp
theorem parseE_at {B : List Box} {s : List UInt8} (hs : s.length < 1000000000) : ACall Tryz.prog 75 [.str s] B fun c B' => c = rE (parseE s) ∧ B' = B := acall_fresh (nz := false) rfl (parseE_in s hs)
theorem fmtE_at {B : List Box} {args : List CV} {six : Bool} {A : List UInt8} {p : Int} (hz : Is (omap (Go.Sy.fz true false B 6) args) (some [prefC six A p])) (hA : A.length = 16) (hp : -9223372036854775808 ≤ p ∧ p ≤ 9223372036854775807) : ACall Tryz.prog 73 args B fun c B' => c = .str (fmtE six A p) ∧ B' = B := acall_fresh hz (fmtE_in six A p hA hp)
theorem rfmtE_at {B : List Box} {args : List CV} {six : Bool} {A : List UInt8} {p : Int} (hz : Is (omap (Go.Sy.fz true false B 6) args) (some [prefC six A p])) (hA : A.length = 16) (hp : -9223372036854775808 ≤ p ∧ p ≤ 9223372036854775807) : ACall Tryz.prog 52 args B fun c B' => c = .str (fmtE six A p) ∧ B' = B := acall_fresh hz (rfmtE_in six A p hA hp)
theorem short_in (s : List UInt8) (n : Nat) (hn : n < 1000) (hs : s.length ≤ maxLen) : PC Tryz.prog true 8 [.str s, .int .i64 n] (.str (s.take n)) := by
  have hm' : (maxLen : Nat) = 9223372036854775807 := by rfl
  have e : (min (s.length : Int) n).toNat = min n s.length := by omega
  have e2 : s.take (min n s.length) = s.take n := by
    rcases Nat.le_total n s.length with h | h
    · rw [Nat.min_eq_left h]
    · rw [Nat.min_eq_right h, List.take_of_length_le (by omega), List.take_of_length_le (by omega)]
  refine acall_intro mixed Tryz.func8 rfl ca8 (by kernel_rfl) (by rw [Tryz.ntmps8]; simp) ?_
  refine w0 ?_ 
  rfl
end Go.Proofs.YtcbdghgogmcllaaGreatDoor
end
section
namespace Go.Sy
open Go.RowKit (Below)
section
variable {P : Program} {N : Nat} {I : Nat → Nat → Prop} {μ : List (List Place)} {B : List Box} {w : World}
theorem omap_take {f : CV → Option CV} : ∀ {a b : List CV}, omap f a = some b → ∀ k, omap f (a.take k) = some (b.take k)
  | [], b, h, k => by simp [omap] at h; subst h; simp [omap]
  | c :: a, b, h, k => by
    obtain ⟨c', l', rfl, h1, h2⟩ := omap_cons h
    cases k with
    | zero => simp [omap]
    | succ k => simp [omap, h1, omap_take h2 k]
theorem omap_drop {f : CV → Option CV} : ∀ {a b : List CV}, omap f a = some b → ∀ k, omap f (a.drop k) = some (b.drop k)
  | [], b, h, k => by simp [omap] at h; subst h; simp [omap]
  | c :: a, b, h, k => by
    cases k with
    | zero => simpa using h
    | succ k =>
      obtain ⟨c', l', rfl, h1, h2⟩ := omap_cons h
      simpa using omap_drop h2 k
def hide (n : Nat) (B : List Box) : List Box := List.replicate (min n B.length) ⟨[], true⟩ ++ B.drop n
theorem hide_ge {n b : Nat} (h : n ≤ b) : (hide n B)[b]? = B[b]? := by
  unfold hide
  rcases Nat.le_total n B.length with hn | hn
  · rw [Nat.min_eq_left hn, List.getElem?_append_right (by simpa using h), List.length_replicate, List.getElem?_drop]
    congr 1; omega
  · rw [List.drop_of_length_le hn, List.append_nil, List.getElem?_eq_none (by simp; omega), List.getElem?_eq_none (by omega)]
theorem hide_any {n b : Nat} {box : Box} (h : (hide n B)[b]? = some box) : (box.cells = [] ∧ box.multi = true) ∨ (n ≤ b ∧ B[b]? = some box) := by
  rcases Nat.lt_or_ge b n with hb | hb
  · left
    unfold hide at h
    rcases Nat.lt_or_ge b (List.replicate (min n B.length) (⟨[], true⟩ : Box)).length with hl | hl
    · rw [List.getElem?_append_left hl, List.getElem?_replicate] at h
      split at h
      · simp at h; subst h; exact ⟨rfl, rfl⟩
      · cases h
    · rw [List.getElem?_append_right hl, List.getElem?_drop] at h
      simp at hl
      rw [List.getElem?_eq_none (by simp; omega)] at h
      cases h
  · rw [hide_ge hb] at h
    exact .inr ⟨hb, h⟩
theorem fzh_rel {nz fr : Bool} {J : Nat → Nat → Prop} {Bh : List Box} (hB : BRel N I μ B w) (hI : fr = false → ∀ b j, I b j → J b j) (hH : ∀ (β : Nat) (box : Box), Bh[β]? = some box → (box.cells = [] ∧ box.multi = true) ∨ (B[β]? = some box ∧ ∀ (ps : List Place) (p : Place) (j : Nat), μ[β]? = some ps → p ∈ ps → J p.b j)) : ∀ (k : Nat) (one : Bool) (cs : List CV) (vs : List Value) (cs' : List CV), R I μ w one cs vs → omap (fz nz fr Bh k) cs = some cs' → R J [] w one cs' vs := by
  intro k
  induction k with
  | zero =>
    intro one cs vs cs' h hc
    cases cs with
    | nil => simp [omap] at hc; subst hc; rw [R.nil_iff] at h; subst h; exact .nil _
    | cons c cs => simp [omap, fz] at hc
  | succ k ih =>
    intro one cs
    induction cs with
    | nil => intro vs cs' h hc; simp [omap] at hc; subst hc; rw [R.nil_iff] at h; subst h; exact .nil _
    | cons c cs ihl =>
      intro vs cs' h hc
      obtain ⟨v, vs, rfl, h1, h2, h3⟩ := R.cons_iff.1 h
      obtain ⟨c', l', rfl, hf, hl⟩ := omap_cons hc
      refine .cons ?_ h2 (ihl vs l' h3 hl)
      clear ihl h hc h3 hl
      cases h1 with
      | bool b _ => simp [fz] at hf; subst hf; exact .bool _ (.nil _)
      | int k n _ => simp [fz] at hf; subst hf; exact .int _ _ (.nil _)
      | str s _ => simp [fz] at hf; subst hf; exact .str _ (.nil _)
      | nilP _ => simp [fz] at hf; subst hf; exact .nilP (.nil _)
      | nilS _ =>
        simp [fz] at hf; subst hf
        cases nz
        · exact .nilS (.nil _)
        · exact .lstE _ _ (.nil _)
      | nilF _ => simp [fz] at hf; subst hf; exact .nilF (.nil _)
      | nilI _ => simp [fz] at hf; subst hf; exact .nilI (.nil _)
      | raw v h _ => simp [fz] at hf; subst hf; exact .raw v h (.nil _)
      | agg h _ => simp only [fz, Option.map_eq_some_iff] at hf; obtain ⟨cs, hf, rfl⟩ := hf; exact .agg (ih _ _ _ _ h hf) (.nil _)
      | tup h _ => simp only [fz, Option.map_eq_some_iff] at hf; obtain ⟨cs, hf, rfl⟩ := hf; exact .tup (ih _ _ _ _ h hf) (.nil _)
      | lst n full b o cap h hm hn hfu _ =>
        simp only [fz] at hf
        split at hf
        · cases hf
        · rename_i hfe
          simp only [Option.map_eq_some_iff] at hf; obtain ⟨cs, hf, rfl⟩ := hf
          refine .lst n _ b o cap (ih _ _ _ _ h hf) (fun j v hj => ⟨(hm j v hj).1, ?_⟩) hn (fun hx => hfu (by simp at hx; exact hx.1)) (.nil _)
          exact fz_keep hfe h hI (hm j v hj).2 hj
      | lstE full A _ => simp [fz, omap] at hf; subst hf; exact .lstE _ A (.nil _)
      | view β off n sz full ps p cap hb hp hlo hk hn hfu hr _ =>
        simp only [fz] at hf
        split at hf
        · rename_i box hbx
          simp only [Option.map_eq_some_iff] at hf
          obtain ⟨cs, hf, rfl⟩ := hf
          rcases hH β box hbx with ⟨h0, _⟩ | ⟨hbx, hP⟩
          · rw [h0] at hf
            simp [omap] at hf
            subst hf
            exact .lst n _ p.b (p.o + (off - p.lo)) cap (.nil _) (fun j v hj => by simp at hj) hn (fun hx => hfu (by simp at hx; exact hx.1)) (.nil _)
          obtain ⟨_, us, g1, g2, g3, _⟩ := view_cells hB hbx hb hp hlo hk (s := off) (e := n * sz) (Nat.le_refl _) (Nat.le_refl _)
          exact .lst n _ _ _ cap (ih _ _ _ _ g1 hf) (fun j v hj => ⟨g3 j v hj, hP ps p _ hb hp⟩) hn (fun hx => hfu (by simp at hx; exact hx.1)) (.nil _)
        · cases hf
      | viewE β off sz full A hb _ =>
        simp only [fz] at hf
        split at hf
        · simp [omap] at hf; subst hf; exact .lstE _ A (.nil _)
        · cases hf
      | cview β off n cap sz ps p hb hp hlo hk hn hpl _ =>
        simp only [fz] at hf
        split at hf
        · rename_i box hbx
          simp only [Option.map_eq_some_iff] at hf
          obtain ⟨cs, hf, rfl⟩ := hf
          rcases hH β box hbx with ⟨h0, _⟩ | ⟨hbx, hP⟩
          · rw [h0] at hf
            simp [omap] at hf
            subst hf
            exact .lst n _ p.b (p.o + (off - p.lo)) cap (.nil _) (fun j v hj => by simp at hj) hn (by simp) (.nil _)
          have hmul : n * sz ≤ cap * sz := Nat.mul_le_mul_right _ hn
          obtain ⟨_, us, g1, g2, g3, _⟩ := view_cells hB hbx hb hp hlo (n := n) (sz := sz) (by omega) (s := off) (e := n * sz) (Nat.le_refl _) (Nat.le_refl _)
          exact .lst n _ _ _ cap (ih _ _ _ _ g1 hf) (fun j v hj => ⟨g3 j v hj, hP ps p _ hb hp⟩) hn (by simp) (.nil _)
        · cases hf
      | cviewE β off sz A hb _ =>
        simp only [fz] at hf
        split at hf
        · simp [omap] at hf; subst hf; exact .lstE _ A (.nil _)
        · cases hf
      | bview => simp [fz] at hf
      | ptr β off ps p hb hp hlo _ =>
        simp only [fz] at hf
        split at hf
        · rename_i box hbx
          split at hf
          · cases hf
          · rename_i hm
            simp only [Option.map_eq_some_iff] at hf
            obtain ⟨cs, hf, rfl⟩ := hf
            rcases hH β box hbx with ⟨_, h0⟩ | ⟨hbx, hP⟩
            · rename_i hm'
              exact absurd h0 (by simpa using hm)
            obtain ⟨p', us, q1, q2, q3, q4⟩ := box_ptr hB (.ptr β off ps p hb hp hlo (.nil _)) hbx (by simpa using hm)
            rw [q2]
            refine .iptr _ _ (ih _ _ _ _ (q3.drop off) hf) (fun j v hj => ⟨?_, hP [p'] p' _ q1 (by simp)⟩) (.nil _)
            rw [List.getElem?_drop] at hj
            rw [Nat.add_assoc]
            exact q4 _ v hj
        · cases hf
      | iptr b o h hm _ =>
        simp only [fz] at hf
        split at hf
        · cases hf
        · rename_i hfe
          simp only [Option.map_eq_some_iff] at hf; obtain ⟨cs, hf, rfl⟩ := hf
          exact .iptr b o (ih _ _ _ _ h hf) (fun j v hj => ⟨(hm j v hj).1, fz_keep hfe h hI (hm j v hj).2 hj⟩) (.nil _)
      | fn f h h' _ =>
        simp only [fz] at hf
        split at hf
        · rename_i x y e1 e2
          simp at hf; subst hf
          exact .fn f (ih _ _ _ _ h e1) (ih _ _ _ _ h' e2) (.nil _)
        · cases hf
      | iface t h _ =>
        simp only [fz, Option.map_eq_some_iff] at hf
        obtain ⟨v', hf, rfl⟩ := hf
        exact .iface t (ih _ _ _ _ h (by simp [omap, hf])) (.nil _)
      | bptr => simp [fz] at hf
      | imap r es clock h h' hm hi _ =>
        simp only [fz] at hf
        split at hf
        · cases hf
        · rename_i hfe
          split at hf
          · rename_i x y e1 e2
            simp at hf; subst hf
            exact .imap r es clock (ih _ _ _ _ h e1) (ih _ _ _ _ h' e2) hm (hI (by simpa using hfe) r 0 hi) (.nil _)
          · cases hf
theorem R.cut {I J : Nat → Nat → Prop} {μ μ1 : List (List Place)} {w w' : World} {one : Bool} {cs : List CV} {vs vs' : List Value} (h : R I μ w one cs vs) (h' : R J μ1 w' one cs vs') : R J (μ1.take μ.length) w' one cs vs' := by
  have tk : ∀ {β : Nat} {ps ps' : List Place}, μ[β]? = some ps → μ1[β]? = some ps' → (μ1.take μ.length)[β]? = some ps' := fun h1 h2 => by
    rw [List.getElem?_take_of_lt (List.getElem?_eq_some_iff.1 h1).1]; exact h2
  have hr : ∀ {β : Nat} {ps : List Place}, μ[β]? = some ps → Here μ1 β → Here (μ1.take μ.length) β := fun h1 ⟨ps, p, h2, h3⟩ => ⟨ps, p, tk h1 h2, h3⟩
  induction h generalizing vs' with
  | nil one => cases h'; exact .nil one
  | bool b _ ih => cases h' with | bool _ t => exact .bool b (ih t)
  | int k n _ ih => cases h' with | int _ _ t => exact .int k n (ih t)
  | str s _ ih => cases h' with | str _ t => exact .str s (ih t)
  | nilP _ ih => cases h' with | nilP t => exact .nilP (ih t)
  | nilS _ ih => cases h' with | nilS t => exact .nilS (ih t)
  | nilF _ ih => cases h' with | nilF t => exact .nilF (ih t)
  | nilI _ ih => cases h' with | nilI t => exact .nilI (ih t)
  | raw v h1 _ ih => cases h' with | raw _ h2 t => exact .raw v h2 (ih t)
  | agg _ _ ih1 ih2 => cases h' with | agg t1 t2 => exact .agg (ih1 t1) (ih2 t2)
  | tup _ _ ih1 ih2 => cases h' with | tup t1 t2 => exact .tup (ih1 t1) (ih2 t2)
  | lst n full b o cap _ hm hn hf _ ih1 ih2 =>
    cases h' with
    | lst _ _ b' o' cap' t1 hm' hn' hf' t2 => exact .lst n full b' o' cap' (ih1 t1) hm' hn' hf' (ih2 t2)
    | lstE _ A t2 => exact .lstE full A (ih2 t2)
  | lstE full A _ ih =>
    cases h' with
    | lst _ _ b' o' cap' t1 hm' hn' hf' t2 => cases t1; exact .lst 0 full b' o' cap' (.nil _) (fun j v hj => by simp at hj) hn' hf' (ih t2)
    | lstE _ A t2 => exact .lstE full A (ih t2)
  | view β off n sz full ps p cap hb hp hlo hk hn hf hr' _ ih =>
    cases h' with
    | view _ _ _ _ _ ps' p' cap' hb' hp' hlo' hk' hn' hf' hr2 t => exact .view β off n sz full ps' p' cap' (tk hb hb') hp' hlo' hk' hn' hf' hr2 (ih t)
    | viewE _ _ _ _ A hb' t => exact .viewE β off sz full A (hr hb hb') (ih t)
  | viewE β off sz full A hb _ ih =>
    obtain ⟨ps0, p0, hb0, _⟩ := hb
    cases h' with
    | view _ _ _ _ _ ps' p' cap' hb' hp' hlo' hk' hn' hf' hr2 t => exact .view β off 0 sz full ps' p' cap' (tk hb0 hb') hp' hlo' hk' hn' hf' hr2 (ih t)
    | viewE _ _ _ _ A hb' t => exact .viewE β off sz full A (hr hb0 hb') (ih t)
  | cview β off n cap sz ps p hb hp hlo hk hn hpl _ ih =>
    cases h' with
    | cview _ _ _ _ _ ps' p' hb' hp' hlo' hk' hn' hpl' t => exact .cview β off n cap sz ps' p' (tk hb hb') hp' hlo' hk' hn' hpl' (ih t)
    | cviewE _ _ _ A hb' t => exact .cviewE β off sz A (hr hb hb') (ih t)
  | cviewE β off sz A hb _ ih =>
    obtain ⟨ps0, p0, hb0, _⟩ := hb
    cases h' with
    | cview _ _ _ _ _ ps' p' hb' hp' hlo' hk' hn' hpl' t => exact .cview β off 0 0 sz ps' p' (tk hb0 hb') hp' hlo' hk' hn' hpl' (ih t)
    | cviewE _ _ _ A hb' t => exact .cviewE β off sz A (hr hb0 hb') (ih t)
  | bview β n ty ps p cap hb hp hlo ho hk hn hc hr' hpl _ ih =>
    cases h' with
    | bview _ _ _ ps' p' cap' hb' hp' hlo' ho' hk' hn' hc' hr2 hpl' t => exact .bview β n ty ps' p' cap' (tk hb hb') hp' hlo' ho' hk' hn' hc' hr2 hpl' (ih t)
  | ptr β off ps p hb hp hlo _ ih =>
    cases h' with
    | ptr _ _ ps' p' hb' hp' hlo' t => exact .ptr β off ps' p' (tk hb hb') hp' hlo' (ih t)
  | iptr b o _ hm _ ih1 ih2 =>
    cases h' with
    | iptr b' o' t1 hm' t2 => exact .iptr b' o' (ih1 t1) hm' (ih2 t2)
  | fn f _ _ _ ih1 ih2 ih3 =>
    cases h' with
    | fn _ t1 t2 t3 => exact .fn f (ih1 t1) (ih2 t2) (ih3 t3)
  | iface t _ _ ih1 ih2 =>
    cases h' with
    | iface _ t1 t2 => exact .iface t (ih1 t1) (ih2 t2)
  | imap r es clock _ _ hm hi _ ih1 ih2 ih3 =>
    cases h' with
    | imap r' es' clock' t1 t2 hm' hi' t3 => exact .imap r' es' clock' (ih1 t1) (ih2 t2) hm' hi' (ih3 t3)
  | bptr β ty n ps p hb hp hlo ho hw _ ih =>
    cases h' with
    | bptr _ _ _ ps' p' hb' hp' hlo' ho' hw' t => exact .bptr β ty n ps' p' (tk hb hb') hp' hlo' ho' hw' (ih t)
def NoRef (cs : List CV) : Prop := omap (fz false false [] 6) cs = some cs
def Stand (B B1 : List Box) : Prop := B.length ≤ B1.length ∧ ∀ (k : Nat) (box : Box), k < B.length → B1[k]? = some box → NoRef box.cells ∨ (B[k]? = some box ∧ box.multi = false)
theorem acall_drop {f : FuncId} {args : List CV} {Q Q' : CV → List Box → Prop} (h : ACall P f args B Q) (hq : ∀ c B1, Q c B1 → ∃ c', Stand B B1 ∧ fz true false (hide B.length B1) 6 c = some c' ∧ Q' c' (B1.take B.length)) : ACall P f args B Q' := by
  refine ⟨h.1, fun N I μ w vs hB hv => ?_⟩
  refine (h.2 N I μ w vs hB hv).mono fun e w' ⟨c, v, B1, J, μ1, he, hQ, hs⟩ => ?_
  obtain ⟨c', ⟨hlen, hst⟩, hz, hQ'⟩ := hq c B1 hQ
  have hb := hs.box
  have hx := hs.ext
  have hn : μ.length = B.length := hB.len
  let I' : Nat → Nat → Prop := fun b j => J b j ∨ ∃ (β : Nat) (ps : List Place) (p : Place), B.length ≤ β ∧ μ1[β]? = some ps ∧ p ∈ ps ∧ p.b = b
  have hJI : ∀ b j, J b j → I' b j := fun _ _ h => .inl h
  have htk : ∀ {β : Nat}, β < B.length → (μ1.take B.length)[β]? = μ1[β]? := fun h => List.getElem?_take_of_lt h
  have hlt : ∀ {β : Nat} {ps : List Place}, (μ1.take B.length)[β]? = some ps → β < B.length ∧ μ1[β]? = some ps := fun {β ps} h => by
    have h1 := (List.getElem?_eq_some_iff.1 h).1
    rw [List.length_take] at h1
    have h2 : β < B.length := by omega
    exact ⟨h2, by rw [← htk h2]; exact h⟩
  have hKeep : Keep J (μ1.take B.length) w' I' (μ1.take B.length) w' := ⟨hJI, fun _ _ _ => rfl, fun _ _ h => h, fun _ h => h, fun β ps h => ⟨ps, h, fun _ h => h⟩, fun _ _ _ _ h => h⟩
  have hKeep0 : Keep J [] w' I' (μ1.take B.length) w' := ⟨hJI, fun _ _ _ => rfl, fun _ _ h => h, fun _ h => h, fun β ps h => by simp at h, fun _ _ _ _ h => h⟩
  have hnot : ∀ {β : Nat} {ps : List Place} {p : Place} {j : Nat}, β < B.length → μ1[β]? = some ps → p ∈ ps → ¬ J p.b j → ¬ I' p.b j := fun {β ps p j} h1 h2 h3 h4 h5 => by
    rcases h5 with h5 | ⟨β', ps', p', g1, g2, g3, g4⟩
    · exact h4 h5
    · have := hb.disj β β' ps ps' p p' h2 g2 h3 g3 g4.symm
      omega
  have hval : V I' (μ1.take B.length) w' c' v := by
    have h1 := fzh_rel (J := I') (Bh := hide B.length B1) hb (fun _ => hJI) (fun β box hx => by
      rcases hide_any hx with h1 | ⟨h1, h2⟩
      · exact .inl h1
      · exact .inr ⟨h2, fun ps p j h3 h4 => .inr ⟨β, ps, p, h1, h3, h4, rfl⟩⟩) 6 false [c] [v] [c'] hs.val (omap_one hz)
    exact h1.ext ⟨fun _ _ h => h, fun _ _ _ => rfl, fun _ _ h => h, fun _ h => h, fun β ps h => by simp at h, fun _ _ _ _ h => h⟩
  have hbox : BRel N I' (μ1.take B.length) (B1.take B.length) w' := by
    refine ⟨by rw [List.length_take, List.length_take, hb.len], hb.low, fun b j hj => ?_, fun β ps p h1 h2 => hb.places β ps p (hlt h1).2 h2, fun β β' ps ps' p p' h1 h1' h2 h2' he => hb.disj β β' ps ps' p p' (hlt h1).2 (hlt h1').2 h2 h2' he, fun β box h1 h2 => ?_, fun β box ps p h1 h2 h3 h4 => ?_, hb.tabs.mono hJI⟩
    · rcases hj with hj | ⟨β, ps, p, _, h2, h3, rfl⟩
      · exact hb.imm b j hj
      · exact (hb.places β ps p h2 h3).2.2.lt
    · have hβ : β < B.length := by have := (List.getElem?_eq_some_iff.1 h1).1; rw [List.length_take] at this; omega
      rw [List.getElem?_take_of_lt hβ] at h1
      rw [htk hβ]
      rcases hb.one β box h1 h2 with a0 | ⟨p, a1, a2, a3, ⟨us, a4, a5⟩, a6⟩
      · exact .inl a0
      refine .inr ⟨p, a1, a2, a3, ⟨us, ?_, a5⟩, fun j => hnot hβ a1 (by simp) (a6 j)⟩
      rcases hst β box hβ h1 with hc | ⟨g1, g2⟩
      · exact (rel_free 6 true _ _ _ a4 hc).ext hKeep0
      · rcases hB.one β box g1 g2 with b0 | ⟨q, b1, _, _, ⟨us0, b4, _⟩, _⟩
        · have := hx.gone β b0
          rw [a1] at this
          simp at this
        · have := R.cut b4 a4
          rw [hn] at this
          exact this.ext hKeep
    · obtain ⟨hβ, h3⟩ := hlt h3
      rw [List.getElem?_take_of_lt hβ] at h1
      obtain ⟨a1, ⟨us, a2, a3⟩, a4⟩ := hb.many β box ps p h1 h2 h3 h4
      refine ⟨a1, ⟨us, ?_, fun j v hj => ⟨(a3 j v hj).1, .inl (a3 j v hj).2⟩⟩, fun hk j hj => hnot hβ h3 h4 (a4 hk j hj)⟩
      rcases hst β box hβ h1 with hc | ⟨g1, g2⟩
      · have hc' : omap (fz false false [] 6) ((box.cells.take p.k).drop p.lo) = some ((box.cells.take p.k).drop p.lo) := omap_drop (omap_take hc p.k) p.lo
        exact (rel_free 6 true _ _ _ a2 hc').ext hKeep0
      · rw [h2] at g2; cases g2
  have hext : Ext I μ w I' (μ1.take B.length) w' := by
    refine ⟨⟨fun b j h => .inl (hx.imm b j h), hx.same, hx.free, hx.plain, fun β ps h => ?_, hx.maps⟩, hx.size, fun β ps ps' h h' p hp => hx.more β ps ps' h (hlt h').2 p hp, fun β ps h h' => ?_, fun b j hj => ?_, fun β h => ?_, hx.oth⟩
    · obtain ⟨ps', h1, h2⟩ := hx.grow β ps h
      have := (List.getElem?_eq_some_iff.1 h).1
      exact ⟨ps', by rw [htk (by omega)]; exact h1, h2⟩
    · have := (hlt h').1
      omega
    · rcases hj with hj | ⟨β, ps, p, h1, h2, h3, rfl⟩
      · exact hx.immN b j hj
      · exact .inr (.inl (hx.news β ps (by omega) h2 p h3))
    · have := (List.getElem?_eq_some_iff.1 h).1
      rw [htk (by omega)]
      exact hx.gone β h
  exact ⟨c', v, _, I', _, he, hQ', hval, hbox, hext, hs.below⟩
end
end Go.Sy
end
section
namespace Go.Sy
def MLow (B : List Box) : Prop := ∀ (k : Nat) (box : Box), B[k]? = some box → box.multi = true → NoRef box.cells
theorem mlow_nil : MLow [] := fun k box h => by simp at h
theorem mlow_app {B G : List Box} (h : MLow B) (hg : ∀ b ∈ G, b.multi = true → NoRef b.cells) : MLow (B ++ G) := fun k box hk hm => by
  rcases Nat.lt_or_ge k B.length with hl | hl
  · rw [List.getElem?_append_left hl] at hk; exact h k box hk hm
  · rw [List.getElem?_append_right hl] at hk; exact hg box (List.mem_of_getElem? hk) hm
theorem mlow_set {B : List Box} {β : Nat} {y : Box} (h : MLow B) (hy : y.multi = true → NoRef y.cells) : MLow (B.set β y) := fun k box hk hm => by
  rw [List.getElem?_set] at hk
  split at hk
  · split at hk
    · simp at hk; subst hk; exact hy hm
    · cases hk
  · exact h k box hk hm
theorem stand_set {B G : List Box} {β : Nat} {y : Box} (h : MLow B) (hy : NoRef y.cells) : Stand B (B.set β y ++ G) := by
  refine ⟨by simp, fun k box hk hb => ?_⟩
  rw [List.getElem?_append_left (by simpa using hk), List.getElem?_set] at hb
  split at hb
  · split at hb
    · simp at hb; subst hb; exact .inl hy
    · cases hb
  · cases hm : box.multi with
    | true => exact .inl (h k box hb hm)
    | false => exact .inr ⟨hb, rfl⟩
theorem acall_let {P : Program} {f : FuncId} {args : List CV} {B : List Box} {β : Nat} {Q' : CV → Box → Prop} (hm : MLow B) (h : ACall P f args B fun c B1 => ∃ (y : Box) (G : List Box) (c' : CV), NoRef y.cells ∧ B1 = B.set β y ++ G ∧ fz true false (List.replicate B.length ⟨[], true⟩ ++ G) 6 c = some c' ∧ Q' c' y) :
    ACall P f args B fun c B' => ∃ y, Q' c y ∧ B' = B.set β y := by
  refine acall_drop h fun c B1 ⟨y, G, c', hy, hB, hz, hq⟩ => ⟨c', ?_, ?_, y, hq, ?_⟩
  · rw [hB]; exact stand_set hm hy
  · rw [hB]
    have : hide B.length (B.set β y ++ G) = List.replicate B.length ⟨[], true⟩ ++ G := by
      rw [hide, List.drop_left' (by simp), Nat.min_eq_left (by simp)]
    rw [this]; exact hz
  · rw [hB, List.take_left' (by simp)]
theorem fzl_get0 {n m : Nat} {b : Box} {G : List Box} (h : n = m) : (List.replicate n b ++ G)[m]? = G[0]? := by subst h; rw [List.getElem?_append_right (by simp), List.length_replicate, Nat.sub_self]
theorem fzl_get {n i : Nat} {b : Box} {G : List Box} : (List.replicate n b ++ G)[n + i]? = G[i]? := by rw [List.getElem?_append_right (by simp), List.length_replicate, Nat.add_sub_cancel_left]
end Go.Sy
namespace Go.Proofs.YtcbdghgogmcllaaGreatDoor
open Go Go.Sy
theorem kE_MA0 {α : Type} {x y : α} (h : Is x y := by first | ((try simp (disch := first | omega | (simp only [yZ, yB] <;> omega) | fail) [go_sem, yY, *, addrC, if_pos, if_neg, -List.map_take, -List.map_drop, -List.map_append, -List.map_reverse]); exact rfl) | fail) : Is x y := h
theorem kD_MA0 {p : Prop} (h : p := by (first | omega | assumption | exact rfl | ((simp (disch := first | omega | (simp only [yZ, yB] <;> omega) | fail) [go_sem, yY, *, addrC, -List.map_take, -List.map_drop, -List.map_append, -List.map_reverse]) <;> (first | done | omega | exact rfl)) | fail)) : p := h
theorem wB_MA0 {p q : Prop} (k : q) (h : Hq q → p := by (intro k; (repeat' (first | (with_reducible first | apply jA | apply jB | apply jC | apply jD | apply jE | apply jF | apply jG | apply jH | apply jI | apply jJ | apply jK | apply jL | apply jM | apply jN | apply jO) | ((with_reducible first | apply jP | apply jQ); rfl) | ((first | ((with_reducible first | apply jR | apply jS | apply jT); rfl; rfl) | (with_reducible first | apply jU | apply jV | apply jW) | ((with_reducible first | apply jX | apply jY | apply jZ); rfl) | ((with_reducible first | apply kA | apply kB | apply kC); rfl)); all_goals (first | ((with_reducible show Is _ _); exact kE_MA0) | ((with_reducible refine fun (hc : (_ : Bool) = _) => ?_); (try simp only [xZ, xY, xP, reduceCtorEq] at hc); (try (have hx : True := hc; clear hx hc)); (try exact kX)) | ((with_reducible show ACall _ _ _ _ _); (first | ((with_reducible apply c0) <;> exact kD_MA0) | ((with_reducible apply c1) <;> exact kD_MA0) | ((with_reducible apply c2) <;> exact kD_MA0) | ((with_reducible apply c3) <;> exact kD_MA0) | ((with_reducible apply c4) <;> exact kD_MA0) | ((with_reducible apply c5) <;> exact kD_MA0) | ((with_reducible apply c6) <;> exact kD_MA0) | ((with_reducible apply c7) <;> exact kD_MA0))) | ((fail_if_success (with_reducible first | show Is _ _ | show ACall _ _ _ _ _)); (try ((with_reducible show _ ∨ _); exact kT))))) | (((with_reducible first | apply o_callQ | apply q_callQ); rfl); (iterate 2 exact kE_MA0); (first | ((with_reducible apply q0) <;> exact kD_MA0))))); exact hq k)) : p := h ⟨k⟩
theorem w_MA00 {p q : Prop}  (k : q) (h : Hq q → p := by (intro  k; exact wB_MA0 (hq k))) : p := h  ⟨k⟩
theorem cb_noref (l : List UInt8) (a : Nat) : NoRef (cb l a).cells := by simp [NoRef, cb, go_sem, omap_bytes]
theorem drop_cb {f : FuncId} {args : List CV} {B : List Box} {β : Nat} {l : List UInt8} {Q' : CV → Nat → Prop} (hm : MLow B) (h : ACall Tryz.prog f args B fun c B1 => ∃ (a : Nat) (G : List Box) (c' : CV), a ≤ l.length ∧ B1 = B.set β (cb l a) ++ G ∧ fz true false (List.replicate B.length ⟨[], true⟩ ++ G) 6 c = some c' ∧ Q' c' a) :
    ACall Tryz.prog f args B fun c B' => ∃ a, a ≤ l.length ∧ Q' c a ∧ B' = B.set β (cb l a) := by
  refine (acall_let (Q' := fun c y => ∃ a, a ≤ l.length ∧ y = cb l a ∧ Q' c a) hm (h.mono fun c B1 ⟨a, G, c', h1, h2, h3, h4⟩ => ⟨cb l a, G, c', cb_noref l a, h2, h3, a, h1, rfl, h4⟩)).mono fun c B' ⟨y, ⟨a, h1, h2, h3⟩, h4⟩ => ⟨a, h1, h3, by rw [h4, h2]⟩
theorem nx_ex (l : List UInt8) {a : Nat} (m : Int) (n : Nat) (hmn : m = n) (ha : a ≤ l.length) (hl : l.length < 1000000) (hn : 0 < n) : ∃ v a2 : Nat, v < n ∧ a2 ≤ l.length ∧ ∀ {β : Nat} {B : List Box} {args : List CV}, Is args [.ptr β 0, .int .i64 m] → B[β]? = some (cb l a) → ACall Tryz.prog 37 args B fun c B' => c = .int .i64 v ∧ B' = B.set β (cb l a2) :=
  ⟨nxV l a n, nxA l a n, nxV_lt hn, nxA_le ha, fun h h2 => next_at h hmn h2 ⟨ha, by omega⟩⟩
theorem bg_ex (l : List UInt8) {a : Nat} (m : Int) (n : Nat) (hmn : m = n) (ha : a ≤ l.length) (hl : l.length < 1000000) (hn : 1 ≤ n ∧ n ≤ 16777216) : ∃ v a2 : Nat, v < n ∧ a2 ≤ l.length ∧ ∀ {β : Nat} {B : List Box} {args : List CV}, Is args [.ptr β 0, .int .i64 m] → B[β]? = some (cb l a) → ACall Tryz.prog 20 args B fun c B' => c = .int .i64 v ∧ B' = B.set β (cb l a2) :=
  ⟨bgV l a n, bgA l a, bgV_lt (by omega), bgA_le ha, fun h h2 => big_at h hmn hn h2 ⟨ha, hl⟩⟩
theorem by_ex (l : List UInt8) {a : Nat} (m : Int) (n : Nat) (hmn : m = n) (ha : a ≤ l.length) (hl : l.length < 1000000) (hn : n ≤ 1000) : ∃ (K : List UInt8) (a2 : Nat), K.length = n ∧ a2 ≤ l.length ∧ ∀ {β : Nat} {B : List Box} {args : List CV}, Is args [.ptr β 0, .int .i64 m] → B[β]? = some (cb l a) → MLow B → ACall Tryz.prog 100 args B fun c B' => c = .lst n (K.map byteC) false ∧ B' = B.set β (cb l a2) := by
  have hbl := bytesV_len (nxV l a 256) (2 * nxA l a 256 + 1) n
  refine ⟨_, nxA l a 256, hbl, nxA_le ha, fun {β B args} h h2 h3 => ?_⟩
  have := bytes_at h hmn h2 ⟨ha, hl⟩ hn
  generalize bytesV (nxV l a 256) (2 * nxA l a 256 + 1) n = K at *
  generalize nxA l a 256 = a2 at *
  refine (acall_let (β := β) (Q' := fun c y => c = .lst n (K.map byteC) false ∧ y = cb l a2) h3 (this.mono fun c B1 ⟨e1, e2⟩ => ⟨cb l a2, _, .lst n (K.map byteC) false, cb_noref l a2, e2, ?_, rfl, rfl⟩)).mono fun c B' ⟨y, ⟨e1, e2⟩, e3⟩ => ⟨e1, by rw [e3, e2]⟩
  rw [e1, fz_view, fzl_get0 rfl]
  simp [omap_bytes, List.take_of_length_le, hbl]
theorem dkey_at {B : List Box} {β : Nat} {args : List CV} {l : List UInt8} {a : Nat} (ha : Is args [.ptr β 0]) (hB : B[β]? = some (cb l a)) (hl : a ≤ l.length ∧ l.length < 1000000) : ACall Tryz.prog 59 args B fun c B' => c = .agg ((bytesV (nxV l a 256) (2 * nxA l a 256 + 1) 32).map byteC) ∧ ∃ G, B' = B.set β (cb l (nxA l a 256)) ++ G := by
  obtain rfl := ha
  have hby : ∀ {B : List Box} {args : List CV}, Is args [.ptr β 0, .int .i64 32] → B[β]? = some (cb l a) → ACall Tryz.prog 100 args B fun c B' => c = .view B.length 0 32 1 true ∧ B' = B.set β (cb l (nxA l a 256)) ++ [⟨(bytesV (nxV l a 256) (2 * nxA l a 256 + 1) 32).map byteC, false⟩] := fun h h2 => bytes_at (n := 32) h rfl h2 hl (by omega)
  have hbl := bytesV_len (nxV l a 256) (2 * nxA l a 256 + 1) 32
  have hA := nxA_le (l := l) (a := a) (n := 256) hl.1
  generalize bytesV (nxV l a 256) (2 * nxA l a 256 + 1) 32 = K at *
  generalize nxA l a 256 = a2 at *
  have xb := bx_pack hB
  refine acall_intro mixed Tryz.func59 rfl ca59 (by kernel_rfl) (by rw [Tryz.ntmps59]; simp) ?_
  repeat' (first | (with_reducible first | apply jA | apply jB | apply jC | apply jD | apply jE | apply jF | apply jG | apply jH | apply jI | apply jJ | apply jK | apply jL | apply jM | apply jN | apply jO) | ((with_reducible apply jP); rfl) | ((first | ((with_reducible first | apply jR | apply jS | apply jT); rfl; rfl) | (with_reducible first | apply jU | apply jV | apply jW) | ((with_reducible first | apply jX | apply jY | apply jZ); rfl) | ((with_reducible first | apply kA | apply kB | apply kC); rfl)); all_goals (first | ((with_reducible show Is _ _); exact kE) | ((with_reducible refine fun (hc : (_ : Bool) = _) => ?_); (try simp only [xZ, xY, xP, reduceCtorEq] at hc); (try (have hx : True := hc; clear hx hc)); (try exact kX)) | ((with_reducible show ACall _ _ _ _ _); (first | ((with_reducible apply hby) <;> exact kD))) | ((fail_if_success (with_reducible first | show Is _ _ | show ACall _ _ _ _ _)); (try ((with_reducible show _ ∨ _); exact kT))))))
  refine w_drawJ [0] [⟨[], false⟩] (fun B' => ∃ cs, B'[B.length + 1]? = some ⟨cs, false⟩ ∧ cs.length = 32) rfl (by simp (disch := first | omega | (simp only [yZ, yB] <;> omega) | fail) [go_sem, yY, *, -List.map_take, -List.map_drop, -List.map_append, -List.map_reverse]; exact rfl) ⟨_, (by (try (simp (disch := omega) [go_sem, *]) <;> (try omega)); rfl), rfl⟩ ?_
  repeat' (first | (with_reducible first | apply jA | apply jB | apply jC | apply jD | apply jE | apply jF | apply jG | apply jH | apply jI | apply jJ | apply jK | apply jL | apply jM | apply jN | apply jO) | ((with_reducible first | apply jP | apply jQ); rfl) | ((with_reducible apply w_drawA); (conv => lhs; reduce); exact kE; exact kE) | ((first | ((with_reducible first | apply d_made | apply q_made); rfl; rfl)); (iterate 6 exact kE)) | ((first | ((with_reducible first | apply d_fop | apply q_fop); rfl; rfl)); (intro Bx hJ; (first | (obtain ⟨_, hJ1, hJ2⟩ := hJ) | (try simp only at hJ)); exact kE)) | ((with_reducible first | apply d_free | apply q_free); rfl; (iterate 2 exact kE); (intro Bx hJ); (first | ((with_reducible apply hby) <;> exact kD))) | ((first | ((with_reducible first | apply jR | apply jS | apply jT); rfl; rfl) | (with_reducible first | apply jU | apply jV | apply jW) | ((with_reducible first | apply jX | apply jY | apply jZ); rfl) | ((with_reducible first | apply kA | apply kB | apply kC); rfl)); all_goals (first | ((with_reducible show Is _ _); exact kE) | ((with_reducible refine fun (hc : (_ : Bool) = _) => ?_); (try simp only [xZ, xY, xP, reduceCtorEq] at hc); (try (have hx : True := hc; clear hx hc)); (try exact kX)) | ((with_reducible show ACall _ _ _ _ _); (first | ((with_reducible apply hby) <;> exact kD))) | ((fail_if_success (with_reducible first | show Is _ _ | show ACall _ _ _ _ _)); (try ((with_reducible show _ ∨ _); first | exact .inl rfl | (refine .inr ⟨rfl, ?_, ?_⟩; (focus (repeat (first | exact trivial | refine ⟨.inl rfl, ?_⟩ | refine ⟨.inr rfl, ?_⟩ | refine ⟨.inr (by (simp (disch := first | omega | (simp only [yZ, yB] <;> omega) | fail) [go_sem, yY, *, -List.map_take, -List.map_drop, -List.map_append, -List.map_reverse])), ?_⟩))); (first | exact trivial | exact rfl | (refine ⟨_, ?_, ?_⟩; (focus (simp (disch := first | omega | (simp only [yZ, yB] <;> omega) | fail) [go_sem, yY, *, -List.map_take, -List.map_drop, -List.map_append, -List.map_reverse]; (try exact rfl))); (simp (disch := first | omega | (simp only [yZ, yB] <;> omega) | fail) [go_sem, yY, *, -List.map_take, -List.map_drop, -List.map_append, -List.map_reverse])) | (simp (disch := first | omega | (simp only [yZ, yB] <;> omega) | fail) [go_sem, yY, *, -List.map_take, -List.map_drop, -List.map_append, -List.map_reverse]))) | exact .inl (by (simp (disch := first | omega | (simp only [yZ, yB] <;> omega) | fail) [go_sem, yY, *, -List.map_take, -List.map_drop, -List.map_append, -List.map_reverse]))))))))
  exact ⟨rfl, _, rfl⟩
theorem ky_ex (l : List UInt8) {a : Nat} (ha : a ≤ l.length) (hl : l.length < 1000000) : ∃ (K : List UInt8) (a2 : Nat), K.length = 32 ∧ a2 ≤ l.length ∧ ∀ {β : Nat} {B : List Box} {args : List CV}, Is args [.ptr β 0] → B[β]? = some (cb l a) → MLow B → ACall Tryz.prog 59 args B fun c B' => c = .agg (K.map byteC) ∧ B' = B.set β (cb l a2) := by
  have hbl := bytesV_len (nxV l a 256) (2 * nxA l a 256 + 1) 32
  refine ⟨_, nxA l a 256, hbl, nxA_le ha, fun {β B args} h h2 h3 => ?_⟩
  have := dkey_at h h2 ⟨ha, hl⟩
  generalize bytesV (nxV l a 256) (2 * nxA l a 256 + 1) 32 = K at *
  generalize nxA l a 256 = a2 at *
  refine (acall_let (β := β) (Q' := fun c y => c = .agg (K.map byteC) ∧ y = cb l a2) h3 (this.mono fun c B1 ⟨e1, G, e2⟩ => ⟨cb l a2, G, .agg (K.map byteC), cb_noref l a2, e2, ?_, rfl, rfl⟩)).mono fun c B' ⟨y, ⟨e1, e2⟩, e3⟩ => ⟨e1, by rw [e3, e2]⟩
  rw [e1]
  simp [go_sem, omap_bytes]
theorem byte_mod (a : Int) : byteC (UInt8.ofNat (a % 256).toNat) = .int .u8 (IntKind.u8.wrap a) := by
  have h : (UInt8.ofNat (a % 256).toNat).toNat = (a % 256).toNat := by rw [UInt8.toNat_ofNat']; omega
  rw [byteC, h, Int.toNat_of_nonneg (by omega)]
  rfl
def hostV (a b : Int) : List UInt8 := [10, UInt8.ofNat (a % 256).toNat, 0, UInt8.ofNat (b % 256).toNat]
theorem hostG_in (a b : Int) : PC Tryz.prog true 129 [.int .i64 a, .int .i64 b] (addrC false (hostV a b ++ z12)) := by
  refine acall_intro mixed Tryz.func129 rfl ca129 (by kernel_rfl) (by rw [Tryz.ntmps129]; simp) ?_
  refine w0 ?_ 
  simp only [addrC, hostV, List.map_append, List.map_cons, byte_mod]
  rfl
theorem hostG_at {B : List Box} {args : List CV} {a b : Int} (h : Is args [.int .i64 a, .int .i64 b]) : ACall Tryz.prog 129 args B fun c B' => c = addrC false (hostV a b ++ z12) ∧ B' = B := by
  obtain rfl := h
  exact acall_fresh (nz := true) (by simp [go_sem]) (hostG_in a b)
def pkt4 (s d : List UInt8) (n : Nat) (fill : UInt8) (j : Nat) : List UInt8 :=
  [0x45, 0, UInt8.ofNat ((20 + n) / 256), UInt8.ofNat (20 + n), 0, 0, 0, 0, 0, 0, 0, 0] ++ (s ++ (d ++ ((List.range j).map (fun i => fill + UInt8.ofNat (20 + i)) ++ List.replicate (n - j) 0)))
theorem pkt4_len (s d : List UInt8) (n : Nat) (fill : UInt8) (j : Nat) (hs : s.length = 4) (hd : d.length = 4) (hj : j ≤ n) : (pkt4 s d n fill j).length = 20 + n := by
  simp [pkt4, hs, hd]; omega
theorem pkt4_set (s d : List UInt8) (n : Nat) (fill : UInt8) (j : Nat) (hs : s.length = 4) (hd : d.length = 4) (hj : j < n) : (pkt4 s d n fill j).set (20 + j) (fill + UInt8.ofNat (20 + j)) = pkt4 s d n fill (j + 1) := by
  have e : n - j = (n - (j + 1)) + 1 := by omega
  rw [pkt4, pkt4, List.set_append_right _ _ (by simp; omega), List.set_append_right _ _ (by simp [hs]; omega), List.set_append_right _ _ (by simp [hs, hd]; omega), List.set_append_right _ _ (by simp [hs, hd]; omega)]
  simp only [List.length_cons, List.length_nil, hs, hd, List.length_map, List.length_range]
  rw [show 20 + j - (0 + 1 + 1 + 1 + 1 + 1 + 1 + 1 + 1 + 1 + 1 + 1 + 1) - 4 - 4 - j = 0 by omega, e, List.replicate_succ, List.set_cons_zero, List.range_succ, List.map_append, List.append_assoc]
  rfl
theorem byte_div (n : Nat) (h : n ≤ 4000) : byteC (UInt8.ofNat ((20 + n) / 256)) = .int .u8 ((20 + (n : Int)) / 256) := by
  have h : (UInt8.ofNat ((20 + n) / 256)).toNat = (20 + n) / 256 := by rw [UInt8.toNat_ofNat']; omega
  rw [byteC, h]; congr 1
theorem byte_add (a : UInt8) (m : Nat) : byteC (a + UInt8.ofNat m) = .int .u8 (IntKind.u8.wrap (a.toNat + IntKind.u8.wrap m)) := by
  have h : (a + UInt8.ofNat m).toNat = (a.toNat + m % 256) % 256 := by rw [UInt8.toNat_add, UInt8.toNat_ofNat']
  rw [byteC, h]; congr 1
theorem packetO (s d : List UInt8) (n : Nat) (fill : UInt8) (hs : s.length = 4) (hd : d.length = 4) (hn : n ≤ 4000) : ACall Tryz.prog 128 [addrC false (s ++ z12), addrC false (d ++ z12), .int .i64 n, byteC fill] [] fun c B1 => c = .view 2 0 (20 + n) 1 true ∧ ∃ b0 b1, B1 = [b0, b1, ⟨(pkt4 s d n fill n).map byteC, false⟩] := by
  have hz := z12_len
  have h20 : ((20 : Int) + n).toNat = 20 + n := by omega
  have hr : repC [CV.int .u8 0] (20 + n) = (([0,0,0,0,0,0,0,0,0,0,0,0,0,0,0,0,0,0,0,0] : List UInt8) ++ List.replicate n 0).map byteC := by
    rw [rep_bytes, ← List.replicate_append_replicate]; rfl
  have hzl : (List.replicate n (0 : UInt8)).length = n := List.length_replicate
  have hp0 : (pkt4 s d n fill 0).map byteC = CV.int IntKind.u8 69 :: byteC 0 :: CV.int IntKind.u8 ((20 + (n : Int)) / 256) :: CV.int IntKind.u8 (IntKind.u8.wrap (20 + (n : Int))) :: byteC 0 :: byteC 0 :: byteC 0 :: byteC 0 :: byteC 0 :: byteC 0 :: byteC 0 :: byteC 0 :: List.map byteC (s ++ (d ++ List.replicate n 0)) := by
    rw [← byte_div n hn, show (20 + (n : Int)) = ((20 + n : Nat) : Int) by omega, ← byte_wrap]
    rfl
  generalize hzz : List.replicate n (0 : UInt8) = z at *
  refine acall_intro mixed Tryz.func128 rfl ca128 (by kernel_rfl) (by rw [Tryz.ntmps128]; simp) ?_
  refine w_MA00 ?_ 
  refine w_loop (fun fr B => ∃ j : Nat, j ≤ n ∧ fr 9 = .view 2 0 (20 + n) 1 true ∧ fr 10 = .int .i64 (20 + j) ∧ fr 3 = byteC fill ∧ ∃ b0 b1, B = [b0, b1, ⟨(pkt4 s d n fill j).map byteC, false⟩]) (fun fr _ => 20 + n - natOf (fr 10)) ?_ ?_
  · exact ⟨0, by omega, kS, kS, kS, _, _, by rw [hp0]⟩
  · rintro fr B ⟨j, hj, h9, h10, h3, b0, b1, rfl⟩
    have hpl := pkt4_len s d n fill j hs hd hj
    by_cases hc : j < n
    · have hset := pkt4_set s d n fill j hs hd hc
      refine w0 ?_ 
      refine ⟨⟨j + 1, by omega, kS, kS, kS, b0, b1, ?_⟩, kS⟩
      rw [← hset, List.set_eq_take_append_cons_drop, if_pos (by omega), List.map_append, List.map_cons, byte_add, show (20 + (j : Int)).toNat = 20 + j by omega, Int.natCast_add]
      rfl
    · have : j = n := by omega
      subst this
      refine w0 ?_ 
      exact ⟨rfl, b0, b1, rfl⟩
theorem pk_own {B : List Box} {args : List CV} {n : Nat} {m : Int} {fill : UInt8} {s d : List UInt8} (hz : Is (omap (fz true false B 6) args) (some [addrC false (s ++ z12), addrC false (d ++ z12), .int .i64 m, byteC fill])) (hm : m = n) (hs : s.length = 4) (hd : d.length = 4) (hn : n ≤ 4000) :
    ACall Tryz.prog 128 args B fun c B' => c = .view B.length 0 (20 + n) 1 true ∧ B' = B ++ [⟨(pkt4 s d n fill n).map byteC, false⟩] := by
  subst hm
  refine acall_own hz (packetO s d n fill hs hd hn) fun c B1 ⟨h1, b0, b1, h2⟩ => ⟨2, 0, 20 + n, 1, true, ⟨(pkt4 s d n fill n).map byteC, false⟩, h1, by rw [h2]; rfl, ?_, ?_⟩
  · simp only [List.drop_zero, Nat.mul_one]
    rw [List.take_of_length_le (by rw [List.length_map, pkt4_len s d n fill n hs hd (Nat.le_refl n)]; exact Nat.le_refl _)]
    exact scal_bytes _
  · simp only [List.drop_zero, Nat.mul_one]
    rw [List.take_of_length_le (by rw [List.length_map, pkt4_len s d n fill n hs hd (Nat.le_refl n)]; exact Nat.le_refl _)]
    rw [ownC, if_neg (by omega)]
    exact ⟨rfl, rfl⟩
end Go.Proofs.YtcbdghgogmcllaaGreatDoor
end
