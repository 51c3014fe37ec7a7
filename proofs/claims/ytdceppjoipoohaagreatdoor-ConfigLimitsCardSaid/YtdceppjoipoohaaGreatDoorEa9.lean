/- Lemmas and definitions of this claim (own texts, joined by a program; what the claim does not use is left out). -/
import Derived.Test.YtdceppjoipoohaaGreatDoorEa8
import Derived.OpenShut
import Derived.ShutString
import Derived.ChangeOld
import Derived.Below
import Derived.ProofKit
import Derived.Test.YtdceppjoipoohaaGreatDoorRows
import Derived.Lib.LaidU8
import Derived.Shelf.Vars
import Derived.Lay
import Derived.LaidOnce
import Derived.SizedLaws
section
namespace Go.Proofs.YtdceppjoipoohaaGreatDoor
open Go Go.Sy
set_option linter.all false
set_option maxRecDepth 100000
set_option maxHeartbeats 4000000
theorem splitL_mem (b : UInt8) : ∀ (s x : List UInt8), x ∈ splitL b s → x.length ≤ s.length
  | [], x, h => by simp [splitL] at h; subst h; simp
  | c :: s, x, h => by
    rw [splitL] at h
    have ih := splitL_mem b s
    split at h
    · rcases List.mem_cons.1 h with rfl | h
      · simp
      · have := ih x h; simp; omega
    · split at h
      · have : x = [c] := by simpa using h
        subst this; simp
      · rename_i y ys he
        rcases List.mem_cons.1 h with rfl | h
        · have := ih y (by rw [he]; simp); simp; omega
        · have := ih x (by rw [he]; simp [h]); simp; omega
theorem splitL_num (b : UInt8) : ∀ (s : List UInt8), (splitL b s).length ≤ s.length + 1
  | [] => by simp [splitL]
  | c :: s => by
    have ih := splitL_num b s
    rw [splitL]
    split
    · simp; omega
    · split
      · simp
      · rename_i y ys he
        rw [he] at ih
        simp at ih ⊢; omega
theorem p4_len {L : List (List UInt8)} {six : Bool} {A : List UInt8} (hL : L.length = 4) (h : p4 L = some (six, A)) : A.length = 16 := by
  rw [p4] at h
  split at h
  · have := (Prod.mk.inj (Option.some.inj h)).2
    subst this; exact a4_len hL (by omega)
  · cases h
theorem p6_len {L : List (List UInt8)} {six : Bool} {A : List UInt8} (hL : L.length = 8) (h : p6 L = some (six, A)) : A.length = 16 := by
  rw [p6] at h
  split at h
  · have := (Prod.mk.inj (Option.some.inj h)).2
    subst this; exact a6_len hL (by omega)
  · cases h
def parseA (s : List UInt8) : Option (Bool × List UInt8) := if (splitL 46 s).length = 4 then p4 (splitL 46 s) else if (splitL 58 s).length = 8 then p6 (splitL 58 s) else none
theorem set2b {a b : CV} {M : List CV} {n : Nat} (hn : n + 1 < M.length) : (M.take n ++ a :: M.drop (1 + n)).take (n + 1) ++ b :: (M.take n ++ a :: M.drop (1 + n)).drop (1 + (n + 1)) = (M.set n a).set (n + 1) b := by
  have hX : M.take n ++ a :: M.drop (1 + n) = M.set n a := by
    rw [List.set_eq_take_append_cons_drop, if_pos (by omega), Nat.add_comm 1 n]
  rw [hX, List.set_eq_take_append_cons_drop (l := M.set n a), if_pos (by simp; omega), Nat.add_comm 1 (n + 1)]
theorem parse_in (s : List UInt8) (hs : s.length < 1000000000) : PC Tryz.prog true 42 [.str s] (rA (parseA s)) := by
  refine acall_intro mixed Tryz.func42 rfl ca42 (by kernel_rfl) (by rw [Tryz.ntmps42]; simp) ?_
  have hn4 := splitL_num 46 s
  have hn6 := splitL_num 58 s
  have hm4 := fun x hx => Nat.lt_of_le_of_lt (splitL_mem 46 s x hx) hs
  have hm6 := fun x hx => Nat.lt_of_le_of_lt (splitL_mem 58 s x hx) hs
  have hsp4 : ∀ {B : List Box}, ACall Tryz.prog 54 [.str s, .str [46]] B fun c B' => c = .lst (splitL 46 s).length ((splitL 46 s).map .str) true ∧ B' = B := split_at (b := 46) (by omega)
  have hsp6 : ∀ {B : List Box}, ACall Tryz.prog 54 [.str s, .str [58]] B fun c B' => c = .lst (splitL 58 s).length ((splitL 58 s).map .str) true ∧ B' = B := split_at (b := 58) (by omega)
  by_cases hL : (splitL 46 s).length = 4
  · have hp : parseA s = p4 (splitL 46 s) := by rw [parseA, if_pos hL]
    rw [hp]
    rw [hL] at hsp4
    generalize splitL 46 s = L at *
    clear hp hsp6 hn4 hn6 hm6
    repeat' (first | (with_reducible (first | apply w_seq | apply w_region | apply w_block | apply w_skip | apply w_exit | apply w_ret | apply w_then | apply w_then_exit | apply w_then_ret | apply w_in | apply w_in_here | apply w_in_ret | apply w_round | apply o_nil | apply d_nil)) | ((with_reducible (first | apply w_in_exit)); rfl) | ((with_reducible (first | apply w_draw)); rfl) | ((first | ((with_reducible (first | apply o_op | apply d_op | apply q_op)); rfl; rfl) | ((with_reducible (first | apply w_cond | apply w_end | apply w_return))) | ((with_reducible (first | apply o_guard | apply d_guard | apply q_guard)); rfl) | ((with_reducible (first | apply o_call_eq | apply d_call | apply q_call)); rfl)); all_goals (first | ((with_reducible show Is _ _); ((try simp (disch := first | omega | (simp only [yA, yB, yC, yD, yE] <;> omega) | fail) [go_sem, yF, yG, yH, *, if_pos, if_neg, -List.map_take, -List.map_drop, -List.map_append, -List.map_reverse]); exact rfl)) | ((fail_if_success (with_reducible show Is _ _)); (first | ((with_reducible refine fun (hc : (_ : Bool) = _) => ?_); (try simp only [xA, xB, xC, xD, xE, xF, xG, xH, reduceCtorEq, xI, xJ, xK, xL, xM, xN, xO, xP, xQ, xR] at hc); (try (have hx : True := hc; clear hx hc)); (try (exfalso; omega)); (try (with_reducible (exact absurd hc (by assumption)))); (try (with_reducible (exact absurd (by assumption) hc)))) | ((with_reducible show ACall _ _ _ _ _); (first | ((with_reducible (first | apply hsp4)) <;> (first | omega | assumption | exact rfl | ((simp (disch := first | omega | (simp only [yA, yB, yC, yD, yE] <;> omega) | fail) [go_sem, yF, yG, yH, *, -List.map_take, -List.map_drop, -List.map_append, -List.map_reverse]) <;> (first | done | omega | exact rfl)))))) | ((fail_if_success (with_reducible show ACall _ _ _ _ _)); (try ((with_reducible show _ ∨ _); first | exact .inl rfl | (refine .inr ⟨rfl, ?_, ?_⟩; (focus (repeat (first | exact trivial | refine ⟨.inl rfl, ?_⟩ | refine ⟨.inr rfl, ?_⟩))); (first | exact trivial | exact rfl))))))))))
    refine w_loop (fun fr B => ∃ j : Nat, j ≤ 4 ∧ (L.take j).all oct = true ∧ fr 22 = .int .i64 j ∧ fr 21 = .int .i64 4 ∧ fr 20 = .lst 4 (L.map .str) true ∧ fr 4 = .ptr 1 0 ∧ fr 2 = .ptr 0 0 ∧ fr 3 = .int .i64 0 ∧ B = [⟨.bool false :: z16.map byteC, false⟩, ⟨.bool false :: (a4 L j).map byteC, false⟩]) (fun fr _ => 4 - natOf (fr 22)) ?_ ?_
    · exact ⟨0, by omega, rfl, by (simp (disch := omega) [go_sem, *]) <;> (try omega), by (simp (disch := omega) [go_sem, *]) <;> (try omega), by (simp (disch := omega) [go_sem, *]) <;> (try omega), by (simp (disch := omega) [go_sem, *]) <;> (try omega), by (simp (disch := omega) [go_sem, *]) <;> (try omega), by (simp (disch := omega) [go_sem, *]) <;> (try omega), rfl⟩
    rintro fr B ⟨j, hj, hall, h11, h10, h9, h4, h2, h3, rfl⟩
    have hal := a4_len hL hj
    by_cases hc : j < 4
    · have hset := a4_set hL hc
      have hx : (L.map CV.str).drop j = .str (L[j]'(by omega)) :: (L.map CV.str).drop (j + 1) := by
        rw [List.drop_eq_getElem_cons (by simp; omega)]; simp
      have hxl := hm4 (L[j]'(by omega)) (List.getElem_mem _)
      have hnall : (L.take (j + 1)).all oct = oct (L[j]'(by omega)) := by rw [List.take_succ_eq_append_getElem (by omega), List.all_append, hall]; simp
      have hno : oct (L[j]'(by omega)) = false → p4 L = none := fun h => by
        have : L.all oct = false := by
          rw [List.all_eq_false]
          exact ⟨_, List.getElem_mem (show j < L.length by omega), by simp [h]⟩
        simp [p4, this]
      have hnum : ∀ {B : List Box}, ACall Tryz.prog 43 [.str (L[j]'(by omega)), .int .i64 255] B fun c B' => c = .tup [.int .i64 (decR 10 (L[j]'(by omega))), .bool (oct (L[j]'(by omega)))] ∧ B' = B := by
        intro B
        have := @decimal_at B (L[j]'(by omega)) 255 (by omega)
        rwa [oct_eq] at this
      generalize (L[j]'(by omega)) = x at *
      cases ho : oct x with
      | false =>
        rw [hno ho]
        rw [ho] at hnum
        clear hset hno hnall ho
        generalize decR 10 x = v at *
        repeat' (first | (with_reducible (first | apply w_seq | apply w_region | apply w_block | apply w_skip | apply w_exit | apply w_ret | apply w_then | apply w_then_exit | apply w_then_ret | apply w_in | apply w_in_here | apply w_in_ret | apply w_round | apply o_nil | apply d_nil)) | ((with_reducible (first | apply w_in_exit)); rfl) | ((with_reducible (first | apply w_draw)); rfl) | ((first | ((with_reducible (first | apply o_op | apply d_op | apply q_op)); rfl; rfl) | ((with_reducible (first | apply w_cond | apply w_end | apply w_return))) | ((with_reducible (first | apply o_guard | apply d_guard | apply q_guard)); rfl) | ((with_reducible (first | apply o_call_eq | apply d_call | apply q_call)); rfl)); all_goals (first | ((with_reducible show Is _ _); ((try simp (disch := first | omega | (simp only [yA, yB, yC, yD, yE] <;> omega) | fail) [go_sem, yF, yG, yH, *, cons_get1, cons_take1, cons_drop1, if_pos, if_neg, -List.map_take, -List.map_drop, -List.map_append, -List.map_reverse]); exact rfl)) | ((fail_if_success (with_reducible show Is _ _)); (first | ((with_reducible refine fun (hc : (_ : Bool) = _) => ?_); (try simp only [xA, xB, xC, xD, xE, xF, xG, xH, reduceCtorEq, xI, xJ, xK, xL, xM, xN, xO, xP, xQ, xR] at hc); (try (have hx : True := hc; clear hx hc)); (try (exfalso; omega)); (try (with_reducible (exact absurd hc (by assumption)))); (try (with_reducible (exact absurd (by assumption) hc)))) | ((with_reducible show ACall _ _ _ _ _); (first | ((with_reducible (first | apply hnum)) <;> (first | omega | assumption | exact rfl | ((simp (disch := first | omega | (simp only [yA, yB, yC, yD, yE] <;> omega) | fail) [go_sem, yF, yG, yH, *, cons_get1, cons_take1, cons_drop1, -List.map_take, -List.map_drop, -List.map_append, -List.map_reverse]) <;> (first | done | omega | exact rfl)))))) | ((fail_if_success (with_reducible show ACall _ _ _ _ _)); (try ((with_reducible show _ ∨ _); first | exact .inl rfl | (refine .inr ⟨rfl, ?_, ?_⟩; (focus (repeat (first | exact trivial | refine ⟨.inl rfl, ?_⟩ | refine ⟨.inr rfl, ?_⟩))); (first | exact trivial | exact rfl))))))))))
        rfl
      | true =>
        have hb : decR 10 x ≤ 255 ∧ decV x = decR 10 x := by
          rw [← oct_eq, Bool.and_eq_true] at ho
          have h2 := of_decide_eq_true ho.2
          exact ⟨by omega, by rw [decR, if_pos ho.1]⟩
        rw [ho] at hnall hnum
        have hby := byte_nat (decR 10 x) (by omega)
        rw [hb.2] at hset
        have hb2 := hb.1
        clear hb ho hno
        generalize decR 10 x = v at *
        generalize UInt8.ofNat v = y at *
        repeat' (first | (with_reducible (first | apply w_seq | apply w_region | apply w_block | apply w_skip | apply w_exit | apply w_ret | apply w_then | apply w_then_exit | apply w_then_ret | apply w_in | apply w_in_here | apply w_in_ret | apply w_round | apply o_nil | apply d_nil)) | ((with_reducible (first | apply w_in_exit)); rfl) | ((with_reducible (first | apply w_draw)); rfl) | ((first | ((with_reducible (first | apply o_op | apply d_op | apply q_op)); rfl; rfl) | ((with_reducible (first | apply w_cond | apply w_end | apply w_return))) | ((with_reducible (first | apply o_guard | apply d_guard | apply q_guard)); rfl) | ((with_reducible (first | apply o_call_eq | apply d_call | apply q_call)); rfl)); all_goals (first | ((with_reducible show Is _ _); ((try simp (disch := first | omega | (simp only [yA, yB, yC, yD, yE] <;> omega) | fail) [go_sem, yF, yG, yH, *, cons_get1, cons_take1, cons_drop1, if_pos, if_neg, -List.map_take, -List.map_drop, -List.map_append, -List.map_reverse]); exact rfl)) | ((fail_if_success (with_reducible show Is _ _)); (first | ((with_reducible refine fun (hc : (_ : Bool) = _) => ?_); (try simp only [xA, xB, xC, xD, xE, xF, xG, xH, reduceCtorEq, xI, xJ, xK, xL, xM, xN, xO, xP, xQ, xR] at hc); (try (have hx : True := hc; clear hx hc)); (try (exfalso; omega)); (try (with_reducible (exact absurd hc (by assumption)))); (try (with_reducible (exact absurd (by assumption) hc)))) | ((with_reducible show ACall _ _ _ _ _); (first | ((with_reducible (first | apply hnum)) <;> (first | omega | assumption | exact rfl | ((simp (disch := first | omega | (simp only [yA, yB, yC, yD, yE] <;> omega) | fail) [go_sem, yF, yG, yH, *, cons_get1, cons_take1, cons_drop1, -List.map_take, -List.map_drop, -List.map_append, -List.map_reverse]) <;> (first | done | omega | exact rfl)))))) | ((fail_if_success (with_reducible show ACall _ _ _ _ _)); (try ((with_reducible show _ ∨ _); first | exact .inl rfl | (refine .inr ⟨rfl, ?_, ?_⟩; (focus (repeat (first | exact trivial | refine ⟨.inl rfl, ?_⟩ | refine ⟨.inr rfl, ?_⟩))); (first | exact trivial | exact rfl))))))))))
        refine ⟨⟨j + 1, by omega, hnall, by (simp (disch := omega) [go_sem, *]) <;> (try omega), by (simp (disch := omega) [go_sem, *]) <;> (try omega), by (simp (disch := omega) [go_sem, *]) <;> (try omega), by (simp (disch := omega) [go_sem, *]) <;> (try omega), by (simp (disch := omega) [go_sem, *]) <;> (try omega), by (simp (disch := omega) [go_sem, *]) <;> (try omega), ?_⟩, by (simp (disch := omega) [go_sem, *]) <;> (try omega)⟩
        rw [← hset, List.set_eq_take_append_cons_drop, if_pos (by omega), List.map_append, List.map_cons, hby, Nat.add_comm 1 j]
    · obtain rfl : j = 4 := by omega
      have hp : p4 L = some (false, a4 L 4) := by rw [List.take_of_length_le (by omega)] at hall; simp [p4, hall]
      rw [hp]
      repeat' (first | (with_reducible (first | apply w_seq | apply w_region | apply w_block | apply w_skip | apply w_exit | apply w_ret | apply w_then | apply w_then_exit | apply w_then_ret | apply w_in | apply w_in_here | apply w_in_ret | apply w_round | apply o_nil | apply d_nil)) | ((with_reducible (first | apply w_in_exit)); rfl) | ((with_reducible (first | apply w_draw)); rfl) | ((first | ((with_reducible (first | apply o_op | apply d_op | apply q_op)); rfl; rfl) | ((with_reducible (first | apply w_cond | apply w_end | apply w_return))) | ((with_reducible (first | apply o_guard | apply d_guard | apply q_guard)); rfl)); all_goals (first | ((with_reducible show Is _ _); ((try simp (disch := first | omega | (simp only [yA, yB, yC, yD, yE] <;> omega) | fail) [go_sem, yF, yG, yH, *, if_pos, if_neg, -List.map_take, -List.map_drop, -List.map_append, -List.map_reverse]); exact rfl)) | ((fail_if_success (with_reducible show Is _ _)); (first | ((with_reducible refine fun (hc : (_ : Bool) = _) => ?_); (try simp only [xA, xB, xC, xD, xE, xF, xG, xH, reduceCtorEq, xI, xJ, xK, xL, xM, xN, xO, xP, xQ, xR] at hc); (try (have hx : True := hc; clear hx hc)); (try (exfalso; omega)); (try (with_reducible (exact absurd hc (by assumption)))); (try (with_reducible (exact absurd (by assumption) hc)))) | ((fail_if_success (with_reducible show ACall _ _ _ _ _)); (try ((with_reducible show _ ∨ _); first | exact .inl rfl | (refine .inr ⟨rfl, ?_, ?_⟩; (focus (repeat (first | exact trivial | refine ⟨.inl rfl, ?_⟩ | refine ⟨.inr rfl, ?_⟩))); (first | exact trivial | exact rfl))))))))))
      (simp (disch := omega) [go_sem, *, rA, addrC]) <;> (try omega)
  by_cases hL6 : (splitL 58 s).length = 8
  · have hp : parseA s = p6 (splitL 58 s) := by rw [parseA, if_neg hL, if_pos hL6]
    rw [hp]
    rw [hL6] at hsp6
    generalize splitL 58 s = L at *
    clear hp hm4
    repeat' (first | (with_reducible (first | apply w_seq | apply w_region | apply w_block | apply w_skip | apply w_exit | apply w_ret | apply w_then | apply w_then_exit | apply w_then_ret | apply w_in | apply w_in_here | apply w_in_ret | apply w_round | apply o_nil | apply d_nil)) | ((with_reducible (first | apply w_in_exit)); rfl) | ((with_reducible (first | apply w_draw)); rfl) | ((first | ((with_reducible (first | apply o_op | apply d_op | apply q_op)); rfl; rfl) | ((with_reducible (first | apply w_cond | apply w_end | apply w_return))) | ((with_reducible (first | apply o_guard | apply d_guard | apply q_guard)); rfl) | ((with_reducible (first | apply o_call_eq | apply d_call | apply q_call)); rfl)); all_goals (first | ((with_reducible show Is _ _); ((try simp (disch := first | omega | (simp only [yA, yB, yC, yD, yE] <;> omega) | fail) [go_sem, yF, yG, yH, *, if_pos, if_neg, -List.map_take, -List.map_drop, -List.map_append, -List.map_reverse]); exact rfl)) | ((fail_if_success (with_reducible show Is _ _)); (first | ((with_reducible refine fun (hc : (_ : Bool) = _) => ?_); (try simp only [xA, xB, xC, xD, xE, xF, xG, xH, reduceCtorEq, xI, xJ, xK, xL, xM, xN, xO, xP, xQ, xR] at hc); (try (have hx : True := hc; clear hx hc)); (try (exfalso; omega)); (try (with_reducible (exact absurd hc (by assumption)))); (try (with_reducible (exact absurd (by assumption) hc)))) | ((with_reducible show ACall _ _ _ _ _); (first | ((with_reducible (first | apply hsp4)) <;> (first | omega | assumption | exact rfl | ((simp (disch := first | omega | (simp only [yA, yB, yC, yD, yE] <;> omega) | fail) [go_sem, yF, yG, yH, *, -List.map_take, -List.map_drop, -List.map_append, -List.map_reverse]) <;> (first | done | omega | exact rfl)))) | ((with_reducible (first | apply hsp6)) <;> (first | omega | assumption | exact rfl | ((simp (disch := first | omega | (simp only [yA, yB, yC, yD, yE] <;> omega) | fail) [go_sem, yF, yG, yH, *, -List.map_take, -List.map_drop, -List.map_append, -List.map_reverse]) <;> (first | done | omega | exact rfl)))))) | ((fail_if_success (with_reducible show ACall _ _ _ _ _)); (try ((with_reducible show _ ∨ _); first | exact .inl rfl | (refine .inr ⟨rfl, ?_, ?_⟩; (focus (repeat (first | exact trivial | refine ⟨.inl rfl, ?_⟩ | refine ⟨.inr rfl, ?_⟩))); (first | exact trivial | exact rfl))))))))))
    clear hsp4 hsp6 hL
    refine w_loop (fun fr B => ∃ j : Nat, j ≤ 8 ∧ (L.take j).all hexOk = true ∧ fr 51 = .int .i64 j ∧ fr 50 = .int .i64 8 ∧ fr 49 = .lst 8 (L.map .str) true ∧ fr 4 = .ptr 1 0 ∧ fr 2 = .ptr 0 0 ∧ fr 3 = .int .i64 0 ∧ B = [⟨.bool false :: z16.map byteC, false⟩, ⟨.bool true :: (a6 L j).map byteC, false⟩]) (fun fr _ => 8 - natOf (fr 51)) ?_ ?_
    · exact ⟨0, by omega, rfl, by (simp (disch := omega) [go_sem, *]) <;> (try omega), by (simp (disch := omega) [go_sem, *]) <;> (try omega), by (simp (disch := omega) [go_sem, *]) <;> (try omega), by (simp (disch := omega) [go_sem, *]) <;> (try omega), by (simp (disch := omega) [go_sem, *]) <;> (try omega), by (simp (disch := omega) [go_sem, *]) <;> (try omega), rfl⟩
    rintro fr B ⟨j, hj, hall, h13, h12, h11, h4, h2, h3, rfl⟩
    have hal := a6_len hL6 hj
    by_cases hc : j < 8
    · have hset := a6_set hL6 hc
      have hx : (L.map CV.str).drop j = .str (L[j]'(by omega)) :: (L.map CV.str).drop (j + 1) := by
        rw [List.drop_eq_getElem_cons (by simp; omega)]; simp
      have hxl := hm6 (L[j]'(by omega)) (List.getElem_mem _)
      have hnall : (L.take (j + 1)).all hexOk = hexOk (L[j]'(by omega)) := by rw [List.take_succ_eq_append_getElem (by omega), List.all_append, hall]; simp
      have hno : hexOk (L[j]'(by omega)) = false → p6 L = none := fun h => by
        have : L.all hexOk = false := by
          rw [List.all_eq_false]
          exact ⟨_, List.getElem_mem (show j < L.length by omega), by simp [h]⟩
        simp [p6, this]
      have hnum : ∀ {B : List Box}, ACall Tryz.prog 65 [.str (L[j]'(by omega))] B fun c B' => c = .tup [.int .i64 (hexR (L[j]'(by omega))), .bool (hexOk (L[j]'(by omega)))] ∧ B' = B := hexadecimal_at (by omega)
      generalize (L[j]'(by omega)) = x at *
      cases ho : hexOk x with
      | false =>
        rw [hno ho]
        rw [ho] at hnum
        clear hset hno hnall ho
        generalize hexR x = v at *
        repeat' (first | (with_reducible (first | apply w_seq | apply w_region | apply w_block | apply w_skip | apply w_exit | apply w_ret | apply w_then | apply w_then_exit | apply w_then_ret | apply w_in | apply w_in_here | apply w_in_ret | apply w_round | apply o_nil | apply d_nil)) | ((with_reducible (first | apply w_in_exit)); rfl) | ((with_reducible (first | apply w_draw)); rfl) | ((first | ((with_reducible (first | apply o_op | apply d_op | apply q_op)); rfl; rfl) | ((with_reducible (first | apply w_cond | apply w_end | apply w_return))) | ((with_reducible (first | apply o_guard | apply d_guard | apply q_guard)); rfl) | ((with_reducible (first | apply o_call_eq | apply d_call | apply q_call)); rfl)); all_goals (first | ((with_reducible show Is _ _); ((try simp (disch := first | omega | (simp only [yA, yB, yC, yD, yE] <;> omega) | fail) [go_sem, yF, yG, yH, *, cons_get1, cons_take1, cons_drop1, if_pos, if_neg, -List.map_take, -List.map_drop, -List.map_append, -List.map_reverse]); exact rfl)) | ((fail_if_success (with_reducible show Is _ _)); (first | ((with_reducible refine fun (hc : (_ : Bool) = _) => ?_); (try simp only [xA, xB, xC, xD, xE, xF, xG, xH, reduceCtorEq, xI, xJ, xK, xL, xM, xN, xO, xP, xQ, xR] at hc); (try (have hx : True := hc; clear hx hc)); (try (exfalso; omega)); (try (with_reducible (exact absurd hc (by assumption)))); (try (with_reducible (exact absurd (by assumption) hc)))) | ((with_reducible show ACall _ _ _ _ _); (first | ((with_reducible (first | apply hnum)) <;> (first | omega | assumption | exact rfl | ((simp (disch := first | omega | (simp only [yA, yB, yC, yD, yE] <;> omega) | fail) [go_sem, yF, yG, yH, *, cons_get1, cons_take1, cons_drop1, -List.map_take, -List.map_drop, -List.map_append, -List.map_reverse]) <;> (first | done | omega | exact rfl)))))) | ((fail_if_success (with_reducible show ACall _ _ _ _ _)); (try ((with_reducible show _ ∨ _); first | exact .inl rfl | (refine .inr ⟨rfl, ?_, ?_⟩; (focus (repeat (first | exact trivial | refine ⟨.inl rfl, ?_⟩ | refine ⟨.inr rfl, ?_⟩))); (first | exact trivial | exact rfl))))))))))
        rfl
      | true =>
        have hb : hexR x ≤ 65535 ∧ hexV x = hexR x := by
          have hl : x.length ≤ 4 := by simp [hexOk] at ho; exact ho.1.2
          have := hex_bound (s := x) hl
          rw [List.take_length] at this
          rw [hexR, if_pos ho]
          exact ⟨this, rfl⟩
        rw [ho] at hnall hnum
        have hby1 := byte_nat (hexR x / 256) (by omega)
        have hby2 := byte_wrap (hexR x)
        rw [hb.2] at hset
        have hb2 := hb.1
        clear hb ho hno
        generalize hexR x = w at *
        replace hset : Hid _ := hset
        have h2i : (2 * (j : Int)).toNat = 2 * j := by omega
        repeat' (first | (with_reducible (first | apply w_seq | apply w_region | apply w_block | apply w_skip | apply w_exit | apply w_ret | apply w_then | apply w_then_exit | apply w_then_ret | apply w_in | apply w_in_here | apply w_in_ret | apply w_round | apply o_nil | apply d_nil)) | ((with_reducible (first | apply w_in_exit)); rfl) | ((with_reducible (first | apply w_draw)); rfl) | ((first | ((with_reducible (first | apply o_op | apply d_op | apply q_op)); rfl; rfl) | ((with_reducible (first | apply w_cond | apply w_end | apply w_return))) | ((with_reducible (first | apply o_guard | apply d_guard | apply q_guard)); rfl) | ((with_reducible (first | apply o_call_eq | apply d_call | apply q_call)); rfl)); all_goals (first | ((with_reducible show Is _ _); ((try simp (disch := first | omega | (simp only [yA, yB, yC, yD, yE] <;> omega) | fail) [go_sem, yF, yG, yH, *, cons_get1, cons_take1, cons_drop1, if_pos, if_neg, -List.map_take, -List.map_drop, -List.map_append, -List.map_reverse]); exact rfl)) | ((fail_if_success (with_reducible show Is _ _)); (first | ((with_reducible refine fun (hc : (_ : Bool) = _) => ?_); (try simp only [xA, xB, xC, xD, xE, xF, xG, xH, reduceCtorEq, xI, xJ, xK, xL, xM, xN, xO, xP, xQ, xR] at hc); (try (have hx : True := hc; clear hx hc)); (try (exfalso; omega)); (try (with_reducible (exact absurd hc (by assumption)))); (try (with_reducible (exact absurd (by assumption) hc)))) | ((with_reducible show ACall _ _ _ _ _); (first | ((with_reducible (first | apply hnum)) <;> (first | omega | assumption | exact rfl | ((simp (disch := first | omega | (simp only [yA, yB, yC, yD, yE] <;> omega) | fail) [go_sem, yF, yG, yH, *, cons_get1, cons_take1, cons_drop1, -List.map_take, -List.map_drop, -List.map_append, -List.map_reverse]) <;> (first | done | omega | exact rfl)))))) | ((fail_if_success (with_reducible show ACall _ _ _ _ _)); (try ((with_reducible show _ ∨ _); first | exact .inl rfl | (refine .inr ⟨rfl, ?_, ?_⟩; (focus (repeat (first | exact trivial | refine ⟨.inl rfl, ?_⟩ | refine ⟨.inr rfl, ?_⟩))); (first | exact trivial | exact rfl))))))))))
        refine ⟨⟨j + 1, by omega, hnall, by (simp (disch := omega) [go_sem, *]) <;> (try omega), by (simp (disch := omega) [go_sem, *]) <;> (try omega), by (simp (disch := omega) [go_sem, *]) <;> (try omega), by (simp (disch := omega) [go_sem, *]) <;> (try omega), by (simp (disch := omega) [go_sem, *]) <;> (try omega), by (simp (disch := omega) [go_sem, *]) <;> (try omega), ?_⟩, by (simp (disch := omega) [go_sem, *]) <;> (try omega)⟩
        rw [← (show _ = a6 L (j + 1) from hset), List.map_set, List.map_set, hby1, hby2]
        simp only [List.map_drop, List.map_take]
        rw [set2b (by simp; omega)]
        simp
    · obtain rfl : j = 8 := by omega
      have hp : p6 L = some (true, a6 L 8) := by rw [List.take_of_length_le (by omega)] at hall; simp [p6, hall]
      rw [hp]
      repeat' (first | (with_reducible (first | apply w_seq | apply w_region | apply w_block | apply w_skip | apply w_exit | apply w_ret | apply w_then | apply w_then_exit | apply w_then_ret | apply w_in | apply w_in_here | apply w_in_ret | apply w_round | apply o_nil | apply d_nil)) | ((with_reducible (first | apply w_in_exit)); rfl) | ((with_reducible (first | apply w_draw)); rfl) | ((first | ((with_reducible (first | apply o_op | apply d_op | apply q_op)); rfl; rfl) | ((with_reducible (first | apply w_cond | apply w_end | apply w_return))) | ((with_reducible (first | apply o_guard | apply d_guard | apply q_guard)); rfl)); all_goals (first | ((with_reducible show Is _ _); ((try simp (disch := first | omega | (simp only [yA, yB, yC, yD, yE] <;> omega) | fail) [go_sem, yF, yG, yH, *, if_pos, if_neg, -List.map_take, -List.map_drop, -List.map_append, -List.map_reverse]); exact rfl)) | ((fail_if_success (with_reducible show Is _ _)); (first | ((with_reducible refine fun (hc : (_ : Bool) = _) => ?_); (try simp only [xA, xB, xC, xD, xE, xF, xG, xH, reduceCtorEq, xI, xJ, xK, xL, xM, xN, xO, xP, xQ, xR] at hc); (try (have hx : True := hc; clear hx hc)); (try (exfalso; omega)); (try (with_reducible (exact absurd hc (by assumption)))); (try (with_reducible (exact absurd (by assumption) hc)))) | ((fail_if_success (with_reducible show ACall _ _ _ _ _)); (try ((with_reducible show _ ∨ _); first | exact .inl rfl | (refine .inr ⟨rfl, ?_, ?_⟩; (focus (repeat (first | exact trivial | refine ⟨.inl rfl, ?_⟩ | refine ⟨.inr rfl, ?_⟩))); (first | exact trivial | exact rfl))))))))))
      (simp (disch := omega) [go_sem, *, rA, addrC]) <;> (try omega)
  · have hp : parseA s = none := by rw [parseA, if_neg hL, if_neg hL6]
    rw [hp]
    clear hp hm4 hm6
    repeat' (first | (with_reducible (first | apply w_seq | apply w_region | apply w_block | apply w_skip | apply w_exit | apply w_ret | apply w_then | apply w_then_exit | apply w_then_ret | apply w_in | apply w_in_here | apply w_in_ret | apply w_round | apply o_nil | apply d_nil)) | ((with_reducible (first | apply w_in_exit)); rfl) | ((with_reducible (first | apply w_draw)); rfl) | ((first | ((with_reducible (first | apply o_op | apply d_op | apply q_op)); rfl; rfl) | ((with_reducible (first | apply w_cond | apply w_end | apply w_return))) | ((with_reducible (first | apply o_guard | apply d_guard | apply q_guard)); rfl) | ((with_reducible (first | apply o_call_eq | apply d_call | apply q_call)); rfl)); all_goals (first | ((with_reducible show Is _ _); ((try simp (disch := first | omega | (simp only [yA, yB, yC, yD, yE] <;> omega) | fail) [go_sem, yF, yG, yH, *, if_pos, if_neg, -List.map_take, -List.map_drop, -List.map_append, -List.map_reverse]); exact rfl)) | ((fail_if_success (with_reducible show Is _ _)); (first | ((with_reducible refine fun (hc : (_ : Bool) = _) => ?_); (try simp only [xA, xB, xC, xD, xE, xF, xG, xH, reduceCtorEq, xI, xJ, xK, xL, xM, xN, xO, xP, xQ, xR] at hc); (try (have hx : True := hc; clear hx hc)); (try (exfalso; omega)); (try (with_reducible (exact absurd hc (by assumption)))); (try (with_reducible (exact absurd (by assumption) hc)))) | ((with_reducible show ACall _ _ _ _ _); (first | ((with_reducible (first | apply hsp4)) <;> (first | omega | assumption | exact rfl | ((simp (disch := first | omega | (simp only [yA, yB, yC, yD, yE] <;> omega) | fail) [go_sem, yF, yG, yH, *, -List.map_take, -List.map_drop, -List.map_append, -List.map_reverse]) <;> (first | done | omega | exact rfl)))) | ((with_reducible (first | apply hsp6)) <;> (first | omega | assumption | exact rfl | ((simp (disch := first | omega | (simp only [yA, yB, yC, yD, yE] <;> omega) | fail) [go_sem, yF, yG, yH, *, -List.map_take, -List.map_drop, -List.map_append, -List.map_reverse]) <;> (first | done | omega | exact rfl)))))) | ((fail_if_success (with_reducible show ACall _ _ _ _ _)); (try ((with_reducible show _ ∨ _); first | exact .inl rfl | (refine .inr ⟨rfl, ?_, ?_⟩; (focus (repeat (first | exact trivial | refine ⟨.inl rfl, ?_⟩ | refine ⟨.inr rfl, ?_⟩))); (first | exact trivial | exact rfl))))))))))
    rfl
end Go.Proofs.YtdceppjoipoohaaGreatDoor
end
section
namespace Go.Proofs.YtdceppjoipoohaaGreatDoor
open Go Go.Sy
set_option linter.all false
set_option maxRecDepth 100000
set_option maxHeartbeats 4000000
theorem fmtA_len (six : Bool) (A : List UInt8) : (fmtA six A).length ≤ 40 := by
  rw [fmtA]
  split
  · split
    · have := join_le (t := [58]) (k := 4) (parts6 A 8) fun x hx => by
        simp only [parts6, List.mem_map, List.mem_range] at hx
        obtain ⟨i, _, rfl⟩ := hx
        exact hexT_len 3 _ (grp_lt A i)
      simpa [parts6] using this
    · have := join_le (t := [46]) (k := 3) (parts4 A 4) fun x hx => by
        simp only [parts4, List.mem_map, List.mem_range] at hx
        obtain ⟨i, _, rfl⟩ := hx
        have := (A.getD i 0).toNat_lt
        exact decDigits_len 2 _ (by omega)
      simp [parts4] at this ⊢
      omega
  · simp
def brk (six : Bool) (t : List UInt8) : List UInt8 := if six then 91 :: (t ++ [93]) else t
def fmtP (six : Bool) (A : List UInt8) (s : Int) : List UInt8 := if vld six A s then fmtA six A ++ 47 :: Go.Lib.decDigits s.toNat else []
theorem fmtP_in (six : Bool) (A : List UInt8) (p : Int) (hA : A.length = 16) (hp : -9223372036854775808 ≤ p ∧ p ≤ 9223372036854775807) : PC Tryz.prog true 17 [prefC six A p] (.str (fmtP six A p)) := by
  refine acall_intro mixed Tryz.func17 rfl ca17 (by kernel_rfl) (by rw [Tryz.ntmps17]; simp) ?_
  have hf : ∀ {B : List Box} {args : List CV}, Is (omap (Go.Sy.fz true false B 6) args) (some [addrC six A]) → ACall Tryz.prog 45 args B fun c B' => c = .str (fmtA six A) ∧ B' = B := fun h => fmtAddr_at h hA
  have hv : ∀ {B : List Box} {args : List CV}, Is (omap (Go.Sy.fz true false B 6) args) (some [prefC six A p]) → ACall Tryz.prog 44 args B fun c B' => c = .bool (vld six A p) ∧ B' = B := fun h => iValid_at h hA
  have hfl := fmtA_len six A
  cases hok : vld six A p with
  | true =>
    have hr := vld_range hok
    have e : fmtP six A p = fmtA six A ++ 47 :: Go.Lib.decDigits p.toNat := by rw [fmtP, if_pos hok]
    have hi : ∀ {B : List Box}, ACall Tryz.prog 27 [.int .i64 p] B fun c B' => c = .str (Go.Lib.decDigits p.toNat) ∧ B' = B := by
      intro B
      have := itoa_at (B := B) (n := p) hp
      rwa [Go.Lib.itoa, if_neg (by omega)] at this
    have hdl := decDigits_len 4 p.toNat (by omega)
    rw [e]
    rw [hok] at hv
    clear e hok
    generalize fmtA six A = t at *
    generalize Go.Lib.decDigits p.toNat = d at *
    repeat' (first | (with_reducible (first | apply w_seq | apply w_region | apply w_block | apply w_skip | apply w_exit | apply w_ret | apply w_then | apply w_then_exit | apply w_then_ret | apply w_in | apply w_in_here | apply w_in_ret | apply w_round | apply o_nil | apply d_nil)) | ((with_reducible (first | apply w_in_exit)); rfl) | ((with_reducible (first | apply w_draw)); rfl) | ((first | ((with_reducible (first | apply o_op | apply d_op | apply q_op)); rfl; rfl) | ((with_reducible (first | apply w_cond | apply w_end | apply w_return))) | ((with_reducible (first | apply o_guard | apply d_guard | apply q_guard)); rfl) | ((with_reducible (first | apply o_call_eq | apply d_call | apply q_call)); rfl)); all_goals (first | ((with_reducible show Is _ _); ((try simp (disch := first | omega | (simp only [yA, yB, yC, yD, yE] <;> omega) | fail) [go_sem, yF, yG, yH, *, prefC, if_pos, if_neg, -List.map_take, -List.map_drop, -List.map_append, -List.map_reverse]); exact rfl)) | ((fail_if_success (with_reducible show Is _ _)); (first | ((with_reducible refine fun (hc : (_ : Bool) = _) => ?_); (try simp only [xA, xB, xC, xD, xE, xF, xG, xH, reduceCtorEq, xI, xJ, xK, xL, xM, xN, xO, xP, xQ, xR] at hc); (try (have hx : True := hc; clear hx hc)); (try (exfalso; omega)); (try (with_reducible (exact absurd hc (by assumption)))); (try (with_reducible (exact absurd (by assumption) hc)))) | ((with_reducible show ACall _ _ _ _ _); (first | ((with_reducible (first | apply hf)) <;> (first | omega | assumption | exact rfl | ((simp (disch := first | omega | (simp only [yA, yB, yC, yD, yE] <;> omega) | fail) [go_sem, yF, yG, yH, *, prefC, -List.map_take, -List.map_drop, -List.map_append, -List.map_reverse]) <;> (first | done | omega | exact rfl)))) | ((with_reducible (first | apply hi)) <;> (first | omega | assumption | exact rfl | ((simp (disch := first | omega | (simp only [yA, yB, yC, yD, yE] <;> omega) | fail) [go_sem, yF, yG, yH, *, prefC, -List.map_take, -List.map_drop, -List.map_append, -List.map_reverse]) <;> (first | done | omega | exact rfl)))) | ((with_reducible (first | apply hv)) <;> (first | omega | assumption | exact rfl | ((simp (disch := first | omega | (simp only [yA, yB, yC, yD, yE] <;> omega) | fail) [go_sem, yF, yG, yH, *, prefC, -List.map_take, -List.map_drop, -List.map_append, -List.map_reverse]) <;> (first | done | omega | exact rfl)))))) | ((fail_if_success (with_reducible show ACall _ _ _ _ _)); (try ((with_reducible show _ ∨ _); first | exact .inl rfl | (refine .inr ⟨rfl, ?_, ?_⟩; (focus (repeat (first | exact trivial | refine ⟨.inl rfl, ?_⟩ | refine ⟨.inr rfl, ?_⟩))); (first | exact trivial | exact rfl))))))))))
    (simp (disch := omega) [go_sem, *, brk]) <;> (try omega)
  | false =>
    have e : fmtP six A p = [] := by rw [fmtP, hok]; rfl
    rw [e]
    rw [hok] at hv
    clear e
    repeat' (first | (with_reducible (first | apply w_seq | apply w_region | apply w_block | apply w_skip | apply w_exit | apply w_ret | apply w_then | apply w_then_exit | apply w_then_ret | apply w_in | apply w_in_here | apply w_in_ret | apply w_round | apply o_nil | apply d_nil)) | ((with_reducible (first | apply w_in_exit)); rfl) | ((with_reducible (first | apply w_draw)); rfl) | ((first | ((with_reducible (first | apply o_op | apply d_op | apply q_op)); rfl; rfl) | ((with_reducible (first | apply w_cond | apply w_end | apply w_return))) | ((with_reducible (first | apply o_guard | apply d_guard | apply q_guard)); rfl) | ((with_reducible (first | apply o_call_eq | apply d_call | apply q_call)); rfl)); all_goals (first | ((with_reducible show Is _ _); ((try simp (disch := first | omega | (simp only [yA, yB, yC, yD, yE] <;> omega) | fail) [go_sem, yF, yG, yH, *, prefC, if_pos, if_neg, -List.map_take, -List.map_drop, -List.map_append, -List.map_reverse]); exact rfl)) | ((fail_if_success (with_reducible show Is _ _)); (first | ((with_reducible refine fun (hc : (_ : Bool) = _) => ?_); (try simp only [xA, xB, xC, xD, xE, xF, xG, xH, reduceCtorEq, xI, xJ, xK, xL, xM, xN, xO, xP, xQ, xR] at hc); (try (have hx : True := hc; clear hx hc)); (try (exfalso; omega)); (try (with_reducible (exact absurd hc (by assumption)))); (try (with_reducible (exact absurd (by assumption) hc)))) | ((with_reducible show ACall _ _ _ _ _); (first | ((with_reducible (first | apply hv)) <;> (first | omega | assumption | exact rfl | ((simp (disch := first | omega | (simp only [yA, yB, yC, yD, yE] <;> omega) | fail) [go_sem, yF, yG, yH, *, prefC, -List.map_take, -List.map_drop, -List.map_append, -List.map_reverse]) <;> (first | done | omega | exact rfl)))))) | ((fail_if_success (with_reducible show ACall _ _ _ _ _)); (try ((with_reducible show _ ∨ _); first | exact .inl rfl | (refine .inr ⟨rfl, ?_, ?_⟩; (focus (repeat (first | exact trivial | refine ⟨.inl rfl, ?_⟩ | refine ⟨.inr rfl, ?_⟩))); (first | exact trivial | exact rfl))))))))))
    rfl
end Go.Proofs.YtdceppjoipoohaaGreatDoor
end
section
namespace Go.Proofs.YtdceppjoipoohaaGreatDoor
open Go Go.Sy
set_option linter.all false
set_option maxRecDepth 100000
set_option maxHeartbeats 4000000
theorem dec_eq (m lim : Nat) (h1 : 1 ≤ m) (hm : m ≤ 10) (hl : lim < 10 ^ m) (x : List UInt8) : (decOk 10 x && decide ((decR 10 x : Int) ≤ lim)) = (decOk m x && decide (decV x ≤ lim)) := by
  by_cases h : x.length ≤ m
  · have e : decOk 10 x = decOk m x := by
      have h10 : x.length ≤ 10 := by omega
      simp [decOk, headOk, h, h10]
    rw [← e]
    cases hd : decOk 10 x with
    | false => simp
    | true => simp [decR, hd]
  · have e3 : decOk m x = false := by simp [decOk, headOk, h]
    rw [e3, Bool.false_and, Bool.and_eq_false_iff]
    cases hd : decOk 10 x with
    | false => exact .inl rfl
    | true =>
      right
      rw [decR, if_pos hd]
      cases x with
      | nil => simp at h
      | cons c x =>
        simp only [decOk, Bool.and_eq_true, List.all_cons] at hd
        have hc : 48 ≤ c.toNat ∧ c.toNat ≤ 57 := by simpa [isDig] using hd.2.1
        have hne : c ≠ 48 ∨ x = [] := by
          by_cases hx : x = []
          · exact .inr hx
          left
          intro hc48
          have := hd.1
          simp [headOk, hc48] at this
          exact hx this.2
        simp at h
        have hp : 10 ^ m ≤ 10 ^ x.length := Nat.pow_le_pow_right (by decide) (by omega)
        have hge := foldl_ge x (10 * 0 + (c.toNat - 48))
        have hv : decV (c :: x) = x.foldl (fun n c => 10 * n + (c.toNat - 48)) (10 * 0 + (c.toNat - 48)) := rfl
        rw [hv]
        simp only [decide_eq_false_iff_not]
        rcases hne with hne | rfl
        · have hc1 : 49 ≤ c.toNat := by
            rcases Nat.lt_or_ge c.toNat 49 with h1 | h1
            · exact absurd (UInt8.toNat_inj.1 (by show c.toNat = 48; omega)) hne
            · exact h1
          have : 1 * 10 ^ x.length ≤ (10 * 0 + (c.toNat - 48)) * 10 ^ x.length := Nat.mul_le_mul_right _ (by omega)
          omega
        · simp at h
          omega
theorem pre_one (b : UInt8) (t : List UInt8) : [b].isPrefixOf t = (t.head? == some b) := by
  cases t with
  | nil => rfl
  | cons c t =>
    rw [Bool.eq_iff_iff]
    simp [List.isPrefixOf]
    exact eq_comm
theorem suf_one (b : UInt8) (t : List UInt8) : [b].isSuffixOf t = (t.getLast? == some b) := by
  rw [List.isSuffixOf, List.reverse_singleton, pre_one, List.head?_reverse]
def rE (o : Option (Bool × List UInt8 × Nat)) : CV := match o with | some (six, A, n) => .tup [prefC six A n, .int .i64 0] | none => .tup [prefC false z16 0, .int .i64 5]
theorem parse_at {B : List Box} {s : List UInt8} (hs : s.length < 1000000000) : ACall Tryz.prog 42 [.str s] B fun c B' => c = rA (parseA s) ∧ B' = B := acall_fresh (nz := false) rfl (parse_in s hs)
theorem parseA_len {s : List UInt8} {six : Bool} {A : List UInt8} (h : parseA s = some (six, A)) : A.length = 16 := by
  rw [parseA] at h
  split at h
  · exact p4_len (by assumption) h
  · split at h
    · exact p6_len (by assumption) h
    · cases h
end Go.Proofs.YtdceppjoipoohaaGreatDoor
end
section
namespace Go.Proofs.YtdceppjoipoohaaGreatDoor
open Go Go.Sy
set_option linter.all false
set_option maxRecDepth 100000
set_option maxHeartbeats 4000000
def endP (q : Option (Bool × List UInt8)) (y : List UInt8) : Option (Bool × List UInt8 × Nat) :=
  match q with
  | some (six, A) => if decOk 3 y = true ∧ vld six A (decV y) = true then some (six, A, decV y) else none
  | none => none
def twoP : List (List UInt8) → Option (Bool × List UInt8 × Nat)
  | [x, y] => endP (parseA x) y
  | _ => none
def parseP (s : List UInt8) : Option (Bool × List UInt8 × Nat) := twoP (splitL 47 s)
theorem splitL_has (b : UInt8) (s : List UInt8) (h : b ∉ s) : splitL b s = [s] := by
  induction s with
  | nil => rfl
  | cons c s ih =>
    rw [splitL, if_neg fun e => h (by simp [e]), ih fun e => h (by simp [e])]
theorem splitL_len (b : UInt8) : ∀ s : List UInt8, (splitL b s).length = s.count b + 1
  | [] => rfl
  | c :: s => by
    have ih := splitL_len b s
    rw [splitL, List.count_cons]
    split
    · rename_i hc; simp [hc, ih]
    · rename_i hc
      split
      · rename_i he; exact absurd he (splitL_ne b s)
      · rename_i x xs he
        rw [he] at ih
        simp [hc] at ih ⊢; omega
theorem decOk_no {m : Nat} {y : List UInt8} (h : (47 : UInt8) ∈ y) : decOk m y = false := by
  have : y.all isDig = false := by
    rw [List.all_eq_false]
    exact ⟨47, h, by decide⟩
  rw [decOk, this, Bool.and_false]
theorem parseP_cut (s : List UInt8) : parseP s = endP (parseA (Go.Lib.cut s [47]).1) (Go.Lib.cut s [47]).2.1 := by
  have hnil : ∀ q, endP q [] = none := by
    intro q
    rcases q with _ | ⟨six, A⟩
    · rfl
    · rw [endP, if_neg]; rintro ⟨h, _⟩; exact absurd h (by decide)
  rw [Go.Lib.cut]
  have hg := Go.Lib.index_ge s [47]
  by_cases hi : 0 ≤ Go.Lib.index s [47]
  · obtain ⟨i, hi2⟩ : ∃ i : Nat, Go.Lib.index s [47] = i := ⟨(Go.Lib.index s [47]).toNat, by omega⟩
    rw [if_pos hi, hi2]
    rw [parseP, splitL_hit 47 s i hi2]
    show _ = endP (parseA (s.take i)) (s.drop (i + 1))
    by_cases hm : (47 : UInt8) ∈ s.drop (i + 1)
    · have hn : splitL 47 (s.drop (i + 1)) ≠ [s.drop (i + 1)] := fun h => by
        have := congrArg List.length h
        have h2 := splitL_len 47 (s.drop (i + 1))
        rw [this] at h2
        have := List.count_pos_iff.2 hm
        simp at h2
        omega
      have e : endP (parseA (s.take i)) (s.drop (i + 1)) = none := by
        rcases parseA (s.take i) with _ | ⟨six, A⟩
        · rfl
        · rw [endP, if_neg]; rintro ⟨h, _⟩; rw [decOk_no hm] at h; cases h
      rw [e]
      have hl := splitL_len 47 (s.drop (i + 1))
      have := List.count_pos_iff.2 hm
      match hz : splitL 47 (s.drop (i + 1)) with
      | [] => rfl
      | [z] => rw [hz] at hl; simp at hl; omega
      | _ :: _ :: _ => rfl
    · rw [splitL_has 47 _ hm]; rfl
  · have h1 : Go.Lib.index s [47] = -1 := by omega
    rw [if_neg hi, parseP, splitL_miss 47 s h1, hnil]; rfl
theorem cut_le (s : List UInt8) : (Go.Lib.cut s [47]).1.length ≤ s.length ∧ (Go.Lib.cut s [47]).2.1.length ≤ s.length := by
  rw [Go.Lib.cut]
  split <;> simp <;> omega
end Go.Proofs.YtdceppjoipoohaaGreatDoor
end
section
namespace Go.Proofs.YtdceppjoipoohaaGreatDoor
open Go Go.Sy
set_option linter.all false
set_option maxRecDepth 100000
set_option maxHeartbeats 4000000
theorem splitL_cons {b c : UInt8} {s : List UInt8} {x : List UInt8} {xs : List (List UInt8)} (h : splitL b s = x :: xs) (hc : c ≠ b) : splitL b (c :: s) = (c :: x) :: xs := by rw [splitL, if_neg hc, h]
end Go.Proofs.YtdceppjoipoohaaGreatDoor
end
section
namespace Go.Proofs.YtdceppjoipoohaaGreatDoor
open Go Go.Sy
set_option linter.all false
set_option maxRecDepth 100000
set_option maxHeartbeats 4000000
theorem splitL_app (b : UInt8) (s : List UInt8) : ∀ x : List UInt8, b ∉ x → splitL b (x ++ b :: s) = x :: splitL b s
  | [], _ => by simp [splitL]
  | c :: x, h => by
    rw [List.cons_append]
    exact splitL_cons (splitL_app b s x fun e => h (by simp [e])) fun e => h (by simp [e])
end Go.Proofs.YtdceppjoipoohaaGreatDoor
end
section
namespace Go.Proofs.YtdceppjoipoohaaGreatDoor
open Go Go.Sy
set_option linter.all false
set_option maxRecDepth 100000
set_option maxHeartbeats 4000000
theorem index_app (b : UInt8) (y : List UInt8) : ∀ x : List UInt8, b ∉ x → Go.Lib.index (x ++ b :: y) [b] = x.length
  | [], _ => by rw [List.nil_append, index_one, if_pos rfl]; rfl
  | c :: x, h => by
    have ih := index_app b y x fun e => h (by simp [e])
    rw [List.cons_append, index_one, if_neg fun e => h (by simp [e]), ih, if_neg (by omega)]
    simp
theorem cut_app (b : UInt8) (x y : List UInt8) (h : b ∉ x) : Go.Lib.cut (x ++ b :: y) [b] = (x, y, true) := by
  rw [Go.Lib.cut, index_app b y x h, if_pos (by omega), Int.toNat_natCast]
  have h1 : (x ++ b :: y).take x.length = x := List.take_left
  have h2 : (x ++ b :: y).drop (x.length + [b].length) = y := by rw [← List.drop_drop, List.drop_left]; rfl
  rw [h1, h2]
theorem trimT_id {c d : UInt8} {m : List UInt8} (hc : blank c = false) (hd : blank d = false) : trimT (c :: (m ++ [d])) = c :: (m ++ [d]) := by
  rw [trimT, ← List.cons_append, trimR_snoc, hd, if_neg (by simp), List.cons_append, trimL_cons, hc, if_neg (by simp)]
theorem mk64_ok : ∀ j : Fin 64, mk64 j.1 ≠ 10 ∧ blank (mk64 j.1) = false := by decide
theorem text_mem {k : List UInt8} {c : UInt8} (h : c ∈ textS k) : c ≠ 10 ∧ blank c = false := by
  rw [textS] at h
  rcases List.mem_append.1 h with h | h
  · simp only [textP, List.mem_map, List.mem_range] at h
    obtain ⟨i, _, rfl⟩ := h
    exact mk64_ok ⟨sixP k i 6, six_lt k i⟩
  · rw [List.mem_singleton] at h
    subst h
    exact ⟨by decide, by decide⟩
theorem text_shape (k : List UInt8) : ∃ c m, textS k = c :: (m ++ [61]) ∧ blank c = false := by
  have hl := textP_len k 43
  have hm := @text_mem k
  rw [textS] at hm ⊢
  cases h : textP k 43 with
  | nil => rw [h] at hl; simp at hl
  | cons c m =>
    rw [h] at hm
    exact ⟨c, m, rfl, (hm (c := c) (by simp)).2⟩
def limT (k : List UInt8) (n : Nat) : List UInt8 := sIface ++ 10 :: (sPriv ++ 61 :: textS k ++ 10 :: (sPort ++ [61, 49] ++ 10 :: (35 :: List.replicate n 46)))
theorem limT_len (k : List UInt8) (n : Nat) : (limT k n).length = 82 + n := by
  have := textS_len k
  simp [limT, sIface, sPriv, sPort, this]; omega
theorem limT_split (k : List UInt8) (n : Nat) : splitL 10 (limT k n) = [sIface, sPriv ++ 61 :: textS k, sPort ++ [61, 49], 35 :: List.replicate n 46] := by
  have h1 : (10 : UInt8) ∉ sPriv ++ 61 :: textS k := fun h => by
    rcases List.mem_append.1 h with h | h
    · exact absurd h (by decide)
    · rcases List.mem_cons.1 h with h | h
      · exact absurd h (by decide)
      · exact (text_mem h).1 rfl
  have h2 : (10 : UInt8) ∉ (35 : UInt8) :: List.replicate n 46 := fun h => by
    rcases List.mem_cons.1 h with h | h
    · exact absurd h (by decide)
    · exact absurd (List.eq_of_mem_replicate h) (by decide)
  rw [limT, splitL_app 10 _ _ (by decide), splitL_app 10 _ _ h1, splitL_app 10 _ _ (by decide), splitL_has 10 _ h2]
theorem limT_suffix (k : List UInt8) {n : Nat} (hn : 0 < n) : Go.Lib.trimSuffix (limT k n) [10] = limT k n := by
  obtain ⟨m, rfl⟩ : ∃ m, n = m + 1 := ⟨n - 1, by omega⟩
  have : (limT k (m + 1)).getLast? = some 46 := by
    have : limT k (m + 1) = (sIface ++ 10 :: (sPriv ++ 61 :: textS k ++ 10 :: (sPort ++ [61, 49] ++ 10 :: (35 :: List.replicate m 46)))) ++ [46] := by
      simp [limT, List.replicate_succ']
    rw [this, List.getLast?_concat]
  rw [Go.Lib.trimSuffix, Go.Lib.hasSuffix, suf_one, this, if_neg (by decide)]
theorem limT_succ (k : List UInt8) (n : Nat) : limT k n ++ [46] = limT k (n + 1) := by
  simp [limT, List.replicate_succ']
theorem com_trim {n : Nat} (hn : 0 < n) : trimT (35 :: List.replicate n 46) = 35 :: List.replicate n 46 := by
  obtain ⟨m, rfl⟩ : ∃ m, n = m + 1 := ⟨n - 1, by omega⟩
  rw [List.replicate_succ']
  exact trimT_id (by decide) (by decide)
theorem key_trim (k : List UInt8) : trimT (sPriv ++ 61 :: textS k) = sPriv ++ 61 :: textS k := by
  obtain ⟨c, m, h, _⟩ := text_shape k
  have : sPriv ++ 61 :: textS k = 80 :: ([114, 105, 118, 97, 116, 101, 75, 101, 121, 61] ++ c :: m ++ [61]) := by rw [h]; simp [sPriv]
  rw [this]
  exact trimT_id (by decide) (by decide)
theorem text_trim (k : List UInt8) : trimT (textS k) = textS k := by
  obtain ⟨c, m, h, hc⟩ := text_shape k
  rw [h]
  exact trimT_id hc (by decide)
end Go.Proofs.YtdceppjoipoohaaGreatDoor
end
section
namespace Go.Proofs.YtdceppjoipoohaaGreatDoor
open Go Go.Sy
set_option linter.all false
set_option maxRecDepth 100000
set_option maxHeartbeats 4000000
theorem parseLim_in (k : List UInt8) (n : Nat) (hk : k.length = 32) (hn : 0 < n) (hm : n < 10000) : PC Tryz.prog false 12 [.str (limT k n)] (.tup [cfgC k 1 (.lst 0 [] false), .int .i64 0, .bool true]) := by
  have hl := limT_len k n
  have htl := textS_len k
  refine parse4_in (limT k n) sIface (sPriv ++ 61 :: textS k) (sPort ++ [61, 49]) (35 :: List.replicate n 46) (textS k) k [] hk (by omega) (fun h => by rw [h, List.length_nil] at hl; omega) (limT_suffix k hn) (limT_split k n) ?_ ?_ ?_ ?_
  · intro B m hB
    exact readI_at rfl hB rfl (by decide) (by decide +kernel)
  · intro B m hB
    have hs : (sPriv ++ 61 :: textS k).length = 55 := by simp [sPriv, htl]
    exact readK_at rfl hB rfl (by omega) (key_trim k) (by decide) (by rfl) (by rfl) (cut_app 61 sPriv (textS k) (by decide)) (text_trim k) (by omega) (by omega) (unkey_text hk) hk
  · intro B m γ mu hB hg hne
    have ht : trimT (sPort ++ [61, 49]) = sPort ++ [61, 49] := by decide +kernel
    have hd : decOk 10 [49] = true := by decide
    have := @readP_at B [.ptr 3 0, .str (sPort ++ [61, 49])] 3 (sPort ++ [61, 49]) k [105, 115, 116, 101, 110, 80, 111, 114, 116, 61, 49] [49] [49] 76 0 m γ mu rfl hB hg hne hk (by decide) ht (by decide) (by rfl) (by rfl) (cut_app 61 sPort [49] (by decide)) (by decide +kernel) (by decide) (by decide) hd (by decide)
    exact this
  · intro B
    exact readC_at rfl (by simp; omega) (com_trim hn)
theorem parseLim_at {B : List Box} {args : List CV} {k : List UInt8} {n : Nat} (hz : Is (omap (Go.Sy.fz true false [] 6) args) (some [.str (limT k n)])) (hk : k.length = 32) (hn : 0 < n) (hm : n < 10000) : ACall Tryz.prog 12 args B fun c B' => c = .tup [cfgC k 1 (.lst 0 [] false), .int .i64 0, .bool true] ∧ B' = B := acall_imm hz (parseLim_in k n hk hn hm)
theorem readLim_in (k : List UInt8) (n : Nat) (hk : k.length = 32) (hn : 0 < n) (hm : n + 82 ≤ 4000) : PC Tryz.prog false 6 [.str (limT k n)] (.tup [cfgC k 1 (.lst 0 [] false), .int .i64 0, .int .i64 0]) := by
  have hl := limT_len k n
  have hp : ∀ {B : List Box} {args : List CV}, Is (omap (Go.Sy.fz true false [] 6) args) (some [.str (limT k n)]) → ACall Tryz.prog 12 args B fun c B' => c = .tup [cfgC k 1 (.lst 0 [] false), .int .i64 0, .bool true] ∧ B' = B := fun h => parseLim_at h hk hn (by omega)
  have hv : ∀ {B : List Box} {args : List CV}, Is (omap (Go.Sy.fz true false B 6) args) (some [cfgC k 1 (.lst 0 [] false)]) → ACall Tryz.prog 13 args B fun c B' => c = .int .i64 0 ∧ B' = B := fun h => acall_fresh h (validate0_in k hk)
  rw [cfgC] at *
  generalize limT k n = s at *
  refine acall_intro mixed Tryz.func6 rfl ca6 (by kernel_rfl) (by rw [Tryz.ntmps6]; simp) ?_
  repeat' (first | (with_reducible (first | apply w_seq | apply w_region | apply w_block | apply w_skip | apply w_exit | apply w_ret | apply w_then | apply w_then_exit | apply w_then_ret | apply w_in | apply w_in_here | apply w_in_ret | apply w_round | apply o_nil | apply d_nil)) | ((with_reducible (first | apply w_in_exit)); rfl) | ((with_reducible (first | apply w_draw)); rfl) | ((first | ((with_reducible (first | apply o_op | apply d_op | apply q_op)); rfl; rfl) | ((with_reducible (first | apply w_cond | apply w_end | apply w_return))) | ((with_reducible (first | apply o_guard | apply d_guard | apply q_guard)); rfl) | ((with_reducible (first | apply o_call_eq | apply d_call | apply q_call)); rfl)); all_goals (first | ((with_reducible show Is _ _); ((try simp (disch := first | omega | (simp only [yA, yB, yC, yD, yE] <;> omega) | fail) [go_sem, yF, yG, yH, *, if_pos, if_neg, -List.map_take, -List.map_drop, -List.map_append, -List.map_reverse]); exact rfl)) | ((fail_if_success (with_reducible show Is _ _)); (first | ((with_reducible refine fun (hc : (_ : Bool) = _) => ?_); (try simp only [xA, xB, xC, xD, xE, xF, xG, xH, reduceCtorEq, xI, xJ, xK, xL, xM, xN, xO, xP, xQ, xR] at hc); (try (have hx : True := hc; clear hx hc)); (try (exfalso; omega)); (try (with_reducible (exact absurd hc (by assumption)))); (try (with_reducible (exact absurd (by assumption) hc)))) | ((with_reducible show ACall _ _ _ _ _); (first | ((with_reducible (first | apply hp)) <;> (first | omega | assumption | exact rfl | ((simp (disch := first | omega | (simp only [yA, yB, yC, yD, yE] <;> omega) | fail) [go_sem, yF, yG, yH, *, -List.map_take, -List.map_drop, -List.map_append, -List.map_reverse]) <;> (first | done | omega | exact rfl)))) | ((with_reducible (first | apply hv)) <;> (first | omega | assumption | exact rfl | ((simp (disch := first | omega | (simp only [yA, yB, yC, yD, yE] <;> omega) | fail) [go_sem, yF, yG, yH, *, -List.map_take, -List.map_drop, -List.map_append, -List.map_reverse]) <;> (first | done | omega | exact rfl)))))) | ((fail_if_success (with_reducible show ACall _ _ _ _ _)); (try ((with_reducible show _ ∨ _); first | exact .inl rfl | (refine .inr ⟨rfl, ?_, ?_⟩; (focus (repeat (first | exact trivial | refine ⟨.inl rfl, ?_⟩ | refine ⟨.inr rfl, ?_⟩))); (first | exact trivial | exact rfl))))))))))
  (simp (disch := omega) [go_sem, *]) <;> (try omega)
theorem readLong_in (s : List UInt8) (hm : 4000 < s.length) (hs : s.length < 1000000) : PC Tryz.prog false 6 [.str s] (.tup [cfgC z32 0 (.lst 0 [] false), .int .i64 0, .int .i64 3]) := by
  refine acall_intro mixed Tryz.func6 rfl ca6 (by kernel_rfl) (by rw [Tryz.ntmps6]; simp) ?_
  repeat' (first | (with_reducible (first | apply w_seq | apply w_region | apply w_block | apply w_skip | apply w_exit | apply w_ret | apply w_then | apply w_then_exit | apply w_then_ret | apply w_in | apply w_in_here | apply w_in_ret | apply w_round | apply o_nil | apply d_nil)) | ((with_reducible (first | apply w_in_exit)); rfl) | ((with_reducible (first | apply w_draw)); rfl) | ((first | ((with_reducible (first | apply o_op | apply d_op | apply q_op)); rfl; rfl) | ((with_reducible (first | apply w_cond | apply w_end | apply w_return))) | ((with_reducible (first | apply o_guard | apply d_guard | apply q_guard)); rfl)); all_goals (first | ((with_reducible show Is _ _); ((try simp (disch := first | omega | (simp only [yA, yB, yC, yD, yE] <;> omega) | fail) [go_sem, yF, yG, yH, *, if_pos, if_neg, -List.map_take, -List.map_drop, -List.map_append, -List.map_reverse]); exact rfl)) | ((fail_if_success (with_reducible show Is _ _)); (first | ((with_reducible refine fun (hc : (_ : Bool) = _) => ?_); (try simp only [xA, xB, xC, xD, xE, xF, xG, xH, reduceCtorEq, xI, xJ, xK, xL, xM, xN, xO, xP, xQ, xR] at hc); (try (have hx : True := hc; clear hx hc)); (try (exfalso; omega)); (try (with_reducible (exact absurd hc (by assumption)))); (try (with_reducible (exact absurd (by assumption) hc)))) | ((fail_if_success (with_reducible show ACall _ _ _ _ _)); (try ((with_reducible show _ ∨ _); first | exact .inl rfl | (refine .inr ⟨rfl, ?_, ?_⟩; (focus (repeat (first | exact trivial | refine ⟨.inl rfl, ?_⟩ | refine ⟨.inr rfl, ?_⟩))); (first | exact trivial | exact rfl))))))))))
  rfl
end Go.Proofs.YtdceppjoipoohaaGreatDoor
end
section
namespace Go.Proofs.YtdceppjoipoohaaGreatDoor
open Go Go.Sy
set_option linter.all false
set_option maxRecDepth 100000
set_option maxHeartbeats 4000000
theorem parseP_in (s : List UInt8) (hs : s.length < 1000000000) : PC Tryz.prog true 16 [.str s] (rE (parseP s)) := by
  refine acall_intro mixed Tryz.func16 rfl ca16 (by kernel_rfl) (by rw [Tryz.ntmps16]; simp) ?_
  have hcu : ∀ {B : List Box}, ACall Tryz.prog 41 [.str s, .str [47]] B fun c B' => c = .tup [.str (Go.Lib.cut s [47]).1, .str (Go.Lib.cut s [47]).2.1, .bool (Go.Lib.cut s [47]).2.2] ∧ B' = B := cutS_at (by omega)
  have hle := cut_le s
  rw [parseP_cut]
  generalize (Go.Lib.cut s [47]).1 = x at *
  generalize (Go.Lib.cut s [47]).2.1 = y at *
  generalize (Go.Lib.cut s [47]).2.2 = b at *
  have hxl := hle.1
  have hyl := hle.2
  clear hle
  have hde : ∀ {B : List Box}, ACall Tryz.prog 43 [.str y, .int .i64 128] B fun c B' => c = .tup [.int .i64 (decR 10 y), .bool (decOk 3 y && decide (decV y ≤ 128))] ∧ B' = B := by
    intro B
    have := @decimal_at B y 128 (by omega)
    rwa [show (128 : Int) = (128 : Nat) from rfl, dec_eq 3 128 (by decide) (by decide) (by decide)] at this
  have hpa : ∀ {B : List Box}, ACall Tryz.prog 42 [.str x] B fun c B' => c = rA (parseA x) ∧ B' = B := parse_at (by omega)
  have hpl := @parseA_len x
  have hv : decOk 3 y = true → decR 10 y = decV y := fun h => by
    have h10 : decOk 10 y = true := by
      simp only [decOk, headOk, Bool.and_eq_true, decide_eq_true_eq] at h ⊢
      exact ⟨⟨⟨h.1.1.1, by omega⟩, h.1.2⟩, h.2⟩
    rw [decR, if_pos h10]
  generalize parseA x = q at *
  generalize decR 10 y = v at *
  cases q with
  | none =>
    repeat' (first | (with_reducible (first | apply w_seq | apply w_region | apply w_block | apply w_skip | apply w_exit | apply w_ret | apply w_then | apply w_then_exit | apply w_then_ret | apply w_in | apply w_in_here | apply w_in_ret | apply w_round | apply o_nil | apply d_nil)) | ((with_reducible (first | apply w_in_exit)); rfl) | ((with_reducible (first | apply w_draw)); rfl) | ((first | ((with_reducible (first | apply o_op | apply d_op | apply q_op)); rfl; rfl) | ((with_reducible (first | apply w_cond | apply w_end | apply w_return))) | ((with_reducible (first | apply o_guard | apply d_guard | apply q_guard)); rfl) | ((with_reducible (first | apply o_call_eq | apply d_call | apply q_call)); rfl)); all_goals (first | ((with_reducible show Is _ _); ((try simp (disch := first | omega | (simp only [yA, yB, yC, yD, yE] <;> omega) | fail) [go_sem, yF, yG, yH, *, rA, addrC, if_pos, if_neg, -List.map_take, -List.map_drop, -List.map_append, -List.map_reverse]); exact rfl)) | ((fail_if_success (with_reducible show Is _ _)); (first | ((with_reducible refine fun (hc : (_ : Bool) = _) => ?_); (try simp only [xA, xB, xC, xD, xE, xF, xG, xH, reduceCtorEq, xI, xJ, xK, xL, xM, xN, xO, xP, xQ, xR] at hc); (try (have hx : True := hc; clear hx hc)); (try (exfalso; omega)); (try (with_reducible (exact absurd hc (by assumption)))); (try (with_reducible (exact absurd (by assumption) hc)))) | ((with_reducible show ACall _ _ _ _ _); (first | ((with_reducible (first | apply hcu)) <;> (first | omega | assumption | exact rfl | ((simp (disch := first | omega | (simp only [yA, yB, yC, yD, yE] <;> omega) | fail) [go_sem, yF, yG, yH, *, rA, addrC, -List.map_take, -List.map_drop, -List.map_append, -List.map_reverse]) <;> (first | done | omega | exact rfl)))) | ((with_reducible (first | apply hde)) <;> (first | omega | assumption | exact rfl | ((simp (disch := first | omega | (simp only [yA, yB, yC, yD, yE] <;> omega) | fail) [go_sem, yF, yG, yH, *, rA, addrC, -List.map_take, -List.map_drop, -List.map_append, -List.map_reverse]) <;> (first | done | omega | exact rfl)))) | ((with_reducible (first | apply hpa)) <;> (first | omega | assumption | exact rfl | ((simp (disch := first | omega | (simp only [yA, yB, yC, yD, yE] <;> omega) | fail) [go_sem, yF, yG, yH, *, rA, addrC, -List.map_take, -List.map_drop, -List.map_append, -List.map_reverse]) <;> (first | done | omega | exact rfl)))))) | ((fail_if_success (with_reducible show ACall _ _ _ _ _)); (try ((with_reducible show _ ∨ _); first | exact .inl rfl | (refine .inr ⟨rfl, ?_, ?_⟩; (focus (repeat (first | exact trivial | refine ⟨.inl rfl, ?_⟩ | refine ⟨.inr rfl, ?_⟩))); (first | exact trivial | exact rfl))))))))))
    rfl
  | some q =>
    obtain ⟨six, A⟩ := q
    have hA := hpl rfl
    clear hpl
    simp only [rA, addrC] at hpa
    cases hok : decOk 3 y && decide (decV y ≤ 128) with
    | false =>
      rw [hok] at hde
      have e : endP (some (six, A)) y = none := by
        rw [endP, if_neg]
        rintro ⟨h1, h2⟩
        have := vld_range h2
        rw [h1, Bool.true_and, decide_eq_false_iff_not] at hok
        omega
      rw [e]
      clear hok hv e
      repeat' (first | (with_reducible (first | apply w_seq | apply w_region | apply w_block | apply w_skip | apply w_exit | apply w_ret | apply w_then | apply w_then_exit | apply w_then_ret | apply w_in | apply w_in_here | apply w_in_ret | apply w_round | apply o_nil | apply d_nil)) | ((with_reducible (first | apply w_in_exit)); rfl) | ((with_reducible (first | apply w_draw)); rfl) | ((first | ((with_reducible (first | apply o_op | apply d_op | apply q_op)); rfl; rfl) | ((with_reducible (first | apply w_cond | apply w_end | apply w_return))) | ((with_reducible (first | apply o_guard | apply d_guard | apply q_guard)); rfl) | ((with_reducible (first | apply o_call_eq | apply d_call | apply q_call)); rfl)); all_goals (first | ((with_reducible show Is _ _); ((try simp (disch := first | omega | (simp only [yA, yB, yC, yD, yE] <;> omega) | fail) [go_sem, yF, yG, yH, *, if_pos, if_neg, -List.map_take, -List.map_drop, -List.map_append, -List.map_reverse]); exact rfl)) | ((fail_if_success (with_reducible show Is _ _)); (first | ((with_reducible refine fun (hc : (_ : Bool) = _) => ?_); (try simp only [xA, xB, xC, xD, xE, xF, xG, xH, reduceCtorEq, xI, xJ, xK, xL, xM, xN, xO, xP, xQ, xR] at hc); (try (have hx : True := hc; clear hx hc)); (try (exfalso; omega)); (try (with_reducible (exact absurd hc (by assumption)))); (try (with_reducible (exact absurd (by assumption) hc)))) | ((with_reducible show ACall _ _ _ _ _); (first | ((with_reducible (first | apply hcu)) <;> (first | omega | assumption | exact rfl | ((simp (disch := first | omega | (simp only [yA, yB, yC, yD, yE] <;> omega) | fail) [go_sem, yF, yG, yH, *, -List.map_take, -List.map_drop, -List.map_append, -List.map_reverse]) <;> (first | done | omega | exact rfl)))) | ((with_reducible (first | apply hde)) <;> (first | omega | assumption | exact rfl | ((simp (disch := first | omega | (simp only [yA, yB, yC, yD, yE] <;> omega) | fail) [go_sem, yF, yG, yH, *, -List.map_take, -List.map_drop, -List.map_append, -List.map_reverse]) <;> (first | done | omega | exact rfl)))) | ((with_reducible (first | apply hpa)) <;> (first | omega | assumption | exact rfl | ((simp (disch := first | omega | (simp only [yA, yB, yC, yD, yE] <;> omega) | fail) [go_sem, yF, yG, yH, *, -List.map_take, -List.map_drop, -List.map_append, -List.map_reverse]) <;> (first | done | omega | exact rfl)))))) | ((fail_if_success (with_reducible show ACall _ _ _ _ _)); (try ((with_reducible show _ ∨ _); first | exact .inl rfl | (refine .inr ⟨rfl, ?_, ?_⟩; (focus (repeat (first | exact trivial | refine ⟨.inl rfl, ?_⟩ | refine ⟨.inr rfl, ?_⟩))); (first | exact trivial | exact rfl))))))))))
      rfl
    | true =>
      rw [hok] at hde
      rw [Bool.and_eq_true, decide_eq_true_eq] at hok
      have hv := hv hok.1
      have hvl := hok.2
      have hva : ∀ {B : List Box} {args : List CV}, Is (omap (Go.Sy.fz true false B 6) args) (some [prefC six A v]) → ACall Tryz.prog 44 args B fun c B' => c = .bool (vld six A v) ∧ B' = B := fun h => iValid_at h hA
      rw [← hv] at hvl
      cases hd : vld six A v with
      | false =>
        have e : endP (some (six, A)) y = none := by
          rw [endP, if_neg]; rintro ⟨_, h2⟩; rw [← hv, hd] at h2; cases h2
        rw [e]
        rw [hd] at hva
        clear hok hv e hd
        repeat' (first | (with_reducible (first | apply w_seq | apply w_region | apply w_block | apply w_skip | apply w_exit | apply w_ret | apply w_then | apply w_then_exit | apply w_then_ret | apply w_in | apply w_in_here | apply w_in_ret | apply w_round | apply o_nil | apply d_nil)) | ((with_reducible (first | apply w_in_exit)); rfl) | ((with_reducible (first | apply w_draw)); rfl) | ((first | ((with_reducible (first | apply o_op | apply d_op | apply q_op)); rfl; rfl) | ((with_reducible (first | apply w_cond | apply w_end | apply w_return))) | ((with_reducible (first | apply o_guard | apply d_guard | apply q_guard)); rfl) | ((with_reducible (first | apply o_call_eq | apply d_call | apply q_call)); rfl)); all_goals (first | ((with_reducible show Is _ _); ((try simp (disch := first | omega | (simp only [yA, yB, yC, yD, yE] <;> omega) | fail) [go_sem, yF, yG, yH, *, prefC, if_pos, if_neg, -List.map_take, -List.map_drop, -List.map_append, -List.map_reverse]); exact rfl)) | ((fail_if_success (with_reducible show Is _ _)); (first | ((with_reducible refine fun (hc : (_ : Bool) = _) => ?_); (try simp only [xA, xB, xC, xD, xE, xF, xG, xH, reduceCtorEq, xI, xJ, xK, xL, xM, xN, xO, xP, xQ, xR] at hc); (try (have hx : True := hc; clear hx hc)); (try (exfalso; omega)); (try (with_reducible (exact absurd hc (by assumption)))); (try (with_reducible (exact absurd (by assumption) hc)))) | ((with_reducible show ACall _ _ _ _ _); (first | ((with_reducible (first | apply hcu)) <;> (first | omega | assumption | exact rfl | ((simp (disch := first | omega | (simp only [yA, yB, yC, yD, yE] <;> omega) | fail) [go_sem, yF, yG, yH, *, prefC, -List.map_take, -List.map_drop, -List.map_append, -List.map_reverse]) <;> (first | done | omega | exact rfl)))) | ((with_reducible (first | apply hde)) <;> (first | omega | assumption | exact rfl | ((simp (disch := first | omega | (simp only [yA, yB, yC, yD, yE] <;> omega) | fail) [go_sem, yF, yG, yH, *, prefC, -List.map_take, -List.map_drop, -List.map_append, -List.map_reverse]) <;> (first | done | omega | exact rfl)))) | ((with_reducible (first | apply hpa)) <;> (first | omega | assumption | exact rfl | ((simp (disch := first | omega | (simp only [yA, yB, yC, yD, yE] <;> omega) | fail) [go_sem, yF, yG, yH, *, prefC, -List.map_take, -List.map_drop, -List.map_append, -List.map_reverse]) <;> (first | done | omega | exact rfl)))) | ((with_reducible (first | apply hva)) <;> (first | omega | assumption | exact rfl | ((simp (disch := first | omega | (simp only [yA, yB, yC, yD, yE] <;> omega) | fail) [go_sem, yF, yG, yH, *, prefC, -List.map_take, -List.map_drop, -List.map_append, -List.map_reverse]) <;> (first | done | omega | exact rfl)))))) | ((fail_if_success (with_reducible show ACall _ _ _ _ _)); (try ((with_reducible show _ ∨ _); first | exact .inl rfl | (refine .inr ⟨rfl, ?_, ?_⟩; (focus (repeat (first | exact trivial | refine ⟨.inl rfl, ?_⟩ | refine ⟨.inr rfl, ?_⟩))); (first | exact trivial | exact rfl))))))))))
        rfl
      | true =>
        have e : endP (some (six, A)) y = some (six, A, v) := by
          rw [endP, if_pos ⟨hok.1, by rw [← hv, hd]⟩, hv]
        rw [e]
        rw [hd] at hva
        clear hok hv e hd
        repeat' (first | (with_reducible (first | apply w_seq | apply w_region | apply w_block | apply w_skip | apply w_exit | apply w_ret | apply w_then | apply w_then_exit | apply w_then_ret | apply w_in | apply w_in_here | apply w_in_ret | apply w_round | apply o_nil | apply d_nil)) | ((with_reducible (first | apply w_in_exit)); rfl) | ((with_reducible (first | apply w_draw)); rfl) | ((first | ((with_reducible (first | apply o_op | apply d_op | apply q_op)); rfl; rfl) | ((with_reducible (first | apply w_cond | apply w_end | apply w_return))) | ((with_reducible (first | apply o_guard | apply d_guard | apply q_guard)); rfl) | ((with_reducible (first | apply o_call_eq | apply d_call | apply q_call)); rfl)); all_goals (first | ((with_reducible show Is _ _); ((try simp (disch := first | omega | (simp only [yA, yB, yC, yD, yE] <;> omega) | fail) [go_sem, yF, yG, yH, *, prefC, if_pos, if_neg, -List.map_take, -List.map_drop, -List.map_append, -List.map_reverse]); exact rfl)) | ((fail_if_success (with_reducible show Is _ _)); (first | ((with_reducible refine fun (hc : (_ : Bool) = _) => ?_); (try simp only [xA, xB, xC, xD, xE, xF, xG, xH, reduceCtorEq, xI, xJ, xK, xL, xM, xN, xO, xP, xQ, xR] at hc); (try (have hx : True := hc; clear hx hc)); (try (exfalso; omega)); (try (with_reducible (exact absurd hc (by assumption)))); (try (with_reducible (exact absurd (by assumption) hc)))) | ((with_reducible show ACall _ _ _ _ _); (first | ((with_reducible (first | apply hcu)) <;> (first | omega | assumption | exact rfl | ((simp (disch := first | omega | (simp only [yA, yB, yC, yD, yE] <;> omega) | fail) [go_sem, yF, yG, yH, *, prefC, -List.map_take, -List.map_drop, -List.map_append, -List.map_reverse]) <;> (first | done | omega | exact rfl)))) | ((with_reducible (first | apply hde)) <;> (first | omega | assumption | exact rfl | ((simp (disch := first | omega | (simp only [yA, yB, yC, yD, yE] <;> omega) | fail) [go_sem, yF, yG, yH, *, prefC, -List.map_take, -List.map_drop, -List.map_append, -List.map_reverse]) <;> (first | done | omega | exact rfl)))) | ((with_reducible (first | apply hpa)) <;> (first | omega | assumption | exact rfl | ((simp (disch := first | omega | (simp only [yA, yB, yC, yD, yE] <;> omega) | fail) [go_sem, yF, yG, yH, *, prefC, -List.map_take, -List.map_drop, -List.map_append, -List.map_reverse]) <;> (first | done | omega | exact rfl)))) | ((with_reducible (first | apply hva)) <;> (first | omega | assumption | exact rfl | ((simp (disch := first | omega | (simp only [yA, yB, yC, yD, yE] <;> omega) | fail) [go_sem, yF, yG, yH, *, prefC, -List.map_take, -List.map_drop, -List.map_append, -List.map_reverse]) <;> (first | done | omega | exact rfl)))))) | ((fail_if_success (with_reducible show ACall _ _ _ _ _)); (try ((with_reducible show _ ∨ _); first | exact .inl rfl | (refine .inr ⟨rfl, ?_, ?_⟩; (focus (repeat (first | exact trivial | refine ⟨.inl rfl, ?_⟩ | refine ⟨.inr rfl, ?_⟩))); (first | exact trivial | exact rfl))))))))))
        (simp (disch := omega) [go_sem, *, rE, prefC]) <;> (try omega)
end Go.Proofs.YtdceppjoipoohaaGreatDoor
end
section
namespace Go.Proofs.YtdceppjoipoohaaGreatDoor
open Go Go.Sy
set_option linter.all false
set_option maxRecDepth 100000
set_option maxHeartbeats 4000000
theorem parseP_at {B : List Box} {s : List UInt8} (hs : s.length < 1000000000) : ACall Tryz.prog 16 [.str s] B fun c B' => c = rE (parseP s) ∧ B' = B := acall_fresh (nz := false) rfl (parseP_in s hs)
theorem fmtP_at {B : List Box} {args : List CV} {six : Bool} {A : List UInt8} {p : Int} (hz : Is (omap (Go.Sy.fz true false B 6) args) (some [prefC six A p])) (hA : A.length = 16) (hp : -9223372036854775808 ≤ p ∧ p ≤ 9223372036854775807) : ACall Tryz.prog 17 args B fun c B' => c = .str (fmtP six A p) ∧ B' = B := acall_fresh hz (fmtP_in six A p hA hp)
def host00 : List UInt8 := [10, 0, 0, 0] ++ z12
theorem host_in : PC Tryz.prog true 15 [.int .i64 0, .int .i64 0] (addrC false host00) := by
  refine acall_intro mixed Tryz.func15 rfl ca15 (by kernel_rfl) (by rw [Tryz.ntmps15]; simp) ?_
  repeat' (first | (with_reducible (first | apply w_seq | apply w_region | apply w_block | apply w_skip | apply w_exit | apply w_ret | apply w_then | apply w_then_exit | apply w_then_ret | apply w_in | apply w_in_here | apply w_in_ret | apply w_round | apply o_nil | apply d_nil)) | ((with_reducible (first | apply w_in_exit)); rfl) | ((with_reducible (first | apply w_draw)); rfl) | ((first | ((with_reducible (first | apply o_op | apply d_op | apply q_op)); rfl; rfl) | ((with_reducible (first | apply w_cond | apply w_end | apply w_return))) | ((with_reducible (first | apply o_guard | apply d_guard | apply q_guard)); rfl)); all_goals (first | ((with_reducible show Is _ _); ((try simp (disch := first | omega | (simp only [yA, yB, yC, yD, yE] <;> omega) | fail) [go_sem, yF, yG, yH, *, host00, z12, addrC, byteC, if_pos, if_neg, -List.map_take, -List.map_drop, -List.map_append, -List.map_reverse]); exact rfl)) | ((fail_if_success (with_reducible show Is _ _)); (first | ((with_reducible refine fun (hc : (_ : Bool) = _) => ?_); (try simp only [xA, xB, xC, xD, xE, xF, xG, xH, reduceCtorEq, xI, xJ, xK, xL, xM, xN, xO, xP, xQ, xR] at hc); (try (have hx : True := hc; clear hx hc)); (try (exfalso; omega)); (try (with_reducible (exact absurd hc (by assumption)))); (try (with_reducible (exact absurd (by assumption) hc)))) | ((fail_if_success (with_reducible show ACall _ _ _ _ _)); (try ((with_reducible show _ ∨ _); first | exact .inl rfl | (refine .inr ⟨rfl, ?_, ?_⟩; (focus (repeat (first | exact trivial | refine ⟨.inl rfl, ?_⟩ | refine ⟨.inr rfl, ?_⟩))); (first | exact trivial | exact rfl))))))))))
  rfl
theorem fmt_ten : fmtP false (cutL host00 8) 8 = [49, 48, 46, 48, 46, 48, 46, 48, 47, 56] := by
  have e : cutL host00 8 = host00 := by decide +kernel
  have hv : vld false host00 8 = true := by decide +kernel
  rw [e, fmtP, if_pos hv, fmtA, if_pos (by decide +kernel)]
  simp only [parts4, show List.range 4 = [0, 1, 2, 3] from rfl, List.map_cons, List.map_nil, Go.Lib.join_cons, Go.Lib.joinTail]
  have h0 : Go.Lib.decDigits 0 = [48] := by rw [Go.Lib.decDigits]; rfl
  have h8 : Go.Lib.decDigits 8 = [56] := by rw [Go.Lib.decDigits]; rfl
  have h1 : Go.Lib.decDigits 1 = [49] := by rw [Go.Lib.decDigits]; rfl
  have h10 : Go.Lib.decDigits 10 = [49, 48] := by rw [Go.Lib.decDigits, dif_neg (by decide), show 10 / 10 = 1 from rfl, h1]; rfl
  have e1 : (host00.getD 0 0).toNat = 10 := rfl
  have e2 : (host00.getD 1 0).toNat = 0 := rfl
  have e3 : (host00.getD 2 0).toNat = 0 := rfl
  have e4 : (host00.getD 3 0).toNat = 0 := rfl
  rw [e1, e2, e3, e4, h10, h0, show (8 : Int).toNat = 8 from rfl, h8]
  rfl
theorem read_ten : parseP [49, 48, 46, 48, 46, 48, 46, 49, 47, 56] = none := by decide +kernel
theorem begun_in : PC Tryz.prog true 7 [] (.bool true) := by
  have h1 : ∀ {B : List Box} {args : List CV}, Is (omap (Go.Sy.fz true false B 6) args) (some [.int .i64 0, .int .i64 0]) → ACall Tryz.prog 15 args B fun c B' => c = addrC false host00 ∧ B' = B := fun h => acall_fresh h host_in
  have h2 : ∀ {B : List Box} {args : List CV}, Is (omap (Go.Sy.fz true false B 6) args) (some [addrC false host00, .int .i64 8]) → ACall Tryz.prog 14 args B fun c B' => c = prefC false (cutL host00 8) 8 ∧ B' = B := fun h => masked_at (s := 8) h rfl rfl (by decide)
  have hcl : (cutL host00 8).length = 16 := cutL_len _ _
  have h3 : ∀ {B : List Box} {args : List CV}, Is (omap (Go.Sy.fz true false B 6) args) (some [prefC false (cutL host00 8) 8]) → ACall Tryz.prog 17 args B fun c B' => c = .str [49, 48, 46, 48, 46, 48, 46, 48, 47, 56] ∧ B' = B := fun h => by
    rw [← fmt_ten]
    exact fmtP_at h hcl (by decide)
  have h4 : ∀ {B : List Box}, ACall Tryz.prog 16 [.str [49, 48, 46, 48, 46, 48, 46, 49, 47, 56]] B fun c B' => c = .tup [prefC false z16 0, .int .i64 5] ∧ B' = B := by
    intro B
    have := @parseP_at B [49, 48, 46, 48, 46, 48, 46, 49, 47, 56] (by decide)
    rwa [read_ten] at this
  have hl : host00.length = 16 := rfl
  have hz : z16.length = 16 := rfl
  generalize cutL host00 8 = C at *
  generalize host00 = H at *
  generalize z16 = Z at *
  refine acall_intro mixed Tryz.func7 rfl ca7 (by kernel_rfl) (by rw [Tryz.ntmps7]; simp) ?_
  repeat' (first | (with_reducible (first | apply w_seq | apply w_region | apply w_block | apply w_skip | apply w_exit | apply w_ret | apply w_then | apply w_then_exit | apply w_then_ret | apply w_in | apply w_in_here | apply w_in_ret | apply w_round | apply o_nil | apply d_nil)) | ((with_reducible (first | apply w_in_exit)); rfl) | ((with_reducible (first | apply w_draw)); rfl) | ((first | ((with_reducible (first | apply o_op | apply d_op | apply q_op)); rfl; rfl) | ((with_reducible (first | apply w_cond | apply w_end | apply w_return))) | ((with_reducible (first | apply o_guard | apply d_guard | apply q_guard)); rfl) | ((with_reducible (first | apply o_call_eq | apply d_call | apply q_call)); rfl)); all_goals (first | ((with_reducible show Is _ _); ((try simp (disch := first | omega | (simp only [yA, yB, yC, yD, yE] <;> omega) | fail) [go_sem, yF, yG, yH, *, prefC, addrC, if_pos, if_neg, -List.map_take, -List.map_drop, -List.map_append, -List.map_reverse]); exact rfl)) | ((fail_if_success (with_reducible show Is _ _)); (first | ((with_reducible refine fun (hc : (_ : Bool) = _) => ?_); (try simp only [xA, xB, xC, xD, xE, xF, xG, xH, reduceCtorEq, xI, xJ, xK, xL, xM, xN, xO, xP, xQ, xR] at hc); (try (have hx : True := hc; clear hx hc)); (try (exfalso; omega)); (try (with_reducible (exact absurd hc (by assumption)))); (try (with_reducible (exact absurd (by assumption) hc)))) | ((with_reducible show ACall _ _ _ _ _); (first | ((with_reducible (first | apply h1)) <;> (first | omega | assumption | exact rfl | ((simp (disch := first | omega | (simp only [yA, yB, yC, yD, yE] <;> omega) | fail) [go_sem, yF, yG, yH, *, prefC, addrC, -List.map_take, -List.map_drop, -List.map_append, -List.map_reverse]) <;> (first | done | omega | exact rfl)))) | ((with_reducible (first | apply h2)) <;> (first | omega | assumption | exact rfl | ((simp (disch := first | omega | (simp only [yA, yB, yC, yD, yE] <;> omega) | fail) [go_sem, yF, yG, yH, *, prefC, addrC, -List.map_take, -List.map_drop, -List.map_append, -List.map_reverse]) <;> (first | done | omega | exact rfl)))) | ((with_reducible (first | apply h3)) <;> (first | omega | assumption | exact rfl | ((simp (disch := first | omega | (simp only [yA, yB, yC, yD, yE] <;> omega) | fail) [go_sem, yF, yG, yH, *, prefC, addrC, -List.map_take, -List.map_drop, -List.map_append, -List.map_reverse]) <;> (first | done | omega | exact rfl)))) | ((with_reducible (first | apply h4)) <;> (first | omega | assumption | exact rfl | ((simp (disch := first | omega | (simp only [yA, yB, yC, yD, yE] <;> omega) | fail) [go_sem, yF, yG, yH, *, prefC, addrC, -List.map_take, -List.map_drop, -List.map_append, -List.map_reverse]) <;> (first | done | omega | exact rfl)))))) | ((fail_if_success (with_reducible show ACall _ _ _ _ _)); (try ((with_reducible show _ ∨ _); first | exact .inl rfl | (refine .inr ⟨rfl, ?_, ?_⟩; (focus (repeat (first | exact trivial | refine ⟨.inl rfl, ?_⟩ | refine ⟨.inr rfl, ?_⟩))); (first | exact trivial | exact rfl))))))))))
  all_goals rfl
theorem begun_at {B : List Box} {args : List CV} (hz : Is (omap (Go.Sy.fz true false B 6) args) (some [])) : ACall Tryz.prog 7 args B fun c B' => c = .bool true ∧ B' = B := acall_fresh hz begun_in
end Go.Proofs.YtdceppjoipoohaaGreatDoor
end
section
namespace Go.Proofs.YtdceppjoipoohaaGreatDoor
open Go Go.Sy
set_option linter.all false
set_option maxRecDepth 100000
set_option maxHeartbeats 4000000
theorem ConfigLimits_in (k : List UInt8) (more : UInt8) (hk : k.length = 32) : PC Tryz.prog true 3 [.agg (k.map byteC), byteC more] (.bool true) := by
  have htl := textS_len k
  have htx : ∀ {B : List Box} {args : List CV}, Is (omap (Go.Sy.fz true false B 6) args) (some [.agg (k.map byteC)]) → ACall Tryz.prog 5 args B fun c B' => c = .str (textS k) ∧ B' = B := fun h => rtext_at h hk
  have hbg : ∀ {B : List Box} {args : List CV}, Is (omap (Go.Sy.fz true false B 6) args) (some []) → ACall Tryz.prog 7 args B fun c B' => c = .bool true ∧ B' = B := fun h => begun_at h
  obtain ⟨q, hq, hq5⟩ : ∃ q : Nat, more.toNat % 5 = q ∧ q < 5 := ⟨_, rfl, Nat.mod_lt _ (by decide)⟩
  have hq1 : ((more.toNat : Int)) % 5 = (q : Int) := by omega
  have hq2 : ((more.toNat : Int)).tmod 5 = (q : Int) := by rw [← hq]; rfl
  have hbase : [91, 73, 110, 116, 101, 114, 102, 97, 99, 101, 93, 10, 80, 114, 105, 118, 97, 116, 101, 75, 101, 121, 61] ++ (textS k ++ [10, 76, 105, 115, 116, 101, 110, 80, 111, 114, 116, 61, 49, 10, 35]) = limT k 0 := by
    simp [limT, sIface, sPriv, sPort]
  have hbase' : 91 :: 73 :: 110 :: 116 :: 101 :: 114 :: 102 :: 97 :: 99 :: 101 :: 93 :: 10 :: 80 :: 114 :: 105 :: 118 :: 97 :: 116 :: 101 :: 75 :: 101 :: 121 :: 61 :: (textS k ++ [10, 76, 105, 115, 116, 101, 110, 80, 111, 114, 116, 61, 49, 10, 35]) = limT k 0 := hbase
  refine acall_intro mixed Tryz.func3 rfl ca3 (by kernel_rfl) (by rw [Tryz.ntmps3]; simp) ?_
  repeat' (first | (with_reducible (first | apply w_seq | apply w_region | apply w_block | apply w_skip | apply w_exit | apply w_ret | apply w_then | apply w_then_exit | apply w_then_ret | apply w_in | apply w_in_here | apply w_in_ret | apply w_round | apply o_nil | apply d_nil)) | ((with_reducible (first | apply w_in_exit)); rfl) | ((with_reducible (first | apply w_draw)); rfl) | ((first | ((with_reducible (first | apply o_op | apply d_op | apply q_op)); rfl; rfl) | ((with_reducible (first | apply w_cond | apply w_end | apply w_return))) | ((with_reducible (first | apply o_guard | apply d_guard | apply q_guard)); rfl) | ((with_reducible (first | apply o_call_eq | apply d_call | apply q_call)); rfl)); all_goals (first | ((with_reducible show Is _ _); ((try simp (disch := first | omega | (simp only [yA, yB, yC, yD, yE] <;> omega) | fail) [go_sem, yF, yG, yH, *, if_pos, if_neg, -List.map_take, -List.map_drop, -List.map_append, -List.map_reverse]); exact rfl)) | ((fail_if_success (with_reducible show Is _ _)); (first | ((with_reducible refine fun (hc : (_ : Bool) = _) => ?_); (try simp only [xA, xB, xC, xD, xE, xF, xG, xH, reduceCtorEq, xI, xJ, xK, xL, xM, xN, xO, xP, xQ, xR] at hc); (try (have hx : True := hc; clear hx hc)); (try (exfalso; omega)); (try (with_reducible (exact absurd hc (by assumption)))); (try (with_reducible (exact absurd (by assumption) hc)))) | ((with_reducible show ACall _ _ _ _ _); (first | ((with_reducible (first | apply htx)) <;> (first | omega | assumption | exact rfl | ((simp (disch := first | omega | (simp only [yA, yB, yC, yD, yE] <;> omega) | fail) [go_sem, yF, yG, yH, *, -List.map_take, -List.map_drop, -List.map_append, -List.map_reverse]) <;> (first | done | omega | exact rfl)))))) | ((fail_if_success (with_reducible show ACall _ _ _ _ _)); (try ((with_reducible show _ ∨ _); first | exact .inl rfl | (refine .inr ⟨rfl, ?_, ?_⟩; (focus (repeat (first | exact trivial | refine ⟨.inl rfl, ?_⟩ | refine ⟨.inr rfl, ?_⟩))); (first | exact trivial | exact rfl))))))))))
  clear htx
  refine w_loop (fun fr B => ∃ n : Nat, n ≤ 3916 + q ∧ fr 5 = .str (limT k n) ∧ fr 1 = byteC more ∧ fr 2 = .ptr 0 0 ∧ B = [⟨k.map byteC, false⟩]) (fun fr _ => 5000 - strLen (fr 5)) ?_ ?_
  · exact ⟨0, by omega, by rw [← hbase]; (simp (disch := omega) [go_sem, *]) <;> (try omega), by (simp (disch := omega) [go_sem, *]) <;> (try omega), by (simp (disch := omega) [go_sem, *]) <;> (try omega), rfl⟩
  clear hbase hbase'
  rintro fr B ⟨n, hn, h5, h1, h2, rfl⟩
  have hl := limT_len k n
  have hm : strLen (fr 5) = 82 + n := by rw [h5, strLen, hl]
  by_cases hc : n < 3916 + q
  · have hs := limT_succ k n
    have hl2 := limT_len k (n + 1)
    generalize limT k n = s at *
    repeat' (first | (with_reducible (first | apply w_seq | apply w_region | apply w_block | apply w_skip | apply w_exit | apply w_ret | apply w_then | apply w_then_exit | apply w_then_ret | apply w_in | apply w_in_here | apply w_in_ret | apply w_round | apply o_nil | apply d_nil)) | ((with_reducible (first | apply w_in_exit)); rfl) | ((with_reducible (first | apply w_draw)); rfl) | ((first | ((with_reducible (first | apply o_op | apply d_op | apply q_op)); rfl; rfl) | ((with_reducible (first | apply w_cond | apply w_end | apply w_return))) | ((with_reducible (first | apply o_guard | apply d_guard | apply q_guard)); rfl)); all_goals (first | ((with_reducible show Is _ _); ((try simp (disch := first | omega | (simp only [yA, yB, yC, yD, yE] <;> omega) | fail) [go_sem, yF, yG, yH, *, if_pos, if_neg, -List.map_take, -List.map_drop, -List.map_append, -List.map_reverse]); exact rfl)) | ((fail_if_success (with_reducible show Is _ _)); (first | ((with_reducible refine fun (hc : (_ : Bool) = _) => ?_); (try simp only [xA, xB, xC, xD, xE, xF, xG, xH, reduceCtorEq, xI, xJ, xK, xL, xM, xN, xO, xP, xQ, xR] at hc); (try (have hx : True := hc; clear hx hc)); (try (exfalso; omega)); (try (with_reducible (exact absurd hc (by assumption)))); (try (with_reducible (exact absurd (by assumption) hc)))) | ((fail_if_success (with_reducible show ACall _ _ _ _ _)); (try ((with_reducible show _ ∨ _); first | exact .inl rfl | (refine .inr ⟨rfl, ?_, ?_⟩; (focus (repeat (first | exact trivial | refine ⟨.inl rfl, ?_⟩ | refine ⟨.inr rfl, ?_⟩))); (first | exact trivial | exact rfl))))))))))
    refine ⟨⟨n + 1, by omega, by (simp (disch := omega) [go_sem, *]) <;> (try omega), by (simp (disch := omega) [go_sem, *]) <;> (try omega), by (simp (disch := omega) [go_sem, *]) <;> (try omega), rfl⟩, ?_⟩
    rw [hm]
    simp [upd, strLen, hs, hl2]
    omega
  · obtain rfl : n = 3916 + q := by omega
    by_cases hg : q ≤ 2
    · have hp : ∀ {B : List Box} {args : List CV}, Is (omap (Go.Sy.fz true false [] 6) args) (some [.str (limT k (3916 + q))]) → ACall Tryz.prog 6 args B fun c B' => c = .tup [.agg (k.map byteC ++ [.int .i64 1, .lst 0 [] false]), .int .i64 0, .int .i64 0] ∧ B' = B := fun h => acall_imm h (readLim_in k (3916 + q) hk (by omega) (by omega))
      generalize limT k (3916 + q) = s at *
      repeat' (first | (with_reducible (first | apply w_seq | apply w_region | apply w_block | apply w_skip | apply w_exit | apply w_ret | apply w_then | apply w_then_exit | apply w_then_ret | apply w_in | apply w_in_here | apply w_in_ret | apply w_round | apply o_nil | apply d_nil)) | ((with_reducible (first | apply w_in_exit)); rfl) | ((with_reducible (first | apply w_draw)); rfl) | ((first | ((with_reducible (first | apply o_op | apply d_op | apply q_op)); rfl; rfl) | ((with_reducible (first | apply w_cond | apply w_end | apply w_return))) | ((with_reducible (first | apply o_guard | apply d_guard | apply q_guard)); rfl) | ((with_reducible (first | apply o_call_eq | apply d_call | apply q_call)); rfl)); all_goals (first | ((with_reducible show Is _ _); ((try simp (disch := first | omega | (simp only [yA, yB, yC, yD, yE] <;> omega) | fail) [go_sem, yF, yG, yH, *, if_pos, if_neg, -List.map_take, -List.map_drop, -List.map_append, -List.map_reverse]); exact rfl)) | ((fail_if_success (with_reducible show Is _ _)); (first | ((with_reducible refine fun (hc : (_ : Bool) = _) => ?_); (try simp only [xA, xB, xC, xD, xE, xF, xG, xH, reduceCtorEq, xI, xJ, xK, xL, xM, xN, xO, xP, xQ, xR] at hc); (try (have hx : True := hc; clear hx hc)); (try (exfalso; omega)); (try (with_reducible (exact absurd hc (by assumption)))); (try (with_reducible (exact absurd (by assumption) hc)))) | ((with_reducible show ACall _ _ _ _ _); (first | ((with_reducible (first | apply hp)) <;> (first | omega | assumption | exact rfl | ((simp (disch := first | omega | (simp only [yA, yB, yC, yD, yE] <;> omega) | fail) [go_sem, yF, yG, yH, *, -List.map_take, -List.map_drop, -List.map_append, -List.map_reverse]) <;> (first | done | omega | exact rfl)))) | ((with_reducible (first | apply hbg)) <;> (first | omega | assumption | exact rfl | ((simp (disch := first | omega | (simp only [yA, yB, yC, yD, yE] <;> omega) | fail) [go_sem, yF, yG, yH, *, -List.map_take, -List.map_drop, -List.map_append, -List.map_reverse]) <;> (first | done | omega | exact rfl)))))) | ((fail_if_success (with_reducible show ACall _ _ _ _ _)); (try ((with_reducible show _ ∨ _); first | exact .inl rfl | (refine .inr ⟨rfl, ?_, ?_⟩; (focus (repeat (first | exact trivial | refine ⟨.inl rfl, ?_⟩ | refine ⟨.inr rfl, ?_⟩))); (first | exact trivial | exact rfl))))))))))
      all_goals rfl
    · have hp : ∀ {B : List Box} {args : List CV}, Is (omap (Go.Sy.fz true false [] 6) args) (some [.str (limT k (3916 + q))]) → ACall Tryz.prog 6 args B fun c B' => c = .tup [.agg (z32.map byteC ++ [.int .i64 0, .lst 0 [] false]), .int .i64 0, .int .i64 3] ∧ B' = B := fun h => acall_imm h (readLong_in _ (by omega) (by omega))
      have hz : z32.length = 32 := rfl
      generalize limT k (3916 + q) = s at *
      generalize z32 = Z at *
      repeat' (first | (with_reducible (first | apply w_seq | apply w_region | apply w_block | apply w_skip | apply w_exit | apply w_ret | apply w_then | apply w_then_exit | apply w_then_ret | apply w_in | apply w_in_here | apply w_in_ret | apply w_round | apply o_nil | apply d_nil)) | ((with_reducible (first | apply w_in_exit)); rfl) | ((with_reducible (first | apply w_draw)); rfl) | ((first | ((with_reducible (first | apply o_op | apply d_op | apply q_op)); rfl; rfl) | ((with_reducible (first | apply w_cond | apply w_end | apply w_return))) | ((with_reducible (first | apply o_guard | apply d_guard | apply q_guard)); rfl) | ((with_reducible (first | apply o_call_eq | apply d_call | apply q_call)); rfl)); all_goals (first | ((with_reducible show Is _ _); ((try simp (disch := first | omega | (simp only [yA, yB, yC, yD, yE] <;> omega) | fail) [go_sem, yF, yG, yH, *, if_pos, if_neg, -List.map_take, -List.map_drop, -List.map_append, -List.map_reverse]); exact rfl)) | ((fail_if_success (with_reducible show Is _ _)); (first | ((with_reducible refine fun (hc : (_ : Bool) = _) => ?_); (try simp only [xA, xB, xC, xD, xE, xF, xG, xH, reduceCtorEq, xI, xJ, xK, xL, xM, xN, xO, xP, xQ, xR] at hc); (try (have hx : True := hc; clear hx hc)); (try (exfalso; omega)); (try (with_reducible (exact absurd hc (by assumption)))); (try (with_reducible (exact absurd (by assumption) hc)))) | ((with_reducible show ACall _ _ _ _ _); (first | ((with_reducible (first | apply hp)) <;> (first | omega | assumption | exact rfl | ((simp (disch := first | omega | (simp only [yA, yB, yC, yD, yE] <;> omega) | fail) [go_sem, yF, yG, yH, *, -List.map_take, -List.map_drop, -List.map_append, -List.map_reverse]) <;> (first | done | omega | exact rfl)))) | ((with_reducible (first | apply hbg)) <;> (first | omega | assumption | exact rfl | ((simp (disch := first | omega | (simp only [yA, yB, yC, yD, yE] <;> omega) | fail) [go_sem, yF, yG, yH, *, -List.map_take, -List.map_drop, -List.map_append, -List.map_reverse]) <;> (first | done | omega | exact rfl)))))) | ((fail_if_success (with_reducible show ACall _ _ _ _ _)); (try ((with_reducible show _ ∨ _); first | exact .inl rfl | (refine .inr ⟨rfl, ?_, ?_⟩; (focus (repeat (first | exact trivial | refine ⟨.inl rfl, ?_⟩ | refine ⟨.inr rfl, ?_⟩))); (first | exact trivial | exact rfl))))))))))
      all_goals rfl
end Go.Proofs.YtdceppjoipoohaaGreatDoor
end
section
namespace Go.Sy
set_option linter.all false
open Go.RowKit (Below)
open Go.ChangeShapes Go.WideShapes
section
variable {H : Type} {enc : TypeId × Value → H} {P : Program} {W : World} {base : Nat} {held : Bool}
def Old (W : World) : Nat → Nat → Prop := fun b _ => b < W.heap.size
theorem fz_true {fr nz : Bool} {B : List Box} {k : Nat} {c : CV} {t : Bool} (h : fz nz fr B k c = some (.bool t)) : c = .bool t := by
  cases k with
  | zero => simp [fz] at h
  | succ k =>
    cases c <;> simp only [fz] at h
    case bool b => simpa using h
    case nilS => cases nz <;> simp at h
    case view => split at h <;> simp at h
    case cview => split at h <;> simp at h
    case ptr => split at h <;> (try split at h) <;> simp at h
    case lst => split at h <;> simp at h
    case iptr => split at h <;> simp at h
    case fn => split at h <;> simp at h
    all_goals simp at h
theorem PC.calls {fr : Bool} {f : FuncId} {args : List CV} {vs : List Value} (h : PC P fr f args (.bool true)) (hv : R (Old W) [] W false args vs) (ht : TabsOk (Old W) W) : Calls P f vs.toArray W fun e w' => e = .returned (.bool true) ∧ Below W.heap.size W w' := by
  refine (h.2 W.heap.size (Old W) [] W vs (BRel.none_ W _ (fun _ _ h => h) ht) hv).mono fun e w' ⟨c, v, B', I', μ', he, hQ, hs⟩ => ?_
  have := fz_true hQ
  subst this
  exact ⟨by rw [he, hs.val.bool_inv], hs.below⟩
theorem byte_of_wf {n : Int} (h : (Lit.int .u8 n).wf = true) : ∃ b : UInt8, n = b.toNat := by
  have := bounds_u8 h
  exact ⟨UInt8.ofNat n.toNat, by simp; omega⟩
theorem bytes_cells : ∀ (vs : List Value), (∀ v ∈ vs, ∃ n, v = .int .u8 n ∧ (Lit.int .u8 n).wf = true) → ∃ l : List UInt8, vs = l.map fun b => .int .u8 (b.toNat : Int)
  | [], _ => ⟨[], rfl⟩
  | v :: vs, h => by
    obtain ⟨n, rfl, hn⟩ := h v (by simp)
    obtain ⟨b, rfl⟩ := byte_of_wf hn
    obtain ⟨l, rfl⟩ := bytes_cells vs fun v hv => h v (by simp [hv])
    exact ⟨b :: l, rfl⟩
theorem R_bytes (I : Nat → Nat → Prop) (μ : List (List Place)) (w : World) (one : Bool) : ∀ l : List UInt8, R I μ w one (l.map byteC) (l.map fun b => .int .u8 (b.toNat : Int))
  | [] => .nil _
  | b :: l => .int _ _ (R_bytes I μ w one l)
theorem open_byteArray {r : Reach} {b0 : Nat} {t e : TypeId} {n : Nat} {v : Value} {d : DataW H} {ps : List MemPlace} (hu : P.underlying t = some (.array n e)) (he : P.underlying e = some (.int .u8)) (hc : P.cellsOf e = 1) (hn : P.cellsOf t = n)
    (hval : Value.okWide P W r b0 t v) (hd : DataW.Trod enc P W base (fun _ => true) held t v d ps) : ∃ l : List UInt8, l.length = n ∧ v = .agg (l.map fun b => Value.int .u8 (b.toNat : Int)).toArray := by
  unfold Value.okWide at hval
  simp only [hu] at hval
  obtain ⟨cs, rfl, hcs, _⟩ := hval
  obtain ⟨fuel, hf⟩ := hd
  obtain ⟨xs, m, rfl, _, hl, hx, hi⟩ := DataW.trod_array hu hf
  simp only [Value.cells] at hi hl
  obtain ⟨l, hl'⟩ := bytes_cells cs.toList fun v hv => by
    obtain ⟨i, hi1, hi2⟩ := List.mem_iff_getElem.1 hv
    have hin : i < n := by rw [← hn, ← hl]; exact hi1
    have := hi i hin
    rw [hc, List.getElem?_eq_getElem (by omega), Nat.mul_one] at this
    rw [show (cs.toList.drop i).take 1 = [v] from by rw [List.drop_eq_getElem_cons hi1]; simp [← hi2]] at this
    obtain ⟨k, h1, h2, h3⟩ := DataW.trod_int he this
    simp at h1
    exact ⟨k, h1, h3⟩
  refine ⟨l, ?_, ?_⟩
  · have := congrArg List.length hl'
    simp only [List.length_map] at this
    rw [← this, hl, hn]
  · rw [← hl']
theorem V_byteArray {I : Nat → Nat → Prop} {μ : List (List Place)} {w : World} (l : List UInt8) : V I μ w (.agg (l.map byteC)) (.agg (l.map fun b => Value.int .u8 (b.toNat : Int)).toArray) := .agg (R_bytes _ _ _ _ l) (.nil _)
theorem open_i {r : Reach} {b0 : Nat} {t : TypeId} {k : IntKind} {v : Value} {d : DataW H} {ps : List MemPlace} (ht : P.underlying t = some (.int k)) (hval : Value.okWide P W r b0 t v) (hd : DataW.Trod enc P W base (fun _ => true) held t v d ps) :
    ∃ n, (Lit.int k n).wf = true ∧ V (Old W) [] W (.int k n) v := by
  obtain ⟨n, rfl, _, _, hw⟩ := ChangeShapes.open_int ht hval hd
  exact ⟨n, hw, .int _ _ (.nil _)⟩
theorem open_byte {r : Reach} {b0 : Nat} {t : TypeId} {v : Value} {d : DataW H} {ps : List MemPlace} (ht : P.underlying t = some (.int .u8)) (hval : Value.okWide P W r b0 t v) (hd : DataW.Trod enc P W base (fun _ => true) held t v d ps) :
    ∃ b : UInt8, V (Old W) [] W (byteC b) v := by
  obtain ⟨n, hw, h⟩ := open_i ht hval hd
  obtain ⟨b, rfl⟩ := byte_of_wf hw
  exact ⟨b, h⟩
theorem V_cons {I : Nat → Nat → Prop} {μ : List (List Place)} {w : World} {c : CV} {v : Value} {cs : List CV} {vs : List Value} (h : V I μ w c v) (hs : R I μ w false cs vs) : R I μ w false (c :: cs) (v :: vs) := .cons h (by simp) hs
end
end Go.Sy
end
section
namespace Go.Sy
set_option linter.all false
open Go.RowKit (Below)
open Go.ChangeShapes Go.WideShapes
section
variable {H : Type} {enc : TypeId × Value → H} {P : Program} {W : World} {base : Nat} {held : Bool}
def Opn (enc : TypeId × Value → H) (P : Program) (W : World) (base : Nat) (held : Bool) (t : TypeId) {α : Type} (f : α → List CV) (ok : α → Prop) : Prop :=
  ∀ (fuel : Nat) (cs : List Value) (x : DataW H × List MemPlace), DataW.trod enc P W base (fun _ => true) held fuel t cs = some x → ∃ a, ok a ∧ R (Old W) [] W true (f a) cs
theorem Opn.mono {t : TypeId} {α : Type} {f : α → List CV} {ok ok' : α → Prop} (h : Opn enc P W base held t f ok) (hk : ∀ a, ok a → ok' a) : Opn enc P W base held t f ok' := fun fuel cs x hx =>
  let ⟨a, h1, h2⟩ := h fuel cs x hx; ⟨a, hk a h1, h2⟩
inductive OpnF (enc : TypeId × Value → H) (P : Program) (W : World) (base : Nat) (held : Bool) : (off : Nat) → List Field → {α : Type} → (α → List CV) → (α → Prop) → Prop
  | one {off : Nat} {f : Field} {α : Type} {g : α → List CV} {ok : α → Prop} (h0 : f.offset = off) (h : Opn enc P W base held f.type g ok) : OpnF enc P W base held off [f] g ok
  | cons {off n : Nat} {f : Field} {fs : List Field} {α β : Type} {g : α → List CV} {ok : α → Prop} {g' : β → List CV} {ok' : β → Prop} (h0 : f.offset = off) (hc : P.cellsOf f.type = n) (h : Opn enc P W base held f.type g ok)
      (hs : OpnF enc P W base held (off + n) fs g' ok') : OpnF enc P W base held off (f :: fs) (fun p : α × β => g p.1 ++ g' p.2) (fun p => ok p.1 ∧ ok' p.2)
end
end Go.Sy
end
section
namespace Go.Proofs.YtdceppjoipoohaaGreatDoor
open Go Go.Sy
set_option linter.all false
set_option maxRecDepth 100000
set_option maxHeartbeats 4000000
theorem tab_reads {W : World} {n : String} {g : Nat} {k : IntKind} {zs : List Int} {t e : TypeId} {m : Nat} (hg : Tryz.prog.globalNamed n = some g) (hty : (Tryz.prog.globals[g]?).map (·.type) = some t) (ht : Tryz.prog.underlying t = some (.array m e)) (he : Tryz.prog.underlying e = some (.int k)) (hce : Tryz.prog.cellsOf e = 1) (hct : Tryz.prog.cellsOf t = m) (hz : 0 < zs.length) (h : Go.Lib.VarReads Tryz.prog W n (Go.Lib.tabData k zs)) : ∀ j : Nat, W.cell? ⟨g, j, none⟩ = (zs[j]?).map (.int k) ∧ Old W g j := by
  obtain ⟨g', t', cs, fuel, p, hg', ht', hvar, hd⟩ := h
  obtain rfl := Option.some.inj (hg.symm.trans hg')
  obtain rfl := Option.some.inj (hty.symm.trans ht')
  have hc := Go.Lib.cells_of_tab ht he hce hct hd
  have hcell : ∀ j : Nat, W.cell? ⟨g, j, none⟩ = (zs[j]?).map (.int k) := fun j => by
    rw [World.var?_cell hg hvar j, ← Array.getElem?_toList, hc, List.getElem?_map]
  refine fun j => ⟨hcell j, ?_⟩
  have h0 := hcell 0
  rw [List.getElem?_eq_getElem hz] at h0
  show g < W.heap.size
  rcases Nat.lt_or_ge g W.heap.size with h | h
  · exact h
  · unfold World.cell? at h0
    rw [show W.heap[(⟨g, 0, Option.none⟩ : Addr).block]? = Option.none from Array.getElem?_eq_none h] at h0
    cases h0
theorem int_lives {W : World} {g : Nat} {k : IntKind} (h : ∃ m, W.cell? ⟨g, 0, none⟩ = some (.int k m)) : Old W g 0 := by
  obtain ⟨m, h0⟩ := h
  show g < W.heap.size
  rcases Nat.lt_or_ge g W.heap.size with h | h
  · exact h
  · unfold World.cell? at h0
    rw [show W.heap[(⟨g, 0, Option.none⟩ : Addr).block]? = Option.none from Array.getElem?_eq_none h] at h0
    cases h0
theorem tabs_of {W : World} (hS : W.ShapedOpen Tryz.prog) (hL : laidMet Tryz.prog [("math/bits.deBruijn32tab", Rows.laid_math_bits_deBruijn32tab), ("math/bits.deBruijn64tab", Rows.laid_math_bits_deBruijn64tab), ("internal/strconv.uint64pow10", Rows.laid_internal_strconv_uint64pow10), ("unicode/utf8.acceptRanges", Rows.laid_unicode_utf8_acceptRanges), ("unicode/utf8.first", Rows.laid_unicode_utf8_first)] W) : TabsOk (Old W) W := by
  constructor
  · intro g k zs hg
    unfold tab at hg
    split at hg
    · obtain ⟨rfl, rfl⟩ := Prod.mk.inj (Option.some.inj hg)
      exact tab_reads (t := 138) (by kernel_rfl) (by kernel_rfl) Tryz.underlying138 Tryz.underlying117 (by kernel_rfl) (by kernel_rfl) (by decide) (Go.Lib.laidMet.reads hL (n := "internal/strconv.uint64pow10") (.tail _ (.tail _ (.head _))))
    · obtain ⟨rfl, rfl⟩ := Prod.mk.inj (Option.some.inj hg)
      exact tab_reads (t := 22) (by kernel_rfl) (by kernel_rfl) Tryz.underlying22 Tryz.underlying5 (by kernel_rfl) (by kernel_rfl) (by decide) (Go.Lib.laidMet.reads hL (n := "math/bits.deBruijn32tab") (.head _))
    · obtain ⟨rfl, rfl⟩ := Prod.mk.inj (Option.some.inj hg)
      exact tab_reads (t := 160) (by kernel_rfl) (by kernel_rfl) Tryz.underlying160 Tryz.underlying5 (by kernel_rfl) (by kernel_rfl) (by decide) (Go.Lib.laidMet.reads hL (n := "math/bits.deBruijn64tab") (.tail _ (.head _)))
    · cases hg
  · intro g hg
    obtain rfl : g = 1 := by simpa [tabInts] using hg
    have h : ∃ m, W.cell? ⟨1, 0, none⟩ = some (.int .i64 m) := cell_of_shapedOpen_int (t := 3) hS (by decide +kernel) (zero := #[.int .i64 0]) (by kernel_rfl) rfl (by kernel_rfl) (by kernel_rfl) Tryz.underlying3
    exact ⟨int_lives h, h⟩
theorem handed_laid {H : Type} {enc : TypeId × Value → H} {C : Checked} {os : Os} {f : FuncId} {fn : Func} {s : ChangeSpec} {conds : List PathCond} {apart fresh handsOn again : Bool} {X : World → Array Value → Prop}
    (hX : ∀ (w w' : World) (args : Array Value), w.heap = w'.heap → X w args → X w' args)
    (own : ownKnob C.prog.godebug = none) (started : os.Started) (noInit : C.prog.inits.idxOf? f = none) (hfn : C.prog.funcs[f]? = some fn)
    (witness : ∃ (w : World) (tape : Tape) (i : Input), w.os = os ∧ (w.forCall tape i).Shaped C.prog ∧ i.vars = [] ∧ Input.okWide C.prog (w.forCall tape i) .any w.heap.size f i ∧
      ((s.pre enc C.prog fn conds apart (w.forCall tape i).memory i.args ∧ X (w.forCall tape i).memory i.args) ∧ sizedMet enc C.prog fn (OpenSpec.ofChange s) apart (w.forCall tape i).memory i.args) ∧ Assume.holds {} C.prog (lone (Frame.enter C.prog f i.args .normal) [] (w.forCall tape i)))
    (contract : ∀ (W : World) (base : Nat) (args : Array Value) (ds gs : List (DataW H)) (before : List MemPlace),
      (∀ (j : Nat) t v, fn.params[j]? = some t → args[j]? = some v → Value.okWide C.prog W .any base t v) →
      DataW.Whole enc C.prog fn.params.toList s.vars apart W args.toList ds gs before → W.ShapedOpen C.prog → X W args →
      Calls C.prog f args W fun e W' => ∃ v, e = .returned v ∧ s.post enc C.prog fn apart fresh handsOn again W args v W') :
    ReturnsInHanded {} C os f .any (fun w args => (s.pre enc C.prog fn conds apart w args ∧ X w args) ∧ sizedMet enc C.prog fn (OpenSpec.ofChange s) apart w args) (s.post enc C.prog fn apart fresh handsOn again) := by
  refine returnsInHanded_of_calls own started noInit witness ?_
  intro w tape i _ hsh _ hok hpre _
  obtain ⟨_, _, _, fn', hfn', _, _, _, _, hval⟩ := hok
  have e : fn' = fn := Option.some.inj (hfn'.symm.trans hfn)
  subst e
  obtain ⟨⟨⟨ds, gs, before, hw, hc⟩, hx⟩, hz⟩ := hpre
  have hw' := DataW.Whole.of_heap (w' := w.forCall tape i) (by rfl) hw
  refine (contract (w.forCall tape i) w.heap.size i.args ds gs before hval hw' hsh (hX _ _ _ (by rfl) hx)).mono fun e W' ⟨v, he, hp⟩ => ?_
  subst he
  exact ChangeSpec.post_blind hp
end Go.Proofs.YtdceppjoipoohaaGreatDoor
end
