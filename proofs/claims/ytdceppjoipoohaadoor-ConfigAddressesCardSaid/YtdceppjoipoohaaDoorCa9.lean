/- Lemmas and definitions of this claim (own texts, joined by a program; what the claim does not use is left out). -/
import Derived.Test.YtdceppjoipoohaaDoorCa8
section
namespace Go.Proofs.YtdceppjoipoohaaDoor
open Go Go.Sy
set_option linter.all false
set_option maxRecDepth 100000
set_option maxHeartbeats 4000000
theorem vld_full {six : Bool} {A : List UInt8} (hA : A.length = 16) : vld six A (if six then 128 else 32) = okA six A := by
  cases h : okA six A with
  | false => simp [vld, h]
  | true =>
    have hc : cutL A (if six then 128 else 32) = A := by
      rw [cut_same hA]
      intro k h1 h2
      cases six with
      | true => simp at h1; omega
      | false =>
        simp at h1
        have hz : A.drop 4 = z12 := by simpa [okA] using h
        have hk : k / 8 < 16 := by omega
        have : A.getD (k / 8) 0 = 0 := by
          have h3 : (A.drop 4)[k / 8 - 4]? = some 0 := by
            rw [hz]
            have : k / 8 - 4 < 12 := by omega
            show (List.replicate 12 (0 : UInt8))[k / 8 - 4]? = some 0
            rw [List.getElem?_replicate, if_pos this]
          rw [List.getElem?_drop, show 4 + (k / 8 - 4) = k / 8 by omega] at h3
          rw [List.getD_eq_getElem?_getD, h3]; rfl
        rw [bitI, this]; simp
    cases six with
    | true => simp [vld, h]; simpa using hc
    | false => simp [vld, h]; simpa using hc
theorem cvalid_in (six : Bool) (A : List UInt8) (hA : A.length = 16) : PC Tryd.prog true 40 [addrC six A] (.bool (okA six A)) := by
  have hv := vld_full (six := six) hA
  have hiv : ∀ {B : List Box} {args : List CV} {s : Int}, Is (omap (Go.Sy.fz true false B 6) args) (some [prefC six A s]) → s = (if six then 128 else 32) → ACall Tryd.prog 44 args B fun c B' => c = .bool (okA six A) ∧ B' = B := fun h hs => by
    rw [← hv]
    have := iValid_at h hA
    rw [hs] at this
    exact this
  refine acall_intro mixed Tryd.func40 rfl ca40 (by kernel_rfl) (by rw [Tryd.ntmps40]; simp) ?_
  cases six
  · repeat' (first | (with_reducible (first | apply w_seq | apply w_region | apply w_block | apply w_skip | apply w_exit | apply w_ret | apply w_then | apply w_then_exit | apply w_then_ret | apply w_in | apply w_in_here | apply w_in_ret | apply w_round | apply o_nil | apply d_nil)) | ((with_reducible (first | apply w_in_exit)); rfl) | ((with_reducible (first | apply w_draw)); rfl) | ((first | ((with_reducible (first | apply o_op | apply d_op | apply q_op)); rfl; rfl) | ((with_reducible (first | apply w_cond | apply w_end | apply w_return))) | ((with_reducible (first | apply o_guard | apply d_guard | apply q_guard)); rfl) | ((with_reducible (first | apply o_call_eq | apply d_call | apply q_call)); rfl)); all_goals (first | ((with_reducible show Is _ _); ((try simp (disch := first | omega | (simp only [yA, yB, yC, yD, yE] <;> omega) | fail) [go_sem, yF, yG, yH, *, addrC, if_pos, if_neg, -List.map_take, -List.map_drop, -List.map_append, -List.map_reverse]); exact rfl)) | ((fail_if_success (with_reducible show Is _ _)); (first | ((with_reducible refine fun (hc : (_ : Bool) = _) => ?_); (try simp only [xA, xB, xC, xD, xE, xF, xG, xH, reduceCtorEq, xI, xJ, xK, xL, xM, xN, xO, xP, xQ, xR] at hc); (try (have hx : True := hc; clear hx hc)); (try (exfalso; omega)); (try (with_reducible (exact absurd hc (by assumption)))); (try (with_reducible (exact absurd (by assumption) hc)))) | ((with_reducible show ACall _ _ _ _ _); (first | ((with_reducible (first | apply hiv)) <;> (first | omega | assumption | exact rfl | ((simp (disch := first | omega | (simp only [yA, yB, yC, yD, yE] <;> omega) | fail) [go_sem, yF, yG, yH, *, addrC, -List.map_take, -List.map_drop, -List.map_append, -List.map_reverse]) <;> (first | done | omega | exact rfl)))))) | ((fail_if_success (with_reducible show ACall _ _ _ _ _)); (try ((with_reducible show _ ∨ _); first | exact .inl rfl | (refine .inr ⟨rfl, ?_, ?_⟩; (focus (repeat (first | exact trivial | refine ⟨.inl rfl, ?_⟩ | refine ⟨.inr rfl, ?_⟩))); (first | exact trivial | exact rfl))))))))))
    rfl
  · repeat' (first | (with_reducible (first | apply w_seq | apply w_region | apply w_block | apply w_skip | apply w_exit | apply w_ret | apply w_then | apply w_then_exit | apply w_then_ret | apply w_in | apply w_in_here | apply w_in_ret | apply w_round | apply o_nil | apply d_nil)) | ((with_reducible (first | apply w_in_exit)); rfl) | ((with_reducible (first | apply w_draw)); rfl) | ((first | ((with_reducible (first | apply o_op | apply d_op | apply q_op)); rfl; rfl) | ((with_reducible (first | apply w_cond | apply w_end | apply w_return))) | ((with_reducible (first | apply o_guard | apply d_guard | apply q_guard)); rfl) | ((with_reducible (first | apply o_call_eq | apply d_call | apply q_call)); rfl)); all_goals (first | ((with_reducible show Is _ _); ((try simp (disch := first | omega | (simp only [yA, yB, yC, yD, yE] <;> omega) | fail) [go_sem, yF, yG, yH, *, addrC, if_pos, if_neg, -List.map_take, -List.map_drop, -List.map_append, -List.map_reverse]); exact rfl)) | ((fail_if_success (with_reducible show Is _ _)); (first | ((with_reducible refine fun (hc : (_ : Bool) = _) => ?_); (try simp only [xA, xB, xC, xD, xE, xF, xG, xH, reduceCtorEq, xI, xJ, xK, xL, xM, xN, xO, xP, xQ, xR] at hc); (try (have hx : True := hc; clear hx hc)); (try (exfalso; omega)); (try (with_reducible (exact absurd hc (by assumption)))); (try (with_reducible (exact absurd (by assumption) hc)))) | ((with_reducible show ACall _ _ _ _ _); (first | ((with_reducible (first | apply hiv)) <;> (first | omega | assumption | exact rfl | ((simp (disch := first | omega | (simp only [yA, yB, yC, yD, yE] <;> omega) | fail) [go_sem, yF, yG, yH, *, addrC, -List.map_take, -List.map_drop, -List.map_append, -List.map_reverse]) <;> (first | done | omega | exact rfl)))))) | ((fail_if_success (with_reducible show ACall _ _ _ _ _)); (try ((with_reducible show _ ∨ _); first | exact .inl rfl | (refine .inr ⟨rfl, ?_, ?_⟩; (focus (repeat (first | exact trivial | refine ⟨.inl rfl, ?_⟩ | refine ⟨.inr rfl, ?_⟩))); (first | exact trivial | exact rfl))))))))))
    rfl
theorem cvalid_at {B : List Box} {args : List CV} {six : Bool} {A : List UInt8} (hz : Is (omap (Go.Sy.fz true false B 6) args) (some [addrC six A])) (hA : A.length = 16) : ACall Tryd.prog 40 args B fun c B' => c = .bool (okA six A) ∧ B' = B := acall_fresh hz (cvalid_in six A hA)
def grp (A : List UInt8) (i : Nat) : Nat := (A.getD (2 * i) 0).toNat * 256 + (A.getD (2 * i + 1) 0).toNat
theorem grp_lt (A : List UInt8) (i : Nat) : grp A i < 65536 := by
  have h1 := (A.getD (2 * i) 0).toNat_lt
  have h2 := (A.getD (2 * i + 1) 0).toNat_lt
  unfold grp; omega
def parts6 (A : List UInt8) (n : Nat) : List (List UInt8) := (List.range n).map fun i => hexT (grp A i)
def parts4 (A : List UInt8) (n : Nat) : List (List UInt8) := (List.range n).map fun i => Go.Lib.decDigits (A.getD i 0).toNat
theorem parts6_succ (A : List UInt8) (n : Nat) : parts6 A (n + 1) = parts6 A n ++ [hexT (grp A n)] := by simp [parts6, List.range_succ]
theorem parts4_succ (A : List UInt8) (n : Nat) : parts4 A (n + 1) = parts4 A n ++ [Go.Lib.decDigits (A.getD n 0).toNat] := by simp [parts4, List.range_succ]
def fmtA (six : Bool) (A : List UInt8) : List UInt8 := if okA six A then (if six then Go.Lib.join (parts6 A 8) [58] else Go.Lib.join (parts4 A 4) [46]) else []
theorem or_grp (a b : UInt8) : bits .or .i64 ((a.toNat : Int) * 256) (b.toNat : Int) = ((a.toNat * 256 + b.toNat : Nat) : Int) := by
  have ha := a.toNat_lt
  have hb := b.toNat_lt
  rw [show ((a.toNat : Int) * 256) = ((a.toNat * 256 : Nat) : Int) by omega, i64_or_nat _ _ (by omega) (by omega)]
  congr 1
  have := Nat.two_pow_add_eq_or_of_lt (i := 8) (b := b.toNat) (by omega) a.toNat
  rw [show (2 : Nat) ^ 8 * a.toNat = a.toNat * 256 by omega] at this
  omega
theorem omap_strs {nz fr : Bool} {k : Nat} {B : List Box} : ∀ L : List (List UInt8), omap (Go.Sy.fz nz fr B (k + 1)) (L.map CV.str) = some (L.map CV.str)
  | [] => rfl
  | x :: xs => by rw [List.map_cons, omap_two, omap_strs xs]; rfl
theorem join_le {t : List UInt8} {k : Nat} : ∀ L : List (List UInt8), (∀ x ∈ L, x.length ≤ k) → (Go.Lib.join L t).length ≤ L.length * (k + t.length)
  | [], _ => by simp [Go.Lib.join_nil]
  | x :: xs, h => by
    rw [Go.Lib.join_cons, List.length_append]
    have h1 := h x (by simp)
    have h2 : (Go.Lib.joinTail t xs).length ≤ xs.length * (k + t.length) := by
      have hx : ∀ y ∈ xs, y.length ≤ k := fun y hy => h y (by simp [hy])
      clear h h1
      induction xs with
      | nil => simp [Go.Lib.joinTail]
      | cons y ys ih =>
        have := ih (fun z hz => hx z (by simp [hz]))
        have h1 := hx y (by simp)
        unfold Go.Lib.joinTail at this ⊢
        rw [List.map_cons, List.flatten_cons, List.length_append, List.length_append, List.length_cons, Nat.succ_mul]
        omega
    rw [List.length_cons, Nat.succ_mul]; omega
theorem hexT_len : ∀ (k n : Nat), n < 16 ^ (k + 1) → (hexT n).length ≤ k + 1
  | 0, n, h => by rw [hexT, dif_pos (by simpa using h)]; simp
  | k + 1, n, h => by
    rw [hexT]
    split
    · simp
    · rw [List.length_append]
      have := hexT_len k (n / 16) (by rw [Nat.pow_succ] at h; omega)
      simp only [List.length_singleton]; omega
theorem fmtAddr_in (six : Bool) (A : List UInt8) (hA : A.length = 16) : PC Tryd.prog true 15 [addrC six A] (.str (fmtA six A)) := by
  have hv : ∀ {B : List Box} {args : List CV}, Is (omap (Go.Sy.fz true false B 6) args) (some [addrC six A]) → ACall Tryd.prog 40 args B fun c B' => c = .bool (okA six A) ∧ B' = B := fun h => cvalid_at h hA
  refine acall_intro mixed Tryd.func15 rfl ca15 (by kernel_rfl) (by rw [Tryd.ntmps15]; simp) ?_
  cases hok : okA six A with
  | false =>
    rw [hok] at hv
    have hf : fmtA six A = [] := by simp [fmtA, hok]
    rw [hf]
    repeat' (first | (with_reducible (first | apply w_seq | apply w_region | apply w_block | apply w_skip | apply w_exit | apply w_ret | apply w_then | apply w_then_exit | apply w_then_ret | apply w_in | apply w_in_here | apply w_in_ret | apply w_round | apply o_nil | apply d_nil)) | ((with_reducible (first | apply w_in_exit)); rfl) | ((with_reducible (first | apply w_draw)); rfl) | ((first | ((with_reducible (first | apply o_op | apply d_op | apply q_op)); rfl; rfl) | ((with_reducible (first | apply w_cond | apply w_end | apply w_return))) | ((with_reducible (first | apply o_guard | apply d_guard | apply q_guard)); rfl) | ((with_reducible (first | apply o_call_eq | apply d_call | apply q_call)); rfl)); all_goals (first | ((with_reducible show Is _ _); ((try simp (disch := first | omega | (simp only [yA, yB, yC, yD, yE] <;> omega) | fail) [go_sem, yF, yG, yH, *, addrC, if_pos, if_neg, -List.map_take, -List.map_drop, -List.map_append, -List.map_reverse]); exact rfl)) | ((fail_if_success (with_reducible show Is _ _)); (first | ((with_reducible refine fun (hc : (_ : Bool) = _) => ?_); (try simp only [xA, xB, xC, xD, xE, xF, xG, xH, reduceCtorEq, xI, xJ, xK, xL, xM, xN, xO, xP, xQ, xR] at hc); (try (have hx : True := hc; clear hx hc)); (try (exfalso; omega)); (try (with_reducible (exact absurd hc (by assumption)))); (try (with_reducible (exact absurd (by assumption) hc)))) | ((with_reducible show ACall _ _ _ _ _); (first | ((with_reducible (first | apply hv)) <;> (first | omega | assumption | exact rfl | ((simp (disch := first | omega | (simp only [yA, yB, yC, yD, yE] <;> omega) | fail) [go_sem, yF, yG, yH, *, addrC, -List.map_take, -List.map_drop, -List.map_append, -List.map_reverse]) <;> (first | done | omega | exact rfl)))))) | ((fail_if_success (with_reducible show ACall _ _ _ _ _)); (try ((with_reducible show _ ∨ _); first | exact .inl rfl | (refine .inr ⟨rfl, ?_, ?_⟩; (focus (repeat (first | exact trivial | refine ⟨.inl rfl, ?_⟩ | refine ⟨.inr rfl, ?_⟩))); (first | exact trivial | exact rfl))))))))))
    rfl
  | true =>
    rw [hok] at hv
    cases six
    · have hf : fmtA false A = Go.Lib.join (parts4 A 4) [46] := by simp [fmtA, hok]
      rw [hf]
      repeat' (first | (with_reducible (first | apply w_seq | apply w_region | apply w_block | apply w_skip | apply w_exit | apply w_ret | apply w_then | apply w_then_exit | apply w_then_ret | apply w_in | apply w_in_here | apply w_in_ret | apply w_round | apply o_nil | apply d_nil)) | ((with_reducible (first | apply w_in_exit)); rfl) | ((with_reducible (first | apply w_draw)); rfl) | ((first | ((with_reducible (first | apply o_op | apply d_op | apply q_op)); rfl; rfl) | ((with_reducible (first | apply w_cond | apply w_end | apply w_return))) | ((with_reducible (first | apply o_guard | apply d_guard | apply q_guard)); rfl) | ((with_reducible (first | apply o_call_eq | apply d_call | apply q_call)); rfl)); all_goals (first | ((with_reducible show Is _ _); ((try simp (disch := first | omega | (simp only [yA, yB, yC, yD, yE] <;> omega) | fail) [go_sem, yF, yG, yH, *, addrC, if_pos, if_neg, -List.map_take, -List.map_drop, -List.map_append, -List.map_reverse]); exact rfl)) | ((fail_if_success (with_reducible show Is _ _)); (first | ((with_reducible refine fun (hc : (_ : Bool) = _) => ?_); (try simp only [xA, xB, xC, xD, xE, xF, xG, xH, reduceCtorEq, xI, xJ, xK, xL, xM, xN, xO, xP, xQ, xR] at hc); (try (have hx : True := hc; clear hx hc)); (try (exfalso; omega)); (try (with_reducible (exact absurd hc (by assumption)))); (try (with_reducible (exact absurd (by assumption) hc)))) | ((with_reducible show ACall _ _ _ _ _); (first | ((with_reducible (first | apply hv)) <;> (first | omega | assumption | exact rfl | ((simp (disch := first | omega | (simp only [yA, yB, yC, yD, yE] <;> omega) | fail) [go_sem, yF, yG, yH, *, addrC, -List.map_take, -List.map_drop, -List.map_append, -List.map_reverse]) <;> (first | done | omega | exact rfl)))))) | ((fail_if_success (with_reducible show ACall _ _ _ _ _)); (try ((with_reducible show _ ∨ _); first | exact .inl rfl | (refine .inr ⟨rfl, ?_, ?_⟩; (focus (repeat (first | exact trivial | refine ⟨.inl rfl, ?_⟩ | refine ⟨.inr rfl, ?_⟩))); (first | exact trivial | exact rfl))))))))))
      refine w_loop (fun fr B => ∃ (i : Nat) (oc : CV), i ≤ 4 ∧ fr 36 = .int .i64 i ∧ fr 1 = .ptr 0 0 ∧ fr 3 = oc ∧ B[0]? = some ⟨.bool false :: A.map byteC, false⟩ ∧ ((i = 0 ∧ oc = .nilS) ∨ ∃ β m, β ≠ 0 ∧ oc = .view β 0 i 1 false ∧ B[β]? = some ⟨(parts4 A i).map .str, m⟩)) (fun fr _ => 4 - natOf (fr 36)) ?_ ?_
      · exact ⟨0, .nilS, by omega, by (simp (disch := omega) [go_sem, *]) <;> (try omega), by (simp (disch := omega) [go_sem, *]) <;> (try omega), by (simp (disch := omega) [go_sem, *]) <;> (try omega), by (simp (disch := omega) [go_sem, *]) <;> (try omega), .inl ⟨rfl, rfl⟩⟩
      rintro fr B ⟨i, oc, hi, h36, h1, h3, h0, hO⟩
      have x0 := bx_pack h0
      by_cases hc : i < 4
      · have hp := parts4_succ A i
        have hpl : (parts4 A i).length = i := by simp [parts4]
        have hgd : A.getD i 0 = A[i]'(by omega) := by rw [List.getD_eq_getElem?_getD, List.getElem?_eq_getElem (by omega)]; rfl
        have hlt := (A[i]'(by omega)).toNat_lt
        have hit : ∀ {B : List Box} {args : List CV}, Is args [.int .i64 ((A[i]'(by omega)).toNat : Int)] → ACall Tryd.prog 43 args B fun c B' => c = .str (Go.Lib.decDigits (A.getD i 0).toNat) ∧ B' = B := fun {B args} h => by
          have h : _ = _ := h
          subst h
          have := itoa_at (B := B) (n := ((A[i]'(by omega)).toNat : Int)) (by omega)
          rw [Go.Lib.itoa, if_neg (by omega), Int.toNat_natCast] at this
          rw [hgd]
          exact this
        generalize Go.Lib.decDigits (A.getD i 0).toNat = T at *
        clear hgd
        rcases hO with ⟨hi0, rfl⟩ | ⟨β, m, hβ0, rfl, hβ⟩
        · have hp0 : parts4 A i = [] := by rw [hi0]; rfl
          rw [hp0] at hp
          replace hi0 : Hid _ := hi0
          repeat' (first | (with_reducible (first | apply w_seq | apply w_region | apply w_block | apply w_skip | apply w_exit | apply w_ret | apply w_then | apply w_then_exit | apply w_then_ret | apply w_in | apply w_in_here | apply w_in_ret | apply w_round | apply o_nil | apply d_nil)) | ((with_reducible (first | apply w_in_exit)); rfl) | ((with_reducible (first | apply w_draw)); rfl) | ((first | ((with_reducible (first | apply o_op | apply d_op | apply q_op)); rfl; rfl) | ((with_reducible (first | apply w_cond | apply w_end | apply w_return))) | ((with_reducible (first | apply o_guard | apply d_guard | apply q_guard)); rfl) | ((with_reducible (first | apply o_call_eq | apply d_call | apply q_call)); rfl)); all_goals (first | ((with_reducible show Is _ _); ((try simp (disch := first | omega | (simp only [yA, yB, yC, yD, yE] <;> omega) | fail) [go_sem, yF, yG, yH, *, cons_get1, cons_take1, cons_drop1, if_pos, if_neg, -List.map_take, -List.map_drop, -List.map_append, -List.map_reverse]); exact rfl)) | ((fail_if_success (with_reducible show Is _ _)); (first | ((with_reducible refine fun (hc : (_ : Bool) = _) => ?_); (try simp only [xA, xB, xC, xD, xE, xF, xG, xH, reduceCtorEq, xI, xJ, xK, xL, xM, xN, xO, xP, xQ, xR] at hc); (try (have hx : True := hc; clear hx hc)); (try (exfalso; omega)); (try (with_reducible (exact absurd hc (by assumption)))); (try (with_reducible (exact absurd (by assumption) hc)))) | ((with_reducible show ACall _ _ _ _ _); (first | ((with_reducible (first | apply hit)) <;> (first | omega | assumption | exact rfl | ((simp (disch := first | omega | (simp only [yA, yB, yC, yD, yE] <;> omega) | fail) [go_sem, yF, yG, yH, *, cons_get1, cons_take1, cons_drop1, -List.map_take, -List.map_drop, -List.map_append, -List.map_reverse]) <;> (first | done | omega | exact rfl)))))) | ((fail_if_success (with_reducible show ACall _ _ _ _ _)); (try ((with_reducible show _ ∨ _); first | exact .inl rfl | (refine .inr ⟨rfl, ?_, ?_⟩; (focus (repeat (first | exact trivial | refine ⟨.inl rfl, ?_⟩ | refine ⟨.inr rfl, ?_⟩))); (first | exact trivial | exact rfl))))))))))
          have hi0 : i = 0 := hi0
          refine ⟨⟨i + 1, .view (B.length + 1) 0 1 1 false, by omega, by (simp (disch := omega) [go_sem, *]) <;> (try omega), by (simp (disch := omega) [go_sem, *]) <;> (try omega), by (simp (disch := omega) [go_sem, *]) <;> (try omega), by (simp (disch := omega) [go_sem, *]) <;> (try omega), .inr ⟨B.length + 1, false, by omega, by rw [hi0], ?_⟩⟩, by (simp (disch := omega) [go_sem, *]) <;> (try omega)⟩
          rw [hp]; simp
        · have xb := bx_pack hβ
          have z0 : ∀ y X, (B.set β y ++ X)[0]? = some ⟨.bool false :: A.map byteC, false⟩ := fun y X => by
            rw [List.getElem?_append_left (by rw [List.length_set]; exact (List.getElem?_eq_some_iff.1 h0).1), List.getElem?_set_ne hβ0]; exact h0
          repeat' (first | (with_reducible (first | apply w_seq | apply w_region | apply w_block | apply w_skip | apply w_exit | apply w_ret | apply w_then | apply w_then_exit | apply w_then_ret | apply w_in | apply w_in_here | apply w_in_ret | apply w_round | apply o_nil | apply d_nil)) | ((with_reducible (first | apply w_in_exit)); rfl) | ((with_reducible (first | apply w_draw)); rfl) | ((first | ((with_reducible (first | apply o_op | apply d_op | apply q_op)); rfl; rfl) | ((with_reducible (first | apply w_cond | apply w_end | apply w_return))) | ((with_reducible (first | apply o_guard | apply d_guard | apply q_guard)); rfl) | ((with_reducible (first | apply o_call_eq | apply d_call | apply q_call)); rfl)); all_goals (first | ((with_reducible show Is _ _); ((try simp (disch := first | omega | (simp only [yA, yB, yC, yD, yE] <;> omega) | fail) [go_sem, yF, yG, yH, *, cons_get1, cons_take1, cons_drop1, if_pos, if_neg, -List.map_take, -List.map_drop, -List.map_append, -List.map_reverse]); exact rfl)) | ((fail_if_success (with_reducible show Is _ _)); (first | ((with_reducible refine fun (hc : (_ : Bool) = _) => ?_); (try simp only [xA, xB, xC, xD, xE, xF, xG, xH, reduceCtorEq, xI, xJ, xK, xL, xM, xN, xO, xP, xQ, xR] at hc); (try (have hx : True := hc; clear hx hc)); (try (exfalso; omega)); (try (with_reducible (exact absurd hc (by assumption)))); (try (with_reducible (exact absurd (by assumption) hc)))) | ((with_reducible show ACall _ _ _ _ _); (first | ((with_reducible (first | apply hit)) <;> (first | omega | assumption | exact rfl | ((simp (disch := first | omega | (simp only [yA, yB, yC, yD, yE] <;> omega) | fail) [go_sem, yF, yG, yH, *, cons_get1, cons_take1, cons_drop1, -List.map_take, -List.map_drop, -List.map_append, -List.map_reverse]) <;> (first | done | omega | exact rfl)))))) | ((fail_if_success (with_reducible show ACall _ _ _ _ _)); (try ((with_reducible show _ ∨ _); first | exact .inl rfl | (refine .inr ⟨rfl, ?_, ?_⟩; (focus (repeat (first | exact trivial | refine ⟨.inl rfl, ?_⟩ | refine ⟨.inr rfl, ?_⟩))); (first | exact trivial | exact rfl))))))))))
          refine ⟨⟨i + 1, .view β 0 (i + 1) 1 false, by omega, by (simp (disch := omega) [go_sem, *]) <;> (try omega), by (simp (disch := omega) [go_sem, *]) <;> (try omega), by (simp (disch := omega) [go_sem, *]) <;> (try omega), by (simp (disch := omega) [go_sem, *]) <;> (try omega), .inr ⟨β, true, hβ0, rfl, ?_⟩⟩, by (simp (disch := omega) [go_sem, *]) <;> (try omega)⟩
          rw [hp, List.map_append]; (simp (disch := omega) [go_sem, *]) <;> (try omega)
      · obtain rfl : i = 4 := by omega
        rcases hO with ⟨hi0, _⟩ | ⟨β, m, hβ0, rfl, hβ⟩
        · omega
        · have hpl : (parts4 A 4).length = 4 := by simp [parts4]
          have hj : ∀ {B : List Box} {args : List CV}, Is (omap (Go.Sy.fz true false B 6) args) (some [.lst 4 ((parts4 A 4).map .str) false, .str [46]]) → ACall Tryd.prog 42 args B fun c B' => c = .str (Go.Lib.join (parts4 A 4) [46]) ∧ B' = B := fun h => join_at h hpl.symm (by omega) (by
            have := join_le (t := [46]) (k := 3) (parts4 A 4) fun x hx => by
              simp only [parts4, List.mem_map, List.mem_range] at hx
              obtain ⟨i, _, rfl⟩ := hx
              have := (A.getD i 0).toNat_lt
              exact decDigits_len 2 _ (by omega)
            rw [hpl] at this
            simp at this
            omega)
          generalize parts4 A 4 = L at *
          have xb := bx_pack hβ
          have htk : (L.map CV.str).take 4 = L.map CV.str := List.take_of_length_le (by simp; omega)
          repeat' (first | (with_reducible (first | apply w_seq | apply w_region | apply w_block | apply w_skip | apply w_exit | apply w_ret | apply w_then | apply w_then_exit | apply w_then_ret | apply w_in | apply w_in_here | apply w_in_ret | apply w_round | apply o_nil | apply d_nil)) | ((with_reducible (first | apply w_in_exit)); rfl) | ((with_reducible (first | apply w_draw)); rfl) | ((first | ((with_reducible (first | apply o_op | apply d_op | apply q_op)); rfl; rfl) | ((with_reducible (first | apply w_cond | apply w_end | apply w_return))) | ((with_reducible (first | apply o_guard | apply d_guard | apply q_guard)); rfl) | ((with_reducible (first | apply o_call_eq | apply d_call | apply q_call)); rfl)); all_goals (first | ((with_reducible show Is _ _); ((try simp (disch := first | omega | (simp only [yA, yB, yC, yD, yE] <;> omega) | fail) [go_sem, yF, yG, yH, *, omap_strs, if_pos, if_neg, -List.map_take, -List.map_drop, -List.map_append, -List.map_reverse]); exact rfl)) | ((fail_if_success (with_reducible show Is _ _)); (first | ((with_reducible refine fun (hc : (_ : Bool) = _) => ?_); (try simp only [xA, xB, xC, xD, xE, xF, xG, xH, reduceCtorEq, xI, xJ, xK, xL, xM, xN, xO, xP, xQ, xR] at hc); (try (have hx : True := hc; clear hx hc)); (try (exfalso; omega)); (try (with_reducible (exact absurd hc (by assumption)))); (try (with_reducible (exact absurd (by assumption) hc)))) | ((with_reducible show ACall _ _ _ _ _); (first | ((with_reducible (first | apply hj)) <;> (first | omega | assumption | exact rfl | ((simp (disch := first | omega | (simp only [yA, yB, yC, yD, yE] <;> omega) | fail) [go_sem, yF, yG, yH, *, omap_strs, -List.map_take, -List.map_drop, -List.map_append, -List.map_reverse]) <;> (first | done | omega | exact rfl)))))) | ((fail_if_success (with_reducible show ACall _ _ _ _ _)); (try ((with_reducible show _ ∨ _); first | exact .inl rfl | (refine .inr ⟨rfl, ?_, ?_⟩; (focus (repeat (first | exact trivial | refine ⟨.inl rfl, ?_⟩ | refine ⟨.inr rfl, ?_⟩))); (first | exact trivial | exact rfl))))))))))
          rfl
    · have hf : fmtA true A = Go.Lib.join (parts6 A 8) [58] := by simp [fmtA, hok]
      rw [hf]
      repeat' (first | (with_reducible (first | apply w_seq | apply w_region | apply w_block | apply w_skip | apply w_exit | apply w_ret | apply w_then | apply w_then_exit | apply w_then_ret | apply w_in | apply w_in_here | apply w_in_ret | apply w_round | apply o_nil | apply d_nil)) | ((with_reducible (first | apply w_in_exit)); rfl) | ((with_reducible (first | apply w_draw)); rfl) | ((first | ((with_reducible (first | apply o_op | apply d_op | apply q_op)); rfl; rfl) | ((with_reducible (first | apply w_cond | apply w_end | apply w_return))) | ((with_reducible (first | apply o_guard | apply d_guard | apply q_guard)); rfl) | ((with_reducible (first | apply o_call_eq | apply d_call | apply q_call)); rfl)); all_goals (first | ((with_reducible show Is _ _); ((try simp (disch := first | omega | (simp only [yA, yB, yC, yD, yE] <;> omega) | fail) [go_sem, yF, yG, yH, *, addrC, if_pos, if_neg, -List.map_take, -List.map_drop, -List.map_append, -List.map_reverse]); exact rfl)) | ((fail_if_success (with_reducible show Is _ _)); (first | ((with_reducible refine fun (hc : (_ : Bool) = _) => ?_); (try simp only [xA, xB, xC, xD, xE, xF, xG, xH, reduceCtorEq, xI, xJ, xK, xL, xM, xN, xO, xP, xQ, xR] at hc); (try (have hx : True := hc; clear hx hc)); (try (exfalso; omega)); (try (with_reducible (exact absurd hc (by assumption)))); (try (with_reducible (exact absurd (by assumption) hc)))) | ((with_reducible show ACall _ _ _ _ _); (first | ((with_reducible (first | apply hv)) <;> (first | omega | assumption | exact rfl | ((simp (disch := first | omega | (simp only [yA, yB, yC, yD, yE] <;> omega) | fail) [go_sem, yF, yG, yH, *, addrC, -List.map_take, -List.map_drop, -List.map_append, -List.map_reverse]) <;> (first | done | omega | exact rfl)))))) | ((fail_if_success (with_reducible show ACall _ _ _ _ _)); (try ((with_reducible show _ ∨ _); first | exact .inl rfl | (refine .inr ⟨rfl, ?_, ?_⟩; (focus (repeat (first | exact trivial | refine ⟨.inl rfl, ?_⟩ | refine ⟨.inr rfl, ?_⟩))); (first | exact trivial | exact rfl))))))))))
      refine w_loop (fun fr B => ∃ (i : Nat) (oc : CV), i ≤ 8 ∧ fr 11 = .int .i64 i ∧ fr 1 = .ptr 0 0 ∧ fr 3 = oc ∧ B[0]? = some ⟨.bool true :: A.map byteC, false⟩ ∧ ((i = 0 ∧ oc = .nilS) ∨ ∃ β m, β ≠ 0 ∧ oc = .view β 0 i 1 false ∧ B[β]? = some ⟨(parts6 A i).map .str, m⟩)) (fun fr _ => 8 - natOf (fr 11)) ?_ ?_
      · exact ⟨0, .nilS, by omega, by (simp (disch := omega) [go_sem, *]) <;> (try omega), by (simp (disch := omega) [go_sem, *]) <;> (try omega), by (simp (disch := omega) [go_sem, *]) <;> (try omega), by (simp (disch := omega) [go_sem, *]) <;> (try omega), .inl ⟨rfl, rfl⟩⟩
      rintro fr B ⟨i, oc, hi, h11, h1, h3, h0, hO⟩
      have x0 := bx_pack h0
      by_cases hc : i < 8
      · have hp := parts6_succ A i
        have hpl : (parts6 A i).length = i := by simp [parts6]
        have hg1 : A.getD (2 * i) 0 = A[2 * i]'(by omega) := by rw [List.getD_eq_getElem?_getD, List.getElem?_eq_getElem (by omega)]; rfl
        have hg2 : A.getD (2 * i + 1) 0 = A[2 * i + 1]'(by omega) := by rw [List.getD_eq_getElem?_getD, List.getElem?_eq_getElem (by omega)]; rfl
        have hgl := grp_lt A i
        have hor : bits .or .i64 (((A[2 * i]'(by omega)).toNat : Int) * 256) ((A[2 * i + 1]'(by omega)).toNat : Int) = (grp A i : Int) := by rw [or_grp, grp, hg1, hg2]
        have hlt1 := (A[2 * i]'(by omega)).toNat_lt
        have hlt2 := (A[2 * i + 1]'(by omega)).toNat_lt
        have hfm : ∀ {B : List Box} {args : List CV}, Is args [.int .i64 (grp A i), .int .i64 16] → ACall Tryd.prog 41 args B fun c B' => c = .str (hexT (grp A i)) ∧ B' = B := fun {B args} h => by
          have h : _ = _ := h
          subst h
          exact fmt16_at hgl
        generalize hexT (grp A i) = T at *
        generalize grp A i = g at *
        clear hg1 hg2
        have h2i : (2 * (i : Int)).toNat = 2 * i := by omega
        have h2i1 : (2 * (i : Int) + 1).toNat = 2 * i + 1 := by omega
        have z1 : ∀ (X : List Box) (h : 0 < (B ++ X).length), (B ++ X)[0]'h = ⟨.bool true :: A.map byteC, false⟩ := fun X h => by
          have := x0.1 X
          rw [List.getElem?_eq_getElem h] at this
          exact Option.some.inj this
        rcases hO with ⟨hi0, rfl⟩ | ⟨β, m, hβ0, rfl, hβ⟩
        · have hp0 : parts6 A i = [] := by rw [hi0]; rfl
          rw [hp0] at hp
          replace hi0 : Hid _ := hi0
          repeat' (first | (with_reducible (first | apply w_seq | apply w_region | apply w_block | apply w_skip | apply w_exit | apply w_ret | apply w_then | apply w_then_exit | apply w_then_ret | apply w_in | apply w_in_here | apply w_in_ret | apply w_round | apply o_nil | apply d_nil)) | ((with_reducible (first | apply w_in_exit)); rfl) | ((first | ((with_reducible (first | apply o_op | apply d_op | apply q_op)); rfl; rfl) | ((with_reducible (first | apply w_cond | apply w_end | apply w_return))) | ((with_reducible (first | apply o_guard | apply d_guard | apply q_guard)); rfl)); all_goals (first | ((with_reducible show Is _ _); ((try simp (disch := first | omega | (simp only [yA, yB, yC, yD, yE] <;> omega) | fail) [go_sem, yF, yG, yH, *, if_pos, if_neg, -List.map_take, -List.map_drop, -List.map_append, -List.map_reverse]); exact rfl)) | ((fail_if_success (with_reducible show Is _ _)); (first | ((with_reducible refine fun (hc : (_ : Bool) = _) => ?_); (try simp only [xA, xB, xC, xD, xE, xF, xG, xH, reduceCtorEq, xI, xJ, xK, xL, xM, xN, xO, xP, xQ, xR] at hc); (try (have hx : True := hc; clear hx hc)); (try (exfalso; omega)); (try (with_reducible (exact absurd hc (by assumption)))); (try (with_reducible (exact absurd (by assumption) hc)))) | ((fail_if_success (with_reducible show ACall _ _ _ _ _)); (try ((with_reducible show _ ∨ _); first | exact .inl rfl | (refine .inr ⟨rfl, ?_, ?_⟩; (focus (repeat (first | exact trivial | refine ⟨.inl rfl, ?_⟩ | refine ⟨.inr rfl, ?_⟩))); (first | exact trivial | exact rfl))))))))))
          refine w_drawH [17] [⟨[.str T], false⟩] rfl rfl ?_
          repeat' (first | (with_reducible (first | apply w_seq | apply w_region | apply w_block | apply w_skip | apply w_exit | apply w_ret | apply w_then | apply w_then_exit | apply w_then_ret | apply w_in | apply w_in_here | apply w_in_ret | apply w_round | apply o_nil | apply d_nil)) | ((with_reducible (first | apply w_in_exit)); rfl) | ((first | ((with_reducible (first | apply d_made | apply q_made)); rfl; rfl)); (iterate 6 ((try simp (disch := first | omega | (simp only [yA, yB, yC, yD, yE] <;> omega) | fail) [go_sem, yF, yG, yH, *, cons_get1, cons_take1, cons_drop1, if_pos, if_neg, -List.map_take, -List.map_drop, -List.map_append, -List.map_reverse]); exact rfl))) | ((first | ((with_reducible (first | apply d_fop | apply q_fop)); rfl; rfl)); (intro Bx hJ; (first | (obtain ⟨_, hJ1, hJ2⟩ := hJ) | (try simp only at hJ)); ((try simp (disch := first | omega | (simp only [yA, yB, yC, yD, yE] <;> omega) | fail) [go_sem, yF, yG, yH, *, cons_get1, cons_take1, cons_drop1, if_pos, if_neg, -List.map_take, -List.map_drop, -List.map_append, -List.map_reverse]); exact rfl))) | ((with_reducible (first | apply d_free | apply q_free)); rfl; (iterate 2 ((try simp (disch := first | omega | (simp only [yA, yB, yC, yD, yE] <;> omega) | fail) [go_sem, yF, yG, yH, *, cons_get1, cons_take1, cons_drop1, if_pos, if_neg, -List.map_take, -List.map_drop, -List.map_append, -List.map_reverse]); exact rfl)); (intro Bx hJ); (first | ((with_reducible (first | apply hfm)) <;> (first | omega | assumption | exact rfl | ((simp (disch := first | omega | (simp only [yA, yB, yC, yD, yE] <;> omega) | fail) [go_sem, yF, yG, yH, *, cons_get1, cons_take1, cons_drop1, -List.map_take, -List.map_drop, -List.map_append, -List.map_reverse]) <;> (first | done | omega | exact rfl)))))) | ((first | ((with_reducible (first | apply o_op | apply d_op | apply q_op)); rfl; rfl) | ((with_reducible (first | apply w_cond | apply w_end | apply w_return))) | ((with_reducible (first | apply o_guard | apply d_guard | apply q_guard)); rfl) | ((with_reducible (first | apply o_call_eq | apply d_call | apply q_call)); rfl)); all_goals (first | ((with_reducible show Is _ _); ((try simp (disch := first | omega | (simp only [yA, yB, yC, yD, yE] <;> omega) | fail) [go_sem, yF, yG, yH, *, cons_get1, cons_take1, cons_drop1, if_pos, if_neg, -List.map_take, -List.map_drop, -List.map_append, -List.map_reverse]); exact rfl)) | ((fail_if_success (with_reducible show Is _ _)); (first | ((with_reducible refine fun (hc : (_ : Bool) = _) => ?_); (try simp only [xA, xB, xC, xD, xE, xF, xG, xH, reduceCtorEq, xI, xJ, xK, xL, xM, xN, xO, xP, xQ, xR] at hc); (try (have hx : True := hc; clear hx hc)); (try (exfalso; omega)); (try (with_reducible (exact absurd hc (by assumption)))); (try (with_reducible (exact absurd (by assumption) hc)))) | ((with_reducible show ACall _ _ _ _ _); (first | ((with_reducible (first | apply hfm)) <;> (first | omega | assumption | exact rfl | ((simp (disch := first | omega | (simp only [yA, yB, yC, yD, yE] <;> omega) | fail) [go_sem, yF, yG, yH, *, cons_get1, cons_take1, cons_drop1, -List.map_take, -List.map_drop, -List.map_append, -List.map_reverse]) <;> (first | done | omega | exact rfl)))))) | ((fail_if_success (with_reducible show ACall _ _ _ _ _)); (try ((with_reducible show _ ∨ _); first | exact .inl rfl | (refine .inr ⟨rfl, ?_, ?_⟩; (focus (repeat (first | exact trivial | refine ⟨.inl rfl, ?_⟩ | refine ⟨.inr rfl, ?_⟩ | refine ⟨.inr (by (simp (disch := first | omega | (simp only [yA, yB, yC, yD, yE] <;> omega) | fail) [go_sem, yF, yG, yH, *, cons_get1, cons_take1, cons_drop1, -List.map_take, -List.map_drop, -List.map_append, -List.map_reverse])), ?_⟩))); (first | exact trivial | exact rfl | (refine ⟨_, ?_, ?_⟩; (focus (simp (disch := first | omega | (simp only [yA, yB, yC, yD, yE] <;> omega) | fail) [go_sem, yF, yG, yH, *, cons_get1, cons_take1, cons_drop1, -List.map_take, -List.map_drop, -List.map_append, -List.map_reverse]; (try exact rfl))); (simp (disch := first | omega | (simp only [yA, yB, yC, yD, yE] <;> omega) | fail) [go_sem, yF, yG, yH, *, cons_get1, cons_take1, cons_drop1, -List.map_take, -List.map_drop, -List.map_append, -List.map_reverse])) | (simp (disch := first | omega | (simp only [yA, yB, yC, yD, yE] <;> omega) | fail) [go_sem, yF, yG, yH, *, cons_get1, cons_take1, cons_drop1, -List.map_take, -List.map_drop, -List.map_append, -List.map_reverse]))) | exact .inl (by (simp (disch := first | omega | (simp only [yA, yB, yC, yD, yE] <;> omega) | fail) [go_sem, yF, yG, yH, *, cons_get1, cons_take1, cons_drop1, -List.map_take, -List.map_drop, -List.map_append, -List.map_reverse]))))))))))
          have hi0 : i = 0 := hi0
          refine ⟨⟨i + 1, .view (B.length + 1) 0 1 1 false, by omega, by (simp (disch := omega) [go_sem, *]) <;> (try omega), by (simp (disch := omega) [go_sem, *]) <;> (try omega), by (simp (disch := omega) [go_sem, *]) <;> (try omega), by (simp (disch := omega) [go_sem, *]) <;> (try omega), .inr ⟨B.length + 1, false, by omega, by rw [hi0], ?_⟩⟩, by (simp (disch := omega) [go_sem, *]) <;> (try omega)⟩
          rw [hp]; simp
        · have xb := bx_pack hβ
          have z0 : ∀ y X, (B.set β y ++ X)[0]? = some ⟨.bool true :: A.map byteC, false⟩ := fun y X => by
            rw [List.getElem?_append_left (by rw [List.length_set]; exact (List.getElem?_eq_some_iff.1 h0).1), List.getElem?_set_ne hβ0]; exact h0
          repeat' (first | (with_reducible (first | apply w_seq | apply w_region | apply w_block | apply w_skip | apply w_exit | apply w_ret | apply w_then | apply w_then_exit | apply w_then_ret | apply w_in | apply w_in_here | apply w_in_ret | apply w_round | apply o_nil | apply d_nil)) | ((with_reducible (first | apply w_in_exit)); rfl) | ((first | ((with_reducible (first | apply o_op | apply d_op | apply q_op)); rfl; rfl) | ((with_reducible (first | apply w_cond | apply w_end | apply w_return))) | ((with_reducible (first | apply o_guard | apply d_guard | apply q_guard)); rfl)); all_goals (first | ((with_reducible show Is _ _); ((try simp (disch := first | omega | (simp only [yA, yB, yC, yD, yE] <;> omega) | fail) [go_sem, yF, yG, yH, *, if_pos, if_neg, -List.map_take, -List.map_drop, -List.map_append, -List.map_reverse]); exact rfl)) | ((fail_if_success (with_reducible show Is _ _)); (first | ((with_reducible refine fun (hc : (_ : Bool) = _) => ?_); (try simp only [xA, xB, xC, xD, xE, xF, xG, xH, reduceCtorEq, xI, xJ, xK, xL, xM, xN, xO, xP, xQ, xR] at hc); (try (have hx : True := hc; clear hx hc)); (try (exfalso; omega)); (try (with_reducible (exact absurd hc (by assumption)))); (try (with_reducible (exact absurd (by assumption) hc)))) | ((fail_if_success (with_reducible show ACall _ _ _ _ _)); (try ((with_reducible show _ ∨ _); first | exact .inl rfl | (refine .inr ⟨rfl, ?_, ?_⟩; (focus (repeat (first | exact trivial | refine ⟨.inl rfl, ?_⟩ | refine ⟨.inr rfl, ?_⟩))); (first | exact trivial | exact rfl))))))))))
          refine w_drawH [17] [⟨[.str T], false⟩] rfl rfl ?_
          repeat' (first | (with_reducible (first | apply w_seq | apply w_region | apply w_block | apply w_skip | apply w_exit | apply w_ret | apply w_then | apply w_then_exit | apply w_then_ret | apply w_in | apply w_in_here | apply w_in_ret | apply w_round | apply o_nil | apply d_nil)) | ((with_reducible (first | apply w_in_exit)); rfl) | ((first | ((with_reducible (first | apply d_made | apply q_made)); rfl; rfl)); (iterate 6 ((try simp (disch := first | omega | (simp only [yA, yB, yC, yD, yE] <;> omega) | fail) [go_sem, yF, yG, yH, *, cons_get1, cons_take1, cons_drop1, if_pos, if_neg, -List.map_take, -List.map_drop, -List.map_append, -List.map_reverse]); exact rfl))) | ((first | ((with_reducible (first | apply d_fop | apply q_fop)); rfl; rfl)); (intro Bx hJ; (first | (obtain ⟨_, hJ1, hJ2⟩ := hJ) | (try simp only at hJ)); ((try simp (disch := first | omega | (simp only [yA, yB, yC, yD, yE] <;> omega) | fail) [go_sem, yF, yG, yH, *, cons_get1, cons_take1, cons_drop1, if_pos, if_neg, -List.map_take, -List.map_drop, -List.map_append, -List.map_reverse]); exact rfl))) | ((with_reducible (first | apply d_free | apply q_free)); rfl; (iterate 2 ((try simp (disch := first | omega | (simp only [yA, yB, yC, yD, yE] <;> omega) | fail) [go_sem, yF, yG, yH, *, cons_get1, cons_take1, cons_drop1, if_pos, if_neg, -List.map_take, -List.map_drop, -List.map_append, -List.map_reverse]); exact rfl)); (intro Bx hJ); (first | ((with_reducible (first | apply hfm)) <;> (first | omega | assumption | exact rfl | ((simp (disch := first | omega | (simp only [yA, yB, yC, yD, yE] <;> omega) | fail) [go_sem, yF, yG, yH, *, cons_get1, cons_take1, cons_drop1, -List.map_take, -List.map_drop, -List.map_append, -List.map_reverse]) <;> (first | done | omega | exact rfl)))))) | ((first | ((with_reducible (first | apply o_op | apply d_op | apply q_op)); rfl; rfl) | ((with_reducible (first | apply w_cond | apply w_end | apply w_return))) | ((with_reducible (first | apply o_guard | apply d_guard | apply q_guard)); rfl) | ((with_reducible (first | apply o_call_eq | apply d_call | apply q_call)); rfl)); all_goals (first | ((with_reducible show Is _ _); ((try simp (disch := first | omega | (simp only [yA, yB, yC, yD, yE] <;> omega) | fail) [go_sem, yF, yG, yH, *, cons_get1, cons_take1, cons_drop1, if_pos, if_neg, -List.map_take, -List.map_drop, -List.map_append, -List.map_reverse]); exact rfl)) | ((fail_if_success (with_reducible show Is _ _)); (first | ((with_reducible refine fun (hc : (_ : Bool) = _) => ?_); (try simp only [xA, xB, xC, xD, xE, xF, xG, xH, reduceCtorEq, xI, xJ, xK, xL, xM, xN, xO, xP, xQ, xR] at hc); (try (have hx : True := hc; clear hx hc)); (try (exfalso; omega)); (try (with_reducible (exact absurd hc (by assumption)))); (try (with_reducible (exact absurd (by assumption) hc)))) | ((with_reducible show ACall _ _ _ _ _); (first | ((with_reducible (first | apply hfm)) <;> (first | omega | assumption | exact rfl | ((simp (disch := first | omega | (simp only [yA, yB, yC, yD, yE] <;> omega) | fail) [go_sem, yF, yG, yH, *, cons_get1, cons_take1, cons_drop1, -List.map_take, -List.map_drop, -List.map_append, -List.map_reverse]) <;> (first | done | omega | exact rfl)))))) | ((fail_if_success (with_reducible show ACall _ _ _ _ _)); (try ((with_reducible show _ ∨ _); first | exact .inl rfl | (refine .inr ⟨rfl, ?_, ?_⟩; (focus (repeat (first | exact trivial | refine ⟨.inl rfl, ?_⟩ | refine ⟨.inr rfl, ?_⟩ | refine ⟨.inr (by (simp (disch := first | omega | (simp only [yA, yB, yC, yD, yE] <;> omega) | fail) [go_sem, yF, yG, yH, *, cons_get1, cons_take1, cons_drop1, -List.map_take, -List.map_drop, -List.map_append, -List.map_reverse])), ?_⟩))); (first | exact trivial | exact rfl | (refine ⟨_, ?_, ?_⟩; (focus (simp (disch := first | omega | (simp only [yA, yB, yC, yD, yE] <;> omega) | fail) [go_sem, yF, yG, yH, *, cons_get1, cons_take1, cons_drop1, -List.map_take, -List.map_drop, -List.map_append, -List.map_reverse]; (try exact rfl))); (simp (disch := first | omega | (simp only [yA, yB, yC, yD, yE] <;> omega) | fail) [go_sem, yF, yG, yH, *, cons_get1, cons_take1, cons_drop1, -List.map_take, -List.map_drop, -List.map_append, -List.map_reverse])) | (simp (disch := first | omega | (simp only [yA, yB, yC, yD, yE] <;> omega) | fail) [go_sem, yF, yG, yH, *, cons_get1, cons_take1, cons_drop1, -List.map_take, -List.map_drop, -List.map_append, -List.map_reverse]))) | exact .inl (by (simp (disch := first | omega | (simp only [yA, yB, yC, yD, yE] <;> omega) | fail) [go_sem, yF, yG, yH, *, cons_get1, cons_take1, cons_drop1, -List.map_take, -List.map_drop, -List.map_append, -List.map_reverse]))))))))))
          refine ⟨⟨i + 1, .view β 0 (i + 1) 1 false, by omega, by (simp (disch := omega) [go_sem, *]) <;> (try omega), by (simp (disch := omega) [go_sem, *]) <;> (try omega), by (simp (disch := omega) [go_sem, *]) <;> (try omega), by (simp (disch := omega) [go_sem, *]) <;> (try omega), .inr ⟨β, true, hβ0, rfl, ?_⟩⟩, by (simp (disch := omega) [go_sem, *]) <;> (try omega)⟩
          rw [hp, List.map_append]; (simp (disch := omega) [go_sem, *]) <;> (try omega)
      · obtain rfl : i = 8 := by omega
        rcases hO with ⟨hi0, _⟩ | ⟨β, m, hβ0, rfl, hβ⟩
        · omega
        · have hpl : (parts6 A 8).length = 8 := by simp [parts6]
          have hj : ∀ {B : List Box} {args : List CV}, Is (omap (Go.Sy.fz true false B 6) args) (some [.lst 8 ((parts6 A 8).map .str) false, .str [58]]) → ACall Tryd.prog 42 args B fun c B' => c = .str (Go.Lib.join (parts6 A 8) [58]) ∧ B' = B := fun h => join_at h hpl.symm (by omega) (by
            have := join_le (t := [58]) (k := 4) (parts6 A 8) fun x hx => by
              simp only [parts6, List.mem_map, List.mem_range] at hx
              obtain ⟨i, _, rfl⟩ := hx
              exact hexT_len 3 _ (grp_lt A i)
            rw [hpl] at this
            simp at this
            omega)
          generalize parts6 A 8 = L at *
          have xb := bx_pack hβ
          have htk : (L.map CV.str).take 8 = L.map CV.str := List.take_of_length_le (by simp; omega)
          repeat' (first | (with_reducible (first | apply w_seq | apply w_region | apply w_block | apply w_skip | apply w_exit | apply w_ret | apply w_then | apply w_then_exit | apply w_then_ret | apply w_in | apply w_in_here | apply w_in_ret | apply w_round | apply o_nil | apply d_nil)) | ((with_reducible (first | apply w_in_exit)); rfl) | ((with_reducible (first | apply w_draw)); rfl) | ((first | ((with_reducible (first | apply o_op | apply d_op | apply q_op)); rfl; rfl) | ((with_reducible (first | apply w_cond | apply w_end | apply w_return))) | ((with_reducible (first | apply o_guard | apply d_guard | apply q_guard)); rfl) | ((with_reducible (first | apply o_call_eq | apply d_call | apply q_call)); rfl)); all_goals (first | ((with_reducible show Is _ _); ((try simp (disch := first | omega | (simp only [yA, yB, yC, yD, yE] <;> omega) | fail) [go_sem, yF, yG, yH, *, omap_strs, if_pos, if_neg, -List.map_take, -List.map_drop, -List.map_append, -List.map_reverse]); exact rfl)) | ((fail_if_success (with_reducible show Is _ _)); (first | ((with_reducible refine fun (hc : (_ : Bool) = _) => ?_); (try simp only [xA, xB, xC, xD, xE, xF, xG, xH, reduceCtorEq, xI, xJ, xK, xL, xM, xN, xO, xP, xQ, xR] at hc); (try (have hx : True := hc; clear hx hc)); (try (exfalso; omega)); (try (with_reducible (exact absurd hc (by assumption)))); (try (with_reducible (exact absurd (by assumption) hc)))) | ((with_reducible show ACall _ _ _ _ _); (first | ((with_reducible (first | apply hj)) <;> (first | omega | assumption | exact rfl | ((simp (disch := first | omega | (simp only [yA, yB, yC, yD, yE] <;> omega) | fail) [go_sem, yF, yG, yH, *, omap_strs, -List.map_take, -List.map_drop, -List.map_append, -List.map_reverse]) <;> (first | done | omega | exact rfl)))))) | ((fail_if_success (with_reducible show ACall _ _ _ _ _)); (try ((with_reducible show _ ∨ _); first | exact .inl rfl | (refine .inr ⟨rfl, ?_, ?_⟩; (focus (repeat (first | exact trivial | refine ⟨.inl rfl, ?_⟩ | refine ⟨.inr rfl, ?_⟩))); (first | exact trivial | exact rfl))))))))))
          rfl
theorem fmtAddr_at {B : List Box} {args : List CV} {six : Bool} {A : List UInt8} (hz : Is (omap (Go.Sy.fz true false B 6) args) (some [addrC six A])) (hA : A.length = 16) : ACall Tryd.prog 15 args B fun c B' => c = .str (fmtA six A) ∧ B' = B := acall_fresh hz (fmtAddr_in six A hA)
end Go.Proofs.YtdceppjoipoohaaDoor
end
section
namespace Go.Proofs.YtdceppjoipoohaaDoor
open Go Go.Sy
set_option linter.all false
set_option maxRecDepth 100000
set_option maxHeartbeats 4000000
theorem joinTail_snoc (t : List UInt8) (L : List (List UInt8)) (x : List UInt8) : Go.Lib.joinTail t (L ++ [x]) = Go.Lib.joinTail t L ++ (t ++ x) := by simp [Go.Lib.joinTail]
theorem joinTail_drop (c : UInt8) (L : List (List UInt8)) : (Go.Lib.joinTail [c] L).drop 1 = Go.Lib.join L [c] := by
  cases L with
  | nil => rfl
  | cons x xs => rw [Go.Lib.join_cons]; simp [Go.Lib.joinTail]
theorem joinTail_le {t : List UInt8} {k : Nat} : ∀ L : List (List UInt8), (∀ x ∈ L, x.length ≤ k) → (Go.Lib.joinTail t L).length ≤ L.length * (k + t.length)
  | [], _ => by simp [Go.Lib.joinTail]
  | y :: ys, h => by
    have := joinTail_le (t := t) ys (fun z hz => h z (by simp [hz]))
    have h1 := h y (by simp)
    unfold Go.Lib.joinTail at this ⊢
    rw [List.map_cons, List.flatten_cons, List.length_append, List.length_append, List.length_cons, Nat.succ_mul]
    omega
theorem parts4_le (A : List UInt8) (n : Nat) : (Go.Lib.joinTail [46] (parts4 A n)).length ≤ n * 4 := by
  have := joinTail_le (t := [46]) (k := 3) (parts4 A n) fun x hx => by
    simp only [parts4, List.mem_map, List.mem_range] at hx
    obtain ⟨i, _, rfl⟩ := hx
    have := (A.getD i 0).toNat_lt
    exact decDigits_len 2 _ (by omega)
  simpa [parts4] using this
theorem parts6_le (A : List UInt8) (n : Nat) : (Go.Lib.joinTail [58] (parts6 A n)).length ≤ n * 5 := by
  have := joinTail_le (t := [58]) (k := 4) (parts6 A n) fun x hx => by
    simp only [parts6, List.mem_map, List.mem_range] at hx
    obtain ⟨i, _, rfl⟩ := hx
    exact hexT_len 3 _ (grp_lt A i)
  simpa [parts6] using this
theorem rfmtAddr_in (six : Bool) (A : List UInt8) (hA : A.length = 16) : PC Tryd.prog true 11 [addrC six A] (.str (fmtA six A)) := by
  have hv : ∀ {B : List Box} {args : List CV}, Is (omap (Go.Sy.fz true false B 6) args) (some [addrC six A]) → ACall Tryd.prog 33 args B fun c B' => c = .bool (okA six A) ∧ B' = B := fun h => sound_at h hA
  refine acall_intro mixed Tryd.func11 rfl ca11 (by kernel_rfl) (by rw [Tryd.ntmps11]; simp) ?_
  cases hok : okA six A with
  | false =>
    rw [hok] at hv
    have hf : fmtA six A = [] := by simp [fmtA, hok]
    rw [hf]
    repeat' (first | (with_reducible (first | apply w_seq | apply w_region | apply w_block | apply w_skip | apply w_exit | apply w_ret | apply w_then | apply w_then_exit | apply w_then_ret | apply w_in | apply w_in_here | apply w_in_ret | apply w_round | apply o_nil | apply d_nil)) | ((with_reducible (first | apply w_in_exit)); rfl) | ((with_reducible (first | apply w_draw)); rfl) | ((first | ((with_reducible (first | apply o_op | apply d_op | apply q_op)); rfl; rfl) | ((with_reducible (first | apply w_cond | apply w_end | apply w_return))) | ((with_reducible (first | apply o_guard | apply d_guard | apply q_guard)); rfl) | ((with_reducible (first | apply o_call_eq | apply d_call | apply q_call)); rfl)); all_goals (first | ((with_reducible show Is _ _); ((try simp (disch := first | omega | (simp only [yA, yB, yC, yD, yE] <;> omega) | fail) [go_sem, yF, yG, yH, *, addrC, if_pos, if_neg, -List.map_take, -List.map_drop, -List.map_append, -List.map_reverse]); exact rfl)) | ((fail_if_success (with_reducible show Is _ _)); (first | ((with_reducible refine fun (hc : (_ : Bool) = _) => ?_); (try simp only [xA, xB, xC, xD, xE, xF, xG, xH, reduceCtorEq, xI, xJ, xK, xL, xM, xN, xO, xP, xQ, xR] at hc); (try (have hx : True := hc; clear hx hc)); (try (exfalso; omega)); (try (with_reducible (exact absurd hc (by assumption)))); (try (with_reducible (exact absurd (by assumption) hc)))) | ((with_reducible show ACall _ _ _ _ _); (first | ((with_reducible (first | apply hv)) <;> (first | omega | assumption | exact rfl | ((simp (disch := first | omega | (simp only [yA, yB, yC, yD, yE] <;> omega) | fail) [go_sem, yF, yG, yH, *, addrC, -List.map_take, -List.map_drop, -List.map_append, -List.map_reverse]) <;> (first | done | omega | exact rfl)))))) | ((fail_if_success (with_reducible show ACall _ _ _ _ _)); (try ((with_reducible show _ ∨ _); first | exact .inl rfl | (refine .inr ⟨rfl, ?_, ?_⟩; (focus (repeat (first | exact trivial | refine ⟨.inl rfl, ?_⟩ | refine ⟨.inr rfl, ?_⟩))); (first | exact trivial | exact rfl))))))))))
    rfl
  | true =>
    rw [hok] at hv
    cases six
    · have hf : fmtA false A = (Go.Lib.joinTail [46] (parts4 A 4)).drop 1 := by rw [joinTail_drop]; simp [fmtA, hok]
      rw [hf]
      repeat' (first | (with_reducible (first | apply w_seq | apply w_region | apply w_block | apply w_skip | apply w_exit | apply w_ret | apply w_then | apply w_then_exit | apply w_then_ret | apply w_in | apply w_in_here | apply w_in_ret | apply w_round | apply o_nil | apply d_nil)) | ((with_reducible (first | apply w_in_exit)); rfl) | ((with_reducible (first | apply w_draw)); rfl) | ((first | ((with_reducible (first | apply o_op | apply d_op | apply q_op)); rfl; rfl) | ((with_reducible (first | apply w_cond | apply w_end | apply w_return))) | ((with_reducible (first | apply o_guard | apply d_guard | apply q_guard)); rfl) | ((with_reducible (first | apply o_call_eq | apply d_call | apply q_call)); rfl)); all_goals (first | ((with_reducible show Is _ _); ((try simp (disch := first | omega | (simp only [yA, yB, yC, yD, yE] <;> omega) | fail) [go_sem, yF, yG, yH, *, addrC, if_pos, if_neg, -List.map_take, -List.map_drop, -List.map_append, -List.map_reverse]); exact rfl)) | ((fail_if_success (with_reducible show Is _ _)); (first | ((with_reducible refine fun (hc : (_ : Bool) = _) => ?_); (try simp only [xA, xB, xC, xD, xE, xF, xG, xH, reduceCtorEq, xI, xJ, xK, xL, xM, xN, xO, xP, xQ, xR] at hc); (try (have hx : True := hc; clear hx hc)); (try (exfalso; omega)); (try (with_reducible (exact absurd hc (by assumption)))); (try (with_reducible (exact absurd (by assumption) hc)))) | ((with_reducible show ACall _ _ _ _ _); (first | ((with_reducible (first | apply hv)) <;> (first | omega | assumption | exact rfl | ((simp (disch := first | omega | (simp only [yA, yB, yC, yD, yE] <;> omega) | fail) [go_sem, yF, yG, yH, *, addrC, -List.map_take, -List.map_drop, -List.map_append, -List.map_reverse]) <;> (first | done | omega | exact rfl)))))) | ((fail_if_success (with_reducible show ACall _ _ _ _ _)); (try ((with_reducible show _ ∨ _); first | exact .inl rfl | (refine .inr ⟨rfl, ?_, ?_⟩; (focus (repeat (first | exact trivial | refine ⟨.inl rfl, ?_⟩ | refine ⟨.inr rfl, ?_⟩))); (first | exact trivial | exact rfl))))))))))
      refine w_loop (fun fr B => ∃ i : Nat, i ≤ 4 ∧ fr 4 = .int .i64 i ∧ fr 1 = .ptr 0 0 ∧ fr 3 = .str (Go.Lib.joinTail [46] (parts4 A i)) ∧ B = [⟨.bool false :: A.map byteC, false⟩]) (fun fr _ => 4 - natOf (fr 4)) ?_ ?_
      · exact ⟨0, by omega, by (simp (disch := omega) [go_sem, *]) <;> (try omega), by (simp (disch := omega) [go_sem, *]) <;> (try omega), by (simp (disch := omega) [go_sem, *, parts4, Go.Lib.joinTail]) <;> (try omega), rfl⟩
      rintro fr B ⟨i, hi, h4, h1, h3, rfl⟩
      have hle := parts4_le A i
      by_cases hc : i < 4
      · have hp := joinTail_snoc [46] (parts4 A i) (Go.Lib.decDigits (A.getD i 0).toNat)
        rw [← parts4_succ] at hp
        have hgd : A.getD i 0 = A[i]'(by omega) := by rw [List.getD_eq_getElem?_getD, List.getElem?_eq_getElem (by omega)]; rfl
        have hlt := (A[i]'(by omega)).toNat_lt
        have hit : ∀ {B : List Box} {args : List CV}, Is args [.int .i64 ((A[i]'(by omega)).toNat : Int)] → ACall Tryd.prog 34 args B fun c B' => c = .str (Go.Lib.decDigits (A.getD i 0).toNat) ∧ B' = B := fun {B args} h => by
          have h : _ = _ := h
          subst h
          rw [hgd]
          exact rdec_at _ (by omega)
        have hdl := decDigits_len 2 (A.getD i 0).toNat (by rw [hgd]; omega)
        generalize Go.Lib.decDigits (A.getD i 0).toNat = T at *
        generalize Go.Lib.joinTail [46] (parts4 A i) = J at *
        clear hgd
        repeat' (first | (with_reducible (first | apply w_seq | apply w_region | apply w_block | apply w_skip | apply w_exit | apply w_ret | apply w_then | apply w_then_exit | apply w_then_ret | apply w_in | apply w_in_here | apply w_in_ret | apply w_round | apply o_nil | apply d_nil)) | ((with_reducible (first | apply w_in_exit)); rfl) | ((with_reducible (first | apply w_draw)); rfl) | ((first | ((with_reducible (first | apply o_op | apply d_op | apply q_op)); rfl; rfl) | ((with_reducible (first | apply w_cond | apply w_end | apply w_return))) | ((with_reducible (first | apply o_guard | apply d_guard | apply q_guard)); rfl) | ((with_reducible (first | apply o_call_eq | apply d_call | apply q_call)); rfl)); all_goals (first | ((with_reducible show Is _ _); ((try simp (disch := first | omega | (simp only [yA, yB, yC, yD, yE] <;> omega) | fail) [go_sem, yF, yG, yH, *, cons_get1, cons_take1, cons_drop1, if_pos, if_neg, -List.map_take, -List.map_drop, -List.map_append, -List.map_reverse]); exact rfl)) | ((fail_if_success (with_reducible show Is _ _)); (first | ((with_reducible refine fun (hc : (_ : Bool) = _) => ?_); (try simp only [xA, xB, xC, xD, xE, xF, xG, xH, reduceCtorEq, xI, xJ, xK, xL, xM, xN, xO, xP, xQ, xR] at hc); (try (have hx : True := hc; clear hx hc)); (try (exfalso; omega)); (try (with_reducible (exact absurd hc (by assumption)))); (try (with_reducible (exact absurd (by assumption) hc)))) | ((with_reducible show ACall _ _ _ _ _); (first | ((with_reducible (first | apply hit)) <;> (first | omega | assumption | exact rfl | ((simp (disch := first | omega | (simp only [yA, yB, yC, yD, yE] <;> omega) | fail) [go_sem, yF, yG, yH, *, cons_get1, cons_take1, cons_drop1, -List.map_take, -List.map_drop, -List.map_append, -List.map_reverse]) <;> (first | done | omega | exact rfl)))))) | ((fail_if_success (with_reducible show ACall _ _ _ _ _)); (try ((with_reducible show _ ∨ _); first | exact .inl rfl | (refine .inr ⟨rfl, ?_, ?_⟩; (focus (repeat (first | exact trivial | refine ⟨.inl rfl, ?_⟩ | refine ⟨.inr rfl, ?_⟩))); (first | exact trivial | exact rfl))))))))))
        exact ⟨⟨i + 1, by omega, by (simp (disch := omega) [go_sem, *]) <;> (try omega), by (simp (disch := omega) [go_sem, *]) <;> (try omega), by rw [hp] <;> (simp (disch := omega) [go_sem, *]) <;> (try omega), rfl⟩, by (simp (disch := omega) [go_sem, *]) <;> (try omega)⟩
      · obtain rfl : i = 4 := by omega
        have h1l : 1 ≤ (Go.Lib.joinTail [46] (parts4 A 4)).length := by simp [parts4, Go.Lib.joinTail, List.range_succ]
        generalize Go.Lib.joinTail [46] (parts4 A 4) = J at *
        repeat' (first | (with_reducible (first | apply w_seq | apply w_region | apply w_block | apply w_skip | apply w_exit | apply w_ret | apply w_then | apply w_then_exit | apply w_then_ret | apply w_in | apply w_in_here | apply w_in_ret | apply w_round | apply o_nil | apply d_nil)) | ((with_reducible (first | apply w_in_exit)); rfl) | ((with_reducible (first | apply w_draw)); rfl) | ((first | ((with_reducible (first | apply o_op | apply d_op | apply q_op)); rfl; rfl) | ((with_reducible (first | apply w_cond | apply w_end | apply w_return))) | ((with_reducible (first | apply o_guard | apply d_guard | apply q_guard)); rfl)); all_goals (first | ((with_reducible show Is _ _); ((try simp (disch := first | omega | (simp only [yA, yB, yC, yD, yE] <;> omega) | fail) [go_sem, yF, yG, yH, *, if_pos, if_neg, -List.map_take, -List.map_drop, -List.map_append, -List.map_reverse]); exact rfl)) | ((fail_if_success (with_reducible show Is _ _)); (first | ((with_reducible refine fun (hc : (_ : Bool) = _) => ?_); (try simp only [xA, xB, xC, xD, xE, xF, xG, xH, reduceCtorEq, xI, xJ, xK, xL, xM, xN, xO, xP, xQ, xR] at hc); (try (have hx : True := hc; clear hx hc)); (try (exfalso; omega)); (try (with_reducible (exact absurd hc (by assumption)))); (try (with_reducible (exact absurd (by assumption) hc)))) | ((fail_if_success (with_reducible show ACall _ _ _ _ _)); (try ((with_reducible show _ ∨ _); first | exact .inl rfl | (refine .inr ⟨rfl, ?_, ?_⟩; (focus (repeat (first | exact trivial | refine ⟨.inl rfl, ?_⟩ | refine ⟨.inr rfl, ?_⟩))); (first | exact trivial | exact rfl))))))))))
        rw [show List.take (J.length - 1) J.tail = List.drop 1 J from by rw [List.drop_one]; exact List.take_of_length_le (by simp)]
        rfl
    · have hf : fmtA true A = (Go.Lib.joinTail [58] (parts6 A 8)).drop 1 := by rw [joinTail_drop]; simp [fmtA, hok]
      rw [hf]
      repeat' (first | (with_reducible (first | apply w_seq | apply w_region | apply w_block | apply w_skip | apply w_exit | apply w_ret | apply w_then | apply w_then_exit | apply w_then_ret | apply w_in | apply w_in_here | apply w_in_ret | apply w_round | apply o_nil | apply d_nil)) | ((with_reducible (first | apply w_in_exit)); rfl) | ((with_reducible (first | apply w_draw)); rfl) | ((first | ((with_reducible (first | apply o_op | apply d_op | apply q_op)); rfl; rfl) | ((with_reducible (first | apply w_cond | apply w_end | apply w_return))) | ((with_reducible (first | apply o_guard | apply d_guard | apply q_guard)); rfl) | ((with_reducible (first | apply o_call_eq | apply d_call | apply q_call)); rfl)); all_goals (first | ((with_reducible show Is _ _); ((try simp (disch := first | omega | (simp only [yA, yB, yC, yD, yE] <;> omega) | fail) [go_sem, yF, yG, yH, *, addrC, if_pos, if_neg, -List.map_take, -List.map_drop, -List.map_append, -List.map_reverse]); exact rfl)) | ((fail_if_success (with_reducible show Is _ _)); (first | ((with_reducible refine fun (hc : (_ : Bool) = _) => ?_); (try simp only [xA, xB, xC, xD, xE, xF, xG, xH, reduceCtorEq, xI, xJ, xK, xL, xM, xN, xO, xP, xQ, xR] at hc); (try (have hx : True := hc; clear hx hc)); (try (exfalso; omega)); (try (with_reducible (exact absurd hc (by assumption)))); (try (with_reducible (exact absurd (by assumption) hc)))) | ((with_reducible show ACall _ _ _ _ _); (first | ((with_reducible (first | apply hv)) <;> (first | omega | assumption | exact rfl | ((simp (disch := first | omega | (simp only [yA, yB, yC, yD, yE] <;> omega) | fail) [go_sem, yF, yG, yH, *, addrC, -List.map_take, -List.map_drop, -List.map_append, -List.map_reverse]) <;> (first | done | omega | exact rfl)))))) | ((fail_if_success (with_reducible show ACall _ _ _ _ _)); (try ((with_reducible show _ ∨ _); first | exact .inl rfl | (refine .inr ⟨rfl, ?_, ?_⟩; (focus (repeat (first | exact trivial | refine ⟨.inl rfl, ?_⟩ | refine ⟨.inr rfl, ?_⟩))); (first | exact trivial | exact rfl))))))))))
      refine w_loop (fun fr B => ∃ i : Nat, i ≤ 8 ∧ fr 5 = .int .i64 i ∧ fr 1 = .ptr 0 0 ∧ fr 3 = .str (Go.Lib.joinTail [58] (parts6 A i)) ∧ B = [⟨.bool true :: A.map byteC, false⟩]) (fun fr _ => 8 - natOf (fr 5)) ?_ ?_
      · exact ⟨0, by omega, by (simp (disch := omega) [go_sem, *]) <;> (try omega), by (simp (disch := omega) [go_sem, *]) <;> (try omega), by (simp (disch := omega) [go_sem, *, parts6, Go.Lib.joinTail]) <;> (try omega), rfl⟩
      rintro fr B ⟨i, hi, h5, h1, h3, rfl⟩
      have hle := parts6_le A i
      by_cases hc : i < 8
      · have hp := joinTail_snoc [58] (parts6 A i) (hexT (grp A i))
        rw [← parts6_succ] at hp
        have hg1 : A.getD (2 * i) 0 = A[2 * i]'(by omega) := by rw [List.getD_eq_getElem?_getD, List.getElem?_eq_getElem (by omega)]; rfl
        have hg2 : A.getD (2 * i + 1) 0 = A[2 * i + 1]'(by omega) := by rw [List.getD_eq_getElem?_getD, List.getElem?_eq_getElem (by omega)]; rfl
        have hgl := grp_lt A i
        have hor : ((A[2 * i]'(by omega)).toNat : Int) * 256 + ((A[2 * i + 1]'(by omega)).toNat : Int) = (grp A i : Int) := by rw [grp, hg1, hg2]; push_cast; rfl
        have hlt1 := (A[2 * i]'(by omega)).toNat_lt
        have hlt2 := (A[2 * i + 1]'(by omega)).toNat_lt
        have hfm : ∀ {B : List Box} {args : List CV}, Is args [.int .i64 (grp A i)] → ACall Tryd.prog 35 args B fun c B' => c = .str (hexT (grp A i)) ∧ B' = B := fun {B args} h => by
          have h : _ = _ := h
          subst h
          exact group_at rfl hgl
        have hdl := hexT_len 3 (grp A i) hgl
        have h2i : (2 * (i : Int)).toNat = 2 * i := by omega
        have h2i1 : (2 * (i : Int) + 1).toNat = 2 * i + 1 := by omega
        generalize hexT (grp A i) = T at *
        generalize grp A i = g at *
        generalize Go.Lib.joinTail [58] (parts6 A i) = J at *
        clear hg1 hg2
        repeat' (first | (with_reducible (first | apply w_seq | apply w_region | apply w_block | apply w_skip | apply w_exit | apply w_ret | apply w_then | apply w_then_exit | apply w_then_ret | apply w_in | apply w_in_here | apply w_in_ret | apply w_round | apply o_nil | apply d_nil)) | ((with_reducible (first | apply w_in_exit)); rfl) | ((with_reducible (first | apply w_draw)); rfl) | ((first | ((with_reducible (first | apply o_op | apply d_op | apply q_op)); rfl; rfl) | ((with_reducible (first | apply w_cond | apply w_end | apply w_return))) | ((with_reducible (first | apply o_guard | apply d_guard | apply q_guard)); rfl) | ((with_reducible (first | apply o_call_eq | apply d_call | apply q_call)); rfl)); all_goals (first | ((with_reducible show Is _ _); ((try simp (disch := first | omega | (simp only [yA, yB, yC, yD, yE] <;> omega) | fail) [go_sem, yF, yG, yH, *, cons_get1, cons_take1, cons_drop1, if_pos, if_neg, -List.map_take, -List.map_drop, -List.map_append, -List.map_reverse]); exact rfl)) | ((fail_if_success (with_reducible show Is _ _)); (first | ((with_reducible refine fun (hc : (_ : Bool) = _) => ?_); (try simp only [xA, xB, xC, xD, xE, xF, xG, xH, reduceCtorEq, xI, xJ, xK, xL, xM, xN, xO, xP, xQ, xR] at hc); (try (have hx : True := hc; clear hx hc)); (try (exfalso; omega)); (try (with_reducible (exact absurd hc (by assumption)))); (try (with_reducible (exact absurd (by assumption) hc)))) | ((with_reducible show ACall _ _ _ _ _); (first | ((with_reducible (first | apply hfm)) <;> (first | omega | assumption | exact rfl | ((simp (disch := first | omega | (simp only [yA, yB, yC, yD, yE] <;> omega) | fail) [go_sem, yF, yG, yH, *, cons_get1, cons_take1, cons_drop1, -List.map_take, -List.map_drop, -List.map_append, -List.map_reverse]) <;> (first | done | omega | exact rfl)))))) | ((fail_if_success (with_reducible show ACall _ _ _ _ _)); (try ((with_reducible show _ ∨ _); first | exact .inl rfl | (refine .inr ⟨rfl, ?_, ?_⟩; (focus (repeat (first | exact trivial | refine ⟨.inl rfl, ?_⟩ | refine ⟨.inr rfl, ?_⟩))); (first | exact trivial | exact rfl))))))))))
        exact ⟨⟨i + 1, by omega, by (simp (disch := omega) [go_sem, *]) <;> (try omega), by (simp (disch := omega) [go_sem, *]) <;> (try omega), by rw [hp] <;> (simp (disch := omega) [go_sem, *]) <;> (try omega), rfl⟩, by (simp (disch := omega) [go_sem, *]) <;> (try omega)⟩
      · obtain rfl : i = 8 := by omega
        have h1l : 1 ≤ (Go.Lib.joinTail [58] (parts6 A 8)).length := by simp [parts6, Go.Lib.joinTail, List.range_succ]
        generalize Go.Lib.joinTail [58] (parts6 A 8) = J at *
        repeat' (first | (with_reducible (first | apply w_seq | apply w_region | apply w_block | apply w_skip | apply w_exit | apply w_ret | apply w_then | apply w_then_exit | apply w_then_ret | apply w_in | apply w_in_here | apply w_in_ret | apply w_round | apply o_nil | apply d_nil)) | ((with_reducible (first | apply w_in_exit)); rfl) | ((with_reducible (first | apply w_draw)); rfl) | ((first | ((with_reducible (first | apply o_op | apply d_op | apply q_op)); rfl; rfl) | ((with_reducible (first | apply w_cond | apply w_end | apply w_return))) | ((with_reducible (first | apply o_guard | apply d_guard | apply q_guard)); rfl)); all_goals (first | ((with_reducible show Is _ _); ((try simp (disch := first | omega | (simp only [yA, yB, yC, yD, yE] <;> omega) | fail) [go_sem, yF, yG, yH, *, if_pos, if_neg, -List.map_take, -List.map_drop, -List.map_append, -List.map_reverse]); exact rfl)) | ((fail_if_success (with_reducible show Is _ _)); (first | ((with_reducible refine fun (hc : (_ : Bool) = _) => ?_); (try simp only [xA, xB, xC, xD, xE, xF, xG, xH, reduceCtorEq, xI, xJ, xK, xL, xM, xN, xO, xP, xQ, xR] at hc); (try (have hx : True := hc; clear hx hc)); (try (exfalso; omega)); (try (with_reducible (exact absurd hc (by assumption)))); (try (with_reducible (exact absurd (by assumption) hc)))) | ((fail_if_success (with_reducible show ACall _ _ _ _ _)); (try ((with_reducible show _ ∨ _); first | exact .inl rfl | (refine .inr ⟨rfl, ?_, ?_⟩; (focus (repeat (first | exact trivial | refine ⟨.inl rfl, ?_⟩ | refine ⟨.inr rfl, ?_⟩))); (first | exact trivial | exact rfl))))))))))
        rw [show List.take (J.length - 1) J.tail = List.drop 1 J from by rw [List.drop_one]; exact List.take_of_length_le (by simp)]
        rfl
theorem rfmtAddr_at {B : List Box} {args : List CV} {six : Bool} {A : List UInt8} (hz : Is (omap (Go.Sy.fz true false B 6) args) (some [addrC six A])) (hA : A.length = 16) : ACall Tryd.prog 11 args B fun c B' => c = .str (fmtA six A) ∧ B' = B := acall_fresh hz (rfmtAddr_in six A hA)
end Go.Proofs.YtdceppjoipoohaaDoor
end
section
namespace Go.Proofs.YtdceppjoipoohaaDoor
open Go Go.Sy
set_option linter.all false
set_option maxRecDepth 100000
set_option maxHeartbeats 4000000
def oct (x : List UInt8) : Bool := decOk 3 x && decide (decV x ≤ 255)
theorem foldl_ge : ∀ (l : List UInt8) (n : Nat), n * 10 ^ l.length ≤ l.foldl (fun n c => 10 * n + (c.toNat - 48)) n
  | [], n => by simp
  | c :: l, n => by
    have := foldl_ge l (10 * n + (c.toNat - 48))
    rw [List.foldl_cons, List.length_cons, Nat.pow_succ]
    refine Nat.le_trans ?_ this
    have h : n * (10 ^ l.length * 10) = (10 * n) * 10 ^ l.length := by rw [Nat.mul_comm (10 ^ l.length), ← Nat.mul_assoc, Nat.mul_comm n]
    rw [h]
    exact Nat.mul_le_mul_right _ (by omega)
theorem oct_eq (x : List UInt8) : (decOk 10 x && decide ((decR 10 x : Int) ≤ 255)) = oct x := by
  by_cases h : x.length ≤ 3
  · have e : decOk 10 x = decOk 3 x := by
      have h10 : x.length ≤ 10 := by omega
      simp [decOk, headOk, h, h10]
    rw [oct, ← e]
    cases hd : decOk 10 x with
    | false => simp
    | true => simp [decR, hd]; omega
  · have e3 : decOk 3 x = false := by simp [decOk, headOk, h]
    rw [oct, e3, Bool.false_and, Bool.and_eq_false_iff]
    cases hd : decOk 10 x with
    | false => exact .inl rfl
    | true =>
      right
      rw [decR, if_pos hd]
      cases x with
      | nil => simp at h
      | cons c x =>
        simp only [decOk, Bool.and_eq_true, List.all_cons] at hd
        have hc : 48 ≤ c.toNat ∧ c.toNat ≤ 57 := by simpa [isDig] using hd.2.1
        have hne : c ≠ 48 := by
          intro hc48
          have := hd.1
          simp [headOk, hc48] at this
          have hl : 1 < (c :: x).length := by simp; simp at h; omega
          simp at h
          have := this.2
          subst this
          simp at h
        have hc1 : 49 ≤ c.toNat := by
          rcases Nat.lt_or_ge c.toNat 49 with h1 | h1
          · exact absurd (UInt8.toNat_inj.1 (by show c.toNat = 48; omega)) hne
          · exact h1
        have hge := foldl_ge x (10 * 0 + (c.toNat - 48))
        have hp : 10 ^ 3 ≤ 10 ^ x.length := Nat.pow_le_pow_right (by decide) (by simp at h; omega)
        have : 1 * 10 ^ x.length ≤ (10 * 0 + (c.toNat - 48)) * 10 ^ x.length := Nat.mul_le_mul_right _ (by omega)
        have hv : decV (c :: x) = x.foldl (fun n c => 10 * n + (c.toNat - 48)) (10 * 0 + (c.toNat - 48)) := rfl
        rw [hv]
        simp only [decide_eq_false_iff_not]
        omega
def a4 (L : List (List UInt8)) (j : Nat) : List UInt8 := (L.take j).map (fun x => UInt8.ofNat (decV x)) ++ List.replicate (16 - j) 0
def p4 (L : List (List UInt8)) : Option (Bool × List UInt8) := if L.all oct then some (false, a4 L 4) else none
def rA (o : Option (Bool × List UInt8)) : CV := match o with | some (six, A) => .tup [addrC six A, .int .i64 0] | none => .tup [addrC false z16, .int .i64 5]
theorem a4_set {L : List (List UInt8)} {j : Nat} (hL : L.length = 4) (hj : j < 4) : (a4 L j).set j (UInt8.ofNat (decV (L[j]'(by omega)))) = a4 L (j + 1) := by
  have e : 16 - j = (16 - (j + 1)) + 1 := by omega
  have hl : ((L.take j).map fun x => UInt8.ofNat (decV x)).length = j := by rw [List.length_map, List.length_take]; omega
  rw [a4, a4, List.set_append_right _ _ (by omega), hl, Nat.sub_self, e, List.replicate_succ, List.set_cons_zero, List.take_succ_eq_append_getElem (by omega), List.map_append, List.append_assoc]
  rfl
theorem a4_len {L : List (List UInt8)} {j : Nat} (hL : L.length = 4) (hj : j ≤ 4) : (a4 L j).length = 16 := by simp [a4, hL]; omega
theorem rfour_in (L : List (List UInt8)) (hL : L.length = 4) (hs : ∀ x ∈ L, x.length < 1000000000) : PC Tryd.prog true 71 [.lst 4 (L.map .str) false] (rA (p4 L)) := by
  refine acall_intro mixed Tryd.func71 rfl ca71 (by kernel_rfl) (by rw [Tryd.ntmps71]; simp) ?_
  repeat' (first | (with_reducible (first | apply w_seq | apply w_region | apply w_block | apply w_skip | apply w_exit | apply w_ret | apply w_then | apply w_then_exit | apply w_then_ret | apply w_in | apply w_in_here | apply w_in_ret | apply w_round | apply o_nil | apply d_nil)) | ((with_reducible (first | apply w_in_exit)); rfl) | ((with_reducible (first | apply w_draw)); rfl) | ((first | ((with_reducible (first | apply o_op | apply d_op | apply q_op)); rfl; rfl) | ((with_reducible (first | apply w_cond | apply w_end | apply w_return))) | ((with_reducible (first | apply o_guard | apply d_guard | apply q_guard)); rfl)); all_goals (first | ((with_reducible show Is _ _); ((try simp (disch := first | omega | (simp only [yA, yB, yC, yD, yE] <;> omega) | fail) [go_sem, yF, yG, yH, *, if_pos, if_neg, -List.map_take, -List.map_drop, -List.map_append, -List.map_reverse]); exact rfl)) | ((fail_if_success (with_reducible show Is _ _)); (first | ((with_reducible refine fun (hc : (_ : Bool) = _) => ?_); (try simp only [xA, xB, xC, xD, xE, xF, xG, xH, reduceCtorEq, xI, xJ, xK, xL, xM, xN, xO, xP, xQ, xR] at hc); (try (have hx : True := hc; clear hx hc)); (try (exfalso; omega)); (try (with_reducible (exact absurd hc (by assumption)))); (try (with_reducible (exact absurd (by assumption) hc)))) | ((fail_if_success (with_reducible show ACall _ _ _ _ _)); (try ((with_reducible show _ ∨ _); first | exact .inl rfl | (refine .inr ⟨rfl, ?_, ?_⟩; (focus (repeat (first | exact trivial | refine ⟨.inl rfl, ?_⟩ | refine ⟨.inr rfl, ?_⟩))); (first | exact trivial | exact rfl))))))))))
  refine w_loop (fun fr B => ∃ j : Nat, j ≤ 4 ∧ (L.take j).all oct = true ∧ fr 11 = .int .i64 j ∧ fr 10 = .int .i64 4 ∧ fr 9 = .lst 4 (L.map .str) false ∧ fr 4 = .ptr 1 0 ∧ fr 2 = .ptr 0 0 ∧ fr 3 = .int .i64 0 ∧ B = [⟨.bool false :: z16.map byteC, false⟩, ⟨.bool false :: (a4 L j).map byteC, false⟩]) (fun fr _ => 4 - natOf (fr 11)) ?_ ?_
  · exact ⟨0, by omega, rfl, by (simp (disch := omega) [go_sem, *]) <;> (try omega), by (simp (disch := omega) [go_sem, *]) <;> (try omega), by (simp (disch := omega) [go_sem, *]) <;> (try omega), by (simp (disch := omega) [go_sem, *]) <;> (try omega), by (simp (disch := omega) [go_sem, *]) <;> (try omega), by (simp (disch := omega) [go_sem, *]) <;> (try omega), rfl⟩
  rintro fr B ⟨j, hj, hall, h11, h10, h9, h4, h2, h3, rfl⟩
  have hal := a4_len hL hj
  by_cases hc : j < 4
  · have hset := a4_set hL hc
    have hx : (L.map CV.str).drop j = .str (L[j]'(by omega)) :: (L.map CV.str).drop (j + 1) := by
      rw [List.drop_eq_getElem_cons (by simp; omega)]; simp
    have hxl := hs (L[j]'(by omega)) (List.getElem_mem _)
    have hnall : (L.take (j + 1)).all oct = oct (L[j]'(by omega)) := by rw [List.take_succ_eq_append_getElem (by omega), List.all_append, hall]; simp
    have hno : oct (L[j]'(by omega)) = false → p4 L = none := fun h => by
      have : L.all oct = false := by
        rw [List.all_eq_false]
        exact ⟨_, List.getElem_mem (show j < L.length by omega), by simp [h]⟩
      simp [p4, this]
    have hnum : ∀ {B : List Box} {args : List CV}, Is args [.str (L[j]'(by omega)), .int .i64 3] → ACall Tryd.prog 74 args B fun c B' => c = .tup [.int .i64 (decR 3 (L[j]'(by omega))), .bool (decOk 3 (L[j]'(by omega)))] ∧ B' = B := fun {B args} h => by
      have h : _ = _ := h
      subst h
      exact rnumber_at (m := 3) rfl (by decide) (by omega)
    generalize (L[j]'(by omega)) = x at *
    cases ho : oct x with
    | false =>
      rw [hno ho]
      clear hset hno hnall
      have hb : decOk 3 x = false ∨ (decOk 3 x = true ∧ ¬ (decR 3 x : Int) ≤ 255) := by
        cases hd : decOk 3 x with
        | false => exact .inl rfl
        | true => exact .inr ⟨rfl, by simp [oct, hd] at ho; simp [decR, hd]; omega⟩
      clear ho
      rcases hb with hb | ⟨hb, hb2⟩
      · rw [hb] at hnum
        repeat' (first | (with_reducible (first | apply w_seq | apply w_region | apply w_block | apply w_skip | apply w_exit | apply w_ret | apply w_then | apply w_then_exit | apply w_then_ret | apply w_in | apply w_in_here | apply w_in_ret | apply w_round | apply o_nil | apply d_nil)) | ((with_reducible (first | apply w_in_exit)); rfl) | ((with_reducible (first | apply w_draw)); rfl) | ((first | ((with_reducible (first | apply o_op | apply d_op | apply q_op)); rfl; rfl) | ((with_reducible (first | apply w_cond | apply w_end | apply w_return))) | ((with_reducible (first | apply o_guard | apply d_guard | apply q_guard)); rfl) | ((with_reducible (first | apply o_call_eq | apply d_call | apply q_call)); rfl)); all_goals (first | ((with_reducible show Is _ _); ((try simp (disch := first | omega | (simp only [yA, yB, yC, yD, yE] <;> omega) | fail) [go_sem, yF, yG, yH, *, cons_get1, cons_take1, cons_drop1, if_pos, if_neg, -List.map_take, -List.map_drop, -List.map_append, -List.map_reverse]); exact rfl)) | ((fail_if_success (with_reducible show Is _ _)); (first | ((with_reducible refine fun (hc : (_ : Bool) = _) => ?_); (try simp only [xA, xB, xC, xD, xE, xF, xG, xH, reduceCtorEq, xI, xJ, xK, xL, xM, xN, xO, xP, xQ, xR] at hc); (try (have hx : True := hc; clear hx hc)); (try (exfalso; omega)); (try (with_reducible (exact absurd hc (by assumption)))); (try (with_reducible (exact absurd (by assumption) hc)))) | ((with_reducible show ACall _ _ _ _ _); (first | ((with_reducible (first | apply hnum)) <;> (first | omega | assumption | exact rfl | ((simp (disch := first | omega | (simp only [yA, yB, yC, yD, yE] <;> omega) | fail) [go_sem, yF, yG, yH, *, cons_get1, cons_take1, cons_drop1, -List.map_take, -List.map_drop, -List.map_append, -List.map_reverse]) <;> (first | done | omega | exact rfl)))))) | ((fail_if_success (with_reducible show ACall _ _ _ _ _)); (try ((with_reducible show _ ∨ _); first | exact .inl rfl | (refine .inr ⟨rfl, ?_, ?_⟩; (focus (repeat (first | exact trivial | refine ⟨.inl rfl, ?_⟩ | refine ⟨.inr rfl, ?_⟩))); (first | exact trivial | exact rfl))))))))))
        rfl
      · rw [hb] at hnum
        have hb3 : (255 : Int) < decR 3 x := by omega
        clear hb2
        generalize decR 3 x = v at *
        repeat' (first | (with_reducible (first | apply w_seq | apply w_region | apply w_block | apply w_skip | apply w_exit | apply w_ret | apply w_then | apply w_then_exit | apply w_then_ret | apply w_in | apply w_in_here | apply w_in_ret | apply w_round | apply o_nil | apply d_nil)) | ((with_reducible (first | apply w_in_exit)); rfl) | ((with_reducible (first | apply w_draw)); rfl) | ((first | ((with_reducible (first | apply o_op | apply d_op | apply q_op)); rfl; rfl) | ((with_reducible (first | apply w_cond | apply w_end | apply w_return))) | ((with_reducible (first | apply o_guard | apply d_guard | apply q_guard)); rfl) | ((with_reducible (first | apply o_call_eq | apply d_call | apply q_call)); rfl)); all_goals (first | ((with_reducible show Is _ _); ((try simp (disch := first | omega | (simp only [yA, yB, yC, yD, yE] <;> omega) | fail) [go_sem, yF, yG, yH, *, cons_get1, cons_take1, cons_drop1, if_pos, if_neg, -List.map_take, -List.map_drop, -List.map_append, -List.map_reverse]); exact rfl)) | ((fail_if_success (with_reducible show Is _ _)); (first | ((with_reducible refine fun (hc : (_ : Bool) = _) => ?_); (try simp only [xA, xB, xC, xD, xE, xF, xG, xH, reduceCtorEq, xI, xJ, xK, xL, xM, xN, xO, xP, xQ, xR] at hc); (try (have hx : True := hc; clear hx hc)); (try (exfalso; omega)); (try (with_reducible (exact absurd hc (by assumption)))); (try (with_reducible (exact absurd (by assumption) hc)))) | ((with_reducible show ACall _ _ _ _ _); (first | ((with_reducible (first | apply hnum)) <;> (first | omega | assumption | exact rfl | ((simp (disch := first | omega | (simp only [yA, yB, yC, yD, yE] <;> omega) | fail) [go_sem, yF, yG, yH, *, cons_get1, cons_take1, cons_drop1, -List.map_take, -List.map_drop, -List.map_append, -List.map_reverse]) <;> (first | done | omega | exact rfl)))))) | ((fail_if_success (with_reducible show ACall _ _ _ _ _)); (try ((with_reducible show _ ∨ _); first | exact .inl rfl | (refine .inr ⟨rfl, ?_, ?_⟩; (focus (repeat (first | exact trivial | refine ⟨.inl rfl, ?_⟩ | refine ⟨.inr rfl, ?_⟩))); (first | exact trivial | exact rfl))))))))))
        rfl
    | true =>
      have hb : decOk 3 x = true ∧ decV x ≤ 255 := by simpa [oct] using ho
      have hv : decR 3 x = decV x := by rw [decR, if_pos hb.1]
      rw [hb.1, hv] at hnum
      rw [ho] at hnall
      have hb2 := hb.2
      have hby := byte_nat (decV x) (by omega)
      clear hb hv ho hno
      generalize decV x = v at *
      generalize UInt8.ofNat v = y at *
      repeat' (first | (with_reducible (first | apply w_seq | apply w_region | apply w_block | apply w_skip | apply w_exit | apply w_ret | apply w_then | apply w_then_exit | apply w_then_ret | apply w_in | apply w_in_here | apply w_in_ret | apply w_round | apply o_nil | apply d_nil)) | ((with_reducible (first | apply w_in_exit)); rfl) | ((with_reducible (first | apply w_draw)); rfl) | ((first | ((with_reducible (first | apply o_op | apply d_op | apply q_op)); rfl; rfl) | ((with_reducible (first | apply w_cond | apply w_end | apply w_return))) | ((with_reducible (first | apply o_guard | apply d_guard | apply q_guard)); rfl) | ((with_reducible (first | apply o_call_eq | apply d_call | apply q_call)); rfl)); all_goals (first | ((with_reducible show Is _ _); ((try simp (disch := first | omega | (simp only [yA, yB, yC, yD, yE] <;> omega) | fail) [go_sem, yF, yG, yH, *, cons_get1, cons_take1, cons_drop1, if_pos, if_neg, -List.map_take, -List.map_drop, -List.map_append, -List.map_reverse]); exact rfl)) | ((fail_if_success (with_reducible show Is _ _)); (first | ((with_reducible refine fun (hc : (_ : Bool) = _) => ?_); (try simp only [xA, xB, xC, xD, xE, xF, xG, xH, reduceCtorEq, xI, xJ, xK, xL, xM, xN, xO, xP, xQ, xR] at hc); (try (have hx : True := hc; clear hx hc)); (try (exfalso; omega)); (try (with_reducible (exact absurd hc (by assumption)))); (try (with_reducible (exact absurd (by assumption) hc)))) | ((with_reducible show ACall _ _ _ _ _); (first | ((with_reducible (first | apply hnum)) <;> (first | omega | assumption | exact rfl | ((simp (disch := first | omega | (simp only [yA, yB, yC, yD, yE] <;> omega) | fail) [go_sem, yF, yG, yH, *, cons_get1, cons_take1, cons_drop1, -List.map_take, -List.map_drop, -List.map_append, -List.map_reverse]) <;> (first | done | omega | exact rfl)))))) | ((fail_if_success (with_reducible show ACall _ _ _ _ _)); (try ((with_reducible show _ ∨ _); first | exact .inl rfl | (refine .inr ⟨rfl, ?_, ?_⟩; (focus (repeat (first | exact trivial | refine ⟨.inl rfl, ?_⟩ | refine ⟨.inr rfl, ?_⟩))); (first | exact trivial | exact rfl))))))))))
      refine ⟨⟨j + 1, by omega, hnall, by (simp (disch := omega) [go_sem, *]) <;> (try omega), by (simp (disch := omega) [go_sem, *]) <;> (try omega), by (simp (disch := omega) [go_sem, *]) <;> (try omega), by (simp (disch := omega) [go_sem, *]) <;> (try omega), by (simp (disch := omega) [go_sem, *]) <;> (try omega), by (simp (disch := omega) [go_sem, *]) <;> (try omega), ?_⟩, by (simp (disch := omega) [go_sem, *]) <;> (try omega)⟩
      rw [← hset, List.set_eq_take_append_cons_drop, if_pos (by omega), List.map_append, List.map_cons, hby, Nat.add_comm 1 j]
  · obtain rfl : j = 4 := by omega
    have hp : p4 L = some (false, a4 L 4) := by rw [List.take_of_length_le (by omega)] at hall; simp [p4, hall]
    rw [hp]
    repeat' (first | (with_reducible (first | apply w_seq | apply w_region | apply w_block | apply w_skip | apply w_exit | apply w_ret | apply w_then | apply w_then_exit | apply w_then_ret | apply w_in | apply w_in_here | apply w_in_ret | apply w_round | apply o_nil | apply d_nil)) | ((with_reducible (first | apply w_in_exit)); rfl) | ((with_reducible (first | apply w_draw)); rfl) | ((first | ((with_reducible (first | apply o_op | apply d_op | apply q_op)); rfl; rfl) | ((with_reducible (first | apply w_cond | apply w_end | apply w_return))) | ((with_reducible (first | apply o_guard | apply d_guard | apply q_guard)); rfl)); all_goals (first | ((with_reducible show Is _ _); ((try simp (disch := first | omega | (simp only [yA, yB, yC, yD, yE] <;> omega) | fail) [go_sem, yF, yG, yH, *, if_pos, if_neg, -List.map_take, -List.map_drop, -List.map_append, -List.map_reverse]); exact rfl)) | ((fail_if_success (with_reducible show Is _ _)); (first | ((with_reducible refine fun (hc : (_ : Bool) = _) => ?_); (try simp only [xA, xB, xC, xD, xE, xF, xG, xH, reduceCtorEq, xI, xJ, xK, xL, xM, xN, xO, xP, xQ, xR] at hc); (try (have hx : True := hc; clear hx hc)); (try (exfalso; omega)); (try (with_reducible (exact absurd hc (by assumption)))); (try (with_reducible (exact absurd (by assumption) hc)))) | ((fail_if_success (with_reducible show ACall _ _ _ _ _)); (try ((with_reducible show _ ∨ _); first | exact .inl rfl | (refine .inr ⟨rfl, ?_, ?_⟩; (focus (repeat (first | exact trivial | refine ⟨.inl rfl, ?_⟩ | refine ⟨.inr rfl, ?_⟩))); (first | exact trivial | exact rfl))))))))))
    (simp (disch := omega) [go_sem, *, rA, addrC]) <;> (try omega)
def a6 (L : List (List UInt8)) (j : Nat) : List UInt8 := (L.take j).flatMap (fun x => [UInt8.ofNat (hexV x / 256), UInt8.ofNat (hexV x)]) ++ List.replicate (16 - 2 * j) 0
def p6 (L : List (List UInt8)) : Option (Bool × List UInt8) := if L.all hexOk then some (true, a6 L 8) else none
theorem fm_len (L : List (List UInt8)) : (L.flatMap (fun x => [UInt8.ofNat (hexV x / 256), UInt8.ofNat (hexV x)])).length = 2 * L.length := by
  induction L with
  | nil => rfl
  | cons x xs ih => rw [List.flatMap_cons, List.length_append, ih]; simp; omega
theorem a6_len {L : List (List UInt8)} {j : Nat} (hL : L.length = 8) (hj : j ≤ 8) : (a6 L j).length = 16 := by
  rw [a6, List.length_append, fm_len, List.length_take, List.length_replicate]; omega
theorem a6_set {L : List (List UInt8)} {j : Nat} (hL : L.length = 8) (hj : j < 8) : ((a6 L j).set (2 * j) (UInt8.ofNat (hexV (L[j]'(by omega)) / 256))).set (2 * j + 1) (UInt8.ofNat (hexV (L[j]'(by omega)))) = a6 L (j + 1) := by
  have e : 16 - 2 * j = (16 - 2 * (j + 1)) + 1 + 1 := by omega
  have hl : ((L.take j).flatMap (fun x => [UInt8.ofNat (hexV x / 256), UInt8.ofNat (hexV x)])).length = 2 * j := by rw [fm_len, List.length_take]; omega
  rw [a6, a6, List.take_succ_eq_append_getElem (by omega), List.flatMap_append]
  generalize (L.take j).flatMap (fun x => [UInt8.ofNat (hexV x / 256), UInt8.ofNat (hexV x)]) = F at *
  rw [List.set_append_right _ _ (by omega), hl, Nat.sub_self, e, List.replicate_succ, List.set_cons_zero, List.set_append_right _ _ (by omega), hl, show 2 * j + 1 - 2 * j = 1 by omega, List.replicate_succ]
  simp
theorem set2 {h a b : CV} {M : List CV} {n : Nat} (hn : n + 1 < M.length) : ((h :: M).take (1 + n) ++ a :: M.drop (1 + n)).take (1 + (n + 1)) ++ b :: ((h :: M).take (1 + n) ++ a :: M.drop (1 + n)).drop (1 + (n + 1) + 1) = h :: (M.set n a).set (n + 1) b := by
  have hX : (h :: M).take (1 + n) ++ a :: M.drop (1 + n) = h :: M.set n a := by
    rw [List.set_eq_take_append_cons_drop, if_pos (by omega), Nat.add_comm 1 n]; simp
  rw [hX, List.set_eq_take_append_cons_drop (l := M.set n a), if_pos (by simp; omega), Nat.add_comm 1 (n + 1)]; simp
theorem rsix_in (L : List (List UInt8)) (hL : L.length = 8) (hs : ∀ x ∈ L, x.length < 1000000000) : PC Tryd.prog true 72 [.lst 8 (L.map .str) false] (rA (p6 L)) := by
  refine acall_intro mixed Tryd.func72 rfl ca72 (by kernel_rfl) (by rw [Tryd.ntmps72]; simp) ?_
  repeat' (first | (with_reducible (first | apply w_seq | apply w_region | apply w_block | apply w_skip | apply w_exit | apply w_ret | apply w_then | apply w_then_exit | apply w_then_ret | apply w_in | apply w_in_here | apply w_in_ret | apply w_round | apply o_nil | apply d_nil)) | ((with_reducible (first | apply w_in_exit)); rfl) | ((with_reducible (first | apply w_draw)); rfl) | ((first | ((with_reducible (first | apply o_op | apply d_op | apply q_op)); rfl; rfl) | ((with_reducible (first | apply w_cond | apply w_end | apply w_return))) | ((with_reducible (first | apply o_guard | apply d_guard | apply q_guard)); rfl)); all_goals (first | ((with_reducible show Is _ _); ((try simp (disch := first | omega | (simp only [yA, yB, yC, yD, yE] <;> omega) | fail) [go_sem, yF, yG, yH, *, if_pos, if_neg, -List.map_take, -List.map_drop, -List.map_append, -List.map_reverse]); exact rfl)) | ((fail_if_success (with_reducible show Is _ _)); (first | ((with_reducible refine fun (hc : (_ : Bool) = _) => ?_); (try simp only [xA, xB, xC, xD, xE, xF, xG, xH, reduceCtorEq, xI, xJ, xK, xL, xM, xN, xO, xP, xQ, xR] at hc); (try (have hx : True := hc; clear hx hc)); (try (exfalso; omega)); (try (with_reducible (exact absurd hc (by assumption)))); (try (with_reducible (exact absurd (by assumption) hc)))) | ((fail_if_success (with_reducible show ACall _ _ _ _ _)); (try ((with_reducible show _ ∨ _); first | exact .inl rfl | (refine .inr ⟨rfl, ?_, ?_⟩; (focus (repeat (first | exact trivial | refine ⟨.inl rfl, ?_⟩ | refine ⟨.inr rfl, ?_⟩))); (first | exact trivial | exact rfl))))))))))
  refine w_loop (fun fr B => ∃ j : Nat, j ≤ 8 ∧ (L.take j).all hexOk = true ∧ fr 13 = .int .i64 j ∧ fr 12 = .int .i64 8 ∧ fr 11 = .lst 8 (L.map .str) false ∧ fr 4 = .ptr 1 0 ∧ fr 2 = .ptr 0 0 ∧ fr 3 = .int .i64 0 ∧ B = [⟨.bool false :: z16.map byteC, false⟩, ⟨.bool true :: (a6 L j).map byteC, false⟩]) (fun fr _ => 8 - natOf (fr 13)) ?_ ?_
  · exact ⟨0, by omega, rfl, by (simp (disch := omega) [go_sem, *]) <;> (try omega), by (simp (disch := omega) [go_sem, *]) <;> (try omega), by (simp (disch := omega) [go_sem, *]) <;> (try omega), by (simp (disch := omega) [go_sem, *]) <;> (try omega), by (simp (disch := omega) [go_sem, *]) <;> (try omega), by (simp (disch := omega) [go_sem, *]) <;> (try omega), rfl⟩
  rintro fr B ⟨j, hj, hall, h13, h12, h11, h4, h2, h3, rfl⟩
  have hal := a6_len hL hj
  by_cases hc : j < 8
  · have hset := a6_set hL hc
    have hx : (L.map CV.str).drop j = .str (L[j]'(by omega)) :: (L.map CV.str).drop (j + 1) := by
      rw [List.drop_eq_getElem_cons (by simp; omega)]; simp
    have hxl := hs (L[j]'(by omega)) (List.getElem_mem _)
    have hnall : (L.take (j + 1)).all hexOk = hexOk (L[j]'(by omega)) := by rw [List.take_succ_eq_append_getElem (by omega), List.all_append, hall]; simp
    have hno : hexOk (L[j]'(by omega)) = false → p6 L = none := fun h => by
      have : L.all hexOk = false := by
        rw [List.all_eq_false]
        exact ⟨_, List.getElem_mem (show j < L.length by omega), by simp [h]⟩
      simp [p6, this]
    generalize (L[j]'(by omega)) = x at *
    by_cases hx1 : x.length = 0
    · have ho : hexOk x = false := by simp [hexOk, hx1]
      rw [hno ho]
      have : x = [] := List.eq_nil_of_length_eq_zero hx1
      subst this
      clear hset hno hnall
      repeat' (first | (with_reducible (first | apply w_seq | apply w_region | apply w_block | apply w_skip | apply w_exit | apply w_ret | apply w_then | apply w_then_exit | apply w_then_ret | apply w_in | apply w_in_here | apply w_in_ret | apply w_round | apply o_nil | apply d_nil)) | ((with_reducible (first | apply w_in_exit)); rfl) | ((with_reducible (first | apply w_draw)); rfl) | ((first | ((with_reducible (first | apply o_op | apply d_op | apply q_op)); rfl; rfl) | ((with_reducible (first | apply w_cond | apply w_end | apply w_return))) | ((with_reducible (first | apply o_guard | apply d_guard | apply q_guard)); rfl)); all_goals (first | ((with_reducible show Is _ _); ((try simp (disch := first | omega | (simp only [yA, yB, yC, yD, yE] <;> omega) | fail) [go_sem, yF, yG, yH, *, cons_get1, cons_take1, cons_drop1, if_pos, if_neg, -List.map_take, -List.map_drop, -List.map_append, -List.map_reverse]); exact rfl)) | ((fail_if_success (with_reducible show Is _ _)); (first | ((with_reducible refine fun (hc : (_ : Bool) = _) => ?_); (try simp only [xA, xB, xC, xD, xE, xF, xG, xH, reduceCtorEq, xI, xJ, xK, xL, xM, xN, xO, xP, xQ, xR] at hc); (try (have hx : True := hc; clear hx hc)); (try (exfalso; omega)); (try (with_reducible (exact absurd hc (by assumption)))); (try (with_reducible (exact absurd (by assumption) hc)))) | ((fail_if_success (with_reducible show ACall _ _ _ _ _)); (try ((with_reducible show _ ∨ _); first | exact .inl rfl | (refine .inr ⟨rfl, ?_, ?_⟩; (focus (repeat (first | exact trivial | refine ⟨.inl rfl, ?_⟩ | refine ⟨.inr rfl, ?_⟩))); (first | exact trivial | exact rfl))))))))))
      rfl
    by_cases hx4 : x.length ≤ 4
    · repeat' (first | (with_reducible (first | apply w_seq | apply w_region | apply w_block | apply w_skip | apply w_exit | apply w_ret | apply w_then | apply w_then_exit | apply w_then_ret | apply w_in | apply w_in_here | apply w_in_ret | apply w_round | apply o_nil | apply d_nil)) | ((with_reducible (first | apply w_in_exit)); rfl) | ((with_reducible (first | apply w_draw)); rfl) | ((first | ((with_reducible (first | apply o_op | apply d_op | apply q_op)); rfl; rfl) | ((with_reducible (first | apply w_cond | apply w_end | apply w_return))) | ((with_reducible (first | apply o_guard | apply d_guard | apply q_guard)); rfl)); all_goals (first | ((with_reducible show Is _ _); ((try simp (disch := first | omega | (simp only [yA, yB, yC, yD, yE] <;> omega) | fail) [go_sem, yF, yG, yH, *, cons_get1, cons_take1, cons_drop1, if_pos, if_neg, -List.map_take, -List.map_drop, -List.map_append, -List.map_reverse]); exact rfl)) | ((fail_if_success (with_reducible show Is _ _)); (first | ((with_reducible refine fun (hc : (_ : Bool) = _) => ?_); (try simp only [xA, xB, xC, xD, xE, xF, xG, xH, reduceCtorEq, xI, xJ, xK, xL, xM, xN, xO, xP, xQ, xR] at hc); (try (have hx : True := hc; clear hx hc)); (try (exfalso; omega)); (try (with_reducible (exact absurd hc (by assumption)))); (try (with_reducible (exact absurd (by assumption) hc)))) | ((fail_if_success (with_reducible show ACall _ _ _ _ _)); (try ((with_reducible show _ ∨ _); first | exact .inl rfl | (refine .inr ⟨rfl, ?_, ?_⟩; (focus (repeat (first | exact trivial | refine ⟨.inl rfl, ?_⟩ | refine ⟨.inr rfl, ?_⟩))); (first | exact trivial | exact rfl))))))))))
      replace hset : Hid _ := hset
      replace hno : Hid _ := hno
      replace hnall : Hid _ := hnall
      refine w_loop (fun fr B => ∃ k : Nat, k ≤ x.length ∧ (x.take k).all isHex = true ∧ fr 8 = .int .i64 k ∧ fr 7 = .int .i64 (hexV (x.take k)) ∧ fr 6 = .str x ∧ fr 5 = .int .i64 j ∧ fr 13 = .int .i64 j ∧ fr 12 = .int .i64 8 ∧ fr 11 = .lst 8 (L.map .str) false ∧ fr 4 = .ptr 1 0 ∧ fr 2 = .ptr 0 0 ∧ fr 3 = .int .i64 0 ∧ B = [⟨.bool false :: z16.map byteC, false⟩, ⟨.bool true :: (a6 L j).map byteC, false⟩]) (fun fr _ => x.length - natOf (fr 8)) ?_ ?_
      · exact ⟨0, by omega, rfl, by (simp (disch := omega) [go_sem, *]) <;> (try omega), by (simp (disch := omega) [go_sem, *, hexV]) <;> (try omega), by (simp (disch := omega) [go_sem, *]) <;> (try omega), by (simp (disch := omega) [go_sem, *]) <;> (try omega), by (simp (disch := omega) [go_sem, *]) <;> (try omega), by (simp (disch := omega) [go_sem, *]) <;> (try omega), by (simp (disch := omega) [go_sem, *]) <;> (try omega), by (simp (disch := omega) [go_sem, *]) <;> (try omega), by (simp (disch := omega) [go_sem, *]) <;> (try omega), by (simp (disch := omega) [go_sem, *]) <;> (try omega), rfl⟩
      clear hx
      rintro fr B ⟨k, hk, hd, g8, g7, g6, g5, g13, g12, g11, g4, g2, g3, rfl⟩
      have hb := hex_bound (s := x) (j := k) (by omega)
      by_cases hkc : k < x.length
      · have hnx := hexV_take hkc
        have hall := hex_take hkc
        rw [hd, Bool.true_and] at hall
        have hb2 := hex_bound (s := x) (j := k + 1) (by omega)
        have hdig := @rdigit_at
        cases hdv : digV x[k] with
        | none =>
          have ho : hexOk x = false := by simp [hexOk, not_hex hkc hdv]
          rw [show p6 L = none from (show hexOk x = false → p6 L = none from hno) ho]
          have hdg : ∀ B : List Box, ACall Tryd.prog 92 [byteC x[k]] B fun r B' => r = .int .i64 16 ∧ B' = B := fun B => by
            have := @rdigit_at B [byteC x[k]] x[k] rfl
            rwa [hdv] at this
          clear hdig hdv hnx hall hset hnall ho hno
          repeat' (first | (with_reducible (first | apply w_seq | apply w_region | apply w_block | apply w_skip | apply w_exit | apply w_ret | apply w_then | apply w_then_exit | apply w_then_ret | apply w_in | apply w_in_here | apply w_in_ret | apply w_round | apply o_nil | apply d_nil)) | ((with_reducible (first | apply w_in_exit)); rfl) | ((with_reducible (first | apply w_draw)); rfl) | ((first | ((with_reducible (first | apply o_op | apply d_op | apply q_op)); rfl; rfl) | ((with_reducible (first | apply w_cond | apply w_end | apply w_return))) | ((with_reducible (first | apply o_guard | apply d_guard | apply q_guard)); rfl) | ((with_reducible (first | apply o_call_eq | apply d_call | apply q_call)); rfl)); all_goals (first | ((with_reducible show Is _ _); ((try simp (disch := first | omega | (simp only [yA, yB, yC, yD, yE] <;> omega) | fail) [go_sem, yF, yG, yH, *, if_pos, if_neg, -List.map_take, -List.map_drop, -List.map_append, -List.map_reverse]); exact rfl)) | ((fail_if_success (with_reducible show Is _ _)); (first | ((with_reducible refine fun (hc : (_ : Bool) = _) => ?_); (try simp only [xA, xB, xC, xD, xE, xF, xG, xH, reduceCtorEq, xI, xJ, xK, xL, xM, xN, xO, xP, xQ, xR] at hc); (try (have hx : True := hc; clear hx hc)); (try (exfalso; omega)); (try (with_reducible (exact absurd hc (by assumption)))); (try (with_reducible (exact absurd (by assumption) hc)))) | ((with_reducible show ACall _ _ _ _ _); (first | ((with_reducible (first | apply hdg)) <;> (first | omega | assumption | exact rfl | ((simp (disch := first | omega | (simp only [yA, yB, yC, yD, yE] <;> omega) | fail) [go_sem, yF, yG, yH, *, -List.map_take, -List.map_drop, -List.map_append, -List.map_reverse]) <;> (first | done | omega | exact rfl)))))) | ((fail_if_success (with_reducible show ACall _ _ _ _ _)); (try ((with_reducible show _ ∨ _); first | exact .inl rfl | (refine .inr ⟨rfl, ?_, ?_⟩; (focus (repeat (first | exact trivial | refine ⟨.inl rfl, ?_⟩ | refine ⟨.inr rfl, ?_⟩))); (first | exact trivial | exact rfl))))))))))
          rfl
        | some v =>
          have hv := digV_lt hdv
          have hdg : ∀ B : List Box, ACall Tryd.prog 92 [byteC x[k]] B fun r B' => r = .int .i64 v ∧ B' = B := fun B => by
            have := @rdigit_at B [byteC x[k]] x[k] rfl
            rwa [hdv] at this
          rw [hdv] at hnx
          rw [isHex, hdv] at hall
          have hnx2 : (hexV (x.take (k + 1)) : Int) = 16 * hexV (x.take k) + v := by rw [hnx]; simp
          clear hdig hdv hnx
          repeat' (first | (with_reducible (first | apply w_seq | apply w_region | apply w_block | apply w_skip | apply w_exit | apply w_ret | apply w_then | apply w_then_exit | apply w_then_ret | apply w_in | apply w_in_here | apply w_in_ret | apply w_round | apply o_nil | apply d_nil)) | ((with_reducible (first | apply w_in_exit)); rfl) | ((with_reducible (first | apply w_draw)); rfl) | ((first | ((with_reducible (first | apply o_op | apply d_op | apply q_op)); rfl; rfl) | ((with_reducible (first | apply w_cond | apply w_end | apply w_return))) | ((with_reducible (first | apply o_guard | apply d_guard | apply q_guard)); rfl) | ((with_reducible (first | apply o_call_eq | apply d_call | apply q_call)); rfl)); all_goals (first | ((with_reducible show Is _ _); ((try simp (disch := first | omega | (simp only [yA, yB, yC, yD, yE] <;> omega) | fail) [go_sem, yF, yG, yH, *, if_pos, if_neg, -List.map_take, -List.map_drop, -List.map_append, -List.map_reverse]); exact rfl)) | ((fail_if_success (with_reducible show Is _ _)); (first | ((with_reducible refine fun (hc : (_ : Bool) = _) => ?_); (try simp only [xA, xB, xC, xD, xE, xF, xG, xH, reduceCtorEq, xI, xJ, xK, xL, xM, xN, xO, xP, xQ, xR] at hc); (try (have hx : True := hc; clear hx hc)); (try (exfalso; omega)); (try (with_reducible (exact absurd hc (by assumption)))); (try (with_reducible (exact absurd (by assumption) hc)))) | ((with_reducible show ACall _ _ _ _ _); (first | ((with_reducible (first | apply hdg)) <;> (first | omega | assumption | exact rfl | ((simp (disch := first | omega | (simp only [yA, yB, yC, yD, yE] <;> omega) | fail) [go_sem, yF, yG, yH, *, -List.map_take, -List.map_drop, -List.map_append, -List.map_reverse]) <;> (first | done | omega | exact rfl)))))) | ((fail_if_success (with_reducible show ACall _ _ _ _ _)); (try ((with_reducible show _ ∨ _); first | exact .inl rfl | (refine .inr ⟨rfl, ?_, ?_⟩; (focus (repeat (first | exact trivial | refine ⟨.inl rfl, ?_⟩ | refine ⟨.inr rfl, ?_⟩))); (first | exact trivial | exact rfl))))))))))
          exact ⟨⟨k + 1, by omega, hall, by (simp (disch := omega) [go_sem, *]) <;> (try omega), by rw [hnx2] <;> (simp (disch := omega) [go_sem, *]) <;> (try omega), by (simp (disch := omega) [go_sem, *]) <;> (try omega), by (simp (disch := omega) [go_sem, *]) <;> (try omega), by (simp (disch := omega) [go_sem, *]) <;> (try omega), by (simp (disch := omega) [go_sem, *]) <;> (try omega), by (simp (disch := omega) [go_sem, *]) <;> (try omega), by (simp (disch := omega) [go_sem, *]) <;> (try omega), by (simp (disch := omega) [go_sem, *]) <;> (try omega), by (simp (disch := omega) [go_sem, *]) <;> (try omega), rfl⟩, by (simp (disch := omega) [go_sem, *]) <;> (try omega)⟩
      · obtain rfl : k = x.length := by omega
        rw [List.take_length] at hd g7 hb
        have ho : hexOk x = true := by simp [hexOk, hd]; omega
        have hby1 := byte_nat (hexV x / 256) (by omega)
        have hby2 := byte_wrap (hexV x)
        clear hkc
        generalize hexV x = w at *
        have h2i : (2 * (j : Int)).toNat = 2 * j := by omega
        repeat' (first | (with_reducible (first | apply w_seq | apply w_region | apply w_block | apply w_skip | apply w_exit | apply w_ret | apply w_then | apply w_then_exit | apply w_then_ret | apply w_in | apply w_in_here | apply w_in_ret | apply w_round | apply o_nil | apply d_nil)) | ((with_reducible (first | apply w_in_exit)); rfl) | ((with_reducible (first | apply w_draw)); rfl) | ((first | ((with_reducible (first | apply o_op | apply d_op | apply q_op)); rfl; rfl) | ((with_reducible (first | apply w_cond | apply w_end | apply w_return))) | ((with_reducible (first | apply o_guard | apply d_guard | apply q_guard)); rfl)); all_goals (first | ((with_reducible show Is _ _); ((try simp (disch := first | omega | (simp only [yA, yB, yC, yD, yE] <;> omega) | fail) [go_sem, yF, yG, yH, *, if_pos, if_neg, -List.map_take, -List.map_drop, -List.map_append, -List.map_reverse]); exact rfl)) | ((fail_if_success (with_reducible show Is _ _)); (first | ((with_reducible refine fun (hc : (_ : Bool) = _) => ?_); (try simp only [xA, xB, xC, xD, xE, xF, xG, xH, reduceCtorEq, xI, xJ, xK, xL, xM, xN, xO, xP, xQ, xR] at hc); (try (have hx : True := hc; clear hx hc)); (try (exfalso; omega)); (try (with_reducible (exact absurd hc (by assumption)))); (try (with_reducible (exact absurd (by assumption) hc)))) | ((fail_if_success (with_reducible show ACall _ _ _ _ _)); (try ((with_reducible show _ ∨ _); first | exact .inl rfl | (refine .inr ⟨rfl, ?_, ?_⟩; (focus (repeat (first | exact trivial | refine ⟨.inl rfl, ?_⟩ | refine ⟨.inr rfl, ?_⟩))); (first | exact trivial | exact rfl))))))))))
        have hall2 : (L.take (j + 1)).all hexOk = true := by rw [show (L.take (j + 1)).all hexOk = hexOk x from hnall, ho]
        refine ⟨⟨j + 1, by omega, hall2, by (simp (disch := omega) [go_sem, *]) <;> (try omega), by (simp (disch := omega) [go_sem, *]) <;> (try omega), by (simp (disch := omega) [go_sem, *]) <;> (try omega), by (simp (disch := omega) [go_sem, *]) <;> (try omega), by (simp (disch := omega) [go_sem, *]) <;> (try omega), by (simp (disch := omega) [go_sem, *]) <;> (try omega), ?_⟩, by (simp (disch := omega) [go_sem, *]) <;> (try omega)⟩
        rw [← (show _ = a6 L (j + 1) from hset), List.map_set, List.map_set, hby1, hby2]
        simp only [List.map_drop]
        rw [set2 (by simp; omega)]
        simp
    · have ho : hexOk x = false := by simp [hexOk]; omega
      rw [hno ho]
      clear hset hno hnall
      repeat' (first | (with_reducible (first | apply w_seq | apply w_region | apply w_block | apply w_skip | apply w_exit | apply w_ret | apply w_then | apply w_then_exit | apply w_then_ret | apply w_in | apply w_in_here | apply w_in_ret | apply w_round | apply o_nil | apply d_nil)) | ((with_reducible (first | apply w_in_exit)); rfl) | ((with_reducible (first | apply w_draw)); rfl) | ((first | ((with_reducible (first | apply o_op | apply d_op | apply q_op)); rfl; rfl) | ((with_reducible (first | apply w_cond | apply w_end | apply w_return))) | ((with_reducible (first | apply o_guard | apply d_guard | apply q_guard)); rfl)); all_goals (first | ((with_reducible show Is _ _); ((try simp (disch := first | omega | (simp only [yA, yB, yC, yD, yE] <;> omega) | fail) [go_sem, yF, yG, yH, *, cons_get1, cons_take1, cons_drop1, if_pos, if_neg, -List.map_take, -List.map_drop, -List.map_append, -List.map_reverse]); exact rfl)) | ((fail_if_success (with_reducible show Is _ _)); (first | ((with_reducible refine fun (hc : (_ : Bool) = _) => ?_); (try simp only [xA, xB, xC, xD, xE, xF, xG, xH, reduceCtorEq, xI, xJ, xK, xL, xM, xN, xO, xP, xQ, xR] at hc); (try (have hx : True := hc; clear hx hc)); (try (exfalso; omega)); (try (with_reducible (exact absurd hc (by assumption)))); (try (with_reducible (exact absurd (by assumption) hc)))) | ((fail_if_success (with_reducible show ACall _ _ _ _ _)); (try ((with_reducible show _ ∨ _); first | exact .inl rfl | (refine .inr ⟨rfl, ?_, ?_⟩; (focus (repeat (first | exact trivial | refine ⟨.inl rfl, ?_⟩ | refine ⟨.inr rfl, ?_⟩))); (first | exact trivial | exact rfl))))))))))
      rfl
  · obtain rfl : j = 8 := by omega
    have hp : p6 L = some (true, a6 L 8) := by rw [List.take_of_length_le (by omega)] at hall; simp [p6, hall]
    rw [hp]
    repeat' (first | (with_reducible (first | apply w_seq | apply w_region | apply w_block | apply w_skip | apply w_exit | apply w_ret | apply w_then | apply w_then_exit | apply w_then_ret | apply w_in | apply w_in_here | apply w_in_ret | apply w_round | apply o_nil | apply d_nil)) | ((with_reducible (first | apply w_in_exit)); rfl) | ((with_reducible (first | apply w_draw)); rfl) | ((first | ((with_reducible (first | apply o_op | apply d_op | apply q_op)); rfl; rfl) | ((with_reducible (first | apply w_cond | apply w_end | apply w_return))) | ((with_reducible (first | apply o_guard | apply d_guard | apply q_guard)); rfl)); all_goals (first | ((with_reducible show Is _ _); ((try simp (disch := first | omega | (simp only [yA, yB, yC, yD, yE] <;> omega) | fail) [go_sem, yF, yG, yH, *, if_pos, if_neg, -List.map_take, -List.map_drop, -List.map_append, -List.map_reverse]); exact rfl)) | ((fail_if_success (with_reducible show Is _ _)); (first | ((with_reducible refine fun (hc : (_ : Bool) = _) => ?_); (try simp only [xA, xB, xC, xD, xE, xF, xG, xH, reduceCtorEq, xI, xJ, xK, xL, xM, xN, xO, xP, xQ, xR] at hc); (try (have hx : True := hc; clear hx hc)); (try (exfalso; omega)); (try (with_reducible (exact absurd hc (by assumption)))); (try (with_reducible (exact absurd (by assumption) hc)))) | ((fail_if_success (with_reducible show ACall _ _ _ _ _)); (try ((with_reducible show _ ∨ _); first | exact .inl rfl | (refine .inr ⟨rfl, ?_, ?_⟩; (focus (repeat (first | exact trivial | refine ⟨.inl rfl, ?_⟩ | refine ⟨.inr rfl, ?_⟩))); (first | exact trivial | exact rfl))))))))))
    (simp (disch := omega) [go_sem, *, rA, addrC]) <;> (try omega)
end Go.Proofs.YtdceppjoipoohaaDoor
end
