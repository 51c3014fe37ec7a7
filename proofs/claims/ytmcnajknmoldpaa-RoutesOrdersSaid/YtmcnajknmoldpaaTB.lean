import Derived.Test.YtmcnajknmoldpaaTA
namespace Go.Proofs.Ytmcnajknmoldpaa
open Go Go.Sy
set_option linter.all false
set_option maxRecDepth 100000
set_option maxHeartbeats 4000000
/-! Routes as records. -/
theorem rt_vl (t : ((Bool × List UInt8) × Int) × List UInt8) : (toVL (rtC t)).isSome = true := by
  have h : (toVL (adC t.1.1 ++ [CV.int .i64 t.1.2])).isSome = true := vl_app (l := .bool t.1.1.1 :: t.1.1.2.map byteC) (by rw [toVL_cons, scal_bytes]; rfl) rfl
  exact vl_app h (scal_bytes _)
@[go_sem] theorem rt_om1 {nz fr : Bool} {B : List Box} {k : Nat} (t : ((Bool × List UInt8) × Int) × List UInt8) : omap (fz nz fr B (k + 1)) (rtC t) = some (rtC t) := by simp [rtC, adC, go_sem]
@[go_sem] theorem rt_om {nz fr : Bool} {B : List Box} {k : Nat} (L : List (((Bool × List UInt8) × Int) × List UInt8)) : omap (fz nz fr B (k + 1)) (L.flatMap rtC) = some (L.flatMap rtC) := omap_fl rt_om1 L
def rtO : ((Bool × List UInt8) × Int) × List UInt8 := (((false, List.replicate 16 0), 0), List.replicate 32 0)
theorem rt_zo : zerosOf Try.prog 37 = some (rtC rtO) := by kernel_rfl
/-- A prefix's cells. -/
abbrev Pf := Ad × Int
def pfC (p : (Bool × List UInt8) × Int) : List CV := adC p.1 ++ [.int .i64 p.2]
theorem pf_vl (t : (Bool × List UInt8) × Int) : (toVL (pfC t)).isSome = true := vl_app (l := .bool t.1.1 :: t.1.2.map byteC) (by rw [toVL_cons, scal_bytes]; rfl) rfl
@[go_sem] theorem pf_om1 {nz fr : Bool} {B : List Box} {k : Nat} (t : (Bool × List UInt8) × Int) : omap (fz nz fr B (k + 1)) (pfC t) = some (pfC t) := by simp [pfC, adC, go_sem]
@[go_sem] theorem pf_om {nz fr : Bool} {B : List Box} {k : Nat} (L : List ((Bool × List UInt8) × Int)) : omap (fz nz fr B (k + 1)) (L.flatMap pfC) = some (L.flatMap pfC) := omap_fl pf_om1 L
def pfO : (Bool × List UInt8) × Int := ((false, List.replicate 16 0), 0)
theorem pf_zo : zerosOf Try.prog 33 = some (pfC pfO) := by kernel_rfl
theorem pfC_len {p : Pf} (h : p.1.2.length = 16) : (pfC p).length = 18 := by simp [pfC, adC, h]
/-! routes.trie. -/
def RtG (r : Rt) : Prop := r.1.1.2.length = 16 ∧ r.2.length = 32 ∧ -9223372036854775808 ≤ r.1.2 ∧ r.1.2 ≤ 9223372036854775807
def rvld (r : Rt) : Bool := vld r.1.1.1 r.1.1.2 r.1.2
/-- The routes that the trie takes in. -/
def kindF (six : Bool) (r : Rt) : Bool := r.1.1.1 == six && rvld r
def entF (r : Rt) : List Bool × List UInt8 := (pathF r.1.1.2 r.1.2.toNat, r.2)
def trF (six : Bool) (L : List Rt) : Tr := trieF ((L.filter (kindF six)).map entF)
theorem trF_next {six : Bool} {L : List Rt} {i : Nat} (h : i < L.length) : trF six (L.take (i + 1)) = if kindF six L[i] then (trF six (L.take i)).put (pathF L[i].1.1.2 L[i].1.2.toNat) L[i].2 else trF six (L.take i) := by
  unfold trF trieF
  rw [take_filter h, List.map_append, List.foldl_append]
  cases kindF six L[i] <;> rfl
theorem iValid_rt {B : List Box} {args : List CV} {a : Ad} {s : Int} (hz : Is (omap (fz true false B 6) args) (some [.agg (adC a ++ [.int .i64 s])])) (hA : a.2.length = 16) : ACall Try.prog 40 args B fun c B' => c = .bool (vld a.1 a.2 s) ∧ B' = B := iValid_at hz hA
theorem trie_in (L : List Rt) (six : Bool) (hL : ∀ r ∈ L, RtG r) (hl : L.length < 1000000) : ACall Try.prog 35 [rl rtC L, .bool six] [] fun c B' => ∃ ids, HT B' ids c (trF six L) := by
  have hcs := cells_all (f := rtC) (z := 50) (L := L) fun r hr => rtC_len (hL r hr).1 (hL r hr).2.1
  refine acall_intro mixed Try.func35 rfl ca35 (by kernel_rfl) (by rw [Try.ntmps35]; simp) ?_
  rw [rl]
  generalize L.flatMap rtC = cs at *
  repeat' (first | (with_reducible (first | apply w_seq | apply w_region | apply w_block | apply w_skip | apply w_exit | apply w_ret | apply w_then | apply w_then_exit | apply w_then_ret | apply w_in | apply w_in_here | apply w_in_ret | apply w_round | apply o_nil | apply d_nil)) | ((with_reducible (first | apply w_in_exit)); rfl) | ((with_reducible (first | apply w_draw)); rfl) | ((first | ((with_reducible (first | apply o_op | apply d_op | apply q_op)); rfl; rfl) | ((with_reducible (first | apply w_cond | apply w_end | apply w_return))) | ((with_reducible (first | apply o_guard | apply d_guard | apply q_guard)); rfl)); all_goals (first | ((with_reducible show Is _ _); ((try simp (disch := first | omega | (simp only [yA, yB, yC, yD, yE] <;> omega) | fail) [go_sem, yF, yG, yH, *, if_pos, if_neg, -List.map_take, -List.map_drop, -List.map_append, -List.map_reverse]); exact rfl)) | ((fail_if_success (with_reducible show Is _ _)); (first | ((with_reducible refine fun (hc : (_ : Bool) = _) => ?_); (try simp only [xA, xB, xC, xD, xE, xF, xG, xH, reduceCtorEq, xI, xJ, xK, xL, xM, xN, xO, xP, xQ, xR] at hc); (try (have hx : True := hc; clear hx hc)); (try (exfalso; omega)); (try (with_reducible (exact absurd hc (by assumption)))); (try (with_reducible (exact absurd (by assumption) hc)))) | ((fail_if_success (with_reducible show ACall _ _ _ _ _)); (try (first | exact .inl rfl | (refine .inr ⟨rfl, ?_, ?_⟩; (focus (repeat (first | exact trivial | refine ⟨.inl rfl, ?_⟩ | refine ⟨.inr rfl, ?_⟩))); (first | exact trivial | exact rfl))))))))))
  refine w_loop (fun fr B' => ∃ (i : Nat) (ids : List Nat) (c : CV), i ≤ L.length ∧ fr 10 = .int .i64 i ∧ fr 9 = .int .i64 L.length ∧ fr 8 = .lst L.length cs false ∧ fr 1 = .bool six ∧ fr 5 = c ∧ HT B' ids c (trF six (L.take i))) (fun fr _ => L.length - natOf (fr 10)) ?_ ?_
  · exact ⟨0, [], .nilP, by omega, by (simp (disch := omega) [go_sem, *]) <;> (try omega), by (simp (disch := omega) [go_sem, *]) <;> (try omega), by (simp (disch := omega) [go_sem, *]) <;> (try omega), by (simp (disch := omega) [go_sem, *]) <;> (try omega), by (simp (disch := omega) [go_sem, *]) <;> (try omega), .nil⟩
  · rintro fr B' ⟨i, ids, c, hi, h10, h9, h8, h1, h5, hT⟩
    by_cases hc : i < L.length
    · obtain ⟨c1, c2⟩ := hcs i hc
      have hg := hL L[i] (List.getElem_mem hc)
      have hnx := trF_next (six := six) hc
      generalize hr : L[i] = r at *
      obtain ⟨⟨⟨s6, A⟩, n⟩, k⟩ := r
      obtain ⟨g1, g2, g3, g4⟩ := hg
      dsimp only at g1 g2 g3 g4
      obtain ⟨r1, r2, r3, r4, r5, r6, r7⟩ := rt_parts (r := (((s6, A), n), k)) g1 g2
      have hlen := rtC_len (r := (((s6, A), n), k)) g1 g2
      have hfz : omap (fz true false (B' ++ [⟨rtC (((s6, A), n), k), false⟩]) 5) (adC (s6, A) ++ [.int .i64 n]) = some (adC (s6, A) ++ [.int .i64 n]) := by simp [adC, go_sem]
      dsimp only at r1 r2 r3 r4 r5
      have hval : ∀ {B : List Box} {args : List CV}, Is (omap (fz true false B 6) args) (some [.agg (adC (s6, A) ++ [.int .i64 n])]) → ACall Try.prog 40 args B fun c B' => c = .bool (vld s6 A n) ∧ B' = B := fun h => iValid_rt h g1
      have hT1 : HT (B' ++ [⟨rtC (((s6, A), n), k), false⟩]) ids c (trF six (L.take i)) := hT.keep fun i hi => List.getElem?_append_left (hT.lt i hi)
      have h6 : (adC (s6, A) ++ [CV.int .i64 n]).take 17 = adC (s6, A) := by rw [List.take_left' (adC_len g1)]
      have h7 : (rtC (((s6, A), n), k)).head? = some (.bool s6) := rfl
      by_cases hk : kindF six (((s6, A), n), k) = true
      · rw [if_pos hk] at hnx
        have hk : s6 = six ∧ vld s6 A n = true := by simpa [kindF, rvld] using hk
        obtain ⟨rfl, hv⟩ := hk
        have hn := vld_range hv
        have hput := put_at A s6 n.toNat k g1 g2 (by omega) n.toNat 0 (by omega) _ ids c _ hT1
        rw [show ((n.toNat : Nat) : Int) = n by omega] at hput
        have hput : ∀ args, Is args [c, .agg (rtC (((s6, A), n), k)), .int .i64 0] → ACall Try.prog 54 args (B' ++ [⟨rtC (((s6, A), n), k), false⟩]) fun c2 B2 => PutR (B' ++ [⟨rtC (((s6, A), n), k), false⟩]) ids ((trF s6 (L.take i)).put (pathF A n.toNat) k) c2 B2 := fun args h => by simpa using hput args h
        rw [hv] at hval
        clear hT hT1
        generalize rtC (((s6, A), n), k) = rc at *
        repeat' (first | (with_reducible (first | apply w_seq | apply w_region | apply w_block | apply w_skip | apply w_exit | apply w_ret | apply w_then | apply w_then_exit | apply w_then_ret | apply w_in | apply w_in_here | apply w_in_ret | apply w_round | apply o_nil | apply d_nil)) | ((with_reducible (first | apply w_in_exit)); rfl) | ((with_reducible (first | apply w_draw)); rfl) | ((first | ((with_reducible (first | apply o_op | apply d_op | apply q_op)); rfl; rfl) | ((with_reducible (first | apply w_cond | apply w_end | apply w_return))) | ((with_reducible (first | apply o_guard | apply d_guard | apply q_guard)); rfl) | ((with_reducible (first | apply o_call_eq | apply d_call | apply q_call)); rfl)); all_goals (first | ((with_reducible show Is _ _); ((try simp (disch := first | omega | (simp only [yA, yB, yC, yD, yE] <;> omega) | fail) [go_sem, yF, yG, yH, *, if_pos, if_neg, -List.map_take, -List.map_drop, -List.map_append, -List.map_reverse]); exact rfl)) | ((fail_if_success (with_reducible show Is _ _)); (first | ((with_reducible refine fun (hc : (_ : Bool) = _) => ?_); (try simp only [xA, xB, xC, xD, xE, xF, xG, xH, reduceCtorEq, xI, xJ, xK, xL, xM, xN, xO, xP, xQ, xR] at hc); (try (have hx : True := hc; clear hx hc)); (try (exfalso; omega)); (try (with_reducible (exact absurd hc (by assumption)))); (try (with_reducible (exact absurd (by assumption) hc)))) | ((with_reducible show ACall _ _ _ _ _); (first | ((with_reducible (first | apply hval)) <;> (first | omega | assumption | exact rfl | ((simp (disch := first | omega | (simp only [yA, yB, yC, yD, yE] <;> omega) | fail) [go_sem, yF, yG, yH, *, -List.map_take, -List.map_drop, -List.map_append, -List.map_reverse]) <;> (first | done | omega | exact rfl)))))) | ((fail_if_success (with_reducible show ACall _ _ _ _ _)); (try (first | exact .inl rfl | (refine .inr ⟨rfl, ?_, ?_⟩; (focus (repeat (first | exact trivial | refine ⟨.inl rfl, ?_⟩ | refine ⟨.inr rfl, ?_⟩))); (first | exact trivial | exact rfl))))))))) | (((with_reducible (first | apply o_callQ | apply q_callQ)); rfl); (iterate 2 ((try simp (disch := first | omega | (simp only [yA, yB, yC, yD, yE] <;> omega) | fail) [go_sem, yF, yG, yH, *, if_pos, if_neg, -List.map_take, -List.map_drop, -List.map_append, -List.map_reverse]); exact rfl)); (first | ((with_reducible (first | apply hput)) <;> (first | omega | assumption | exact rfl | ((simp (disch := first | omega | (simp only [yA, yB, yC, yD, yE] <;> omega) | fail) [go_sem, yF, yG, yH, *, -List.map_take, -List.map_drop, -List.map_append, -List.map_reverse]) <;> (first | done | omega | exact rfl)))))))
        rintro c2 B2 ⟨ids', q1, _, _, _⟩
        repeat' (first | (with_reducible (first | apply w_seq | apply w_region | apply w_block | apply w_skip | apply w_exit | apply w_ret | apply w_then | apply w_then_exit | apply w_then_ret | apply w_in | apply w_in_here | apply w_in_ret | apply w_round | apply o_nil | apply d_nil)) | ((with_reducible (first | apply w_in_exit)); rfl) | ((with_reducible (first | apply w_draw)); rfl) | ((first | ((with_reducible (first | apply o_op | apply d_op | apply q_op)); rfl; rfl) | ((with_reducible (first | apply w_cond | apply w_end | apply w_return))) | ((with_reducible (first | apply o_guard | apply d_guard | apply q_guard)); rfl)); all_goals (first | ((with_reducible show Is _ _); ((try simp (disch := first | omega | (simp only [yA, yB, yC, yD, yE] <;> omega) | fail) [go_sem, yF, yG, yH, *, if_pos, if_neg, -List.map_take, -List.map_drop, -List.map_append, -List.map_reverse]); exact rfl)) | ((fail_if_success (with_reducible show Is _ _)); (first | ((with_reducible refine fun (hc : (_ : Bool) = _) => ?_); (try simp only [xA, xB, xC, xD, xE, xF, xG, xH, reduceCtorEq, xI, xJ, xK, xL, xM, xN, xO, xP, xQ, xR] at hc); (try (have hx : True := hc; clear hx hc)); (try (exfalso; omega)); (try (with_reducible (exact absurd hc (by assumption)))); (try (with_reducible (exact absurd (by assumption) hc)))) | ((fail_if_success (with_reducible show ACall _ _ _ _ _)); (try (first | exact .inl rfl | (refine .inr ⟨rfl, ?_, ?_⟩; (focus (repeat (first | exact trivial | refine ⟨.inl rfl, ?_⟩ | refine ⟨.inr rfl, ?_⟩))); (first | exact trivial | exact rfl))))))))))
        exact ⟨⟨i + 1, ids', c2, by omega, by (simp (disch := omega) [go_sem, *]) <;> (try omega), by (simp (disch := omega) [go_sem, *]) <;> (try omega), by (simp (disch := omega) [go_sem, *]) <;> (try omega), by (simp (disch := omega) [go_sem, *]) <;> (try omega), by (simp (disch := omega) [go_sem, *]) <;> (try omega), by rw [hnx]; exact q1⟩, by (simp (disch := omega) [go_sem, *]) <;> (try omega)⟩
      · rw [if_neg hk] at hnx
        have hk : s6 = six → vld s6 A n = false := fun h => by simpa [kindF, rvld, h] using hk
        by_cases hs : s6 = six
        · subst hs
          rw [hk rfl] at hval
          generalize rtC (((s6, A), n), k) = rc at *
          repeat' (first | (with_reducible (first | apply w_seq | apply w_region | apply w_block | apply w_skip | apply w_exit | apply w_ret | apply w_then | apply w_then_exit | apply w_then_ret | apply w_in | apply w_in_here | apply w_in_ret | apply w_round | apply o_nil | apply d_nil)) | ((with_reducible (first | apply w_in_exit)); rfl) | ((with_reducible (first | apply w_draw)); rfl) | ((first | ((with_reducible (first | apply o_op | apply d_op | apply q_op)); rfl; rfl) | ((with_reducible (first | apply w_cond | apply w_end | apply w_return))) | ((with_reducible (first | apply o_guard | apply d_guard | apply q_guard)); rfl) | ((with_reducible (first | apply o_call_eq | apply d_call | apply q_call)); rfl)); all_goals (first | ((with_reducible show Is _ _); ((try simp (disch := first | omega | (simp only [yA, yB, yC, yD, yE] <;> omega) | fail) [go_sem, yF, yG, yH, *, if_pos, if_neg, -List.map_take, -List.map_drop, -List.map_append, -List.map_reverse]); exact rfl)) | ((fail_if_success (with_reducible show Is _ _)); (first | ((with_reducible refine fun (hc : (_ : Bool) = _) => ?_); (try simp only [xA, xB, xC, xD, xE, xF, xG, xH, reduceCtorEq, xI, xJ, xK, xL, xM, xN, xO, xP, xQ, xR] at hc); (try (have hx : True := hc; clear hx hc)); (try (exfalso; omega)); (try (with_reducible (exact absurd hc (by assumption)))); (try (with_reducible (exact absurd (by assumption) hc)))) | ((with_reducible show ACall _ _ _ _ _); (first | ((with_reducible (first | apply hval)) <;> (first | omega | assumption | exact rfl | ((simp (disch := first | omega | (simp only [yA, yB, yC, yD, yE] <;> omega) | fail) [go_sem, yF, yG, yH, *, -List.map_take, -List.map_drop, -List.map_append, -List.map_reverse]) <;> (first | done | omega | exact rfl)))))) | ((fail_if_success (with_reducible show ACall _ _ _ _ _)); (try (first | exact .inl rfl | (refine .inr ⟨rfl, ?_, ?_⟩; (focus (repeat (first | exact trivial | refine ⟨.inl rfl, ?_⟩ | refine ⟨.inr rfl, ?_⟩))); (first | exact trivial | exact rfl))))))))))
          exact ⟨⟨i + 1, ids, c, by omega, by (simp (disch := omega) [go_sem, *]) <;> (try omega), by (simp (disch := omega) [go_sem, *]) <;> (try omega), by (simp (disch := omega) [go_sem, *]) <;> (try omega), by (simp (disch := omega) [go_sem, *]) <;> (try omega), by (simp (disch := omega) [go_sem, *]) <;> (try omega), by rw [hnx]; exact hT1⟩, by (simp (disch := omega) [go_sem, *]) <;> (try omega)⟩
        · clear hk
          have hs2 : (s6 == six) = false := by simpa using hs
          generalize rtC (((s6, A), n), k) = rc at *
          repeat' (first | (with_reducible (first | apply w_seq | apply w_region | apply w_block | apply w_skip | apply w_exit | apply w_ret | apply w_then | apply w_then_exit | apply w_then_ret | apply w_in | apply w_in_here | apply w_in_ret | apply w_round | apply o_nil | apply d_nil)) | ((with_reducible (first | apply w_in_exit)); rfl) | ((with_reducible (first | apply w_draw)); rfl) | ((first | ((with_reducible (first | apply o_op | apply d_op | apply q_op)); rfl; rfl) | ((with_reducible (first | apply w_cond | apply w_end | apply w_return))) | ((with_reducible (first | apply o_guard | apply d_guard | apply q_guard)); rfl) | ((with_reducible (first | apply o_call_eq | apply d_call | apply q_call)); rfl)); all_goals (first | ((with_reducible show Is _ _); ((try simp (disch := first | omega | (simp only [yA, yB, yC, yD, yE] <;> omega) | fail) [go_sem, yF, yG, yH, *, if_pos, if_neg, -List.map_take, -List.map_drop, -List.map_append, -List.map_reverse]); exact rfl)) | ((fail_if_success (with_reducible show Is _ _)); (first | ((with_reducible refine fun (hc : (_ : Bool) = _) => ?_); (try simp only [xA, xB, xC, xD, xE, xF, xG, xH, reduceCtorEq, xI, xJ, xK, xL, xM, xN, xO, xP, xQ, xR] at hc); (try (have hx : True := hc; clear hx hc)); (try (exfalso; omega)); (try (with_reducible (exact absurd hc (by assumption)))); (try (with_reducible (exact absurd (by assumption) hc)))) | ((with_reducible show ACall _ _ _ _ _); (first | ((with_reducible (first | apply hval)) <;> (first | omega | assumption | exact rfl | ((simp (disch := first | omega | (simp only [yA, yB, yC, yD, yE] <;> omega) | fail) [go_sem, yF, yG, yH, *, -List.map_take, -List.map_drop, -List.map_append, -List.map_reverse]) <;> (first | done | omega | exact rfl)))))) | ((fail_if_success (with_reducible show ACall _ _ _ _ _)); (try (first | exact .inl rfl | (refine .inr ⟨rfl, ?_, ?_⟩; (focus (repeat (first | exact trivial | refine ⟨.inl rfl, ?_⟩ | refine ⟨.inr rfl, ?_⟩))); (first | exact trivial | exact rfl))))))))))
          exact ⟨⟨i + 1, ids, c, by omega, by (simp (disch := omega) [go_sem, *]) <;> (try omega), by (simp (disch := omega) [go_sem, *]) <;> (try omega), by (simp (disch := omega) [go_sem, *]) <;> (try omega), by (simp (disch := omega) [go_sem, *]) <;> (try omega), by (simp (disch := omega) [go_sem, *]) <;> (try omega), by rw [hnx]; exact hT1⟩, by (simp (disch := omega) [go_sem, *]) <;> (try omega)⟩
    · repeat' (first | (with_reducible (first | apply w_seq | apply w_region | apply w_block | apply w_skip | apply w_exit | apply w_ret | apply w_then | apply w_then_exit | apply w_then_ret | apply w_in | apply w_in_here | apply w_in_ret | apply w_round | apply o_nil | apply d_nil)) | ((with_reducible (first | apply w_in_exit)); rfl) | ((with_reducible (first | apply w_draw)); rfl) | ((first | ((with_reducible (first | apply o_op | apply d_op | apply q_op)); rfl; rfl) | ((with_reducible (first | apply w_cond | apply w_end | apply w_return))) | ((with_reducible (first | apply o_guard | apply d_guard | apply q_guard)); rfl)); all_goals (first | ((with_reducible show Is _ _); ((try simp (disch := first | omega | (simp only [yA, yB, yC, yD, yE] <;> omega) | fail) [go_sem, yF, yG, yH, *, if_pos, if_neg, -List.map_take, -List.map_drop, -List.map_append, -List.map_reverse]); exact rfl)) | ((fail_if_success (with_reducible show Is _ _)); (first | ((with_reducible refine fun (hc : (_ : Bool) = _) => ?_); (try simp only [xA, xB, xC, xD, xE, xF, xG, xH, reduceCtorEq, xI, xJ, xK, xL, xM, xN, xO, xP, xQ, xR] at hc); (try (have hx : True := hc; clear hx hc)); (try (exfalso; omega)); (try (with_reducible (exact absurd hc (by assumption)))); (try (with_reducible (exact absurd (by assumption) hc)))) | ((fail_if_success (with_reducible show ACall _ _ _ _ _)); (try (first | exact .inl rfl | (refine .inr ⟨rfl, ?_, ?_⟩; (focus (repeat (first | exact trivial | refine ⟨.inl rfl, ?_⟩ | refine ⟨.inr rfl, ?_⟩))); (first | exact trivial | exact rfl))))))))))
      rw [List.take_of_length_le (by omega)] at hT
      exact ⟨_, hT⟩
theorem trie_at {B : List Box} {args : List CV} {L : List Rt} {six : Bool} (hz : Is (omap (fz true false B 6) args) (some [rl rtC L, .bool six])) (hL : ∀ r ∈ L, RtG r) (hl : L.length < 1000000) : ACall Try.prog 35 args B fun c B' => c = trC (trF six L) ∧ B' = B :=
  acall_freshK (k2 := (trF six L).depth) hz ((trie_in L six hL hl).mono fun _ _ ⟨_, h⟩ => h.fz _ (Nat.le_refl _))
theorem trF_good {six : Bool} {L : List Rt} (hL : ∀ r ∈ L, RtG r) : (trF six L).ok ∧ ∀ k ∈ (trF six L).keys, k.length = 32 := by
  have key : ∀ (l : List (List Bool × List UInt8)) (T : Tr), (∀ e ∈ l, e.2.length = 32) → T.ok → (∀ k ∈ T.keys, k.length = 32) → (l.foldl (fun T e => T.put e.1 e.2) T).ok ∧ ∀ k ∈ (l.foldl (fun T e => T.put e.1 e.2) T).keys, k.length = 32 := by
    intro l
    induction l with
    | nil => intro T _ h1 h2; exact ⟨h1, h2⟩
    | cons e l ih =>
      intro T he h1 h2
      exact ih _ (fun e' h => he e' (by simp [h])) (Tr.put_ok _ _ _ h1) (Tr.put_keys (he e (by simp)) _ _ h2)
  refine key _ _ (fun e he => ?_) trivial (by simp [Tr.keys])
  obtain ⟨r, hr, rfl⟩ := List.mem_map.1 he
  exact (hL r (List.mem_filter.1 hr).1).2.1
/-- What a look-up comes to. -/
def lookF (L : List Rt) (a : Ad) : List UInt8 × Bool := if okA a.1 a.2 then fndF ((trF a.1 L).find (pathF a.2 128)) else (List.replicate 32 0, false)
theorem iCont_zero {a : Ad} (hA : a.2.length = 16) : cont a.1 (List.replicate 16 0) 0 a.1 a.2 = okA a.1 a.2 := by
  have h : vld a.1 (List.replicate 16 0) 0 = true := by cases a.1 <;> decide
  have e : cutL a.2 0 = List.replicate 16 0 := by
    unfold cutL
    have : ∀ x : UInt8, cutB x 0 = 0 := fun x => UInt8.toNat_inj.1 (by rw [cutB_toNat, cutN]; have := x.toNat_lt; simp; omega)
    simp only [Nat.zero_sub, Nat.zero_min, this]; rfl
  rw [cont, h, show (0 : Int).toNat = 0 from rfl, e]; simp
theorem lookup_at {B : List Box} {args : List CV} {L : List Rt} {a : Ad} (hz : Is (omap (fz true false B 6) args) (some [rl rtC L, .agg (adC a)])) (hL : ∀ r ∈ L, RtG r) (hl : L.length < 1000000) (ha : a.2.length = 16) : ACall Try.prog 12 args B fun c B' => c = fndC (lookF L a) ∧ B' = B := by
  refine acall_freshK (k2 := 6) hz ?_
  obtain ⟨six, A⟩ := a
  dsimp only at ha
  obtain ⟨h1, h2⟩ := trF_good (six := six) hL
  have hfind : ∀ (B : List Box) (args : List CV), Is args [trC (trF six L), .agg (adC (six, A)), .int .i64 0] → ACall Try.prog 36 args B fun c' B' => c' = fndC (fndF ((trF six L).find (pathF A 128))) ∧ B' = B := fun B args h => by
    have := find_at A six ha 128 0 (by omega) _ h1 h2 B args h
    rwa [List.drop_zero] at this
  have htrie : ∀ (B : List Box) (args : List CV), Is args [rl rtC L, .bool six] → ACall Try.prog 35 args B fun c B' => c = trC (trF six L) ∧ B' = B := fun B args h => by
    have h : args = _ := h
    subst h
    exact trie_at (by show _ = _; simp [rl, go_sem]) hL hl
  have hcont : ∀ (B : List Box) (args : List CV), Is (omap (fz true false B 6) args) (some [.agg (adC (six, List.replicate 16 0) ++ [.int .i64 0]), .agg (adC (six, A))]) → ACall Try.prog 34 args B fun c B' => c = .bool (okA six A) ∧ B' = B := fun B args h => by
    have := iContains_at (six := six) (A := List.replicate 16 0) (s := 0) (six2 := six) (A2 := A) h rfl ha
    rwa [iCont_zero (a := (six, A)) ha] at this
  obtain ⟨f, hf⟩ : ∃ f, fndF ((trF six L).find (pathF A 128)) = f := ⟨_, rfl⟩
  rw [hf] at hfind
  unfold lookF
  dsimp only
  rw [hf]
  generalize trC (trF six L) = tc at *
  generalize rl rtC L = lc at *
  have hla := adC_len (a := (six, A)) ha
  have hta : (adC (six, A)).take 17 = adC (six, A) := List.take_of_length_le (by omega)
  have hda : (adC (six, A)).drop 17 = [] := List.drop_eq_nil_of_le (by omega)
  have hhd : (adC (six, A)).head? = some (.bool six) := rfl
  have hadm : ∀ (nz fr : Bool) (B : List Box) (k : Nat), omap (fz nz fr B (k + 1)) (adC (six, A)) = some (adC (six, A)) := fun _ _ _ _ => by simp [adC, go_sem]
  have hzz : adC (six, List.replicate 16 0) = [.bool six, .int .u8 0, .int .u8 0, .int .u8 0, .int .u8 0, .int .u8 0, .int .u8 0, .int .u8 0, .int .u8 0, .int .u8 0, .int .u8 0, .int .u8 0, .int .u8 0, .int .u8 0, .int .u8 0, .int .u8 0, .int .u8 0] := rfl
  rw [hzz] at hcont
  generalize adC (six, A) = ac at *
  generalize okA six A = ok at *
  refine acall_intro mixed Try.func12 rfl ca12 (by kernel_rfl) (by rw [Try.ntmps12]; simp) ?_
  have hx : f.1.length = 32 := by
    rw [← hf]
    cases hq : (trF six L).find (pathF A 128) with
    | none => rfl
    | some dx => exact h2 _ (find_mem _ _ _ _ hq)
  obtain ⟨x, o⟩ := f
  dsimp only at hx
  have hx1 : (x.map byteC).take 32 = x.map byteC := List.take_of_length_le (by simp [hx])
  have hx2 : (x.map byteC).drop 32 = [] := List.drop_eq_nil_of_le (by simp [hx])
  have hfind : ∀ (B : List Box) (args : List CV), Is args [tc, .agg ac, .int .i64 0] → ACall Try.prog 36 args B fun c' B' => c' = .tup [.agg (x.map byteC), .bool o] ∧ B' = B := hfind
  clear h1 h2
  repeat' (first | (with_reducible (first | apply w_seq | apply w_region | apply w_block | apply w_skip | apply w_exit | apply w_ret | apply w_then | apply w_then_exit | apply w_then_ret | apply w_in | apply w_in_here | apply w_in_ret | apply w_round | apply o_nil | apply d_nil)) | ((with_reducible (first | apply w_in_exit)); rfl) | ((with_reducible (first | apply w_draw)); rfl) | ((with_reducible (first | apply w_drawA)); (conv => lhs; reduce); ((try simp (disch := first | omega | (simp only [yA, yB, yC, yD, yE] <;> omega) | fail) [go_sem, yF, yG, yH, *, if_pos, if_neg, -List.map_take, -List.map_drop, -List.map_append, -List.map_reverse]); exact rfl); ((try simp (disch := first | omega | (simp only [yA, yB, yC, yD, yE] <;> omega) | fail) [go_sem, yF, yG, yH, *, if_pos, if_neg, -List.map_take, -List.map_drop, -List.map_append, -List.map_reverse]); exact rfl)) | ((first | ((with_reducible (first | apply d_made | apply q_made)); rfl; rfl)); (iterate 6 ((try simp (disch := first | omega | (simp only [yA, yB, yC, yD, yE] <;> omega) | fail) [go_sem, yF, yG, yH, *, if_pos, if_neg, -List.map_take, -List.map_drop, -List.map_append, -List.map_reverse]); exact rfl))) | ((first | ((with_reducible (first | apply d_fop | apply q_fop)); rfl; rfl)); (intro Bx hJ; (first | (obtain ⟨_, hJ1, hJ2⟩ := hJ) | (try simp only at hJ)); ((try simp (disch := first | omega | (simp only [yA, yB, yC, yD, yE] <;> omega) | fail) [go_sem, yF, yG, yH, *, if_pos, if_neg, -List.map_take, -List.map_drop, -List.map_append, -List.map_reverse]); exact rfl))) | ((with_reducible (first | apply d_free | apply q_free)); rfl; (iterate 2 ((try simp (disch := first | omega | (simp only [yA, yB, yC, yD, yE] <;> omega) | fail) [go_sem, yF, yG, yH, *, if_pos, if_neg, -List.map_take, -List.map_drop, -List.map_append, -List.map_reverse]); exact rfl)); (intro Bx hJ); (first | ((with_reducible (first | apply hcont)) <;> (first | omega | assumption | exact rfl | ((simp (disch := first | omega | (simp only [yA, yB, yC, yD, yE] <;> omega) | fail) [go_sem, yF, yG, yH, *, -List.map_take, -List.map_drop, -List.map_append, -List.map_reverse]) <;> (first | done | omega | exact rfl)))) | ((with_reducible (first | apply htrie)) <;> (first | omega | assumption | exact rfl | ((simp (disch := first | omega | (simp only [yA, yB, yC, yD, yE] <;> omega) | fail) [go_sem, yF, yG, yH, *, -List.map_take, -List.map_drop, -List.map_append, -List.map_reverse]) <;> (first | done | omega | exact rfl)))) | ((with_reducible (first | apply hfind)) <;> (first | omega | assumption | exact rfl | ((simp (disch := first | omega | (simp only [yA, yB, yC, yD, yE] <;> omega) | fail) [go_sem, yF, yG, yH, *, -List.map_take, -List.map_drop, -List.map_append, -List.map_reverse]) <;> (first | done | omega | exact rfl)))))) | ((first | ((with_reducible (first | apply o_op | apply d_op | apply q_op)); rfl; rfl) | ((with_reducible (first | apply w_cond | apply w_end | apply w_return))) | ((with_reducible (first | apply o_guard | apply d_guard | apply q_guard)); rfl) | ((with_reducible (first | apply o_call_eq | apply d_call | apply q_call)); rfl)); all_goals (first | ((with_reducible show Is _ _); ((try simp (disch := first | omega | (simp only [yA, yB, yC, yD, yE] <;> omega) | fail) [go_sem, yF, yG, yH, *, if_pos, if_neg, -List.map_take, -List.map_drop, -List.map_append, -List.map_reverse]); exact rfl)) | ((fail_if_success (with_reducible show Is _ _)); (first | ((with_reducible refine fun (hc : (_ : Bool) = _) => ?_); (try simp only [xA, xB, xC, xD, xE, xF, xG, xH, reduceCtorEq, xI, xJ, xK, xL, xM, xN, xO, xP, xQ, xR] at hc); (try (have hx : True := hc; clear hx hc)); (try (exfalso; omega)); (try (with_reducible (exact absurd hc (by assumption)))); (try (with_reducible (exact absurd (by assumption) hc)))) | ((with_reducible show ACall _ _ _ _ _); (first | ((with_reducible (first | apply hcont)) <;> (first | omega | assumption | exact rfl | ((simp (disch := first | omega | (simp only [yA, yB, yC, yD, yE] <;> omega) | fail) [go_sem, yF, yG, yH, *, -List.map_take, -List.map_drop, -List.map_append, -List.map_reverse]) <;> (first | done | omega | exact rfl)))) | ((with_reducible (first | apply htrie)) <;> (first | omega | assumption | exact rfl | ((simp (disch := first | omega | (simp only [yA, yB, yC, yD, yE] <;> omega) | fail) [go_sem, yF, yG, yH, *, -List.map_take, -List.map_drop, -List.map_append, -List.map_reverse]) <;> (first | done | omega | exact rfl)))) | ((with_reducible (first | apply hfind)) <;> (first | omega | assumption | exact rfl | ((simp (disch := first | omega | (simp only [yA, yB, yC, yD, yE] <;> omega) | fail) [go_sem, yF, yG, yH, *, -List.map_take, -List.map_drop, -List.map_append, -List.map_reverse]) <;> (first | done | omega | exact rfl)))))) | ((fail_if_success (with_reducible show ACall _ _ _ _ _)); (try (first | exact .inl rfl | (refine .inr ⟨rfl, ?_, ?_⟩; (focus (repeat (first | exact trivial | refine ⟨.inl rfl, ?_⟩ | refine ⟨.inr rfl, ?_⟩ | refine ⟨.inr (by (simp (disch := first | omega | (simp only [yA, yB, yC, yD, yE] <;> omega) | fail) [go_sem, yF, yG, yH, *, -List.map_take, -List.map_drop, -List.map_append, -List.map_reverse])), ?_⟩))); (first | exact trivial | exact rfl | (refine ⟨_, ?_, ?_⟩; (focus (simp (disch := first | omega | (simp only [yA, yB, yC, yD, yE] <;> omega) | fail) [go_sem, yF, yG, yH, *, -List.map_take, -List.map_drop, -List.map_append, -List.map_reverse]; (try exact rfl))); (simp (disch := first | omega | (simp only [yA, yB, yC, yD, yE] <;> omega) | fail) [go_sem, yF, yG, yH, *, -List.map_take, -List.map_drop, -List.map_append, -List.map_reverse])) | (simp (disch := first | omega | (simp only [yA, yB, yC, yD, yE] <;> omega) | fail) [go_sem, yF, yG, yH, *, -List.map_take, -List.map_drop, -List.map_append, -List.map_reverse]))) | exact .inl (by (simp (disch := first | omega | (simp only [yA, yB, yC, yD, yE] <;> omega) | fail) [go_sem, yF, yG, yH, *, -List.map_take, -List.map_drop, -List.map_append, -List.map_reverse]))))))))))
  · subst hc; rfl
  · subst hc; (simp (disch := omega) [go_sem, fndC]) <;> (try omega)
/-! Routes and prefixes: when they are equal, and which comes first. -/
theorem key_eqV {p q : List UInt8} (hp : p.length = 32) (hq : q.length = 32) : eqV Try.prog 20 35 (.agg (p.map byteC)) (.agg (q.map byteC)) = some (p == q) := by
  simp (disch := omega) [go_sem, hp, hq]
theorem ad_eqV {t u : Ad} (ht : t.2.length = 16) (hu : u.2.length = 16) : eqV Try.prog 20 26 (.agg (adC t)) (.agg (adC u)) = some (t == u) := by
  obtain ⟨a, p⟩ := t
  obtain ⟨b, q⟩ := u
  dsimp only at ht hu
  have h7 : (p.map byteC).take 16 = p.map byteC := List.take_of_length_le (by rw [List.length_map]; omega)
  have h8 : (q.map byteC).take 16 = q.map byteC := List.take_of_length_le (by rw [List.length_map]; omega)
  simp (disch := omega) [go_sem, adC, h7, h8, ht, hu, -List.map_take]
  rw [Bool.eq_iff_iff]
  simp
theorem pget {l : List UInt8} {n : Nat} (h : l.length = n) (y : CV) : (l.map byteC ++ [y])[n]? = some y := by
  subst h
  rw [List.getElem?_append_right (by simp)]; simp
theorem pf_eqV {t u : Pf} (ht : t.1.2.length = 16) (hu : u.1.2.length = 16) : eqV Try.prog 20 33 (.agg (pfC t)) (.agg (pfC u)) = some (t == u) := by
  obtain ⟨⟨a, p⟩, k⟩ := t
  obtain ⟨⟨b, q⟩, m⟩ := u
  dsimp only at ht hu
  have h1 := bmid ht
  have h2 := bmid hu
  have h3 := pget ht
  have h4 := pget hu
  have h7 : (p.map byteC).take 16 = p.map byteC := List.take_of_length_le (by rw [List.length_map]; omega)
  have h8 : (q.map byteC).take 16 = q.map byteC := List.take_of_length_le (by rw [List.length_map]; omega)
  simp (disch := omega) [go_sem, pfC, adC, h1, h2, h3, h4, h7, h8, ht, hu, -List.map_take]
  rw [Bool.eq_iff_iff]
  simp
theorem rt_eqV {t u : Rt} (ht : t.1.1.2.length = 16 ∧ t.2.length = 32) (hu : u.1.1.2.length = 16 ∧ u.2.length = 32) : eqV Try.prog 20 37 (.agg (rtC t)) (.agg (rtC u)) = some (t == u) := by
  obtain ⟨⟨⟨a, p⟩, k⟩, x⟩ := t
  obtain ⟨⟨⟨b, q⟩, m⟩, y⟩ := u
  dsimp only at ht hu
  obtain ⟨ht, ht2⟩ := ht
  obtain ⟨hu, hu2⟩ := hu
  have h1 := bmid ht
  have h2 := bmid hu
  have g1 : (p.map byteC ++ .int .i64 k :: x.map byteC)[16]? = some (.int .i64 k) := by rw [List.getElem?_append_right (by simp [ht])]; simp [ht]
  have g2 : (q.map byteC ++ .int .i64 m :: y.map byteC)[16]? = some (.int .i64 m) := by rw [List.getElem?_append_right (by simp [hu])]; simp [hu]
  have d1 : (p.map byteC ++ .int .i64 k :: x.map byteC).drop 17 = x.map byteC := by rw [← List.drop_drop (i := 1) (j := 16), (h1 _).2]; rfl
  have d2 : (q.map byteC ++ .int .i64 m :: y.map byteC).drop 17 = y.map byteC := by rw [← List.drop_drop (i := 1) (j := 16), (h2 _).2]; rfl
  have t1 : (p.map byteC ++ .int .i64 k :: x.map byteC).take 17 = p.map byteC ++ [.int .i64 k] := by rw [List.take_append, List.take_of_length_le (by simp [ht])]; simp [ht]
  have t2 : (q.map byteC ++ .int .i64 m :: y.map byteC).take 17 = q.map byteC ++ [.int .i64 m] := by rw [List.take_append, List.take_of_length_le (by simp [hu])]; simp [hu]
  have e1 : rtC (((a, p), k), x) = .bool a :: (p.map byteC ++ .int .i64 k :: x.map byteC) := by simp [rtC, adC]
  have e2 : rtC (((b, q), m), y) = .bool b :: (q.map byteC ++ .int .i64 m :: y.map byteC) := by simp [rtC, adC]
  have h3 := pget ht
  have h4 := pget hu
  have h7 : (p.map byteC).take 16 = p.map byteC := List.take_of_length_le (by rw [List.length_map]; omega)
  have h8 : (q.map byteC).take 16 = q.map byteC := List.take_of_length_le (by rw [List.length_map]; omega)
  have h9 : (x.map byteC).take 32 = x.map byteC := List.take_of_length_le (by rw [List.length_map]; omega)
  have h10 : (y.map byteC).take 32 = y.map byteC := List.take_of_length_le (by rw [List.length_map]; omega)
  rw [e1, e2]
  simp (disch := omega) [go_sem, h1, h2, h3, h4, h7, h8, h9, h10, g1, g2, d1, d2, t1, t2, ht, hu, ht2, hu2, -List.map_take]
  rw [Bool.eq_iff_iff]
  simp [and_assoc]
def lessP (p q : Pf) : Bool := if p.1 == q.1 then decide (p.2 < q.2) else lessI p.1.1 p.1.2 q.1.1 q.1.2
theorem pf_parts {p : Pf} (h : p.1.2.length = 16) : (pfC p).length = 18 ∧ (pfC p).take 18 = pfC p ∧ (pfC p).drop 18 = [] ∧ (pfC p).take 17 = adC p.1 ∧ (pfC p)[17]? = some (.int .i64 p.2) ∧ ((pfC p).drop 17).head? = some (.int .i64 p.2) := by
  have l17 := adC_len h
  have l18 := pfC_len h
  have g : (pfC p)[17]? = some (.int .i64 p.2) := by rw [pfC, List.getElem?_append_right (by omega), l17]; rfl
  exact ⟨l18, List.take_of_length_le (by omega), List.drop_eq_nil_of_le (by omega), by rw [pfC, List.take_left' l17], g, by rw [List.head?_drop, g]⟩
theorem rless_in (p q : Pf) (hp : p.1.2.length = 16) (hq : q.1.2.length = 16) : PC Try.prog true 45 [.agg (pfC p), .agg (pfC q)] (.bool (lessP p q)) := by
  obtain ⟨p1, p2, p3, p4, p5, p6⟩ := pf_parts hp
  obtain ⟨q1, q2, q3, q4, q5, q6⟩ := pf_parts hq
  have he := ad_eqV hp hq
  have hl : ∀ {B : List Box} {args : List CV}, Is (omap (fz true false B 6) args) (some [.agg (adC p.1), .agg (adC q.1)]) → ACall Try.prog 57 args B fun c B' => c = .bool (lessI p.1.1 p.1.2 q.1.1 q.1.2) ∧ B' = B := fun h => iLess_at h hp hq
  have ha : ∀ (nz fr : Bool) (B : List Box) (k : Nat), omap (fz nz fr B (k + 1)) (adC p.1) = some (adC p.1) := fun _ _ _ _ => by simp [adC, go_sem]
  have hb : ∀ (nz fr : Bool) (B : List Box) (k : Nat), omap (fz nz fr B (k + 1)) (adC q.1) = some (adC q.1) := fun _ _ _ _ => by simp [adC, go_sem]
  unfold lessP
  generalize lessI p.1.1 p.1.2 q.1.1 q.1.2 = x at *
  generalize pfC p = pc at *
  generalize pfC q = qc at *
  refine acall_intro mixed Try.func45 rfl ca45 (by kernel_rfl) (by rw [Try.ntmps45]; simp) ?_
  by_cases h : p.1 = q.1
  · rw [h] at he ha ⊢
    rw [beq_self_eq_true] at he ⊢
    simp only [if_true]
    rw [h] at p4
    repeat' (first | (with_reducible (first | apply w_seq | apply w_region | apply w_block | apply w_skip | apply w_exit | apply w_ret | apply w_then | apply w_then_exit | apply w_then_ret | apply w_in | apply w_in_here | apply w_in_ret | apply w_round | apply o_nil | apply d_nil)) | ((with_reducible (first | apply w_in_exit)); rfl) | ((with_reducible (first | apply w_draw)); rfl) | ((first | ((with_reducible (first | apply o_op | apply d_op | apply q_op)); rfl; rfl) | ((with_reducible (first | apply w_cond | apply w_end | apply w_return))) | ((with_reducible (first | apply o_guard | apply d_guard | apply q_guard)); rfl)); all_goals (first | ((with_reducible show Is _ _); ((try simp (disch := first | omega | (simp only [yA, yB, yC, yD, yE] <;> omega) | fail) [go_sem, yF, yG, yH, *, if_pos, if_neg, -List.map_take, -List.map_drop, -List.map_append, -List.map_reverse]); exact rfl)) | ((fail_if_success (with_reducible show Is _ _)); (first | ((with_reducible refine fun (hc : (_ : Bool) = _) => ?_); (try simp only [xA, xB, xC, xD, xE, xF, xG, xH, reduceCtorEq, xI, xJ, xK, xL, xM, xN, xO, xP, xQ, xR] at hc); (try (have hx : True := hc; clear hx hc)); (try (exfalso; omega)); (try (with_reducible (exact absurd hc (by assumption)))); (try (with_reducible (exact absurd (by assumption) hc)))) | ((fail_if_success (with_reducible show ACall _ _ _ _ _)); (try (first | exact .inl rfl | (refine .inr ⟨rfl, ?_, ?_⟩; (focus (repeat (first | exact trivial | refine ⟨.inl rfl, ?_⟩ | refine ⟨.inr rfl, ?_⟩))); (first | exact trivial | exact rfl))))))))))
    rfl
  · rw [beq_eq_false_iff_ne.2 h] at he ⊢
    simp only [Bool.false_eq_true, if_false]
    repeat' (first | (with_reducible (first | apply w_seq | apply w_region | apply w_block | apply w_skip | apply w_exit | apply w_ret | apply w_then | apply w_then_exit | apply w_then_ret | apply w_in | apply w_in_here | apply w_in_ret | apply w_round | apply o_nil | apply d_nil)) | ((with_reducible (first | apply w_in_exit)); rfl) | ((with_reducible (first | apply w_draw)); rfl) | ((first | ((with_reducible (first | apply o_op | apply d_op | apply q_op)); rfl; rfl) | ((with_reducible (first | apply w_cond | apply w_end | apply w_return))) | ((with_reducible (first | apply o_guard | apply d_guard | apply q_guard)); rfl) | ((with_reducible (first | apply o_call_eq | apply d_call | apply q_call)); rfl)); all_goals (first | ((with_reducible show Is _ _); ((try simp (disch := first | omega | (simp only [yA, yB, yC, yD, yE] <;> omega) | fail) [go_sem, yF, yG, yH, *, if_pos, if_neg, -List.map_take, -List.map_drop, -List.map_append, -List.map_reverse]); exact rfl)) | ((fail_if_success (with_reducible show Is _ _)); (first | ((with_reducible refine fun (hc : (_ : Bool) = _) => ?_); (try simp only [xA, xB, xC, xD, xE, xF, xG, xH, reduceCtorEq, xI, xJ, xK, xL, xM, xN, xO, xP, xQ, xR] at hc); (try (have hx : True := hc; clear hx hc)); (try (exfalso; omega)); (try (with_reducible (exact absurd hc (by assumption)))); (try (with_reducible (exact absurd (by assumption) hc)))) | ((with_reducible show ACall _ _ _ _ _); (first | ((with_reducible (first | apply hl)) <;> (first | omega | assumption | exact rfl | ((simp (disch := first | omega | (simp only [yA, yB, yC, yD, yE] <;> omega) | fail) [go_sem, yF, yG, yH, *, -List.map_take, -List.map_drop, -List.map_append, -List.map_reverse]) <;> (first | done | omega | exact rfl)))))) | ((fail_if_success (with_reducible show ACall _ _ _ _ _)); (try (first | exact .inl rfl | (refine .inr ⟨rfl, ?_, ?_⟩; (focus (repeat (first | exact trivial | refine ⟨.inl rfl, ?_⟩ | refine ⟨.inr rfl, ?_⟩))); (first | exact trivial | exact rfl))))))))))
    rfl
theorem rless_at {B : List Box} {args : List CV} {p q : Pf} (hz : Is (omap (fz true false B 6) args) (some [.agg (pfC p), .agg (pfC q)])) (hp : p.1.2.length = 16) (hq : q.1.2.length = 16) : ACall Try.prog 45 args B fun c B' => c = .bool (lessP p q) ∧ B' = B := acall_fresh hz (rless_in p q hp hq)
theorem before_in (p q : Pf) (hp : p.1.2.length = 16) (hq : q.1.2.length = 16) : PC Try.prog true 47 [.agg (pfC p), .agg (pfC q)] (.bool (lessP p q)) := by
  obtain ⟨p1, p2, p3, p4, p5, p6⟩ := pf_parts hp
  obtain ⟨q1, q2, q3, q4, q5, q6⟩ := pf_parts hq
  have he := ad_eqV hp hq
  have hl : ∀ {B : List Box} {args : List CV}, Is (omap (fz true false B 6) args) (some [.agg (adC p.1), .agg (adC q.1)]) → ACall Try.prog 60 args B fun c B' => c = .bool (lessI p.1.1 p.1.2 q.1.1 q.1.2) ∧ B' = B := fun h => rLess_at h hp hq
  have ha : ∀ (nz fr : Bool) (B : List Box) (k : Nat), omap (fz nz fr B (k + 1)) (adC p.1) = some (adC p.1) := fun _ _ _ _ => by simp [adC, go_sem]
  have hb : ∀ (nz fr : Bool) (B : List Box) (k : Nat), omap (fz nz fr B (k + 1)) (adC q.1) = some (adC q.1) := fun _ _ _ _ => by simp [adC, go_sem]
  unfold lessP
  generalize lessI p.1.1 p.1.2 q.1.1 q.1.2 = x at *
  generalize pfC p = pc at *
  generalize pfC q = qc at *
  refine acall_intro mixed Try.func47 rfl ca47 (by kernel_rfl) (by rw [Try.ntmps47]; simp) ?_
  by_cases h : p.1 = q.1
  · rw [h] at he ha ⊢
    rw [beq_self_eq_true] at he ⊢
    simp only [if_true]
    rw [h] at p4
    repeat' (first | (with_reducible (first | apply w_seq | apply w_region | apply w_block | apply w_skip | apply w_exit | apply w_ret | apply w_then | apply w_then_exit | apply w_then_ret | apply w_in | apply w_in_here | apply w_in_ret | apply w_round | apply o_nil | apply d_nil)) | ((with_reducible (first | apply w_in_exit)); rfl) | ((with_reducible (first | apply w_draw)); rfl) | ((first | ((with_reducible (first | apply o_op | apply d_op | apply q_op)); rfl; rfl) | ((with_reducible (first | apply w_cond | apply w_end | apply w_return))) | ((with_reducible (first | apply o_guard | apply d_guard | apply q_guard)); rfl)); all_goals (first | ((with_reducible show Is _ _); ((try simp (disch := first | omega | (simp only [yA, yB, yC, yD, yE] <;> omega) | fail) [go_sem, yF, yG, yH, *, if_pos, if_neg, -List.map_take, -List.map_drop, -List.map_append, -List.map_reverse]); exact rfl)) | ((fail_if_success (with_reducible show Is _ _)); (first | ((with_reducible refine fun (hc : (_ : Bool) = _) => ?_); (try simp only [xA, xB, xC, xD, xE, xF, xG, xH, reduceCtorEq, xI, xJ, xK, xL, xM, xN, xO, xP, xQ, xR] at hc); (try (have hx : True := hc; clear hx hc)); (try (exfalso; omega)); (try (with_reducible (exact absurd hc (by assumption)))); (try (with_reducible (exact absurd (by assumption) hc)))) | ((fail_if_success (with_reducible show ACall _ _ _ _ _)); (try (first | exact .inl rfl | (refine .inr ⟨rfl, ?_, ?_⟩; (focus (repeat (first | exact trivial | refine ⟨.inl rfl, ?_⟩ | refine ⟨.inr rfl, ?_⟩))); (first | exact trivial | exact rfl))))))))))
    rfl
  · rw [beq_eq_false_iff_ne.2 h] at he ⊢
    simp only [Bool.false_eq_true, if_false]
    repeat' (first | (with_reducible (first | apply w_seq | apply w_region | apply w_block | apply w_skip | apply w_exit | apply w_ret | apply w_then | apply w_then_exit | apply w_then_ret | apply w_in | apply w_in_here | apply w_in_ret | apply w_round | apply o_nil | apply d_nil)) | ((with_reducible (first | apply w_in_exit)); rfl) | ((with_reducible (first | apply w_draw)); rfl) | ((first | ((with_reducible (first | apply o_op | apply d_op | apply q_op)); rfl; rfl) | ((with_reducible (first | apply w_cond | apply w_end | apply w_return))) | ((with_reducible (first | apply o_guard | apply d_guard | apply q_guard)); rfl) | ((with_reducible (first | apply o_call_eq | apply d_call | apply q_call)); rfl)); all_goals (first | ((with_reducible show Is _ _); ((try simp (disch := first | omega | (simp only [yA, yB, yC, yD, yE] <;> omega) | fail) [go_sem, yF, yG, yH, *, if_pos, if_neg, -List.map_take, -List.map_drop, -List.map_append, -List.map_reverse]); exact rfl)) | ((fail_if_success (with_reducible show Is _ _)); (first | ((with_reducible refine fun (hc : (_ : Bool) = _) => ?_); (try simp only [xA, xB, xC, xD, xE, xF, xG, xH, reduceCtorEq, xI, xJ, xK, xL, xM, xN, xO, xP, xQ, xR] at hc); (try (have hx : True := hc; clear hx hc)); (try (exfalso; omega)); (try (with_reducible (exact absurd hc (by assumption)))); (try (with_reducible (exact absurd (by assumption) hc)))) | ((with_reducible show ACall _ _ _ _ _); (first | ((with_reducible (first | apply hl)) <;> (first | omega | assumption | exact rfl | ((simp (disch := first | omega | (simp only [yA, yB, yC, yD, yE] <;> omega) | fail) [go_sem, yF, yG, yH, *, -List.map_take, -List.map_drop, -List.map_append, -List.map_reverse]) <;> (first | done | omega | exact rfl)))))) | ((fail_if_success (with_reducible show ACall _ _ _ _ _)); (try (first | exact .inl rfl | (refine .inr ⟨rfl, ?_, ?_⟩; (focus (repeat (first | exact trivial | refine ⟨.inl rfl, ?_⟩ | refine ⟨.inr rfl, ?_⟩))); (first | exact trivial | exact rfl))))))))))
    rfl
theorem before_at {B : List Box} {args : List CV} {p q : Pf} (hz : Is (omap (fz true false B 6) args) (some [.agg (pfC p), .agg (pfC q)])) (hp : p.1.2.length = 16) (hq : q.1.2.length = 16) : ACall Try.prog 47 args B fun c B' => c = .bool (lessP p q) ∧ B' = B := acall_fresh hz (before_in p q hp hq)
end Go.Proofs.Ytmcnajknmoldpaa
