import Derived.Test.YtmcnajknmoldpaaL2
namespace Go.Proofs.Ytmcnajknmoldpaa
open Go Go.Sy
set_option linter.all false
set_option maxRecDepth 100000
set_option maxHeartbeats 4000000
def limP (i : Nat) : Pf := mskF (hostF i 0) 24
theorem limP_ne0 : ∀ i j : Fin 17, limP i.1 = limP j.1 → i = j := by decide +kernel
theorem limP_ne {i j : Nat} (hi : i < 17) (hj : j < 17) (h : limP i = limP j) : i = j := congrArg Fin.val (limP_ne0 ⟨i, hi⟩ ⟨j, hj⟩ h)
theorem limP_good (i : Nat) : PfG (limP i) := msk_good rfl rfl (show 24 ≤ 32 by omega)
theorem RoutesLimits_in (k : List UInt8) (hk : k.length = 32) : PC Try.prog true 5 [.agg (k.map byteC)] (.bool true) := by
  obtain ⟨k1, k2, k3⟩ := kmid hk
  have om : ∀ (a : Ad) (nz fr : Bool) (B : List Box) (k : Nat), omap (fz nz fr B (k + 1)) (adC a) = some (adC a) := fun _ _ _ _ _ => by simp [adC, go_sem]
  have omk : ∀ (nz fr : Bool) (B : List Box) (n : Nat), omap (fz nz fr B (n + 1)) (k.map byteC) = some (k.map byteC) := fun _ _ _ _ => by simp [go_sem]
  have om0 : ∀ (L : List Rt) (nz : Bool) (B : List Box) (k : Nat), fz nz false B (k + 2) (rl rtC L) = some (rl rtC L) := fun L nz B k => by simp [rl, go_sem]
  refine acall_intro mixed Try.func5 rfl ca5 (by kernel_rfl) (by rw [Try.ntmps5]; simp) ?_
  repeat' (first | (with_reducible (first | apply w_seq | apply w_region | apply w_block | apply w_skip | apply w_exit | apply w_ret | apply w_then | apply w_then_exit | apply w_then_ret | apply w_in | apply w_in_here | apply w_in_ret | apply w_round | apply o_nil | apply d_nil)) | ((with_reducible (first | apply w_in_exit)); rfl) | ((with_reducible (first | apply w_draw)); rfl) | ((first | ((with_reducible (first | apply o_op | apply d_op | apply q_op)); rfl; rfl) | ((with_reducible (first | apply w_cond | apply w_end | apply w_return))) | ((with_reducible (first | apply o_guard | apply d_guard | apply q_guard)); rfl)); all_goals (first | ((with_reducible show Is _ _); ((try simp (disch := first | omega | (simp only [yA, yB, yC, yD, yE] <;> omega) | fail) [go_sem, yF, yG, yH, *, if_pos, if_neg, -List.map_take, -List.map_drop, -List.map_append, -List.map_reverse]); exact rfl)) | ((fail_if_success (with_reducible show Is _ _)); (first | ((with_reducible refine fun (hc : (_ : Bool) = _) => ?_); (try simp only [xA, xB, xC, xD, xE, xF, xG, xH, reduceCtorEq, xI, xJ, xK, xL, xM, xN, xO, xP, xQ, xR] at hc); (try (have hx : True := hc; clear hx hc)); (try (exfalso; omega)); (try (with_reducible (exact absurd hc (by assumption)))); (try (with_reducible (exact absurd (by assumption) hc)))) | ((fail_if_success (with_reducible show ACall _ _ _ _ _)); (try (first | exact .inl rfl | (refine .inr ⟨rfl, ?_, ?_⟩; (focus (repeat (first | exact trivial | refine ⟨.inl rfl, ?_⟩ | refine ⟨.inr rfl, ?_⟩))); (first | exact trivial | exact rfl))))))))))
  refine w_loop (fun fr B => ∃ (i : Nat) (L : List Rt), i ≤ 16 ∧ RG L ∧ L.length = i ∧ (∀ r ∈ L, ∃ j, j < i ∧ r.1 = limP j) ∧ (∀ j, j < i → ∃ r ∈ L, r.1 = limP j) ∧ fr 4 = .int .i64 i ∧ fr 1 = .ptr 0 0 ∧ ((fr 3 = .nilS ∧ L = []) ∨ fr 3 = rl rtC L) ∧ B = [⟨k.map byteC, false⟩]) (fun fr _ => 17 - natOf (fr 4)) ?_ ?_
  · exact ⟨0, [], by omega, RG.nil, rfl, by simp, fun j hj => by omega, by (simp (disch := omega) [go_sem, *]) <;> (try omega), by (simp (disch := omega) [go_sem, *]) <;> (try omega), .inl ⟨by (simp (disch := omega) [go_sem, *]) <;> (try omega), rfl⟩, rfl⟩
  · rintro fr B ⟨i, L, hi, hL, hLl, hin, hall, h4, h1, h3, rfl⟩
    have hhost : ∀ (B : List Box) (args : List CV), Is (omap (fz true false B 6) args) (some [.int .i64 i, .int .i64 0]) → ACall Try.prog 18 args B fun c B' => c = .agg (adC (hostF i 0)) ∧ B' = B := fun B args h => host_at (a := i) (b := 0) h (by omega) (by omega)
    have hmsk : ∀ (B : List Box) (args : List CV), Is (omap (fz true false B 6) args) (some [.agg (adC (hostF i 0)), .int .i64 24]) → ACall Try.prog 17 args B fun c B' => c = .agg (pfC (limP i)) ∧ B' = B := fun B args h => msk_at (a := hostF i 0) (s := 24) h rfl rfl (by omega)
    have hnew : ∀ r ∈ L, r.1 ≠ limP i := fun r hr e => by
      obtain ⟨j, hj, e2⟩ := hin r hr
      have := limP_ne (by omega) (by omega) (e.symm.trans e2)
      omega
    have hwi : IntKind.i64.wrap ((i : Int) + 1) = (i : Int) + 1 := wi64 (by omega)
    by_cases hc : i < 16
    · obtain ⟨M, hM, hMg, hMp, hMl⟩ := ins_new hL (limP_good i) hk hnew (by omega)
      have hins : ∀ (B : List Box) (args : List CV), Is (omap (fz true false B 6) args) (some [rl rtC L, .agg (pfC (limP i)), .agg (k.map byteC)]) → ACall Try.prog 16 args B fun c B' => c = .tup [rl rtC M, .int .i64 0] ∧ B' = B := fun B args h => by
        have := insert_at h hL.len (limP_good i).1 hk (by omega)
        rwa [hM] at this
      have hMl2 : M.length = i + 1 := by omega
      have hin2 : ∀ r ∈ M, ∃ j, j < i + 1 ∧ r.1 = limP j := fun r hr => by
        rcases List.mem_cons.1 (hMp.mem_iff.1 hr) with rfl | h
        · exact ⟨i, by omega, rfl⟩
        · obtain ⟨j, hj, e⟩ := hin r h
          exact ⟨j, by omega, e⟩
      have hall2 : ∀ j, j < i + 1 → ∃ r ∈ M, r.1 = limP j := fun j hj => by
        by_cases hji : j = i
        · subst hji; exact ⟨(limP j, k), hMp.mem_iff.2 List.mem_cons_self, rfl⟩
        · obtain ⟨r, hr, e⟩ := hall j (by omega)
          exact ⟨r, hMp.mem_iff.2 (by simp [hr]), e⟩
      have hfin : i + 1 ≤ 16 ∧ RG M ∧ M.length = i + 1 ∧ (∀ r ∈ M, ∃ j, j < i + 1 ∧ r.1 = limP j) ∧ (∀ j, j < i + 1 → ∃ r ∈ M, r.1 = limP j) := ⟨by omega, hMg, hMl2, hin2, hall2⟩
      clear hM hMg hMp hMl hMl2 hin2 hall2 hin hall hnew hL
      replace hfin : Hid _ := hfin
      generalize limP i = pi at *
      generalize hostF i 0 = hi0 at *
      rcases h3 with ⟨h3, rfl⟩ | h3
      all_goals
        repeat' (first | (with_reducible (first | apply w_seq | apply w_region | apply w_block | apply w_skip | apply w_exit | apply w_ret | apply w_then | apply w_then_exit | apply w_then_ret | apply w_in | apply w_in_here | apply w_in_ret | apply w_round | apply o_nil | apply d_nil)) | ((with_reducible (first | apply w_in_exit)); rfl) | ((with_reducible (first | apply w_draw)); rfl) | ((first | ((with_reducible (first | apply o_op | apply d_op | apply q_op)); rfl; rfl) | ((with_reducible (first | apply w_cond | apply w_end | apply w_return))) | ((with_reducible (first | apply o_guard | apply d_guard | apply q_guard)); rfl) | ((with_reducible (first | apply o_call_eq | apply d_call | apply q_call)); rfl)); all_goals (first | ((with_reducible show Is _ _); ((try simp (disch := first | omega | (simp only [yA, yB, yC, yD, yE] <;> omega) | fail) [go_sem, yF, yG, yH, *, if_pos, if_neg, -List.map_take, -List.map_drop, -List.map_append, -List.map_reverse]); exact rfl)) | ((fail_if_success (with_reducible show Is _ _)); (first | ((with_reducible refine fun (hc : (_ : Bool) = _) => ?_); (try simp only [xA, xB, xC, xD, xE, xF, xG, xH, reduceCtorEq, xI, xJ, xK, xL, xM, xN, xO, xP, xQ, xR] at hc); (try (have hx : True := hc; clear hx hc)); (try (exfalso; omega)); (try (with_reducible (exact absurd hc (by assumption)))); (try (with_reducible (exact absurd (by assumption) hc)))) | ((with_reducible show ACall _ _ _ _ _); (first | ((with_reducible (first | apply hhost)) <;> (first | omega | assumption | exact rfl | ((simp (disch := first | omega | (simp only [yA, yB, yC, yD, yE] <;> omega) | fail) [go_sem, yF, yG, yH, *, -List.map_take, -List.map_drop, -List.map_append, -List.map_reverse]) <;> (first | done | omega | exact rfl)))) | ((with_reducible (first | apply hmsk)) <;> (first | omega | assumption | exact rfl | ((simp (disch := first | omega | (simp only [yA, yB, yC, yD, yE] <;> omega) | fail) [go_sem, yF, yG, yH, *, -List.map_take, -List.map_drop, -List.map_append, -List.map_reverse]) <;> (first | done | omega | exact rfl)))) | ((with_reducible (first | apply hins)) <;> (first | omega | assumption | exact rfl | ((simp (disch := first | omega | (simp only [yA, yB, yC, yD, yE] <;> omega) | fail) [go_sem, yF, yG, yH, *, -List.map_take, -List.map_drop, -List.map_append, -List.map_reverse]) <;> (first | done | omega | exact rfl)))))) | ((fail_if_success (with_reducible show ACall _ _ _ _ _)); (try (first | exact .inl rfl | (refine .inr ⟨rfl, ?_, ?_⟩; (focus (repeat (first | exact trivial | refine ⟨.inl rfl, ?_⟩ | refine ⟨.inr rfl, ?_⟩))); (first | exact trivial | exact rfl))))))))))
        obtain ⟨q1, q2, q3, q4, q5⟩ := (show _ ∧ _ ∧ _ ∧ _ ∧ _ from hfin)
        exact ⟨⟨i + 1, M, q1, q2, q3, q4, q5, by (simp (disch := omega) [go_sem, *]) <;> (try omega), by (simp (disch := omega) [go_sem, *]) <;> (try omega), .inr (by (simp (disch := omega) [go_sem, *]) <;> (try omega)), rfl⟩, by (simp (disch := omega) [go_sem, *]) <;> (try omega)⟩
    · obtain rfl : i = 16 := by omega
      have h1' : ¬ L.findIdx (isPf (limP 16)) < L.length := fun h => by
        have := List.findIdx_getElem (xs := L) (p := isPf (limP 16)) (w := h)
        exact hnew _ (List.getElem_mem h) (by simpa [isPf] using this)
      have hE : insF L (limP 16) k = ([], 12) := by rw [insF, if_neg (by rw [(limP_good 16).2]; decide), if_neg h1', if_pos (by omega)]
      have hins : ∀ (B : List Box) (args : List CV), Is (omap (fz true false B 6) args) (some [rl rtC L, .agg (pfC (limP 16)), .agg (k.map byteC)]) → ACall Try.prog 16 args B fun c B' => c = .tup [.lst 0 [] false, .int .i64 12] ∧ B' = B := fun B args h => by
        have := insert_at h hL.len (limP_good 16).1 hk (by omega)
        rwa [hE] at this
      obtain ⟨M, hM, _, hMl⟩ := ins_old (k := keyF 7) hL (limP_good 3) rfl (hall 3 (by omega))
      have hins2 : ∀ (B : List Box) (args : List CV), Is (omap (fz true false B 6) args) (some [rl rtC L, .agg (pfC (limP 3)), .agg ((keyF 7).map byteC)]) → ACall Try.prog 16 args B fun c B' => c = .tup [rl rtC M, .int .i64 0] ∧ B' = B := fun B args h => by
        have := insert_at h hL.len (limP_good 3).1 rfl (by omega)
        rwa [hM] at this
      have hhost3 : ∀ (B : List Box) (args : List CV), Is (omap (fz true false B 6) args) (some [.int .i64 3, .int .i64 0]) → ACall Try.prog 18 args B fun c B' => c = .agg (adC (hostF 3 0)) ∧ B' = B := fun B args h => host_at (a := 3) (b := 0) h (by omega) (by omega)
      have hmsk3 : ∀ (B : List Box) (args : List CV), Is (omap (fz true false B 6) args) (some [.agg (adC (hostF 3 0)), .int .i64 24]) → ACall Try.prog 17 args B fun c B' => c = .agg (pfC (limP 3)) ∧ B' = B := fun B args h => msk_at (a := hostF 3 0) (s := 24) h rfl rfl (by omega)
      have hlen : M.length = 16 := by omega
      have hrM : rl rtC M = .lst 16 (M.flatMap rtC) false := by rw [rl, hlen]
      rw [hrM] at hins2
      generalize M.flatMap rtC = mc at *
      clear hM hin hall hnew h1' hE hL hrM hMl
      generalize limP 16 = pi at *
      generalize limP 3 = pj at *
      generalize hostF 16 0 = hi0 at *
      generalize hostF 3 0 = hj0 at *
      have h3 : fr 3 = rl rtC L := by
        rcases h3 with ⟨_, rfl⟩ | h3
        · simp at hLl
        · exact h3
      repeat' (first | (with_reducible (first | apply w_seq | apply w_region | apply w_block | apply w_skip | apply w_exit | apply w_ret | apply w_then | apply w_then_exit | apply w_then_ret | apply w_in | apply w_in_here | apply w_in_ret | apply w_round | apply o_nil | apply d_nil)) | ((with_reducible (first | apply w_in_exit)); rfl) | ((with_reducible (first | apply w_draw)); rfl) | ((first | ((with_reducible (first | apply o_op | apply d_op | apply q_op)); rfl; rfl) | ((with_reducible (first | apply w_cond | apply w_end | apply w_return))) | ((with_reducible (first | apply o_guard | apply d_guard | apply q_guard)); rfl) | ((with_reducible (first | apply o_call_eq | apply d_call | apply q_call)); rfl)); all_goals (first | ((with_reducible show Is _ _); ((try simp (disch := first | omega | (simp only [yA, yB, yC, yD, yE] <;> omega) | fail) [go_sem, yF, yG, yH, *, if_pos, if_neg, -List.map_take, -List.map_drop, -List.map_append, -List.map_reverse]); exact rfl)) | ((fail_if_success (with_reducible show Is _ _)); (first | ((with_reducible refine fun (hc : (_ : Bool) = _) => ?_); (try simp only [xA, xB, xC, xD, xE, xF, xG, xH, reduceCtorEq, xI, xJ, xK, xL, xM, xN, xO, xP, xQ, xR] at hc); (try (have hx : True := hc; clear hx hc)); (try (exfalso; omega)); (try (with_reducible (exact absurd hc (by assumption)))); (try (with_reducible (exact absurd (by assumption) hc)))) | ((with_reducible show ACall _ _ _ _ _); (first | ((with_reducible (first | apply hhost)) <;> (first | omega | assumption | exact rfl | ((simp (disch := first | omega | (simp only [yA, yB, yC, yD, yE] <;> omega) | fail) [go_sem, yF, yG, yH, *, -List.map_take, -List.map_drop, -List.map_append, -List.map_reverse]) <;> (first | done | omega | exact rfl)))) | ((with_reducible (first | apply hmsk)) <;> (first | omega | assumption | exact rfl | ((simp (disch := first | omega | (simp only [yA, yB, yC, yD, yE] <;> omega) | fail) [go_sem, yF, yG, yH, *, -List.map_take, -List.map_drop, -List.map_append, -List.map_reverse]) <;> (first | done | omega | exact rfl)))) | ((with_reducible (first | apply hins)) <;> (first | omega | assumption | exact rfl | ((simp (disch := first | omega | (simp only [yA, yB, yC, yD, yE] <;> omega) | fail) [go_sem, yF, yG, yH, *, -List.map_take, -List.map_drop, -List.map_append, -List.map_reverse]) <;> (first | done | omega | exact rfl)))) | ((with_reducible (first | apply hhost3)) <;> (first | omega | assumption | exact rfl | ((simp (disch := first | omega | (simp only [yA, yB, yC, yD, yE] <;> omega) | fail) [go_sem, yF, yG, yH, *, -List.map_take, -List.map_drop, -List.map_append, -List.map_reverse]) <;> (first | done | omega | exact rfl)))) | ((with_reducible (first | apply hmsk3)) <;> (first | omega | assumption | exact rfl | ((simp (disch := first | omega | (simp only [yA, yB, yC, yD, yE] <;> omega) | fail) [go_sem, yF, yG, yH, *, -List.map_take, -List.map_drop, -List.map_append, -List.map_reverse]) <;> (first | done | omega | exact rfl)))) | ((with_reducible (first | apply hins2)) <;> (first | omega | assumption | exact rfl | ((simp (disch := first | omega | (simp only [yA, yB, yC, yD, yE] <;> omega) | fail) [go_sem, yF, yG, yH, *, -List.map_take, -List.map_drop, -List.map_append, -List.map_reverse]) <;> (first | done | omega | exact rfl)))) | ((with_reducible (first | apply begun14_at)) <;> (first | omega | assumption | exact rfl | ((simp (disch := first | omega | (simp only [yA, yB, yC, yD, yE] <;> omega) | fail) [go_sem, yF, yG, yH, *, -List.map_take, -List.map_drop, -List.map_append, -List.map_reverse]) <;> (first | done | omega | exact rfl)))))) | ((fail_if_success (with_reducible show ACall _ _ _ _ _)); (try (first | exact .inl rfl | (refine .inr ⟨rfl, ?_, ?_⟩; (focus (repeat (first | exact trivial | refine ⟨.inl rfl, ?_⟩ | refine ⟨.inr rfl, ?_⟩))); (first | exact trivial | exact rfl))))))))))
      all_goals rfl
end Go.Proofs.Ytmcnajknmoldpaa
