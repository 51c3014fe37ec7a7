import Derived.Test.YtmcnajknmoldpaaEB
namespace Go.Proofs.Ytmcnajknmoldpaa
open Go Go.Sy
set_option linter.all false
set_option maxRecDepth 100000
set_option maxHeartbeats 4000000
/-! The reference's Lookup. -/
theorem rt_in {cs : List CV} {o : Nat} {u : Rt} (hu : RtL u) (h1 : o + 50 ≤ cs.length) (h2 : (cs.drop o).take 50 = rtC u) :
    cs[o + 17]? = some (.int .i64 u.1.2) ∧ (cs.drop (o + 17)).head? = some (.int .i64 u.1.2) ∧ (cs.drop (o + 18)).take 32 = u.2.map byteC ∧ (cs.drop o).take 18 = pfC u.1 := by
  obtain ⟨r1, r2, r3, r4, r5, r6, r7⟩ := rt_parts hu.1 hu.2
  have g : ∀ k, k < 50 → cs[o + k]? = (rtC u)[k]? := fun k hk => by rw [← h2, List.getElem?_take, if_pos hk, List.getElem?_drop]
  have g17 : cs[o + 17]? = some (.int .i64 u.1.2) := by rw [g 17 (by omega), r2]
  refine ⟨g17, by rw [List.head?_drop, g17], ?_, ?_⟩
  · rw [← r4, ← h2, List.drop_take, List.drop_drop]
  · rw [show pfC u.1 = (rtC u).take 18 from r5.symm, ← h2, List.take_take]; rfl
def contP (r : Rt) (a : Ad) : Bool := cont r.1.1.1 r.1.1.2 r.1.2 a.1 a.2
def bstep (a : Ad) (o : Option (Nat × List UInt8)) (r : Rt) : Option (Nat × List UInt8) := if contP r a && !deeper o r.1.2.toNat then some (r.1.2.toNat, r.2) else o
def bestF (L : List Rt) (a : Ad) : Option (Nat × List UInt8) := L.foldl (bstep a) none
theorem best_next {L : List Rt} {a : Ad} {j : Nat} (h : j < L.length) : bestF (L.take (j + 1)) a = bstep a (bestF (L.take j) a) L[j] := by
  rw [bestF, List.take_succ_eq_append_getElem h, List.foldl_append]; rfl
theorem rCont_pf {B : List Box} {args : List CV} {p : Pf} {a : Ad} (hz : Is (omap (fz true false B 6) args) (some [.agg (pfC p), .agg (adC a)])) (hA : p.1.2.length = 16) (hA2 : a.2.length = 16) : ACall Try.prog 15 args B fun c B' => c = .bool (cont p.1.1 p.1.2 p.2 a.1 a.2) ∧ B' = B := rContains_at hz hA hA2
theorem rlook_in (L : List Rt) (a : Ad) (hL : ∀ t ∈ L, RtG t) (ha : a.2.length = 16) (hl : L.length < 100000000) : PC Try.prog true 13 [rl rtC L, .agg (adC a)] (fndC (fndF (bestF L a))) := by
  have kl := cells_all (f := rtC) (z := 50) (L := L) (fun r hr => rtC_len (hL r hr).1 (hL r hr).2.1)
  have hla := adC_len ha
  have hta : (adC a).take 17 = adC a := List.take_of_length_le (by omega)
  have hda : (adC a).drop 17 = [] := List.drop_eq_nil_of_le (by omega)
  have hadm : ∀ (nz fr : Bool) (B : List Box) (k : Nat), omap (fz nz fr B (k + 1)) (adC a) = some (adC a) := fun _ _ _ _ => by simp [adC, go_sem]
  unfold rl
  obtain ⟨cs, hcs'⟩ : ∃ cs, L.flatMap rtC = cs := ⟨_, rfl⟩
  rw [hcs'] at kl ⊢
  clear hcs'
  have hcall : ∀ (u : Rt), RtL u → ∀ (B : List Box) (args : List CV), Is (omap (fz true false B 6) args) (some [.agg (pfC u.1), .agg (adC a)]) → ACall Try.prog 15 args B fun c B' => c = .bool (contP u a) ∧ B' = B := fun u hu B args h => rCont_pf h hu.1 ha
  obtain ⟨ac, hac⟩ : ∃ ac, adC a = ac := ⟨_, rfl⟩
  rw [hac] at hla hta hda hadm ⊢
  simp only [hac] at hcall
  clear hac
  refine acall_intro mixed Try.func13 rfl ca13 (by kernel_rfl) (by rw [Try.ntmps13]; simp) ?_
  replace hL : Hid _ := hL
  replace kl : Hid _ := kl
  replace hcall : Hid _ := hcall
  repeat' (first | (with_reducible (first | apply w_seq | apply w_region | apply w_block | apply w_skip | apply w_exit | apply w_ret | apply w_then | apply w_then_exit | apply w_then_ret | apply w_in | apply w_in_here | apply w_in_ret | apply w_round | apply o_nil | apply d_nil)) | ((with_reducible (first | apply w_in_exit)); rfl) | ((with_reducible (first | apply w_draw)); rfl) | ((first | ((with_reducible (first | apply o_op | apply d_op | apply q_op)); rfl; rfl) | ((with_reducible (first | apply w_cond | apply w_end | apply w_return))) | ((with_reducible (first | apply o_guard | apply d_guard | apply q_guard)); rfl)); all_goals (first | ((with_reducible show Is _ _); ((try simp (disch := first | omega | (simp only [yA, yB, yC, yD, yE] <;> omega) | fail) [go_sem, yF, yG, yH, *, if_pos, if_neg, -List.map_take, -List.map_drop, -List.map_append, -List.map_reverse]); exact rfl)) | ((fail_if_success (with_reducible show Is _ _)); (first | ((with_reducible refine fun (hc : (_ : Bool) = _) => ?_); (try simp only [xA, xB, xC, xD, xE, xF, xG, xH, reduceCtorEq, xI, xJ, xK, xL, xM, xN, xO, xP, xQ, xR] at hc); (try (have hx : True := hc; clear hx hc)); (try (exfalso; omega)); (try (with_reducible (exact absurd hc (by assumption)))); (try (with_reducible (exact absurd (by assumption) hc)))) | ((fail_if_success (with_reducible show ACall _ _ _ _ _)); (try (first | exact .inl rfl | (refine .inr ⟨rfl, ?_, ?_⟩; (focus (repeat (first | exact trivial | refine ⟨.inl rfl, ?_⟩ | refine ⟨.inr rfl, ?_⟩))); (first | exact trivial | exact rfl))))))))))
  refine w_loop (fun fr B => ∃ (j : Nat) (b : Int) (Z : List CV) (G : List Box), j ≤ L.length ∧ fr 11 = .int .i64 j ∧ fr 10 = .int .i64 L.length ∧ fr 9 = .lst L.length cs false ∧ fr 0 = .lst L.length cs false ∧ fr 3 = .ptr 0 0 ∧ fr 4 = .ptr 1 0 ∧ fr 6 = .int .i64 b ∧ B = ⟨ac, false⟩ :: ⟨Z, false⟩ :: G ∧ Z.length = 32 ∧
    ((b = -1 ∧ bestF (L.take j) a = none) ∨ ∃ (k : Nat) (hk : k < L.length), b = k ∧ 0 ≤ L[k].1.2 ∧ bestF (L.take j) a = some (L[k].1.2.toNat, L[k].2))) (fun fr _ => L.length - natOf (fr 11)) ?_ ?_
  · exact ⟨0, -1, _, [], by omega, by (simp (disch := omega) [go_sem, *]) <;> (try omega), by (simp (disch := omega) [go_sem, *]) <;> (try omega), by (simp (disch := omega) [go_sem, *]) <;> (try omega), by (simp (disch := omega) [go_sem, *]) <;> (try omega), by (simp (disch := omega) [go_sem, *]) <;> (try omega), by (simp (disch := omega) [go_sem, *]) <;> (try omega), by (simp (disch := omega) [go_sem, *]) <;> (try omega), rfl, rfl, .inl ⟨rfl, rfl⟩⟩
  · rintro fr B ⟨j, b, Z, G, hj, h11, h10, h9, h0, h3, h4, h6, rfl, hZ, hb⟩
    have hZ1 : Z.drop 32 = [] := List.drop_eq_nil_of_le (by omega)
    have hL : ∀ t ∈ L, RtG t := hL
    have kl : Cells rtC 50 cs L := kl
    by_cases hc : j < L.length
    · obtain ⟨a1, a2⟩ := kl j hc
      have hg := hL L[j] (List.getElem_mem hc)
      have hu : RtL L[j] := ⟨hg.1, hg.2.1⟩
      obtain ⟨u1, u2, u3, u4, u5, u6⟩ := rt_more hu.1 hu.2
      obtain ⟨u7, u8, u9, u10⟩ := rt_in hu a1 a2
      obtain ⟨v1, v2, v3, v4, v5, v6⟩ := pf_parts (p := (L[j]).1) hu.1
      have w17 : (rtC L[j])[17]? = some (.int .i64 L[j].1.2) := (rt_parts hu.1 hu.2).2.1
      have w18 : ((rtC L[j]).drop 17).head? = some (.int .i64 L[j].1.2) := (rt_parts hu.1 hu.2).2.2.1
      have hn := best_next (a := a) hc
      have hct := (show ∀ (u : Rt), RtL u → ∀ (B : List Box) (args : List CV), Is (omap (fz true false B 6) args) (some [.agg (pfC u.1), .agg ac]) → ACall Try.prog 15 args B fun c B' => c = .bool (contP u a) ∧ B' = B from hcall) _ hu
      have hpos : contP L[j] a = true → 0 ≤ L[j].1.2 := fun h => by
        simp only [contP, cont, Bool.and_eq_true] at h
        exact (vld_range h.1).1
      rcases hb with ⟨rfl, hb⟩ | ⟨k, hk, rfl, hk0, hb⟩
      · rw [hb] at hn
        by_cases hcp : contP L[j] a = true
        · have hn : bestF (L.take (j + 1)) a = some (L[j].1.2.toNat, L[j].2) := by rw [hn, bstep, hcp]; rfl
          have hpos := hpos hcp
          rw [hcp] at hct
          have hfin : ∃ (k : Nat) (hk : k < L.length), (j : Int) = k ∧ 0 ≤ L[k].1.2 ∧ bestF (L.take (j + 1)) a = some (L[k].1.2.toNat, L[k].2) := ⟨j, hc, rfl, hpos, hn⟩
          clear hcp hn hpos kl hL hcall
          replace hfin : Hid _ := hfin
          generalize L[j] = u at *
          repeat' (first | (with_reducible (first | apply w_seq | apply w_region | apply w_block | apply w_skip | apply w_exit | apply w_ret | apply w_then | apply w_then_exit | apply w_then_ret | apply w_in | apply w_in_here | apply w_in_ret | apply w_round | apply o_nil | apply d_nil)) | ((with_reducible (first | apply w_in_exit)); rfl) | ((with_reducible (first | apply w_draw)); rfl) | ((first | ((with_reducible (first | apply o_op | apply d_op | apply q_op)); rfl; rfl) | ((with_reducible (first | apply w_cond | apply w_end | apply w_return))) | ((with_reducible (first | apply o_guard | apply d_guard | apply q_guard)); rfl) | ((with_reducible (first | apply o_call_eq | apply d_call | apply q_call)); rfl)); all_goals (first | ((with_reducible show Is _ _); ((try simp (disch := first | omega | (simp only [yA, yB, yC, yD, yE] <;> omega) | fail) [go_sem, yF, yG, yH, *, if_pos, if_neg, -List.map_take, -List.map_drop, -List.map_append, -List.map_reverse]); exact rfl)) | ((fail_if_success (with_reducible show Is _ _)); (first | ((with_reducible refine fun (hc : (_ : Bool) = _) => ?_); (try simp only [xA, xB, xC, xD, xE, xF, xG, xH, reduceCtorEq, xI, xJ, xK, xL, xM, xN, xO, xP, xQ, xR] at hc); (try (have hx : True := hc; clear hx hc)); (try (exfalso; omega)); (try (with_reducible (exact absurd hc (by assumption)))); (try (with_reducible (exact absurd (by assumption) hc)))) | ((with_reducible show ACall _ _ _ _ _); (first | ((with_reducible (first | apply hct)) <;> (first | omega | assumption | exact rfl | ((simp (disch := first | omega | (simp only [yA, yB, yC, yD, yE] <;> omega) | fail) [go_sem, yF, yG, yH, *, -List.map_take, -List.map_drop, -List.map_append, -List.map_reverse]) <;> (first | done | omega | exact rfl)))))) | ((fail_if_success (with_reducible show ACall _ _ _ _ _)); (try (first | exact .inl rfl | (refine .inr ⟨rfl, ?_, ?_⟩; (focus (repeat (first | exact trivial | refine ⟨.inl rfl, ?_⟩ | refine ⟨.inr rfl, ?_⟩))); (first | exact trivial | exact rfl))))))))))
          exact ⟨⟨j + 1, j, Z, _, by omega, by (simp (disch := omega) [go_sem, *]) <;> (try omega), by (simp (disch := omega) [go_sem, *]) <;> (try omega), by (simp (disch := omega) [go_sem, *]) <;> (try omega), by (simp (disch := omega) [go_sem, *]) <;> (try omega), by (simp (disch := omega) [go_sem, *]) <;> (try omega), by (simp (disch := omega) [go_sem, *]) <;> (try omega), by (simp (disch := omega) [go_sem, *]) <;> (try omega), rfl, hZ, .inr hfin⟩, by (simp (disch := omega) [go_sem, *]) <;> (try omega)⟩
        · have hcp : contP L[j] a = false := by simpa using hcp
          replace hn : bestF (L.take (j + 1)) a = none := by rw [hn, bstep, hcp]; rfl
          rw [hcp] at hct
          clear hcp hpos kl hL hcall
          generalize L[j] = u at *
          repeat' (first | (with_reducible (first | apply w_seq | apply w_region | apply w_block | apply w_skip | apply w_exit | apply w_ret | apply w_then | apply w_then_exit | apply w_then_ret | apply w_in | apply w_in_here | apply w_in_ret | apply w_round | apply o_nil | apply d_nil)) | ((with_reducible (first | apply w_in_exit)); rfl) | ((with_reducible (first | apply w_draw)); rfl) | ((first | ((with_reducible (first | apply o_op | apply d_op | apply q_op)); rfl; rfl) | ((with_reducible (first | apply w_cond | apply w_end | apply w_return))) | ((with_reducible (first | apply o_guard | apply d_guard | apply q_guard)); rfl) | ((with_reducible (first | apply o_call_eq | apply d_call | apply q_call)); rfl)); all_goals (first | ((with_reducible show Is _ _); ((try simp (disch := first | omega | (simp only [yA, yB, yC, yD, yE] <;> omega) | fail) [go_sem, yF, yG, yH, *, if_pos, if_neg, -List.map_take, -List.map_drop, -List.map_append, -List.map_reverse]); exact rfl)) | ((fail_if_success (with_reducible show Is _ _)); (first | ((with_reducible refine fun (hc : (_ : Bool) = _) => ?_); (try simp only [xA, xB, xC, xD, xE, xF, xG, xH, reduceCtorEq, xI, xJ, xK, xL, xM, xN, xO, xP, xQ, xR] at hc); (try (have hx : True := hc; clear hx hc)); (try (exfalso; omega)); (try (with_reducible (exact absurd hc (by assumption)))); (try (with_reducible (exact absurd (by assumption) hc)))) | ((with_reducible show ACall _ _ _ _ _); (first | ((with_reducible (first | apply hct)) <;> (first | omega | assumption | exact rfl | ((simp (disch := first | omega | (simp only [yA, yB, yC, yD, yE] <;> omega) | fail) [go_sem, yF, yG, yH, *, -List.map_take, -List.map_drop, -List.map_append, -List.map_reverse]) <;> (first | done | omega | exact rfl)))))) | ((fail_if_success (with_reducible show ACall _ _ _ _ _)); (try (first | exact .inl rfl | (refine .inr ⟨rfl, ?_, ?_⟩; (focus (repeat (first | exact trivial | refine ⟨.inl rfl, ?_⟩ | refine ⟨.inr rfl, ?_⟩))); (first | exact trivial | exact rfl))))))))))
          exact ⟨⟨j + 1, -1, Z, _, by omega, by (simp (disch := omega) [go_sem, *]) <;> (try omega), by (simp (disch := omega) [go_sem, *]) <;> (try omega), by (simp (disch := omega) [go_sem, *]) <;> (try omega), by (simp (disch := omega) [go_sem, *]) <;> (try omega), by (simp (disch := omega) [go_sem, *]) <;> (try omega), by (simp (disch := omega) [go_sem, *]) <;> (try omega), by (simp (disch := omega) [go_sem, *]) <;> (try omega), rfl, hZ, .inl ⟨rfl, hn⟩⟩, by (simp (disch := omega) [go_sem, *]) <;> (try omega)⟩
      · rw [hb] at hn
        obtain ⟨b1, b2⟩ := kl k hk
        have hgk := hL L[k] (List.getElem_mem hk)
        obtain ⟨z7, z8, z9, z10⟩ := rt_in (u := L[k]) ⟨hgk.1, hgk.2.1⟩ b1 b2
        have hfk : bestF (L.take (j + 1)) a = some (L[k].1.2.toNat, L[k].2) → ∃ (k' : Nat) (hk : k' < L.length), (k : Int) = k' ∧ 0 ≤ L[k'].1.2 ∧ bestF (L.take (j + 1)) a = some (L[k'].1.2.toNat, L[k'].2) := fun h => ⟨k, hk, rfl, hk0, h⟩
        have hfj : 0 ≤ L[j].1.2 → bestF (L.take (j + 1)) a = some (L[j].1.2.toNat, L[j].2) → ∃ (k' : Nat) (hk : k' < L.length), (j : Int) = k' ∧ 0 ≤ L[k'].1.2 ∧ bestF (L.take (j + 1)) a = some (L[k'].1.2.toNat, L[k'].2) := fun h0 h => ⟨j, hc, rfl, h0, h⟩
        by_cases hcp : contP L[j] a = true
        · have hpos := hpos hcp
          by_cases hgt : L[j].1.2 > L[k].1.2
          · have hn : bestF (L.take (j + 1)) a = some (L[j].1.2.toNat, L[j].2) := by
              rw [hn, bstep, hcp, deeper, decide_eq_false (by omega)]; rfl
            have hfin := hfj hpos hn
            rw [hcp] at hct
            clear hcp hn hpos kl hL hcall hfj hfk
            replace hfin : Hid _ := hfin
            replace hb : Hid _ := hb
            generalize L[j] = u at *
            generalize L[k] = z at *
            repeat' (first | (with_reducible (first | apply w_seq | apply w_region | apply w_block | apply w_skip | apply w_exit | apply w_ret | apply w_then | apply w_then_exit | apply w_then_ret | apply w_in | apply w_in_here | apply w_in_ret | apply w_round | apply o_nil | apply d_nil)) | ((with_reducible (first | apply w_in_exit)); rfl) | ((with_reducible (first | apply w_draw)); rfl) | ((first | ((with_reducible (first | apply o_op | apply d_op | apply q_op)); rfl; rfl) | ((with_reducible (first | apply w_cond | apply w_end | apply w_return))) | ((with_reducible (first | apply o_guard | apply d_guard | apply q_guard)); rfl) | ((with_reducible (first | apply o_call_eq | apply d_call | apply q_call)); rfl)); all_goals (first | ((with_reducible show Is _ _); ((try simp (disch := first | omega | (simp only [yA, yB, yC, yD, yE] <;> omega) | fail) [go_sem, yF, yG, yH, *, if_pos, if_neg, -List.map_take, -List.map_drop, -List.map_append, -List.map_reverse]); exact rfl)) | ((fail_if_success (with_reducible show Is _ _)); (first | ((with_reducible refine fun (hc : (_ : Bool) = _) => ?_); (try simp only [xA, xB, xC, xD, xE, xF, xG, xH, reduceCtorEq, xI, xJ, xK, xL, xM, xN, xO, xP, xQ, xR] at hc); (try (have hx : True := hc; clear hx hc)); (try (exfalso; omega)); (try (with_reducible (exact absurd hc (by assumption)))); (try (with_reducible (exact absurd (by assumption) hc)))) | ((with_reducible show ACall _ _ _ _ _); (first | ((with_reducible (first | apply hct)) <;> (first | omega | assumption | exact rfl | ((simp (disch := first | omega | (simp only [yA, yB, yC, yD, yE] <;> omega) | fail) [go_sem, yF, yG, yH, *, -List.map_take, -List.map_drop, -List.map_append, -List.map_reverse]) <;> (first | done | omega | exact rfl)))))) | ((fail_if_success (with_reducible show ACall _ _ _ _ _)); (try (first | exact .inl rfl | (refine .inr ⟨rfl, ?_, ?_⟩; (focus (repeat (first | exact trivial | refine ⟨.inl rfl, ?_⟩ | refine ⟨.inr rfl, ?_⟩))); (first | exact trivial | exact rfl))))))))))
            exact ⟨⟨j + 1, j, Z, _, by omega, by (simp (disch := omega) [go_sem, *]) <;> (try omega), by (simp (disch := omega) [go_sem, *]) <;> (try omega), by (simp (disch := omega) [go_sem, *]) <;> (try omega), by (simp (disch := omega) [go_sem, *]) <;> (try omega), by (simp (disch := omega) [go_sem, *]) <;> (try omega), by (simp (disch := omega) [go_sem, *]) <;> (try omega), by (simp (disch := omega) [go_sem, *]) <;> (try omega), rfl, hZ, .inr hfin⟩, by (simp (disch := omega) [go_sem, *]) <;> (try omega)⟩
          · have hn : bestF (L.take (j + 1)) a = some (L[k].1.2.toNat, L[k].2) := by
              rw [hn, bstep, hcp, deeper, decide_eq_true (by omega)]; rfl
            have hfin := hfk hn
            rw [hcp] at hct
            clear hcp hn hpos kl hL hcall hfj hfk
            replace hfin : Hid _ := hfin
            replace hb : Hid _ := hb
            generalize L[j] = u at *
            generalize L[k] = z at *
            repeat' (first | (with_reducible (first | apply w_seq | apply w_region | apply w_block | apply w_skip | apply w_exit | apply w_ret | apply w_then | apply w_then_exit | apply w_then_ret | apply w_in | apply w_in_here | apply w_in_ret | apply w_round | apply o_nil | apply d_nil)) | ((with_reducible (first | apply w_in_exit)); rfl) | ((with_reducible (first | apply w_draw)); rfl) | ((first | ((with_reducible (first | apply o_op | apply d_op | apply q_op)); rfl; rfl) | ((with_reducible (first | apply w_cond | apply w_end | apply w_return))) | ((with_reducible (first | apply o_guard | apply d_guard | apply q_guard)); rfl) | ((with_reducible (first | apply o_call_eq | apply d_call | apply q_call)); rfl)); all_goals (first | ((with_reducible show Is _ _); ((try simp (disch := first | omega | (simp only [yA, yB, yC, yD, yE] <;> omega) | fail) [go_sem, yF, yG, yH, *, if_pos, if_neg, -List.map_take, -List.map_drop, -List.map_append, -List.map_reverse]); exact rfl)) | ((fail_if_success (with_reducible show Is _ _)); (first | ((with_reducible refine fun (hc : (_ : Bool) = _) => ?_); (try simp only [xA, xB, xC, xD, xE, xF, xG, xH, reduceCtorEq, xI, xJ, xK, xL, xM, xN, xO, xP, xQ, xR] at hc); (try (have hx : True := hc; clear hx hc)); (try (exfalso; omega)); (try (with_reducible (exact absurd hc (by assumption)))); (try (with_reducible (exact absurd (by assumption) hc)))) | ((with_reducible show ACall _ _ _ _ _); (first | ((with_reducible (first | apply hct)) <;> (first | omega | assumption | exact rfl | ((simp (disch := first | omega | (simp only [yA, yB, yC, yD, yE] <;> omega) | fail) [go_sem, yF, yG, yH, *, -List.map_take, -List.map_drop, -List.map_append, -List.map_reverse]) <;> (first | done | omega | exact rfl)))))) | ((fail_if_success (with_reducible show ACall _ _ _ _ _)); (try (first | exact .inl rfl | (refine .inr ⟨rfl, ?_, ?_⟩; (focus (repeat (first | exact trivial | refine ⟨.inl rfl, ?_⟩ | refine ⟨.inr rfl, ?_⟩))); (first | exact trivial | exact rfl))))))))))
            exact ⟨⟨j + 1, k, Z, _, by omega, by (simp (disch := omega) [go_sem, *]) <;> (try omega), by (simp (disch := omega) [go_sem, *]) <;> (try omega), by (simp (disch := omega) [go_sem, *]) <;> (try omega), by (simp (disch := omega) [go_sem, *]) <;> (try omega), by (simp (disch := omega) [go_sem, *]) <;> (try omega), by (simp (disch := omega) [go_sem, *]) <;> (try omega), by (simp (disch := omega) [go_sem, *]) <;> (try omega), rfl, hZ, .inr hfin⟩, by (simp (disch := omega) [go_sem, *]) <;> (try omega)⟩
        · have hcp : contP L[j] a = false := by simpa using hcp
          have hn : bestF (L.take (j + 1)) a = some (L[k].1.2.toNat, L[k].2) := by rw [hn, bstep, hcp]; rfl
          have hfin := hfk hn
          rw [hcp] at hct
          clear hcp hn hpos kl hL hcall hfj hfk
          replace hfin : Hid _ := hfin
          replace hb : Hid _ := hb
          generalize L[j] = u at *
          generalize L[k] = z at *
          repeat' (first | (with_reducible (first | apply w_seq | apply w_region | apply w_block | apply w_skip | apply w_exit | apply w_ret | apply w_then | apply w_then_exit | apply w_then_ret | apply w_in | apply w_in_here | apply w_in_ret | apply w_round | apply o_nil | apply d_nil)) | ((with_reducible (first | apply w_in_exit)); rfl) | ((with_reducible (first | apply w_draw)); rfl) | ((first | ((with_reducible (first | apply o_op | apply d_op | apply q_op)); rfl; rfl) | ((with_reducible (first | apply w_cond | apply w_end | apply w_return))) | ((with_reducible (first | apply o_guard | apply d_guard | apply q_guard)); rfl) | ((with_reducible (first | apply o_call_eq | apply d_call | apply q_call)); rfl)); all_goals (first | ((with_reducible show Is _ _); ((try simp (disch := first | omega | (simp only [yA, yB, yC, yD, yE] <;> omega) | fail) [go_sem, yF, yG, yH, *, if_pos, if_neg, -List.map_take, -List.map_drop, -List.map_append, -List.map_reverse]); exact rfl)) | ((fail_if_success (with_reducible show Is _ _)); (first | ((with_reducible refine fun (hc : (_ : Bool) = _) => ?_); (try simp only [xA, xB, xC, xD, xE, xF, xG, xH, reduceCtorEq, xI, xJ, xK, xL, xM, xN, xO, xP, xQ, xR] at hc); (try (have hx : True := hc; clear hx hc)); (try (exfalso; omega)); (try (with_reducible (exact absurd hc (by assumption)))); (try (with_reducible (exact absurd (by assumption) hc)))) | ((with_reducible show ACall _ _ _ _ _); (first | ((with_reducible (first | apply hct)) <;> (first | omega | assumption | exact rfl | ((simp (disch := first | omega | (simp only [yA, yB, yC, yD, yE] <;> omega) | fail) [go_sem, yF, yG, yH, *, -List.map_take, -List.map_drop, -List.map_append, -List.map_reverse]) <;> (first | done | omega | exact rfl)))))) | ((fail_if_success (with_reducible show ACall _ _ _ _ _)); (try (first | exact .inl rfl | (refine .inr ⟨rfl, ?_, ?_⟩; (focus (repeat (first | exact trivial | refine ⟨.inl rfl, ?_⟩ | refine ⟨.inr rfl, ?_⟩))); (first | exact trivial | exact rfl))))))))))
          exact ⟨⟨j + 1, k, Z, _, by omega, by (simp (disch := omega) [go_sem, *]) <;> (try omega), by (simp (disch := omega) [go_sem, *]) <;> (try omega), by (simp (disch := omega) [go_sem, *]) <;> (try omega), by (simp (disch := omega) [go_sem, *]) <;> (try omega), by (simp (disch := omega) [go_sem, *]) <;> (try omega), by (simp (disch := omega) [go_sem, *]) <;> (try omega), by (simp (disch := omega) [go_sem, *]) <;> (try omega), rfl, hZ, .inr hfin⟩, by (simp (disch := omega) [go_sem, *]) <;> (try omega)⟩
    · obtain rfl : j = L.length := by omega
      rw [List.take_length] at hb
      rcases hb with ⟨rfl, hb⟩ | ⟨k, hk, rfl, hk0, hb⟩
      · rw [hb]
        replace hL : Hid _ := hL
        replace kl : Hid _ := kl
        repeat' (first | (with_reducible (first | apply w_seq | apply w_region | apply w_block | apply w_skip | apply w_exit | apply w_ret | apply w_then | apply w_then_exit | apply w_then_ret | apply w_in | apply w_in_here | apply w_in_ret | apply w_round | apply o_nil | apply d_nil)) | ((with_reducible (first | apply w_in_exit)); rfl) | ((with_reducible (first | apply w_draw)); rfl) | ((first | ((with_reducible (first | apply o_op | apply d_op | apply q_op)); rfl; rfl) | ((with_reducible (first | apply w_cond | apply w_end | apply w_return))) | ((with_reducible (first | apply o_guard | apply d_guard | apply q_guard)); rfl)); all_goals (first | ((with_reducible show Is _ _); ((try simp (disch := first | omega | (simp only [yA, yB, yC, yD, yE] <;> omega) | fail) [go_sem, yF, yG, yH, *, if_pos, if_neg, -List.map_take, -List.map_drop, -List.map_append, -List.map_reverse]); exact rfl)) | ((fail_if_success (with_reducible show Is _ _)); (first | ((with_reducible refine fun (hc : (_ : Bool) = _) => ?_); (try simp only [xA, xB, xC, xD, xE, xF, xG, xH, reduceCtorEq, xI, xJ, xK, xL, xM, xN, xO, xP, xQ, xR] at hc); (try (have hx : True := hc; clear hx hc)); (try (exfalso; omega)); (try (with_reducible (exact absurd hc (by assumption)))); (try (with_reducible (exact absurd (by assumption) hc)))) | ((fail_if_success (with_reducible show ACall _ _ _ _ _)); (try (first | exact .inl rfl | (refine .inr ⟨rfl, ?_, ?_⟩; (focus (repeat (first | exact trivial | refine ⟨.inl rfl, ?_⟩ | refine ⟨.inr rfl, ?_⟩))); (first | exact trivial | exact rfl))))))))))
        rfl
      · obtain ⟨a1, a2⟩ := kl k hk
        have hg := hL L[k] (List.getElem_mem hk)
        obtain ⟨u7, u8, u9, u10⟩ := rt_in ⟨hg.1, hg.2.1⟩ a1 a2
        have hbl : (L[k].2.map byteC).length = 32 := by simp [hg.2.1]
        rw [hb]
        generalize L[k] = u at *
        replace hL : Hid _ := hL
        replace kl : Hid _ := kl
        repeat' (first | (with_reducible (first | apply w_seq | apply w_region | apply w_block | apply w_skip | apply w_exit | apply w_ret | apply w_then | apply w_then_exit | apply w_then_ret | apply w_in | apply w_in_here | apply w_in_ret | apply w_round | apply o_nil | apply d_nil)) | ((with_reducible (first | apply w_in_exit)); rfl) | ((with_reducible (first | apply w_draw)); rfl) | ((first | ((with_reducible (first | apply o_op | apply d_op | apply q_op)); rfl; rfl) | ((with_reducible (first | apply w_cond | apply w_end | apply w_return))) | ((with_reducible (first | apply o_guard | apply d_guard | apply q_guard)); rfl)); all_goals (first | ((with_reducible show Is _ _); ((try simp (disch := first | omega | (simp only [yA, yB, yC, yD, yE] <;> omega) | fail) [go_sem, yF, yG, yH, *, if_pos, if_neg, -List.map_take, -List.map_drop, -List.map_append, -List.map_reverse]); exact rfl)) | ((fail_if_success (with_reducible show Is _ _)); (first | ((with_reducible refine fun (hc : (_ : Bool) = _) => ?_); (try simp only [xA, xB, xC, xD, xE, xF, xG, xH, reduceCtorEq, xI, xJ, xK, xL, xM, xN, xO, xP, xQ, xR] at hc); (try (have hx : True := hc; clear hx hc)); (try (exfalso; omega)); (try (with_reducible (exact absurd hc (by assumption)))); (try (with_reducible (exact absurd (by assumption) hc)))) | ((fail_if_success (with_reducible show ACall _ _ _ _ _)); (try (first | exact .inl rfl | (refine .inr ⟨rfl, ?_, ?_⟩; (focus (repeat (first | exact trivial | refine ⟨.inl rfl, ?_⟩ | refine ⟨.inr rfl, ?_⟩))); (first | exact trivial | exact rfl))))))))))
        (simp (disch := omega) [go_sem, fndC, fndF]) <;> (try omega)
theorem rlook_at {B : List Box} {args : List CV} {L : List Rt} {a : Ad} (hz : Is (omap (fz true false B 6) args) (some [rl rtC L, .agg (adC a)])) (hL : ∀ r ∈ L, RtG r) (hl : L.length < 1000000) (ha : a.2.length = 16) : ACall Try.prog 13 args B fun c B' => c = fndC (fndF (bestF L a)) ∧ B' = B := acall_fresh hz (rlook_in L a hL ha (by omega))
/-- The trie and the plain look-up agree. -/
theorem isPre_path {P A : List UInt8} {s : Nat} (hs : s ≤ 128) : isPre (pathF P s) (pathF A 128) = true ↔ ∀ k, k < s → bitI A k = bitI P k := by
  have key : ∀ m j : Nat, j + m = s → (isPre ((pathF P s).drop j) ((pathF A 128).drop j) = true ↔ ∀ k, j ≤ k → k < s → bitI A k = bitI P k) := by
    intro m
    induction m with
    | zero =>
      intro j hj
      obtain rfl : j = s := by omega
      rw [path_end]
      exact ⟨fun _ k h1 h2 => by omega, fun _ => rfl⟩
    | succ m ih =>
      intro j hj
      rw [path_drop (by omega), path_drop (show j < 128 by omega), isPre, Bool.and_eq_true, ih (j + 1) (by omega)]
      have h1 := bitI_lt A j
      have h2 := bitI_lt P j
      rw [beq_iff_eq]
      constructor
      · rintro ⟨g1, g2⟩ k hk1 hk2
        by_cases hk : k = j
        · subst hk
          rw [Bool.eq_iff_iff] at g1
          simp only [beq_iff_eq] at g1
          omega
        · exact g2 k (by omega) hk2
      · intro g
        refine ⟨by rw [g j (by omega) (by omega)], fun k h1 h2 => g k (by omega) h2⟩
  have := key s 0 (by omega)
  simpa using this
theorem cont_path {r : Rt} {a : Ad} (hr : r.1.1.2.length = 16) (ha : a.2.length = 16) : contP r a = (okA a.1 a.2 && (kindF a.1 r && isPre (pathF r.1.1.2 r.1.2.toNat) (pathF a.2 128))) := by
  unfold contP cont kindF rvld
  cases hv : vld r.1.1.1 r.1.1.2 r.1.2 with
  | false => simp
  | true =>
    have hn := vld_range hv
    have hcut : cutL r.1.1.2 r.1.2.toNat = r.1.1.2 := by
      simp only [vld, Bool.and_eq_true, beq_iff_eq] at hv
      exact hv.2.2.2
    have e : (cutL a.2 r.1.2.toNat == r.1.1.2) = isPre (pathF r.1.1.2 r.1.2.toNat) (pathF a.2 128) := by
      rw [Bool.eq_iff_iff, beq_iff_eq, isPre_path (by omega)]
      exact cut_other ha hr (by omega) hcut
    rw [e]
    cases okA a.1 a.2 with
    | false => simp
    | true =>
      rw [show (a.1 == r.1.1.1) = (r.1.1.1 == a.1) by cases a.1 <;> cases r.1.1.1 <;> rfl]
      cases (r.1.1.1 == a.1) <;> rfl
theorem look_same {L : List Rt} {a : Ad} (hL : ∀ r ∈ L, RtG r) (ha : a.2.length = 16) : lookF L a = fndF (bestF L a) := by
  unfold lookF
  cases hok : okA a.1 a.2 with
  | false =>
    have : ∀ (L : List Rt), (∀ r ∈ L, RtG r) → ∀ o, L.foldl (bstep a) o = o := by
      intro L
      induction L with
      | nil => intro _ o; rfl
      | cons r L ih =>
        intro h o
        rw [List.foldl_cons, ih fun r hr => h r (by simp [hr])]
        rw [bstep, cont_path (h r (by simp)).1 ha, hok]; rfl
    rw [bestF, this L hL]; rfl
  | true =>
    have : ∀ (L : List Rt), (∀ r ∈ L, RtG r) → ∀ o, ((L.filter (kindF a.1)).map entF).foldl (step (pathF a.2 128)) o = L.foldl (bstep a) o := by
      intro L
      induction L with
      | nil => intro _ o; rfl
      | cons r L ih =>
        intro h o
        have ih := ih fun r hr => h r (by simp [hr])
        rw [List.foldl_cons, ← ih]
        have hc := cont_path (h r (by simp)).1 ha
        rw [hok, Bool.true_and] at hc
        rw [List.filter_cons]
        cases hk : kindF a.1 r with
        | false => rw [hk] at hc; simp [bstep, hc]
        | true =>
          rw [hk, Bool.true_and] at hc
          simp only [if_true, List.map_cons, List.foldl_cons]
          congr 1
          rw [step, bstep, hc]
          simp [entF, pathF]
    rw [if_pos rfl, trF, find_all, this L hL]; rfl
/-! Valid lists of routes. -/
def ordF : Option Pf → List Rt → Bool
  | _, [] => true
  | none, r :: l => rvld r && ordF (some r.1) l
  | some p, r :: l => rvld r && (lessP p r.1 && ordF (some r.1) l)
def validR (L : List Rt) : Bool := ordF none L && decide (L.length ≤ 16)
theorem iValid_pf {B : List Box} {args : List CV} {p : Pf} (hz : Is (omap (fz true false B 6) args) (some [.agg (pfC p)])) (hA : p.1.2.length = 16) : ACall Try.prog 40 args B fun c B' => c = .bool (vld p.1.1 p.1.2 p.2) ∧ B' = B := iValid_at hz hA
theorem rValid_pf {B : List Box} {args : List CV} {p : Pf} (hz : Is (omap (fz true false B 6) args) (some [.agg (pfC p)])) (hA : p.1.2.length = 16) : ACall Try.prog 37 args B fun c B' => c = .bool (vld p.1.1 p.1.2 p.2) ∧ B' = B := rValid_at hz hA
theorem ord_at0 {L : List Rt} (h : 0 < L.length) : ordF none L = (rvld L[0] && ordF (some L[0].1) (L.drop 1)) := by
  cases L with
  | nil => simp at h
  | cons r l => rfl
theorem ord_at {L : List Rt} {j : Nat} {p : Pf} (h : j < L.length) : ordF (some p) (L.drop j) = (rvld L[j] && (lessP p L[j].1 && ordF (some L[j].1) (L.drop (j + 1)))) := by
  rw [List.drop_eq_getElem_cons h]; rfl
theorem valid14_in (L : List Rt) (hL : ∀ t ∈ L, RtL t) (hl : L.length < 100000000) : PC Try.prog true 20 [rl rtC L] (.bool (validR L)) := by
  have kl := cells_all (f := rtC) (z := 50) (L := L) (rtl_len hL)
  unfold rl
  obtain ⟨cs, hcs'⟩ : ∃ cs, L.flatMap rtC = cs := ⟨_, rfl⟩
  rw [hcs'] at kl ⊢
  clear hcs'
  have hL : Hid _ := hL
  refine acall_intro mixed Try.func20 rfl ca20 (by kernel_rfl) (by rw [Try.ntmps20]; simp) ?_
  repeat' (first | (with_reducible (first | apply w_seq | apply w_region | apply w_block | apply w_skip | apply w_exit | apply w_ret | apply w_then | apply w_then_exit | apply w_then_ret | apply w_in | apply w_in_here | apply w_in_ret | apply w_round | apply o_nil | apply d_nil)) | ((with_reducible (first | apply w_in_exit)); rfl) | ((with_reducible (first | apply w_draw)); rfl) | ((first | ((with_reducible (first | apply o_op | apply d_op | apply q_op)); rfl; rfl) | ((with_reducible (first | apply w_cond | apply w_end | apply w_return))) | ((with_reducible (first | apply o_guard | apply d_guard | apply q_guard)); rfl)); all_goals (first | ((with_reducible show Is _ _); ((try simp (disch := first | omega | (simp only [yA, yB, yC, yD, yE] <;> omega) | fail) [go_sem, yF, yG, yH, *, if_pos, if_neg, -List.map_take, -List.map_drop, -List.map_append, -List.map_reverse]); exact rfl)) | ((fail_if_success (with_reducible show Is _ _)); (first | ((with_reducible refine fun (hc : (_ : Bool) = _) => ?_); (try simp only [xA, xB, xC, xD, xE, xF, xG, xH, reduceCtorEq, xI, xJ, xK, xL, xM, xN, xO, xP, xQ, xR] at hc); (try (have hx : True := hc; clear hx hc)); (try (exfalso; omega)); (try (with_reducible (exact absurd hc (by assumption)))); (try (with_reducible (exact absurd (by assumption) hc)))) | ((fail_if_success (with_reducible show ACall _ _ _ _ _)); (try (first | exact .inl rfl | (refine .inr ⟨rfl, ?_, ?_⟩; (focus (repeat (first | exact trivial | refine ⟨.inl rfl, ?_⟩ | refine ⟨.inr rfl, ?_⟩))); (first | exact trivial | exact rfl))))))))))
  refine w_loop (fun fr B => ∃ j : Nat, j ≤ L.length ∧ ordF none L = ordF (match j with | 0 => none | i + 1 => some (L[i]?.getD rtO).1) (L.drop j) ∧ fr 7 = .int .i64 j ∧ fr 6 = .int .i64 L.length ∧ fr 5 = .lst L.length cs false ∧ fr 0 = .lst L.length cs false) (fun fr _ => L.length - natOf (fr 7)) ?_ ?_
  · exact ⟨0, by omega, by simp, by (simp (disch := omega) [go_sem, *]) <;> (try omega), by (simp (disch := omega) [go_sem, *]) <;> (try omega), by (simp (disch := omega) [go_sem, *]) <;> (try omega), by (simp (disch := omega) [go_sem, *]) <;> (try omega)⟩
  · rintro fr B ⟨j, hj, hv, h7, h6, h5, h0⟩
    have hfin : ∀ B : List Box, ordF none L = false → fz true true B 6 (.bool false) = some (.bool (validR L)) := fun B h => by rw [validR, h]; rfl
    by_cases hc : j < L.length
    · replace hL : ∀ t ∈ L, RtL t := hL
      obtain ⟨a1, a2⟩ := kl j hc
      have hu := hL L[j] (List.getElem_mem hc)
      obtain ⟨u1, u2, u3, u4, u5, u6⟩ := rt_more hu.1 hu.2
      obtain ⟨v1, v2, v3, v4, v5, v6⟩ := pf_parts (p := (L[j]).1) hu.1
      have hval : ∀ (B : List Box) (args : List CV), Is (omap (fz true false B 6) args) (some [.agg (pfC L[j].1)]) → ACall Try.prog 40 args B fun c B' => c = .bool (rvld L[j]) ∧ B' = B := fun B args h => iValid_pf h hu.1
      have hnx : (match j + 1 with | 0 => none | i + 1 => some (L[i]?.getD rtO).1) = some L[j].1 := by simp [List.getElem?_eq_getElem hc]
      cases j with
      | zero =>
        rw [List.drop_zero] at hv
        have hv2 := ord_at0 hc
        cases hx : rvld L[0] with
        | false =>
          rw [hx] at hval hv2
          replace hv2 : Hid (ordF none L = false) := hv2
          generalize L[0] = u at *
          rw [Nat.zero_mul, List.drop_zero] at a2
          clear hv hnx kl hL
          repeat' (first | (with_reducible (first | apply w_seq | apply w_region | apply w_block | apply w_skip | apply w_exit | apply w_ret | apply w_then | apply w_then_exit | apply w_then_ret | apply w_in | apply w_in_here | apply w_in_ret | apply w_round | apply o_nil | apply d_nil)) | ((with_reducible (first | apply w_in_exit)); rfl) | ((with_reducible (first | apply w_draw)); rfl) | ((first | ((with_reducible (first | apply o_op | apply d_op | apply q_op)); rfl; rfl) | ((with_reducible (first | apply w_cond | apply w_end | apply w_return))) | ((with_reducible (first | apply o_guard | apply d_guard | apply q_guard)); rfl) | ((with_reducible (first | apply o_call_eq | apply d_call | apply q_call)); rfl)); all_goals (first | ((with_reducible show Is _ _); ((try simp (disch := first | omega | (simp only [yA, yB, yC, yD, yE] <;> omega) | fail) [go_sem, yF, yG, yH, *, if_pos, if_neg, -List.map_take, -List.map_drop, -List.map_append, -List.map_reverse]); exact rfl)) | ((fail_if_success (with_reducible show Is _ _)); (first | ((with_reducible refine fun (hc : (_ : Bool) = _) => ?_); (try simp only [xA, xB, xC, xD, xE, xF, xG, xH, reduceCtorEq, xI, xJ, xK, xL, xM, xN, xO, xP, xQ, xR] at hc); (try (have hx : True := hc; clear hx hc)); (try (exfalso; omega)); (try (with_reducible (exact absurd hc (by assumption)))); (try (with_reducible (exact absurd (by assumption) hc)))) | ((with_reducible show ACall _ _ _ _ _); (first | ((with_reducible (first | apply hval)) <;> (first | omega | assumption | exact rfl | ((simp (disch := first | omega | (simp only [yA, yB, yC, yD, yE] <;> omega) | fail) [go_sem, yF, yG, yH, *, -List.map_take, -List.map_drop, -List.map_append, -List.map_reverse]) <;> (first | done | omega | exact rfl)))))) | ((fail_if_success (with_reducible show ACall _ _ _ _ _)); (try (first | exact .inl rfl | (refine .inr ⟨rfl, ?_, ?_⟩; (focus (repeat (first | exact trivial | refine ⟨.inl rfl, ?_⟩ | refine ⟨.inr rfl, ?_⟩))); (first | exact trivial | exact rfl))))))))))
          exact hfin _ hv2
        | true =>
          rw [hx] at hval hv2
          replace hv2 : Hid (ordF none L = ordF (some L[0].1) (L.drop (0 + 1))) := hv2
          replace hnx : Hid _ := hnx
          generalize L[0] = u at *
          rw [Nat.zero_mul, List.drop_zero] at a2
          clear hv kl hL
          repeat' (first | (with_reducible (first | apply w_seq | apply w_region | apply w_block | apply w_skip | apply w_exit | apply w_ret | apply w_then | apply w_then_exit | apply w_then_ret | apply w_in | apply w_in_here | apply w_in_ret | apply w_round | apply o_nil | apply d_nil)) | ((with_reducible (first | apply w_in_exit)); rfl) | ((with_reducible (first | apply w_draw)); rfl) | ((first | ((with_reducible (first | apply o_op | apply d_op | apply q_op)); rfl; rfl) | ((with_reducible (first | apply w_cond | apply w_end | apply w_return))) | ((with_reducible (first | apply o_guard | apply d_guard | apply q_guard)); rfl) | ((with_reducible (first | apply o_call_eq | apply d_call | apply q_call)); rfl)); all_goals (first | ((with_reducible show Is _ _); ((try simp (disch := first | omega | (simp only [yA, yB, yC, yD, yE] <;> omega) | fail) [go_sem, yF, yG, yH, *, if_pos, if_neg, -List.map_take, -List.map_drop, -List.map_append, -List.map_reverse]); exact rfl)) | ((fail_if_success (with_reducible show Is _ _)); (first | ((with_reducible refine fun (hc : (_ : Bool) = _) => ?_); (try simp only [xA, xB, xC, xD, xE, xF, xG, xH, reduceCtorEq, xI, xJ, xK, xL, xM, xN, xO, xP, xQ, xR] at hc); (try (have hx : True := hc; clear hx hc)); (try (exfalso; omega)); (try (with_reducible (exact absurd hc (by assumption)))); (try (with_reducible (exact absurd (by assumption) hc)))) | ((with_reducible show ACall _ _ _ _ _); (first | ((with_reducible (first | apply hval)) <;> (first | omega | assumption | exact rfl | ((simp (disch := first | omega | (simp only [yA, yB, yC, yD, yE] <;> omega) | fail) [go_sem, yF, yG, yH, *, -List.map_take, -List.map_drop, -List.map_append, -List.map_reverse]) <;> (first | done | omega | exact rfl)))))) | ((fail_if_success (with_reducible show ACall _ _ _ _ _)); (try (first | exact .inl rfl | (refine .inr ⟨rfl, ?_, ?_⟩; (focus (repeat (first | exact trivial | refine ⟨.inl rfl, ?_⟩ | refine ⟨.inr rfl, ?_⟩))); (first | exact trivial | exact rfl))))))))))
          exact ⟨⟨0 + 1, by omega, (show ordF none L = _ from hv2).trans (by rw [show _ = some u.1 from hnx]), by (simp (disch := omega) [go_sem, *]) <;> (try omega), by (simp (disch := omega) [go_sem, *]) <;> (try omega), by (simp (disch := omega) [go_sem, *]) <;> (try omega), by (simp (disch := omega) [go_sem, *]) <;> (try omega)⟩, by (simp (disch := omega) [go_sem, *]) <;> (try omega)⟩
      | succ i =>
        obtain ⟨b1, b2⟩ := kl i (by omega)
        have hw := hL L[i] (List.getElem_mem (by omega))
        obtain ⟨z7, z8, z9, z10⟩ := rt_in (u := L[i]) hw b1 b2
        simp only [List.getElem?_eq_getElem (show i < L.length by omega), Option.getD_some] at hv
        rw [ord_at hc] at hv
        have hless : ∀ (B : List Box) (args : List CV), Is (omap (fz true false B 6) args) (some [.agg (pfC L[i].1), .agg (pfC L[i + 1].1)]) → ACall Try.prog 45 args B fun c B' => c = .bool (lessP L[i].1 L[i + 1].1) ∧ B' = B := fun B args h => rless_at h hw.1 hu.1
        generalize L[i + 1] = u at *
        generalize L[i] = w at *
        replace hL : Hid _ := hL
        replace kl : Hid _ := kl
        cases hx : rvld u with
        | false =>
          rw [hx] at hval hv
          replace hv : Hid (ordF none L = false) := hv
          clear hnx hless
          repeat' (first | (with_reducible (first | apply w_seq | apply w_region | apply w_block | apply w_skip | apply w_exit | apply w_ret | apply w_then | apply w_then_exit | apply w_then_ret | apply w_in | apply w_in_here | apply w_in_ret | apply w_round | apply o_nil | apply d_nil)) | ((with_reducible (first | apply w_in_exit)); rfl) | ((with_reducible (first | apply w_draw)); rfl) | ((first | ((with_reducible (first | apply o_op | apply d_op | apply q_op)); rfl; rfl) | ((with_reducible (first | apply w_cond | apply w_end | apply w_return))) | ((with_reducible (first | apply o_guard | apply d_guard | apply q_guard)); rfl) | ((with_reducible (first | apply o_call_eq | apply d_call | apply q_call)); rfl)); all_goals (first | ((with_reducible show Is _ _); ((try simp (disch := first | omega | (simp only [yA, yB, yC, yD, yE] <;> omega) | fail) [go_sem, yF, yG, yH, *, if_pos, if_neg, -List.map_take, -List.map_drop, -List.map_append, -List.map_reverse]); exact rfl)) | ((fail_if_success (with_reducible show Is _ _)); (first | ((with_reducible refine fun (hc : (_ : Bool) = _) => ?_); (try simp only [xA, xB, xC, xD, xE, xF, xG, xH, reduceCtorEq, xI, xJ, xK, xL, xM, xN, xO, xP, xQ, xR] at hc); (try (have hx : True := hc; clear hx hc)); (try (exfalso; omega)); (try (with_reducible (exact absurd hc (by assumption)))); (try (with_reducible (exact absurd (by assumption) hc)))) | ((with_reducible show ACall _ _ _ _ _); (first | ((with_reducible (first | apply hval)) <;> (first | omega | assumption | exact rfl | ((simp (disch := first | omega | (simp only [yA, yB, yC, yD, yE] <;> omega) | fail) [go_sem, yF, yG, yH, *, -List.map_take, -List.map_drop, -List.map_append, -List.map_reverse]) <;> (first | done | omega | exact rfl)))))) | ((fail_if_success (with_reducible show ACall _ _ _ _ _)); (try (first | exact .inl rfl | (refine .inr ⟨rfl, ?_, ?_⟩; (focus (repeat (first | exact trivial | refine ⟨.inl rfl, ?_⟩ | refine ⟨.inr rfl, ?_⟩))); (first | exact trivial | exact rfl))))))))))
          exact hfin _ hv
        | true =>
          rw [hx] at hval hv
          cases hy : lessP w.1 u.1 with
          | false =>
            rw [hy] at hless hv
            replace hv : Hid (ordF none L = false) := hv
            clear hnx
            repeat' (first | (with_reducible (first | apply w_seq | apply w_region | apply w_block | apply w_skip | apply w_exit | apply w_ret | apply w_then | apply w_then_exit | apply w_then_ret | apply w_in | apply w_in_here | apply w_in_ret | apply w_round | apply o_nil | apply d_nil)) | ((with_reducible (first | apply w_in_exit)); rfl) | ((with_reducible (first | apply w_draw)); rfl) | ((first | ((with_reducible (first | apply o_op | apply d_op | apply q_op)); rfl; rfl) | ((with_reducible (first | apply w_cond | apply w_end | apply w_return))) | ((with_reducible (first | apply o_guard | apply d_guard | apply q_guard)); rfl) | ((with_reducible (first | apply o_call_eq | apply d_call | apply q_call)); rfl)); all_goals (first | ((with_reducible show Is _ _); ((try simp (disch := first | omega | (simp only [yA, yB, yC, yD, yE] <;> omega) | fail) [go_sem, yF, yG, yH, *, if_pos, if_neg, -List.map_take, -List.map_drop, -List.map_append, -List.map_reverse]); exact rfl)) | ((fail_if_success (with_reducible show Is _ _)); (first | ((with_reducible refine fun (hc : (_ : Bool) = _) => ?_); (try simp only [xA, xB, xC, xD, xE, xF, xG, xH, reduceCtorEq, xI, xJ, xK, xL, xM, xN, xO, xP, xQ, xR] at hc); (try (have hx : True := hc; clear hx hc)); (try (exfalso; omega)); (try (with_reducible (exact absurd hc (by assumption)))); (try (with_reducible (exact absurd (by assumption) hc)))) | ((with_reducible show ACall _ _ _ _ _); (first | ((with_reducible (first | apply hval)) <;> (first | omega | assumption | exact rfl | ((simp (disch := first | omega | (simp only [yA, yB, yC, yD, yE] <;> omega) | fail) [go_sem, yF, yG, yH, *, -List.map_take, -List.map_drop, -List.map_append, -List.map_reverse]) <;> (first | done | omega | exact rfl)))) | ((with_reducible (first | apply hless)) <;> (first | omega | assumption | exact rfl | ((simp (disch := first | omega | (simp only [yA, yB, yC, yD, yE] <;> omega) | fail) [go_sem, yF, yG, yH, *, -List.map_take, -List.map_drop, -List.map_append, -List.map_reverse]) <;> (first | done | omega | exact rfl)))))) | ((fail_if_success (with_reducible show ACall _ _ _ _ _)); (try (first | exact .inl rfl | (refine .inr ⟨rfl, ?_, ?_⟩; (focus (repeat (first | exact trivial | refine ⟨.inl rfl, ?_⟩ | refine ⟨.inr rfl, ?_⟩))); (first | exact trivial | exact rfl))))))))))
            exact hfin _ hv
          | true =>
            rw [hy] at hless hv
            replace hv : Hid (ordF none L = ordF (some u.1) (L.drop (i + 1 + 1))) := hv
            replace hnx : Hid _ := hnx
            repeat' (first | (with_reducible (first | apply w_seq | apply w_region | apply w_block | apply w_skip | apply w_exit | apply w_ret | apply w_then | apply w_then_exit | apply w_then_ret | apply w_in | apply w_in_here | apply w_in_ret | apply w_round | apply o_nil | apply d_nil)) | ((with_reducible (first | apply w_in_exit)); rfl) | ((with_reducible (first | apply w_draw)); rfl) | ((first | ((with_reducible (first | apply o_op | apply d_op | apply q_op)); rfl; rfl) | ((with_reducible (first | apply w_cond | apply w_end | apply w_return))) | ((with_reducible (first | apply o_guard | apply d_guard | apply q_guard)); rfl) | ((with_reducible (first | apply o_call_eq | apply d_call | apply q_call)); rfl)); all_goals (first | ((with_reducible show Is _ _); ((try simp (disch := first | omega | (simp only [yA, yB, yC, yD, yE] <;> omega) | fail) [go_sem, yF, yG, yH, *, if_pos, if_neg, -List.map_take, -List.map_drop, -List.map_append, -List.map_reverse]); exact rfl)) | ((fail_if_success (with_reducible show Is _ _)); (first | ((with_reducible refine fun (hc : (_ : Bool) = _) => ?_); (try simp only [xA, xB, xC, xD, xE, xF, xG, xH, reduceCtorEq, xI, xJ, xK, xL, xM, xN, xO, xP, xQ, xR] at hc); (try (have hx : True := hc; clear hx hc)); (try (exfalso; omega)); (try (with_reducible (exact absurd hc (by assumption)))); (try (with_reducible (exact absurd (by assumption) hc)))) | ((with_reducible show ACall _ _ _ _ _); (first | ((with_reducible (first | apply hval)) <;> (first | omega | assumption | exact rfl | ((simp (disch := first | omega | (simp only [yA, yB, yC, yD, yE] <;> omega) | fail) [go_sem, yF, yG, yH, *, -List.map_take, -List.map_drop, -List.map_append, -List.map_reverse]) <;> (first | done | omega | exact rfl)))) | ((with_reducible (first | apply hless)) <;> (first | omega | assumption | exact rfl | ((simp (disch := first | omega | (simp only [yA, yB, yC, yD, yE] <;> omega) | fail) [go_sem, yF, yG, yH, *, -List.map_take, -List.map_drop, -List.map_append, -List.map_reverse]) <;> (first | done | omega | exact rfl)))))) | ((fail_if_success (with_reducible show ACall _ _ _ _ _)); (try (first | exact .inl rfl | (refine .inr ⟨rfl, ?_, ?_⟩; (focus (repeat (first | exact trivial | refine ⟨.inl rfl, ?_⟩ | refine ⟨.inr rfl, ?_⟩))); (first | exact trivial | exact rfl))))))))))
            exact ⟨⟨i + 1 + 1, by omega, (show ordF none L = _ from hv).trans (by rw [show _ = some u.1 from hnx]), by (simp (disch := omega) [go_sem, *]) <;> (try omega), by (simp (disch := omega) [go_sem, *]) <;> (try omega), by (simp (disch := omega) [go_sem, *]) <;> (try omega), by (simp (disch := omega) [go_sem, *]) <;> (try omega)⟩, by (simp (disch := omega) [go_sem, *]) <;> (try omega)⟩
    · have : j = L.length := by omega
      subst this
      rw [List.drop_length] at hv
      have hv : ordF none L = true := hv.trans (by cases (match L.length with | 0 => none | i + 1 => some (L[i]?.getD rtO).1 : Option Pf) <;> rfl)
      have he : validR L = decide ((L.length : Int) ≤ 16) := by rw [validR, hv, Bool.true_and]; simp; omega
      rw [he]
      clear he hfin
      replace hv : Hid _ := hv
      repeat' (first | (with_reducible (first | apply w_seq | apply w_region | apply w_block | apply w_skip | apply w_exit | apply w_ret | apply w_then | apply w_then_exit | apply w_then_ret | apply w_in | apply w_in_here | apply w_in_ret | apply w_round | apply o_nil | apply d_nil)) | ((with_reducible (first | apply w_in_exit)); rfl) | ((with_reducible (first | apply w_draw)); rfl) | ((first | ((with_reducible (first | apply o_op | apply d_op | apply q_op)); rfl; rfl) | ((with_reducible (first | apply w_cond | apply w_end | apply w_return))) | ((with_reducible (first | apply o_guard | apply d_guard | apply q_guard)); rfl)); all_goals (first | ((with_reducible show Is _ _); ((try simp (disch := first | omega | (simp only [yA, yB, yC, yD, yE] <;> omega) | fail) [go_sem, yF, yG, yH, *, if_pos, if_neg, -List.map_take, -List.map_drop, -List.map_append, -List.map_reverse]); exact rfl)) | ((fail_if_success (with_reducible show Is _ _)); (first | ((with_reducible refine fun (hc : (_ : Bool) = _) => ?_); (try simp only [xA, xB, xC, xD, xE, xF, xG, xH, reduceCtorEq, xI, xJ, xK, xL, xM, xN, xO, xP, xQ, xR] at hc); (try (have hx : True := hc; clear hx hc)); (try (exfalso; omega)); (try (with_reducible (exact absurd hc (by assumption)))); (try (with_reducible (exact absurd (by assumption) hc)))) | ((fail_if_success (with_reducible show ACall _ _ _ _ _)); (try (first | exact .inl rfl | (refine .inr ⟨rfl, ?_, ?_⟩; (focus (repeat (first | exact trivial | refine ⟨.inl rfl, ?_⟩ | refine ⟨.inr rfl, ?_⟩))); (first | exact trivial | exact rfl))))))))))
      rfl
theorem valid14_at {B : List Box} {args : List CV} {L : List Rt} (hz : Is (omap (fz true false B 6) args) (some [rl rtC L])) (hL : ∀ t ∈ L, RtL t) (hl : L.length < 100000000) : ACall Try.prog 20 args B fun c B' => c = .bool (validR L) ∧ B' = B := acall_fresh hz (valid14_in L hL hl)
theorem rvalid14_in (L : List Rt) (hL : ∀ t ∈ L, RtL t) (hl : L.length < 100000000) : PC Try.prog true 31 [rl rtC L] (.bool (validR L)) := by
  have kl := cells_all (f := rtC) (z := 50) (L := L) (rtl_len hL)
  unfold rl
  obtain ⟨cs, hcs'⟩ : ∃ cs, L.flatMap rtC = cs := ⟨_, rfl⟩
  rw [hcs'] at kl ⊢
  clear hcs'
  have hL : Hid _ := hL
  refine acall_intro mixed Try.func31 rfl ca31 (by kernel_rfl) (by rw [Try.ntmps31]; simp) ?_
  repeat' (first | (with_reducible (first | apply w_seq | apply w_region | apply w_block | apply w_skip | apply w_exit | apply w_ret | apply w_then | apply w_then_exit | apply w_then_ret | apply w_in | apply w_in_here | apply w_in_ret | apply w_round | apply o_nil | apply d_nil)) | ((with_reducible (first | apply w_in_exit)); rfl) | ((with_reducible (first | apply w_draw)); rfl) | ((first | ((with_reducible (first | apply o_op | apply d_op | apply q_op)); rfl; rfl) | ((with_reducible (first | apply w_cond | apply w_end | apply w_return))) | ((with_reducible (first | apply o_guard | apply d_guard | apply q_guard)); rfl)); all_goals (first | ((with_reducible show Is _ _); ((try simp (disch := first | omega | (simp only [yA, yB, yC, yD, yE] <;> omega) | fail) [go_sem, yF, yG, yH, *, if_pos, if_neg, -List.map_take, -List.map_drop, -List.map_append, -List.map_reverse]); exact rfl)) | ((fail_if_success (with_reducible show Is _ _)); (first | ((with_reducible refine fun (hc : (_ : Bool) = _) => ?_); (try simp only [xA, xB, xC, xD, xE, xF, xG, xH, reduceCtorEq, xI, xJ, xK, xL, xM, xN, xO, xP, xQ, xR] at hc); (try (have hx : True := hc; clear hx hc)); (try (exfalso; omega)); (try (with_reducible (exact absurd hc (by assumption)))); (try (with_reducible (exact absurd (by assumption) hc)))) | ((fail_if_success (with_reducible show ACall _ _ _ _ _)); (try (first | exact .inl rfl | (refine .inr ⟨rfl, ?_, ?_⟩; (focus (repeat (first | exact trivial | refine ⟨.inl rfl, ?_⟩ | refine ⟨.inr rfl, ?_⟩))); (first | exact trivial | exact rfl))))))))))
  refine w_loop (fun fr B => ∃ j : Nat, j ≤ L.length ∧ ordF none L = ordF (match j with | 0 => none | i + 1 => some (L[i]?.getD rtO).1) (L.drop j) ∧ fr 7 = .int .i64 j ∧ fr 6 = .int .i64 L.length ∧ fr 5 = .lst L.length cs false ∧ fr 0 = .lst L.length cs false) (fun fr _ => L.length - natOf (fr 7)) ?_ ?_
  · exact ⟨0, by omega, by simp, by (simp (disch := omega) [go_sem, *]) <;> (try omega), by (simp (disch := omega) [go_sem, *]) <;> (try omega), by (simp (disch := omega) [go_sem, *]) <;> (try omega), by (simp (disch := omega) [go_sem, *]) <;> (try omega)⟩
  · rintro fr B ⟨j, hj, hv, h7, h6, h5, h0⟩
    have hfin : ∀ B : List Box, ordF none L = false → fz true true B 6 (.bool false) = some (.bool (validR L)) := fun B h => by rw [validR, h]; rfl
    by_cases hc : j < L.length
    · replace hL : ∀ t ∈ L, RtL t := hL
      obtain ⟨a1, a2⟩ := kl j hc
      have hu := hL L[j] (List.getElem_mem hc)
      obtain ⟨u1, u2, u3, u4, u5, u6⟩ := rt_more hu.1 hu.2
      obtain ⟨v1, v2, v3, v4, v5, v6⟩ := pf_parts (p := (L[j]).1) hu.1
      have hval : ∀ (B : List Box) (args : List CV), Is (omap (fz true false B 6) args) (some [.agg (pfC L[j].1)]) → ACall Try.prog 37 args B fun c B' => c = .bool (rvld L[j]) ∧ B' = B := fun B args h => rValid_pf h hu.1
      have hnx : (match j + 1 with | 0 => none | i + 1 => some (L[i]?.getD rtO).1) = some L[j].1 := by simp [List.getElem?_eq_getElem hc]
      cases j with
      | zero =>
        rw [List.drop_zero] at hv
        have hv2 := ord_at0 hc
        cases hx : rvld L[0] with
        | false =>
          rw [hx] at hval hv2
          replace hv2 : Hid (ordF none L = false) := hv2
          generalize L[0] = u at *
          rw [Nat.zero_mul, List.drop_zero] at a2
          clear hv hnx kl hL
          repeat' (first | (with_reducible (first | apply w_seq | apply w_region | apply w_block | apply w_skip | apply w_exit | apply w_ret | apply w_then | apply w_then_exit | apply w_then_ret | apply w_in | apply w_in_here | apply w_in_ret | apply w_round | apply o_nil | apply d_nil)) | ((with_reducible (first | apply w_in_exit)); rfl) | ((with_reducible (first | apply w_draw)); rfl) | ((first | ((with_reducible (first | apply o_op | apply d_op | apply q_op)); rfl; rfl) | ((with_reducible (first | apply w_cond | apply w_end | apply w_return))) | ((with_reducible (first | apply o_guard | apply d_guard | apply q_guard)); rfl) | ((with_reducible (first | apply o_call_eq | apply d_call | apply q_call)); rfl)); all_goals (first | ((with_reducible show Is _ _); ((try simp (disch := first | omega | (simp only [yA, yB, yC, yD, yE] <;> omega) | fail) [go_sem, yF, yG, yH, *, if_pos, if_neg, -List.map_take, -List.map_drop, -List.map_append, -List.map_reverse]); exact rfl)) | ((fail_if_success (with_reducible show Is _ _)); (first | ((with_reducible refine fun (hc : (_ : Bool) = _) => ?_); (try simp only [xA, xB, xC, xD, xE, xF, xG, xH, reduceCtorEq, xI, xJ, xK, xL, xM, xN, xO, xP, xQ, xR] at hc); (try (have hx : True := hc; clear hx hc)); (try (exfalso; omega)); (try (with_reducible (exact absurd hc (by assumption)))); (try (with_reducible (exact absurd (by assumption) hc)))) | ((with_reducible show ACall _ _ _ _ _); (first | ((with_reducible (first | apply hval)) <;> (first | omega | assumption | exact rfl | ((simp (disch := first | omega | (simp only [yA, yB, yC, yD, yE] <;> omega) | fail) [go_sem, yF, yG, yH, *, -List.map_take, -List.map_drop, -List.map_append, -List.map_reverse]) <;> (first | done | omega | exact rfl)))))) | ((fail_if_success (with_reducible show ACall _ _ _ _ _)); (try (first | exact .inl rfl | (refine .inr ⟨rfl, ?_, ?_⟩; (focus (repeat (first | exact trivial | refine ⟨.inl rfl, ?_⟩ | refine ⟨.inr rfl, ?_⟩))); (first | exact trivial | exact rfl))))))))))
          exact hfin _ hv2
        | true =>
          rw [hx] at hval hv2
          replace hv2 : Hid (ordF none L = ordF (some L[0].1) (L.drop (0 + 1))) := hv2
          replace hnx : Hid _ := hnx
          generalize L[0] = u at *
          rw [Nat.zero_mul, List.drop_zero] at a2
          clear hv kl hL
          repeat' (first | (with_reducible (first | apply w_seq | apply w_region | apply w_block | apply w_skip | apply w_exit | apply w_ret | apply w_then | apply w_then_exit | apply w_then_ret | apply w_in | apply w_in_here | apply w_in_ret | apply w_round | apply o_nil | apply d_nil)) | ((with_reducible (first | apply w_in_exit)); rfl) | ((with_reducible (first | apply w_draw)); rfl) | ((first | ((with_reducible (first | apply o_op | apply d_op | apply q_op)); rfl; rfl) | ((with_reducible (first | apply w_cond | apply w_end | apply w_return))) | ((with_reducible (first | apply o_guard | apply d_guard | apply q_guard)); rfl) | ((with_reducible (first | apply o_call_eq | apply d_call | apply q_call)); rfl)); all_goals (first | ((with_reducible show Is _ _); ((try simp (disch := first | omega | (simp only [yA, yB, yC, yD, yE] <;> omega) | fail) [go_sem, yF, yG, yH, *, if_pos, if_neg, -List.map_take, -List.map_drop, -List.map_append, -List.map_reverse]); exact rfl)) | ((fail_if_success (with_reducible show Is _ _)); (first | ((with_reducible refine fun (hc : (_ : Bool) = _) => ?_); (try simp only [xA, xB, xC, xD, xE, xF, xG, xH, reduceCtorEq, xI, xJ, xK, xL, xM, xN, xO, xP, xQ, xR] at hc); (try (have hx : True := hc; clear hx hc)); (try (exfalso; omega)); (try (with_reducible (exact absurd hc (by assumption)))); (try (with_reducible (exact absurd (by assumption) hc)))) | ((with_reducible show ACall _ _ _ _ _); (first | ((with_reducible (first | apply hval)) <;> (first | omega | assumption | exact rfl | ((simp (disch := first | omega | (simp only [yA, yB, yC, yD, yE] <;> omega) | fail) [go_sem, yF, yG, yH, *, -List.map_take, -List.map_drop, -List.map_append, -List.map_reverse]) <;> (first | done | omega | exact rfl)))))) | ((fail_if_success (with_reducible show ACall _ _ _ _ _)); (try (first | exact .inl rfl | (refine .inr ⟨rfl, ?_, ?_⟩; (focus (repeat (first | exact trivial | refine ⟨.inl rfl, ?_⟩ | refine ⟨.inr rfl, ?_⟩))); (first | exact trivial | exact rfl))))))))))
          exact ⟨⟨0 + 1, by omega, (show ordF none L = _ from hv2).trans (by rw [show _ = some u.1 from hnx]), by (simp (disch := omega) [go_sem, *]) <;> (try omega), by (simp (disch := omega) [go_sem, *]) <;> (try omega), by (simp (disch := omega) [go_sem, *]) <;> (try omega), by (simp (disch := omega) [go_sem, *]) <;> (try omega)⟩, by (simp (disch := omega) [go_sem, *]) <;> (try omega)⟩
      | succ i =>
        obtain ⟨b1, b2⟩ := kl i (by omega)
        have hw := hL L[i] (List.getElem_mem (by omega))
        obtain ⟨z7, z8, z9, z10⟩ := rt_in (u := L[i]) hw b1 b2
        simp only [List.getElem?_eq_getElem (show i < L.length by omega), Option.getD_some] at hv
        rw [ord_at hc] at hv
        have hless : ∀ (B : List Box) (args : List CV), Is (omap (fz true false B 6) args) (some [.agg (pfC L[i].1), .agg (pfC L[i + 1].1)]) → ACall Try.prog 47 args B fun c B' => c = .bool (lessP L[i].1 L[i + 1].1) ∧ B' = B := fun B args h => before_at h hw.1 hu.1
        generalize L[i + 1] = u at *
        generalize L[i] = w at *
        replace hL : Hid _ := hL
        replace kl : Hid _ := kl
        cases hx : rvld u with
        | false =>
          rw [hx] at hval hv
          replace hv : Hid (ordF none L = false) := hv
          clear hnx hless
          repeat' (first | (with_reducible (first | apply w_seq | apply w_region | apply w_block | apply w_skip | apply w_exit | apply w_ret | apply w_then | apply w_then_exit | apply w_then_ret | apply w_in | apply w_in_here | apply w_in_ret | apply w_round | apply o_nil | apply d_nil)) | ((with_reducible (first | apply w_in_exit)); rfl) | ((with_reducible (first | apply w_draw)); rfl) | ((first | ((with_reducible (first | apply o_op | apply d_op | apply q_op)); rfl; rfl) | ((with_reducible (first | apply w_cond | apply w_end | apply w_return))) | ((with_reducible (first | apply o_guard | apply d_guard | apply q_guard)); rfl) | ((with_reducible (first | apply o_call_eq | apply d_call | apply q_call)); rfl)); all_goals (first | ((with_reducible show Is _ _); ((try simp (disch := first | omega | (simp only [yA, yB, yC, yD, yE] <;> omega) | fail) [go_sem, yF, yG, yH, *, if_pos, if_neg, -List.map_take, -List.map_drop, -List.map_append, -List.map_reverse]); exact rfl)) | ((fail_if_success (with_reducible show Is _ _)); (first | ((with_reducible refine fun (hc : (_ : Bool) = _) => ?_); (try simp only [xA, xB, xC, xD, xE, xF, xG, xH, reduceCtorEq, xI, xJ, xK, xL, xM, xN, xO, xP, xQ, xR] at hc); (try (have hx : True := hc; clear hx hc)); (try (exfalso; omega)); (try (with_reducible (exact absurd hc (by assumption)))); (try (with_reducible (exact absurd (by assumption) hc)))) | ((with_reducible show ACall _ _ _ _ _); (first | ((with_reducible (first | apply hval)) <;> (first | omega | assumption | exact rfl | ((simp (disch := first | omega | (simp only [yA, yB, yC, yD, yE] <;> omega) | fail) [go_sem, yF, yG, yH, *, -List.map_take, -List.map_drop, -List.map_append, -List.map_reverse]) <;> (first | done | omega | exact rfl)))))) | ((fail_if_success (with_reducible show ACall _ _ _ _ _)); (try (first | exact .inl rfl | (refine .inr ⟨rfl, ?_, ?_⟩; (focus (repeat (first | exact trivial | refine ⟨.inl rfl, ?_⟩ | refine ⟨.inr rfl, ?_⟩))); (first | exact trivial | exact rfl))))))))))
          exact hfin _ hv
        | true =>
          rw [hx] at hval hv
          cases hy : lessP w.1 u.1 with
          | false =>
            rw [hy] at hless hv
            replace hv : Hid (ordF none L = false) := hv
            clear hnx
            repeat' (first | (with_reducible (first | apply w_seq | apply w_region | apply w_block | apply w_skip | apply w_exit | apply w_ret | apply w_then | apply w_then_exit | apply w_then_ret | apply w_in | apply w_in_here | apply w_in_ret | apply w_round | apply o_nil | apply d_nil)) | ((with_reducible (first | apply w_in_exit)); rfl) | ((with_reducible (first | apply w_draw)); rfl) | ((first | ((with_reducible (first | apply o_op | apply d_op | apply q_op)); rfl; rfl) | ((with_reducible (first | apply w_cond | apply w_end | apply w_return))) | ((with_reducible (first | apply o_guard | apply d_guard | apply q_guard)); rfl) | ((with_reducible (first | apply o_call_eq | apply d_call | apply q_call)); rfl)); all_goals (first | ((with_reducible show Is _ _); ((try simp (disch := first | omega | (simp only [yA, yB, yC, yD, yE] <;> omega) | fail) [go_sem, yF, yG, yH, *, if_pos, if_neg, -List.map_take, -List.map_drop, -List.map_append, -List.map_reverse]); exact rfl)) | ((fail_if_success (with_reducible show Is _ _)); (first | ((with_reducible refine fun (hc : (_ : Bool) = _) => ?_); (try simp only [xA, xB, xC, xD, xE, xF, xG, xH, reduceCtorEq, xI, xJ, xK, xL, xM, xN, xO, xP, xQ, xR] at hc); (try (have hx : True := hc; clear hx hc)); (try (exfalso; omega)); (try (with_reducible (exact absurd hc (by assumption)))); (try (with_reducible (exact absurd (by assumption) hc)))) | ((with_reducible show ACall _ _ _ _ _); (first | ((with_reducible (first | apply hval)) <;> (first | omega | assumption | exact rfl | ((simp (disch := first | omega | (simp only [yA, yB, yC, yD, yE] <;> omega) | fail) [go_sem, yF, yG, yH, *, -List.map_take, -List.map_drop, -List.map_append, -List.map_reverse]) <;> (first | done | omega | exact rfl)))) | ((with_reducible (first | apply hless)) <;> (first | omega | assumption | exact rfl | ((simp (disch := first | omega | (simp only [yA, yB, yC, yD, yE] <;> omega) | fail) [go_sem, yF, yG, yH, *, -List.map_take, -List.map_drop, -List.map_append, -List.map_reverse]) <;> (first | done | omega | exact rfl)))))) | ((fail_if_success (with_reducible show ACall _ _ _ _ _)); (try (first | exact .inl rfl | (refine .inr ⟨rfl, ?_, ?_⟩; (focus (repeat (first | exact trivial | refine ⟨.inl rfl, ?_⟩ | refine ⟨.inr rfl, ?_⟩))); (first | exact trivial | exact rfl))))))))))
            exact hfin _ hv
          | true =>
            rw [hy] at hless hv
            replace hv : Hid (ordF none L = ordF (some u.1) (L.drop (i + 1 + 1))) := hv
            replace hnx : Hid _ := hnx
            repeat' (first | (with_reducible (first | apply w_seq | apply w_region | apply w_block | apply w_skip | apply w_exit | apply w_ret | apply w_then | apply w_then_exit | apply w_then_ret | apply w_in | apply w_in_here | apply w_in_ret | apply w_round | apply o_nil | apply d_nil)) | ((with_reducible (first | apply w_in_exit)); rfl) | ((with_reducible (first | apply w_draw)); rfl) | ((first | ((with_reducible (first | apply o_op | apply d_op | apply q_op)); rfl; rfl) | ((with_reducible (first | apply w_cond | apply w_end | apply w_return))) | ((with_reducible (first | apply o_guard | apply d_guard | apply q_guard)); rfl) | ((with_reducible (first | apply o_call_eq | apply d_call | apply q_call)); rfl)); all_goals (first | ((with_reducible show Is _ _); ((try simp (disch := first | omega | (simp only [yA, yB, yC, yD, yE] <;> omega) | fail) [go_sem, yF, yG, yH, *, if_pos, if_neg, -List.map_take, -List.map_drop, -List.map_append, -List.map_reverse]); exact rfl)) | ((fail_if_success (with_reducible show Is _ _)); (first | ((with_reducible refine fun (hc : (_ : Bool) = _) => ?_); (try simp only [xA, xB, xC, xD, xE, xF, xG, xH, reduceCtorEq, xI, xJ, xK, xL, xM, xN, xO, xP, xQ, xR] at hc); (try (have hx : True := hc; clear hx hc)); (try (exfalso; omega)); (try (with_reducible (exact absurd hc (by assumption)))); (try (with_reducible (exact absurd (by assumption) hc)))) | ((with_reducible show ACall _ _ _ _ _); (first | ((with_reducible (first | apply hval)) <;> (first | omega | assumption | exact rfl | ((simp (disch := first | omega | (simp only [yA, yB, yC, yD, yE] <;> omega) | fail) [go_sem, yF, yG, yH, *, -List.map_take, -List.map_drop, -List.map_append, -List.map_reverse]) <;> (first | done | omega | exact rfl)))) | ((with_reducible (first | apply hless)) <;> (first | omega | assumption | exact rfl | ((simp (disch := first | omega | (simp only [yA, yB, yC, yD, yE] <;> omega) | fail) [go_sem, yF, yG, yH, *, -List.map_take, -List.map_drop, -List.map_append, -List.map_reverse]) <;> (first | done | omega | exact rfl)))))) | ((fail_if_success (with_reducible show ACall _ _ _ _ _)); (try (first | exact .inl rfl | (refine .inr ⟨rfl, ?_, ?_⟩; (focus (repeat (first | exact trivial | refine ⟨.inl rfl, ?_⟩ | refine ⟨.inr rfl, ?_⟩))); (first | exact trivial | exact rfl))))))))))
            exact ⟨⟨i + 1 + 1, by omega, (show ordF none L = _ from hv).trans (by rw [show _ = some u.1 from hnx]), by (simp (disch := omega) [go_sem, *]) <;> (try omega), by (simp (disch := omega) [go_sem, *]) <;> (try omega), by (simp (disch := omega) [go_sem, *]) <;> (try omega), by (simp (disch := omega) [go_sem, *]) <;> (try omega)⟩, by (simp (disch := omega) [go_sem, *]) <;> (try omega)⟩
    · have : j = L.length := by omega
      subst this
      rw [List.drop_length] at hv
      have hv : ordF none L = true := hv.trans (by cases (match L.length with | 0 => none | i + 1 => some (L[i]?.getD rtO).1 : Option Pf) <;> rfl)
      have he : validR L = decide ((L.length : Int) ≤ 16) := by rw [validR, hv, Bool.true_and]; simp; omega
      rw [he]
      clear he hfin
      replace hv : Hid _ := hv
      repeat' (first | (with_reducible (first | apply w_seq | apply w_region | apply w_block | apply w_skip | apply w_exit | apply w_ret | apply w_then | apply w_then_exit | apply w_then_ret | apply w_in | apply w_in_here | apply w_in_ret | apply w_round | apply o_nil | apply d_nil)) | ((with_reducible (first | apply w_in_exit)); rfl) | ((with_reducible (first | apply w_draw)); rfl) | ((first | ((with_reducible (first | apply o_op | apply d_op | apply q_op)); rfl; rfl) | ((with_reducible (first | apply w_cond | apply w_end | apply w_return))) | ((with_reducible (first | apply o_guard | apply d_guard | apply q_guard)); rfl)); all_goals (first | ((with_reducible show Is _ _); ((try simp (disch := first | omega | (simp only [yA, yB, yC, yD, yE] <;> omega) | fail) [go_sem, yF, yG, yH, *, if_pos, if_neg, -List.map_take, -List.map_drop, -List.map_append, -List.map_reverse]); exact rfl)) | ((fail_if_success (with_reducible show Is _ _)); (first | ((with_reducible refine fun (hc : (_ : Bool) = _) => ?_); (try simp only [xA, xB, xC, xD, xE, xF, xG, xH, reduceCtorEq, xI, xJ, xK, xL, xM, xN, xO, xP, xQ, xR] at hc); (try (have hx : True := hc; clear hx hc)); (try (exfalso; omega)); (try (with_reducible (exact absurd hc (by assumption)))); (try (with_reducible (exact absurd (by assumption) hc)))) | ((fail_if_success (with_reducible show ACall _ _ _ _ _)); (try (first | exact .inl rfl | (refine .inr ⟨rfl, ?_, ?_⟩; (focus (repeat (first | exact trivial | refine ⟨.inl rfl, ?_⟩ | refine ⟨.inr rfl, ?_⟩))); (first | exact trivial | exact rfl))))))))))
      rfl
theorem rvalid14_at {B : List Box} {args : List CV} {L : List Rt} (hz : Is (omap (fz true false B 6) args) (some [rl rtC L])) (hL : ∀ t ∈ L, RtL t) (hl : L.length < 100000000) : ACall Try.prog 31 args B fun c B' => c = .bool (validR L) ∧ B' = B := acall_fresh hz (rvalid14_in L hL hl)
end Go.Proofs.Ytmcnajknmoldpaa
