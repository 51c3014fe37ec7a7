import Derived.Test.YtmcnajknmoldpaaEE
namespace Go.Proofs.Ytmcnajknmoldpaa
open Go Go.Sy
set_option linter.all false
set_option maxRecDepth 100000
set_option maxHeartbeats 4000000
theorem ad_drawn {B : List Box} {β : Nat} {l : List UInt8} {a : Nat} (hB : B[β]? = some (cb l a)) (hl : a ≤ l.length ∧ l.length < 1000000) :
    ∃ (q : Ad) (a2 : Nat) (G : List Box), q.2.length = 16 ∧ okA q.1 q.2 = true ∧ a2 ≤ l.length ∧ ∀ args, Is args [.ptr β 0] → ACall Try.prog 11 args B fun c B' => c = .agg (adC q) ∧ B' = B.set β (cb l a2) ++ G :=
  ⟨(adSix l a, adIP l a), adA l a, adG l a, adIP_len l a, okA_ad l a, adA_le hl.1, fun args h => addr_at h hB hl⟩
theorem best_pos {L : List Rt} {a : Ad} {d : Nat} {x : List UInt8} (h : bestF L a = some (d, x)) : ∃ r ∈ L, contP r a = true ∧ d = r.1.2.toNat ∧ x = r.2 := by
  have key : ∀ (L : List Rt) (o : Option (Nat × List UInt8)), L.foldl (bstep a) o = some (d, x) → (∃ r ∈ L, contP r a = true ∧ d = r.1.2.toNat ∧ x = r.2) ∨ o = some (d, x) := by
    intro L
    induction L with
    | nil => intro o h; exact .inr h
    | cons r L ih =>
      intro o h
      rw [List.foldl_cons] at h
      rcases ih _ h with ⟨r', h1, h2⟩ | h1
      · exact .inl ⟨r', by simp [h1], h2⟩
      · unfold bstep at h1
        split at h1
        · rename_i hc
          rw [Bool.and_eq_true] at hc
          simp only [Option.some.injEq, Prod.mk.injEq] at h1
          exact .inl ⟨r, by simp, hc.1, h1.1.symm, h1.2.symm⟩
        · exact .inr h1
  rcases key L none h with h | h
  · exact h
  · cases h
def mostF : Option (Nat × List UInt8) → Int × List UInt8
  | none => (-1, List.replicate 32 0)
  | some (d, x) => (d, x)
theorem most_step {a : Ad} {o : Option (Nat × List UInt8)} {r : Rt} (hp : contP r a = true → 0 ≤ r.1.2) : mostF (bstep a o r) = if contP r a && decide (r.1.2 > (mostF o).1) then (r.1.2, r.2) else mostF o := by
  unfold bstep
  cases hc : contP r a with
  | false => rfl
  | true =>
    have hp := hp hc
    have e0 : ((r.1.2.toNat : Nat) : Int) = r.1.2 := Int.toNat_of_nonneg hp
    cases o with
    | none =>
      have h1 : decide (r.1.2 > (mostF none).1) = true := decide_eq_true (by show r.1.2 > -1; omega)
      rw [h1]
      show ((r.1.2.toNat : Int), r.2) = _
      rw [e0]; rfl
    | some dx =>
      obtain ⟨d, x⟩ := dx
      by_cases h : r.1.2 > d
      · have h1 : decide (r.1.2 > (mostF (some (d, x))).1) = true := decide_eq_true h
        have h2 : deeper (some (d, x)) r.1.2.toNat = false := decide_eq_false (by omega)
        rw [h1, h2]
        show ((r.1.2.toNat : Int), r.2) = _
        rw [e0]; rfl
      · have h1 : decide (r.1.2 > (mostF (some (d, x))).1) = false := decide_eq_false h
        have h2 : deeper (some (d, x)) r.1.2.toNat = true := decide_eq_true (by omega)
        rw [h1, h2]; rfl
theorem most_len {L : List Rt} {a : Ad} (hL : ∀ r ∈ L, RtL r) : (mostF (bestF L a)).2.length = 32 := by
  cases hb : bestF L a with
  | none => rfl
  | some dx =>
    obtain ⟨d, x⟩ := dx
    obtain ⟨r, hr, _, _, hx⟩ := best_pos hb
    rw [mostF, hx]; exact (hL r hr).2
theorem RoutesLongest_in (codes more : List UInt8) (hcl : codes.length ≤ maxLen) (hml : more.length ≤ maxLen) :
    PC Try.prog true 4 [lb codes, lb more] (.bool true) := by
  have hm' : (maxLen : Nat) = 9223372036854775807 := by rfl
  have hmade : ∀ (B : List Box) (args : List CV), Is (omap (fz true false [] 6) args) (some [lb codes]) → ACall Try.prog 9 args B fun c B' => (∃ L, RG L ∧ L.length ≤ 10 ∧ c = rl rtC L) ∧ B' = B := fun B args h => made14_at h (by omega)
  have hnew : ∀ (args : List CV), Is args [.lst more.length (more.map byteC) false, .int .i64 30] → ACall Try.prog 10 args [] fun c B' => c = .ptr 0 0 ∧ B' = [cb (more.take 30) 0] := fun args h => new_at (n := 30) h (by omega)
  have hl30 : (more.take 30).length ≤ 30 := List.length_take_le _ _
  generalize more.take 30 = l at *
  obtain ⟨a, a2, G, haL, haok, ha2, had⟩ := ad_drawn (B := [cb l 0]) (β := 0) (l := l) (a := 0) rfl ⟨by omega, by omega⟩
  have had : ∀ args, Is args [.ptr 0 0] → ACall Try.prog 11 args [cb l 0] fun c B' => c = .agg (adC a) ∧ B' = cb l a2 :: G := had
  have hla := adC_len haL
  have hta : (adC a).take 17 = adC a := List.take_of_length_le (by omega)
  have hda : (adC a).drop 17 = [] := List.drop_eq_nil_of_le (by omega)
  have hadm : ∀ (nz fr : Bool) (B : List Box) (k : Nat), omap (fz nz fr B (k + 1)) (adC a) = some (adC a) := fun _ _ _ _ => by simp [adC, go_sem]
  refine acall_intro mixed Try.func4 rfl ca4 (by kernel_rfl) (by rw [Try.ntmps4]; simp) ?_
  repeat' (first | (with_reducible (first | apply w_seq | apply w_region | apply w_block | apply w_skip | apply w_exit | apply w_ret | apply w_then | apply w_then_exit | apply w_then_ret | apply w_in | apply w_in_here | apply w_in_ret | apply w_round | apply o_nil | apply d_nil)) | ((with_reducible (first | apply w_in_exit)); rfl) | ((with_reducible (first | apply w_draw)); rfl) | ((first | ((with_reducible (first | apply o_op | apply d_op | apply q_op)); rfl; rfl) | ((with_reducible (first | apply w_cond | apply w_end | apply w_return))) | ((with_reducible (first | apply o_guard | apply d_guard | apply q_guard)); rfl)); all_goals (first | ((with_reducible show Is _ _); ((try simp (disch := first | omega | (simp only [yA, yB, yC, yD, yE] <;> omega) | fail) [go_sem, yF, yG, yH, *, lb, omap_bytes, if_pos, if_neg, -List.map_take, -List.map_drop, -List.map_append, -List.map_reverse]); exact rfl)) | ((fail_if_success (with_reducible show Is _ _)); (first | ((with_reducible refine fun (hc : (_ : Bool) = _) => ?_); (try simp only [xA, xB, xC, xD, xE, xF, xG, xH, reduceCtorEq, xI, xJ, xK, xL, xM, xN, xO, xP, xQ, xR] at hc); (try (have hx : True := hc; clear hx hc)); (try (exfalso; omega)); (try (with_reducible (exact absurd hc (by assumption)))); (try (with_reducible (exact absurd (by assumption) hc)))) | ((fail_if_success (with_reducible show ACall _ _ _ _ _)); (try (first | exact .inl rfl | (refine .inr ⟨rfl, ?_, ?_⟩; (focus (repeat (first | exact trivial | refine ⟨.inl rfl, ?_⟩ | refine ⟨.inr rfl, ?_⟩))); (first | exact trivial | exact rfl))))))))) | (((with_reducible (first | apply o_callQ | apply q_callQ)); rfl); (iterate 2 ((try simp (disch := first | omega | (simp only [yA, yB, yC, yD, yE] <;> omega) | fail) [go_sem, yF, yG, yH, *, lb, omap_bytes, if_pos, if_neg, -List.map_take, -List.map_drop, -List.map_append, -List.map_reverse]); exact rfl)); (first | ((with_reducible (first | apply hmade)) <;> (first | omega | assumption | exact rfl | ((simp (disch := first | omega | (simp only [yA, yB, yC, yD, yE] <;> omega) | fail) [go_sem, yF, yG, yH, *, lb, omap_bytes, -List.map_take, -List.map_drop, -List.map_append, -List.map_reverse]) <;> (first | done | omega | exact rfl)))))))
  rintro c B ⟨⟨L, hL, hLl, rfl⟩, rfl⟩
  clear hmade hm' hcl
  have hlk : ∀ (B : List Box) (args : List CV), Is (omap (fz true false B 6) args) (some [rl rtC L, .agg (adC a)]) → ACall Try.prog 12 args B fun c B' => c = .tup [.agg ((mostF (bestF L a)).2.map byteC), .bool (decide (0 ≤ (mostF (bestF L a)).1))] ∧ B' = B := fun B args h => by
    have := lookup_at h hL.good (by omega) haL
    rw [look_same hL.good haL] at this
    cases hb : bestF L a with
    | none => rw [hb] at this; exact this
    | some dx =>
      obtain ⟨d, x⟩ := dx
      rw [hb] at this
      have e : decide (0 ≤ (mostF (some (d, x))).1) = true := decide_eq_true (by simp [mostF])
      rw [e]; exact this
  have hkl := most_len (a := a) hL.len
  obtain ⟨fin, hfe⟩ : ∃ fin, mostF (bestF L a) = fin := ⟨_, rfl⟩
  rw [hfe] at hkl
  simp only [hfe] at hlk
  obtain ⟨f1, f2, f3⟩ := kmid hkl
  replace hfe : Hid _ := hfe
  replace hL : Hid _ := hL
  repeat' (first | (with_reducible (first | apply w_seq | apply w_region | apply w_block | apply w_skip | apply w_exit | apply w_ret | apply w_then | apply w_then_exit | apply w_then_ret | apply w_in | apply w_in_here | apply w_in_ret | apply w_round | apply o_nil | apply d_nil)) | ((with_reducible (first | apply w_in_exit)); rfl) | ((with_reducible (first | apply w_draw)); rfl) | ((first | ((with_reducible (first | apply o_op | apply d_op | apply q_op)); rfl; rfl) | ((with_reducible (first | apply w_cond | apply w_end | apply w_return))) | ((with_reducible (first | apply o_guard | apply d_guard | apply q_guard)); rfl) | ((with_reducible (first | apply o_call_eq | apply d_call | apply q_call)); rfl)); all_goals (first | ((with_reducible show Is _ _); ((try simp (disch := first | omega | (simp only [yA, yB, yC, yD, yE] <;> omega) | fail) [go_sem, yF, yG, yH, *, lb, rl, omap_bytes, if_pos, if_neg, -List.map_take, -List.map_drop, -List.map_append, -List.map_reverse]); exact rfl)) | ((fail_if_success (with_reducible show Is _ _)); (first | ((with_reducible refine fun (hc : (_ : Bool) = _) => ?_); (try simp only [xA, xB, xC, xD, xE, xF, xG, xH, reduceCtorEq, xI, xJ, xK, xL, xM, xN, xO, xP, xQ, xR] at hc); (try (have hx : True := hc; clear hx hc)); (try (exfalso; omega)); (try (with_reducible (exact absurd hc (by assumption)))); (try (with_reducible (exact absurd (by assumption) hc)))) | ((with_reducible show ACall _ _ _ _ _); (first | ((with_reducible (first | apply hnew)) <;> (first | omega | assumption | exact rfl | ((simp (disch := first | omega | (simp only [yA, yB, yC, yD, yE] <;> omega) | fail) [go_sem, yF, yG, yH, *, lb, rl, omap_bytes, -List.map_take, -List.map_drop, -List.map_append, -List.map_reverse]) <;> (first | done | omega | exact rfl)))) | ((with_reducible (first | apply had)) <;> (first | omega | assumption | exact rfl | ((simp (disch := first | omega | (simp only [yA, yB, yC, yD, yE] <;> omega) | fail) [go_sem, yF, yG, yH, *, lb, rl, omap_bytes, -List.map_take, -List.map_drop, -List.map_append, -List.map_reverse]) <;> (first | done | omega | exact rfl)))) | ((with_reducible (first | apply hlk)) <;> (first | omega | assumption | exact rfl | ((simp (disch := first | omega | (simp only [yA, yB, yC, yD, yE] <;> omega) | fail) [go_sem, yF, yG, yH, *, lb, rl, omap_bytes, -List.map_take, -List.map_drop, -List.map_append, -List.map_reverse]) <;> (first | done | omega | exact rfl)))))) | ((fail_if_success (with_reducible show ACall _ _ _ _ _)); (try (first | exact .inl rfl | (refine .inr ⟨rfl, ?_, ?_⟩; (focus (repeat (first | exact trivial | refine ⟨.inl rfl, ?_⟩ | refine ⟨.inr rfl, ?_⟩))); (first | exact trivial | exact rfl))))))))))
  clear had hlk hnew
  have kl := cells_all (f := rtC) (z := 50) (L := L) (rtl_len (RG.len hL))
  have hcall : ∀ (u : Rt), RtL u → ∀ (B : List Box) (args : List CV), Is (omap (fz true false B 6) args) (some [.agg (pfC u.1), .agg (adC a)]) → ACall Try.prog 15 args B fun c B' => c = .bool (contP u a) ∧ B' = B := fun u hu B args h => rCont_pf h hu.1 haL
  have hfin : mostF (bestF (L.take L.length) a) = fin := by rw [List.take_length]; exact hfe
  obtain ⟨cs, hcs⟩ : ∃ cs, L.flatMap rtC = cs := ⟨_, rfl⟩
  obtain ⟨ac, hac⟩ : ∃ ac, adC a = ac := ⟨_, rfl⟩
  rw [hcs] at kl
  rw [hac] at hla hta hda hadm
  simp only [hac] at hcall
  replace kl : Hid _ := kl
  replace hcall : Hid _ := hcall
  replace hfin : Hid _ := hfin
  clear hfe
  refine w_loop (fun fr X => ∃ (j i6 i7 i10 : Nat), j ≤ L.length ∧ i6 ≠ i10 ∧ i7 ≠ i10 ∧ fr 27 = .int .i64 j ∧ fr 26 = .int .i64 L.length ∧ fr 25 = .lst L.length cs false ∧ fr 6 = .ptr i6 0 ∧ fr 7 = .ptr i7 0 ∧ fr 10 = .ptr i10 0 ∧ fr 8 = .bool (decide (0 ≤ fin.1)) ∧ fr 9 = .int .i64 (mostF (bestF (L.take j) a)).1 ∧
    X[i6]? = some ⟨ac, false⟩ ∧ X[i7]? = some ⟨fin.2.map byteC, false⟩ ∧ X[i10]? = some ⟨(mostF (bestF (L.take j) a)).2.map byteC, false⟩) (fun fr _ => L.length - natOf (fr 27)) ?_ ?_
  · refine ⟨0, G.length + 1, G.length + 1 + 1, G.length + 1 + 1 + 1, by omega, by omega, by omega, by (simp (disch := omega) [go_sem, *]) <;> (try omega), by (simp (disch := omega) [go_sem, *]) <;> (try omega), by rw [← hcs]; (simp (disch := omega) [go_sem, *]) <;> (try omega), by (simp (disch := omega) [go_sem, *]) <;> (try omega), by (simp (disch := omega) [go_sem, *]) <;> (try omega), by (simp (disch := omega) [go_sem, *]) <;> (try omega), by (simp (disch := omega) [go_sem, *]) <;> (try omega), by (simp (disch := omega) [go_sem, *, mostF, bestF]) <;> (try omega), by rw [← hac]; simp, by simp, by simp; rfl⟩
  · rintro fr X ⟨j, i6, i7, i10, hj, hd1, hd2, h27, h26, h25, h6, h7, h10, h8, h9, x6, x7, x10⟩
    by_cases hc : j < L.length
    · obtain ⟨b1, b2⟩ := (show Cells rtC 50 cs L from kl) j hc
      have hg := (show RG L from hL).good L[j] (List.getElem_mem hc)
      have hu : RtL L[j] := ⟨hg.1, hg.2.1⟩
      obtain ⟨u1, u2, u3, u4, u5, u6⟩ := rt_more hu.1 hu.2
      obtain ⟨v1, v2, v3, v4, v5, v6⟩ := pf_parts (p := (L[j]).1) hu.1
      have w17 : (rtC L[j])[17]? = some (.int .i64 L[j].1.2) := (rt_parts hu.1 hu.2).2.1
      have w18 : ((rtC L[j]).drop 17).head? = some (.int .i64 L[j].1.2) := (rt_parts hu.1 hu.2).2.2.1
      have hct := (show ∀ (u : Rt), RtL u → ∀ (B : List Box) (args : List CV), Is (omap (fz true false B 6) args) (some [.agg (pfC u.1), .agg ac]) → ACall Try.prog 15 args B fun c B' => c = .bool (contP u a) ∧ B' = B from hcall) _ hu
      have hn : mostF (bestF (L.take (j + 1)) a) = if contP L[j] a && decide (L[j].1.2 > (mostF (bestF (L.take j) a)).1) then (L[j].1.2, L[j].2) else mostF (bestF (L.take j) a) := by
        rw [best_next hc]
        exact most_step fun h => by
          simp only [contP, cont, Bool.and_eq_true] at h
          exact (vld_range h.1).1
      have hml2 := most_len (a := a) (L := L.take j) fun r hr => (show RG L from hL).len r (List.mem_of_mem_take hr)
      generalize mostF (bestF (L.take j) a) = mo at *
      obtain ⟨mi, mk⟩ := mo
      dsimp only at h9 x10 hml2 hn
      have hx := bx_pack x6
      have hy := bx_pack x7
      have hz := bx_pack x10
      have hZ1 : (mk.map byteC).drop 32 = [] := List.drop_eq_nil_of_le (by simp [hml2])
      have hZ2 : (mk.map byteC).length = 32 := by simp [hml2]
      have hU2 : ((L[j]).2.map byteC).length = 32 := by simp [hu.2]
      generalize L[j] = u at *
      cases hcp : contP u a with
      | false =>
        rw [hcp] at hct hn
        replace hn : mostF (bestF (L.take (j + 1)) a) = (mi, mk) := hn
        repeat' (first | (with_reducible (first | apply w_seq | apply w_region | apply w_block | apply w_skip | apply w_exit | apply w_ret | apply w_then | apply w_then_exit | apply w_then_ret | apply w_in | apply w_in_here | apply w_in_ret | apply w_round | apply o_nil | apply d_nil)) | ((with_reducible (first | apply w_in_exit)); rfl) | ((with_reducible (first | apply w_draw)); rfl) | ((first | ((with_reducible (first | apply o_op | apply d_op | apply q_op)); rfl; rfl) | ((with_reducible (first | apply w_cond | apply w_end | apply w_return))) | ((with_reducible (first | apply o_guard | apply d_guard | apply q_guard)); rfl) | ((with_reducible (first | apply o_call_eq | apply d_call | apply q_call)); rfl)); all_goals (first | ((with_reducible show Is _ _); ((try simp (disch := first | omega | (simp only [yA, yB, yC, yD, yE] <;> omega) | fail) [go_sem, yF, yG, yH, *, if_pos, if_neg, -List.map_take, -List.map_drop, -List.map_append, -List.map_reverse]); exact rfl)) | ((fail_if_success (with_reducible show Is _ _)); (first | ((with_reducible refine fun (hc : (_ : Bool) = _) => ?_); (try simp only [xA, xB, xC, xD, xE, xF, xG, xH, reduceCtorEq, xI, xJ, xK, xL, xM, xN, xO, xP, xQ, xR] at hc); (try (have hx : True := hc; clear hx hc)); (try (exfalso; omega)); (try (with_reducible (exact absurd hc (by assumption)))); (try (with_reducible (exact absurd (by assumption) hc)))) | ((with_reducible show ACall _ _ _ _ _); (first | ((with_reducible (first | apply hct)) <;> (first | omega | assumption | exact rfl | ((simp (disch := first | omega | (simp only [yA, yB, yC, yD, yE] <;> omega) | fail) [go_sem, yF, yG, yH, *, -List.map_take, -List.map_drop, -List.map_append, -List.map_reverse]) <;> (first | done | omega | exact rfl)))))) | ((fail_if_success (with_reducible show ACall _ _ _ _ _)); (try (first | exact .inl rfl | (refine .inr ⟨rfl, ?_, ?_⟩; (focus (repeat (first | exact trivial | refine ⟨.inl rfl, ?_⟩ | refine ⟨.inr rfl, ?_⟩))); (first | exact trivial | exact rfl))))))))))
        exact ⟨⟨j + 1, i6, i7, i10, by omega, hd1, hd2, by (simp (disch := omega) [go_sem, *]) <;> (try omega), by (simp (disch := omega) [go_sem, *]) <;> (try omega), by (simp (disch := omega) [go_sem, *]) <;> (try omega), by (simp (disch := omega) [go_sem, *]) <;> (try omega), by (simp (disch := omega) [go_sem, *]) <;> (try omega), by (simp (disch := omega) [go_sem, *]) <;> (try omega), by (simp (disch := omega) [go_sem, *]) <;> (try omega), by rw [hn]; (simp (disch := omega) [go_sem, *]) <;> (try omega), hx.1 _, hy.1 _, by rw [hn]; exact hz.1 _⟩, by (simp (disch := omega) [go_sem, *]) <;> (try omega)⟩
      | true =>
        rw [hcp, Bool.true_and] at hn
        rw [hcp] at hct
        by_cases hgt : u.1.2 > mi
        · rw [decide_eq_true hgt] at hn
          replace hn : mostF (bestF (L.take (j + 1)) a) = (u.1.2, u.2) := hn
          repeat' (first | (with_reducible (first | apply w_seq | apply w_region | apply w_block | apply w_skip | apply w_exit | apply w_ret | apply w_then | apply w_then_exit | apply w_then_ret | apply w_in | apply w_in_here | apply w_in_ret | apply w_round | apply o_nil | apply d_nil)) | ((with_reducible (first | apply w_in_exit)); rfl) | ((with_reducible (first | apply w_draw)); rfl) | ((first | ((with_reducible (first | apply o_op | apply d_op | apply q_op)); rfl; rfl) | ((with_reducible (first | apply w_cond | apply w_end | apply w_return))) | ((with_reducible (first | apply o_guard | apply d_guard | apply q_guard)); rfl) | ((with_reducible (first | apply o_call_eq | apply d_call | apply q_call)); rfl)); all_goals (first | ((with_reducible show Is _ _); ((try simp (disch := first | omega | (simp only [yA, yB, yC, yD, yE] <;> omega) | fail) [go_sem, yF, yG, yH, *, if_pos, if_neg, -List.map_take, -List.map_drop, -List.map_append, -List.map_reverse]); exact rfl)) | ((fail_if_success (with_reducible show Is _ _)); (first | ((with_reducible refine fun (hc : (_ : Bool) = _) => ?_); (try simp only [xA, xB, xC, xD, xE, xF, xG, xH, reduceCtorEq, xI, xJ, xK, xL, xM, xN, xO, xP, xQ, xR] at hc); (try (have hx : True := hc; clear hx hc)); (try (exfalso; omega)); (try (with_reducible (exact absurd hc (by assumption)))); (try (with_reducible (exact absurd (by assumption) hc)))) | ((with_reducible show ACall _ _ _ _ _); (first | ((with_reducible (first | apply hct)) <;> (first | omega | assumption | exact rfl | ((simp (disch := first | omega | (simp only [yA, yB, yC, yD, yE] <;> omega) | fail) [go_sem, yF, yG, yH, *, -List.map_take, -List.map_drop, -List.map_append, -List.map_reverse]) <;> (first | done | omega | exact rfl)))))) | ((fail_if_success (with_reducible show ACall _ _ _ _ _)); (try (first | exact .inl rfl | (refine .inr ⟨rfl, ?_, ?_⟩; (focus (repeat (first | exact trivial | refine ⟨.inl rfl, ?_⟩ | refine ⟨.inr rfl, ?_⟩))); (first | exact trivial | exact rfl))))))))))
          refine ⟨⟨j + 1, i6, i7, i10, by omega, hd1, hd2, by (simp (disch := omega) [go_sem, *]) <;> (try omega), by (simp (disch := omega) [go_sem, *]) <;> (try omega), by (simp (disch := omega) [go_sem, *]) <;> (try omega), by (simp (disch := omega) [go_sem, *]) <;> (try omega), by (simp (disch := omega) [go_sem, *]) <;> (try omega), by (simp (disch := omega) [go_sem, *]) <;> (try omega), by (simp (disch := omega) [go_sem, *]) <;> (try omega), by rw [hn]; (simp (disch := omega) [go_sem, *]) <;> (try omega), ?_, ?_, by rw [hn]; exact hz.2.2.2.1 _ _⟩, by (simp (disch := omega) [go_sem, *]) <;> (try omega)⟩
          · rw [List.getElem?_append_left (by rw [List.length_set]; exact (List.getElem?_eq_some_iff.1 x6).1), List.getElem?_set_ne (Ne.symm hd1)]; exact x6
          · rw [List.getElem?_append_left (by rw [List.length_set]; exact (List.getElem?_eq_some_iff.1 x7).1), List.getElem?_set_ne (Ne.symm hd2)]; exact x7
        · rw [decide_eq_false hgt] at hn
          replace hn : mostF (bestF (L.take (j + 1)) a) = (mi, mk) := hn
          repeat' (first | (with_reducible (first | apply w_seq | apply w_region | apply w_block | apply w_skip | apply w_exit | apply w_ret | apply w_then | apply w_then_exit | apply w_then_ret | apply w_in | apply w_in_here | apply w_in_ret | apply w_round | apply o_nil | apply d_nil)) | ((with_reducible (first | apply w_in_exit)); rfl) | ((with_reducible (first | apply w_draw)); rfl) | ((first | ((with_reducible (first | apply o_op | apply d_op | apply q_op)); rfl; rfl) | ((with_reducible (first | apply w_cond | apply w_end | apply w_return))) | ((with_reducible (first | apply o_guard | apply d_guard | apply q_guard)); rfl) | ((with_reducible (first | apply o_call_eq | apply d_call | apply q_call)); rfl)); all_goals (first | ((with_reducible show Is _ _); ((try simp (disch := first | omega | (simp only [yA, yB, yC, yD, yE] <;> omega) | fail) [go_sem, yF, yG, yH, *, if_pos, if_neg, -List.map_take, -List.map_drop, -List.map_append, -List.map_reverse]); exact rfl)) | ((fail_if_success (with_reducible show Is _ _)); (first | ((with_reducible refine fun (hc : (_ : Bool) = _) => ?_); (try simp only [xA, xB, xC, xD, xE, xF, xG, xH, reduceCtorEq, xI, xJ, xK, xL, xM, xN, xO, xP, xQ, xR] at hc); (try (have hx : True := hc; clear hx hc)); (try (exfalso; omega)); (try (with_reducible (exact absurd hc (by assumption)))); (try (with_reducible (exact absurd (by assumption) hc)))) | ((with_reducible show ACall _ _ _ _ _); (first | ((with_reducible (first | apply hct)) <;> (first | omega | assumption | exact rfl | ((simp (disch := first | omega | (simp only [yA, yB, yC, yD, yE] <;> omega) | fail) [go_sem, yF, yG, yH, *, -List.map_take, -List.map_drop, -List.map_append, -List.map_reverse]) <;> (first | done | omega | exact rfl)))))) | ((fail_if_success (with_reducible show ACall _ _ _ _ _)); (try (first | exact .inl rfl | (refine .inr ⟨rfl, ?_, ?_⟩; (focus (repeat (first | exact trivial | refine ⟨.inl rfl, ?_⟩ | refine ⟨.inr rfl, ?_⟩))); (first | exact trivial | exact rfl))))))))))
          exact ⟨⟨j + 1, i6, i7, i10, by omega, hd1, hd2, by (simp (disch := omega) [go_sem, *]) <;> (try omega), by (simp (disch := omega) [go_sem, *]) <;> (try omega), by (simp (disch := omega) [go_sem, *]) <;> (try omega), by (simp (disch := omega) [go_sem, *]) <;> (try omega), by (simp (disch := omega) [go_sem, *]) <;> (try omega), by (simp (disch := omega) [go_sem, *]) <;> (try omega), by (simp (disch := omega) [go_sem, *]) <;> (try omega), by rw [hn]; (simp (disch := omega) [go_sem, *]) <;> (try omega), hx.1 _, hy.1 _, by rw [hn]; exact hz.1 _⟩, by (simp (disch := omega) [go_sem, *]) <;> (try omega)⟩
    · obtain rfl : j = L.length := by omega
      rw [show mostF (bestF (L.take L.length) a) = fin from hfin] at h9 x10
      have he := key_eqV hkl hkl
      rw [beq_self_eq_true] at he
      by_cases hp : 0 ≤ fin.1
      · rw [decide_eq_true hp] at h8
        repeat' (first | (with_reducible (first | apply w_seq | apply w_region | apply w_block | apply w_skip | apply w_exit | apply w_ret | apply w_then | apply w_then_exit | apply w_then_ret | apply w_in | apply w_in_here | apply w_in_ret | apply w_round | apply o_nil | apply d_nil)) | ((with_reducible (first | apply w_in_exit)); rfl) | ((with_reducible (first | apply w_draw)); rfl) | ((first | ((with_reducible (first | apply o_op | apply d_op | apply q_op)); rfl; rfl) | ((with_reducible (first | apply w_cond | apply w_end | apply w_return))) | ((with_reducible (first | apply o_guard | apply d_guard | apply q_guard)); rfl) | ((with_reducible (first | apply o_call_eq | apply d_call | apply q_call)); rfl)); all_goals (first | ((with_reducible show Is _ _); ((try simp (disch := first | omega | (simp only [yA, yB, yC, yD, yE] <;> omega) | fail) [go_sem, yF, yG, yH, *, if_pos, if_neg, -List.map_take, -List.map_drop, -List.map_append, -List.map_reverse]); exact rfl)) | ((fail_if_success (with_reducible show Is _ _)); (first | ((with_reducible refine fun (hc : (_ : Bool) = _) => ?_); (try simp only [xA, xB, xC, xD, xE, xF, xG, xH, reduceCtorEq, xI, xJ, xK, xL, xM, xN, xO, xP, xQ, xR] at hc); (try (have hx : True := hc; clear hx hc)); (try (exfalso; omega)); (try (with_reducible (exact absurd hc (by assumption)))); (try (with_reducible (exact absurd (by assumption) hc)))) | ((with_reducible show ACall _ _ _ _ _); (first | ((with_reducible (first | apply begun14_at)) <;> (first | omega | assumption | exact rfl | ((simp (disch := first | omega | (simp only [yA, yB, yC, yD, yE] <;> omega) | fail) [go_sem, yF, yG, yH, *, -List.map_take, -List.map_drop, -List.map_append, -List.map_reverse]) <;> (first | done | omega | exact rfl)))))) | ((fail_if_success (with_reducible show ACall _ _ _ _ _)); (try (first | exact .inl rfl | (refine .inr ⟨rfl, ?_, ?_⟩; (focus (repeat (first | exact trivial | refine ⟨.inl rfl, ?_⟩ | refine ⟨.inr rfl, ?_⟩))); (first | exact trivial | exact rfl))))))))))
        all_goals rfl
      · rw [decide_eq_false hp] at h8
        repeat' (first | (with_reducible (first | apply w_seq | apply w_region | apply w_block | apply w_skip | apply w_exit | apply w_ret | apply w_then | apply w_then_exit | apply w_then_ret | apply w_in | apply w_in_here | apply w_in_ret | apply w_round | apply o_nil | apply d_nil)) | ((with_reducible (first | apply w_in_exit)); rfl) | ((with_reducible (first | apply w_draw)); rfl) | ((first | ((with_reducible (first | apply o_op | apply d_op | apply q_op)); rfl; rfl) | ((with_reducible (first | apply w_cond | apply w_end | apply w_return))) | ((with_reducible (first | apply o_guard | apply d_guard | apply q_guard)); rfl) | ((with_reducible (first | apply o_call_eq | apply d_call | apply q_call)); rfl)); all_goals (first | ((with_reducible show Is _ _); ((try simp (disch := first | omega | (simp only [yA, yB, yC, yD, yE] <;> omega) | fail) [go_sem, yF, yG, yH, *, if_pos, if_neg, -List.map_take, -List.map_drop, -List.map_append, -List.map_reverse]); exact rfl)) | ((fail_if_success (with_reducible show Is _ _)); (first | ((with_reducible refine fun (hc : (_ : Bool) = _) => ?_); (try simp only [xA, xB, xC, xD, xE, xF, xG, xH, reduceCtorEq, xI, xJ, xK, xL, xM, xN, xO, xP, xQ, xR] at hc); (try (have hx : True := hc; clear hx hc)); (try (exfalso; omega)); (try (with_reducible (exact absurd hc (by assumption)))); (try (with_reducible (exact absurd (by assumption) hc)))) | ((with_reducible show ACall _ _ _ _ _); (first | ((with_reducible (first | apply begun14_at)) <;> (first | omega | assumption | exact rfl | ((simp (disch := first | omega | (simp only [yA, yB, yC, yD, yE] <;> omega) | fail) [go_sem, yF, yG, yH, *, -List.map_take, -List.map_drop, -List.map_append, -List.map_reverse]) <;> (first | done | omega | exact rfl)))))) | ((fail_if_success (with_reducible show ACall _ _ _ _ _)); (try (first | exact .inl rfl | (refine .inr ⟨rfl, ?_, ?_⟩; (focus (repeat (first | exact trivial | refine ⟨.inl rfl, ?_⟩ | refine ⟨.inr rfl, ?_⟩))); (first | exact trivial | exact rfl))))))))))
        all_goals rfl
end Go.Proofs.Ytmcnajknmoldpaa
