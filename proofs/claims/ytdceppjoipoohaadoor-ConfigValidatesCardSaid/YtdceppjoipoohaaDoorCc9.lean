/- Lemmas and definitions of this claim (own texts, joined by a program; what the claim does not use is left out). -/
import Derived.Test.YtdceppjoipoohaaDoorCc8
section
namespace Go.Proofs.YtdceppjoipoohaaDoor
open Go Go.Sy
set_option linter.all false
set_option maxRecDepth 100000
set_option maxHeartbeats 4000000
theorem right_in (p : Pe) (h : PeL p) (hl : p.2.2.2.2.2.length < 1000000) : PC Tryd.prog true 66 [.agg (peC p)] (.bool (okPe p)) := by
  obtain ⟨pu, sh, has, ep, kp, al⟩ := p
  obtain ⟨h1, h2, h3, h4, h5⟩ := h
  dsimp only at *
  have hal : ∀ a ∈ al, (pfC a).length = 18 := fun a ha => pfC_len (h5 a ha)
  have hcs := cells_all (f := pfC) (z := 18) (L := al) hal
  have hfe : ∀ {B : List Box} {args : List CV}, Is (omap (Go.Sy.fz true false B 6) args) (some [.agg (pfC ep)]) → ACall Tryd.prog 12 args B fun c B' => c = .str (fmtE ep.1.1 ep.1.2 ep.2) ∧ B' = B := fun hz => rfmtE_at (by exact hz) h3.1 h3.2
  have htm : ∀ {B : List Box} {args : List CV}, Is (omap (Go.Sy.fz true false B 6) args) (some [.int .i64 kp]) → ACall Tryd.prog 91 args B fun c B' => c = .bool (timed kp) ∧ B' = B := fun hz => acall_fresh hz (timed_in kp)
  have hfn := fmtE_nil ep
  have hel := pfC_len h3
  have ho : ∀ {nz fr : Bool} {B : List Box} {k : Nat}, omap (Go.Sy.fz nz fr B (k + 1)) (pfC ep) = some (pfC ep) := pf_om1 ep
  rw [okPe]
  dsimp only
  obtain ⟨d64, d65, d83, d84, -, -⟩ := pe_parts (p := (pu, sh, has, ep, kp, al)) ⟨h1, h2, h3, h4, h5⟩
  have hXl := peC_len (p := (pu, sh, has, ep, kp, al)) ⟨h1, h2, h3, h4, h5⟩
  dsimp only at d64 d65 d83 d84
  generalize peC (pu, sh, has, ep, kp, al) = X at *
  generalize al.flatMap pfC = Y at *
  obtain ⟨⟨e6, eA⟩, en⟩ := ep
  have hZ : ([.bool false, .int .u8 0, .int .u8 0, .int .u8 0, .int .u8 0, .int .u8 0, .int .u8 0, .int .u8 0, .int .u8 0, .int .u8 0, .int .u8 0, .int .u8 0, .int .u8 0, .int .u8 0, .int .u8 0, .int .u8 0, .int .u8 0, .int .i64 0] : List CV) = .bool false :: (z16.map byteC ++ [.int .i64 0]) := rfl
  have hz : z16.length = 16 := rfl
  have hO : (((e6, eA), en) == pfO) = ((e6 == false && eA == z16) && en == 0) := rfl
  rw [hO]
  clear hO hal
  obtain ⟨h31, h32⟩ := h3
  have h32a := h32.1
  have h32b := h32.2
  dsimp only at *
  generalize okEP ((e6, eA), en) = oe at *
  generalize fmtE e6 eA en = fe at *
  generalize z16 = Z at *
  generalize timed kp = tk at *
  rw [pfC] at *
  dsimp only at *
  simp only [List.cons_append] at *
  replace hcs : Hid _ := hcs
  replace h5 : Hid _ := h5
  refine acall_intro mixed Tryd.func66 rfl ca66 (by kernel_rfl) (by rw [Tryd.ntmps66]; simp) ?_
  cases has
  · clear hfn
    cases e6
    · by_cases hA : eA = Z
      · subst hA
        by_cases hn : en = 0
        · subst hn
          have hb : ((false == false && eA == eA) && ((0 : Int) == 0)) = true := by simp
          rw [if_neg (by decide), hb]
          clear hb
          cases tk
          · repeat' (first | (with_reducible first | apply jA | apply jB | apply jC | apply jD | apply jE | apply jF | apply jG | apply jH | apply jI | apply jJ | apply jK | apply jL | apply jM | apply jN | apply jO) | ((with_reducible first | apply jP | apply jQ); rfl) | ((first | ((with_reducible first | apply jR | apply jS | apply jT); rfl; rfl) | (with_reducible first | apply jU | apply jV | apply jW) | ((with_reducible first | apply jX | apply jY | apply jZ); rfl) | ((with_reducible first | apply kA | apply kB | apply kC); rfl)); all_goals (first | ((with_reducible show Is _ _); exact kE) | ((with_reducible refine fun (hc : (_ : Bool) = _) => ?_); (try simp only [xZ, xY, xP, reduceCtorEq] at hc); (try (have hx : True := hc; clear hx hc)); (try exact kX)) | ((with_reducible show ACall _ _ _ _ _); (first | ((with_reducible apply htm) <;> exact kD) | ((with_reducible apply hfe) <;> exact kD))) | ((fail_if_success (with_reducible first | show Is _ _ | show ACall _ _ _ _ _)); (try ((with_reducible show _ ∨ _); exact kT))))))
            rfl
          · repeat' (first | (with_reducible first | apply jA | apply jB | apply jC | apply jD | apply jE | apply jF | apply jG | apply jH | apply jI | apply jJ | apply jK | apply jL | apply jM | apply jN | apply jO) | ((with_reducible first | apply jP | apply jQ); rfl) | ((first | ((with_reducible first | apply jR | apply jS | apply jT); rfl; rfl) | (with_reducible first | apply jU | apply jV | apply jW) | ((with_reducible first | apply jX | apply jY | apply jZ); rfl) | ((with_reducible first | apply kA | apply kB | apply kC); rfl)); all_goals (first | ((with_reducible show Is _ _); exact kE) | ((with_reducible refine fun (hc : (_ : Bool) = _) => ?_); (try simp only [xZ, xY, xP, reduceCtorEq] at hc); (try (have hx : True := hc; clear hx hc)); (try exact kX)) | ((with_reducible show ACall _ _ _ _ _); (first | ((with_reducible apply htm) <;> exact kD) | ((with_reducible apply hfe) <;> exact kD))) | ((fail_if_success (with_reducible first | show Is _ _ | show ACall _ _ _ _ _)); (try ((with_reducible show _ ∨ _); exact kT))))))
            replace hcs : Cells pfC 18 Y al := hcs
            replace h5 : ∀ q ∈ al, PfL q := h5
            · refine w_loop (fun fr B => ∃ (j : Nat) (G : List Box), j ≤ al.length ∧ (al.take j).all vldP = true ∧ fr 33 = .int .i64 j ∧ fr 32 = .int .i64 al.length ∧ fr 31 = .lst al.length Y false ∧ B = ⟨X, false⟩ :: G) (fun fr _ => al.length - natOf (fr 33)) ?_ ?_
              · exact ⟨0, [], by omega, rfl, by (simp (disch := omega) [go_sem, *]) <;> (try omega), by (simp (disch := omega) [go_sem, *]) <;> (try omega), by (simp (disch := omega) [go_sem, *]) <;> (try omega), rfl⟩
              rintro fr B ⟨j, G, hj, hall, f33, f32, f31, rfl⟩
              have hm0 : natOf (fr 33) = j := by rw [f33]; rfl
              by_cases hc : j < al.length
              · obtain ⟨c1, c2⟩ := hcs j hc
                have hqL := h5 al[j] (List.getElem_mem hc)
                have hva : ∀ {B : List Box} {args : List CV}, Is (omap (Go.Sy.fz true false B 6) args) (some [.agg (pfC al[j])]) → ACall Tryd.prog 36 args B fun c B' => c = .bool (vldP al[j]) ∧ B' = B := fun hz => rValid_at (by exact hz) hqL.1
                have hql := pfC_len hqL
                have ho1 : ∀ {nz fr : Bool} {B : List Box} {k : Nat}, omap (Go.Sy.fz nz fr B (k + 1)) (pfC al[j]) = some (pfC al[j]) := pf_om1 _
                have hnx : (al.take (j + 1)).all vldP = vldP al[j] := by rw [List.take_succ_eq_append_getElem hc, List.all_append, hall]; simp
                have hno : vldP al[j] = false → al.all vldP = false := fun h => by
                  rw [List.all_eq_false]; exact ⟨_, List.getElem_mem hc, by simp [h]⟩
                generalize vldP al[j] = v at *
                generalize pfC al[j] = Q at *
                cases v
                · rw [hno rfl]
                  clear hno hnx hqL
                  repeat' (first | (with_reducible first | apply jA | apply jB | apply jC | apply jD | apply jE | apply jF | apply jG | apply jH | apply jI | apply jJ | apply jK | apply jL | apply jM | apply jN | apply jO) | ((with_reducible first | apply jP | apply jQ); rfl) | ((first | ((with_reducible first | apply jR | apply jS | apply jT); rfl; rfl) | (with_reducible first | apply jU | apply jV | apply jW) | ((with_reducible first | apply jX | apply jY | apply jZ); rfl) | ((with_reducible first | apply kA | apply kB | apply kC); rfl)); all_goals (first | ((with_reducible show Is _ _); exact kE) | ((with_reducible refine fun (hc : (_ : Bool) = _) => ?_); (try simp only [xZ, xY, xP, reduceCtorEq] at hc); (try (have hx : True := hc; clear hx hc)); (try exact kX)) | ((with_reducible show ACall _ _ _ _ _); (first | ((with_reducible apply hva) <;> exact kD))) | ((fail_if_success (with_reducible first | show Is _ _ | show ACall _ _ _ _ _)); (try ((with_reducible show _ ∨ _); exact kT))))))
                  rfl
                · clear hno
                  repeat' (first | (with_reducible first | apply jA | apply jB | apply jC | apply jD | apply jE | apply jF | apply jG | apply jH | apply jI | apply jJ | apply jK | apply jL | apply jM | apply jN | apply jO) | ((with_reducible first | apply jP | apply jQ); rfl) | ((first | ((with_reducible first | apply jR | apply jS | apply jT); rfl; rfl) | (with_reducible first | apply jU | apply jV | apply jW) | ((with_reducible first | apply jX | apply jY | apply jZ); rfl) | ((with_reducible first | apply kA | apply kB | apply kC); rfl)); all_goals (first | ((with_reducible show Is _ _); exact kE) | ((with_reducible refine fun (hc : (_ : Bool) = _) => ?_); (try simp only [xZ, xY, xP, reduceCtorEq] at hc); (try (have hx : True := hc; clear hx hc)); (try exact kX)) | ((with_reducible show ACall _ _ _ _ _); (first | ((with_reducible apply hva) <;> exact kD))) | ((fail_if_success (with_reducible first | show Is _ _ | show ACall _ _ _ _ _)); (try ((with_reducible show _ ∨ _); exact kT))))))
                  exact ⟨⟨j + 1, _, by omega, hnx, by (simp (disch := omega) [go_sem, *]) <;> (try omega), by (simp (disch := omega) [go_sem, *]) <;> (try omega), by (simp (disch := omega) [go_sem, *]) <;> (try omega), rfl⟩, by (simp (disch := omega) [go_sem, *]) <;> (try omega)⟩
              · obtain rfl : j = al.length := by omega
                rw [List.take_length] at hall
                rw [hall]
                repeat' (first | (with_reducible first | apply jA | apply jB | apply jC | apply jD | apply jE | apply jF | apply jG | apply jH | apply jI | apply jJ | apply jK | apply jL | apply jM | apply jN | apply jO) | ((with_reducible first | apply jP | apply jQ); rfl) | ((first | ((with_reducible first | apply jR | apply jS | apply jT); rfl; rfl) | (with_reducible first | apply jU | apply jV | apply jW) | ((with_reducible first | apply jX | apply jY | apply jZ); rfl)); all_goals (first | ((with_reducible show Is _ _); exact kE) | ((with_reducible refine fun (hc : (_ : Bool) = _) => ?_); (try simp only [xZ, xY, xP, reduceCtorEq] at hc); (try (have hx : True := hc; clear hx hc)); (try exact kX)) | ((fail_if_success (with_reducible first | show Is _ _ | show ACall _ _ _ _ _)); (try ((with_reducible show _ ∨ _); exact kT))))))
                rfl
        · have hb : ((false == false && eA == eA) && (en == 0)) = false := by simpa using hn
          have hn2 : (en == 0) = false := by simpa using hn
          rw [if_neg (by decide), hb]
          clear hb
          repeat' (first | (with_reducible first | apply jA | apply jB | apply jC | apply jD | apply jE | apply jF | apply jG | apply jH | apply jI | apply jJ | apply jK | apply jL | apply jM | apply jN | apply jO) | ((with_reducible first | apply jP | apply jQ); rfl) | ((first | ((with_reducible first | apply jR | apply jS | apply jT); rfl; rfl) | (with_reducible first | apply jU | apply jV | apply jW) | ((with_reducible first | apply jX | apply jY | apply jZ); rfl) | ((with_reducible first | apply kA | apply kB | apply kC); rfl)); all_goals (first | ((with_reducible show Is _ _); exact kE) | ((with_reducible refine fun (hc : (_ : Bool) = _) => ?_); (try simp only [xZ, xY, xP, reduceCtorEq] at hc); (try (have hx : True := hc; clear hx hc)); (try exact kX)) | ((with_reducible show ACall _ _ _ _ _); (first | ((with_reducible apply htm) <;> exact kD) | ((with_reducible apply hfe) <;> exact kD))) | ((fail_if_success (with_reducible first | show Is _ _ | show ACall _ _ _ _ _)); (try ((with_reducible show _ ∨ _); exact kT))))))
          rfl
      · have hA2 : (eA == Z) = false := by simpa using hA
        rw [if_neg (by decide), hA2]
        repeat' (first | (with_reducible first | apply jA | apply jB | apply jC | apply jD | apply jE | apply jF | apply jG | apply jH | apply jI | apply jJ | apply jK | apply jL | apply jM | apply jN | apply jO) | ((with_reducible first | apply jP | apply jQ); rfl) | ((first | ((with_reducible first | apply jR | apply jS | apply jT); rfl; rfl) | (with_reducible first | apply jU | apply jV | apply jW) | ((with_reducible first | apply jX | apply jY | apply jZ); rfl) | ((with_reducible first | apply kA | apply kB | apply kC); rfl)); all_goals (first | ((with_reducible show Is _ _); exact kE) | ((with_reducible refine fun (hc : (_ : Bool) = _) => ?_); (try simp only [xZ, xY, xP, reduceCtorEq] at hc); (try (have hx : True := hc; clear hx hc)); (try exact kX)) | ((with_reducible show ACall _ _ _ _ _); (first | ((with_reducible apply htm) <;> exact kD) | ((with_reducible apply hfe) <;> exact kD))) | ((fail_if_success (with_reducible first | show Is _ _ | show ACall _ _ _ _ _)); (try ((with_reducible show _ ∨ _); exact kT))))))
        rfl
    · rw [if_neg (by decide)]
      repeat' (first | (with_reducible first | apply jA | apply jB | apply jC | apply jD | apply jE | apply jF | apply jG | apply jH | apply jI | apply jJ | apply jK | apply jL | apply jM | apply jN | apply jO) | ((with_reducible first | apply jP | apply jQ); rfl) | ((first | ((with_reducible first | apply jR | apply jS | apply jT); rfl; rfl) | (with_reducible first | apply jU | apply jV | apply jW) | ((with_reducible first | apply jX | apply jY | apply jZ); rfl) | ((with_reducible first | apply kA | apply kB | apply kC); rfl)); all_goals (first | ((with_reducible show Is _ _); exact kE) | ((with_reducible refine fun (hc : (_ : Bool) = _) => ?_); (try simp only [xZ, xY, xP, reduceCtorEq] at hc); (try (have hx : True := hc; clear hx hc)); (try exact kX)) | ((with_reducible show ACall _ _ _ _ _); (first | ((with_reducible apply htm) <;> exact kD) | ((with_reducible apply hfe) <;> exact kD))) | ((fail_if_success (with_reducible first | show Is _ _ | show ACall _ _ _ _ _)); (try ((with_reducible show _ ∨ _); exact kT))))))
      rfl
  · rw [if_pos rfl]
    cases oe
    · have hfe0 : fe = [] := by simpa using hfn
      subst hfe0
      repeat' (first | (with_reducible first | apply jA | apply jB | apply jC | apply jD | apply jE | apply jF | apply jG | apply jH | apply jI | apply jJ | apply jK | apply jL | apply jM | apply jN | apply jO) | ((with_reducible first | apply jP | apply jQ); rfl) | ((first | ((with_reducible first | apply jR | apply jS | apply jT); rfl; rfl) | (with_reducible first | apply jU | apply jV | apply jW) | ((with_reducible first | apply jX | apply jY | apply jZ); rfl) | ((with_reducible first | apply kA | apply kB | apply kC); rfl)); all_goals (first | ((with_reducible show Is _ _); exact kE) | ((with_reducible refine fun (hc : (_ : Bool) = _) => ?_); (try simp only [xZ, xY, xP, reduceCtorEq] at hc); (try (have hx : True := hc; clear hx hc)); (try exact kX)) | ((with_reducible show ACall _ _ _ _ _); (first | ((with_reducible apply htm) <;> exact kD) | ((with_reducible apply hfe) <;> exact kD))) | ((fail_if_success (with_reducible first | show Is _ _ | show ACall _ _ _ _ _)); (try ((with_reducible show _ ∨ _); exact kT))))))
      rfl
    · have hfe0 : (fe == []) = false := hfn
      clear hfn
      cases tk
      · repeat' (first | (with_reducible first | apply jA | apply jB | apply jC | apply jD | apply jE | apply jF | apply jG | apply jH | apply jI | apply jJ | apply jK | apply jL | apply jM | apply jN | apply jO) | ((with_reducible first | apply jP | apply jQ); rfl) | ((first | ((with_reducible first | apply jR | apply jS | apply jT); rfl; rfl) | (with_reducible first | apply jU | apply jV | apply jW) | ((with_reducible first | apply jX | apply jY | apply jZ); rfl) | ((with_reducible first | apply kA | apply kB | apply kC); rfl)); all_goals (first | ((with_reducible show Is _ _); exact kE) | ((with_reducible refine fun (hc : (_ : Bool) = _) => ?_); (try simp only [xZ, xY, xP, reduceCtorEq] at hc); (try (have hx : True := hc; clear hx hc)); (try exact kX)) | ((with_reducible show ACall _ _ _ _ _); (first | ((with_reducible apply htm) <;> exact kD) | ((with_reducible apply hfe) <;> exact kD))) | ((fail_if_success (with_reducible first | show Is _ _ | show ACall _ _ _ _ _)); (try ((with_reducible show _ ∨ _); exact kT))))))
        rfl
      · repeat' (first | (with_reducible first | apply jA | apply jB | apply jC | apply jD | apply jE | apply jF | apply jG | apply jH | apply jI | apply jJ | apply jK | apply jL | apply jM | apply jN | apply jO) | ((with_reducible first | apply jP | apply jQ); rfl) | ((first | ((with_reducible first | apply jR | apply jS | apply jT); rfl; rfl) | (with_reducible first | apply jU | apply jV | apply jW) | ((with_reducible first | apply jX | apply jY | apply jZ); rfl) | ((with_reducible first | apply kA | apply kB | apply kC); rfl)); all_goals (first | ((with_reducible show Is _ _); exact kE) | ((with_reducible refine fun (hc : (_ : Bool) = _) => ?_); (try simp only [xZ, xY, xP, reduceCtorEq] at hc); (try (have hx : True := hc; clear hx hc)); (try exact kX)) | ((with_reducible show ACall _ _ _ _ _); (first | ((with_reducible apply htm) <;> exact kD) | ((with_reducible apply hfe) <;> exact kD))) | ((fail_if_success (with_reducible first | show Is _ _ | show ACall _ _ _ _ _)); (try ((with_reducible show _ ∨ _); exact kT))))))
        replace hcs : Cells pfC 18 Y al := hcs
        replace h5 : ∀ q ∈ al, PfL q := h5
        · refine w_loop (fun fr B => ∃ (j : Nat) (G : List Box), j ≤ al.length ∧ (al.take j).all vldP = true ∧ fr 33 = .int .i64 j ∧ fr 32 = .int .i64 al.length ∧ fr 31 = .lst al.length Y false ∧ B = ⟨X, false⟩ :: G) (fun fr _ => al.length - natOf (fr 33)) ?_ ?_
          · exact ⟨0, [], by omega, rfl, by (simp (disch := omega) [go_sem, *]) <;> (try omega), by (simp (disch := omega) [go_sem, *]) <;> (try omega), by (simp (disch := omega) [go_sem, *]) <;> (try omega), rfl⟩
          rintro fr B ⟨j, G, hj, hall, f33, f32, f31, rfl⟩
          have hm0 : natOf (fr 33) = j := by rw [f33]; rfl
          by_cases hc : j < al.length
          · obtain ⟨c1, c2⟩ := hcs j hc
            have hqL := h5 al[j] (List.getElem_mem hc)
            have hva : ∀ {B : List Box} {args : List CV}, Is (omap (Go.Sy.fz true false B 6) args) (some [.agg (pfC al[j])]) → ACall Tryd.prog 36 args B fun c B' => c = .bool (vldP al[j]) ∧ B' = B := fun hz => rValid_at (by exact hz) hqL.1
            have hql := pfC_len hqL
            have ho1 : ∀ {nz fr : Bool} {B : List Box} {k : Nat}, omap (Go.Sy.fz nz fr B (k + 1)) (pfC al[j]) = some (pfC al[j]) := pf_om1 _
            have hnx : (al.take (j + 1)).all vldP = vldP al[j] := by rw [List.take_succ_eq_append_getElem hc, List.all_append, hall]; simp
            have hno : vldP al[j] = false → al.all vldP = false := fun h => by
              rw [List.all_eq_false]; exact ⟨_, List.getElem_mem hc, by simp [h]⟩
            generalize vldP al[j] = v at *
            generalize pfC al[j] = Q at *
            cases v
            · rw [hno rfl]
              clear hno hnx hqL
              repeat' (first | (with_reducible first | apply jA | apply jB | apply jC | apply jD | apply jE | apply jF | apply jG | apply jH | apply jI | apply jJ | apply jK | apply jL | apply jM | apply jN | apply jO) | ((with_reducible first | apply jP | apply jQ); rfl) | ((first | ((with_reducible first | apply jR | apply jS | apply jT); rfl; rfl) | (with_reducible first | apply jU | apply jV | apply jW) | ((with_reducible first | apply jX | apply jY | apply jZ); rfl) | ((with_reducible first | apply kA | apply kB | apply kC); rfl)); all_goals (first | ((with_reducible show Is _ _); exact kE) | ((with_reducible refine fun (hc : (_ : Bool) = _) => ?_); (try simp only [xZ, xY, xP, reduceCtorEq] at hc); (try (have hx : True := hc; clear hx hc)); (try exact kX)) | ((with_reducible show ACall _ _ _ _ _); (first | ((with_reducible apply hva) <;> exact kD))) | ((fail_if_success (with_reducible first | show Is _ _ | show ACall _ _ _ _ _)); (try ((with_reducible show _ ∨ _); exact kT))))))
              rfl
            · clear hno
              repeat' (first | (with_reducible first | apply jA | apply jB | apply jC | apply jD | apply jE | apply jF | apply jG | apply jH | apply jI | apply jJ | apply jK | apply jL | apply jM | apply jN | apply jO) | ((with_reducible first | apply jP | apply jQ); rfl) | ((first | ((with_reducible first | apply jR | apply jS | apply jT); rfl; rfl) | (with_reducible first | apply jU | apply jV | apply jW) | ((with_reducible first | apply jX | apply jY | apply jZ); rfl) | ((with_reducible first | apply kA | apply kB | apply kC); rfl)); all_goals (first | ((with_reducible show Is _ _); exact kE) | ((with_reducible refine fun (hc : (_ : Bool) = _) => ?_); (try simp only [xZ, xY, xP, reduceCtorEq] at hc); (try (have hx : True := hc; clear hx hc)); (try exact kX)) | ((with_reducible show ACall _ _ _ _ _); (first | ((with_reducible apply hva) <;> exact kD))) | ((fail_if_success (with_reducible first | show Is _ _ | show ACall _ _ _ _ _)); (try ((with_reducible show _ ∨ _); exact kT))))))
              exact ⟨⟨j + 1, _, by omega, hnx, by (simp (disch := omega) [go_sem, *]) <;> (try omega), by (simp (disch := omega) [go_sem, *]) <;> (try omega), by (simp (disch := omega) [go_sem, *]) <;> (try omega), rfl⟩, by (simp (disch := omega) [go_sem, *]) <;> (try omega)⟩
          · obtain rfl : j = al.length := by omega
            rw [List.take_length] at hall
            rw [hall]
            repeat' (first | (with_reducible first | apply jA | apply jB | apply jC | apply jD | apply jE | apply jF | apply jG | apply jH | apply jI | apply jJ | apply jK | apply jL | apply jM | apply jN | apply jO) | ((with_reducible first | apply jP | apply jQ); rfl) | ((first | ((with_reducible first | apply jR | apply jS | apply jT); rfl; rfl) | (with_reducible first | apply jU | apply jV | apply jW) | ((with_reducible first | apply jX | apply jY | apply jZ); rfl)); all_goals (first | ((with_reducible show Is _ _); exact kE) | ((with_reducible refine fun (hc : (_ : Bool) = _) => ?_); (try simp only [xZ, xY, xP, reduceCtorEq] at hc); (try (have hx : True := hc; clear hx hc)); (try exact kX)) | ((fail_if_success (with_reducible first | show Is _ _ | show ACall _ _ _ _ _)); (try ((with_reducible show _ ∨ _); exact kT))))))
            rfl
end Go.Proofs.YtdceppjoipoohaaDoor
end
section
namespace Go.Proofs.YtdceppjoipoohaaDoor
open Go Go.Sy
set_option linter.all false
set_option maxRecDepth 100000
set_option maxHeartbeats 4000000
theorem bmidP {l : List UInt8} {n : Nat} (h : l.length = n) (x : List CV) : (l.map byteC ++ x).take n = l.map byteC ∧ (l.map byteC ++ x).drop n = x := ⟨List.take_left' (by rw [List.length_map, h]), List.drop_left' (by rw [List.length_map, h])⟩
theorem pgetP {l : List UInt8} {n : Nat} (h : l.length = n) (y : CV) : (l.map byteC ++ [y])[n]? = some y := by
  subst h
  rw [List.getElem?_append_right (by simp)]; simp
theorem pf_eqV {t u : Pf} (ht : t.1.2.length = 16) (hu : u.1.2.length = 16) : eqV Tryd.prog 20 29 (.agg (pfC t)) (.agg (pfC u)) = some (t == u) := by
  obtain ⟨⟨a, p⟩, k⟩ := t
  obtain ⟨⟨b, q⟩, m⟩ := u
  dsimp only at ht hu
  have h1 := bmidP ht
  have h2 := bmidP hu
  have h3 := pgetP ht
  have h4 := pgetP hu
  have h7 : (p.map byteC).take 16 = p.map byteC := List.take_of_length_le (by rw [List.length_map]; omega)
  have h8 : (q.map byteC).take 16 = q.map byteC := List.take_of_length_le (by rw [List.length_map]; omega)
  simp (disch := omega) [go_sem, pfC, h1, h2, h3, h4, h7, h8, ht, hu, -List.map_take]
  rw [Bool.eq_iff_iff]
  simp
theorem pfIndex_in (L : List Pf) (x : Pf) (hL : ∀ q ∈ L, PfL q) (hx : PfL x) (hl : L.length < 1000000) : PC Tryd.prog true 90 [.lst L.length (L.flatMap pfC) false, .agg (pfC x)] (.int .i64 (idxF (fun q => x == q) L)) := by
  have hcs := cells_all (f := pfC) (z := 18) (L := L) fun q hq => pfC_len (hL q hq)
  have hxl := pfC_len hx
  refine acall_intro mixed Tryd.func90 rfl ca90 (by kernel_rfl) (by rw [Tryd.ntmps90]; simp) ?_
  obtain ⟨Y, hY⟩ : ∃ Y, L.flatMap pfC = Y := ⟨_, rfl⟩
  obtain ⟨X, hX⟩ : ∃ X, pfC x = X := ⟨_, rfl⟩
  rw [hY] at hcs ⊢
  rw [hX] at hxl ⊢
  clear hY
  have hXt : X.take 18 = X := List.take_of_length_le (by omega)
  repeat' (first | (with_reducible first | apply jA | apply jB | apply jC | apply jD | apply jE | apply jF | apply jG | apply jH | apply jI | apply jJ | apply jK | apply jL | apply jM | apply jN | apply jO) | ((with_reducible first | apply jP | apply jQ); rfl) | ((first | ((with_reducible first | apply jR | apply jS | apply jT); rfl; rfl) | (with_reducible first | apply jU | apply jV | apply jW) | ((with_reducible first | apply jX | apply jY | apply jZ); rfl)); all_goals (first | ((with_reducible show Is _ _); exact kE) | ((with_reducible refine fun (hc : (_ : Bool) = _) => ?_); (try simp only [xZ, xY, xP, reduceCtorEq] at hc); (try (have hx : True := hc; clear hx hc)); (try exact kX)) | ((fail_if_success (with_reducible first | show Is _ _ | show ACall _ _ _ _ _)); (try ((with_reducible show _ ∨ _); exact kT))))))
  refine w_loop (fun fr B => ∃ j : Nat, j ≤ L.length ∧ j ≤ L.findIdx (fun q => x == q) ∧ fr 8 = .int .i64 j ∧ fr 7 = .int .i64 L.length ∧ fr 0 = .lst L.length Y false ∧ fr 3 = .ptr 0 0 ∧ B = [⟨X, false⟩]) (fun fr _ => L.length - natOf (fr 8)) ?_ ?_
  · exact ⟨0, by omega, by omega, by (simp (disch := omega) [go_sem, *]) <;> (try omega), by (simp (disch := omega) [go_sem, *]) <;> (try omega), by (simp (disch := omega) [go_sem, *]) <;> (try omega), by (simp (disch := omega) [go_sem, *]) <;> (try omega), rfl⟩
  rintro fr B ⟨j, hj, hf, h8, h7, h0, h3, rfl⟩
  have hm : natOf (fr 8) = j := by rw [h8]; rfl
  by_cases hc : j < L.length
  · obtain ⟨c1, c2⟩ := hcs j hc
    have hq := hL L[j] (List.getElem_mem hc)
    have hql := pfC_len hq
    have hev := pf_eqV hx.1 hq.1
    have hQt : (pfC L[j]).take 18 = pfC L[j] := List.take_of_length_le (by omega)
    rw [hX] at hev
    by_cases hp : (x == L[j]) = true
    · have e : L.findIdx (fun q => x == q) = j := fI_at hc hp hf
      rw [idxF, e, if_pos hc]
      rw [hp] at hev
      generalize pfC L[j] = Q at *
      clear hX hq hp hf e
      repeat' (first | (with_reducible first | apply jA | apply jB | apply jC | apply jD | apply jE | apply jF | apply jG | apply jH | apply jI | apply jJ | apply jK | apply jL | apply jM | apply jN | apply jO) | ((with_reducible first | apply jP | apply jQ); rfl) | ((first | ((with_reducible first | apply jR | apply jS | apply jT); rfl; rfl) | (with_reducible first | apply jU | apply jV | apply jW) | ((with_reducible first | apply jX | apply jY | apply jZ); rfl)); all_goals (first | ((with_reducible show Is _ _); exact kE) | ((with_reducible refine fun (hc : (_ : Bool) = _) => ?_); (try simp only [xZ, xY, xP, reduceCtorEq] at hc); (try (have hx : True := hc; clear hx hc)); (try exact kX)) | ((fail_if_success (with_reducible first | show Is _ _ | show ACall _ _ _ _ _)); (try ((with_reducible show _ ∨ _); exact kT))))))
      all_goals rfl
    · have e : j + 1 ≤ L.findIdx (fun q => x == q) := fI_next hc hp hf
      have hp2 : (x == L[j]) = false := by simpa using hp
      rw [hp2] at hev
      generalize pfC L[j] = Q at *
      clear hX hq hp hp2
      repeat' (first | (with_reducible first | apply jA | apply jB | apply jC | apply jD | apply jE | apply jF | apply jG | apply jH | apply jI | apply jJ | apply jK | apply jL | apply jM | apply jN | apply jO) | ((with_reducible first | apply jP | apply jQ); rfl) | ((first | ((with_reducible first | apply jR | apply jS | apply jT); rfl; rfl) | (with_reducible first | apply jU | apply jV | apply jW) | ((with_reducible first | apply jX | apply jY | apply jZ); rfl)); all_goals (first | ((with_reducible show Is _ _); exact kE) | ((with_reducible refine fun (hc : (_ : Bool) = _) => ?_); (try simp only [xZ, xY, xP, reduceCtorEq] at hc); (try (have hx : True := hc; clear hx hc)); (try exact kX)) | ((fail_if_success (with_reducible first | show Is _ _ | show ACall _ _ _ _ _)); (try ((with_reducible show _ ∨ _); exact kT))))))
      exact ⟨⟨j + 1, by omega, e, by (simp (disch := omega) [go_sem, *]) <;> (try omega), by (simp (disch := omega) [go_sem, *]) <;> (try omega), by (simp (disch := omega) [go_sem, *]) <;> (try omega), by (simp (disch := omega) [go_sem, *]) <;> (try omega), rfl⟩, by (simp (disch := omega) [go_sem, *]) <;> (try omega)⟩
  · rw [idxF, if_neg (by omega)]
    clear hX
    repeat' (first | (with_reducible first | apply jA | apply jB | apply jC | apply jD | apply jE | apply jF | apply jG | apply jH | apply jI | apply jJ | apply jK | apply jL | apply jM | apply jN | apply jO) | ((with_reducible first | apply jP | apply jQ); rfl) | ((first | ((with_reducible first | apply jR | apply jS | apply jT); rfl; rfl) | (with_reducible first | apply jU | apply jV | apply jW) | ((with_reducible first | apply jX | apply jY | apply jZ); rfl)); all_goals (first | ((with_reducible show Is _ _); exact kE) | ((with_reducible refine fun (hc : (_ : Bool) = _) => ?_); (try simp only [xZ, xY, xP, reduceCtorEq] at hc); (try (have hx : True := hc; clear hx hc)); (try exact kX)) | ((fail_if_success (with_reducible first | show Is _ _ | show ACall _ _ _ _ _)); (try ((with_reducible show _ ∨ _); exact kT))))))
    all_goals rfl
theorem pfContains_in (L : List Pf) (x : Pf) (hL : ∀ q ∈ L, PfL q) (hx : PfL x) (hl : L.length < 1000000) : PC Tryd.prog true 65 [.lst L.length (L.flatMap pfC) false, .agg (pfC x)] (.bool (L.any (fun q => x == q))) := by
  have hi : ∀ {B : List Box} {args : List CV}, Is (omap (Go.Sy.fz true false B 6) args) (some [.lst L.length (L.flatMap pfC) false, .agg (pfC x)]) → ACall Tryd.prog 90 args B fun c B' => c = .int .i64 (idxF (fun q => x == q) L) ∧ B' = B := fun h => acall_fresh h (pfIndex_in L x hL hx hl)
  have hxl := pfC_len hx
  have ho : ∀ {nz fr : Bool} {B : List Box} {k : Nat}, omap (Go.Sy.fz nz fr B (k + 1)) (pfC x) = some (pfC x) := pf_om1 x
  have ho2 : ∀ {nz fr : Bool} {B : List Box} {k : Nat}, omap (Go.Sy.fz nz fr B (k + 1)) (L.flatMap pfC) = some (L.flatMap pfC) := pf_om L
  rw [← idxF_any]
  generalize idxF (fun q => x == q) L = v at *
  generalize pfC x = X at *
  generalize L.flatMap pfC = Y at *
  refine acall_intro mixed Tryd.func65 rfl ca65 (by kernel_rfl) (by rw [Tryd.ntmps65]; simp) ?_
  repeat' (first | (with_reducible first | apply jA | apply jB | apply jC | apply jD | apply jE | apply jF | apply jG | apply jH | apply jI | apply jJ | apply jK | apply jL | apply jM | apply jN | apply jO) | ((with_reducible first | apply jP | apply jQ); rfl) | ((first | ((with_reducible first | apply jR | apply jS | apply jT); rfl; rfl) | (with_reducible first | apply jU | apply jV | apply jW) | ((with_reducible first | apply jX | apply jY | apply jZ); rfl) | ((with_reducible first | apply kA | apply kB | apply kC); rfl)); all_goals (first | ((with_reducible show Is _ _); exact kE) | ((with_reducible refine fun (hc : (_ : Bool) = _) => ?_); (try simp only [xZ, xY, xP, reduceCtorEq] at hc); (try (have hx : True := hc; clear hx hc)); (try exact kX)) | ((with_reducible show ACall _ _ _ _ _); (first | ((with_reducible apply hi) <;> exact kD))) | ((fail_if_success (with_reducible first | show Is _ _ | show ACall _ _ _ _ _)); (try ((with_reducible show _ ∨ _); exact kT))))))
  rfl
theorem validate1_in (p : Pe) (h : PeL p) (hl : p.2.2.2.2.2.length < 1000000) : PC Tryd.prog true 62 [.agg (peC p)] (.bool (!okPe p)) := by
  have hv : ∀ {B : List Box} {args : List CV}, Is (omap (Go.Sy.fz true false B 6) args) (some [.agg (peC p)]) → ACall Tryd.prog 63 args B fun c B' => c = .bool (okPe p) ∧ B' = B := fun h2 => acall_fresh h2 (proper_in p h hl)
  have hXl := peC_len h
  have ho : ∀ {nz : Bool} {B : List Box} {k : Nat}, omap (Go.Sy.fz nz false B (k + 2)) (peC p) = some (peC p) := pe_om1 p
  generalize okPe p = v at *
  generalize peC p = X at *
  refine acall_intro mixed Tryd.func62 rfl ca62 (by kernel_rfl) (by rw [Tryd.ntmps62]; simp) ?_
  repeat' (first | (with_reducible first | apply jA | apply jB | apply jC | apply jD | apply jE | apply jF | apply jG | apply jH | apply jI | apply jJ | apply jK | apply jL | apply jM | apply jN | apply jO) | ((with_reducible first | apply jP | apply jQ); rfl) | ((first | ((with_reducible first | apply jR | apply jS | apply jT); rfl; rfl) | (with_reducible first | apply jU | apply jV | apply jW) | ((with_reducible first | apply jX | apply jY | apply jZ); rfl) | ((with_reducible first | apply kA | apply kB | apply kC); rfl)); all_goals (first | ((with_reducible show Is _ _); exact kE) | ((with_reducible refine fun (hc : (_ : Bool) = _) => ?_); (try simp only [xZ, xY, xP, reduceCtorEq] at hc); (try (have hx : True := hc; clear hx hc)); (try exact kX)) | ((with_reducible show ACall _ _ _ _ _); (first | ((with_reducible apply hv) <;> exact kD))) | ((fail_if_success (with_reducible first | show Is _ _ | show ACall _ _ _ _ _)); (try ((with_reducible show _ ∨ _); exact kT))))))
  rfl
theorem validate2_in (p q : Pe) (hp : PeL p) (hq : PeL q) : PC Tryd.prog true 64 [.agg (peC q), .iptr (peC p)] (.bool (q.1 == p.1)) := by
  have hpl := peC_len hp
  have hql := peC_len hq
  obtain ⟨-, -, -, -, d1, -⟩ := pe_parts hp
  obtain ⟨-, -, -, -, d2, -⟩ := pe_parts hq
  have l1 := hp.1
  have l2 := hq.1
  generalize peC p = X at *
  generalize peC q = Y at *
  generalize p.1 = u at *
  generalize q.1 = v at *
  refine acall_intro mixed Tryd.func64 rfl ca64 (by kernel_rfl) (by rw [Tryd.ntmps64]; simp) ?_
  repeat' (first | (with_reducible first | apply jA | apply jB | apply jC | apply jD | apply jE | apply jF | apply jG | apply jH | apply jI | apply jJ | apply jK | apply jL | apply jM | apply jN | apply jO) | ((with_reducible first | apply jP | apply jQ); rfl) | ((first | ((with_reducible first | apply jR | apply jS | apply jT); rfl; rfl) | (with_reducible first | apply jU | apply jV | apply jW) | ((with_reducible first | apply jX | apply jY | apply jZ); rfl)); all_goals (first | ((with_reducible show Is _ _); exact kE) | ((with_reducible refine fun (hc : (_ : Bool) = _) => ?_); (try simp only [xZ, xY, xP, reduceCtorEq] at hc); (try (have hx : True := hc; clear hx hc)); (try exact kX)) | ((fail_if_success (with_reducible first | show Is _ _ | show ACall _ _ _ _ _)); (try ((with_reducible show _ ∨ _); exact kT))))))
  rfl
end Go.Proofs.YtdceppjoipoohaaDoor
end
section
namespace Go.Proofs.YtdceppjoipoohaaDoor
open Go Go.Sy
set_option linter.all false
set_option maxRecDepth 100000
set_option maxHeartbeats 4000000
theorem kE_VE0 {α : Type} {x y : α} (h : Is x y := by first | ((try simp (disch := first | omega | (simp only [yZ, yB] <;> omega) | fail) [go_sem, yY, *, bx_get0, bx_get, if_pos, if_neg, -List.map_take, -List.map_drop, -List.map_append, -List.map_reverse]); exact rfl) | fail) : Is x y := h
theorem kD_VE0 {p : Prop} (h : p := by (first | omega | assumption | exact rfl | ((simp (disch := first | omega | (simp only [yZ, yB] <;> omega) | fail) [go_sem, yY, *, bx_get0, bx_get, -List.map_take, -List.map_drop, -List.map_append, -List.map_reverse]) <;> (first | done | omega | exact rfl)) | fail)) : p := h
abbrev Cf := List UInt8 × Int × List Pe
def cfC (c : List UInt8 × Int × List (List UInt8 × List UInt8 × Bool × ((Bool × List UInt8) × Int) × Int × List ((Bool × List UInt8) × Int))) : List CV := c.1.map byteC ++ ([.int .i64 c.2.1] ++ [.lst c.2.2.length (c.2.2.flatMap peC) false])
def pubs (ps : List Pe) : List (List UInt8) := ps.map (·.1)
def alls (ps : List Pe) : List Pf := ps.flatMap (·.2.2.2.2.2)
def valC (port : Int) (ps : List Pe) : Int :=
  if 8 < ps.length ∨ 16 < (alls ps).length then 12
  else if port < 0 ∨ 65535 < port ∨ ps.all okPe = false then 1
  else if (pubs ps).Nodup ∧ (alls ps).Nodup then 0 else 19
theorem cf_parts {c : Cf} (h : c.1.length = 32) : (cfC c).drop 32 = [.int .i64 c.2.1, .lst c.2.2.length (c.2.2.flatMap peC) false] ∧ (cfC c).drop 33 = [.lst c.2.2.length (c.2.2.flatMap peC) false] ∧ (cfC c).take 32 = c.1.map byteC ∧ (cfC c).length = 34 := by
  have l1 : (c.1.map byteC).length = 32 := by simp [h]
  have d32 : (cfC c).drop 32 = [.int .i64 c.2.1, .lst c.2.2.length (c.2.2.flatMap peC) false] := by rw [cfC, List.drop_left' l1]; rfl
  refine ⟨d32, by rw [show (33 : Nat) = 32 + 1 from rfl, ← List.drop_drop, d32]; rfl, by rw [cfC, List.take_left' l1], by simp [cfC, h]⟩
theorem alls_le {ps : List Pe} (h : ∀ p ∈ ps, p.2.2.2.2.2.length < 1000000) : (alls ps).length ≤ ps.length * 1000000 := by
  induction ps with
  | nil => simp [alls]
  | cons p ps ih =>
    have h1 := h p (by simp)
    have h2 := ih fun q hq => h q (by simp [hq])
    simp only [alls, List.flatMap_cons, List.length_append, List.length_cons] at h2 ⊢
    omega
theorem alls_succ {ps : List Pe} {j : Nat} (h : j < ps.length) : alls (ps.take (j + 1)) = alls (ps.take j) ++ ps[j].2.2.2.2.2 := by
  rw [List.take_succ_eq_append_getElem h, alls, List.flatMap_append]; simp [alls]
theorem not_nodup_pub {ps : List Pe} {i : Nat} (h : i < ps.length) (hm : (ps.take i).any (fun q => q.1 == ps[i].1) = true) : ¬ ((pubs ps).Nodup ∧ (alls ps).Nodup) := by
  rintro ⟨hn, -⟩
  obtain ⟨q, hq, he⟩ := List.any_eq_true.1 hm
  have e : ps = ps.take i ++ ps[i] :: ps.drop (i + 1) := by rw [← List.drop_eq_getElem_cons h, List.take_append_drop]
  have e2 : pubs ps = pubs (ps.take i) ++ ps[i].1 :: pubs (ps.drop (i + 1)) := by
    have := congrArg pubs e
    simpa only [pubs, List.map_append, List.map_cons] using this
  rw [e2] at hn
  obtain ⟨-, -, h3⟩ := List.nodup_append.1 hn
  exact h3 _ (List.mem_map.2 ⟨q, hq, rfl⟩) _ (List.mem_cons_self ..) (by simpa using he)
theorem pubs_next {ps : List Pe} {i : Nat} (h : i < ps.length) (hn : (pubs (ps.take i)).Nodup) (hm : (ps.take i).any (fun q => q.1 == ps[i].1) = false) : (pubs (ps.take (i + 1))).Nodup := by
  rw [List.take_succ_eq_append_getElem h, pubs, List.map_append, List.map_singleton]
  refine List.nodup_append.2 ⟨hn, by simp, fun a ha b hb => ?_⟩
  obtain ⟨q, hq, rfl⟩ := List.mem_map.1 ha
  have := List.any_eq_false.1 hm q hq
  rw [List.mem_singleton] at hb
  subst hb
  simpa using this
theorem mid_split {α : Type} (A L D : List α) {k : Nat} (hk : k < L.length) : A ++ (L ++ D) = (A ++ L.take k) ++ L[k] :: (L.drop (k + 1) ++ D) := by
  have e3 : L.take k ++ L[k] :: L.drop (k + 1) = L := by rw [← List.drop_eq_getElem_cons hk, List.take_append_drop]
  have : (A ++ L.take k) ++ L[k] :: (L.drop (k + 1) ++ D) = A ++ ((L.take k ++ L[k] :: L.drop (k + 1)) ++ D) := by simp only [List.append_assoc, List.cons_append]
  rw [this, e3]
theorem alls_split {ps : List Pe} {i k : Nat} (h : i < ps.length) (hk : k < ps[i].2.2.2.2.2.length) : ∃ Z, alls ps = (alls (ps.take i) ++ ps[i].2.2.2.2.2.take k) ++ ps[i].2.2.2.2.2[k] :: Z := by
  have e : ps = ps.take i ++ ps[i] :: ps.drop (i + 1) := by rw [← List.drop_eq_getElem_cons h, List.take_append_drop]
  have e2 : alls ps = alls (ps.take i) ++ (ps[i].2.2.2.2.2 ++ alls (ps.drop (i + 1))) := by
    have := congrArg alls e
    simpa only [alls, List.flatMap_append, List.flatMap_cons] using this
  refine ⟨ps[i].2.2.2.2.2.drop (k + 1) ++ alls (ps.drop (i + 1)), ?_⟩
  rw [e2]
  exact mid_split _ _ _ hk
theorem not_nodup_all {ps : List Pe} {i k : Nat} (h : i < ps.length) (hk : k < ps[i].2.2.2.2.2.length) (hm : (alls (ps.take i) ++ ps[i].2.2.2.2.2.take k).any (fun q => ps[i].2.2.2.2.2[k] == q) = true) : ¬ ((pubs ps).Nodup ∧ (alls ps).Nodup) := by
  rintro ⟨-, hn⟩
  obtain ⟨q, hq, he⟩ := List.any_eq_true.1 hm
  obtain ⟨Z, hZ⟩ := alls_split h hk
  rw [hZ] at hn
  obtain ⟨-, -, h3⟩ := List.nodup_append.1 hn
  exact h3 _ hq _ (List.mem_cons_self ..) (by have := (beq_iff_eq.1 he); exact this.symm)
theorem alls_next {L : List Pf} {x : Pf} (hn : L.Nodup) (hm : L.any (fun q => x == q) = false) : (L ++ [x]).Nodup := by
  refine List.nodup_append.2 ⟨hn, by simp, fun a ha b hb => ?_⟩
  have := List.any_eq_false.1 hm a ha
  rw [List.mem_singleton] at hb
  subst hb
  intro e
  exact this (by simp [e])
theorem validate_in (K : List UInt8) (port : Int) (ps : List Pe) (hK : K.length = 32) (hpo : -9223372036854775808 ≤ port ∧ port ≤ 9223372036854775807) (hps : ∀ p ∈ ps, PeL p) (hl : ps.length < 1000000) (hal : ∀ p ∈ ps, p.2.2.2.2.2.length < 1000000) : PC Tryd.prog true 27 [.agg (cfC (K, port, ps))] (.int .i64 (valC port ps)) := by
  have hcs := cells_all (f := peC) (z := 85) (L := ps) fun p hp => peC_len (hps p hp)
  have hal2 := alls_le hal
  obtain ⟨d32, d33, -, hCl⟩ := cf_parts (c := (K, port, ps)) hK
  dsimp only at d32 d33
  have hcf : ∀ {B : List Box} {args : List CV}, Is args [.lst ps.length (ps.flatMap peC) false, .fn (.func 62) [] []] → ACall Tryd.prog 61 args B fun c B' => c = .bool (ps.any fun a => !okPe a) ∧ B' = B := fun hz => peContainsFunc_at hz ⟨by omega, _, hcs, .inl ⟨_, rfl⟩⟩ fun a ha => acall_fresh (nz := true) (by simp [go_sem]) (validate1_in a (hps a ha) (hal a ha))
  have hany : (ps.any fun a => !okPe a) = !ps.all okPe := by simp [List.all_eq_not_any_not]
  rw [hany] at hcf
  clear hany
  generalize cfC (K, port, ps) = C at *
  obtain ⟨Y, hY⟩ : ∃ Y, ps.flatMap peC = Y := ⟨_, rfl⟩
  rw [hY] at hcs d32 d33 hcf
  replace hY : Hid _ := hY
  replace hcs : Hid _ := hcs
  replace hps : Hid _ := hps
  replace hal : Hid _ := hal
  refine acall_intro mixed Tryd.func27 rfl ca27 (by kernel_rfl) (by rw [Tryd.ntmps27]; simp) ?_
  repeat' (first | (with_reducible first | apply jA | apply jB | apply jC | apply jD | apply jE | apply jF | apply jG | apply jH | apply jI | apply jJ | apply jK | apply jL | apply jM | apply jN | apply jO) | ((with_reducible first | apply jP | apply jQ); rfl) | ((first | ((with_reducible first | apply jR | apply jS | apply jT); rfl; rfl) | (with_reducible first | apply jU | apply jV | apply jW) | ((with_reducible first | apply jX | apply jY | apply jZ); rfl)); all_goals (first | ((with_reducible show Is _ _); exact kE) | ((with_reducible refine fun (hc : (_ : Bool) = _) => ?_); (try simp only [xZ, xY, xP, reduceCtorEq] at hc); (try (have hx : True := hc; clear hx hc)); (try exact kX)) | ((fail_if_success (with_reducible first | show Is _ _ | show ACall _ _ _ _ _)); (try ((with_reducible show _ ∨ _); exact kT))))))
  refine w_loop (fun fr B => ∃ (j : Nat) (G : List Box), j ≤ ps.length ∧ fr 3 = .int .i64 (alls (ps.take j)).length ∧ fr 14 = .int .i64 j ∧ fr 13 = .int .i64 ps.length ∧ fr 12 = .lst ps.length Y false ∧ fr 1 = .ptr 0 0 ∧ B = ⟨C, false⟩ :: G) (fun fr _ => ps.length - natOf (fr 14)) ?_ ?_
  · exact ⟨0, [], by omega, by (simp (disch := omega) [go_sem, *, alls]) <;> (try omega), by (simp (disch := omega) [go_sem, *]) <;> (try omega), by (simp (disch := omega) [go_sem, *]) <;> (try omega), by (simp (disch := omega) [go_sem, *]) <;> (try omega), by (simp (disch := omega) [go_sem, *]) <;> (try omega), rfl⟩
  rintro fr B ⟨j, G, hj, f3, f14, f13, f12, f1, rfl⟩
  have hm0 : natOf (fr 14) = j := by rw [f14]; rfl
  by_cases hc : j < ps.length
  · have hcs : Cells peC 85 Y ps := hcs
    have hps : ∀ p ∈ ps, PeL p := hps
    have hal : ∀ p ∈ ps, p.2.2.2.2.2.length < 1000000 := hal
    obtain ⟨c1, c2⟩ := hcs j hc
    have hp := hps ps[j] (List.getElem_mem hc)
    have hpl := peC_len hp
    have hpa := hal ps[j] (List.getElem_mem hc)
    have hnx := alls_succ hc
    have hle := alls_le (ps := ps.take j) fun p hp => hal p (List.mem_of_mem_take hp)
    rw [List.length_take] at hle
    obtain ⟨-, -, -, d84, -, -⟩ := pe_parts hp
    have hn2 : (alls (ps.take (j + 1))).length = (alls (ps.take j)).length + ps[j].2.2.2.2.2.length := by rw [hnx, List.length_append]
    clear hnx hp
    generalize peC ps[j] = Q at *
    generalize ps[j].2.2.2.2.2.flatMap pfC = R at *
    generalize ps[j].2.2.2.2.2.length = al at *
    generalize (alls (ps.take j)).length = m1 at *
    clear hcs hps hal hcf
    repeat' (first | (with_reducible first | apply jA | apply jB | apply jC | apply jD | apply jE | apply jF | apply jG | apply jH | apply jI | apply jJ | apply jK | apply jL | apply jM | apply jN | apply jO) | ((with_reducible first | apply jP | apply jQ); rfl) | ((first | ((with_reducible first | apply jR | apply jS | apply jT); rfl; rfl) | (with_reducible first | apply jU | apply jV | apply jW) | ((with_reducible first | apply jX | apply jY | apply jZ); rfl)); all_goals (first | ((with_reducible show Is _ _); exact kE) | ((with_reducible refine fun (hc : (_ : Bool) = _) => ?_); (try simp only [xZ, xY, xP, reduceCtorEq] at hc); (try (have hx : True := hc; clear hx hc)); (try exact kX)) | ((fail_if_success (with_reducible first | show Is _ _ | show ACall _ _ _ _ _)); (try ((with_reducible show _ ∨ _); exact kT))))))
    exact ⟨⟨j + 1, _, by omega, by rw [hn2]; (simp (disch := omega) [go_sem, *]) <;> (try omega), by (simp (disch := omega) [go_sem, *]) <;> (try omega), by (simp (disch := omega) [go_sem, *]) <;> (try omega), by (simp (disch := omega) [go_sem, *]) <;> (try omega), by (simp (disch := omega) [go_sem, *]) <;> (try omega), rfl⟩, by (simp (disch := omega) [go_sem, *]) <;> (try omega)⟩
  · obtain rfl : j = ps.length := by omega
    rw [List.take_length] at f3
    by_cases h8 : 8 < ps.length
    · have e : valC port ps = 12 := by rw [valC, if_pos (.inl h8)]
      rw [e]
      clear e
      generalize (alls ps).length = m at *
      repeat' (first | (with_reducible first | apply jA | apply jB | apply jC | apply jD | apply jE | apply jF | apply jG | apply jH | apply jI | apply jJ | apply jK | apply jL | apply jM | apply jN | apply jO) | ((with_reducible first | apply jP | apply jQ); rfl) | ((first | ((with_reducible first | apply jR | apply jS | apply jT); rfl; rfl) | (with_reducible first | apply jU | apply jV | apply jW) | ((with_reducible first | apply jX | apply jY | apply jZ); rfl) | ((with_reducible first | apply kA | apply kB | apply kC); rfl)); all_goals (first | ((with_reducible show Is _ _); exact kE) | ((with_reducible refine fun (hc : (_ : Bool) = _) => ?_); (try simp only [xZ, xY, xP, reduceCtorEq] at hc); (try (have hx : True := hc; clear hx hc)); (try exact kX)) | ((with_reducible show ACall _ _ _ _ _); (first | ((with_reducible apply hcf) <;> exact kD))) | ((fail_if_success (with_reducible first | show Is _ _ | show ACall _ _ _ _ _)); (try ((with_reducible show _ ∨ _); exact kT))))))
      rfl
    by_cases h16 : 16 < (alls ps).length
    · have e : valC port ps = 12 := by rw [valC, if_pos (.inr h16)]
      rw [e]
      clear e
      generalize (alls ps).length = m at *
      repeat' (first | (with_reducible first | apply jA | apply jB | apply jC | apply jD | apply jE | apply jF | apply jG | apply jH | apply jI | apply jJ | apply jK | apply jL | apply jM | apply jN | apply jO) | ((with_reducible first | apply jP | apply jQ); rfl) | ((first | ((with_reducible first | apply jR | apply jS | apply jT); rfl; rfl) | (with_reducible first | apply jU | apply jV | apply jW) | ((with_reducible first | apply jX | apply jY | apply jZ); rfl) | ((with_reducible first | apply kA | apply kB | apply kC); rfl)); all_goals (first | ((with_reducible show Is _ _); exact kE) | ((with_reducible refine fun (hc : (_ : Bool) = _) => ?_); (try simp only [xZ, xY, xP, reduceCtorEq] at hc); (try (have hx : True := hc; clear hx hc)); (try exact kX)) | ((with_reducible show ACall _ _ _ _ _); (first | ((with_reducible apply hcf) <;> exact kD))) | ((fail_if_success (with_reducible first | show Is _ _ | show ACall _ _ _ _ _)); (try ((with_reducible show _ ∨ _); exact kT))))))
      rfl
    have ev : valC port ps = if port < 0 ∨ 65535 < port ∨ ps.all okPe = false then 1 else if (pubs ps).Nodup ∧ (alls ps).Nodup then 0 else 19 := by
      rw [valC, if_neg]; omega
    rw [ev]
    clear ev
    by_cases hp0 : port < 0
    · rw [if_pos (.inl hp0)]
      generalize (alls ps).length = m at *
      repeat' (first | (with_reducible first | apply jA | apply jB | apply jC | apply jD | apply jE | apply jF | apply jG | apply jH | apply jI | apply jJ | apply jK | apply jL | apply jM | apply jN | apply jO) | ((with_reducible first | apply jP | apply jQ); rfl) | ((first | ((with_reducible first | apply jR | apply jS | apply jT); rfl; rfl) | (with_reducible first | apply jU | apply jV | apply jW) | ((with_reducible first | apply jX | apply jY | apply jZ); rfl) | ((with_reducible first | apply kA | apply kB | apply kC); rfl)); all_goals (first | ((with_reducible show Is _ _); exact kE) | ((with_reducible refine fun (hc : (_ : Bool) = _) => ?_); (try simp only [xZ, xY, xP, reduceCtorEq] at hc); (try (have hx : True := hc; clear hx hc)); (try exact kX)) | ((with_reducible show ACall _ _ _ _ _); (first | ((with_reducible apply hcf) <;> exact kD))) | ((fail_if_success (with_reducible first | show Is _ _ | show ACall _ _ _ _ _)); (try ((with_reducible show _ ∨ _); exact kT))))))
      rfl
    by_cases hp1 : 65535 < port
    · rw [if_pos (.inr (.inl hp1))]
      generalize (alls ps).length = m at *
      repeat' (first | (with_reducible first | apply jA | apply jB | apply jC | apply jD | apply jE | apply jF | apply jG | apply jH | apply jI | apply jJ | apply jK | apply jL | apply jM | apply jN | apply jO) | ((with_reducible first | apply jP | apply jQ); rfl) | ((first | ((with_reducible first | apply jR | apply jS | apply jT); rfl; rfl) | (with_reducible first | apply jU | apply jV | apply jW) | ((with_reducible first | apply jX | apply jY | apply jZ); rfl) | ((with_reducible first | apply kA | apply kB | apply kC); rfl)); all_goals (first | ((with_reducible show Is _ _); exact kE) | ((with_reducible refine fun (hc : (_ : Bool) = _) => ?_); (try simp only [xZ, xY, xP, reduceCtorEq] at hc); (try (have hx : True := hc; clear hx hc)); (try exact kX)) | ((with_reducible show ACall _ _ _ _ _); (first | ((with_reducible apply hcf) <;> exact kD))) | ((fail_if_success (with_reducible first | show Is _ _ | show ACall _ _ _ _ _)); (try ((with_reducible show _ ∨ _); exact kT))))))
      rfl
    cases hok : ps.all okPe with
    | false =>
      rw [if_pos (.inr (.inr rfl))]
      rw [hok] at hcf
      generalize (alls ps).length = m at *
      repeat' (first | (with_reducible first | apply jA | apply jB | apply jC | apply jD | apply jE | apply jF | apply jG | apply jH | apply jI | apply jJ | apply jK | apply jL | apply jM | apply jN | apply jO) | ((with_reducible first | apply jP | apply jQ); rfl) | ((first | ((with_reducible first | apply jR | apply jS | apply jT); rfl; rfl) | (with_reducible first | apply jU | apply jV | apply jW) | ((with_reducible first | apply jX | apply jY | apply jZ); rfl) | ((with_reducible first | apply kA | apply kB | apply kC); rfl)); all_goals (first | ((with_reducible show Is _ _); exact kE) | ((with_reducible refine fun (hc : (_ : Bool) = _) => ?_); (try simp only [xZ, xY, xP, reduceCtorEq] at hc); (try (have hx : True := hc; clear hx hc)); (try exact kX)) | ((with_reducible show ACall _ _ _ _ _); (first | ((with_reducible apply hcf) <;> exact kD))) | ((fail_if_success (with_reducible first | show Is _ _ | show ACall _ _ _ _ _)); (try ((with_reducible show _ ∨ _); exact kT))))))
      rfl
    | true =>
      rw [if_neg (by simp; omega)]
      rw [hok] at hcf
      obtain ⟨m, hm⟩ : ∃ m, (alls ps).length = m := ⟨_, rfl⟩
      rw [hm] at f3 h16
      replace hm : Hid _ := hm
      repeat' (first | (with_reducible first | apply jA | apply jB | apply jC | apply jD | apply jE | apply jF | apply jG | apply jH | apply jI | apply jJ | apply jK | apply jL | apply jM | apply jN | apply jO) | ((with_reducible first | apply jP | apply jQ); rfl) | ((first | ((with_reducible first | apply jR | apply jS | apply jT); rfl; rfl) | (with_reducible first | apply jU | apply jV | apply jW) | ((with_reducible first | apply jX | apply jY | apply jZ); rfl) | ((with_reducible first | apply kA | apply kB | apply kC); rfl)); all_goals (first | ((with_reducible show Is _ _); exact kE) | ((with_reducible refine fun (hc : (_ : Bool) = _) => ?_); (try simp only [xZ, xY, xP, reduceCtorEq] at hc); (try (have hx : True := hc; clear hx hc)); (try exact kX)) | ((with_reducible show ACall _ _ _ _ _); (first | ((with_reducible apply hcf) <;> exact kD))) | ((fail_if_success (with_reducible first | show Is _ _ | show ACall _ _ _ _ _)); (try ((with_reducible show _ ∨ _); exact kT))))))
      clear hcf
      have hcs : Cells peC 85 Y ps := hcs
      have hps : ∀ p ∈ ps, PeL p := hps
      have hal : ∀ p ∈ ps, p.2.2.2.2.2.length < 1000000 := hal
      have hY : ps.flatMap peC = Y := hY
      replace d32 : Hid _ := d32
      have hm16 : Hid ((alls ps).length ≤ 16) := by have hm : (alls ps).length = m := hm; show (alls ps).length ≤ 16; omega
      clear hm f3 f14 f13 f12 hm0
      refine w_loop (fun fr B => ∃ (i : Nat) (G : List Box) (c : CV), i ≤ ps.length ∧ (pubs (ps.take i)).Nodup ∧ (alls (ps.take i)).Nodup ∧ fr 48 = .int .i64 i ∧ fr 47 = .int .i64 ps.length ∧ fr 46 = .lst ps.length Y false ∧ fr 6 = c ∧ fr 1 = .ptr 0 0 ∧ B = ⟨C, false⟩ :: G ∧ GrowR pfC 18 1 c G (alls (ps.take i))) (fun fr _ => ps.length - natOf (fr 48)) ?_ ?_
      · exact ⟨0, G, .nilS, by omega, by simp [pubs], by simp [alls], by (simp (disch := omega) [go_sem, *]) <;> (try omega), by (simp (disch := omega) [go_sem, *]) <;> (try omega), by (simp (disch := omega) [go_sem, *]) <;> (try omega), by (simp (disch := omega) [go_sem, *]) <;> (try omega), by (simp (disch := omega) [go_sem, *]) <;> (try omega), rfl, .inl ⟨rfl, rfl⟩⟩
      clear f1
      clear G
      rintro fr B ⟨i, G, c, hi, hn1, hn2, f48, f47, f46, f6, f1, rfl, hG⟩
      have hm0 : natOf (fr 48) = i := by rw [f48]; rfl
      by_cases hc : i < ps.length
      · obtain ⟨c1, c2⟩ := hcs i hc
        have hp := hps ps[i] (List.getElem_mem hc)
        have hpl := peC_len hp
        have hpa := hal ps[i] (List.getElem_mem hc)
        have hnn := @not_nodup_pub ps i hc
        have hnp := pubs_next hc hn1
        have hna := fun k hk => @not_nodup_all ps i k hc hk
        have hYt : Y.take (i * 85) = (ps.take i).flatMap peC := by rw [← hY]; exact fl_take i fun p hp => peC_len (hps p hp)
        have hcf2 : ∀ {B : List Box} {args : List CV} {fl : Bool}, Is args [.lst i (Y.take (i * 85)) fl, .fn (.func 64) [] [.ptr (G.length + 1) 0]] → B[G.length + 1]? = some ⟨peC ps[i], false⟩ → ACall Tryd.prog 61 args B fun c B' => c = .bool ((ps.take i).any fun q => q.1 == ps[i].1) ∧ B' = B := fun {B args fl} hz hB => peContainsFunc_at (L := ps.take i) hz ⟨by rw [List.length_take]; omega, Y.take (i * 85), (by rw [hYt]; exact cells_all fun p hp => peC_len (hps p (List.mem_of_mem_take hp))), .inl ⟨fl, by rw [List.length_take, Nat.min_eq_left (by omega)]⟩⟩ fun a ha => acall_fresh (nz := true) (by simp [go_sem, hB]) (validate2_in ps[i] a hp (hps a (List.mem_of_mem_take ha)))
        obtain ⟨-, -, -, d84, -, -⟩ := pe_parts hp
        have haL := hp.2.2.2.2
        have hDL : ∀ q ∈ alls (ps.take i), PfL q := fun q hq => by
          obtain ⟨r, hr, hq⟩ := List.mem_flatMap.1 hq
          exact (hps r (List.mem_of_mem_take hr)).2.2.2.2 q hq
        have hspl := fun k hk => @alls_split ps i k hc hk
        have hsuc := alls_succ hc
        clear hp
        replace hYt : Hid _ := hYt
        replace hcs : Hid _ := hcs
        replace hps : Hid _ := hps
        replace hal : Hid _ := hal
        replace hY : Hid _ := hY
        replace hna : Hid _ := hna
        replace hspl : Hid _ := hspl
        replace haL : Hid _ := haL
        replace hDL : Hid _ := hDL
        replace hG : Hid _ := hG
        generalize (ps.take i).any (fun q => q.1 == ps[i].1) = dup at *
        cases dup with
        | true =>
          rw [if_neg (hnn rfl)]
          clear hnn hnp
          generalize peC ps[i] = Q at *
          generalize ps[i].2.2.2.2.2 = al at *
          generalize al.flatMap pfC = R at *
          repeat' (first | (with_reducible first | apply jA | apply jB | apply jC | apply jD | apply jE | apply jF | apply jG | apply jH | apply jI | apply jJ | apply jK | apply jL | apply jM | apply jN | apply jO) | ((with_reducible first | apply jP | apply jQ); rfl) | ((first | ((with_reducible first | apply jR | apply jS | apply jT); rfl; rfl) | (with_reducible first | apply jU | apply jV | apply jW) | ((with_reducible first | apply jX | apply jY | apply jZ); rfl) | ((with_reducible first | apply kA | apply kB | apply kC); rfl)); all_goals (first | ((with_reducible show Is _ _); exact kE_VE0) | ((with_reducible refine fun (hc : (_ : Bool) = _) => ?_); (try simp only [xZ, xY, xP, reduceCtorEq] at hc); (try (have hx : True := hc; clear hx hc)); (try exact kX)) | ((with_reducible show ACall _ _ _ _ _); (first | ((with_reducible apply hcf2) <;> exact kD_VE0))) | ((fail_if_success (with_reducible first | show Is _ _ | show ACall _ _ _ _ _)); (try ((with_reducible show _ ∨ _); exact kT))))))
          rfl
        | false =>
          replace hnp := hnp rfl
          clear hnn
          replace hnp : Hid _ := hnp
          replace hn1 : Hid _ := hn1
          generalize peC ps[i] = Q at *
          obtain ⟨al, hale⟩ : ∃ al, ps[i].2.2.2.2.2 = al := ⟨_, rfl⟩
          rw [hale] at d84 hpa hsuc
          obtain ⟨R, hR⟩ : ∃ R, al.flatMap pfC = R := ⟨_, rfl⟩
          rw [hR] at d84
          replace hale : Hid _ := hale
          replace hR : Hid _ := hR
          repeat' (first | (with_reducible first | apply jA | apply jB | apply jC | apply jD | apply jE | apply jF | apply jG | apply jH | apply jI | apply jJ | apply jK | apply jL | apply jM | apply jN | apply jO) | ((with_reducible first | apply jP | apply jQ); rfl) | ((first | ((with_reducible first | apply jR | apply jS | apply jT); rfl; rfl) | (with_reducible first | apply jU | apply jV | apply jW) | ((with_reducible first | apply jX | apply jY | apply jZ); rfl) | ((with_reducible first | apply kA | apply kB | apply kC); rfl)); all_goals (first | ((with_reducible show Is _ _); exact kE_VE0) | ((with_reducible refine fun (hc : (_ : Bool) = _) => ?_); (try simp only [xZ, xY, xP, reduceCtorEq] at hc); (try (have hx : True := hc; clear hx hc)); (try exact kX)) | ((with_reducible show ACall _ _ _ _ _); (first | ((with_reducible apply hcf2) <;> exact kD_VE0))) | ((fail_if_success (with_reducible first | show Is _ _ | show ACall _ _ _ _ _)); (try ((with_reducible show _ ∨ _); exact kT))))))
          clear hcf2
          replace hG : GrowR pfC 18 1 c G (alls (ps.take i)) := hG
          replace hna : ∀ k hk, _ := hna
          replace hspl : ∀ k hk, _ := hspl
          replace haL : ∀ q ∈ ps[i].2.2.2.2.2, PfL q := haL
          replace hDL : ∀ q ∈ alls (ps.take i), PfL q := hDL
          replace hale : ps[i].2.2.2.2.2 = al := hale
          replace hR : al.flatMap pfC = R := hR
          replace hm16 : (alls ps).length ≤ 16 := hm16
          have hcsa := cells_all (f := pfC) (z := 18) (L := al) fun q hq => pfC_len (haL q (by rw [hale]; exact hq))
          rw [hR] at hcsa
          refine w_loop (fun fr B => ∃ (k : Nat) (G : List Box) (c : CV), k ≤ al.length ∧ (alls (ps.take i) ++ al.take k).Nodup ∧ fr 62 = .int .i64 k ∧ fr 61 = .int .i64 al.length ∧ fr 60 = .lst al.length R false ∧ fr 48 = .int .i64 i ∧ fr 47 = .int .i64 ps.length ∧ fr 46 = .lst ps.length Y false ∧ fr 6 = c ∧ fr 1 = .ptr 0 0 ∧ B = ⟨C, false⟩ :: G ∧ GrowR pfC 18 1 c G (alls (ps.take i) ++ al.take k)) (fun fr _ => al.length - natOf (fr 62)) ?_ ?_
          · exact ⟨0, _, c, by omega, by simpa using hn2, by (simp (disch := omega) [go_sem, *]) <;> (try omega), by (simp (disch := omega) [go_sem, *]) <;> (try omega), by (simp (disch := omega) [go_sem, *]) <;> (try omega), by (simp (disch := omega) [go_sem, *]) <;> (try omega), by (simp (disch := omega) [go_sem, *]) <;> (try omega), by (simp (disch := omega) [go_sem, *]) <;> (try omega), by (simp (disch := omega) [go_sem, *]) <;> (try omega), by (simp (disch := omega) [go_sem, *]) <;> (try omega), rfl, by rw [List.take_zero, List.append_nil]; exact hG.app _⟩
          clear hG f48 f47 f46 f6 f1 hn2 d84
          clear G c
          rintro fr B ⟨k, G, c, hk, hnd, f62, f61, f60, f48, f47, f46, f6, f1, rfl, hG⟩
          have hmk : natOf (fr 62) = k := by rw [f62]; rfl
          by_cases hck : k < al.length
          · obtain ⟨c1, c2⟩ := hcsa k hck
            have hxL := haL al[k] (by rw [hale]; exact List.getElem_mem hck)
            have hXl := pfC_len hxL
            have hM2 : alls (ps.take i) ++ al.take (k + 1) = (alls (ps.take i) ++ al.take k) ++ [al[k]] := by rw [List.take_succ_eq_append_getElem hck, List.append_assoc]
            have hML : ∀ q ∈ alls (ps.take i) ++ al.take k, PfL q := fun q hq => by
              rcases List.mem_append.1 hq with hq | hq
              · exact hDL q hq
              · exact haL q (by rw [hale]; exact List.mem_of_mem_take hq)
            have hMn : (alls (ps.take i) ++ al.take k).length ≤ 16 := by
              obtain ⟨Z, hZ⟩ := hspl k (by rw [hale]; exact hck)
              have := congrArg List.length hZ
              rw [List.length_append, List.length_cons, hale] at this
              omega
            have hnak : (alls (ps.take i) ++ al.take k).any (fun q => al[k] == q) = true → ¬ ((pubs ps).Nodup ∧ (alls ps).Nodup) := by
              subst hale
              exact hna k hck
            have hnx := @alls_next (alls (ps.take i) ++ al.take k) al[k] hnd
            rw [← hM2] at hnx
            generalize hMe : alls (ps.take i) ++ al.take k = M at *
            have hct : ∀ {B : List Box} {args : List CV}, Is (omap (Go.Sy.fz true false B 6) args) (some [.lst M.length (M.flatMap pfC) false, .agg (pfC al[k])]) → ACall Tryd.prog 65 args B fun c B' => c = .bool (M.any (fun q => al[k] == q)) ∧ B' = B := fun hz => acall_fresh hz (pfContains_in M al[k] hML hxL (by omega))
            have hfm : (M ++ [al[k]]).flatMap pfC = M.flatMap pfC ++ pfC al[k] := by simp
            have hfl := fl_len (f := pfC) (n := 18) (l := M) fun q hq => pfC_len (hML q hq)
            have ho : ∀ {nz fr : Bool} {B : List Box} {k2 : Nat}, omap (Go.Sy.fz nz fr B (k2 + 1)) (pfC al[k]) = some (pfC al[k]) := pf_om1 _
            have ho2 : ∀ {nz fr : Bool} {B : List Box} {k2 : Nat}, omap (Go.Sy.fz nz fr B (k2 + 1)) (M.flatMap pfC) = some (M.flatMap pfC) := pf_om M
            generalize M.any (fun q => al[k] == q) = dup at *
            clear hML hxL hna hspl haL hDL hcsa
            replace hM2 : Hid _ := hM2
            replace hnd : Hid _ := hnd
            replace hMe : Hid _ := hMe
            cases dup with
            | true =>
              rw [if_neg (hnak rfl)]
              clear hnak hnx
              obtain ⟨X, hX⟩ : ∃ X, pfC al[k] = X := ⟨_, rfl⟩
              rw [hX] at c2 hXl hct ho
              clear hX hfm
              obtain ⟨rfl, rfl⟩ | ⟨b, mm, hne, rfl, hb⟩ := hG
              · repeat' (first | (with_reducible first | apply jA | apply jB | apply jC | apply jD | apply jE | apply jF | apply jG | apply jH | apply jI | apply jJ | apply jK | apply jL | apply jM | apply jN | apply jO) | ((with_reducible first | apply jP | apply jQ); rfl) | ((first | ((with_reducible first | apply jR | apply jS | apply jT); rfl; rfl) | (with_reducible first | apply jU | apply jV | apply jW) | ((with_reducible first | apply jX | apply jY | apply jZ); rfl) | ((with_reducible first | apply kA | apply kB | apply kC); rfl)); all_goals (first | ((with_reducible show Is _ _); exact kE_VE0) | ((with_reducible refine fun (hc : (_ : Bool) = _) => ?_); (try simp only [xZ, xY, xP, reduceCtorEq] at hc); (try (have hx : True := hc; clear hx hc)); (try exact kX)) | ((with_reducible show ACall _ _ _ _ _); (first | ((with_reducible apply hct) <;> exact kD_VE0))) | ((fail_if_success (with_reducible first | show Is _ _ | show ACall _ _ _ _ _)); (try ((with_reducible show _ ∨ _); exact kT))))))
                rfl
              · have htk : (M.flatMap pfC).take (M.length * 18) = M.flatMap pfC := List.take_of_length_le (by omega)
                have xb := bx_pack hb
                generalize M.flatMap pfC = MF at *
                repeat' (first | (with_reducible first | apply jA | apply jB | apply jC | apply jD | apply jE | apply jF | apply jG | apply jH | apply jI | apply jJ | apply jK | apply jL | apply jM | apply jN | apply jO) | ((with_reducible first | apply jP | apply jQ); rfl) | ((first | ((with_reducible first | apply jR | apply jS | apply jT); rfl; rfl) | (with_reducible first | apply jU | apply jV | apply jW) | ((with_reducible first | apply jX | apply jY | apply jZ); rfl) | ((with_reducible first | apply kA | apply kB | apply kC); rfl)); all_goals (first | ((with_reducible show Is _ _); exact kE_VE0) | ((with_reducible refine fun (hc : (_ : Bool) = _) => ?_); (try simp only [xZ, xY, xP, reduceCtorEq] at hc); (try (have hx : True := hc; clear hx hc)); (try exact kX)) | ((with_reducible show ACall _ _ _ _ _); (first | ((with_reducible apply hct) <;> exact kD_VE0))) | ((fail_if_success (with_reducible first | show Is _ _ | show ACall _ _ _ _ _)); (try ((with_reducible show _ ∨ _); exact kT))))))
                rfl
            | false =>
              clear hnak
              replace hnx := hnx rfl
              replace hnx : Hid _ := hnx
              obtain ⟨X, hX⟩ : ∃ X, pfC al[k] = X := ⟨_, rfl⟩
              rw [hX] at c2 hXl hct ho hfm
              have hXt : X.take 18 = X := List.take_of_length_le (by omega)
              replace hX : Hid _ := hX
              obtain ⟨rfl, rfl⟩ | ⟨b, mm, hne, rfl, hb⟩ := hG
              · replace hfm : Hid _ := hfm
                repeat' (first | (with_reducible first | apply jA | apply jB | apply jC | apply jD | apply jE | apply jF | apply jG | apply jH | apply jI | apply jJ | apply jK | apply jL | apply jM | apply jN | apply jO) | ((with_reducible first | apply jP | apply jQ); rfl) | ((first | ((with_reducible first | apply jR | apply jS | apply jT); rfl; rfl) | (with_reducible first | apply jU | apply jV | apply jW) | ((with_reducible first | apply jX | apply jY | apply jZ); rfl) | ((with_reducible first | apply kA | apply kB | apply kC); rfl)); all_goals (first | ((with_reducible show Is _ _); exact kE_VE0) | ((with_reducible refine fun (hc : (_ : Bool) = _) => ?_); (try simp only [xZ, xY, xP, reduceCtorEq] at hc); (try (have hx : True := hc; clear hx hc)); (try exact kX)) | ((with_reducible show ACall _ _ _ _ _); (first | ((with_reducible apply hct) <;> exact kD_VE0))) | ((fail_if_success (with_reducible first | show Is _ _ | show ACall _ _ _ _ _)); (try ((with_reducible show _ ∨ _); exact kT))))))
                refine ⟨⟨k + 1, _, .view (G.length + 1 + 1) 0 1 18 false, by omega, hnx, by (simp (disch := omega) [go_sem, *]) <;> (try omega), by (simp (disch := omega) [go_sem, *]) <;> (try omega), by (simp (disch := omega) [go_sem, *]) <;> (try omega), by (simp (disch := omega) [go_sem, *]) <;> (try omega), by (simp (disch := omega) [go_sem, *]) <;> (try omega), by (simp (disch := omega) [go_sem, *]) <;> (try omega), by (simp (disch := omega) [go_sem, *]) <;> (try omega), by (simp (disch := omega) [go_sem, *]) <;> (try omega), rfl, ?_⟩, by (simp (disch := omega) [go_sem, *]) <;> (try omega)⟩
                have hM2 : alls (ps.take i) ++ al.take (k + 1) = [] ++ [al[k]] := hM2
                have hX : pfC al[k] = X := hX
                rw [hM2]
                refine .inr ⟨G.length + 1, false, by simp, rfl, ?_⟩
                rw [List.nil_append, List.flatMap_singleton, hX]
                simp [bx_get0, bx_get]
              · have htk : (M.flatMap pfC).take (M.length * 18) = M.flatMap pfC := List.take_of_length_le (by omega)
                have xb := bx_pack hb
                replace hfm : Hid _ := hfm
                obtain ⟨MF, hMF⟩ : ∃ MF, M.flatMap pfC = MF := ⟨_, rfl⟩
                rw [hMF] at hct hfl ho2 htk xb hb
                replace hMF : Hid _ := hMF
                repeat' (first | (with_reducible first | apply jA | apply jB | apply jC | apply jD | apply jE | apply jF | apply jG | apply jH | apply jI | apply jJ | apply jK | apply jL | apply jM | apply jN | apply jO) | ((with_reducible first | apply jP | apply jQ); rfl) | ((first | ((with_reducible first | apply jR | apply jS | apply jT); rfl; rfl) | (with_reducible first | apply jU | apply jV | apply jW) | ((with_reducible first | apply jX | apply jY | apply jZ); rfl) | ((with_reducible first | apply kA | apply kB | apply kC); rfl)); all_goals (first | ((with_reducible show Is _ _); exact kE_VE0) | ((with_reducible refine fun (hc : (_ : Bool) = _) => ?_); (try simp only [xZ, xY, xP, reduceCtorEq] at hc); (try (have hx : True := hc; clear hx hc)); (try exact kX)) | ((with_reducible show ACall _ _ _ _ _); (first | ((with_reducible apply hct) <;> exact kD_VE0))) | ((fail_if_success (with_reducible first | show Is _ _ | show ACall _ _ _ _ _)); (try ((with_reducible show _ ∨ _); exact kT))))))
                refine ⟨⟨k + 1, _, .view (b + 1) 0 (M.length + 1) 18 false, by omega, hnx, by (simp (disch := omega) [go_sem, *]) <;> (try omega), by (simp (disch := omega) [go_sem, *]) <;> (try omega), by (simp (disch := omega) [go_sem, *]) <;> (try omega), by (simp (disch := omega) [go_sem, *]) <;> (try omega), by (simp (disch := omega) [go_sem, *]) <;> (try omega), by (simp (disch := omega) [go_sem, *]) <;> (try omega), by (simp (disch := omega) [go_sem, *]) <;> (try omega), by (simp (disch := omega) [go_sem, *]) <;> (try omega), rfl, ?_⟩, by (simp (disch := omega) [go_sem, *]) <;> (try omega)⟩
                have hM2 : alls (ps.take i) ++ al.take (k + 1) = M ++ [al[k]] := hM2
                have hfm : (M ++ [al[k]]).flatMap pfC = MF ++ X := (show (M ++ [al[k]]).flatMap pfC = M.flatMap pfC ++ X from hfm).trans (by rw [show M.flatMap pfC = MF from hMF])
                rw [hM2]
                refine .inr ⟨b, true, by simp, by simp, ?_⟩
                rw [hfm]
                exact xb.2.2.2.1 _ _
          · obtain rfl : k = al.length := by omega
            rw [List.take_length, ← hsuc] at hnd hG
            clear hcsa
            replace hG : Hid _ := hG
            replace hnd : Hid _ := hnd
            repeat' (first | (with_reducible first | apply jA | apply jB | apply jC | apply jD | apply jE | apply jF | apply jG | apply jH | apply jI | apply jJ | apply jK | apply jL | apply jM | apply jN | apply jO) | ((with_reducible first | apply jP | apply jQ); rfl) | ((first | ((with_reducible first | apply jR | apply jS | apply jT); rfl; rfl) | (with_reducible first | apply jU | apply jV | apply jW) | ((with_reducible first | apply jX | apply jY | apply jZ); rfl)); all_goals (first | ((with_reducible show Is _ _); exact kE) | ((with_reducible refine fun (hc : (_ : Bool) = _) => ?_); (try simp only [xZ, xY, xP, reduceCtorEq] at hc); (try (have hx : True := hc; clear hx hc)); (try exact kX)) | ((fail_if_success (with_reducible first | show Is _ _ | show ACall _ _ _ _ _)); (try ((with_reducible show _ ∨ _); exact kT))))))
            exact ⟨⟨i + 1, G, c, by omega, hnp, hnd, by (simp (disch := omega) [go_sem, *]) <;> (try omega), by (simp (disch := omega) [go_sem, *]) <;> (try omega), by (simp (disch := omega) [go_sem, *]) <;> (try omega), by (simp (disch := omega) [go_sem, *]) <;> (try omega), by (simp (disch := omega) [go_sem, *]) <;> (try omega), rfl, hG⟩, by (simp (disch := omega) [go_sem, *]) <;> (try omega)⟩
      · obtain rfl : i = ps.length := by omega
        rw [List.take_length] at hn1 hn2
        rw [if_pos ⟨hn1, hn2⟩]
        repeat' (first | (with_reducible first | apply jA | apply jB | apply jC | apply jD | apply jE | apply jF | apply jG | apply jH | apply jI | apply jJ | apply jK | apply jL | apply jM | apply jN | apply jO) | ((with_reducible first | apply jP | apply jQ); rfl) | ((first | ((with_reducible first | apply jR | apply jS | apply jT); rfl; rfl) | (with_reducible first | apply jU | apply jV | apply jW) | ((with_reducible first | apply jX | apply jY | apply jZ); rfl)); all_goals (first | ((with_reducible show Is _ _); exact kE) | ((with_reducible refine fun (hc : (_ : Bool) = _) => ?_); (try simp only [xZ, xY, xP, reduceCtorEq] at hc); (try (have hx : True := hc; clear hx hc)); (try exact kX)) | ((fail_if_success (with_reducible first | show Is _ _ | show ACall _ _ _ _ _)); (try ((with_reducible show _ ∨ _); exact kT))))))
        rfl
end Go.Proofs.YtdceppjoipoohaaDoor
end
