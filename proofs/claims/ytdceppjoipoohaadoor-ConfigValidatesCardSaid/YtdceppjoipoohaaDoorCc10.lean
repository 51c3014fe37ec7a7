/- Lemmas and definitions of this claim (own texts, joined by a program; what the claim does not use is left out). -/
import Derived.Test.YtdceppjoipoohaaDoorCc9
section
namespace Go.Proofs.YtdceppjoipoohaaDoor
open Go Go.Sy
set_option linter.all false
set_option maxRecDepth 100000
set_option maxHeartbeats 4000000
theorem kE_VF0 {α : Type} {x y : α} (h : Is x y := by first | ((try simp (disch := first | omega | (simp only [yZ, yB] <;> omega) | fail) [go_sem, yY, *, bx_get0, bx_get, if_pos, if_neg, -List.map_take, -List.map_drop, -List.map_append, -List.map_reverse]); exact rfl) | fail) : Is x y := h
theorem kD_VF0 {p : Prop} (h : p := by (first | omega | assumption | exact rfl | ((simp (disch := first | omega | (simp only [yZ, yB] <;> omega) | fail) [go_sem, yY, *, bx_get0, bx_get, -List.map_take, -List.map_drop, -List.map_append, -List.map_reverse]) <;> (first | done | omega | exact rfl)) | fail)) : p := h
theorem alls_leB {b : Nat} {ps : List Pe} (h : ∀ p ∈ ps, p.2.2.2.2.2.length < b) : (alls ps).length ≤ ps.length * b := by
  induction ps with
  | nil => simp [alls]
  | cons p ps ih =>
    have h1 := h p (by simp)
    have h2 := ih fun q hq => h q (by simp [hq])
    simp only [alls, List.flatMap_cons, List.length_append, List.length_cons, Nat.succ_mul] at h2 ⊢
    omega
theorem rvalidate_in (K : List UInt8) (port : Int) (ps : List Pe) (hK : K.length = 32) (hpo : -9223372036854775808 ≤ port ∧ port ≤ 9223372036854775807) (hps : ∀ p ∈ ps, PeL p) (hl : ps.length < 1000) (hal : ∀ p ∈ ps, p.2.2.2.2.2.length < 1000) : PC Tryd.prog true 28 [.agg (cfC (K, port, ps))] (.int .i64 (valC port ps)) := by
  have hcs := cells_all (f := peC) (z := 85) (L := ps) fun p hp => peC_len (hps p hp)
  obtain ⟨d32, d33, -, hCl⟩ := cf_parts (c := (K, port, ps)) hK
  dsimp only at d32 d33
  generalize cfC (K, port, ps) = C at *
  obtain ⟨Y, hY⟩ : ∃ Y, ps.flatMap peC = Y := ⟨_, rfl⟩
  rw [hY] at hcs d32 d33
  replace hY : Hid _ := hY
  replace hcs : Hid _ := hcs
  replace hps : Hid _ := hps
  replace hal : Hid _ := hal
  refine acall_intro mixed Tryd.func28 rfl ca28 (by kernel_rfl) (by rw [Tryd.ntmps28]; simp) ?_
  repeat' (first | (with_reducible first | apply jA | apply jB | apply jC | apply jD | apply jE | apply jF | apply jG | apply jH | apply jI | apply jJ | apply jK | apply jL | apply jM | apply jN | apply jO) | ((with_reducible first | apply jP | apply jQ); rfl) | ((first | ((with_reducible first | apply jR | apply jS | apply jT); rfl; rfl) | (with_reducible first | apply jU | apply jV | apply jW) | ((with_reducible first | apply jX | apply jY | apply jZ); rfl)); all_goals (first | ((with_reducible show Is _ _); exact kE) | ((with_reducible refine fun (hc : (_ : Bool) = _) => ?_); (try simp only [xZ, xY, xP, reduceCtorEq] at hc); (try (have hx : True := hc; clear hx hc)); (try exact kX)) | ((fail_if_success (with_reducible first | show Is _ _ | show ACall _ _ _ _ _)); (try ((with_reducible show _ ∨ _); exact kT))))))
  refine w_loop (fun fr B => ∃ (j : Nat) (G : List Box) (c : CV), j ≤ ps.length ∧ fr 3 = c ∧ fr 19 = .int .i64 j ∧ fr 18 = .int .i64 ps.length ∧ fr 17 = .lst ps.length Y false ∧ fr 1 = .ptr 0 0 ∧ B = ⟨C, false⟩ :: G ∧ GrowR pfC 18 1 c G (alls (ps.take j))) (fun fr _ => ps.length - natOf (fr 19)) ?_ ?_
  · exact ⟨0, [], .nilS, by omega, by (simp (disch := omega) [go_sem, *]) <;> (try omega), by (simp (disch := omega) [go_sem, *]) <;> (try omega), by (simp (disch := omega) [go_sem, *]) <;> (try omega), by (simp (disch := omega) [go_sem, *]) <;> (try omega), by (simp (disch := omega) [go_sem, *]) <;> (try omega), rfl, .inl ⟨rfl, rfl⟩⟩
  rintro fr B ⟨j, G, c, hj, f3, f19, f18, f17, f1, rfl, hG⟩
  have hm0 : natOf (fr 19) = j := by rw [f19]; rfl
  by_cases hc : j < ps.length
  · have hcs : Cells peC 85 Y ps := hcs
    have hps : ∀ p ∈ ps, PeL p := hps
    have hal : ∀ p ∈ ps, p.2.2.2.2.2.length < 1000 := hal
    obtain ⟨c1, c2⟩ := hcs j hc
    have hp := hps ps[j] (List.getElem_mem hc)
    have hpl := peC_len hp
    have hpa := hal ps[j] (List.getElem_mem hc)
    have hnx := alls_succ hc
    have hle : (alls (ps.take j)).length < 1000000 := by
      have := alls_leB (b := 1000) (ps := ps.take j) fun p hp => hal p (List.mem_of_mem_take hp)
      rw [List.length_take] at this
      have h2 : min j ps.length ≤ 999 := by omega
      have := Nat.mul_le_mul_right 1000 h2
      omega
    obtain ⟨-, -, -, d84, -, -⟩ := pe_parts hp
    have hRl := fl_len (f := pfC) (n := 18) (l := ps[j].2.2.2.2.2) fun q hq => pfC_len (hp.2.2.2.2 q hq)
    have hDl := fl_len (f := pfC) (n := 18) (l := alls (ps.take j)) fun q hq => by
      obtain ⟨r, hr, hq⟩ := List.mem_flatMap.1 hq
      exact pfC_len ((hps r (List.mem_of_mem_take hr)).2.2.2.2 q hq)
    clear hp hcs hps hal
    generalize peC ps[j] = Q at *
    generalize ps[j].2.2.2.2.2 = al at *
    generalize alls (ps.take j) = D at *
    replace hnx : Hid _ := hnx
    obtain ⟨R, hR⟩ : ∃ R, al.flatMap pfC = R := ⟨_, rfl⟩
    rw [hR] at d84 hRl
    obtain ⟨rfl, rfl⟩ | ⟨b, mm, hne, rfl, hb⟩ := hG
    · by_cases ha : al = []
      · obtain rfl : R = [] := by rw [← hR, ha]; rfl
        have hal0 : al.length = 0 := by rw [ha]; rfl
        rw [hal0] at d84
        replace ha : Hid _ := ha
        repeat' (first | (with_reducible first | apply jA | apply jB | apply jC | apply jD | apply jE | apply jF | apply jG | apply jH | apply jI | apply jJ | apply jK | apply jL | apply jM | apply jN | apply jO) | ((with_reducible first | apply jP | apply jQ); rfl) | ((first | ((with_reducible first | apply jR | apply jS | apply jT); rfl; rfl) | (with_reducible first | apply jU | apply jV | apply jW) | ((with_reducible first | apply jX | apply jY | apply jZ); rfl)); all_goals (first | ((with_reducible show Is _ _); exact kE_VF0) | ((with_reducible refine fun (hc : (_ : Bool) = _) => ?_); (try simp only [xZ, xY, xP, reduceCtorEq] at hc); (try (have hx : True := hc; clear hx hc)); (try exact kX)) | ((fail_if_success (with_reducible first | show Is _ _ | show ACall _ _ _ _ _)); (try ((with_reducible show _ ∨ _); exact kT))))))
        refine ⟨⟨j + 1, _, .nilS, by omega, by (simp (disch := omega) [go_sem, *]) <;> (try omega), by (simp (disch := omega) [go_sem, *]) <;> (try omega), by (simp (disch := omega) [go_sem, *]) <;> (try omega), by (simp (disch := omega) [go_sem, *]) <;> (try omega), by (simp (disch := omega) [go_sem, *]) <;> (try omega), rfl, ?_⟩, by (simp (disch := omega) [go_sem, *]) <;> (try omega)⟩
        replace hnx : alls (ps.take (j + 1)) = [] ++ al := hnx
        rw [hnx]
        exact .inl ⟨ha, rfl⟩
      · have ha0 : al.length ≠ 0 := by simpa using ha
        have hRt : R.take (al.length * 18) = R := List.take_of_length_le (by omega)
        replace ha : Hid _ := ha
        repeat' (first | (with_reducible first | apply jA | apply jB | apply jC | apply jD | apply jE | apply jF | apply jG | apply jH | apply jI | apply jJ | apply jK | apply jL | apply jM | apply jN | apply jO) | ((with_reducible first | apply jP | apply jQ); rfl) | ((first | ((with_reducible first | apply jR | apply jS | apply jT); rfl; rfl) | (with_reducible first | apply jU | apply jV | apply jW) | ((with_reducible first | apply jX | apply jY | apply jZ); rfl)); all_goals (first | ((with_reducible show Is _ _); exact kE_VF0) | ((with_reducible refine fun (hc : (_ : Bool) = _) => ?_); (try simp only [xZ, xY, xP, reduceCtorEq] at hc); (try (have hx : True := hc; clear hx hc)); (try exact kX)) | ((fail_if_success (with_reducible first | show Is _ _ | show ACall _ _ _ _ _)); (try ((with_reducible show _ ∨ _); exact kT))))))
        refine ⟨⟨j + 1, _, .view (G.length + 1 + 1) 0 al.length 18 false, by omega, by (simp (disch := omega) [go_sem, *]) <;> (try omega), by (simp (disch := omega) [go_sem, *]) <;> (try omega), by (simp (disch := omega) [go_sem, *]) <;> (try omega), by (simp (disch := omega) [go_sem, *]) <;> (try omega), by (simp (disch := omega) [go_sem, *]) <;> (try omega), rfl, ?_⟩, by (simp (disch := omega) [go_sem, *]) <;> (try omega)⟩
        replace hnx : alls (ps.take (j + 1)) = [] ++ al := hnx
        rw [hnx]
        refine .inr ⟨G.length + 1, false, ha, rfl, ?_⟩
        rw [List.nil_append, hR]
        simp [bx_get0, bx_get]
    · have xb := bx_pack hb
      by_cases ha : al = []
      · obtain rfl : R = [] := by rw [← hR, ha]; rfl
        have hal0 : al.length = 0 := by rw [ha]; rfl
        rw [hal0] at d84
        replace ha : Hid _ := ha
        repeat' (first | (with_reducible first | apply jA | apply jB | apply jC | apply jD | apply jE | apply jF | apply jG | apply jH | apply jI | apply jJ | apply jK | apply jL | apply jM | apply jN | apply jO) | ((with_reducible first | apply jP | apply jQ); rfl) | ((first | ((with_reducible first | apply jR | apply jS | apply jT); rfl; rfl) | (with_reducible first | apply jU | apply jV | apply jW) | ((with_reducible first | apply jX | apply jY | apply jZ); rfl)); all_goals (first | ((with_reducible show Is _ _); exact kE_VF0) | ((with_reducible refine fun (hc : (_ : Bool) = _) => ?_); (try simp only [xZ, xY, xP, reduceCtorEq] at hc); (try (have hx : True := hc; clear hx hc)); (try exact kX)) | ((fail_if_success (with_reducible first | show Is _ _ | show ACall _ _ _ _ _)); (try ((with_reducible show _ ∨ _); exact kT))))))
        refine ⟨⟨j + 1, _, .view (b + 1) 0 D.length 18 false, by omega, by (simp (disch := omega) [go_sem, *]) <;> (try omega), by (simp (disch := omega) [go_sem, *]) <;> (try omega), by (simp (disch := omega) [go_sem, *]) <;> (try omega), by (simp (disch := omega) [go_sem, *]) <;> (try omega), by (simp (disch := omega) [go_sem, *]) <;> (try omega), rfl, ?_⟩, by (simp (disch := omega) [go_sem, *]) <;> (try omega)⟩
        replace hnx : alls (ps.take (j + 1)) = D ++ al := hnx
        rw [hnx]
        replace ha : al = [] := ha
        rw [ha, List.append_nil]
        exact GrowR.app (.inr ⟨b, mm, hne, rfl, hb⟩) _
      · have ha0 : al.length ≠ 0 := by simpa using ha
        have hRt : R.take (al.length * 18) = R := List.take_of_length_le (by omega)
        have htk : (D.flatMap pfC).take (D.length * 18) = D.flatMap pfC := List.take_of_length_le (by omega)
        replace ha : Hid _ := ha
        repeat' (first | (with_reducible first | apply jA | apply jB | apply jC | apply jD | apply jE | apply jF | apply jG | apply jH | apply jI | apply jJ | apply jK | apply jL | apply jM | apply jN | apply jO) | ((with_reducible first | apply jP | apply jQ); rfl) | ((first | ((with_reducible first | apply jR | apply jS | apply jT); rfl; rfl) | (with_reducible first | apply jU | apply jV | apply jW) | ((with_reducible first | apply jX | apply jY | apply jZ); rfl)); all_goals (first | ((with_reducible show Is _ _); exact kE_VF0) | ((with_reducible refine fun (hc : (_ : Bool) = _) => ?_); (try simp only [xZ, xY, xP, reduceCtorEq] at hc); (try (have hx : True := hc; clear hx hc)); (try exact kX)) | ((fail_if_success (with_reducible first | show Is _ _ | show ACall _ _ _ _ _)); (try ((with_reducible show _ ∨ _); exact kT))))))
        refine ⟨⟨j + 1, _, .view (b + 1) 0 (D.length + al.length) 18 false, by omega, by (simp (disch := omega) [go_sem, *]) <;> (try omega), by (simp (disch := omega) [go_sem, *]) <;> (try omega), by (simp (disch := omega) [go_sem, *]) <;> (try omega), by (simp (disch := omega) [go_sem, *]) <;> (try omega), by (simp (disch := omega) [go_sem, *]) <;> (try omega), rfl, ?_⟩, by (simp (disch := omega) [go_sem, *]) <;> (try omega)⟩
        replace hnx : alls (ps.take (j + 1)) = D ++ al := hnx
        rw [hnx]
        refine .inr ⟨b, true, by simp [hne], by rw [List.length_append], ?_⟩
        rw [List.flatMap_append, hR]
        exact xb.2.2.2.1 _ _
  · obtain rfl : j = ps.length := by omega
    rw [List.take_length] at hG
    have hlen : ∀ {B : List Box}, True := trivial
    obtain ⟨M, hM⟩ : ∃ M, alls ps = M := ⟨_, rfl⟩
    have hMn : M.length < 1000000 := by
      have := alls_leB (b := 1000) (ps := ps) (show ∀ p ∈ ps, p.2.2.2.2.2.length < 1000 from hal)
      rw [hM] at this
      have h2 : ps.length ≤ 999 := by omega
      have := Nat.mul_le_mul_right 1000 h2
      omega
    have hML : ∀ q ∈ M, PfL q := fun q hq => by
      rw [← hM] at hq
      obtain ⟨r, hr, hq⟩ := List.mem_flatMap.1 hq
      exact ((show ∀ p ∈ ps, PeL p from hps) r hr).2.2.2.2 q hq
    rw [hM] at hG
    rw [valC, hM]
    have hc3 : (c = .nilS ∧ M.length = 0) ∨ ∃ b, c = .view (b + 1) 0 M.length 18 false := by
      rcases hG with ⟨h1, h2⟩ | ⟨b, mm, -, h3, -⟩
      · exact .inl ⟨h2, by rw [h1]; rfl⟩
      · exact .inr ⟨b, h3⟩
    replace hML : Hid _ := hML
    replace hG : Hid _ := hG
    replace hM : Hid _ := hM
    by_cases h8 : 8 < ps.length
    · rw [if_pos (.inl h8)]
      rcases hc3 with ⟨rfl, hM0⟩ | ⟨b, rfl⟩
      · repeat' (first | (with_reducible first | apply jA | apply jB | apply jC | apply jD | apply jE | apply jF | apply jG | apply jH | apply jI | apply jJ | apply jK | apply jL | apply jM | apply jN | apply jO) | ((with_reducible first | apply jP | apply jQ); rfl) | ((first | ((with_reducible first | apply jR | apply jS | apply jT); rfl; rfl) | (with_reducible first | apply jU | apply jV | apply jW) | ((with_reducible first | apply jX | apply jY | apply jZ); rfl)); all_goals (first | ((with_reducible show Is _ _); exact kE) | ((with_reducible refine fun (hc : (_ : Bool) = _) => ?_); (try simp only [xZ, xY, xP, reduceCtorEq] at hc); (try (have hx : True := hc; clear hx hc)); (try exact kX)) | ((fail_if_success (with_reducible first | show Is _ _ | show ACall _ _ _ _ _)); (try ((with_reducible show _ ∨ _); exact kT))))))
        rfl
      · repeat' (first | (with_reducible first | apply jA | apply jB | apply jC | apply jD | apply jE | apply jF | apply jG | apply jH | apply jI | apply jJ | apply jK | apply jL | apply jM | apply jN | apply jO) | ((with_reducible first | apply jP | apply jQ); rfl) | ((first | ((with_reducible first | apply jR | apply jS | apply jT); rfl; rfl) | (with_reducible first | apply jU | apply jV | apply jW) | ((with_reducible first | apply jX | apply jY | apply jZ); rfl)); all_goals (first | ((with_reducible show Is _ _); exact kE) | ((with_reducible refine fun (hc : (_ : Bool) = _) => ?_); (try simp only [xZ, xY, xP, reduceCtorEq] at hc); (try (have hx : True := hc; clear hx hc)); (try exact kX)) | ((fail_if_success (with_reducible first | show Is _ _ | show ACall _ _ _ _ _)); (try ((with_reducible show _ ∨ _); exact kT))))))
        rfl
    by_cases h16 : 16 < M.length
    · rw [if_pos (.inr h16)]
      rcases hc3 with ⟨rfl, hM0⟩ | ⟨b, rfl⟩
      · omega
      · repeat' (first | (with_reducible first | apply jA | apply jB | apply jC | apply jD | apply jE | apply jF | apply jG | apply jH | apply jI | apply jJ | apply jK | apply jL | apply jM | apply jN | apply jO) | ((with_reducible first | apply jP | apply jQ); rfl) | ((first | ((with_reducible first | apply jR | apply jS | apply jT); rfl; rfl) | (with_reducible first | apply jU | apply jV | apply jW) | ((with_reducible first | apply jX | apply jY | apply jZ); rfl)); all_goals (first | ((with_reducible show Is _ _); exact kE) | ((with_reducible refine fun (hc : (_ : Bool) = _) => ?_); (try simp only [xZ, xY, xP, reduceCtorEq] at hc); (try (have hx : True := hc; clear hx hc)); (try exact kX)) | ((fail_if_success (with_reducible first | show Is _ _ | show ACall _ _ _ _ _)); (try ((with_reducible show _ ∨ _); exact kT))))))
        rfl
    rw [if_neg (by omega)]
    by_cases hp0 : port < 0
    · rw [if_pos (.inl hp0)]
      rcases hc3 with ⟨rfl, hM0⟩ | ⟨b, rfl⟩
      · repeat' (first | (with_reducible first | apply jA | apply jB | apply jC | apply jD | apply jE | apply jF | apply jG | apply jH | apply jI | apply jJ | apply jK | apply jL | apply jM | apply jN | apply jO) | ((with_reducible first | apply jP | apply jQ); rfl) | ((first | ((with_reducible first | apply jR | apply jS | apply jT); rfl; rfl) | (with_reducible first | apply jU | apply jV | apply jW) | ((with_reducible first | apply jX | apply jY | apply jZ); rfl)); all_goals (first | ((with_reducible show Is _ _); exact kE) | ((with_reducible refine fun (hc : (_ : Bool) = _) => ?_); (try simp only [xZ, xY, xP, reduceCtorEq] at hc); (try (have hx : True := hc; clear hx hc)); (try exact kX)) | ((fail_if_success (with_reducible first | show Is _ _ | show ACall _ _ _ _ _)); (try ((with_reducible show _ ∨ _); exact kT))))))
        rfl
      · repeat' (first | (with_reducible first | apply jA | apply jB | apply jC | apply jD | apply jE | apply jF | apply jG | apply jH | apply jI | apply jJ | apply jK | apply jL | apply jM | apply jN | apply jO) | ((with_reducible first | apply jP | apply jQ); rfl) | ((first | ((with_reducible first | apply jR | apply jS | apply jT); rfl; rfl) | (with_reducible first | apply jU | apply jV | apply jW) | ((with_reducible first | apply jX | apply jY | apply jZ); rfl)); all_goals (first | ((with_reducible show Is _ _); exact kE) | ((with_reducible refine fun (hc : (_ : Bool) = _) => ?_); (try simp only [xZ, xY, xP, reduceCtorEq] at hc); (try (have hx : True := hc; clear hx hc)); (try exact kX)) | ((fail_if_success (with_reducible first | show Is _ _ | show ACall _ _ _ _ _)); (try ((with_reducible show _ ∨ _); exact kT))))))
        rfl
    by_cases hp1 : 65535 < port
    · rw [if_pos (.inr (.inl hp1))]
      rcases hc3 with ⟨rfl, hM0⟩ | ⟨b, rfl⟩
      · repeat' (first | (with_reducible first | apply jA | apply jB | apply jC | apply jD | apply jE | apply jF | apply jG | apply jH | apply jI | apply jJ | apply jK | apply jL | apply jM | apply jN | apply jO) | ((with_reducible first | apply jP | apply jQ); rfl) | ((first | ((with_reducible first | apply jR | apply jS | apply jT); rfl; rfl) | (with_reducible first | apply jU | apply jV | apply jW) | ((with_reducible first | apply jX | apply jY | apply jZ); rfl)); all_goals (first | ((with_reducible show Is _ _); exact kE) | ((with_reducible refine fun (hc : (_ : Bool) = _) => ?_); (try simp only [xZ, xY, xP, reduceCtorEq] at hc); (try (have hx : True := hc; clear hx hc)); (try exact kX)) | ((fail_if_success (with_reducible first | show Is _ _ | show ACall _ _ _ _ _)); (try ((with_reducible show _ ∨ _); exact kT))))))
        rfl
      · repeat' (first | (with_reducible first | apply jA | apply jB | apply jC | apply jD | apply jE | apply jF | apply jG | apply jH | apply jI | apply jJ | apply jK | apply jL | apply jM | apply jN | apply jO) | ((with_reducible first | apply jP | apply jQ); rfl) | ((first | ((with_reducible first | apply jR | apply jS | apply jT); rfl; rfl) | (with_reducible first | apply jU | apply jV | apply jW) | ((with_reducible first | apply jX | apply jY | apply jZ); rfl)); all_goals (first | ((with_reducible show Is _ _); exact kE) | ((with_reducible refine fun (hc : (_ : Bool) = _) => ?_); (try simp only [xZ, xY, xP, reduceCtorEq] at hc); (try (have hx : True := hc; clear hx hc)); (try exact kX)) | ((fail_if_success (with_reducible first | show Is _ _ | show ACall _ _ _ _ _)); (try ((with_reducible show _ ∨ _); exact kT))))))
        rfl
    rcases hc3 with ⟨rfl, hM0⟩ | ⟨b, rfl⟩
    · repeat' (first | (with_reducible first | apply jA | apply jB | apply jC | apply jD | apply jE | apply jF | apply jG | apply jH | apply jI | apply jJ | apply jK | apply jL | apply jM | apply jN | apply jO) | ((with_reducible first | apply jP | apply jQ); rfl) | ((first | ((with_reducible first | apply jR | apply jS | apply jT); rfl; rfl) | (with_reducible first | apply jU | apply jV | apply jW) | ((with_reducible first | apply jX | apply jY | apply jZ); rfl)); all_goals (first | ((with_reducible show Is _ _); exact kE) | ((with_reducible refine fun (hc : (_ : Bool) = _) => ?_); (try simp only [xZ, xY, xP, reduceCtorEq] at hc); (try (have hx : True := hc; clear hx hc)); (try exact kX)) | ((fail_if_success (with_reducible first | show Is _ _ | show ACall _ _ _ _ _)); (try ((with_reducible show _ ∨ _); exact kT))))))
      clear hm0 f19 f18 f17
      replace hG : GrowR pfC 18 1 .nilS G M := hG
      have hcs : Cells peC 85 Y ps := hcs
      have hps : ∀ p ∈ ps, PeL p := hps
      have hal : ∀ p ∈ ps, p.2.2.2.2.2.length < 1000 := hal
      have hY : ps.flatMap peC = Y := hY
      refine w_loop (fun fr B => ∃ (k : Nat) (G : List Box), k ≤ ps.length ∧ (ps.take k).all okPe = true ∧ fr 48 = .int .i64 k ∧ fr 47 = .int .i64 ps.length ∧ fr 46 = .lst ps.length Y false ∧ fr 3 = .nilS ∧ fr 1 = .ptr 0 0 ∧ B = ⟨C, false⟩ :: G ∧ GrowR pfC 18 1 .nilS G M) (fun fr _ => ps.length - natOf (fr 48)) ?_ ?_
      · exact ⟨0, G, by omega, rfl, by (simp (disch := omega) [go_sem, *]) <;> (try omega), by (simp (disch := omega) [go_sem, *]) <;> (try omega), by (simp (disch := omega) [go_sem, *]) <;> (try omega), by (simp (disch := omega) [go_sem, *]) <;> (try omega), by (simp (disch := omega) [go_sem, *]) <;> (try omega), rfl, hG⟩
      clear f3 f1 hG
      clear G
      rintro fr B ⟨k, G, hk, hok, f48, f47, f46, f3, f1, rfl, hG⟩
      have hm0 : natOf (fr 48) = k := by rw [f48]; rfl
      by_cases hck : k < ps.length
      · obtain ⟨c1, c2⟩ := hcs k hck
        have hp := hps ps[k] (List.getElem_mem hck)
        have hpl := peC_len hp
        have hpa := hal ps[k] (List.getElem_mem hck)
        have hrg : ∀ {B : List Box} {args : List CV}, Is (omap (Go.Sy.fz true false B 6) args) (some [.agg (peC ps[k])]) → ACall Tryd.prog 66 args B fun c B' => c = .bool (okPe ps[k]) ∧ B' = B := fun hz => acall_fresh hz (right_in ps[k] hp (by omega))
        have hnx : (ps.take (k + 1)).all okPe = okPe ps[k] := by rw [List.take_succ_eq_append_getElem hck, List.all_append, hok]; simp
        have hno : okPe ps[k] = false → ps.all okPe = false := fun h => by
          rw [List.all_eq_false]; exact ⟨_, List.getElem_mem hck, by simp [h]⟩
        have ho : ∀ {nz : Bool} {B : List Box} {k2 : Nat}, omap (Go.Sy.fz nz false B (k2 + 2)) (peC ps[k]) = some (peC ps[k]) := pe_om1 _
        generalize okPe ps[k] = v at *
        generalize peC ps[k] = Q at *
        replace hcs : Hid _ := hcs
        replace hps : Hid _ := hps
        replace hal : Hid _ := hal
        replace hY : Hid _ := hY
        replace hG : Hid _ := hG
        cases v
        · rw [if_pos (.inr (.inr (hno rfl)))]
          clear hno hnx hp
          repeat' (first | (with_reducible first | apply jA | apply jB | apply jC | apply jD | apply jE | apply jF | apply jG | apply jH | apply jI | apply jJ | apply jK | apply jL | apply jM | apply jN | apply jO) | ((with_reducible first | apply jP | apply jQ); rfl) | ((first | ((with_reducible first | apply jR | apply jS | apply jT); rfl; rfl) | (with_reducible first | apply jU | apply jV | apply jW) | ((with_reducible first | apply jX | apply jY | apply jZ); rfl) | ((with_reducible first | apply kA | apply kB | apply kC); rfl)); all_goals (first | ((with_reducible show Is _ _); exact kE_VF0) | ((with_reducible refine fun (hc : (_ : Bool) = _) => ?_); (try simp only [xZ, xY, xP, reduceCtorEq] at hc); (try (have hx : True := hc; clear hx hc)); (try exact kX)) | ((with_reducible show ACall _ _ _ _ _); (first | ((with_reducible apply hrg) <;> exact kD_VF0))) | ((fail_if_success (with_reducible first | show Is _ _ | show ACall _ _ _ _ _)); (try ((with_reducible show _ ∨ _); exact kT))))))
          rfl
        · clear hno hp
          replace hnx : Hid _ := hnx
          repeat' (first | (with_reducible first | apply jA | apply jB | apply jC | apply jD | apply jE | apply jF | apply jG | apply jH | apply jI | apply jJ | apply jK | apply jL | apply jM | apply jN | apply jO) | ((with_reducible first | apply jP | apply jQ); rfl) | ((first | ((with_reducible first | apply jR | apply jS | apply jT); rfl; rfl) | (with_reducible first | apply jU | apply jV | apply jW) | ((with_reducible first | apply jX | apply jY | apply jZ); rfl) | ((with_reducible first | apply kA | apply kB | apply kC); rfl)); all_goals (first | ((with_reducible show Is _ _); exact kE_VF0) | ((with_reducible refine fun (hc : (_ : Bool) = _) => ?_); (try simp only [xZ, xY, xP, reduceCtorEq] at hc); (try (have hx : True := hc; clear hx hc)); (try exact kX)) | ((with_reducible show ACall _ _ _ _ _); (first | ((with_reducible apply hrg) <;> exact kD_VF0))) | ((fail_if_success (with_reducible first | show Is _ _ | show ACall _ _ _ _ _)); (try ((with_reducible show _ ∨ _); exact kT))))))
          exact ⟨⟨k + 1, _, by omega, hnx, by (simp (disch := omega) [go_sem, *]) <;> (try omega), by (simp (disch := omega) [go_sem, *]) <;> (try omega), by (simp (disch := omega) [go_sem, *]) <;> (try omega), by (simp (disch := omega) [go_sem, *]) <;> (try omega), by (simp (disch := omega) [go_sem, *]) <;> (try omega), rfl, GrowR.app hG _⟩, by (simp (disch := omega) [go_sem, *]) <;> (try omega)⟩
      obtain rfl : k = ps.length := by omega
      rw [List.take_length] at hok
      rw [hok, if_neg (by simp; omega)]
      replace hG : Hid _ := hG
      clear hok hal
      repeat' (first | (with_reducible first | apply jA | apply jB | apply jC | apply jD | apply jE | apply jF | apply jG | apply jH | apply jI | apply jJ | apply jK | apply jL | apply jM | apply jN | apply jO) | ((with_reducible first | apply jP | apply jQ); rfl) | ((first | ((with_reducible first | apply jR | apply jS | apply jT); rfl; rfl) | (with_reducible first | apply jU | apply jV | apply jW) | ((with_reducible first | apply jX | apply jY | apply jZ); rfl)); all_goals (first | ((with_reducible show Is _ _); exact kE) | ((with_reducible refine fun (hc : (_ : Bool) = _) => ?_); (try simp only [xZ, xY, xP, reduceCtorEq] at hc); (try (have hx : True := hc; clear hx hc)); (try exact kX)) | ((fail_if_success (with_reducible first | show Is _ _ | show ACall _ _ _ _ _)); (try ((with_reducible show _ ∨ _); exact kT))))))
      replace hG : GrowR pfC 18 1 .nilS G M := hG
      clear hm0 f48 f47 f46
      refine w_loop (fun fr B => ∃ (i : Nat) (G : List Box), i ≤ ps.length ∧ (pubs (ps.take i)).Nodup ∧ fr 59 = .int .i64 i ∧ fr 58 = .int .i64 ps.length ∧ fr 57 = .lst ps.length Y false ∧ fr 3 = .nilS ∧ fr 1 = .ptr 0 0 ∧ B = ⟨C, false⟩ :: G ∧ GrowR pfC 18 1 .nilS G M) (fun fr _ => ps.length - natOf (fr 59)) ?_ ?_
      · exact ⟨0, G, by omega, by simp [pubs], by (simp (disch := omega) [go_sem, *]) <;> (try omega), by (simp (disch := omega) [go_sem, *]) <;> (try omega), by (simp (disch := omega) [go_sem, *]) <;> (try omega), by (simp (disch := omega) [go_sem, *]) <;> (try omega), by (simp (disch := omega) [go_sem, *]) <;> (try omega), rfl, hG⟩
      clear f3 f1 hG
      clear G
      rintro fr B ⟨i, G, hi, hn1, f59, f58, f57, f3, f1, rfl, hG⟩
      have hm0 : natOf (fr 59) = i := by rw [f59]; rfl
      by_cases hci : i < ps.length
      · obtain ⟨c1, c2⟩ := hcs i hci
        have hp := hps ps[i] (List.getElem_mem hci)
        have hpl := peC_len hp
        have hnn := @not_nodup_pub ps i hci
        have hnp := pubs_next hci hn1
        obtain ⟨-, -, -, -, t32, -⟩ := pe_parts hp
        have hp1 := hp.1
        clear hp
        obtain ⟨Q, hQ⟩ : ∃ Q, peC ps[i] = Q := ⟨_, rfl⟩
        rw [hQ] at c2 hpl t32
        replace hQ : Hid _ := hQ
        obtain ⟨u, hu⟩ : ∃ u, ps[i].1 = u := ⟨_, rfl⟩
        rw [hu] at hp1 t32 hnn hnp
        replace hcs : Hid _ := hcs
        replace hps : Hid _ := hps
        replace hY : Hid _ := hY
        replace hG : Hid _ := hG
        replace hn1 : Hid _ := hn1
        replace hnn : Hid _ := hnn
        replace hnp : Hid _ := hnp
        replace hu : Hid _ := hu
        repeat' (first | (with_reducible first | apply jA | apply jB | apply jC | apply jD | apply jE | apply jF | apply jG | apply jH | apply jI | apply jJ | apply jK | apply jL | apply jM | apply jN | apply jO) | ((with_reducible first | apply jP | apply jQ); rfl) | ((first | ((with_reducible first | apply jR | apply jS | apply jT); rfl; rfl) | (with_reducible first | apply jU | apply jV | apply jW) | ((with_reducible first | apply jX | apply jY | apply jZ); rfl)); all_goals (first | ((with_reducible show Is _ _); exact kE_VF0) | ((with_reducible refine fun (hc : (_ : Bool) = _) => ?_); (try simp only [xZ, xY, xP, reduceCtorEq] at hc); (try (have hx : True := hc; clear hx hc)); (try exact kX)) | ((fail_if_success (with_reducible first | show Is _ _ | show ACall _ _ _ _ _)); (try ((with_reducible show _ ∨ _); exact kT))))))
        replace hcs : Cells peC 85 Y ps := hcs
        replace hps : ∀ p ∈ ps, PeL p := hps
        replace hY : ps.flatMap peC = Y := hY
        replace hG : GrowR pfC 18 1 .nilS G M := hG
        have hYt : Y.take (i * 85) = (ps.take i).flatMap peC := by rw [← hY]; exact fl_take i fun p hp => peC_len (hps p hp)
        have hct := cells_all (f := peC) (z := 85) (L := ps.take i) fun p hp => peC_len (hps p (List.mem_of_mem_take hp))
        rw [← hYt] at hct
        have hYl : (ps.take i).length = i := by rw [List.length_take]; omega
        generalize Y.take (i * 85) = W at *
        have hmo := hm0
        clear hYt hm0
        refine w_loop (fun fr B => ∃ (k : Nat) (G : List Box) (γ : Nat) (fl : Bool), k ≤ i ∧ ((ps.take i).take k).any (fun q => q.1 == u) = false ∧ fr 69 = .int .i64 k ∧ fr 68 = .int .i64 i ∧ fr 67 = .lst i W fl ∧ fr 9 = .ptr (γ + 1) 0 ∧ G[γ]? = some ⟨Q, false⟩ ∧ fr 59 = .int .i64 i ∧ fr 58 = .int .i64 ps.length ∧ fr 57 = .lst ps.length Y false ∧ fr 3 = .nilS ∧ fr 1 = .ptr 0 0 ∧ B = ⟨C, false⟩ :: G ∧ GrowR pfC 18 1 .nilS G M) (fun fr _ => i - natOf (fr 69)) ?_ ?_
        · exact ⟨0, _, G.length, _, by omega, rfl, by (simp (disch := omega) [go_sem, *]) <;> (try omega), by (simp (disch := omega) [go_sem, *]) <;> (try omega), by rfl, by (simp (disch := omega) [go_sem, *]) <;> (try omega), by simp, by (simp (disch := omega) [go_sem, *]) <;> (try omega), by (simp (disch := omega) [go_sem, *]) <;> (try omega), by (simp (disch := omega) [go_sem, *]) <;> (try omega), by (simp (disch := omega) [go_sem, *]) <;> (try omega), by (simp (disch := omega) [go_sem, *]) <;> (try omega), rfl, GrowR.app hG _⟩
        clear f59 f58 f57 f3 f1 hG c1 c2
        clear G
        rintro fr B ⟨k, G, γ, fl, hk, hany, f69, f68, f67, f9, hγ, f59, f58, f57, f3, f1, rfl, hG⟩
        have hm0 : natOf (fr 69) = k := by rw [f69]; rfl
        by_cases hck : k < i
        · obtain ⟨c1, c2⟩ := hct k (by omega)
          have hkp : (ps.take i)[k]'(by omega) ∈ ps := List.mem_of_mem_take (List.getElem_mem _)
          have hp2 := hps _ hkp
          have hpl2 := peC_len hp2
          obtain ⟨-, -, -, -, t33, -⟩ := pe_parts hp2
          have hp3 := hp2.1
          have hanx : ((ps.take i).take (k + 1)).any (fun q => q.1 == u) = (((ps.take i)[k]'(by omega)).1 == u) := by rw [List.take_succ_eq_append_getElem (by omega), List.any_append, hany]; simp
          have hyes : (((ps.take i)[k]'(by omega)).1 == u) = true → (ps.take i).any (fun q => q.1 == u) = true := fun h => List.any_eq_true.2 ⟨_, List.getElem_mem _, h⟩
          generalize peC ((ps.take i)[k]'(by omega)) = Q2 at *
          generalize ((ps.take i)[k]'(by omega)).1 = v at *
          have xb := bx_pack hγ
          clear hct hcs hps hY hp2 hkp
          replace hG : Hid _ := hG
          by_cases he : v = u
          · subst he
            rw [if_neg (show ¬ ((pubs ps).Nodup ∧ M.Nodup) from (show alls ps = M from hM) ▸ hnn (hyes (by simp)))]
            clear hyes hanx hany
            repeat' (first | (with_reducible first | apply jA | apply jB | apply jC | apply jD | apply jE | apply jF | apply jG | apply jH | apply jI | apply jJ | apply jK | apply jL | apply jM | apply jN | apply jO) | ((with_reducible first | apply jP | apply jQ); rfl) | ((first | ((with_reducible first | apply jR | apply jS | apply jT); rfl; rfl) | (with_reducible first | apply jU | apply jV | apply jW) | ((with_reducible first | apply jX | apply jY | apply jZ); rfl)); all_goals (first | ((with_reducible show Is _ _); exact kE_VF0) | ((with_reducible refine fun (hc : (_ : Bool) = _) => ?_); (try simp only [xZ, xY, xP, reduceCtorEq] at hc); (try (have hx : True := hc; clear hx hc)); (try exact kX)) | ((fail_if_success (with_reducible first | show Is _ _ | show ACall _ _ _ _ _)); (try ((with_reducible show _ ∨ _); exact kT))))))
            rfl
          · have he2 : (u == v) = false := by simpa using Ne.symm he
            have he3 : (v == u) = false := by simpa using he
            rw [he3] at hanx
            clear hyes
            replace hanx : Hid _ := hanx
            repeat' (first | (with_reducible first | apply jA | apply jB | apply jC | apply jD | apply jE | apply jF | apply jG | apply jH | apply jI | apply jJ | apply jK | apply jL | apply jM | apply jN | apply jO) | ((with_reducible first | apply jP | apply jQ); rfl) | ((first | ((with_reducible first | apply jR | apply jS | apply jT); rfl; rfl) | (with_reducible first | apply jU | apply jV | apply jW) | ((with_reducible first | apply jX | apply jY | apply jZ); rfl)); all_goals (first | ((with_reducible show Is _ _); exact kE_VF0) | ((with_reducible refine fun (hc : (_ : Bool) = _) => ?_); (try simp only [xZ, xY, xP, reduceCtorEq] at hc); (try (have hx : True := hc; clear hx hc)); (try exact kX)) | ((fail_if_success (with_reducible first | show Is _ _ | show ACall _ _ _ _ _)); (try ((with_reducible show _ ∨ _); exact kT))))))
            exact ⟨⟨k + 1, _, γ, fl, by omega, hanx, by (simp (disch := omega) [go_sem, *]) <;> (try omega), by (simp (disch := omega) [go_sem, *]) <;> (try omega), by (simp (disch := omega) [go_sem, *]) <;> (try omega), by (simp (disch := omega) [go_sem, *]) <;> (try omega), xb.1 _, by (simp (disch := omega) [go_sem, *]) <;> (try omega), by (simp (disch := omega) [go_sem, *]) <;> (try omega), by (simp (disch := omega) [go_sem, *]) <;> (try omega), by (simp (disch := omega) [go_sem, *]) <;> (try omega), by (simp (disch := omega) [go_sem, *]) <;> (try omega), rfl, GrowR.app hG _⟩, by (simp (disch := omega) [go_sem, *]) <;> (try omega)⟩
        obtain rfl : k = i := by omega
        rw [List.take_of_length_le (by omega)] at hany
        replace hnp := hnp hany
        replace hnp : Hid _ := hnp
        clear hct hcs hps hY hany
        replace hG : Hid _ := hG
        repeat' (first | (with_reducible first | apply jA | apply jB | apply jC | apply jD | apply jE | apply jF | apply jG | apply jH | apply jI | apply jJ | apply jK | apply jL | apply jM | apply jN | apply jO) | ((with_reducible first | apply jP | apply jQ); rfl) | ((first | ((with_reducible first | apply jR | apply jS | apply jT); rfl; rfl) | (with_reducible first | apply jU | apply jV | apply jW) | ((with_reducible first | apply jX | apply jY | apply jZ); rfl)); all_goals (first | ((with_reducible show Is _ _); exact kE) | ((with_reducible refine fun (hc : (_ : Bool) = _) => ?_); (try simp only [xZ, xY, xP, reduceCtorEq] at hc); (try (have hx : True := hc; clear hx hc)); (try exact kX)) | ((fail_if_success (with_reducible first | show Is _ _ | show ACall _ _ _ _ _)); (try ((with_reducible show _ ∨ _); exact kT))))))
        exact ⟨⟨k + 1, G, by omega, hnp, by (simp (disch := omega) [go_sem, *]) <;> (try omega), by (simp (disch := omega) [go_sem, *]) <;> (try omega), by (simp (disch := omega) [go_sem, *]) <;> (try omega), by (simp (disch := omega) [go_sem, *]) <;> (try omega), by (simp (disch := omega) [go_sem, *]) <;> (try omega), rfl, hG⟩, by (simp (disch := omega) [go_sem, *]) <;> (try omega)⟩
      obtain rfl : i = ps.length := by omega
      rw [List.take_length] at hn1
      replace hG : Hid _ := hG
      clear hcs hps hY
      repeat' (first | (with_reducible first | apply jA | apply jB | apply jC | apply jD | apply jE | apply jF | apply jG | apply jH | apply jI | apply jJ | apply jK | apply jL | apply jM | apply jN | apply jO) | ((with_reducible first | apply jP | apply jQ); rfl) | ((first | ((with_reducible first | apply jR | apply jS | apply jT); rfl; rfl) | (with_reducible first | apply jU | apply jV | apply jW) | ((with_reducible first | apply jX | apply jY | apply jZ); rfl)); all_goals (first | ((with_reducible show Is _ _); exact kE) | ((with_reducible refine fun (hc : (_ : Bool) = _) => ?_); (try simp only [xZ, xY, xP, reduceCtorEq] at hc); (try (have hx : True := hc; clear hx hc)); (try exact kX)) | ((fail_if_success (with_reducible first | show Is _ _ | show ACall _ _ _ _ _)); (try ((with_reducible show _ ∨ _); exact kT))))))
      replace hn1 : (pubs ps).Nodup := hn1
      have hM00 : M = [] := List.eq_nil_of_length_eq_zero hM0
      refine w_loop (fun fr' B' => fr' = _ ∧ B' = _) (fun _ _ => 0) ⟨rfl, rfl⟩ ?_
      rintro fr' B' ⟨rfl, rfl⟩
      rw [if_pos ⟨hn1, by rw [hM00]; exact List.nodup_nil⟩]
      repeat' (first | (with_reducible first | apply jA | apply jB | apply jC | apply jD | apply jE | apply jF | apply jG | apply jH | apply jI | apply jJ | apply jK | apply jL | apply jM | apply jN | apply jO) | ((with_reducible first | apply jP | apply jQ); rfl) | ((first | ((with_reducible first | apply jR | apply jS | apply jT); rfl; rfl) | (with_reducible first | apply jU | apply jV | apply jW) | ((with_reducible first | apply jX | apply jY | apply jZ); rfl)); all_goals (first | ((with_reducible show Is _ _); exact kE) | ((with_reducible refine fun (hc : (_ : Bool) = _) => ?_); (try simp only [xZ, xY, xP, reduceCtorEq] at hc); (try (have hx : True := hc; clear hx hc)); (try exact kX)) | ((fail_if_success (with_reducible first | show Is _ _ | show ACall _ _ _ _ _)); (try ((with_reducible show _ ∨ _); exact kT))))))
      rfl
    · repeat' (first | (with_reducible first | apply jA | apply jB | apply jC | apply jD | apply jE | apply jF | apply jG | apply jH | apply jI | apply jJ | apply jK | apply jL | apply jM | apply jN | apply jO) | ((with_reducible first | apply jP | apply jQ); rfl) | ((first | ((with_reducible first | apply jR | apply jS | apply jT); rfl; rfl) | (with_reducible first | apply jU | apply jV | apply jW) | ((with_reducible first | apply jX | apply jY | apply jZ); rfl)); all_goals (first | ((with_reducible show Is _ _); exact kE) | ((with_reducible refine fun (hc : (_ : Bool) = _) => ?_); (try simp only [xZ, xY, xP, reduceCtorEq] at hc); (try (have hx : True := hc; clear hx hc)); (try exact kX)) | ((fail_if_success (with_reducible first | show Is _ _ | show ACall _ _ _ _ _)); (try ((with_reducible show _ ∨ _); exact kT))))))
      clear hm0 f19 f18 f17
      replace hG : GrowR pfC 18 1 (.view (b + 1) 0 M.length 18 false) G M := hG
      have hcs : Cells peC 85 Y ps := hcs
      have hps : ∀ p ∈ ps, PeL p := hps
      have hal : ∀ p ∈ ps, p.2.2.2.2.2.length < 1000 := hal
      have hY : ps.flatMap peC = Y := hY
      refine w_loop (fun fr B => ∃ (k : Nat) (G : List Box), k ≤ ps.length ∧ (ps.take k).all okPe = true ∧ fr 48 = .int .i64 k ∧ fr 47 = .int .i64 ps.length ∧ fr 46 = .lst ps.length Y false ∧ fr 3 = (.view (b + 1) 0 M.length 18 false) ∧ fr 1 = .ptr 0 0 ∧ B = ⟨C, false⟩ :: G ∧ GrowR pfC 18 1 (.view (b + 1) 0 M.length 18 false) G M) (fun fr _ => ps.length - natOf (fr 48)) ?_ ?_
      · exact ⟨0, G, by omega, rfl, by (simp (disch := omega) [go_sem, *]) <;> (try omega), by (simp (disch := omega) [go_sem, *]) <;> (try omega), by (simp (disch := omega) [go_sem, *]) <;> (try omega), by (simp (disch := omega) [go_sem, *]) <;> (try omega), by (simp (disch := omega) [go_sem, *]) <;> (try omega), rfl, hG⟩
      clear f3 f1 hG
      clear G
      rintro fr B ⟨k, G, hk, hok, f48, f47, f46, f3, f1, rfl, hG⟩
      have hm0 : natOf (fr 48) = k := by rw [f48]; rfl
      by_cases hck : k < ps.length
      · obtain ⟨c1, c2⟩ := hcs k hck
        have hp := hps ps[k] (List.getElem_mem hck)
        have hpl := peC_len hp
        have hpa := hal ps[k] (List.getElem_mem hck)
        have hrg : ∀ {B : List Box} {args : List CV}, Is (omap (Go.Sy.fz true false B 6) args) (some [.agg (peC ps[k])]) → ACall Tryd.prog 66 args B fun c B' => c = .bool (okPe ps[k]) ∧ B' = B := fun hz => acall_fresh hz (right_in ps[k] hp (by omega))
        have hnx : (ps.take (k + 1)).all okPe = okPe ps[k] := by rw [List.take_succ_eq_append_getElem hck, List.all_append, hok]; simp
        have hno : okPe ps[k] = false → ps.all okPe = false := fun h => by
          rw [List.all_eq_false]; exact ⟨_, List.getElem_mem hck, by simp [h]⟩
        have ho : ∀ {nz : Bool} {B : List Box} {k2 : Nat}, omap (Go.Sy.fz nz false B (k2 + 2)) (peC ps[k]) = some (peC ps[k]) := pe_om1 _
        generalize okPe ps[k] = v at *
        generalize peC ps[k] = Q at *
        replace hcs : Hid _ := hcs
        replace hps : Hid _ := hps
        replace hal : Hid _ := hal
        replace hY : Hid _ := hY
        replace hG : Hid _ := hG
        cases v
        · rw [if_pos (.inr (.inr (hno rfl)))]
          clear hno hnx hp
          repeat' (first | (with_reducible first | apply jA | apply jB | apply jC | apply jD | apply jE | apply jF | apply jG | apply jH | apply jI | apply jJ | apply jK | apply jL | apply jM | apply jN | apply jO) | ((with_reducible first | apply jP | apply jQ); rfl) | ((first | ((with_reducible first | apply jR | apply jS | apply jT); rfl; rfl) | (with_reducible first | apply jU | apply jV | apply jW) | ((with_reducible first | apply jX | apply jY | apply jZ); rfl) | ((with_reducible first | apply kA | apply kB | apply kC); rfl)); all_goals (first | ((with_reducible show Is _ _); exact kE_VF0) | ((with_reducible refine fun (hc : (_ : Bool) = _) => ?_); (try simp only [xZ, xY, xP, reduceCtorEq] at hc); (try (have hx : True := hc; clear hx hc)); (try exact kX)) | ((with_reducible show ACall _ _ _ _ _); (first | ((with_reducible apply hrg) <;> exact kD_VF0))) | ((fail_if_success (with_reducible first | show Is _ _ | show ACall _ _ _ _ _)); (try ((with_reducible show _ ∨ _); exact kT))))))
          rfl
        · clear hno hp
          replace hnx : Hid _ := hnx
          repeat' (first | (with_reducible first | apply jA | apply jB | apply jC | apply jD | apply jE | apply jF | apply jG | apply jH | apply jI | apply jJ | apply jK | apply jL | apply jM | apply jN | apply jO) | ((with_reducible first | apply jP | apply jQ); rfl) | ((first | ((with_reducible first | apply jR | apply jS | apply jT); rfl; rfl) | (with_reducible first | apply jU | apply jV | apply jW) | ((with_reducible first | apply jX | apply jY | apply jZ); rfl) | ((with_reducible first | apply kA | apply kB | apply kC); rfl)); all_goals (first | ((with_reducible show Is _ _); exact kE_VF0) | ((with_reducible refine fun (hc : (_ : Bool) = _) => ?_); (try simp only [xZ, xY, xP, reduceCtorEq] at hc); (try (have hx : True := hc; clear hx hc)); (try exact kX)) | ((with_reducible show ACall _ _ _ _ _); (first | ((with_reducible apply hrg) <;> exact kD_VF0))) | ((fail_if_success (with_reducible first | show Is _ _ | show ACall _ _ _ _ _)); (try ((with_reducible show _ ∨ _); exact kT))))))
          exact ⟨⟨k + 1, _, by omega, hnx, by (simp (disch := omega) [go_sem, *]) <;> (try omega), by (simp (disch := omega) [go_sem, *]) <;> (try omega), by (simp (disch := omega) [go_sem, *]) <;> (try omega), by (simp (disch := omega) [go_sem, *]) <;> (try omega), by (simp (disch := omega) [go_sem, *]) <;> (try omega), rfl, GrowR.app hG _⟩, by (simp (disch := omega) [go_sem, *]) <;> (try omega)⟩
      obtain rfl : k = ps.length := by omega
      rw [List.take_length] at hok
      rw [hok, if_neg (by simp; omega)]
      replace hG : Hid _ := hG
      clear hok hal
      repeat' (first | (with_reducible first | apply jA | apply jB | apply jC | apply jD | apply jE | apply jF | apply jG | apply jH | apply jI | apply jJ | apply jK | apply jL | apply jM | apply jN | apply jO) | ((with_reducible first | apply jP | apply jQ); rfl) | ((first | ((with_reducible first | apply jR | apply jS | apply jT); rfl; rfl) | (with_reducible first | apply jU | apply jV | apply jW) | ((with_reducible first | apply jX | apply jY | apply jZ); rfl)); all_goals (first | ((with_reducible show Is _ _); exact kE) | ((with_reducible refine fun (hc : (_ : Bool) = _) => ?_); (try simp only [xZ, xY, xP, reduceCtorEq] at hc); (try (have hx : True := hc; clear hx hc)); (try exact kX)) | ((fail_if_success (with_reducible first | show Is _ _ | show ACall _ _ _ _ _)); (try ((with_reducible show _ ∨ _); exact kT))))))
      replace hG : GrowR pfC 18 1 (.view (b + 1) 0 M.length 18 false) G M := hG
      clear hm0 f48 f47 f46
      refine w_loop (fun fr B => ∃ (i : Nat) (G : List Box), i ≤ ps.length ∧ (pubs (ps.take i)).Nodup ∧ fr 59 = .int .i64 i ∧ fr 58 = .int .i64 ps.length ∧ fr 57 = .lst ps.length Y false ∧ fr 3 = (.view (b + 1) 0 M.length 18 false) ∧ fr 1 = .ptr 0 0 ∧ B = ⟨C, false⟩ :: G ∧ GrowR pfC 18 1 (.view (b + 1) 0 M.length 18 false) G M) (fun fr _ => ps.length - natOf (fr 59)) ?_ ?_
      · exact ⟨0, G, by omega, by simp [pubs], by (simp (disch := omega) [go_sem, *]) <;> (try omega), by (simp (disch := omega) [go_sem, *]) <;> (try omega), by (simp (disch := omega) [go_sem, *]) <;> (try omega), by (simp (disch := omega) [go_sem, *]) <;> (try omega), by (simp (disch := omega) [go_sem, *]) <;> (try omega), rfl, hG⟩
      clear f3 f1 hG
      clear G
      rintro fr B ⟨i, G, hi, hn1, f59, f58, f57, f3, f1, rfl, hG⟩
      have hm0 : natOf (fr 59) = i := by rw [f59]; rfl
      by_cases hci : i < ps.length
      · obtain ⟨c1, c2⟩ := hcs i hci
        have hp := hps ps[i] (List.getElem_mem hci)
        have hpl := peC_len hp
        have hnn := @not_nodup_pub ps i hci
        have hnp := pubs_next hci hn1
        obtain ⟨-, -, -, -, t32, -⟩ := pe_parts hp
        have hp1 := hp.1
        clear hp
        obtain ⟨Q, hQ⟩ : ∃ Q, peC ps[i] = Q := ⟨_, rfl⟩
        rw [hQ] at c2 hpl t32
        replace hQ : Hid _ := hQ
        obtain ⟨u, hu⟩ : ∃ u, ps[i].1 = u := ⟨_, rfl⟩
        rw [hu] at hp1 t32 hnn hnp
        replace hcs : Hid _ := hcs
        replace hps : Hid _ := hps
        replace hY : Hid _ := hY
        replace hG : Hid _ := hG
        replace hn1 : Hid _ := hn1
        replace hnn : Hid _ := hnn
        replace hnp : Hid _ := hnp
        replace hu : Hid _ := hu
        repeat' (first | (with_reducible first | apply jA | apply jB | apply jC | apply jD | apply jE | apply jF | apply jG | apply jH | apply jI | apply jJ | apply jK | apply jL | apply jM | apply jN | apply jO) | ((with_reducible first | apply jP | apply jQ); rfl) | ((first | ((with_reducible first | apply jR | apply jS | apply jT); rfl; rfl) | (with_reducible first | apply jU | apply jV | apply jW) | ((with_reducible first | apply jX | apply jY | apply jZ); rfl)); all_goals (first | ((with_reducible show Is _ _); exact kE_VF0) | ((with_reducible refine fun (hc : (_ : Bool) = _) => ?_); (try simp only [xZ, xY, xP, reduceCtorEq] at hc); (try (have hx : True := hc; clear hx hc)); (try exact kX)) | ((fail_if_success (with_reducible first | show Is _ _ | show ACall _ _ _ _ _)); (try ((with_reducible show _ ∨ _); exact kT))))))
        replace hcs : Cells peC 85 Y ps := hcs
        replace hps : ∀ p ∈ ps, PeL p := hps
        replace hY : ps.flatMap peC = Y := hY
        replace hG : GrowR pfC 18 1 (.view (b + 1) 0 M.length 18 false) G M := hG
        have hYt : Y.take (i * 85) = (ps.take i).flatMap peC := by rw [← hY]; exact fl_take i fun p hp => peC_len (hps p hp)
        have hct := cells_all (f := peC) (z := 85) (L := ps.take i) fun p hp => peC_len (hps p (List.mem_of_mem_take hp))
        rw [← hYt] at hct
        have hYl : (ps.take i).length = i := by rw [List.length_take]; omega
        generalize Y.take (i * 85) = W at *
        have hmo := hm0
        clear hYt hm0
        refine w_loop (fun fr B => ∃ (k : Nat) (G : List Box) (γ : Nat) (fl : Bool), k ≤ i ∧ ((ps.take i).take k).any (fun q => q.1 == u) = false ∧ fr 69 = .int .i64 k ∧ fr 68 = .int .i64 i ∧ fr 67 = .lst i W fl ∧ fr 9 = .ptr (γ + 1) 0 ∧ G[γ]? = some ⟨Q, false⟩ ∧ fr 59 = .int .i64 i ∧ fr 58 = .int .i64 ps.length ∧ fr 57 = .lst ps.length Y false ∧ fr 3 = (.view (b + 1) 0 M.length 18 false) ∧ fr 1 = .ptr 0 0 ∧ B = ⟨C, false⟩ :: G ∧ GrowR pfC 18 1 (.view (b + 1) 0 M.length 18 false) G M) (fun fr _ => i - natOf (fr 69)) ?_ ?_
        · exact ⟨0, _, G.length, _, by omega, rfl, by (simp (disch := omega) [go_sem, *]) <;> (try omega), by (simp (disch := omega) [go_sem, *]) <;> (try omega), by rfl, by (simp (disch := omega) [go_sem, *]) <;> (try omega), by simp, by (simp (disch := omega) [go_sem, *]) <;> (try omega), by (simp (disch := omega) [go_sem, *]) <;> (try omega), by (simp (disch := omega) [go_sem, *]) <;> (try omega), by (simp (disch := omega) [go_sem, *]) <;> (try omega), by (simp (disch := omega) [go_sem, *]) <;> (try omega), rfl, GrowR.app hG _⟩
        clear f59 f58 f57 f3 f1 hG c1 c2
        clear G
        rintro fr B ⟨k, G, γ, fl, hk, hany, f69, f68, f67, f9, hγ, f59, f58, f57, f3, f1, rfl, hG⟩
        have hm0 : natOf (fr 69) = k := by rw [f69]; rfl
        by_cases hck : k < i
        · obtain ⟨c1, c2⟩ := hct k (by omega)
          have hkp : (ps.take i)[k]'(by omega) ∈ ps := List.mem_of_mem_take (List.getElem_mem _)
          have hp2 := hps _ hkp
          have hpl2 := peC_len hp2
          obtain ⟨-, -, -, -, t33, -⟩ := pe_parts hp2
          have hp3 := hp2.1
          have hanx : ((ps.take i).take (k + 1)).any (fun q => q.1 == u) = (((ps.take i)[k]'(by omega)).1 == u) := by rw [List.take_succ_eq_append_getElem (by omega), List.any_append, hany]; simp
          have hyes : (((ps.take i)[k]'(by omega)).1 == u) = true → (ps.take i).any (fun q => q.1 == u) = true := fun h => List.any_eq_true.2 ⟨_, List.getElem_mem _, h⟩
          generalize peC ((ps.take i)[k]'(by omega)) = Q2 at *
          generalize ((ps.take i)[k]'(by omega)).1 = v at *
          have xb := bx_pack hγ
          clear hct hcs hps hY hp2 hkp
          replace hG : Hid _ := hG
          by_cases he : v = u
          · subst he
            rw [if_neg (show ¬ ((pubs ps).Nodup ∧ M.Nodup) from (show alls ps = M from hM) ▸ hnn (hyes (by simp)))]
            clear hyes hanx hany
            repeat' (first | (with_reducible first | apply jA | apply jB | apply jC | apply jD | apply jE | apply jF | apply jG | apply jH | apply jI | apply jJ | apply jK | apply jL | apply jM | apply jN | apply jO) | ((with_reducible first | apply jP | apply jQ); rfl) | ((first | ((with_reducible first | apply jR | apply jS | apply jT); rfl; rfl) | (with_reducible first | apply jU | apply jV | apply jW) | ((with_reducible first | apply jX | apply jY | apply jZ); rfl)); all_goals (first | ((with_reducible show Is _ _); exact kE_VF0) | ((with_reducible refine fun (hc : (_ : Bool) = _) => ?_); (try simp only [xZ, xY, xP, reduceCtorEq] at hc); (try (have hx : True := hc; clear hx hc)); (try exact kX)) | ((fail_if_success (with_reducible first | show Is _ _ | show ACall _ _ _ _ _)); (try ((with_reducible show _ ∨ _); exact kT))))))
            rfl
          · have he2 : (u == v) = false := by simpa using Ne.symm he
            have he3 : (v == u) = false := by simpa using he
            rw [he3] at hanx
            clear hyes
            replace hanx : Hid _ := hanx
            repeat' (first | (with_reducible first | apply jA | apply jB | apply jC | apply jD | apply jE | apply jF | apply jG | apply jH | apply jI | apply jJ | apply jK | apply jL | apply jM | apply jN | apply jO) | ((with_reducible first | apply jP | apply jQ); rfl) | ((first | ((with_reducible first | apply jR | apply jS | apply jT); rfl; rfl) | (with_reducible first | apply jU | apply jV | apply jW) | ((with_reducible first | apply jX | apply jY | apply jZ); rfl)); all_goals (first | ((with_reducible show Is _ _); exact kE_VF0) | ((with_reducible refine fun (hc : (_ : Bool) = _) => ?_); (try simp only [xZ, xY, xP, reduceCtorEq] at hc); (try (have hx : True := hc; clear hx hc)); (try exact kX)) | ((fail_if_success (with_reducible first | show Is _ _ | show ACall _ _ _ _ _)); (try ((with_reducible show _ ∨ _); exact kT))))))
            exact ⟨⟨k + 1, _, γ, fl, by omega, hanx, by (simp (disch := omega) [go_sem, *]) <;> (try omega), by (simp (disch := omega) [go_sem, *]) <;> (try omega), by (simp (disch := omega) [go_sem, *]) <;> (try omega), by (simp (disch := omega) [go_sem, *]) <;> (try omega), xb.1 _, by (simp (disch := omega) [go_sem, *]) <;> (try omega), by (simp (disch := omega) [go_sem, *]) <;> (try omega), by (simp (disch := omega) [go_sem, *]) <;> (try omega), by (simp (disch := omega) [go_sem, *]) <;> (try omega), by (simp (disch := omega) [go_sem, *]) <;> (try omega), rfl, GrowR.app hG _⟩, by (simp (disch := omega) [go_sem, *]) <;> (try omega)⟩
        obtain rfl : k = i := by omega
        rw [List.take_of_length_le (by omega)] at hany
        replace hnp := hnp hany
        replace hnp : Hid _ := hnp
        clear hct hcs hps hY hany
        replace hG : Hid _ := hG
        repeat' (first | (with_reducible first | apply jA | apply jB | apply jC | apply jD | apply jE | apply jF | apply jG | apply jH | apply jI | apply jJ | apply jK | apply jL | apply jM | apply jN | apply jO) | ((with_reducible first | apply jP | apply jQ); rfl) | ((first | ((with_reducible first | apply jR | apply jS | apply jT); rfl; rfl) | (with_reducible first | apply jU | apply jV | apply jW) | ((with_reducible first | apply jX | apply jY | apply jZ); rfl)); all_goals (first | ((with_reducible show Is _ _); exact kE) | ((with_reducible refine fun (hc : (_ : Bool) = _) => ?_); (try simp only [xZ, xY, xP, reduceCtorEq] at hc); (try (have hx : True := hc; clear hx hc)); (try exact kX)) | ((fail_if_success (with_reducible first | show Is _ _ | show ACall _ _ _ _ _)); (try ((with_reducible show _ ∨ _); exact kT))))))
        exact ⟨⟨k + 1, G, by omega, hnp, by (simp (disch := omega) [go_sem, *]) <;> (try omega), by (simp (disch := omega) [go_sem, *]) <;> (try omega), by (simp (disch := omega) [go_sem, *]) <;> (try omega), by (simp (disch := omega) [go_sem, *]) <;> (try omega), by (simp (disch := omega) [go_sem, *]) <;> (try omega), rfl, hG⟩, by (simp (disch := omega) [go_sem, *]) <;> (try omega)⟩
      obtain rfl : i = ps.length := by omega
      rw [List.take_length] at hn1
      replace hG : Hid _ := hG
      clear hcs hps hY
      repeat' (first | (with_reducible first | apply jA | apply jB | apply jC | apply jD | apply jE | apply jF | apply jG | apply jH | apply jI | apply jJ | apply jK | apply jL | apply jM | apply jN | apply jO) | ((with_reducible first | apply jP | apply jQ); rfl) | ((first | ((with_reducible first | apply jR | apply jS | apply jT); rfl; rfl) | (with_reducible first | apply jU | apply jV | apply jW) | ((with_reducible first | apply jX | apply jY | apply jZ); rfl)); all_goals (first | ((with_reducible show Is _ _); exact kE) | ((with_reducible refine fun (hc : (_ : Bool) = _) => ?_); (try simp only [xZ, xY, xP, reduceCtorEq] at hc); (try (have hx : True := hc; clear hx hc)); (try exact kX)) | ((fail_if_success (with_reducible first | show Is _ _ | show ACall _ _ _ _ _)); (try ((with_reducible show _ ∨ _); exact kT))))))
      replace hG : GrowR pfC 18 1 (.view (b + 1) 0 M.length 18 false) G M := hG
      replace hML : ∀ q ∈ M, PfL q := hML
      obtain ⟨mm, hb⟩ : ∃ mm, G[b]? = some ⟨M.flatMap pfC, mm⟩ := by
        rcases hG with ⟨_, h⟩ | ⟨b', mm, _, h, hb⟩
        · cases h
        · obtain rfl : b = b' := by simpa using h
          exact ⟨mm, hb⟩
      clear hG
      have hcm := cells_all (f := pfC) (z := 18) (L := M) fun q hq => pfC_len (hML q hq)
      have hMnd : M.Nodup → (pubs ps).Nodup ∧ M.Nodup := fun h => ⟨hn1, h⟩
      obtain ⟨MF, hMF⟩ : ∃ MF, M.flatMap pfC = MF := ⟨_, rfl⟩
      rw [hMF] at hcm hb
      clear hMF hn1 hM
      clear f59 f58 f57 hm0
      refine w_loop (fun fr B => ∃ (i : Nat) (G : List Box), i ≤ M.length ∧ (M.take i).Nodup ∧ fr 82 = .int .i64 i ∧ fr 81 = .int .i64 M.length ∧ fr 80 = .view (b + 1) 0 M.length 18 false ∧ fr 3 = .view (b + 1) 0 M.length 18 false ∧ B = ⟨C, false⟩ :: G ∧ G[b]? = some ⟨MF, mm⟩) (fun fr _ => M.length - natOf (fr 82)) ?_ ?_
      · exact ⟨0, G, by omega, by simp, by (simp (disch := omega) [go_sem, *]) <;> (try omega), by (simp (disch := omega) [go_sem, *]) <;> (try omega), by (simp (disch := omega) [go_sem, *]) <;> (try omega), by (simp (disch := omega) [go_sem, *]) <;> (try omega), rfl, hb⟩
      clear f3 f1 hb
      clear G
      rintro fr B ⟨i, G, hi, hn2, f82, f81, f80, f3, rfl, hb⟩
      have hm0 : natOf (fr 82) = i := by rw [f82]; rfl
      by_cases hci : i < M.length
      · obtain ⟨c1, c2⟩ := hcm i hci
        have hxL := hML _ (List.getElem_mem hci)
        have hxl := pfC_len hxL
        have hbad : (M.take i).any (fun q => M[i] == q) = true → ¬ ((pubs ps).Nodup ∧ M.Nodup) := fun hm h => by
          obtain ⟨q, hq, he⟩ := List.any_eq_true.1 hm
          have e : M = M.take i ++ M[i] :: M.drop (i + 1) := by rw [← List.drop_eq_getElem_cons hci, List.take_append_drop]
          have hn := h.2
          rw [e] at hn
          exact (List.nodup_append.1 hn).2.2 _ hq _ (List.mem_cons_self ..) (beq_iff_eq.1 he).symm
        have hgood := @alls_next (M.take i) M[i] hn2
        rw [← List.take_succ_eq_append_getElem hci] at hgood
        have xb := bx_pack hb
        have hev := fun (q : Pf) (hq : q ∈ M) => pf_eqV hxL.1 (hML q hq).1
        obtain ⟨x, hx⟩ : ∃ x, M[i] = x := ⟨_, rfl⟩
        rw [hx] at c2 hxl hbad hgood hev
        obtain ⟨X, hX⟩ : ∃ X, pfC x = X := ⟨_, rfl⟩
        rw [hX] at c2 hxl hev
        replace hev : Hid _ := hev
        replace hbad : Hid _ := hbad
        replace hgood : Hid _ := hgood
        replace hn2 : Hid _ := hn2
        replace hcm : Hid _ := hcm
        replace hML : Hid _ := hML
        replace hMnd : Hid _ := hMnd
        clear hX hx hxL
        have hXt : X.take 18 = X := List.take_of_length_le (by omega)
        have hmo := hm0
        obtain ⟨m2, hm2⟩ : ∃ m2, m2 = mm := ⟨mm, rfl⟩
        cases mm
        all_goals
          repeat' (first | (with_reducible first | apply jA | apply jB | apply jC | apply jD | apply jE | apply jF | apply jG | apply jH | apply jI | apply jJ | apply jK | apply jL | apply jM | apply jN | apply jO) | ((with_reducible first | apply jP | apply jQ); rfl) | ((first | ((with_reducible first | apply jR | apply jS | apply jT); rfl; rfl) | (with_reducible first | apply jU | apply jV | apply jW) | ((with_reducible first | apply jX | apply jY | apply jZ); rfl)); all_goals (first | ((with_reducible show Is _ _); exact kE_VF0) | ((with_reducible refine fun (hc : (_ : Bool) = _) => ?_); (try simp only [xZ, xY, xP, reduceCtorEq] at hc); (try (have hx : True := hc; clear hx hc)); (try exact kX)) | ((fail_if_success (with_reducible first | show Is _ _ | show ACall _ _ _ _ _)); (try ((with_reducible show _ ∨ _); exact kT))))))
          clear hm0
          refine w_loop (fun fr B => ∃ (k : Nat) (G : List Box) (γ : Nat) (fl : Bool), k ≤ i ∧ ((M.take i).take k).any (fun q => x == q) = false ∧ fr 91 = .int .i64 k ∧ fr 90 = .int .i64 i ∧ fr 89 = .view (b + 1) 0 i 18 fl ∧ fr 13 = .ptr (γ + 1) 0 ∧ G[γ]? = some ⟨X, false⟩ ∧ fr 82 = .int .i64 i ∧ fr 81 = .int .i64 M.length ∧ fr 80 = .view (b + 1) 0 M.length 18 false ∧ fr 3 = .view (b + 1) 0 M.length 18 false ∧ B = ⟨C, false⟩ :: G ∧ G[b]? = some ⟨MF, m2⟩) (fun fr _ => i - natOf (fr 91)) ?_ ?_
          · exact ⟨0, _, G.length, _, by omega, rfl, by (simp (disch := omega) [go_sem, *]) <;> (try omega), by (simp (disch := omega) [go_sem, *]) <;> (try omega), by rfl, by (simp (disch := omega) [go_sem, *]) <;> (try omega), by simp, by (simp (disch := omega) [go_sem, *]) <;> (try omega), by (simp (disch := omega) [go_sem, *]) <;> (try omega), by (simp (disch := omega) [go_sem, *]) <;> (try omega), by (simp (disch := omega) [go_sem, *]) <;> (try omega), rfl, by rw [hm2]; exact xb.1 _⟩
          clear f82 f81 f80 f3 hb c1 c2 xb
          clear G
          rintro fr B ⟨k, G, γ, fl, hk, hany, f91, f90, f89, f13, hγ, f82, f81, f80, f3, rfl, hb⟩
          rw [hm2] at hb
          have hm0 : natOf (fr 91) = k := by rw [f91]; rfl
          have xg := bx_pack hγ
          have xb := bx_pack hb
          by_cases hck : k < i
          · replace hcm : Cells pfC 18 MF M := hcm
            replace hML : ∀ q ∈ M, PfL q := hML
            obtain ⟨c1, c2⟩ := hcm k (by omega)
            have hq := List.getElem_mem (l := M) (n := k) (by omega)
            have hql := pfC_len (hML _ hq)
            have hev := (show ∀ q ∈ M, _ from hev) _ hq
            have hget : (M.take i)[k]'(by rw [List.length_take]; omega) = M[k]'(by omega) := List.getElem_take
            have hanx : ((M.take i).take (k + 1)).any (fun q => x == q) = (x == M[k]'(by omega)) := by rw [List.take_succ_eq_append_getElem (by rw [List.length_take]; omega), List.any_append, hany, hget]; simp
            have hyes : (x == M[k]'(by omega)) = true → (M.take i).any (fun q => x == q) = true := fun h => List.any_eq_true.2 ⟨_, List.getElem_mem (l := M.take i) (n := k) (by rw [List.length_take]; omega), by rw [hget]; exact h⟩
            have hQt : (pfC (M[k]'(by omega))).take 18 = pfC (M[k]'(by omega)) := List.take_of_length_le (by omega)
            generalize pfC (M[k]'(by omega)) = Q at *
            generalize (x == M[k]'(by omega)) = eq at *
            clear hq hget hcm hML
            cases eq
            · clear hyes
              replace hanx : Hid _ := hanx
              repeat' (first | (with_reducible first | apply jA | apply jB | apply jC | apply jD | apply jE | apply jF | apply jG | apply jH | apply jI | apply jJ | apply jK | apply jL | apply jM | apply jN | apply jO) | ((with_reducible first | apply jP | apply jQ); rfl) | ((first | ((with_reducible first | apply jR | apply jS | apply jT); rfl; rfl) | (with_reducible first | apply jU | apply jV | apply jW) | ((with_reducible first | apply jX | apply jY | apply jZ); rfl)); all_goals (first | ((with_reducible show Is _ _); exact kE_VF0) | ((with_reducible refine fun (hc : (_ : Bool) = _) => ?_); (try simp only [xZ, xY, xP, reduceCtorEq] at hc); (try (have hx : True := hc; clear hx hc)); (try exact kX)) | ((fail_if_success (with_reducible first | show Is _ _ | show ACall _ _ _ _ _)); (try ((with_reducible show _ ∨ _); exact kT))))))
              exact ⟨⟨k + 1, _, γ, fl, by omega, hanx, by (simp (disch := omega) [go_sem, *]) <;> (try omega), by (simp (disch := omega) [go_sem, *]) <;> (try omega), by (simp (disch := omega) [go_sem, *]) <;> (try omega), by (simp (disch := omega) [go_sem, *]) <;> (try omega), xg.1 _, by (simp (disch := omega) [go_sem, *]) <;> (try omega), by (simp (disch := omega) [go_sem, *]) <;> (try omega), by (simp (disch := omega) [go_sem, *]) <;> (try omega), by (simp (disch := omega) [go_sem, *]) <;> (try omega), rfl, by rw [hm2]; exact xb.1 _⟩, by (simp (disch := omega) [go_sem, *]) <;> (try omega)⟩
            · rw [if_neg ((show _ → ¬ ((pubs ps).Nodup ∧ M.Nodup) from hbad) (hyes rfl))]
              clear hyes hanx hany
              repeat' (first | (with_reducible first | apply jA | apply jB | apply jC | apply jD | apply jE | apply jF | apply jG | apply jH | apply jI | apply jJ | apply jK | apply jL | apply jM | apply jN | apply jO) | ((with_reducible first | apply jP | apply jQ); rfl) | ((first | ((with_reducible first | apply jR | apply jS | apply jT); rfl; rfl) | (with_reducible first | apply jU | apply jV | apply jW) | ((with_reducible first | apply jX | apply jY | apply jZ); rfl)); all_goals (first | ((with_reducible show Is _ _); exact kE_VF0) | ((with_reducible refine fun (hc : (_ : Bool) = _) => ?_); (try simp only [xZ, xY, xP, reduceCtorEq] at hc); (try (have hx : True := hc; clear hx hc)); (try exact kX)) | ((fail_if_success (with_reducible first | show Is _ _ | show ACall _ _ _ _ _)); (try ((with_reducible show _ ∨ _); exact kT))))))
              rfl
          · obtain rfl : k = i := by omega
            rw [List.take_of_length_le (by rw [List.length_take]; omega)] at hany
            have hn3 := (show _ → (M.take (k + 1)).Nodup from hgood) hany
            replace hn3 : Hid _ := hn3
            clear hany
            repeat' (first | (with_reducible first | apply jA | apply jB | apply jC | apply jD | apply jE | apply jF | apply jG | apply jH | apply jI | apply jJ | apply jK | apply jL | apply jM | apply jN | apply jO) | ((with_reducible first | apply jP | apply jQ); rfl) | ((first | ((with_reducible first | apply jR | apply jS | apply jT); rfl; rfl) | (with_reducible first | apply jU | apply jV | apply jW) | ((with_reducible first | apply jX | apply jY | apply jZ); rfl)); all_goals (first | ((with_reducible show Is _ _); exact kE) | ((with_reducible refine fun (hc : (_ : Bool) = _) => ?_); (try simp only [xZ, xY, xP, reduceCtorEq] at hc); (try (have hx : True := hc; clear hx hc)); (try exact kX)) | ((fail_if_success (with_reducible first | show Is _ _ | show ACall _ _ _ _ _)); (try ((with_reducible show _ ∨ _); exact kT))))))
            exact ⟨⟨k + 1, G, by omega, hn3, by (simp (disch := omega) [go_sem, *]) <;> (try omega), by (simp (disch := omega) [go_sem, *]) <;> (try omega), by (simp (disch := omega) [go_sem, *]) <;> (try omega), by (simp (disch := omega) [go_sem, *]) <;> (try omega), rfl, hb⟩, by (simp (disch := omega) [go_sem, *]) <;> (try omega)⟩
      · obtain rfl : i = M.length := by omega
        rw [List.take_length] at hn2
        rw [if_pos (hMnd hn2)]
        repeat' (first | (with_reducible first | apply jA | apply jB | apply jC | apply jD | apply jE | apply jF | apply jG | apply jH | apply jI | apply jJ | apply jK | apply jL | apply jM | apply jN | apply jO) | ((with_reducible first | apply jP | apply jQ); rfl) | ((first | ((with_reducible first | apply jR | apply jS | apply jT); rfl; rfl) | (with_reducible first | apply jU | apply jV | apply jW) | ((with_reducible first | apply jX | apply jY | apply jZ); rfl)); all_goals (first | ((with_reducible show Is _ _); exact kE) | ((with_reducible refine fun (hc : (_ : Bool) = _) => ?_); (try simp only [xZ, xY, xP, reduceCtorEq] at hc); (try (have hx : True := hc; clear hx hc)); (try exact kX)) | ((fail_if_success (with_reducible first | show Is _ _ | show ACall _ _ _ _ _)); (try ((with_reducible show _ ∨ _); exact kT))))))
        rfl
end Go.Proofs.YtdceppjoipoohaaDoor
end
section
namespace Go.Proofs.YtdceppjoipoohaaDoor
open Go Go.Sy
set_option linter.all false
set_option maxRecDepth 100000
set_option maxHeartbeats 4000000
theorem kE_VG0 {α : Type} {x y : α} (h : Is x y := by first | ((try simp (disch := first | omega | (simp only [yZ, yB] <;> omega) | fail) [go_sem, yY, *, bx_get0, bx_get, bx_set0, bx_set, if_pos, if_neg, -List.map_take, -List.map_drop, -List.map_append, -List.map_reverse]); exact rfl) | fail) : Is x y := h
theorem kE_VG1 {α : Type} {x y : α} (h : Is x y := by first | ((try simp (disch := first | omega | (simp only [yZ, yB] <;> omega) | fail) [go_sem, yY, *, bx_get0, bx_get, bx_set0, bx_set, rZ_len, rZ_drop, if_pos, if_neg, -List.map_take, -List.map_drop, -List.map_append, -List.map_reverse]); exact rfl) | fail) : Is x y := h
theorem kE_VG2 {α : Type} {x y : α} (h : Is x y := by first | ((try simp (disch := first | omega | (simp only [yZ, yB] <;> omega) | fail) [go_sem, yY, *, bx_get0, bx_get, if_pos, if_neg, -List.map_take, -List.map_drop, -List.map_append, -List.map_reverse]); exact rfl) | fail) : Is x y := h
def cutPe (p : List UInt8 × List UInt8 × Bool × ((Bool × List UInt8) × Int) × Int × List ((Bool × List UInt8) × Int)) : List UInt8 × List UInt8 × Bool × ((Bool × List UInt8) × Int) × Int × List ((Bool × List UInt8) × Int) := (p.1, p.2.1, p.2.2.1, p.2.2.2.1, p.2.2.2.2.1, p.2.2.2.2.2.take 6)
def cutPs (ps : List Pe) : List Pe := (ps.take 10).map cutPe
def CutR (B : List Box) (row : CV) (ps : List Pe) (B' : List Box) : Prop :=
  (ps = [] ∧ row = .nilS) ∨ ∃ β cap Z, B.length ≤ β ∧ row = .cview β 0 ps.length cap 85 ∧ B'[β]? = some ⟨ps.flatMap peC ++ Z, false⟩ ∧ (ps.flatMap peC ++ Z).length = cap * 85
def peZ : List CV := List.replicate 64 (.int .u8 0) ++ (.bool false :: (pfC pfO ++ [.int .i64 0, .nilS]))
theorem pe_zo : zerosOf Tryd.prog 90 = some peZ := by kernel_rfl
def peH (p : List UInt8 × List UInt8 × Bool × ((Bool × List UInt8) × Int) × Int × List ((Bool × List UInt8) × Int)) : List CV := p.1.map byteC ++ (p.2.1.map byteC ++ ([.bool p.2.2.1] ++ (pfC p.2.2.2.1 ++ [.int .i64 p.2.2.2.2.1])))
theorem peC_eq (p : Pe) : peC p = peH p ++ [.lst p.2.2.2.2.2.length (p.2.2.2.2.2.flatMap pfC) false] := by simp [peC, peH]
theorem peH_len {p : Pe} (h : PeL p) : (peH p).length = 84 := by
  have := peC_len h
  rw [peC_eq, List.length_append] at this
  simpa using this
theorem cutPe_len {p : Pe} (h : PeL p) : PeL (cutPe p) := ⟨h.1, h.2.1, h.2.2.1, h.2.2.2.1, fun q hq => h.2.2.2.2 q (List.mem_of_mem_take hq)⟩
theorem splice_mid {A E : List CV} {v w : CV} : splice (A ++ v :: E) A.length [w] = A ++ w :: E := by
  rw [splice, List.take_left' rfl, ← List.drop_drop, List.drop_left' rfl]
  simp
theorem cut_split {L : List Pe} (h : ∀ p ∈ L, PeL p) {j : Nat} (hj : j < L.length) (Z : List CV) : ∃ A E, A.length = j * 85 + 84 ∧ ((L.take j).map cutPe ++ L.drop j).flatMap peC ++ Z = A ++ .lst L[j].2.2.2.2.2.length (L[j].2.2.2.2.2.flatMap pfC) false :: E ∧ ((L.take (j + 1)).map cutPe ++ L.drop (j + 1)).flatMap peC ++ Z = A ++ .lst (min L[j].2.2.2.2.2.length 6) ((L[j].2.2.2.2.2.flatMap pfC).take (min L[j].2.2.2.2.2.length 6 * 18)) false :: E := by
  have hq := h L[j] (List.getElem_mem hj)
  have e1 : L.drop j = L[j] :: L.drop (j + 1) := List.drop_eq_getElem_cons hj
  have e2 : L.take (j + 1) = L.take j ++ [L[j]] := List.take_succ_eq_append_getElem hj
  have hl : (((L.take j).map cutPe).flatMap peC).length = j * 85 := by
    rw [fl_len (n := 85) (by
      intro a ha
      obtain ⟨b, hb, rfl⟩ := List.mem_map.1 ha
      exact peC_len (cutPe_len (h b (List.mem_of_mem_take hb)))), List.length_map, List.length_take, Nat.min_eq_left (by omega)]
  have e3 : (L[j].2.2.2.2.2.flatMap pfC).take (min L[j].2.2.2.2.2.length 6 * 18) = (L[j].2.2.2.2.2.take 6).flatMap pfC := by
    rw [fl_take _ fun p hp => pfC_len (hq.2.2.2.2 p hp)]
    rcases Nat.le_total L[j].2.2.2.2.2.length 6 with h6 | h6
    · rw [Nat.min_eq_left h6, List.take_of_length_le h6, List.take_of_length_le (Nat.le_refl _)]
    · rw [Nat.min_eq_right h6]
  refine ⟨((L.take j).map cutPe).flatMap peC ++ peH L[j], (L.drop (j + 1)).flatMap peC ++ Z, by rw [List.length_append, hl, peH_len hq], ?_, ?_⟩
  · rw [e1, List.flatMap_append, List.flatMap_cons, peC_eq L[j]]
    simp only [List.append_assoc, List.cons_append, List.nil_append]
  · have e4 : peC (cutPe L[j]) = peH L[j] ++ [.lst (min L[j].2.2.2.2.2.length 6) ((L[j].2.2.2.2.2.take 6).flatMap pfC) false] := by
      rw [peC_eq, cutPe]
      simp only [List.length_take, Nat.min_comm]
      rfl
    rw [e2, e3, List.map_append, List.flatMap_append, List.flatMap_append, List.map_singleton, List.flatMap_singleton, e4]
    simp only [List.append_assoc, List.cons_append, List.nil_append]
def rZ : List CV := List.replicate 32 (.int .u8 0) ++ [.int .i64 0, .nilS]
theorem rZ_len : rZ.length = 34 := rfl
theorem rZ_drop : rZ.drop 34 = [] := rfl
theorem cut_at (K : List UInt8) (port : Int) (ps : List Pe) (hK : K.length = 32) (hps : ∀ p ∈ ps, PeL p) (hl : ps.length ≤ maxLen) (hal : ∀ p ∈ ps, p.2.2.2.2.2.length ≤ maxLen) {B : List Box} {args : List CV} (hz : Is args [.agg (cfC (K, port, ps))]) : ACall Tryd.prog 24 args B fun c B' => (∃ row, c = .agg (K.map byteC ++ [.int .i64 port, row]) ∧ CutR B row (cutPs ps) B') ∧ ∃ X, B' = B ++ X := by
  obtain rfl := hz
  have hm' : (maxLen : Nat) = 9223372036854775807 := by rfl
  have hcs := cells_all (f := peC) (z := 85) (L := ps) fun p hp => peC_len (hps p hp)
  obtain ⟨d32, d33, t32, hCl⟩ := cf_parts (c := (K, port, ps)) hK
  dsimp only at d32 d33 t32
  generalize cfC (K, port, ps) = C at *
  obtain ⟨Y, hY⟩ : ∃ Y, ps.flatMap peC = Y := ⟨_, rfl⟩
  rw [hY] at hcs d32 d33
  replace hY : Hid _ := hY
  replace hcs : Hid _ := hcs
  replace hps : Hid _ := hps
  replace hal : Hid _ := hal
  have t33 : C.take 33 = K.map byteC ++ [.int .i64 port] := by
    rw [← List.take_append_drop 32 C, t32, d32, List.take_append, List.take_of_length_le (by simp [hK])]; simp [hK]
  have c1 : ∀ x : CV, (C.take 33 ++ [x]).drop 33 = [x] := fun x => by rw [List.drop_left' (by rw [List.length_take]; omega)]
  have c2 : ∀ x : CV, (C.take 33 ++ [x]).length = 34 := fun x => by rw [List.length_append, List.length_take]; simp; omega
  have c3 : ∀ x : CV, C.take 33 ++ [x] = K.map byteC ++ [.int .i64 port, x] := fun x => by rw [t33]; simp
  have c4 : ∀ x : CV, (C.take 33 ++ [x]).take 34 = C.take 33 ++ [x] := fun x => List.take_of_length_le (Nat.le_of_eq (c2 x))
  replace c3 : Hid _ := c3
  clear t33
  refine acall_intro mixed Tryd.func24 rfl ca24 (by kernel_rfl) (by rw [Tryd.ntmps24]; simp) ?_
  by_cases hn : ps.length = 0
  · obtain rfl := List.length_eq_zero_iff.1 hn
    obtain rfl : [] = Y := hY
    repeat' (first | (with_reducible first | apply jA | apply jB | apply jC | apply jD | apply jE | apply jF | apply jG | apply jH | apply jI | apply jJ | apply jK | apply jL | apply jM | apply jN | apply jO) | ((with_reducible first | apply jP | apply jQ); rfl) | ((first | ((with_reducible first | apply jR | apply jS | apply jT); rfl; rfl) | (with_reducible first | apply jU | apply jV | apply jW) | ((with_reducible first | apply jX | apply jY | apply jZ); rfl)); all_goals (first | ((with_reducible show Is _ _); exact kE_VG0) | ((with_reducible refine fun (hc : (_ : Bool) = _) => ?_); (try simp only [xZ, xY, xP, reduceCtorEq] at hc); (try (have hx : True := hc; clear hx hc)); (try exact kX)) | ((fail_if_success (with_reducible first | show Is _ _ | show ACall _ _ _ _ _)); (try ((with_reducible show _ ∨ _); exact kT))))))
    refine w_loop (fun fr G => fr 16 = .int .i64 0 ∧ fr 15 = .int .i64 0 ∧ fr 1 = .ptr B.length 0 ∧ fr 2 = .ptr (B.length + 1) 0 ∧ G = B ++ [⟨C.take 33 ++ [.nilS], false⟩, ⟨rZ, false⟩]) (fun fr _ => 0) ?_ ?_
    · exact ⟨by (simp (disch := omega) [go_sem, *]) <;> (try omega), by (simp (disch := omega) [go_sem, *]) <;> (try omega), by (simp (disch := omega) [go_sem, *]) <;> (try omega), by (simp (disch := omega) [go_sem, *]) <;> (try omega), rfl⟩
    rintro fr G ⟨f16, f15, f1, f2, rfl⟩
    repeat' (first | (with_reducible first | apply jA | apply jB | apply jC | apply jD | apply jE | apply jF | apply jG | apply jH | apply jI | apply jJ | apply jK | apply jL | apply jM | apply jN | apply jO) | ((with_reducible first | apply jP | apply jQ); rfl) | ((first | ((with_reducible first | apply jR | apply jS | apply jT); rfl; rfl) | (with_reducible first | apply jU | apply jV | apply jW) | ((with_reducible first | apply jX | apply jY | apply jZ); rfl)); all_goals (first | ((with_reducible show Is _ _); exact kE_VG1) | ((with_reducible refine fun (hc : (_ : Bool) = _) => ?_); (try simp only [xZ, xY, xP, reduceCtorEq] at hc); (try (have hx : True := hc; clear hx hc)); (try exact kX)) | ((fail_if_success (with_reducible first | show Is _ _ | show ACall _ _ _ _ _)); (try ((with_reducible show _ ∨ _); exact kT))))))
    exact ⟨⟨_, congrArg CV.agg (c3 _), .inl ⟨rfl, rfl⟩⟩, _, rfl⟩
  obtain ⟨m, hm⟩ : ∃ m, (min (ps.length : Int) 10).toNat = m := ⟨_, rfl⟩
  have hmn : m = min ps.length 10 := by omega
  have hm1 : 1 ≤ m := by omega
  have hYl : Y.length = ps.length * 85 := by rw [← (hY : _ = Y)]; exact fl_len fun p hp => peC_len ((hps : ∀ p ∈ ps, PeL p) p hp)
  replace hYl : Hid _ := hYl
  repeat' (first | (with_reducible first | apply jA | apply jB | apply jC | apply jD | apply jE | apply jF | apply jG | apply jH | apply jI | apply jJ | apply jK | apply jL | apply jM | apply jN | apply jO) | ((with_reducible first | apply jP | apply jQ); rfl) | ((first | ((with_reducible first | apply jR | apply jS | apply jT); rfl; rfl) | (with_reducible first | apply jU | apply jV | apply jW) | ((with_reducible first | apply jX | apply jY | apply jZ); rfl)); all_goals (first | ((with_reducible show Is _ _); exact kE_VG2) | ((with_reducible refine fun (hc : (_ : Bool) = _) => ?_); (try simp only [xZ, xY, xP, reduceCtorEq] at hc); (try (have hx : True := hc; clear hx hc)); (try exact kX)) | ((fail_if_success (with_reducible first | show Is _ _ | show ACall _ _ _ _ _)); (try ((with_reducible show _ ∨ _); exact kT))))))
  have hYl : Y.length = ps.length * 85 := hYl
  refine o_appendG (P := Tryd.prog) (e := 90) (esz := 85) (m := m) (k := 0) (zs := peZ) (olds := []) (news := Y.take (m * 85)) rfl (by (try simp (disch := first | omega | (simp only [yZ, yB] <;> omega) | fail) [go_sem, yY, *, -List.map_take, -List.map_drop, -List.map_append, -List.map_reverse]); exact rfl) (by (try simp (disch := first | omega | (simp only [yZ, yB] <;> omega) | fail) [go_sem, yY, *, -List.map_take, -List.map_drop, -List.map_append, -List.map_reverse]); exact rfl) (by simp (disch := first | omega | (simp only [yZ, yB] <;> omega) | fail) [go_sem, yY, *, -List.map_take, -List.map_drop, -List.map_append, -List.map_reverse]) (by simp (disch := first | omega | (simp only [yZ, yB] <;> omega) | fail) [go_sem, yY, *, -List.map_take, -List.map_drop, -List.map_append, -List.map_reverse]) pe_zo rfl (by decide) ⟨_, by simp (disch := first | omega | (simp only [yZ, yB] <;> omega) | fail) [go_sem, yY, *, -List.map_take, -List.map_drop, -List.map_append, -List.map_reverse]; rfl⟩ (by simp (disch := first | omega | (simp only [yZ, yB] <;> omega) | fail) [go_sem, yY, *, -List.map_take, -List.map_drop, -List.map_append, -List.map_reverse]; rw [List.take_take, Nat.min_self]) (by simp) (by omega) (.inl ⟨rfl, rfl, rfl⟩) (by simp (disch := first | omega | (simp only [yZ, yB] <;> omega) | fail) [go_sem, yY, *, -List.map_take, -List.map_drop, -List.map_append, -List.map_reverse]; omega) (by omega) ?_
  intro cap hcap
  rw [List.nil_append, Nat.zero_add]
  have hYm : Y.take (m * 85) = (ps.take m).flatMap peC := by rw [← (hY : _ = Y)]; exact fl_take m fun p hp => peC_len ((hps : ∀ p ∈ ps, PeL p) p hp)
  rw [hYm]
  obtain ⟨Z, hZ⟩ : ∃ Z, repC peZ (cap - m) = Z := ⟨_, rfl⟩
  have hZl : Z.length = (cap - m) * 85 := by rw [← hZ, repC_length]; rfl
  rw [hZ]
  clear hZ hYm hYl hm
  obtain ⟨L, hL⟩ : ∃ L, ps.take m = L := ⟨_, rfl⟩
  have hLs : L.length ≤ 10 := by rw [← hL, List.length_take]; omega
  have hLl : L.length = m := by rw [← hL, List.length_take]; omega
  rw [hL]
  have hcp : cutPs ps = L.map cutPe := by
    rw [← hL, cutPs, hmn]
    rcases Nat.le_total ps.length 10 with h | h
    · rw [Nat.min_eq_left h, List.take_of_length_le h, List.take_of_length_le (Nat.le_refl _)]
    · rw [Nat.min_eq_right h]
  have hLp : ∀ p ∈ L, PeL p := fun p hp => (hps : ∀ p ∈ ps, PeL p) p (List.mem_of_mem_take (hL ▸ hp))
  have hLa : ∀ p ∈ L, p.2.2.2.2.2.length ≤ maxLen := fun p hp => (hal : ∀ p ∈ ps, _) p (List.mem_of_mem_take (hL ▸ hp))
  rw [hcp]
  replace hLp : Hid _ := hLp
  replace hLa : Hid _ := hLa
  clear hcs hps hal hY hL hcp hmn hn hl
  clear d33 d32
  subst hLl
  repeat' (first | (with_reducible first | apply jA | apply jB | apply jC | apply jD | apply jE | apply jF | apply jG | apply jH | apply jI | apply jJ | apply jK | apply jL | apply jM | apply jN | apply jO) | ((with_reducible first | apply jP | apply jQ); rfl) | ((first | ((with_reducible first | apply jR | apply jS | apply jT); rfl; rfl) | (with_reducible first | apply jU | apply jV | apply jW) | ((with_reducible first | apply jX | apply jY | apply jZ); rfl)); all_goals (first | ((with_reducible show Is _ _); exact kE_VG0) | ((with_reducible refine fun (hc : (_ : Bool) = _) => ?_); (try simp only [xZ, xY, xP, reduceCtorEq] at hc); (try (have hx : True := hc; clear hx hc)); (try exact kX)) | ((fail_if_success (with_reducible first | show Is _ _ | show ACall _ _ _ _ _)); (try ((with_reducible show _ ∨ _); exact kT))))))
  refine w_loop (fun fr G => ∃ (j : Nat) (D : List CV), Hid (((L.take j).map cutPe ++ L.drop j).flatMap peC ++ Z = D) ∧ j ≤ L.length ∧ fr 16 = .int .i64 j ∧ fr 15 = .int .i64 L.length ∧ fr 1 = .ptr B.length 0 ∧ fr 2 = .ptr (B.length + 1) 0 ∧ G = B ++ [⟨C.take 33 ++ [.cview (B.length + 2) 0 L.length cap 85], false⟩, ⟨rZ, false⟩, ⟨D, false⟩]) (fun fr _ => L.length - natOf (fr 16)) ?_ ?_
  · exact ⟨0, _, rfl, by omega, by (simp (disch := omega) [go_sem, *]) <;> (try omega), by (simp (disch := omega) [go_sem, *]) <;> (try omega), by (simp (disch := omega) [go_sem, *]) <;> (try omega), by (simp (disch := omega) [go_sem, *]) <;> (try omega), by simp [rZ]⟩
  rintro fr G ⟨j, D, hD, hj, f16, f15, f1, f2, rfl⟩
  have hm0 : natOf (fr 16) = j := by rw [f16]; rfl
  by_cases hc : j < L.length
  · obtain ⟨A, E, hA, e1, e2⟩ := cut_split hLp hc Z
    have hqa := (hLa : ∀ p ∈ L, p.2.2.2.2.2.length ≤ maxLen) L[j] (List.getElem_mem hc)
    have hD : _ = D := hD
    rw [e1] at hD
    replace e2 : Hid _ := e2
    clear e1 hLp hLa
    generalize L[j].2.2.2.2.2.flatMap pfC = R at *
    generalize L[j].2.2.2.2.2.length = al at *
    have x1 : D[j * 85 + 84]? = some (.lst al R false) := by rw [← hD, ← hA]; simp
    have x2 : D.drop (j * 85 + 84) = .lst al R false :: E := by rw [← hD, ← hA, List.drop_left' rfl]
    have x5 : D.take (j * 85 + 84) = A := by rw [← hD, ← hA, List.take_left' rfl]
    have x6 : D.drop (j * 85 + 84 + 1) = E := by rw [← List.drop_drop, x2]; rfl
    have x4 : j * 85 + 85 ≤ D.length := by rw [← hD, List.length_append, hA]; simp; omega
    clear hD hA
    repeat' (first | (with_reducible first | apply jA | apply jB | apply jC | apply jD | apply jE | apply jF | apply jG | apply jH | apply jI | apply jJ | apply jK | apply jL | apply jM | apply jN | apply jO) | ((with_reducible first | apply jP | apply jQ); rfl) | ((first | ((with_reducible first | apply jR | apply jS | apply jT); rfl; rfl) | (with_reducible first | apply jU | apply jV | apply jW) | ((with_reducible first | apply jX | apply jY | apply jZ); rfl)); all_goals (first | ((with_reducible show Is _ _); exact kE_VG1) | ((with_reducible refine fun (hc : (_ : Bool) = _) => ?_); (try simp only [xZ, xY, xP, reduceCtorEq] at hc); (try (have hx : True := hc; clear hx hc)); (try exact kX)) | ((fail_if_success (with_reducible first | show Is _ _ | show ACall _ _ _ _ _)); (try ((with_reducible show _ ∨ _); exact kT))))))
    refine ⟨⟨j + 1, _, e2, by omega, by (simp (disch := omega) [go_sem, *]) <;> (try omega), by (simp (disch := omega) [go_sem, *]) <;> (try omega), by (simp (disch := omega) [go_sem, *]) <;> (try omega), by (simp (disch := omega) [go_sem, *]) <;> (try omega), ?_⟩, by (simp (disch := omega) [go_sem, *]) <;> (try omega)⟩
    rw [show (min (al : Int) 6).toNat = min al 6 by omega]
  obtain rfl : j = L.length := by omega
  repeat' (first | (with_reducible first | apply jA | apply jB | apply jC | apply jD | apply jE | apply jF | apply jG | apply jH | apply jI | apply jJ | apply jK | apply jL | apply jM | apply jN | apply jO) | ((with_reducible first | apply jP | apply jQ); rfl) | ((first | ((with_reducible first | apply jR | apply jS | apply jT); rfl; rfl) | (with_reducible first | apply jU | apply jV | apply jW) | ((with_reducible first | apply jX | apply jY | apply jZ); rfl)); all_goals (first | ((with_reducible show Is _ _); exact kE_VG1) | ((with_reducible refine fun (hc : (_ : Bool) = _) => ?_); (try simp only [xZ, xY, xP, reduceCtorEq] at hc); (try (have hx : True := hc; clear hx hc)); (try exact kX)) | ((fail_if_success (with_reducible first | show Is _ _ | show ACall _ _ _ _ _)); (try ((with_reducible show _ ∨ _); exact kT))))))
  have hD : _ = D := hD
  rw [List.take_length, List.drop_length, List.append_nil] at hD
  refine ⟨⟨_, congrArg CV.agg (c3 _), .inr ⟨B.length + 2, cap, Z, by omega, by rw [List.length_map], ?_, ?_⟩⟩, _, rfl⟩
  · rw [hD, bx_get rfl]; rfl
  · rw [List.length_append, fl_len (n := 85) (by
      intro a ha
      obtain ⟨b, hb, rfl⟩ := List.mem_map.1 ha
      exact peC_len (cutPe_len ((hLp : ∀ p ∈ L, PeL p) b hb))), List.length_map, hZl, ← Nat.add_mul]
    congr 1; omega
end Go.Proofs.YtdceppjoipoohaaDoor
end
section
namespace Go.Sy
theorem acall_immQ {P : Program} {B : List Box} {f : FuncId} {args args' : List CV} {Q : CV → Prop} {nz fr : Bool} (hz : omap (fz nz false [] 6) args = some args') (h : ACall P f args' [] fun c1 B1 => ∃ c', Q c' ∧ fz true fr B1 6 c1 = some c') : ACall P f args B fun c B' => Q c ∧ B' = B := by
  refine ⟨h.1, fun N I μ w vs hB hv => ?_⟩
  have hv' := rel_free 6 false args vs args' hv hz
  refine (h.2 w.heap.size I [] w vs (BRel.none_ w _ hB.imm hB.tabs) hv').mono fun e w' ⟨c, v, B1, J1, μ1, he, ⟨c', hq, hQ⟩, hs⟩ => ?_
  have hJ : ∀ b j, J1 b j → I b j ∨ (w.heap.size ≤ b ∧ b < w'.heap.size) := fun b j hj => by
    rcases hs.ext.immN b j hj with h1 | h1 | ⟨β, ps, p, h1, _⟩
    · exact .inl h1
    · exact .inr ⟨h1, hs.box.imm _ _ hj⟩
    · simp at h1
  have hv2 := fz_rel (J := fun b j => I b j ∨ (w.heap.size ≤ b ∧ b < w'.heap.size)) hs.box (fun _ => hJ) (fun β ps p _ h1 h2 => .inr ⟨(hs.box.places β ps p h1 h2).1, (hs.box.places β ps p h1 h2).2.2.lt⟩) 6 false [c] [v] [c'] hs.val (omap_one hQ)
  obtain ⟨g1, g2, g3⟩ := hB.behind (I2 := fun b j => I b j ∨ (w.heap.size ≤ b ∧ b < w'.heap.size)) hs.below (fun _ _ h => .inl h) (fun _ _ h => h)
  exact ⟨c', v, B, _, μ, he, ⟨hq, rfl⟩, hv2.ext ⟨fun _ _ h => h, fun _ _ _ => rfl, fun _ _ h => h, fun _ h => h, fun _ _ h => by simp at h⟩, g1, g2, g3⟩
end Go.Sy
namespace Go.Proofs.YtdceppjoipoohaaDoor
open Go Go.Sy
set_option linter.all false
set_option maxRecDepth 100000
set_option maxHeartbeats 4000000
theorem cf_om {nz : Bool} {B : List Box} {k : Nat} (c : Cf) : omap (Go.Sy.fz nz false B (k + 3)) (cfC c) = some (cfC c) := by simp [cfC, go_sem]
def CRow (B : List Box) (row : CV) (ps : List Pe) : Prop := (ps = [] ∧ row = .nilS) ∨ ∃ β D, (row = .view β 0 ps.length 85 false ∨ ∃ cap, row = .cview β 0 ps.length cap 85) ∧ B[β]? = some ⟨D, false⟩ ∧ omap (Go.Sy.fz true false B 4) (D.take (ps.length * 85)) = some (ps.flatMap peC)
theorem crow_fz {B : List Box} {row : CV} {ps : List Pe} {K : List UInt8} {port : Int} (h : CRow B row ps) : fz true false B 6 (.agg (K.map byteC ++ [.int .i64 port, row])) = some (.agg (cfC (K, port, ps))) := by
  have hr : fz true false B 5 row = some (.lst ps.length (ps.flatMap peC) false) := by
    rcases h with ⟨rfl, rfl⟩ | ⟨β, D, (rfl | ⟨cap, rfl⟩), hb, ho⟩
    · rfl
    · rw [fz_view, hb]; simp only [List.drop_zero, ho]; rfl
    · rw [fz_cview, hb]; simp only [List.drop_zero, ho]; rfl
  rw [fz_agg, omap_app, omap_bytes, omap_two, omap_two, hr]
  rfl
theorem cutPs_mem {ps : List Pe} (hps : ∀ p ∈ ps, PeL p) : ∀ p ∈ cutPs ps, PeL p := fun p hp => by
  obtain ⟨q, hq, rfl⟩ := List.mem_map.1 hp
  exact cutPe_len (hps q (List.mem_of_mem_take hq))
theorem cutPs_len {ps : List Pe} : (cutPs ps).length ≤ 10 := by rw [cutPs, List.length_map, List.length_take]; omega
theorem cutPs_al {ps : List Pe} : ∀ p ∈ cutPs ps, p.2.2.2.2.2.length ≤ 6 := fun p hp => by
  obtain ⟨q, hq, rfl⟩ := List.mem_map.1 hp
  simp only [cutPe, List.length_take]; omega
theorem cut_in (K : List UInt8) (port : Int) (ps : List Pe) (hK : K.length = 32) (hps : ∀ p ∈ ps, PeL p) (hl : ps.length ≤ maxLen) (hal : ∀ p ∈ ps, p.2.2.2.2.2.length ≤ maxLen) {B : List Box} {args : List CV} (hz : Is args [.agg (cfC (K, port, ps))]) : ACall Tryd.prog 24 args B fun c B' => c = .agg (cfC (K, port, cutPs ps)) ∧ B' = B := by
  obtain rfl := hz
  refine acall_immQ (nz := true) (fr := false) (by rw [omap_two, fz_agg, cf_om]; rfl) ((cut_at K port ps hK hps hl hal (B := []) rfl).mono fun c B' ⟨⟨row, hc, hr⟩, _⟩ => ⟨_, rfl, ?_⟩)
  rw [hc]
  refine crow_fz ?_
  rcases hr with h | ⟨β, cap, Z, -, h2, h3, -⟩
  · exact .inl h
  · refine .inr ⟨β, _, .inr ⟨cap, h2⟩, h3, ?_⟩
    rw [List.take_left' (fl_len fun p hp => peC_len (cutPs_mem hps p hp))]
    exact pe_om _
end Go.Proofs.YtdceppjoipoohaaDoor
end
section
namespace Go.Proofs.YtdceppjoipoohaaDoor
open Go Go.Sy
set_option linter.all false
set_option maxRecDepth 100000
set_option maxHeartbeats 4000000
def CfOk (K : List UInt8) (c : CV) : Prop := ∃ port ps, c = .agg (cfC (K, port, ps)) ∧ (-9223372036854775808 ≤ port ∧ port ≤ 9223372036854775807) ∧ (∀ p ∈ ps, PeL p) ∧ ps.length ≤ 18 ∧ ∀ p ∈ ps, p.2.2.2.2.2.length ≤ 12
theorem splice_in85 {A Q R vs : List CV} {o : Nat} (ho : o + vs.length ≤ Q.length) : splice (A ++ (Q ++ R)) (A.length + o) vs = A ++ (splice Q o vs ++ R) := by
  simp only [splice]
  rw [List.take_length_add_append, List.take_append_of_le_length (by omega), Nat.add_assoc, ← List.drop_drop (l := A ++ (Q ++ R)), List.drop_left' rfl, List.drop_append_of_le_length ho]
  simp only [List.append_assoc]
theorem spoil_row {T : List Pe} (hT : ∀ p ∈ T, PeL p) {i : Nat} (hi : i < T.length) {Z : List CV} {o : Nat} {vs : List CV} {q : Pe} {B : List Box} (ho : o + vs.length ≤ 85) (h : omap (Go.Sy.fz true false B 4) (splice (peC T[i]) o vs) = some (peC q)) : omap (Go.Sy.fz true false B 4) ((splice (T.flatMap peC ++ Z) (i * 85 + o) vs).take (T.length * 85)) = some ((T.set i q).flatMap peC) := by
  have e1 : T.flatMap peC ++ Z = (T.take i).flatMap peC ++ (peC T[i] ++ ((T.drop (i + 1)).flatMap peC ++ Z)) := by
    conv => lhs; rw [← List.take_append_drop i T, List.drop_eq_getElem_cons hi]
    simp only [List.flatMap_append, List.flatMap_cons, List.append_assoc]
  have l1 : ((T.take i).flatMap peC).length = i * 85 := by
    rw [fl_len (n := 85) fun a ha => peC_len (hT a (List.mem_of_mem_take ha)), List.length_take, Nat.min_eq_left (by omega)]
  have l2 := peC_len (hT T[i] (List.getElem_mem hi))
  have l3 : ((T.drop (i + 1)).flatMap peC).length = (T.length - (i + 1)) * 85 := by
    rw [fl_len (n := 85) fun a ha => peC_len (hT a (List.mem_of_mem_drop ha)), List.length_drop]
  have l4 : (splice (peC T[i]) o vs).length = 85 := by rw [splice_length _ _ _ (by omega), l2]
  rw [e1, ← l1, splice_in85 (by omega), ← List.append_assoc, ← List.append_assoc, List.take_left' (by rw [List.length_append, List.length_append, l1, l4, l3]; omega), omap_app, omap_app, pe_om, h, pe_om, List.set_eq_take_append_cons_drop, if_pos hi]
  simp only [List.flatMap_append, List.flatMap_cons, List.append_assoc]
  simp
theorem sp_pub {q : Pe} {u : List UInt8} (hq : q.1.length = 32) (hu : u.length = 32) : splice (peC q) 0 (u.map byteC) = peC (u, q.2) := by
  rw [splice, peC, peC, List.take_zero, Nat.zero_add, List.length_map, List.drop_left' (by simp [hq, hu])]
  rfl
theorem sp_has {q : Pe} (h1 : q.1.length = 32) (h2 : q.2.1.length = 32) (b : Bool) : splice (peC q) 64 [.bool b] = peC (q.1, q.2.1, b, q.2.2.2) := by
  have e : ∀ b, peC (q.1, q.2.1, b, q.2.2.2) = (q.1.map byteC ++ q.2.1.map byteC) ++ .bool b :: (pfC q.2.2.2.1 ++ ([.int .i64 q.2.2.2.2.1] ++ [.lst q.2.2.2.2.2.length (q.2.2.2.2.2.flatMap pfC) false])) := fun b => by simp [peC]
  have l : (q.1.map byteC ++ q.2.1.map byteC).length = 64 := by simp [h1, h2]
  rw [show peC q = _ from e q.2.2.1, e b, ← l]
  exact splice_mid
theorem sp_port {q : Pe} (h : PeL q) (n : Int) : splice (peC q) 82 [.int .i64 n] = peC (q.1, q.2.1, q.2.2.1, (q.2.2.2.1.1, n), q.2.2.2.2) := by
  have e : ∀ n, peC (q.1, q.2.1, q.2.2.1, (q.2.2.2.1.1, n), q.2.2.2.2) = (q.1.map byteC ++ (q.2.1.map byteC ++ (.bool q.2.2.1 :: .bool q.2.2.2.1.1.1 :: q.2.2.2.1.1.2.map byteC))) ++ .int .i64 n :: ([.int .i64 q.2.2.2.2.1] ++ [.lst q.2.2.2.2.2.length (q.2.2.2.2.2.flatMap pfC) false]) := fun n => by simp [peC, pfC]
  have l : (q.1.map byteC ++ (q.2.1.map byteC ++ (.bool q.2.2.1 :: .bool q.2.2.2.1.1.1 :: q.2.2.2.1.1.2.map byteC))).length = 82 := by simp [h.1, h.2.1, h.2.2.1.1]
  rw [show peC q = _ from e q.2.2.2.1.2, e n, ← l]
  exact splice_mid
theorem sp_keep {q : Pe} (h : PeL q) (n : Int) : splice (peC q) 83 [.int .i64 n] = peC (q.1, q.2.1, q.2.2.1, q.2.2.2.1, n, q.2.2.2.2.2) := by
  have e : ∀ n, peC (q.1, q.2.1, q.2.2.1, q.2.2.2.1, n, q.2.2.2.2.2) = (q.1.map byteC ++ (q.2.1.map byteC ++ (.bool q.2.2.1 :: pfC q.2.2.2.1))) ++ .int .i64 n :: [.lst q.2.2.2.2.2.length (q.2.2.2.2.2.flatMap pfC) false] := fun n => by simp [peC]
  have l : (q.1.map byteC ++ (q.2.1.map byteC ++ (.bool q.2.2.1 :: pfC q.2.2.2.1))).length = 83 := by simp [h.1, h.2.1, pfC_len h.2.2.1]
  rw [show peC q = _ from e q.2.2.2.2.1, e n, ← l]
  exact splice_mid
theorem sp_all {q : Pe} (h : PeL q) (w : CV) : splice (peC q) 84 [w] = peH q ++ [w] := by
  rw [peC_eq, ← peH_len h]
  exact splice_mid
theorem peH_om {B : List Box} {q : Pe} : omap (Go.Sy.fz true false B 4) (peH q) = some (peH q) := by simp [peH, pfC, go_sem]
end Go.Proofs.YtdceppjoipoohaaDoor
end
section
namespace Go.Proofs.YtdceppjoipoohaaDoor
open Go Go.Sy
set_option linter.all false
set_option maxRecDepth 100000
set_option maxHeartbeats 4000000
theorem sp_view {q : Pe} (hq : PeL q) {B : List Box} {β m : Nat} {A : List Pf} {mu : Bool} (hA : ∀ p ∈ A, PfL p) (hm : m = A.length) (hB : B[β]? = some ⟨A.flatMap pfC, mu⟩) : omap (Go.Sy.fz true false B 4) (splice (peC q) 84 [.view β 0 m 18 false]) = some (peC (q.1, q.2.1, q.2.2.1, q.2.2.2.1, q.2.2.2.2.1, A)) := by
  subst hm
  have ht : (A.flatMap pfC).take (A.length * 18) = A.flatMap pfC := List.take_of_length_le (by rw [fl_len fun p hp => pfC_len (hA p hp)]; omega)
  rw [sp_all hq, omap_app, peH_om, omap_two, fz_view, hB]
  simp only [List.drop_zero, ht, pf_om]
  rw [peC_eq]
  rfl
theorem sp_nil {q : Pe} (hq : PeL q) {B : List Box} : omap (Go.Sy.fz true false B 4) (splice (peC q) 84 [.nilS]) = some (peC (q.1, q.2.1, q.2.2.1, q.2.2.2.1, q.2.2.2.2.1, [])) := by
  rw [sp_all hq, omap_app, peH_om, omap_two, peC_eq]
  rfl
theorem wrap64 (x : Int) : -9223372036854775808 ≤ IntKind.i64.wrap x ∧ IntKind.i64.wrap x ≤ 9223372036854775807 := by
  simp [IntKind.wrap, IntKind.bits, IntKind.signed]; omega
def peO : List UInt8 × List UInt8 × Bool × ((Bool × List UInt8) × Int) × Int × List ((Bool × List UInt8) × Int) := (List.replicate 32 0, List.replicate 32 0, false, pfO, 0, [])
theorem peO_len : PeL peO := ⟨rfl, rfl, ⟨rfl, by decide, by decide⟩, by decide, by simp [peO]⟩
theorem peZ_om {B : List Box} : ∀ k : Nat, omap (Go.Sy.fz true false B 4) (repC peZ k) = some ((List.replicate k peO).flatMap peC)
  | 0 => rfl
  | k + 1 => by
    rw [repC, omap_app, peZ_om k, List.replicate_succ, List.flatMap_cons, show omap (Go.Sy.fz true false B 4) peZ = some (peC peO) from rfl]
    rfl
theorem row7 {T : List Pe} {D E : List CV} {k : Nat} {B : List Box} (hT : ∀ p ∈ T, PeL p) (hD : D.take (T.length * 85) = T.flatMap peC) : omap (Go.Sy.fz true false B 4) ((D.take (T.length * 85) ++ (repC peZ k ++ E)).take ((T.length + k) * 85)) = some ((T ++ List.replicate k peO).flatMap peC) := by
  have l1 : (T.flatMap peC).length = T.length * 85 := fl_len fun p hp => peC_len (hT p hp)
  have l2 : (repC peZ k).length = k * 85 := by rw [repC_length]; rfl
  rw [hD, ← List.append_assoc, List.take_left' (by rw [List.length_append, l1, l2]; omega), omap_app, pe_om, peZ_om, List.flatMap_append]
  rfl
end Go.Proofs.YtdceppjoipoohaaDoor
end
section
namespace Go.Proofs.YtdceppjoipoohaaDoor
open Go Go.Sy
set_option linter.all false
set_option maxRecDepth 100000
set_option maxHeartbeats 4000000
def adC (a : Bool × List UInt8) : List CV := .bool a.1 :: a.2.map byteC
theorem adC_len {a : Bool × List UInt8} (h : a.2.length = 16) : (adC a).length = 17 := by simp [adC, h]
theorem pfC_l {p : Pf} (h : p.1.2.length = 16) : (pfC p).length = 18 := by simp [pfC, h]
theorem pf_parts {p : Pf} (h : p.1.2.length = 16) : (pfC p).length = 18 ∧ (pfC p).take 18 = pfC p ∧ (pfC p).drop 18 = [] ∧ (pfC p).take 17 = adC p.1 ∧ (pfC p)[17]? = some (.int .i64 p.2) ∧ ((pfC p).drop 17).head? = some (.int .i64 p.2) := by
  have l17 := adC_len h
  have l18 := pfC_l h
  have g : (pfC p)[17]? = some (.int .i64 p.2) := by rw [show pfC p = adC p.1 ++ [.int .i64 p.2] from rfl, List.getElem?_append_right (by omega), l17]; rfl
  exact ⟨l18, List.take_of_length_le (by omega), List.drop_eq_nil_of_le (by omega), by rw [show pfC p = adC p.1 ++ [.int .i64 p.2] from rfl, List.take_left' l17], g, by rw [List.head?_drop, g]⟩
def PfG (p : Pf) : Prop := p.1.2.length = 16 ∧ vld p.1.1 p.1.2 p.2 = true
def PsG (ps : List Pf) : Prop := ps.Nodup ∧ ∀ p ∈ ps, PfG p
def GrowX (o : Nat) (c : CV) (W : List Box) (ps : List Pf) : Prop := (ps = [] ∧ c = .nilS) ∨ ∃ b m, o ≤ b ∧ ps ≠ [] ∧ c = .view b 0 ps.length 18 false ∧ W[b]? = some ⟨ps.flatMap pfC, m⟩
theorem pf_drawn {B : List Box} {β : Nat} {l : List UInt8} {a : Nat} (hB : B[β]? = some (cb l a)) (hl : a ≤ l.length ∧ l.length < 1000000) :
    ∃ (q : Pf) (a2 : Nat) (G : List Box), PfG q ∧ a2 ≤ l.length ∧ ∀ args, Is args [.ptr β 0] → ACall Tryd.prog 9 args B fun c B' => c = .agg (pfC q) ∧ B' = B.set β (cb l a2) ++ G := by
  have hb : pfBits l a ≤ if adSix l a then 128 else 32 := by
    have : pfBits l a < pfN l a := nxV_lt (by unfold pfN; split <;> omega)
    unfold pfN at this
    split at this <;> rename_i h <;> simp [h] <;> omega
  refine ⟨((adSix l a, pfIP l a), pfBits l a), pfA l a, pfG l a, ⟨cutL_len _ _, vld_cut (adIP_len l a) (okA_ad l a) hb⟩, nxA_le (adA_le hl.1), fun args h => prefix_at h hB hl⟩
theorem nodup_snoc {ps : List Pf} {q : Pf} (h : PsG ps) (hq : PfG q) (hn : ps.contains q = false) : PsG (ps ++ [q]) := by
  refine ⟨List.nodup_append.2 ⟨h.1, by simp, fun a ha b hb e => ?_⟩, fun p hp => ?_⟩
  · rw [List.mem_singleton] at hb; subst hb; subst e
    rw [← List.contains_iff_mem] at ha
    rw [hn] at ha; cases ha
  · rcases List.mem_append.1 hp with hp | hp
    · exact h.2 p hp
    · rw [List.mem_singleton.1 hp]; exact hq
theorem contains_next {ps : List Pf} {q : Pf} {j : Nat} (h : j < ps.length) : (ps.take (j + 1)).contains q = ((ps.take j).contains q || ps[j] == q) := by
  rw [List.take_succ_eq_append_getElem h, List.contains_append, List.contains_cons, List.contains_nil, Bool.or_false]
  congr 1
  exact Bool.eq_iff_iff.2 ⟨fun h => by rw [beq_iff_eq] at h ⊢; exact h.symm, fun h => by rw [beq_iff_eq] at h ⊢; exact h.symm⟩
theorem prefixes_at {B : List Box} {β : Nat} {args : List CV} {l : List UInt8} {a n : Nat} {m : Int} (ha : Is args [.ptr β 0, .int .i64 m]) (hm : m = n) (hB : B[β]? = some (cb l a)) (hl : a ≤ l.length ∧ l.length < 1000000) (hn : n ≤ 1000) :
    ACall Tryd.prog 54 args B fun c B' => ∃ (ps : List Pf) (a' : Nat), a' ≤ l.length ∧ PsG ps ∧ ps.length ≤ n ∧ GrowX B.length c B' ps ∧ B'[β]? = some (cb l a') ∧ (∀ k, k < B.length → k ≠ β → B'[k]? = B[k]?) ∧ B.length ≤ B'.length := by
  have ha : args = _ := ha
  subst ha hm
  have hβ := (List.getElem?_eq_some_iff.1 hB).1
  have hnx : ∀ (args : List CV), Is args [.ptr β 0, .int .i64 ((n : Int) + 1)] → ACall Tryd.prog 29 args B fun c B' => c = .int .i64 (nxV l a (n + 1)) ∧ B' = B.set β (cb l (nxA l a (n + 1))) := fun args h => next_at (n := n + 1) h (by omega) hB ⟨by omega, by omega⟩
  have hv := nxV_lt (l := l) (a := a) (n := n + 1) (by omega)
  have hA := nxA_le (l := l) (a := a) (n := n + 1) hl.1
  have hB1 : (B.set β (cb l (nxA l a (n + 1))))[β]? = some (cb l (nxA l a (n + 1))) := List.getElem?_set_self hβ
  have hB2 : ∀ k, k < B.length → k ≠ β → (B.set β (cb l (nxA l a (n + 1))))[k]? = B[k]? := fun k _ hk => List.getElem?_set_ne (Ne.symm hk)
  have hB3 : B.length ≤ (B.set β (cb l (nxA l a (n + 1)))).length := by rw [List.length_set]; exact Nat.le_refl _
  generalize nxA l a (n + 1) = a1 at *
  generalize nxV l a (n + 1) = i0 at *
  refine acall_intro mixed Tryd.func54 rfl ca54 (by kernel_rfl) (by rw [Tryd.ntmps54]; simp) ?_
  have hwr : IntKind.i64.wrap ((n : Int) + 1) = (n : Int) + 1 := wi64 (by omega)
  repeat' (first | (with_reducible first | apply jA | apply jB | apply jC | apply jD | apply jE | apply jF | apply jG | apply jH | apply jI | apply jJ | apply jK | apply jL | apply jM | apply jN | apply jO) | ((with_reducible first | apply jP | apply jQ); rfl) | ((first | ((with_reducible first | apply jR | apply jS | apply jT); rfl; rfl) | (with_reducible first | apply jU | apply jV | apply jW) | ((with_reducible first | apply jX | apply jY | apply jZ); rfl) | ((with_reducible first | apply kA | apply kB | apply kC); rfl)); all_goals (first | ((with_reducible show Is _ _); exact kE) | ((with_reducible refine fun (hc : (_ : Bool) = _) => ?_); (try simp only [xZ, xY, xP, reduceCtorEq] at hc); (try (have hx : True := hc; clear hx hc)); (try exact kX)) | ((with_reducible show ACall _ _ _ _ _); (first | ((with_reducible apply hnx) <;> exact kD))) | ((fail_if_success (with_reducible first | show Is _ _ | show ACall _ _ _ _ _)); (try ((with_reducible show _ ∨ _); exact kT))))))
  clear hnx hwr hB
  obtain ⟨W0, hW0⟩ : ∃ W0, B.set β (cb l a1) = W0 := ⟨_, rfl⟩
  rw [hW0] at hB1 hB2 hB3
  refine w_loop (fun fr W => ∃ (i a : Nat) (ps : List Pf), i + ps.length ≤ n ∧ a ≤ l.length ∧ PsG ps ∧ fr 6 = .int .i64 i ∧ fr 0 = .ptr β 0 ∧ GrowX B.length (fr 5) W ps ∧ W[β]? = some (cb l a) ∧ (∀ k, k < B.length → k ≠ β → W[k]? = B[k]?) ∧ B.length ≤ W.length) (fun fr _ => natOf (fr 6)) ?_ ?_
  · exact ⟨i0, a1, [], by simp; omega, hA, ⟨List.nodup_nil, by simp⟩, by (simp (disch := omega) [go_sem, *]) <;> (try omega), by (simp (disch := omega) [go_sem, *]) <;> (try omega), .inl ⟨rfl, by (simp (disch := omega) [go_sem, *]) <;> (try omega)⟩, by rw [hW0]; exact hB1, by rw [hW0]; exact hB2, by rw [hW0]; exact hB3⟩
  · clear hW0 hB1 hB2 hB3 hv hA
    rintro fr W ⟨i, a, ps, hi, ha, hps, h6, h0, hg, hb, hsame, hlen⟩
    by_cases hc : 0 < i
    · obtain ⟨q, a2, G, hq, ha2, hpf⟩ := pf_drawn hb ⟨ha, hl.2⟩
      obtain ⟨p1, p2, p3, p4, p5, p6⟩ := pf_parts hq.1
      obtain ⟨W1, hW1⟩ : ∃ W1, W.set β (cb l a2) ++ G = W1 := ⟨_, rfl⟩
      have hWl : (W.set β (cb l a2)).length = W.length := List.length_set
      have hb1 : W1[β]? = some (cb l a2) := by rw [← hW1, List.getElem?_append_left (by omega)]; exact List.getElem?_set_self (by omega)
      have hs1 : ∀ k, k < B.length → k ≠ β → W1[k]? = B[k]? := fun k h1 h2 => by rw [← hW1, List.getElem?_append_left (by omega), List.getElem?_set_ne (Ne.symm h2), hsame k h1 h2]
      have hl1 : B.length ≤ W1.length := by rw [← hW1, List.length_append, hWl]; omega
      have hg1 : GrowX B.length (fr 5) W1 ps := by
        rcases hg with h | ⟨b, mu, h1, h2, h3, h4⟩
        · exact .inl h
        · refine .inr ⟨b, mu, h1, h2, h3, ?_⟩
          rw [← hW1, List.getElem?_append_left (by have := (List.getElem?_eq_some_iff.1 h4).1; omega), List.getElem?_set_ne (by omega), h4]
      simp only [hW1] at hpf
      clear hW1 hWl hg hb hsame hlen
      have hwi : IntKind.i64.wrap ((i : Int) - 1) = ((i - 1 : Nat) : Int) := by rw [wi64 ⟨by omega, by omega⟩]; omega
      rcases hg1 with ⟨rfl, h5⟩ | ⟨b, mu, hbl, hne, h5, hbb⟩
      · replace hps : Hid _ := hps
        replace hs1 : Hid _ := hs1
        repeat' (first | (with_reducible first | apply jA | apply jB | apply jC | apply jD | apply jE | apply jF | apply jG | apply jH | apply jI | apply jJ | apply jK | apply jL | apply jM | apply jN | apply jO) | ((with_reducible first | apply jP | apply jQ); rfl) | ((first | ((with_reducible first | apply jR | apply jS | apply jT); rfl; rfl) | (with_reducible first | apply jU | apply jV | apply jW) | ((with_reducible first | apply jX | apply jY | apply jZ); rfl) | ((with_reducible first | apply kA | apply kB | apply kC); rfl)); all_goals (first | ((with_reducible show Is _ _); exact kE) | ((with_reducible refine fun (hc : (_ : Bool) = _) => ?_); (try simp only [xZ, xY, xP, reduceCtorEq] at hc); (try (have hx : True := hc; clear hx hc)); (try exact kX)) | ((with_reducible show ACall _ _ _ _ _); (first | ((with_reducible apply hpf) <;> exact kD))) | ((fail_if_success (with_reducible first | show Is _ _ | show ACall _ _ _ _ _)); (try ((with_reducible show _ ∨ _); exact kT))))))
        refine w_unroll 1 ?_
        repeat' (first | (with_reducible first | apply jA | apply jB | apply jC | apply jD | apply jE | apply jF | apply jG | apply jH | apply jI | apply jJ | apply jK | apply jL | apply jM | apply jN | apply jO) | ((with_reducible first | apply jP | apply jQ); rfl) | ((first | ((with_reducible first | apply jR | apply jS | apply jT); rfl; rfl) | (with_reducible first | apply jU | apply jV | apply jW) | ((with_reducible first | apply jX | apply jY | apply jZ); rfl)); all_goals (first | ((with_reducible show Is _ _); exact kE) | ((with_reducible refine fun (hc : (_ : Bool) = _) => ?_); (try simp only [xZ, xY, xP, reduceCtorEq] at hc); (try (have hx : True := hc; clear hx hc)); (try exact kX)) | ((fail_if_success (with_reducible first | show Is _ _ | show ACall _ _ _ _ _)); (try ((with_reducible show _ ∨ _); exact kT))))))
        have hx := bx_pack hb1
        refine ⟨⟨i - 1, a2, [q], by simp at hi ⊢; omega, ha2, nodup_snoc hps hq rfl, by (simp (disch := omega) [go_sem, *]) <;> (try omega), by (simp (disch := omega) [go_sem, *]) <;> (try omega), .inr ⟨W1.length + 1, false, by omega, by simp, by (simp (disch := omega) [go_sem, *]) <;> (try omega), by simp⟩, hx.1 _, fun k h1 h2 => ?_, by rw [List.length_append]; omega⟩, by simp [upd, natOf, hwi, h6]; omega⟩
        rw [List.getElem?_append_left (by omega), (show ∀ k, k < B.length → k ≠ β → W1[k]? = B[k]? from hs1) k h1 h2]
      · have hbne : b ≠ β := by omega
        have hfl := fl_len (f := pfC) (n := 18) (l := ps) fun p hp => pfC_l (hps.2 p hp).1
        have kl := cells_all (f := pfC) (z := 18) (L := ps) fun p hp => pfC_l (hps.2 p hp).1
        have hpsl : ∀ p ∈ ps, p.1.2.length = 16 := fun p hp => (hps.2 p hp).1
        have hn0 : ps.length ≠ 0 := by simpa using hne
        have hfin : (if ps.contains q then ps else ps ++ [q]).length ≤ ps.length + 1 ∧ PsG (if ps.contains q then ps else ps ++ [q]) := by
          cases hcq : ps.contains q with
          | true => exact ⟨by simp, hps⟩
          | false => exact ⟨by simp, nodup_snoc hps hq hcq⟩
        have hfs : (ps ++ [q]).flatMap pfC = ps.flatMap pfC ++ pfC q := by rw [List.flatMap_append, List.flatMap_singleton]
        obtain ⟨cs, hcs⟩ : ∃ cs, ps.flatMap pfC = cs := ⟨_, rfl⟩
        rw [hcs] at hfl kl hbb hfs
        replace hcs : Hid _ := hcs
        replace kl : Hid _ := kl
        replace hps : Hid _ := hps
        replace hs1 : Hid _ := hs1
        replace hpsl : Hid _ := hpsl
        replace hfin : Hid _ := hfin
        replace hfs : Hid _ := hfs
        repeat' (first | (with_reducible first | apply jA | apply jB | apply jC | apply jD | apply jE | apply jF | apply jG | apply jH | apply jI | apply jJ | apply jK | apply jL | apply jM | apply jN | apply jO) | ((with_reducible first | apply jP | apply jQ); rfl) | ((first | ((with_reducible first | apply jR | apply jS | apply jT); rfl; rfl) | (with_reducible first | apply jU | apply jV | apply jW) | ((with_reducible first | apply jX | apply jY | apply jZ); rfl) | ((with_reducible first | apply kA | apply kB | apply kC); rfl)); all_goals (first | ((with_reducible show Is _ _); exact kE) | ((with_reducible refine fun (hc : (_ : Bool) = _) => ?_); (try simp only [xZ, xY, xP, reduceCtorEq] at hc); (try (have hx : True := hc; clear hx hc)); (try exact kX)) | ((with_reducible show ACall _ _ _ _ _); (first | ((with_reducible apply hpf) <;> exact kD))) | ((fail_if_success (with_reducible first | show Is _ _ | show ACall _ _ _ _ _)); (try ((with_reducible show _ ∨ _); exact kT))))))
        clear hpf
        have hx := bx_pack hb1
        have hy := bx_pack hbb
        refine w_loop (fun fr X => ∃ j : Nat, j ≤ ps.length ∧ fr 23 = .int .i64 j ∧ fr 22 = .int .i64 ps.length ∧ fr 21 = .view b 0 ps.length 18 false ∧ fr 5 = .view b 0 ps.length 18 false ∧ fr 7 = .ptr W1.length 0 ∧ fr 8 = .bool (!(ps.take j).contains q) ∧ fr 0 = .ptr β 0 ∧ fr 6 = .int .i64 i ∧
          X[b]? = some ⟨cs, mu⟩ ∧ X[W1.length]? = some ⟨pfC q, false⟩ ∧ X[β]? = some (cb l a2) ∧ (∀ k, k < B.length → k ≠ β → X[k]? = B[k]?) ∧ B.length ≤ X.length) (fun fr _ => ps.length - natOf (fr 23)) ?_ ?_
        · refine ⟨0, by omega, by (simp (disch := omega) [go_sem, *]) <;> (try omega), by (simp (disch := omega) [go_sem, *]) <;> (try omega), by (simp (disch := omega) [go_sem, *]) <;> (try omega), by (simp (disch := omega) [go_sem, *]) <;> (try omega), by (simp (disch := omega) [go_sem, *]) <;> (try omega), by (simp (disch := omega) [go_sem, *]) <;> (try omega), by (simp (disch := omega) [go_sem, *]) <;> (try omega), by (simp (disch := omega) [go_sem, *]) <;> (try omega), hy.1 _, by simp, hx.1 _, fun k h1 h2 => ?_, by rw [List.length_append]; omega⟩
          rw [List.getElem?_append_left (by omega), (show ∀ k, k < B.length → k ≠ β → W1[k]? = B[k]? from hs1) k h1 h2]
        · have hmo : natOf (fr 6) = i := by rw [h6]; rfl
          replace hmo : Hid _ := hmo
          clear hx hy hs1 hb1 hbb h5 h0 h6
          rintro fr X ⟨j, hj, h23, h22, h21, h5, h7, h8, h0, h6, hXb, hXq, hXβ, hsame, hlen⟩
          have hx := bx_pack hXβ
          have hy := bx_pack hXb
          have hw := bx_pack hXq
          by_cases hcj : j < ps.length
          · obtain ⟨a1, a3⟩ := (show Cells pfC 18 cs ps from kl) j hcj
            have hu := (show ∀ p ∈ ps, p.1.2.length = 16 from hpsl) _ (List.getElem_mem hcj)
            obtain ⟨v1, v2, v3, v4, v5, v6⟩ := pf_parts hu
            have he := pf_eqV hq.1 hu
            have hn := contains_next (q := q) hcj
            replace hsame : Hid _ := hsame
            have hkeep : ∀ D : List Box, (X ++ D)[b]? = some ⟨cs, mu⟩ ∧ (X ++ D)[W1.length]? = some ⟨pfC q, false⟩ ∧ (X ++ D)[β]? = some (cb l a2) ∧ (∀ k, k < B.length → k ≠ β → (X ++ D)[k]? = B[k]?) ∧ B.length ≤ (X ++ D).length := fun D => ⟨hy.1 D, hw.1 D, hx.1 D, fun k h1 h2 => by rw [List.getElem?_append_left (by omega), (show ∀ k, k < B.length → k ≠ β → X[k]? = B[k]? from hsame) k h1 h2], by rw [List.length_append]; omega⟩
            clear hpsl
            replace hkeep : Hid _ := hkeep
            generalize ps[j] = u at *
            cases hf : (ps.take j).contains q with
            | true =>
              rw [hf] at h8 hn
              replace hn : (ps.take (j + 1)).contains q = true := hn
              simp only [Bool.not_true] at h8
              clear hf
              cases mu
              all_goals
                repeat' (first | (with_reducible first | apply jA | apply jB | apply jC | apply jD | apply jE | apply jF | apply jG | apply jH | apply jI | apply jJ | apply jK | apply jL | apply jM | apply jN | apply jO) | ((with_reducible first | apply jP | apply jQ); rfl) | ((first | ((with_reducible first | apply jR | apply jS | apply jT); rfl; rfl) | (with_reducible first | apply jU | apply jV | apply jW) | ((with_reducible first | apply jX | apply jY | apply jZ); rfl)); all_goals (first | ((with_reducible show Is _ _); exact kE) | ((with_reducible refine fun (hc : (_ : Bool) = _) => ?_); (try simp only [xZ, xY, xP, reduceCtorEq] at hc); (try (have hx : True := hc; clear hx hc)); (try exact kX)) | ((fail_if_success (with_reducible first | show Is _ _ | show ACall _ _ _ _ _)); (try ((with_reducible show _ ∨ _); exact kT))))))
                exact ⟨⟨j + 1, by omega, by (simp (disch := omega) [go_sem, *]) <;> (try omega), by (simp (disch := omega) [go_sem, *]) <;> (try omega), by (simp (disch := omega) [go_sem, *]) <;> (try omega), by (simp (disch := omega) [go_sem, *]) <;> (try omega), by (simp (disch := omega) [go_sem, *]) <;> (try omega), by rw [hn]; (simp (disch := omega) [go_sem, *]) <;> (try omega), by (simp (disch := omega) [go_sem, *]) <;> (try omega), by (simp (disch := omega) [go_sem, *]) <;> (try omega), (show ∀ D : List Box, _ from hkeep) _⟩, by (simp (disch := omega) [go_sem, *]) <;> (try omega)⟩
            | false =>
              rw [hf] at h8 hn
              simp only [Bool.false_or, Bool.not_false] at h8 hn
              clear hf
              by_cases hqu : q = u
              · subst hqu
                rw [beq_self_eq_true] at hn he
                cases mu
                all_goals
                  repeat' (first | (with_reducible first | apply jA | apply jB | apply jC | apply jD | apply jE | apply jF | apply jG | apply jH | apply jI | apply jJ | apply jK | apply jL | apply jM | apply jN | apply jO) | ((with_reducible first | apply jP | apply jQ); rfl) | ((first | ((with_reducible first | apply jR | apply jS | apply jT); rfl; rfl) | (with_reducible first | apply jU | apply jV | apply jW) | ((with_reducible first | apply jX | apply jY | apply jZ); rfl)); all_goals (first | ((with_reducible show Is _ _); exact kE) | ((with_reducible refine fun (hc : (_ : Bool) = _) => ?_); (try simp only [xZ, xY, xP, reduceCtorEq] at hc); (try (have hx : True := hc; clear hx hc)); (try exact kX)) | ((fail_if_success (with_reducible first | show Is _ _ | show ACall _ _ _ _ _)); (try ((with_reducible show _ ∨ _); exact kT))))))
                  exact ⟨⟨j + 1, by omega, by (simp (disch := omega) [go_sem, *]) <;> (try omega), by (simp (disch := omega) [go_sem, *]) <;> (try omega), by (simp (disch := omega) [go_sem, *]) <;> (try omega), by (simp (disch := omega) [go_sem, *]) <;> (try omega), by (simp (disch := omega) [go_sem, *]) <;> (try omega), by rw [hn]; (simp (disch := omega) [go_sem, *]) <;> (try omega), by (simp (disch := omega) [go_sem, *]) <;> (try omega), by (simp (disch := omega) [go_sem, *]) <;> (try omega), (show ∀ D : List Box, _ from hkeep) _⟩, by (simp (disch := omega) [go_sem, *]) <;> (try omega)⟩
              · rw [beq_eq_false_iff_ne.2 (Ne.symm hqu)] at hn
                rw [beq_eq_false_iff_ne.2 hqu] at he
                cases mu
                all_goals
                  repeat' (first | (with_reducible first | apply jA | apply jB | apply jC | apply jD | apply jE | apply jF | apply jG | apply jH | apply jI | apply jJ | apply jK | apply jL | apply jM | apply jN | apply jO) | ((with_reducible first | apply jP | apply jQ); rfl) | ((first | ((with_reducible first | apply jR | apply jS | apply jT); rfl; rfl) | (with_reducible first | apply jU | apply jV | apply jW) | ((with_reducible first | apply jX | apply jY | apply jZ); rfl)); all_goals (first | ((with_reducible show Is _ _); exact kE) | ((with_reducible refine fun (hc : (_ : Bool) = _) => ?_); (try simp only [xZ, xY, xP, reduceCtorEq] at hc); (try (have hx : True := hc; clear hx hc)); (try exact kX)) | ((fail_if_success (with_reducible first | show Is _ _ | show ACall _ _ _ _ _)); (try ((with_reducible show _ ∨ _); exact kT))))))
                  exact ⟨⟨j + 1, by omega, by (simp (disch := omega) [go_sem, *]) <;> (try omega), by (simp (disch := omega) [go_sem, *]) <;> (try omega), by (simp (disch := omega) [go_sem, *]) <;> (try omega), by (simp (disch := omega) [go_sem, *]) <;> (try omega), by (simp (disch := omega) [go_sem, *]) <;> (try omega), by rw [hn]; (simp (disch := omega) [go_sem, *]) <;> (try omega), by (simp (disch := omega) [go_sem, *]) <;> (try omega), by (simp (disch := omega) [go_sem, *]) <;> (try omega), (show ∀ D : List Box, _ from hkeep) _⟩, by (simp (disch := omega) [go_sem, *]) <;> (try omega)⟩
          · obtain rfl : j = ps.length := by omega
            rw [List.take_length] at h8
            obtain ⟨f1, f2⟩ := (show (if ps.contains q then ps else ps ++ [q]).length ≤ ps.length + 1 ∧ PsG (if ps.contains q then ps else ps ++ [q]) from hfin)
            replace hsame : Hid _ := hsame
            cases hf : ps.contains q with
            | true =>
              rw [hf] at h8 f1 f2
              simp only [Bool.not_true, if_true] at h8 f1 f2
              replace f2 : Hid _ := f2
              clear hf
              cases mu
              all_goals
                repeat' (first | (with_reducible first | apply jA | apply jB | apply jC | apply jD | apply jE | apply jF | apply jG | apply jH | apply jI | apply jJ | apply jK | apply jL | apply jM | apply jN | apply jO) | ((with_reducible first | apply jP | apply jQ); rfl) | ((first | ((with_reducible first | apply jR | apply jS | apply jT); rfl; rfl) | (with_reducible first | apply jU | apply jV | apply jW) | ((with_reducible first | apply jX | apply jY | apply jZ); rfl)); all_goals (first | ((with_reducible show Is _ _); exact kE) | ((with_reducible refine fun (hc : (_ : Bool) = _) => ?_); (try simp only [xZ, xY, xP, reduceCtorEq] at hc); (try (have hx : True := hc; clear hx hc)); (try exact kX)) | ((fail_if_success (with_reducible first | show Is _ _ | show ACall _ _ _ _ _)); (try ((with_reducible show _ ∨ _); exact kT))))))
                refine ⟨⟨i - 1, a2, ps, by omega, ha2, f2, by (simp (disch := omega) [go_sem, *]) <;> (try omega), by (simp (disch := omega) [go_sem, *]) <;> (try omega), .inr ⟨b, _, hbl, hne, by (simp (disch := omega) [go_sem, *]) <;> (try omega), by rw [show ps.flatMap pfC = cs from hcs]; exact hXb⟩, hXβ, hsame, hlen⟩, by rw [show natOf _ = i from hmo]; simp [upd, natOf]; omega⟩
            | false =>
              rw [hf] at h8 f1 f2
              simp only [Bool.not_false, Bool.false_eq_true, if_false] at h8 f1 f2
              replace f2 : Hid _ := f2
              clear hf
              cases mu
              all_goals
                repeat' (first | (with_reducible first | apply jA | apply jB | apply jC | apply jD | apply jE | apply jF | apply jG | apply jH | apply jI | apply jJ | apply jK | apply jL | apply jM | apply jN | apply jO) | ((with_reducible first | apply jP | apply jQ); rfl) | ((first | ((with_reducible first | apply jR | apply jS | apply jT); rfl; rfl) | (with_reducible first | apply jU | apply jV | apply jW) | ((with_reducible first | apply jX | apply jY | apply jZ); rfl)); all_goals (first | ((with_reducible show Is _ _); exact kE) | ((with_reducible refine fun (hc : (_ : Bool) = _) => ?_); (try simp only [xZ, xY, xP, reduceCtorEq] at hc); (try (have hx : True := hc; clear hx hc)); (try exact kX)) | ((fail_if_success (with_reducible first | show Is _ _ | show ACall _ _ _ _ _)); (try ((with_reducible show _ ∨ _); exact kT))))))
                refine ⟨⟨i - 1, a2, ps ++ [q], by omega, ha2, f2, by (simp (disch := omega) [go_sem, *]) <;> (try omega), by (simp (disch := omega) [go_sem, *]) <;> (try omega), .inr ⟨b, true, hbl, by simp, by rw [List.length_append]; (simp (disch := omega) [go_sem, *]) <;> (try omega), by rw [show (ps ++ [q]).flatMap pfC = _ from hfs]; exact hy.2.2.1 _⟩, by rw [List.getElem?_set_ne hbne]; exact hXβ, fun k h1 h2 => by rw [List.getElem?_set_ne (by omega)]; exact (show ∀ k, k < B.length → k ≠ β → X[k]? = B[k]? from hsame) k h1 h2, by rw [List.length_set]; exact hlen⟩, by rw [show natOf _ = i from hmo]; simp [upd, natOf]; omega⟩
    · have : i = 0 := by omega
      subst this
      replace hps : Hid _ := hps
      replace hsame : Hid _ := hsame
      repeat' (first | (with_reducible first | apply jA | apply jB | apply jC | apply jD | apply jE | apply jF | apply jG | apply jH | apply jI | apply jJ | apply jK | apply jL | apply jM | apply jN | apply jO) | ((with_reducible first | apply jP | apply jQ); rfl) | ((first | ((with_reducible first | apply jR | apply jS | apply jT); rfl; rfl) | (with_reducible first | apply jU | apply jV | apply jW) | ((with_reducible first | apply jX | apply jY | apply jZ); rfl)); all_goals (first | ((with_reducible show Is _ _); exact kE) | ((with_reducible refine fun (hc : (_ : Bool) = _) => ?_); (try simp only [xZ, xY, xP, reduceCtorEq] at hc); (try (have hx : True := hc; clear hx hc)); (try exact kX)) | ((fail_if_success (with_reducible first | show Is _ _ | show ACall _ _ _ _ _)); (try ((with_reducible show _ ∨ _); exact kT))))))
      exact ⟨ps, a, ha, hps, by omega, hg, hb, hsame, hlen⟩
end Go.Proofs.YtdceppjoipoohaaDoor
end
section
namespace Go.Proofs.YtdceppjoipoohaaDoor
open Go Go.Sy
set_option linter.all false
set_option maxRecDepth 100000
set_option maxHeartbeats 4000000
theorem dkey_at {B : List Box} {β : Nat} {args : List CV} {l : List UInt8} {a : Nat} (ha : Is args [.ptr β 0]) (hB : B[β]? = some (cb l a)) (hl : a ≤ l.length ∧ l.length < 1000000) : ACall Tryd.prog 53 args B fun c B' => ∃ (K : List UInt8) (a2 : Nat) (G : List Box), K.length = 32 ∧ a2 ≤ l.length ∧ c = .agg (K.map byteC) ∧ B' = B.set β (cb l a2) ++ G := by
  obtain rfl := ha
  have hby : ∀ {B : List Box} {args : List CV}, Is args [.ptr β 0, .int .i64 32] → B[β]? = some (cb l a) → ACall Tryd.prog 30 args B fun c B' => c = .view B.length 0 32 1 true ∧ B' = B.set β (cb l (nxA l a 256)) ++ [⟨(bytesV (nxV l a 256) (2 * nxA l a 256 + 1) 32).map byteC, false⟩] := fun h h2 => bytes_at (n := 32) h rfl h2 hl (by omega)
  have hbl := bytesV_len (nxV l a 256) (2 * nxA l a 256 + 1) 32
  have hA := nxA_le (l := l) (a := a) (n := 256) hl.1
  generalize bytesV (nxV l a 256) (2 * nxA l a 256 + 1) 32 = K at *
  generalize nxA l a 256 = a2 at *
  have xb := bx_pack hB
  refine acall_intro mixed Tryd.func53 rfl ca53 (by kernel_rfl) (by rw [Tryd.ntmps53]; simp) ?_
  repeat' (first | (with_reducible first | apply jA | apply jB | apply jC | apply jD | apply jE | apply jF | apply jG | apply jH | apply jI | apply jJ | apply jK | apply jL | apply jM | apply jN | apply jO) | ((with_reducible apply jP); rfl) | ((first | ((with_reducible first | apply jR | apply jS | apply jT); rfl; rfl) | (with_reducible first | apply jU | apply jV | apply jW) | ((with_reducible first | apply jX | apply jY | apply jZ); rfl) | ((with_reducible first | apply kA | apply kB | apply kC); rfl)); all_goals (first | ((with_reducible show Is _ _); exact kE) | ((with_reducible refine fun (hc : (_ : Bool) = _) => ?_); (try simp only [xZ, xY, xP, reduceCtorEq] at hc); (try (have hx : True := hc; clear hx hc)); (try exact kX)) | ((with_reducible show ACall _ _ _ _ _); (first | ((with_reducible apply hby) <;> exact kD))) | ((fail_if_success (with_reducible first | show Is _ _ | show ACall _ _ _ _ _)); (try ((with_reducible show _ ∨ _); exact kT))))))
  refine w_drawJ [0] [⟨[], false⟩] (fun B' => ∃ cs, B'[B.length + 1]? = some ⟨cs, false⟩ ∧ cs.length = 32) rfl (by simp (disch := first | omega | (simp only [yZ, yB] <;> omega) | fail) [go_sem, yY, *, -List.map_take, -List.map_drop, -List.map_append, -List.map_reverse]; exact rfl) ⟨_, (by (try (simp (disch := omega) [go_sem, *]) <;> (try omega)); rfl), rfl⟩ ?_
  repeat' (first | (with_reducible first | apply jA | apply jB | apply jC | apply jD | apply jE | apply jF | apply jG | apply jH | apply jI | apply jJ | apply jK | apply jL | apply jM | apply jN | apply jO) | ((with_reducible first | apply jP | apply jQ); rfl) | ((with_reducible apply w_drawA); (conv => lhs; reduce); exact kE; exact kE) | ((first | ((with_reducible first | apply d_made | apply q_made); rfl; rfl)); (iterate 6 exact kE)) | ((first | ((with_reducible first | apply d_fop | apply q_fop); rfl; rfl)); (intro Bx hJ; (first | (obtain ⟨_, hJ1, hJ2⟩ := hJ) | (try simp only at hJ)); exact kE)) | ((with_reducible first | apply d_free | apply q_free); rfl; (iterate 2 exact kE); (intro Bx hJ); (first | ((with_reducible apply hby) <;> exact kD))) | ((first | ((with_reducible first | apply jR | apply jS | apply jT); rfl; rfl) | (with_reducible first | apply jU | apply jV | apply jW) | ((with_reducible first | apply jX | apply jY | apply jZ); rfl) | ((with_reducible first | apply kA | apply kB | apply kC); rfl)); all_goals (first | ((with_reducible show Is _ _); exact kE) | ((with_reducible refine fun (hc : (_ : Bool) = _) => ?_); (try simp only [xZ, xY, xP, reduceCtorEq] at hc); (try (have hx : True := hc; clear hx hc)); (try exact kX)) | ((with_reducible show ACall _ _ _ _ _); (first | ((with_reducible apply hby) <;> exact kD))) | ((fail_if_success (with_reducible first | show Is _ _ | show ACall _ _ _ _ _)); (try ((with_reducible show _ ∨ _); first | exact .inl rfl | (refine .inr ⟨rfl, ?_, ?_⟩; (focus (repeat (first | exact trivial | refine ⟨.inl rfl, ?_⟩ | refine ⟨.inr rfl, ?_⟩ | refine ⟨.inr (by (simp (disch := first | omega | (simp only [yZ, yB] <;> omega) | fail) [go_sem, yY, *, -List.map_take, -List.map_drop, -List.map_append, -List.map_reverse])), ?_⟩))); (first | exact trivial | exact rfl | (refine ⟨_, ?_, ?_⟩; (focus (simp (disch := first | omega | (simp only [yZ, yB] <;> omega) | fail) [go_sem, yY, *, -List.map_take, -List.map_drop, -List.map_append, -List.map_reverse]; (try exact rfl))); (simp (disch := first | omega | (simp only [yZ, yB] <;> omega) | fail) [go_sem, yY, *, -List.map_take, -List.map_drop, -List.map_append, -List.map_reverse])) | (simp (disch := first | omega | (simp only [yZ, yB] <;> omega) | fail) [go_sem, yY, *, -List.map_take, -List.map_drop, -List.map_append, -List.map_reverse]))) | exact .inl (by (simp (disch := first | omega | (simp only [yZ, yB] <;> omega) | fail) [go_sem, yY, *, -List.map_take, -List.map_drop, -List.map_append, -List.map_reverse]))))))))
  exact ⟨K, a2, _, hbl, hA, rfl, rfl⟩
end Go.Proofs.YtdceppjoipoohaaDoor
end
