/- Lemmas and definitions of this claim (own texts, joined by a program; what the claim does not use is left out). -/
import Derived.Test.YtdceppjoipoohaaGreatDoorCr8
section
namespace Go.Proofs.YtdceppjoipoohaaGreatDoor
open Go Go.Sy
set_option linter.all false
set_option maxRecDepth 100000
set_option maxHeartbeats 4000000
def okEP (p : Pf) : Bool := okA p.1.1 p.1.2 && (decide (1 ≤ p.2) && decide (p.2 ≤ 65535))
def timed (n : Int) : Bool := n == 0 || (decide (1000 ≤ n) && decide (n ≤ 1073741824))
def vldP (q : Pf) : Bool := vld q.1.1 q.1.2 q.2
def okPe (p : Pe) : Bool := (if p.2.2.1 then okEP p.2.2.2.1 else p.2.2.2.1 == pfO) && (timed p.2.2.2.2.1 && p.2.2.2.2.2.all vldP)
theorem fmtE_nil (p : Pf) : (fmtE p.1.1 p.1.2 p.2 == []) = !okEP p := by
  rw [fmtE, okEP]
  by_cases h : okA p.1.1 p.1.2 = true ∧ 1 ≤ p.2 ∧ p.2 ≤ 65535
  · rw [if_pos h, h.1, decide_eq_true h.2.1, decide_eq_true h.2.2]
    simp
  · rw [if_neg h]
    have : (okA p.1.1 p.1.2 && (decide (1 ≤ p.2) && decide (p.2 ≤ 65535))) = false := by
      rw [Bool.eq_false_iff]
      simp only [ne_eq, Bool.and_eq_true, decide_eq_true_eq]
      exact h
    rw [this]; rfl
theorem proper1_in (q : Pf) (h : PfL q) : PC Tryz.prog true 62 [.agg (pfC q)] (.bool (!vldP q)) := by
  have hv : ∀ {B : List Box} {args : List CV}, Is (omap (Go.Sy.fz true false B 6) args) (some [.agg (pfC q)]) → ACall Tryz.prog 44 args B fun c B' => c = .bool (vldP q) ∧ B' = B := fun h2 => iValid_at (by exact h2) h.1
  have hl := pfC_len h
  have ho : ∀ {nz fr : Bool} {B : List Box} {k : Nat}, omap (Go.Sy.fz nz fr B (k + 1)) (pfC q) = some (pfC q) := pf_om1 q
  generalize vldP q = v at *
  generalize pfC q = X at *
  refine acall_intro mixed Tryz.func62 rfl ca62 (by kernel_rfl) (by rw [Tryz.ntmps62]; simp) ?_
  repeat' (first | (with_reducible first | apply jA | apply jB | apply jC | apply jD | apply jE | apply jF | apply jG | apply jH | apply jI | apply jJ | apply jK | apply jL | apply jM | apply jN | apply jO) | ((with_reducible first | apply jP | apply jQ); rfl) | ((first | ((with_reducible first | apply jR | apply jS | apply jT); rfl; rfl) | (with_reducible first | apply jU | apply jV | apply jW) | ((with_reducible first | apply jX | apply jY | apply jZ); rfl) | ((with_reducible first | apply kA | apply kB | apply kC); rfl)); all_goals (first | ((with_reducible show Is _ _); exact kE) | ((with_reducible refine fun (hc : (_ : Bool) = _) => ?_); (try simp only [xZ, xY, xP, reduceCtorEq] at hc); (try (have hx : True := hc; clear hx hc)); (try exact kX)) | ((with_reducible show ACall _ _ _ _ _); (first | ((with_reducible apply hv) <;> exact kD))) | ((fail_if_success (with_reducible first | show Is _ _ | show ACall _ _ _ _ _)); (try ((with_reducible show _ ∨ _); exact kT))))))
  rfl
theorem pe_parts {p : Pe} (h : PeL p) : (peC p).drop 64 = .bool p.2.2.1 :: (pfC p.2.2.2.1 ++ [.int .i64 p.2.2.2.2.1, .lst p.2.2.2.2.2.length (p.2.2.2.2.2.flatMap pfC) false]) ∧ ((peC p).drop 65).take 18 = pfC p.2.2.2.1 ∧ (peC p).drop 83 = [.int .i64 p.2.2.2.2.1, .lst p.2.2.2.2.2.length (p.2.2.2.2.2.flatMap pfC) false] ∧ (peC p).drop 84 = [.lst p.2.2.2.2.2.length (p.2.2.2.2.2.flatMap pfC) false] ∧ (peC p).take 32 = p.1.map byteC ∧ ((peC p).drop 32).take 32 = p.2.1.map byteC := by
  obtain ⟨h1, h2, h3, _⟩ := h
  have l1 : (p.1.map byteC).length = 32 := by simp [h1]
  have l2 : (p.2.1.map byteC).length = 32 := by simp [h2]
  have l3 := pfC_len h3
  have d32 : (peC p).drop 32 = p.2.1.map byteC ++ ([.bool p.2.2.1] ++ (pfC p.2.2.2.1 ++ ([.int .i64 p.2.2.2.2.1] ++ [.lst p.2.2.2.2.2.length (p.2.2.2.2.2.flatMap pfC) false]))) := by rw [peC, List.drop_left' l1]
  have d64 : (peC p).drop 64 = .bool p.2.2.1 :: (pfC p.2.2.2.1 ++ [.int .i64 p.2.2.2.2.1, .lst p.2.2.2.2.2.length (p.2.2.2.2.2.flatMap pfC) false]) := by
    rw [show (64 : Nat) = 32 + 32 from rfl, ← List.drop_drop, d32, List.drop_left' l2]; rfl
  have d65 : (peC p).drop 65 = pfC p.2.2.2.1 ++ [.int .i64 p.2.2.2.2.1, .lst p.2.2.2.2.2.length (p.2.2.2.2.2.flatMap pfC) false] := by
    rw [show (65 : Nat) = 64 + 1 from rfl, ← List.drop_drop, d64]; rfl
  have d83 : (peC p).drop 83 = [.int .i64 p.2.2.2.2.1, .lst p.2.2.2.2.2.length (p.2.2.2.2.2.flatMap pfC) false] := by
    rw [show (83 : Nat) = 65 + 18 from rfl, ← List.drop_drop, d65, List.drop_left' l3]
  refine ⟨d64, by rw [d65, List.take_left' l3], d83, ?_, by rw [peC, List.take_left' l1], by rw [d32, List.take_left' l2]⟩
  rw [show (84 : Nat) = 83 + 1 from rfl, ← List.drop_drop, d83]; rfl
theorem proper_in (p : Pe) (h : PeL p) (hl : p.2.2.2.2.2.length < 1000000) : PC Tryz.prog true 38 [.agg (peC p)] (.bool (okPe p)) := by
  obtain ⟨pu, sh, has, ep, kp, al⟩ := p
  obtain ⟨h1, h2, h3, h4, h5⟩ := h
  dsimp only at *
  have hal : ∀ a ∈ al, (pfC a).length = 18 := fun a ha => pfC_len (h5 a ha)
  have hcf : ∀ {B : List Box} {args : List CV}, Is args [.lst al.length (al.flatMap pfC) false, .fn (.func 62) [] []] → ACall Tryz.prog 61 args B fun c B' => c = .bool (al.any fun a => !vldP a) ∧ B' = B := fun hz => pfContainsFunc_at hz ⟨by omega, _, cells_all hal, .inl ⟨_, rfl⟩⟩ fun a ha => acall_fresh (nz := true) (by simp [go_sem]) (proper1_in a (h5 a ha))
  have hany : (al.any fun a => !vldP a) = !al.all vldP := by simp [List.all_eq_not_any_not]
  rw [hany] at hcf
  have hfe : ∀ {B : List Box} {args : List CV}, Is (omap (Go.Sy.fz true false B 6) args) (some [.agg (pfC ep)]) → ACall Tryz.prog 28 args B fun c B' => c = .str (fmtE ep.1.1 ep.1.2 ep.2) ∧ B' = B := fun hz => fmtE_at (by exact hz) h3.1 h3.2
  have hfn := fmtE_nil ep
  have hel := pfC_len h3
  have ho : ∀ {nz fr : Bool} {B : List Box} {k : Nat}, omap (Go.Sy.fz nz fr B (k + 1)) (pfC ep) = some (pfC ep) := pf_om1 ep
  rw [okPe]
  dsimp only
  obtain ⟨d64, d65, d83, d84, -, -⟩ := pe_parts (p := (pu, sh, has, ep, kp, al)) ⟨h1, h2, h3, h4, h5⟩
  have hXl := peC_len (p := (pu, sh, has, ep, kp, al)) ⟨h1, h2, h3, h4, h5⟩
  dsimp only at d64 d65 d83 d84
  generalize peC (pu, sh, has, ep, kp, al) = X at *
  generalize al.all vldP = av at *
  generalize al.flatMap pfC = Y at *
  generalize al.length = n at *
  obtain ⟨⟨e6, eA⟩, en⟩ := ep
  have hZ : ([.bool false, .int .u8 0, .int .u8 0, .int .u8 0, .int .u8 0, .int .u8 0, .int .u8 0, .int .u8 0, .int .u8 0, .int .u8 0, .int .u8 0, .int .u8 0, .int .u8 0, .int .u8 0, .int .u8 0, .int .u8 0, .int .u8 0, .int .i64 0] : List CV) = .bool false :: (z16.map byteC ++ [.int .i64 0]) := rfl
  have hz : z16.length = 16 := rfl
  have hO : (((e6, eA), en) == pfO) = ((e6 == false && eA == z16) && en == 0) := rfl
  rw [hO]
  clear hO h5 hal hany
  obtain ⟨h31, h32⟩ := h3
  have h32a := h32.1
  have h32b := h32.2
  dsimp only at *
  generalize okEP ((e6, eA), en) = oe at *
  generalize fmtE e6 eA en = fe at *
  generalize z16 = Z at *
  rw [pfC] at *
  dsimp only at *
  simp only [List.cons_append] at *
  refine acall_intro mixed Tryz.func38 rfl ca38 (by kernel_rfl) (by rw [Tryz.ntmps38]; simp) ?_
  cases has
  · clear hfn
    cases e6
    · by_cases hA : eA = Z
      · subst hA
        by_cases hn : en = 0
        · subst hn
          have hb : ((false == false && eA == eA) && ((0 : Int) == 0)) = true := by simp
          rw [if_neg (by decide), hb]
          clear hb
          · by_cases k0 : kp = 0
            · have kk : timed kp = true := by rw [k0]; rfl
              rw [kk]
              subst k0
              cases av
              · repeat' (first | (with_reducible first | apply jA | apply jB | apply jC | apply jD | apply jE | apply jF | apply jG | apply jH | apply jI | apply jJ | apply jK | apply jL | apply jM | apply jN | apply jO) | ((with_reducible first | apply jP | apply jQ); rfl) | ((first | ((with_reducible first | apply jR | apply jS | apply jT); rfl; rfl) | (with_reducible first | apply jU | apply jV | apply jW) | ((with_reducible first | apply jX | apply jY | apply jZ); rfl) | ((with_reducible first | apply kA | apply kB | apply kC); rfl)); all_goals (first | ((with_reducible show Is _ _); exact kE) | ((with_reducible refine fun (hc : (_ : Bool) = _) => ?_); (try simp only [xZ, xY, xP, reduceCtorEq] at hc); (try (have hx : True := hc; clear hx hc)); (try exact kX)) | ((with_reducible show ACall _ _ _ _ _); (first | ((with_reducible apply hcf) <;> exact kD) | ((with_reducible apply hfe) <;> exact kD))) | ((fail_if_success (with_reducible first | show Is _ _ | show ACall _ _ _ _ _)); (try ((with_reducible show _ ∨ _); exact kT))))))
                rfl
              · repeat' (first | (with_reducible first | apply jA | apply jB | apply jC | apply jD | apply jE | apply jF | apply jG | apply jH | apply jI | apply jJ | apply jK | apply jL | apply jM | apply jN | apply jO) | ((with_reducible first | apply jP | apply jQ); rfl) | ((first | ((with_reducible first | apply jR | apply jS | apply jT); rfl; rfl) | (with_reducible first | apply jU | apply jV | apply jW) | ((with_reducible first | apply jX | apply jY | apply jZ); rfl) | ((with_reducible first | apply kA | apply kB | apply kC); rfl)); all_goals (first | ((with_reducible show Is _ _); exact kE) | ((with_reducible refine fun (hc : (_ : Bool) = _) => ?_); (try simp only [xZ, xY, xP, reduceCtorEq] at hc); (try (have hx : True := hc; clear hx hc)); (try exact kX)) | ((with_reducible show ACall _ _ _ _ _); (first | ((with_reducible apply hcf) <;> exact kD) | ((with_reducible apply hfe) <;> exact kD))) | ((fail_if_success (with_reducible first | show Is _ _ | show ACall _ _ _ _ _)); (try ((with_reducible show _ ∨ _); exact kT))))))
                rfl
            · have k00 : (kp == 0) = false := by simpa using k0
              by_cases k1 : 1000 ≤ kp
              · by_cases k2 : kp ≤ 1073741824
                · have kk : timed kp = true := by rw [timed, k00, decide_eq_true k1, decide_eq_true k2]; rfl
                  rw [kk]
                  clear kk
                  cases av
                  · repeat' (first | (with_reducible first | apply jA | apply jB | apply jC | apply jD | apply jE | apply jF | apply jG | apply jH | apply jI | apply jJ | apply jK | apply jL | apply jM | apply jN | apply jO) | ((with_reducible first | apply jP | apply jQ); rfl) | ((first | ((with_reducible first | apply jR | apply jS | apply jT); rfl; rfl) | (with_reducible first | apply jU | apply jV | apply jW) | ((with_reducible first | apply jX | apply jY | apply jZ); rfl) | ((with_reducible first | apply kA | apply kB | apply kC); rfl)); all_goals (first | ((with_reducible show Is _ _); exact kE) | ((with_reducible refine fun (hc : (_ : Bool) = _) => ?_); (try simp only [xZ, xY, xP, reduceCtorEq] at hc); (try (have hx : True := hc; clear hx hc)); (try exact kX)) | ((with_reducible show ACall _ _ _ _ _); (first | ((with_reducible apply hcf) <;> exact kD) | ((with_reducible apply hfe) <;> exact kD))) | ((fail_if_success (with_reducible first | show Is _ _ | show ACall _ _ _ _ _)); (try ((with_reducible show _ ∨ _); exact kT))))))
                    rfl
                  · repeat' (first | (with_reducible first | apply jA | apply jB | apply jC | apply jD | apply jE | apply jF | apply jG | apply jH | apply jI | apply jJ | apply jK | apply jL | apply jM | apply jN | apply jO) | ((with_reducible first | apply jP | apply jQ); rfl) | ((first | ((with_reducible first | apply jR | apply jS | apply jT); rfl; rfl) | (with_reducible first | apply jU | apply jV | apply jW) | ((with_reducible first | apply jX | apply jY | apply jZ); rfl) | ((with_reducible first | apply kA | apply kB | apply kC); rfl)); all_goals (first | ((with_reducible show Is _ _); exact kE) | ((with_reducible refine fun (hc : (_ : Bool) = _) => ?_); (try simp only [xZ, xY, xP, reduceCtorEq] at hc); (try (have hx : True := hc; clear hx hc)); (try exact kX)) | ((with_reducible show ACall _ _ _ _ _); (first | ((with_reducible apply hcf) <;> exact kD) | ((with_reducible apply hfe) <;> exact kD))) | ((fail_if_success (with_reducible first | show Is _ _ | show ACall _ _ _ _ _)); (try ((with_reducible show _ ∨ _); exact kT))))))
                    rfl
                · have kk : timed kp = false := by rw [timed, k00, decide_eq_true k1, decide_eq_false k2]; rfl
                  rw [kk]
                  clear kk
                  repeat' (first | (with_reducible first | apply jA | apply jB | apply jC | apply jD | apply jE | apply jF | apply jG | apply jH | apply jI | apply jJ | apply jK | apply jL | apply jM | apply jN | apply jO) | ((with_reducible first | apply jP | apply jQ); rfl) | ((first | ((with_reducible first | apply jR | apply jS | apply jT); rfl; rfl) | (with_reducible first | apply jU | apply jV | apply jW) | ((with_reducible first | apply jX | apply jY | apply jZ); rfl) | ((with_reducible first | apply kA | apply kB | apply kC); rfl)); all_goals (first | ((with_reducible show Is _ _); exact kE) | ((with_reducible refine fun (hc : (_ : Bool) = _) => ?_); (try simp only [xZ, xY, xP, reduceCtorEq] at hc); (try (have hx : True := hc; clear hx hc)); (try exact kX)) | ((with_reducible show ACall _ _ _ _ _); (first | ((with_reducible apply hcf) <;> exact kD) | ((with_reducible apply hfe) <;> exact kD))) | ((fail_if_success (with_reducible first | show Is _ _ | show ACall _ _ _ _ _)); (try ((with_reducible show _ ∨ _); exact kT))))))
                  rfl
              · have kk : timed kp = false := by rw [timed, k00, decide_eq_false k1]; rfl
                rw [kk]
                clear kk
                repeat' (first | (with_reducible first | apply jA | apply jB | apply jC | apply jD | apply jE | apply jF | apply jG | apply jH | apply jI | apply jJ | apply jK | apply jL | apply jM | apply jN | apply jO) | ((with_reducible first | apply jP | apply jQ); rfl) | ((first | ((with_reducible first | apply jR | apply jS | apply jT); rfl; rfl) | (with_reducible first | apply jU | apply jV | apply jW) | ((with_reducible first | apply jX | apply jY | apply jZ); rfl) | ((with_reducible first | apply kA | apply kB | apply kC); rfl)); all_goals (first | ((with_reducible show Is _ _); exact kE) | ((with_reducible refine fun (hc : (_ : Bool) = _) => ?_); (try simp only [xZ, xY, xP, reduceCtorEq] at hc); (try (have hx : True := hc; clear hx hc)); (try exact kX)) | ((with_reducible show ACall _ _ _ _ _); (first | ((with_reducible apply hcf) <;> exact kD) | ((with_reducible apply hfe) <;> exact kD))) | ((fail_if_success (with_reducible first | show Is _ _ | show ACall _ _ _ _ _)); (try ((with_reducible show _ ∨ _); exact kT))))))
                rfl
        · have hb : ((false == false && eA == eA) && (en == 0)) = false := by simpa using hn
          have hn2 : (en == 0) = false := by simpa using hn
          rw [if_neg (by decide), hb]
          clear hb
          repeat' (first | (with_reducible first | apply jA | apply jB | apply jC | apply jD | apply jE | apply jF | apply jG | apply jH | apply jI | apply jJ | apply jK | apply jL | apply jM | apply jN | apply jO) | ((with_reducible first | apply jP | apply jQ); rfl) | ((first | ((with_reducible first | apply jR | apply jS | apply jT); rfl; rfl) | (with_reducible first | apply jU | apply jV | apply jW) | ((with_reducible first | apply jX | apply jY | apply jZ); rfl) | ((with_reducible first | apply kA | apply kB | apply kC); rfl)); all_goals (first | ((with_reducible show Is _ _); exact kE) | ((with_reducible refine fun (hc : (_ : Bool) = _) => ?_); (try simp only [xZ, xY, xP, reduceCtorEq] at hc); (try (have hx : True := hc; clear hx hc)); (try exact kX)) | ((with_reducible show ACall _ _ _ _ _); (first | ((with_reducible apply hcf) <;> exact kD) | ((with_reducible apply hfe) <;> exact kD))) | ((fail_if_success (with_reducible first | show Is _ _ | show ACall _ _ _ _ _)); (try ((with_reducible show _ ∨ _); exact kT))))))
          rfl
      · have hA2 : (eA == Z) = false := by simpa using hA
        rw [if_neg (by decide), hA2]
        repeat' (first | (with_reducible first | apply jA | apply jB | apply jC | apply jD | apply jE | apply jF | apply jG | apply jH | apply jI | apply jJ | apply jK | apply jL | apply jM | apply jN | apply jO) | ((with_reducible first | apply jP | apply jQ); rfl) | ((first | ((with_reducible first | apply jR | apply jS | apply jT); rfl; rfl) | (with_reducible first | apply jU | apply jV | apply jW) | ((with_reducible first | apply jX | apply jY | apply jZ); rfl) | ((with_reducible first | apply kA | apply kB | apply kC); rfl)); all_goals (first | ((with_reducible show Is _ _); exact kE) | ((with_reducible refine fun (hc : (_ : Bool) = _) => ?_); (try simp only [xZ, xY, xP, reduceCtorEq] at hc); (try (have hx : True := hc; clear hx hc)); (try exact kX)) | ((with_reducible show ACall _ _ _ _ _); (first | ((with_reducible apply hcf) <;> exact kD) | ((with_reducible apply hfe) <;> exact kD))) | ((fail_if_success (with_reducible first | show Is _ _ | show ACall _ _ _ _ _)); (try ((with_reducible show _ ∨ _); exact kT))))))
        rfl
    · rw [if_neg (by decide)]
      repeat' (first | (with_reducible first | apply jA | apply jB | apply jC | apply jD | apply jE | apply jF | apply jG | apply jH | apply jI | apply jJ | apply jK | apply jL | apply jM | apply jN | apply jO) | ((with_reducible first | apply jP | apply jQ); rfl) | ((first | ((with_reducible first | apply jR | apply jS | apply jT); rfl; rfl) | (with_reducible first | apply jU | apply jV | apply jW) | ((with_reducible first | apply jX | apply jY | apply jZ); rfl) | ((with_reducible first | apply kA | apply kB | apply kC); rfl)); all_goals (first | ((with_reducible show Is _ _); exact kE) | ((with_reducible refine fun (hc : (_ : Bool) = _) => ?_); (try simp only [xZ, xY, xP, reduceCtorEq] at hc); (try (have hx : True := hc; clear hx hc)); (try exact kX)) | ((with_reducible show ACall _ _ _ _ _); (first | ((with_reducible apply hcf) <;> exact kD) | ((with_reducible apply hfe) <;> exact kD))) | ((fail_if_success (with_reducible first | show Is _ _ | show ACall _ _ _ _ _)); (try ((with_reducible show _ ∨ _); exact kT))))))
      rfl
  · rw [if_pos rfl]
    cases oe
    · have hfe0 : fe = [] := by simpa using hfn
      subst hfe0
      repeat' (first | (with_reducible first | apply jA | apply jB | apply jC | apply jD | apply jE | apply jF | apply jG | apply jH | apply jI | apply jJ | apply jK | apply jL | apply jM | apply jN | apply jO) | ((with_reducible first | apply jP | apply jQ); rfl) | ((first | ((with_reducible first | apply jR | apply jS | apply jT); rfl; rfl) | (with_reducible first | apply jU | apply jV | apply jW) | ((with_reducible first | apply jX | apply jY | apply jZ); rfl) | ((with_reducible first | apply kA | apply kB | apply kC); rfl)); all_goals (first | ((with_reducible show Is _ _); exact kE) | ((with_reducible refine fun (hc : (_ : Bool) = _) => ?_); (try simp only [xZ, xY, xP, reduceCtorEq] at hc); (try (have hx : True := hc; clear hx hc)); (try exact kX)) | ((with_reducible show ACall _ _ _ _ _); (first | ((with_reducible apply hcf) <;> exact kD) | ((with_reducible apply hfe) <;> exact kD))) | ((fail_if_success (with_reducible first | show Is _ _ | show ACall _ _ _ _ _)); (try ((with_reducible show _ ∨ _); exact kT))))))
      rfl
    · have hfe0 : (fe == []) = false := hfn
      clear hfn
      · by_cases k0 : kp = 0
        · have kk : timed kp = true := by rw [k0]; rfl
          rw [kk]
          subst k0
          cases av
          · repeat' (first | (with_reducible first | apply jA | apply jB | apply jC | apply jD | apply jE | apply jF | apply jG | apply jH | apply jI | apply jJ | apply jK | apply jL | apply jM | apply jN | apply jO) | ((with_reducible first | apply jP | apply jQ); rfl) | ((first | ((with_reducible first | apply jR | apply jS | apply jT); rfl; rfl) | (with_reducible first | apply jU | apply jV | apply jW) | ((with_reducible first | apply jX | apply jY | apply jZ); rfl) | ((with_reducible first | apply kA | apply kB | apply kC); rfl)); all_goals (first | ((with_reducible show Is _ _); exact kE) | ((with_reducible refine fun (hc : (_ : Bool) = _) => ?_); (try simp only [xZ, xY, xP, reduceCtorEq] at hc); (try (have hx : True := hc; clear hx hc)); (try exact kX)) | ((with_reducible show ACall _ _ _ _ _); (first | ((with_reducible apply hcf) <;> exact kD) | ((with_reducible apply hfe) <;> exact kD))) | ((fail_if_success (with_reducible first | show Is _ _ | show ACall _ _ _ _ _)); (try ((with_reducible show _ ∨ _); exact kT))))))
            rfl
          · repeat' (first | (with_reducible first | apply jA | apply jB | apply jC | apply jD | apply jE | apply jF | apply jG | apply jH | apply jI | apply jJ | apply jK | apply jL | apply jM | apply jN | apply jO) | ((with_reducible first | apply jP | apply jQ); rfl) | ((first | ((with_reducible first | apply jR | apply jS | apply jT); rfl; rfl) | (with_reducible first | apply jU | apply jV | apply jW) | ((with_reducible first | apply jX | apply jY | apply jZ); rfl) | ((with_reducible first | apply kA | apply kB | apply kC); rfl)); all_goals (first | ((with_reducible show Is _ _); exact kE) | ((with_reducible refine fun (hc : (_ : Bool) = _) => ?_); (try simp only [xZ, xY, xP, reduceCtorEq] at hc); (try (have hx : True := hc; clear hx hc)); (try exact kX)) | ((with_reducible show ACall _ _ _ _ _); (first | ((with_reducible apply hcf) <;> exact kD) | ((with_reducible apply hfe) <;> exact kD))) | ((fail_if_success (with_reducible first | show Is _ _ | show ACall _ _ _ _ _)); (try ((with_reducible show _ ∨ _); exact kT))))))
            rfl
        · have k00 : (kp == 0) = false := by simpa using k0
          by_cases k1 : 1000 ≤ kp
          · by_cases k2 : kp ≤ 1073741824
            · have kk : timed kp = true := by rw [timed, k00, decide_eq_true k1, decide_eq_true k2]; rfl
              rw [kk]
              clear kk
              cases av
              · repeat' (first | (with_reducible first | apply jA | apply jB | apply jC | apply jD | apply jE | apply jF | apply jG | apply jH | apply jI | apply jJ | apply jK | apply jL | apply jM | apply jN | apply jO) | ((with_reducible first | apply jP | apply jQ); rfl) | ((first | ((with_reducible first | apply jR | apply jS | apply jT); rfl; rfl) | (with_reducible first | apply jU | apply jV | apply jW) | ((with_reducible first | apply jX | apply jY | apply jZ); rfl) | ((with_reducible first | apply kA | apply kB | apply kC); rfl)); all_goals (first | ((with_reducible show Is _ _); exact kE) | ((with_reducible refine fun (hc : (_ : Bool) = _) => ?_); (try simp only [xZ, xY, xP, reduceCtorEq] at hc); (try (have hx : True := hc; clear hx hc)); (try exact kX)) | ((with_reducible show ACall _ _ _ _ _); (first | ((with_reducible apply hcf) <;> exact kD) | ((with_reducible apply hfe) <;> exact kD))) | ((fail_if_success (with_reducible first | show Is _ _ | show ACall _ _ _ _ _)); (try ((with_reducible show _ ∨ _); exact kT))))))
                rfl
              · repeat' (first | (with_reducible first | apply jA | apply jB | apply jC | apply jD | apply jE | apply jF | apply jG | apply jH | apply jI | apply jJ | apply jK | apply jL | apply jM | apply jN | apply jO) | ((with_reducible first | apply jP | apply jQ); rfl) | ((first | ((with_reducible first | apply jR | apply jS | apply jT); rfl; rfl) | (with_reducible first | apply jU | apply jV | apply jW) | ((with_reducible first | apply jX | apply jY | apply jZ); rfl) | ((with_reducible first | apply kA | apply kB | apply kC); rfl)); all_goals (first | ((with_reducible show Is _ _); exact kE) | ((with_reducible refine fun (hc : (_ : Bool) = _) => ?_); (try simp only [xZ, xY, xP, reduceCtorEq] at hc); (try (have hx : True := hc; clear hx hc)); (try exact kX)) | ((with_reducible show ACall _ _ _ _ _); (first | ((with_reducible apply hcf) <;> exact kD) | ((with_reducible apply hfe) <;> exact kD))) | ((fail_if_success (with_reducible first | show Is _ _ | show ACall _ _ _ _ _)); (try ((with_reducible show _ ∨ _); exact kT))))))
                rfl
            · have kk : timed kp = false := by rw [timed, k00, decide_eq_true k1, decide_eq_false k2]; rfl
              rw [kk]
              clear kk
              repeat' (first | (with_reducible first | apply jA | apply jB | apply jC | apply jD | apply jE | apply jF | apply jG | apply jH | apply jI | apply jJ | apply jK | apply jL | apply jM | apply jN | apply jO) | ((with_reducible first | apply jP | apply jQ); rfl) | ((first | ((with_reducible first | apply jR | apply jS | apply jT); rfl; rfl) | (with_reducible first | apply jU | apply jV | apply jW) | ((with_reducible first | apply jX | apply jY | apply jZ); rfl) | ((with_reducible first | apply kA | apply kB | apply kC); rfl)); all_goals (first | ((with_reducible show Is _ _); exact kE) | ((with_reducible refine fun (hc : (_ : Bool) = _) => ?_); (try simp only [xZ, xY, xP, reduceCtorEq] at hc); (try (have hx : True := hc; clear hx hc)); (try exact kX)) | ((with_reducible show ACall _ _ _ _ _); (first | ((with_reducible apply hcf) <;> exact kD) | ((with_reducible apply hfe) <;> exact kD))) | ((fail_if_success (with_reducible first | show Is _ _ | show ACall _ _ _ _ _)); (try ((with_reducible show _ ∨ _); exact kT))))))
              rfl
          · have kk : timed kp = false := by rw [timed, k00, decide_eq_false k1]; rfl
            rw [kk]
            clear kk
            repeat' (first | (with_reducible first | apply jA | apply jB | apply jC | apply jD | apply jE | apply jF | apply jG | apply jH | apply jI | apply jJ | apply jK | apply jL | apply jM | apply jN | apply jO) | ((with_reducible first | apply jP | apply jQ); rfl) | ((first | ((with_reducible first | apply jR | apply jS | apply jT); rfl; rfl) | (with_reducible first | apply jU | apply jV | apply jW) | ((with_reducible first | apply jX | apply jY | apply jZ); rfl) | ((with_reducible first | apply kA | apply kB | apply kC); rfl)); all_goals (first | ((with_reducible show Is _ _); exact kE) | ((with_reducible refine fun (hc : (_ : Bool) = _) => ?_); (try simp only [xZ, xY, xP, reduceCtorEq] at hc); (try (have hx : True := hc; clear hx hc)); (try exact kX)) | ((with_reducible show ACall _ _ _ _ _); (first | ((with_reducible apply hcf) <;> exact kD) | ((with_reducible apply hfe) <;> exact kD))) | ((fail_if_success (with_reducible first | show Is _ _ | show ACall _ _ _ _ _)); (try ((with_reducible show _ ∨ _); exact kT))))))
            rfl
end Go.Proofs.YtdceppjoipoohaaGreatDoor
end
section
namespace Go.Proofs.YtdceppjoipoohaaGreatDoor
open Go Go.Sy
set_option linter.all false
set_option maxRecDepth 100000
set_option maxHeartbeats 4000000
theorem bmidP {l : List UInt8} {n : Nat} (h : l.length = n) (x : List CV) : (l.map byteC ++ x).take n = l.map byteC ∧ (l.map byteC ++ x).drop n = x := ⟨List.take_left' (by rw [List.length_map, h]), List.drop_left' (by rw [List.length_map, h])⟩
theorem pgetP {l : List UInt8} {n : Nat} (h : l.length = n) (y : CV) : (l.map byteC ++ [y])[n]? = some y := by
  subst h
  rw [List.getElem?_append_right (by simp)]; simp
theorem pf_eqV {t u : Pf} (ht : t.1.2.length = 16) (hu : u.1.2.length = 16) : eqV Tryz.prog 20 49 (.agg (pfC t)) (.agg (pfC u)) = some (t == u) := by
  obtain ⟨⟨a, p⟩, k⟩ := t
  obtain ⟨⟨b, q⟩, m⟩ := u
  dsimp only at ht hu
  have h1 := bmidP ht
  have h2 := bmidP hu
  have h3 := pgetP ht
  have h4 := pgetP hu
  have h7 : (p.map byteC).take 16 = p.map byteC := List.take_of_length_le (by rw [List.length_map]; omega)
  have h8 : (q.map byteC).take 16 = q.map byteC := List.take_of_length_le (by rw [List.length_map]; omega)
  simp (disch := omega) [go_sem, pfC, h1, h2, h3, h4, h7, h8, ht, hu, -List.map_take]
  rw [Bool.eq_iff_iff]
  simp
theorem pfIndex_in (L : List Pf) (x : Pf) (hL : ∀ q ∈ L, PfL q) (hx : PfL x) (hl : L.length < 1000000) : PC Tryz.prog true 63 [.lst L.length (L.flatMap pfC) false, .agg (pfC x)] (.int .i64 (idxF (fun q => x == q) L)) := by
  have hcs := cells_all (f := pfC) (z := 18) (L := L) fun q hq => pfC_len (hL q hq)
  have hxl := pfC_len hx
  refine acall_intro mixed Tryz.func63 rfl ca63 (by kernel_rfl) (by rw [Tryz.ntmps63]; simp) ?_
  obtain ⟨Y, hY⟩ : ∃ Y, L.flatMap pfC = Y := ⟨_, rfl⟩
  obtain ⟨X, hX⟩ : ∃ X, pfC x = X := ⟨_, rfl⟩
  rw [hY] at hcs ⊢
  rw [hX] at hxl ⊢
  clear hY
  have hXt : X.take 18 = X := List.take_of_length_le (by omega)
  repeat' (first | (with_reducible first | apply jA | apply jB | apply jC | apply jD | apply jE | apply jF | apply jG | apply jH | apply jI | apply jJ | apply jK | apply jL | apply jM | apply jN | apply jO) | ((with_reducible first | apply jP | apply jQ); rfl) | ((first | ((with_reducible first | apply jR | apply jS | apply jT); rfl; rfl) | (with_reducible first | apply jU | apply jV | apply jW) | ((with_reducible first | apply jX | apply jY | apply jZ); rfl)); all_goals (first | ((with_reducible show Is _ _); exact kE) | ((with_reducible refine fun (hc : (_ : Bool) = _) => ?_); (try simp only [xZ, xY, xP, reduceCtorEq] at hc); (try (have hx : True := hc; clear hx hc)); (try exact kX)) | ((fail_if_success (with_reducible first | show Is _ _ | show ACall _ _ _ _ _)); (try ((with_reducible show _ ∨ _); exact kT))))))
  refine w_loop (fun fr B => ∃ j : Nat, j ≤ L.length ∧ j ≤ L.findIdx (fun q => x == q) ∧ fr 8 = .int .i64 j ∧ fr 7 = .int .i64 L.length ∧ fr 0 = .lst L.length Y false ∧ fr 3 = .ptr 0 0 ∧ B = [⟨X, false⟩]) (fun fr _ => L.length - natOf (fr 8)) ?_ ?_
  · exact ⟨0, by omega, by omega, by (simp (disch := omega) [go_sem, *]) <;> (try omega), by (simp (disch := omega) [go_sem, *]) <;> (try omega), by (simp (disch := omega) [go_sem, *]) <;> (try omega), by (simp (disch := omega) [go_sem, *]) <;> (try omega), rfl⟩
  rintro fr B ⟨j, hj, hf, h8, h7, h0, h3, rfl⟩
  have hm : natOf (fr 8) = j := by rw [h8]; rfl
  by_cases hc : j < L.length
  · obtain ⟨c1, c2⟩ := hcs j hc
    have hq := hL L[j] (List.getElem_mem hc)
    have hql := pfC_len hq
    have hev := pf_eqV hx.1 hq.1
    have hQt : (pfC L[j]).take 18 = pfC L[j] := List.take_of_length_le (by omega)
    rw [hX] at hev
    by_cases hp : (x == L[j]) = true
    · have e : L.findIdx (fun q => x == q) = j := fI_at hc hp hf
      rw [idxF, e, if_pos hc]
      rw [hp] at hev
      generalize pfC L[j] = Q at *
      clear hX hq hp hf e
      repeat' (first | (with_reducible first | apply jA | apply jB | apply jC | apply jD | apply jE | apply jF | apply jG | apply jH | apply jI | apply jJ | apply jK | apply jL | apply jM | apply jN | apply jO) | ((with_reducible first | apply jP | apply jQ); rfl) | ((first | ((with_reducible first | apply jR | apply jS | apply jT); rfl; rfl) | (with_reducible first | apply jU | apply jV | apply jW) | ((with_reducible first | apply jX | apply jY | apply jZ); rfl)); all_goals (first | ((with_reducible show Is _ _); exact kE) | ((with_reducible refine fun (hc : (_ : Bool) = _) => ?_); (try simp only [xZ, xY, xP, reduceCtorEq] at hc); (try (have hx : True := hc; clear hx hc)); (try exact kX)) | ((fail_if_success (with_reducible first | show Is _ _ | show ACall _ _ _ _ _)); (try ((with_reducible show _ ∨ _); exact kT))))))
      all_goals rfl
    · have e : j + 1 ≤ L.findIdx (fun q => x == q) := fI_next hc hp hf
      have hp2 : (x == L[j]) = false := by simpa using hp
      rw [hp2] at hev
      generalize pfC L[j] = Q at *
      clear hX hq hp hp2
      repeat' (first | (with_reducible first | apply jA | apply jB | apply jC | apply jD | apply jE | apply jF | apply jG | apply jH | apply jI | apply jJ | apply jK | apply jL | apply jM | apply jN | apply jO) | ((with_reducible first | apply jP | apply jQ); rfl) | ((first | ((with_reducible first | apply jR | apply jS | apply jT); rfl; rfl) | (with_reducible first | apply jU | apply jV | apply jW) | ((with_reducible first | apply jX | apply jY | apply jZ); rfl)); all_goals (first | ((with_reducible show Is _ _); exact kE) | ((with_reducible refine fun (hc : (_ : Bool) = _) => ?_); (try simp only [xZ, xY, xP, reduceCtorEq] at hc); (try (have hx : True := hc; clear hx hc)); (try exact kX)) | ((fail_if_success (with_reducible first | show Is _ _ | show ACall _ _ _ _ _)); (try ((with_reducible show _ ∨ _); exact kT))))))
      exact ⟨⟨j + 1, by omega, e, by (simp (disch := omega) [go_sem, *]) <;> (try omega), by (simp (disch := omega) [go_sem, *]) <;> (try omega), by (simp (disch := omega) [go_sem, *]) <;> (try omega), by (simp (disch := omega) [go_sem, *]) <;> (try omega), rfl⟩, by (simp (disch := omega) [go_sem, *]) <;> (try omega)⟩
  · rw [idxF, if_neg (by omega)]
    clear hX
    repeat' (first | (with_reducible first | apply jA | apply jB | apply jC | apply jD | apply jE | apply jF | apply jG | apply jH | apply jI | apply jJ | apply jK | apply jL | apply jM | apply jN | apply jO) | ((with_reducible first | apply jP | apply jQ); rfl) | ((first | ((with_reducible first | apply jR | apply jS | apply jT); rfl; rfl) | (with_reducible first | apply jU | apply jV | apply jW) | ((with_reducible first | apply jX | apply jY | apply jZ); rfl)); all_goals (first | ((with_reducible show Is _ _); exact kE) | ((with_reducible refine fun (hc : (_ : Bool) = _) => ?_); (try simp only [xZ, xY, xP, reduceCtorEq] at hc); (try (have hx : True := hc; clear hx hc)); (try exact kX)) | ((fail_if_success (with_reducible first | show Is _ _ | show ACall _ _ _ _ _)); (try ((with_reducible show _ ∨ _); exact kT))))))
    all_goals rfl
theorem pfContains_in (L : List Pf) (x : Pf) (hL : ∀ q ∈ L, PfL q) (hx : PfL x) (hl : L.length < 1000000) : PC Tryz.prog true 40 [.lst L.length (L.flatMap pfC) false, .agg (pfC x)] (.bool (L.any (fun q => x == q))) := by
  have hi : ∀ {B : List Box} {args : List CV}, Is (omap (Go.Sy.fz true false B 6) args) (some [.lst L.length (L.flatMap pfC) false, .agg (pfC x)]) → ACall Tryz.prog 63 args B fun c B' => c = .int .i64 (idxF (fun q => x == q) L) ∧ B' = B := fun h => acall_fresh h (pfIndex_in L x hL hx hl)
  have hxl := pfC_len hx
  have ho : ∀ {nz fr : Bool} {B : List Box} {k : Nat}, omap (Go.Sy.fz nz fr B (k + 1)) (pfC x) = some (pfC x) := pf_om1 x
  have ho2 : ∀ {nz fr : Bool} {B : List Box} {k : Nat}, omap (Go.Sy.fz nz fr B (k + 1)) (L.flatMap pfC) = some (L.flatMap pfC) := pf_om L
  rw [← idxF_any]
  generalize idxF (fun q => x == q) L = v at *
  generalize pfC x = X at *
  generalize L.flatMap pfC = Y at *
  refine acall_intro mixed Tryz.func40 rfl ca40 (by kernel_rfl) (by rw [Tryz.ntmps40]; simp) ?_
  repeat' (first | (with_reducible first | apply jA | apply jB | apply jC | apply jD | apply jE | apply jF | apply jG | apply jH | apply jI | apply jJ | apply jK | apply jL | apply jM | apply jN | apply jO) | ((with_reducible first | apply jP | apply jQ); rfl) | ((first | ((with_reducible first | apply jR | apply jS | apply jT); rfl; rfl) | (with_reducible first | apply jU | apply jV | apply jW) | ((with_reducible first | apply jX | apply jY | apply jZ); rfl) | ((with_reducible first | apply kA | apply kB | apply kC); rfl)); all_goals (first | ((with_reducible show Is _ _); exact kE) | ((with_reducible refine fun (hc : (_ : Bool) = _) => ?_); (try simp only [xZ, xY, xP, reduceCtorEq] at hc); (try (have hx : True := hc; clear hx hc)); (try exact kX)) | ((with_reducible show ACall _ _ _ _ _); (first | ((with_reducible apply hi) <;> exact kD))) | ((fail_if_success (with_reducible first | show Is _ _ | show ACall _ _ _ _ _)); (try ((with_reducible show _ ∨ _); exact kT))))))
  rfl
theorem validate1_in (p : Pe) (h : PeL p) (hl : p.2.2.2.2.2.length < 1000000) : PC Tryz.prog true 37 [.agg (peC p)] (.bool (!okPe p)) := by
  have hv : ∀ {B : List Box} {args : List CV}, Is (omap (Go.Sy.fz true false B 6) args) (some [.agg (peC p)]) → ACall Tryz.prog 38 args B fun c B' => c = .bool (okPe p) ∧ B' = B := fun h2 => acall_fresh h2 (proper_in p h hl)
  have hXl := peC_len h
  have ho : ∀ {nz : Bool} {B : List Box} {k : Nat}, omap (Go.Sy.fz nz false B (k + 2)) (peC p) = some (peC p) := pe_om1 p
  generalize okPe p = v at *
  generalize peC p = X at *
  refine acall_intro mixed Tryz.func37 rfl ca37 (by kernel_rfl) (by rw [Tryz.ntmps37]; simp) ?_
  repeat' (first | (with_reducible first | apply jA | apply jB | apply jC | apply jD | apply jE | apply jF | apply jG | apply jH | apply jI | apply jJ | apply jK | apply jL | apply jM | apply jN | apply jO) | ((with_reducible first | apply jP | apply jQ); rfl) | ((first | ((with_reducible first | apply jR | apply jS | apply jT); rfl; rfl) | (with_reducible first | apply jU | apply jV | apply jW) | ((with_reducible first | apply jX | apply jY | apply jZ); rfl) | ((with_reducible first | apply kA | apply kB | apply kC); rfl)); all_goals (first | ((with_reducible show Is _ _); exact kE) | ((with_reducible refine fun (hc : (_ : Bool) = _) => ?_); (try simp only [xZ, xY, xP, reduceCtorEq] at hc); (try (have hx : True := hc; clear hx hc)); (try exact kX)) | ((with_reducible show ACall _ _ _ _ _); (first | ((with_reducible apply hv) <;> exact kD))) | ((fail_if_success (with_reducible first | show Is _ _ | show ACall _ _ _ _ _)); (try ((with_reducible show _ ∨ _); exact kT))))))
  rfl
theorem validate2_in (p q : Pe) (hp : PeL p) (hq : PeL q) : PC Tryz.prog true 39 [.agg (peC q), .iptr (peC p)] (.bool (q.1 == p.1)) := by
  have hpl := peC_len hp
  have hql := peC_len hq
  obtain ⟨-, -, -, -, d1, -⟩ := pe_parts hp
  obtain ⟨-, -, -, -, d2, -⟩ := pe_parts hq
  have l1 := hp.1
  have l2 := hq.1
  generalize peC p = X at *
  generalize peC q = Y at *
  generalize p.1 = u at *
  generalize q.1 = v at *
  refine acall_intro mixed Tryz.func39 rfl ca39 (by kernel_rfl) (by rw [Tryz.ntmps39]; simp) ?_
  repeat' (first | (with_reducible first | apply jA | apply jB | apply jC | apply jD | apply jE | apply jF | apply jG | apply jH | apply jI | apply jJ | apply jK | apply jL | apply jM | apply jN | apply jO) | ((with_reducible first | apply jP | apply jQ); rfl) | ((first | ((with_reducible first | apply jR | apply jS | apply jT); rfl; rfl) | (with_reducible first | apply jU | apply jV | apply jW) | ((with_reducible first | apply jX | apply jY | apply jZ); rfl)); all_goals (first | ((with_reducible show Is _ _); exact kE) | ((with_reducible refine fun (hc : (_ : Bool) = _) => ?_); (try simp only [xZ, xY, xP, reduceCtorEq] at hc); (try (have hx : True := hc; clear hx hc)); (try exact kX)) | ((fail_if_success (with_reducible first | show Is _ _ | show ACall _ _ _ _ _)); (try ((with_reducible show _ ∨ _); exact kT))))))
  rfl
end Go.Proofs.YtdceppjoipoohaaGreatDoor
end
section
namespace Go.Proofs.YtdceppjoipoohaaGreatDoor
open Go Go.Sy
set_option linter.all false
set_option maxRecDepth 100000
set_option maxHeartbeats 4000000
theorem kE_VE0 {α : Type} {x y : α} (h : Is x y := by first | ((try simp (disch := first | omega | (simp only [yZ, yB] <;> omega) | fail) [go_sem, yY, *, bx_get0, bx_get, if_pos, if_neg, -List.map_take, -List.map_drop, -List.map_append, -List.map_reverse]); exact rfl) | fail) : Is x y := h
theorem kD_VE0 {p : Prop} (h : p := by (first | omega | assumption | exact rfl | ((simp (disch := first | omega | (simp only [yZ, yB] <;> omega) | fail) [go_sem, yY, *, bx_get0, bx_get, -List.map_take, -List.map_drop, -List.map_append, -List.map_reverse]) <;> (first | done | omega | exact rfl)) | fail)) : p := h
abbrev Cf := List UInt8 × Int × List Pe
def cfC (c : List UInt8 × Int × List (List UInt8 × List UInt8 × Bool × ((Bool × List UInt8) × Int) × Int × List ((Bool × List UInt8) × Int))) : List CV := c.1.map byteC ++ ([.int .i64 c.2.1] ++ [.lst c.2.2.length (c.2.2.flatMap peC) false])
def pubs (ps : List Pe) : List (List UInt8) := ps.map (·.1)
def alls (ps : List Pe) : List Pf := ps.flatMap (·.2.2.2.2.2)
def valC (port : Int) (ps : List Pe) : Int :=
  if 8 < ps.length ∨ 16 < (alls ps).length then 12
  else if port < 0 ∨ 65535 < port ∨ ps.all okPe = false then 1
  else if (pubs ps).Nodup ∧ (alls ps).Nodup then 0 else 19
theorem cf_parts {c : Cf} (h : c.1.length = 32) : (cfC c).drop 32 = [.int .i64 c.2.1, .lst c.2.2.length (c.2.2.flatMap peC) false] ∧ (cfC c).drop 33 = [.lst c.2.2.length (c.2.2.flatMap peC) false] ∧ (cfC c).take 32 = c.1.map byteC ∧ (cfC c).length = 34 := by
  have l1 : (c.1.map byteC).length = 32 := by simp [h]
  have d32 : (cfC c).drop 32 = [.int .i64 c.2.1, .lst c.2.2.length (c.2.2.flatMap peC) false] := by rw [cfC, List.drop_left' l1]; rfl
  refine ⟨d32, by rw [show (33 : Nat) = 32 + 1 from rfl, ← List.drop_drop, d32]; rfl, by rw [cfC, List.take_left' l1], by simp [cfC, h]⟩
theorem alls_le {ps : List Pe} (h : ∀ p ∈ ps, p.2.2.2.2.2.length < 1000000) : (alls ps).length ≤ ps.length * 1000000 := by
  induction ps with
  | nil => simp [alls]
  | cons p ps ih =>
    have h1 := h p (by simp)
    have h2 := ih fun q hq => h q (by simp [hq])
    simp only [alls, List.flatMap_cons, List.length_append, List.length_cons] at h2 ⊢
    omega
theorem alls_succ {ps : List Pe} {j : Nat} (h : j < ps.length) : alls (ps.take (j + 1)) = alls (ps.take j) ++ ps[j].2.2.2.2.2 := by
  rw [List.take_succ_eq_append_getElem h, alls, List.flatMap_append]; simp [alls]
theorem not_nodup_pub {ps : List Pe} {i : Nat} (h : i < ps.length) (hm : (ps.take i).any (fun q => q.1 == ps[i].1) = true) : ¬ ((pubs ps).Nodup ∧ (alls ps).Nodup) := by
  rintro ⟨hn, -⟩
  obtain ⟨q, hq, he⟩ := List.any_eq_true.1 hm
  have e : ps = ps.take i ++ ps[i] :: ps.drop (i + 1) := by rw [← List.drop_eq_getElem_cons h, List.take_append_drop]
  have e2 : pubs ps = pubs (ps.take i) ++ ps[i].1 :: pubs (ps.drop (i + 1)) := by
    have := congrArg pubs e
    simpa only [pubs, List.map_append, List.map_cons] using this
  rw [e2] at hn
  obtain ⟨-, -, h3⟩ := List.nodup_append.1 hn
  exact h3 _ (List.mem_map.2 ⟨q, hq, rfl⟩) _ (List.mem_cons_self ..) (by simpa using he)
theorem pubs_next {ps : List Pe} {i : Nat} (h : i < ps.length) (hn : (pubs (ps.take i)).Nodup) (hm : (ps.take i).any (fun q => q.1 == ps[i].1) = false) : (pubs (ps.take (i + 1))).Nodup := by
  rw [List.take_succ_eq_append_getElem h, pubs, List.map_append, List.map_singleton]
  refine List.nodup_append.2 ⟨hn, by simp, fun a ha b hb => ?_⟩
  obtain ⟨q, hq, rfl⟩ := List.mem_map.1 ha
  have := List.any_eq_false.1 hm q hq
  rw [List.mem_singleton] at hb
  subst hb
  simpa using this
theorem mid_split {α : Type} (A L D : List α) {k : Nat} (hk : k < L.length) : A ++ (L ++ D) = (A ++ L.take k) ++ L[k] :: (L.drop (k + 1) ++ D) := by
  have e3 : L.take k ++ L[k] :: L.drop (k + 1) = L := by rw [← List.drop_eq_getElem_cons hk, List.take_append_drop]
  have : (A ++ L.take k) ++ L[k] :: (L.drop (k + 1) ++ D) = A ++ ((L.take k ++ L[k] :: L.drop (k + 1)) ++ D) := by simp only [List.append_assoc, List.cons_append]
  rw [this, e3]
theorem alls_split {ps : List Pe} {i k : Nat} (h : i < ps.length) (hk : k < ps[i].2.2.2.2.2.length) : ∃ Z, alls ps = (alls (ps.take i) ++ ps[i].2.2.2.2.2.take k) ++ ps[i].2.2.2.2.2[k] :: Z := by
  have e : ps = ps.take i ++ ps[i] :: ps.drop (i + 1) := by rw [← List.drop_eq_getElem_cons h, List.take_append_drop]
  have e2 : alls ps = alls (ps.take i) ++ (ps[i].2.2.2.2.2 ++ alls (ps.drop (i + 1))) := by
    have := congrArg alls e
    simpa only [alls, List.flatMap_append, List.flatMap_cons] using this
  refine ⟨ps[i].2.2.2.2.2.drop (k + 1) ++ alls (ps.drop (i + 1)), ?_⟩
  rw [e2]
  exact mid_split _ _ _ hk
theorem not_nodup_all {ps : List Pe} {i k : Nat} (h : i < ps.length) (hk : k < ps[i].2.2.2.2.2.length) (hm : (alls (ps.take i) ++ ps[i].2.2.2.2.2.take k).any (fun q => ps[i].2.2.2.2.2[k] == q) = true) : ¬ ((pubs ps).Nodup ∧ (alls ps).Nodup) := by
  rintro ⟨-, hn⟩
  obtain ⟨q, hq, he⟩ := List.any_eq_true.1 hm
  obtain ⟨Z, hZ⟩ := alls_split h hk
  rw [hZ] at hn
  obtain ⟨-, -, h3⟩ := List.nodup_append.1 hn
  exact h3 _ hq _ (List.mem_cons_self ..) (by have := (beq_iff_eq.1 he); exact this.symm)
theorem alls_next {L : List Pf} {x : Pf} (hn : L.Nodup) (hm : L.any (fun q => x == q) = false) : (L ++ [x]).Nodup := by
  refine List.nodup_append.2 ⟨hn, by simp, fun a ha b hb => ?_⟩
  have := List.any_eq_false.1 hm a ha
  rw [List.mem_singleton] at hb
  subst hb
  intro e
  exact this (by simp [e])
theorem validate_in (K : List UInt8) (port : Int) (ps : List Pe) (hK : K.length = 32) (hpo : -9223372036854775808 ≤ port ∧ port ≤ 9223372036854775807) (hps : ∀ p ∈ ps, PeL p) (hl : ps.length < 1000000) (hal : ∀ p ∈ ps, p.2.2.2.2.2.length < 1000000) : PC Tryz.prog true 13 [.agg (cfC (K, port, ps))] (.int .i64 (valC port ps)) := by
  have hcs := cells_all (f := peC) (z := 85) (L := ps) fun p hp => peC_len (hps p hp)
  have hal2 := alls_le hal
  obtain ⟨d32, d33, -, hCl⟩ := cf_parts (c := (K, port, ps)) hK
  dsimp only at d32 d33
  have hcf : ∀ {B : List Box} {args : List CV}, Is args [.lst ps.length (ps.flatMap peC) false, .fn (.func 37) [] []] → ACall Tryz.prog 36 args B fun c B' => c = .bool (ps.any fun a => !okPe a) ∧ B' = B := fun hz => peContainsFunc_at hz ⟨by omega, _, hcs, .inl ⟨_, rfl⟩⟩ fun a ha => acall_fresh (nz := true) (by simp [go_sem]) (validate1_in a (hps a ha) (hal a ha))
  have hany : (ps.any fun a => !okPe a) = !ps.all okPe := by simp [List.all_eq_not_any_not]
  rw [hany] at hcf
  clear hany
  generalize cfC (K, port, ps) = C at *
  obtain ⟨Y, hY⟩ : ∃ Y, ps.flatMap peC = Y := ⟨_, rfl⟩
  rw [hY] at hcs d32 d33 hcf
  replace hY : Hid _ := hY
  replace hcs : Hid _ := hcs
  replace hps : Hid _ := hps
  replace hal : Hid _ := hal
  refine acall_intro mixed Tryz.func13 rfl ca13 (by kernel_rfl) (by rw [Tryz.ntmps13]; simp) ?_
  repeat' (first | (with_reducible first | apply jA | apply jB | apply jC | apply jD | apply jE | apply jF | apply jG | apply jH | apply jI | apply jJ | apply jK | apply jL | apply jM | apply jN | apply jO) | ((with_reducible first | apply jP | apply jQ); rfl) | ((first | ((with_reducible first | apply jR | apply jS | apply jT); rfl; rfl) | (with_reducible first | apply jU | apply jV | apply jW) | ((with_reducible first | apply jX | apply jY | apply jZ); rfl)); all_goals (first | ((with_reducible show Is _ _); exact kE) | ((with_reducible refine fun (hc : (_ : Bool) = _) => ?_); (try simp only [xZ, xY, xP, reduceCtorEq] at hc); (try (have hx : True := hc; clear hx hc)); (try exact kX)) | ((fail_if_success (with_reducible first | show Is _ _ | show ACall _ _ _ _ _)); (try ((with_reducible show _ ∨ _); exact kT))))))
  refine w_loop (fun fr B => ∃ (j : Nat) (G : List Box), j ≤ ps.length ∧ fr 3 = .int .i64 (alls (ps.take j)).length ∧ fr 14 = .int .i64 j ∧ fr 13 = .int .i64 ps.length ∧ fr 12 = .lst ps.length Y false ∧ fr 1 = .ptr 0 0 ∧ B = ⟨C, false⟩ :: G) (fun fr _ => ps.length - natOf (fr 14)) ?_ ?_
  · exact ⟨0, [], by omega, by (simp (disch := omega) [go_sem, *, alls]) <;> (try omega), by (simp (disch := omega) [go_sem, *]) <;> (try omega), by (simp (disch := omega) [go_sem, *]) <;> (try omega), by (simp (disch := omega) [go_sem, *]) <;> (try omega), by (simp (disch := omega) [go_sem, *]) <;> (try omega), rfl⟩
  rintro fr B ⟨j, G, hj, f3, f14, f13, f12, f1, rfl⟩
  have hm0 : natOf (fr 14) = j := by rw [f14]; rfl
  by_cases hc : j < ps.length
  · have hcs : Cells peC 85 Y ps := hcs
    have hps : ∀ p ∈ ps, PeL p := hps
    have hal : ∀ p ∈ ps, p.2.2.2.2.2.length < 1000000 := hal
    obtain ⟨c1, c2⟩ := hcs j hc
    have hp := hps ps[j] (List.getElem_mem hc)
    have hpl := peC_len hp
    have hpa := hal ps[j] (List.getElem_mem hc)
    have hnx := alls_succ hc
    have hle := alls_le (ps := ps.take j) fun p hp => hal p (List.mem_of_mem_take hp)
    rw [List.length_take] at hle
    obtain ⟨-, -, -, d84, -, -⟩ := pe_parts hp
    have hn2 : (alls (ps.take (j + 1))).length = (alls (ps.take j)).length + ps[j].2.2.2.2.2.length := by rw [hnx, List.length_append]
    clear hnx hp
    generalize peC ps[j] = Q at *
    generalize ps[j].2.2.2.2.2.flatMap pfC = R at *
    generalize ps[j].2.2.2.2.2.length = al at *
    generalize (alls (ps.take j)).length = m1 at *
    clear hcs hps hal hcf
    repeat' (first | (with_reducible first | apply jA | apply jB | apply jC | apply jD | apply jE | apply jF | apply jG | apply jH | apply jI | apply jJ | apply jK | apply jL | apply jM | apply jN | apply jO) | ((with_reducible first | apply jP | apply jQ); rfl) | ((first | ((with_reducible first | apply jR | apply jS | apply jT); rfl; rfl) | (with_reducible first | apply jU | apply jV | apply jW) | ((with_reducible first | apply jX | apply jY | apply jZ); rfl)); all_goals (first | ((with_reducible show Is _ _); exact kE) | ((with_reducible refine fun (hc : (_ : Bool) = _) => ?_); (try simp only [xZ, xY, xP, reduceCtorEq] at hc); (try (have hx : True := hc; clear hx hc)); (try exact kX)) | ((fail_if_success (with_reducible first | show Is _ _ | show ACall _ _ _ _ _)); (try ((with_reducible show _ ∨ _); exact kT))))))
    exact ⟨⟨j + 1, _, by omega, by rw [hn2]; (simp (disch := omega) [go_sem, *]) <;> (try omega), by (simp (disch := omega) [go_sem, *]) <;> (try omega), by (simp (disch := omega) [go_sem, *]) <;> (try omega), by (simp (disch := omega) [go_sem, *]) <;> (try omega), by (simp (disch := omega) [go_sem, *]) <;> (try omega), rfl⟩, by (simp (disch := omega) [go_sem, *]) <;> (try omega)⟩
  · obtain rfl : j = ps.length := by omega
    rw [List.take_length] at f3
    by_cases h8 : 8 < ps.length
    · have e : valC port ps = 12 := by rw [valC, if_pos (.inl h8)]
      rw [e]
      clear e
      generalize (alls ps).length = m at *
      repeat' (first | (with_reducible first | apply jA | apply jB | apply jC | apply jD | apply jE | apply jF | apply jG | apply jH | apply jI | apply jJ | apply jK | apply jL | apply jM | apply jN | apply jO) | ((with_reducible first | apply jP | apply jQ); rfl) | ((first | ((with_reducible first | apply jR | apply jS | apply jT); rfl; rfl) | (with_reducible first | apply jU | apply jV | apply jW) | ((with_reducible first | apply jX | apply jY | apply jZ); rfl) | ((with_reducible first | apply kA | apply kB | apply kC); rfl)); all_goals (first | ((with_reducible show Is _ _); exact kE) | ((with_reducible refine fun (hc : (_ : Bool) = _) => ?_); (try simp only [xZ, xY, xP, reduceCtorEq] at hc); (try (have hx : True := hc; clear hx hc)); (try exact kX)) | ((with_reducible show ACall _ _ _ _ _); (first | ((with_reducible apply hcf) <;> exact kD))) | ((fail_if_success (with_reducible first | show Is _ _ | show ACall _ _ _ _ _)); (try ((with_reducible show _ ∨ _); exact kT))))))
      rfl
    by_cases h16 : 16 < (alls ps).length
    · have e : valC port ps = 12 := by rw [valC, if_pos (.inr h16)]
      rw [e]
      clear e
      generalize (alls ps).length = m at *
      repeat' (first | (with_reducible first | apply jA | apply jB | apply jC | apply jD | apply jE | apply jF | apply jG | apply jH | apply jI | apply jJ | apply jK | apply jL | apply jM | apply jN | apply jO) | ((with_reducible first | apply jP | apply jQ); rfl) | ((first | ((with_reducible first | apply jR | apply jS | apply jT); rfl; rfl) | (with_reducible first | apply jU | apply jV | apply jW) | ((with_reducible first | apply jX | apply jY | apply jZ); rfl) | ((with_reducible first | apply kA | apply kB | apply kC); rfl)); all_goals (first | ((with_reducible show Is _ _); exact kE) | ((with_reducible refine fun (hc : (_ : Bool) = _) => ?_); (try simp only [xZ, xY, xP, reduceCtorEq] at hc); (try (have hx : True := hc; clear hx hc)); (try exact kX)) | ((with_reducible show ACall _ _ _ _ _); (first | ((with_reducible apply hcf) <;> exact kD))) | ((fail_if_success (with_reducible first | show Is _ _ | show ACall _ _ _ _ _)); (try ((with_reducible show _ ∨ _); exact kT))))))
      rfl
    have ev : valC port ps = if port < 0 ∨ 65535 < port ∨ ps.all okPe = false then 1 else if (pubs ps).Nodup ∧ (alls ps).Nodup then 0 else 19 := by
      rw [valC, if_neg]; omega
    rw [ev]
    clear ev
    by_cases hp0 : port < 0
    · rw [if_pos (.inl hp0)]
      generalize (alls ps).length = m at *
      repeat' (first | (with_reducible first | apply jA | apply jB | apply jC | apply jD | apply jE | apply jF | apply jG | apply jH | apply jI | apply jJ | apply jK | apply jL | apply jM | apply jN | apply jO) | ((with_reducible first | apply jP | apply jQ); rfl) | ((first | ((with_reducible first | apply jR | apply jS | apply jT); rfl; rfl) | (with_reducible first | apply jU | apply jV | apply jW) | ((with_reducible first | apply jX | apply jY | apply jZ); rfl) | ((with_reducible first | apply kA | apply kB | apply kC); rfl)); all_goals (first | ((with_reducible show Is _ _); exact kE) | ((with_reducible refine fun (hc : (_ : Bool) = _) => ?_); (try simp only [xZ, xY, xP, reduceCtorEq] at hc); (try (have hx : True := hc; clear hx hc)); (try exact kX)) | ((with_reducible show ACall _ _ _ _ _); (first | ((with_reducible apply hcf) <;> exact kD))) | ((fail_if_success (with_reducible first | show Is _ _ | show ACall _ _ _ _ _)); (try ((with_reducible show _ ∨ _); exact kT))))))
      rfl
    by_cases hp1 : 65535 < port
    · rw [if_pos (.inr (.inl hp1))]
      generalize (alls ps).length = m at *
      repeat' (first | (with_reducible first | apply jA | apply jB | apply jC | apply jD | apply jE | apply jF | apply jG | apply jH | apply jI | apply jJ | apply jK | apply jL | apply jM | apply jN | apply jO) | ((with_reducible first | apply jP | apply jQ); rfl) | ((first | ((with_reducible first | apply jR | apply jS | apply jT); rfl; rfl) | (with_reducible first | apply jU | apply jV | apply jW) | ((with_reducible first | apply jX | apply jY | apply jZ); rfl) | ((with_reducible first | apply kA | apply kB | apply kC); rfl)); all_goals (first | ((with_reducible show Is _ _); exact kE) | ((with_reducible refine fun (hc : (_ : Bool) = _) => ?_); (try simp only [xZ, xY, xP, reduceCtorEq] at hc); (try (have hx : True := hc; clear hx hc)); (try exact kX)) | ((with_reducible show ACall _ _ _ _ _); (first | ((with_reducible apply hcf) <;> exact kD))) | ((fail_if_success (with_reducible first | show Is _ _ | show ACall _ _ _ _ _)); (try ((with_reducible show _ ∨ _); exact kT))))))
      rfl
    cases hok : ps.all okPe with
    | false =>
      rw [if_pos (.inr (.inr rfl))]
      rw [hok] at hcf
      generalize (alls ps).length = m at *
      repeat' (first | (with_reducible first | apply jA | apply jB | apply jC | apply jD | apply jE | apply jF | apply jG | apply jH | apply jI | apply jJ | apply jK | apply jL | apply jM | apply jN | apply jO) | ((with_reducible first | apply jP | apply jQ); rfl) | ((first | ((with_reducible first | apply jR | apply jS | apply jT); rfl; rfl) | (with_reducible first | apply jU | apply jV | apply jW) | ((with_reducible first | apply jX | apply jY | apply jZ); rfl) | ((with_reducible first | apply kA | apply kB | apply kC); rfl)); all_goals (first | ((with_reducible show Is _ _); exact kE) | ((with_reducible refine fun (hc : (_ : Bool) = _) => ?_); (try simp only [xZ, xY, xP, reduceCtorEq] at hc); (try (have hx : True := hc; clear hx hc)); (try exact kX)) | ((with_reducible show ACall _ _ _ _ _); (first | ((with_reducible apply hcf) <;> exact kD))) | ((fail_if_success (with_reducible first | show Is _ _ | show ACall _ _ _ _ _)); (try ((with_reducible show _ ∨ _); exact kT))))))
      rfl
    | true =>
      rw [if_neg (by simp; omega)]
      rw [hok] at hcf
      obtain ⟨m, hm⟩ : ∃ m, (alls ps).length = m := ⟨_, rfl⟩
      rw [hm] at f3 h16
      replace hm : Hid _ := hm
      repeat' (first | (with_reducible first | apply jA | apply jB | apply jC | apply jD | apply jE | apply jF | apply jG | apply jH | apply jI | apply jJ | apply jK | apply jL | apply jM | apply jN | apply jO) | ((with_reducible first | apply jP | apply jQ); rfl) | ((first | ((with_reducible first | apply jR | apply jS | apply jT); rfl; rfl) | (with_reducible first | apply jU | apply jV | apply jW) | ((with_reducible first | apply jX | apply jY | apply jZ); rfl) | ((with_reducible first | apply kA | apply kB | apply kC); rfl)); all_goals (first | ((with_reducible show Is _ _); exact kE) | ((with_reducible refine fun (hc : (_ : Bool) = _) => ?_); (try simp only [xZ, xY, xP, reduceCtorEq] at hc); (try (have hx : True := hc; clear hx hc)); (try exact kX)) | ((with_reducible show ACall _ _ _ _ _); (first | ((with_reducible apply hcf) <;> exact kD))) | ((fail_if_success (with_reducible first | show Is _ _ | show ACall _ _ _ _ _)); (try ((with_reducible show _ ∨ _); exact kT))))))
      clear hcf
      have hcs : Cells peC 85 Y ps := hcs
      have hps : ∀ p ∈ ps, PeL p := hps
      have hal : ∀ p ∈ ps, p.2.2.2.2.2.length < 1000000 := hal
      have hY : ps.flatMap peC = Y := hY
      replace d32 : Hid _ := d32
      have hm16 : Hid ((alls ps).length ≤ 16) := by have hm : (alls ps).length = m := hm; show (alls ps).length ≤ 16; omega
      clear hm f3 f14 f13 f12 hm0
      refine w_loop (fun fr B => ∃ (i : Nat) (G : List Box) (c : CV), i ≤ ps.length ∧ (pubs (ps.take i)).Nodup ∧ (alls (ps.take i)).Nodup ∧ fr 48 = .int .i64 i ∧ fr 47 = .int .i64 ps.length ∧ fr 46 = .lst ps.length Y false ∧ fr 6 = c ∧ fr 1 = .ptr 0 0 ∧ B = ⟨C, false⟩ :: G ∧ GrowR pfC 18 1 c G (alls (ps.take i))) (fun fr _ => ps.length - natOf (fr 48)) ?_ ?_
      · exact ⟨0, G, .nilS, by omega, by simp [pubs], by simp [alls], by (simp (disch := omega) [go_sem, *]) <;> (try omega), by (simp (disch := omega) [go_sem, *]) <;> (try omega), by (simp (disch := omega) [go_sem, *]) <;> (try omega), by (simp (disch := omega) [go_sem, *]) <;> (try omega), by (simp (disch := omega) [go_sem, *]) <;> (try omega), rfl, .inl ⟨rfl, rfl⟩⟩
      clear f1
      clear G
      rintro fr B ⟨i, G, c, hi, hn1, hn2, f48, f47, f46, f6, f1, rfl, hG⟩
      have hm0 : natOf (fr 48) = i := by rw [f48]; rfl
      by_cases hc : i < ps.length
      · obtain ⟨c1, c2⟩ := hcs i hc
        have hp := hps ps[i] (List.getElem_mem hc)
        have hpl := peC_len hp
        have hpa := hal ps[i] (List.getElem_mem hc)
        have hnn := @not_nodup_pub ps i hc
        have hnp := pubs_next hc hn1
        have hna := fun k hk => @not_nodup_all ps i k hc hk
        have hYt : Y.take (i * 85) = (ps.take i).flatMap peC := by rw [← hY]; exact fl_take i fun p hp => peC_len (hps p hp)
        have hcf2 : ∀ {B : List Box} {args : List CV} {fl : Bool}, Is args [.lst i (Y.take (i * 85)) fl, .fn (.func 39) [] [.ptr (G.length + 1) 0]] → B[G.length + 1]? = some ⟨peC ps[i], false⟩ → ACall Tryz.prog 36 args B fun c B' => c = .bool ((ps.take i).any fun q => q.1 == ps[i].1) ∧ B' = B := fun {B args fl} hz hB => peContainsFunc_at (L := ps.take i) hz ⟨by rw [List.length_take]; omega, Y.take (i * 85), (by rw [hYt]; exact cells_all fun p hp => peC_len (hps p (List.mem_of_mem_take hp))), .inl ⟨fl, by rw [List.length_take, Nat.min_eq_left (by omega)]⟩⟩ fun a ha => acall_fresh (nz := true) (by simp [go_sem, hB]) (validate2_in ps[i] a hp (hps a (List.mem_of_mem_take ha)))
        obtain ⟨-, -, -, d84, -, -⟩ := pe_parts hp
        have haL := hp.2.2.2.2
        have hDL : ∀ q ∈ alls (ps.take i), PfL q := fun q hq => by
          obtain ⟨r, hr, hq⟩ := List.mem_flatMap.1 hq
          exact (hps r (List.mem_of_mem_take hr)).2.2.2.2 q hq
        have hspl := fun k hk => @alls_split ps i k hc hk
        have hsuc := alls_succ hc
        clear hp
        replace hYt : Hid _ := hYt
        replace hcs : Hid _ := hcs
        replace hps : Hid _ := hps
        replace hal : Hid _ := hal
        replace hY : Hid _ := hY
        replace hna : Hid _ := hna
        replace hspl : Hid _ := hspl
        replace haL : Hid _ := haL
        replace hDL : Hid _ := hDL
        replace hG : Hid _ := hG
        generalize (ps.take i).any (fun q => q.1 == ps[i].1) = dup at *
        cases dup with
        | true =>
          rw [if_neg (hnn rfl)]
          clear hnn hnp
          generalize peC ps[i] = Q at *
          generalize ps[i].2.2.2.2.2 = al at *
          generalize al.flatMap pfC = R at *
          repeat' (first | (with_reducible first | apply jA | apply jB | apply jC | apply jD | apply jE | apply jF | apply jG | apply jH | apply jI | apply jJ | apply jK | apply jL | apply jM | apply jN | apply jO) | ((with_reducible first | apply jP | apply jQ); rfl) | ((first | ((with_reducible first | apply jR | apply jS | apply jT); rfl; rfl) | (with_reducible first | apply jU | apply jV | apply jW) | ((with_reducible first | apply jX | apply jY | apply jZ); rfl) | ((with_reducible first | apply kA | apply kB | apply kC); rfl)); all_goals (first | ((with_reducible show Is _ _); exact kE_VE0) | ((with_reducible refine fun (hc : (_ : Bool) = _) => ?_); (try simp only [xZ, xY, xP, reduceCtorEq] at hc); (try (have hx : True := hc; clear hx hc)); (try exact kX)) | ((with_reducible show ACall _ _ _ _ _); (first | ((with_reducible apply hcf2) <;> exact kD_VE0))) | ((fail_if_success (with_reducible first | show Is _ _ | show ACall _ _ _ _ _)); (try ((with_reducible show _ ∨ _); exact kT))))))
          rfl
        | false =>
          replace hnp := hnp rfl
          clear hnn
          replace hnp : Hid _ := hnp
          replace hn1 : Hid _ := hn1
          generalize peC ps[i] = Q at *
          obtain ⟨al, hale⟩ : ∃ al, ps[i].2.2.2.2.2 = al := ⟨_, rfl⟩
          rw [hale] at d84 hpa hsuc
          obtain ⟨R, hR⟩ : ∃ R, al.flatMap pfC = R := ⟨_, rfl⟩
          rw [hR] at d84
          replace hale : Hid _ := hale
          replace hR : Hid _ := hR
          repeat' (first | (with_reducible first | apply jA | apply jB | apply jC | apply jD | apply jE | apply jF | apply jG | apply jH | apply jI | apply jJ | apply jK | apply jL | apply jM | apply jN | apply jO) | ((with_reducible first | apply jP | apply jQ); rfl) | ((first | ((with_reducible first | apply jR | apply jS | apply jT); rfl; rfl) | (with_reducible first | apply jU | apply jV | apply jW) | ((with_reducible first | apply jX | apply jY | apply jZ); rfl) | ((with_reducible first | apply kA | apply kB | apply kC); rfl)); all_goals (first | ((with_reducible show Is _ _); exact kE_VE0) | ((with_reducible refine fun (hc : (_ : Bool) = _) => ?_); (try simp only [xZ, xY, xP, reduceCtorEq] at hc); (try (have hx : True := hc; clear hx hc)); (try exact kX)) | ((with_reducible show ACall _ _ _ _ _); (first | ((with_reducible apply hcf2) <;> exact kD_VE0))) | ((fail_if_success (with_reducible first | show Is _ _ | show ACall _ _ _ _ _)); (try ((with_reducible show _ ∨ _); exact kT))))))
          clear hcf2
          replace hG : GrowR pfC 18 1 c G (alls (ps.take i)) := hG
          replace hna : ∀ k hk, _ := hna
          replace hspl : ∀ k hk, _ := hspl
          replace haL : ∀ q ∈ ps[i].2.2.2.2.2, PfL q := haL
          replace hDL : ∀ q ∈ alls (ps.take i), PfL q := hDL
          replace hale : ps[i].2.2.2.2.2 = al := hale
          replace hR : al.flatMap pfC = R := hR
          replace hm16 : (alls ps).length ≤ 16 := hm16
          have hcsa := cells_all (f := pfC) (z := 18) (L := al) fun q hq => pfC_len (haL q (by rw [hale]; exact hq))
          rw [hR] at hcsa
          refine w_loop (fun fr B => ∃ (k : Nat) (G : List Box) (c : CV), k ≤ al.length ∧ (alls (ps.take i) ++ al.take k).Nodup ∧ fr 62 = .int .i64 k ∧ fr 61 = .int .i64 al.length ∧ fr 60 = .lst al.length R false ∧ fr 48 = .int .i64 i ∧ fr 47 = .int .i64 ps.length ∧ fr 46 = .lst ps.length Y false ∧ fr 6 = c ∧ fr 1 = .ptr 0 0 ∧ B = ⟨C, false⟩ :: G ∧ GrowR pfC 18 1 c G (alls (ps.take i) ++ al.take k)) (fun fr _ => al.length - natOf (fr 62)) ?_ ?_
          · exact ⟨0, _, c, by omega, by simpa using hn2, by (simp (disch := omega) [go_sem, *]) <;> (try omega), by (simp (disch := omega) [go_sem, *]) <;> (try omega), by (simp (disch := omega) [go_sem, *]) <;> (try omega), by (simp (disch := omega) [go_sem, *]) <;> (try omega), by (simp (disch := omega) [go_sem, *]) <;> (try omega), by (simp (disch := omega) [go_sem, *]) <;> (try omega), by (simp (disch := omega) [go_sem, *]) <;> (try omega), by (simp (disch := omega) [go_sem, *]) <;> (try omega), rfl, by rw [List.take_zero, List.append_nil]; exact hG.app _⟩
          clear hG f48 f47 f46 f6 f1 hn2 d84
          clear G c
          rintro fr B ⟨k, G, c, hk, hnd, f62, f61, f60, f48, f47, f46, f6, f1, rfl, hG⟩
          have hmk : natOf (fr 62) = k := by rw [f62]; rfl
          by_cases hck : k < al.length
          · obtain ⟨c1, c2⟩ := hcsa k hck
            have hxL := haL al[k] (by rw [hale]; exact List.getElem_mem hck)
            have hXl := pfC_len hxL
            have hM2 : alls (ps.take i) ++ al.take (k + 1) = (alls (ps.take i) ++ al.take k) ++ [al[k]] := by rw [List.take_succ_eq_append_getElem hck, List.append_assoc]
            have hML : ∀ q ∈ alls (ps.take i) ++ al.take k, PfL q := fun q hq => by
              rcases List.mem_append.1 hq with hq | hq
              · exact hDL q hq
              · exact haL q (by rw [hale]; exact List.mem_of_mem_take hq)
            have hMn : (alls (ps.take i) ++ al.take k).length ≤ 16 := by
              obtain ⟨Z, hZ⟩ := hspl k (by rw [hale]; exact hck)
              have := congrArg List.length hZ
              rw [List.length_append, List.length_cons, hale] at this
              omega
            have hnak : (alls (ps.take i) ++ al.take k).any (fun q => al[k] == q) = true → ¬ ((pubs ps).Nodup ∧ (alls ps).Nodup) := by
              subst hale
              exact hna k hck
            have hnx := @alls_next (alls (ps.take i) ++ al.take k) al[k] hnd
            rw [← hM2] at hnx
            generalize hMe : alls (ps.take i) ++ al.take k = M at *
            have hct : ∀ {B : List Box} {args : List CV}, Is (omap (Go.Sy.fz true false B 6) args) (some [.lst M.length (M.flatMap pfC) false, .agg (pfC al[k])]) → ACall Tryz.prog 40 args B fun c B' => c = .bool (M.any (fun q => al[k] == q)) ∧ B' = B := fun hz => acall_fresh hz (pfContains_in M al[k] hML hxL (by omega))
            have hfm : (M ++ [al[k]]).flatMap pfC = M.flatMap pfC ++ pfC al[k] := by simp
            have hfl := fl_len (f := pfC) (n := 18) (l := M) fun q hq => pfC_len (hML q hq)
            have ho : ∀ {nz fr : Bool} {B : List Box} {k2 : Nat}, omap (Go.Sy.fz nz fr B (k2 + 1)) (pfC al[k]) = some (pfC al[k]) := pf_om1 _
            have ho2 : ∀ {nz fr : Bool} {B : List Box} {k2 : Nat}, omap (Go.Sy.fz nz fr B (k2 + 1)) (M.flatMap pfC) = some (M.flatMap pfC) := pf_om M
            generalize M.any (fun q => al[k] == q) = dup at *
            clear hML hxL hna hspl haL hDL hcsa
            replace hM2 : Hid _ := hM2
            replace hnd : Hid _ := hnd
            replace hMe : Hid _ := hMe
            cases dup with
            | true =>
              rw [if_neg (hnak rfl)]
              clear hnak hnx
              obtain ⟨X, hX⟩ : ∃ X, pfC al[k] = X := ⟨_, rfl⟩
              rw [hX] at c2 hXl hct ho
              clear hX hfm
              obtain ⟨rfl, rfl⟩ | ⟨b, mm, hne, rfl, hb⟩ := hG
              · repeat' (first | (with_reducible first | apply jA | apply jB | apply jC | apply jD | apply jE | apply jF | apply jG | apply jH | apply jI | apply jJ | apply jK | apply jL | apply jM | apply jN | apply jO) | ((with_reducible first | apply jP | apply jQ); rfl) | ((first | ((with_reducible first | apply jR | apply jS | apply jT); rfl; rfl) | (with_reducible first | apply jU | apply jV | apply jW) | ((with_reducible first | apply jX | apply jY | apply jZ); rfl) | ((with_reducible first | apply kA | apply kB | apply kC); rfl)); all_goals (first | ((with_reducible show Is _ _); exact kE_VE0) | ((with_reducible refine fun (hc : (_ : Bool) = _) => ?_); (try simp only [xZ, xY, xP, reduceCtorEq] at hc); (try (have hx : True := hc; clear hx hc)); (try exact kX)) | ((with_reducible show ACall _ _ _ _ _); (first | ((with_reducible apply hct) <;> exact kD_VE0))) | ((fail_if_success (with_reducible first | show Is _ _ | show ACall _ _ _ _ _)); (try ((with_reducible show _ ∨ _); exact kT))))))
                rfl
              · have htk : (M.flatMap pfC).take (M.length * 18) = M.flatMap pfC := List.take_of_length_le (by omega)
                have xb := bx_pack hb
                generalize M.flatMap pfC = MF at *
                repeat' (first | (with_reducible first | apply jA | apply jB | apply jC | apply jD | apply jE | apply jF | apply jG | apply jH | apply jI | apply jJ | apply jK | apply jL | apply jM | apply jN | apply jO) | ((with_reducible first | apply jP | apply jQ); rfl) | ((first | ((with_reducible first | apply jR | apply jS | apply jT); rfl; rfl) | (with_reducible first | apply jU | apply jV | apply jW) | ((with_reducible first | apply jX | apply jY | apply jZ); rfl) | ((with_reducible first | apply kA | apply kB | apply kC); rfl)); all_goals (first | ((with_reducible show Is _ _); exact kE_VE0) | ((with_reducible refine fun (hc : (_ : Bool) = _) => ?_); (try simp only [xZ, xY, xP, reduceCtorEq] at hc); (try (have hx : True := hc; clear hx hc)); (try exact kX)) | ((with_reducible show ACall _ _ _ _ _); (first | ((with_reducible apply hct) <;> exact kD_VE0))) | ((fail_if_success (with_reducible first | show Is _ _ | show ACall _ _ _ _ _)); (try ((with_reducible show _ ∨ _); exact kT))))))
                rfl
            | false =>
              clear hnak
              replace hnx := hnx rfl
              replace hnx : Hid _ := hnx
              obtain ⟨X, hX⟩ : ∃ X, pfC al[k] = X := ⟨_, rfl⟩
              rw [hX] at c2 hXl hct ho hfm
              have hXt : X.take 18 = X := List.take_of_length_le (by omega)
              replace hX : Hid _ := hX
              obtain ⟨rfl, rfl⟩ | ⟨b, mm, hne, rfl, hb⟩ := hG
              · replace hfm : Hid _ := hfm
                repeat' (first | (with_reducible first | apply jA | apply jB | apply jC | apply jD | apply jE | apply jF | apply jG | apply jH | apply jI | apply jJ | apply jK | apply jL | apply jM | apply jN | apply jO) | ((with_reducible first | apply jP | apply jQ); rfl) | ((first | ((with_reducible first | apply jR | apply jS | apply jT); rfl; rfl) | (with_reducible first | apply jU | apply jV | apply jW) | ((with_reducible first | apply jX | apply jY | apply jZ); rfl) | ((with_reducible first | apply kA | apply kB | apply kC); rfl)); all_goals (first | ((with_reducible show Is _ _); exact kE_VE0) | ((with_reducible refine fun (hc : (_ : Bool) = _) => ?_); (try simp only [xZ, xY, xP, reduceCtorEq] at hc); (try (have hx : True := hc; clear hx hc)); (try exact kX)) | ((with_reducible show ACall _ _ _ _ _); (first | ((with_reducible apply hct) <;> exact kD_VE0))) | ((fail_if_success (with_reducible first | show Is _ _ | show ACall _ _ _ _ _)); (try ((with_reducible show _ ∨ _); exact kT))))))
                refine ⟨⟨k + 1, _, .view (G.length + 1 + 1) 0 1 18 false, by omega, hnx, by (simp (disch := omega) [go_sem, *]) <;> (try omega), by (simp (disch := omega) [go_sem, *]) <;> (try omega), by (simp (disch := omega) [go_sem, *]) <;> (try omega), by (simp (disch := omega) [go_sem, *]) <;> (try omega), by (simp (disch := omega) [go_sem, *]) <;> (try omega), by (simp (disch := omega) [go_sem, *]) <;> (try omega), by (simp (disch := omega) [go_sem, *]) <;> (try omega), by (simp (disch := omega) [go_sem, *]) <;> (try omega), rfl, ?_⟩, by (simp (disch := omega) [go_sem, *]) <;> (try omega)⟩
                have hM2 : alls (ps.take i) ++ al.take (k + 1) = [] ++ [al[k]] := hM2
                have hX : pfC al[k] = X := hX
                rw [hM2]
                refine .inr ⟨G.length + 1, false, by simp, rfl, ?_⟩
                rw [List.nil_append, List.flatMap_singleton, hX]
                simp [bx_get0, bx_get]
              · have htk : (M.flatMap pfC).take (M.length * 18) = M.flatMap pfC := List.take_of_length_le (by omega)
                have xb := bx_pack hb
                replace hfm : Hid _ := hfm
                obtain ⟨MF, hMF⟩ : ∃ MF, M.flatMap pfC = MF := ⟨_, rfl⟩
                rw [hMF] at hct hfl ho2 htk xb hb
                replace hMF : Hid _ := hMF
                repeat' (first | (with_reducible first | apply jA | apply jB | apply jC | apply jD | apply jE | apply jF | apply jG | apply jH | apply jI | apply jJ | apply jK | apply jL | apply jM | apply jN | apply jO) | ((with_reducible first | apply jP | apply jQ); rfl) | ((first | ((with_reducible first | apply jR | apply jS | apply jT); rfl; rfl) | (with_reducible first | apply jU | apply jV | apply jW) | ((with_reducible first | apply jX | apply jY | apply jZ); rfl) | ((with_reducible first | apply kA | apply kB | apply kC); rfl)); all_goals (first | ((with_reducible show Is _ _); exact kE_VE0) | ((with_reducible refine fun (hc : (_ : Bool) = _) => ?_); (try simp only [xZ, xY, xP, reduceCtorEq] at hc); (try (have hx : True := hc; clear hx hc)); (try exact kX)) | ((with_reducible show ACall _ _ _ _ _); (first | ((with_reducible apply hct) <;> exact kD_VE0))) | ((fail_if_success (with_reducible first | show Is _ _ | show ACall _ _ _ _ _)); (try ((with_reducible show _ ∨ _); exact kT))))))
                refine ⟨⟨k + 1, _, .view (b + 1) 0 (M.length + 1) 18 false, by omega, hnx, by (simp (disch := omega) [go_sem, *]) <;> (try omega), by (simp (disch := omega) [go_sem, *]) <;> (try omega), by (simp (disch := omega) [go_sem, *]) <;> (try omega), by (simp (disch := omega) [go_sem, *]) <;> (try omega), by (simp (disch := omega) [go_sem, *]) <;> (try omega), by (simp (disch := omega) [go_sem, *]) <;> (try omega), by (simp (disch := omega) [go_sem, *]) <;> (try omega), by (simp (disch := omega) [go_sem, *]) <;> (try omega), rfl, ?_⟩, by (simp (disch := omega) [go_sem, *]) <;> (try omega)⟩
                have hM2 : alls (ps.take i) ++ al.take (k + 1) = M ++ [al[k]] := hM2
                have hfm : (M ++ [al[k]]).flatMap pfC = MF ++ X := (show (M ++ [al[k]]).flatMap pfC = M.flatMap pfC ++ X from hfm).trans (by rw [show M.flatMap pfC = MF from hMF])
                rw [hM2]
                refine .inr ⟨b, true, by simp, by simp, ?_⟩
                rw [hfm]
                exact xb.2.2.2.1 _ _
          · obtain rfl : k = al.length := by omega
            rw [List.take_length, ← hsuc] at hnd hG
            clear hcsa
            replace hG : Hid _ := hG
            replace hnd : Hid _ := hnd
            repeat' (first | (with_reducible first | apply jA | apply jB | apply jC | apply jD | apply jE | apply jF | apply jG | apply jH | apply jI | apply jJ | apply jK | apply jL | apply jM | apply jN | apply jO) | ((with_reducible first | apply jP | apply jQ); rfl) | ((first | ((with_reducible first | apply jR | apply jS | apply jT); rfl; rfl) | (with_reducible first | apply jU | apply jV | apply jW) | ((with_reducible first | apply jX | apply jY | apply jZ); rfl)); all_goals (first | ((with_reducible show Is _ _); exact kE) | ((with_reducible refine fun (hc : (_ : Bool) = _) => ?_); (try simp only [xZ, xY, xP, reduceCtorEq] at hc); (try (have hx : True := hc; clear hx hc)); (try exact kX)) | ((fail_if_success (with_reducible first | show Is _ _ | show ACall _ _ _ _ _)); (try ((with_reducible show _ ∨ _); exact kT))))))
            exact ⟨⟨i + 1, G, c, by omega, hnp, hnd, by (simp (disch := omega) [go_sem, *]) <;> (try omega), by (simp (disch := omega) [go_sem, *]) <;> (try omega), by (simp (disch := omega) [go_sem, *]) <;> (try omega), by (simp (disch := omega) [go_sem, *]) <;> (try omega), by (simp (disch := omega) [go_sem, *]) <;> (try omega), rfl, hG⟩, by (simp (disch := omega) [go_sem, *]) <;> (try omega)⟩
      · obtain rfl : i = ps.length := by omega
        rw [List.take_length] at hn1 hn2
        rw [if_pos ⟨hn1, hn2⟩]
        repeat' (first | (with_reducible first | apply jA | apply jB | apply jC | apply jD | apply jE | apply jF | apply jG | apply jH | apply jI | apply jJ | apply jK | apply jL | apply jM | apply jN | apply jO) | ((with_reducible first | apply jP | apply jQ); rfl) | ((first | ((with_reducible first | apply jR | apply jS | apply jT); rfl; rfl) | (with_reducible first | apply jU | apply jV | apply jW) | ((with_reducible first | apply jX | apply jY | apply jZ); rfl)); all_goals (first | ((with_reducible show Is _ _); exact kE) | ((with_reducible refine fun (hc : (_ : Bool) = _) => ?_); (try simp only [xZ, xY, xP, reduceCtorEq] at hc); (try (have hx : True := hc; clear hx hc)); (try exact kX)) | ((fail_if_success (with_reducible first | show Is _ _ | show ACall _ _ _ _ _)); (try ((with_reducible show _ ∨ _); exact kT))))))
        rfl
end Go.Proofs.YtdceppjoipoohaaGreatDoor
end
section
namespace Go.Proofs.YtdceppjoipoohaaGreatDoor
open Go Go.Sy
set_option linter.all false
set_option maxRecDepth 100000
set_option maxHeartbeats 4000000
def peZ : List CV := List.replicate 64 (.int .u8 0) ++ (.bool false :: (pfC pfO ++ [.int .i64 0, .nilS]))
theorem pe_zo : zerosOf Tryz.prog 64 = some peZ := by kernel_rfl
def peH (p : List UInt8 × List UInt8 × Bool × ((Bool × List UInt8) × Int) × Int × List ((Bool × List UInt8) × Int)) : List CV := p.1.map byteC ++ (p.2.1.map byteC ++ ([.bool p.2.2.1] ++ (pfC p.2.2.2.1 ++ [.int .i64 p.2.2.2.2.1])))
theorem peC_eq (p : Pe) : peC p = peH p ++ [.lst p.2.2.2.2.2.length (p.2.2.2.2.2.flatMap pfC) false] := by simp [peC, peH]
theorem peH_len {p : Pe} (h : PeL p) : (peH p).length = 84 := by
  have := peC_len h
  rw [peC_eq, List.length_append] at this
  simpa using this
end Go.Proofs.YtdceppjoipoohaaGreatDoor
end
section
namespace Go.Sy
end Go.Sy
namespace Go.Proofs.YtdceppjoipoohaaGreatDoor
open Go Go.Sy
set_option linter.all false
set_option maxRecDepth 100000
set_option maxHeartbeats 4000000
theorem cf_om {nz : Bool} {B : List Box} {k : Nat} (c : Cf) : omap (Go.Sy.fz nz false B (k + 3)) (cfC c) = some (cfC c) := by simp [cfC, go_sem]
end Go.Proofs.YtdceppjoipoohaaGreatDoor
end
section
namespace Go.Proofs.YtdceppjoipoohaaGreatDoor
open Go Go.Sy
set_option linter.all false
set_option maxRecDepth 100000
set_option maxHeartbeats 4000000
def peO : List UInt8 × List UInt8 × Bool × ((Bool × List UInt8) × Int) × Int × List ((Bool × List UInt8) × Int) := (List.replicate 32 0, List.replicate 32 0, false, pfO, 0, [])
end Go.Proofs.YtdceppjoipoohaaGreatDoor
end
section
namespace Go.Proofs.YtdceppjoipoohaaGreatDoor
open Go Go.Sy
set_option linter.all false
set_option maxRecDepth 100000
set_option maxHeartbeats 4000000
def sPub : List UInt8 := [80, 117, 98, 108, 105, 99, 75, 101, 121]
def sShared : List UInt8 := [80, 114, 101, 115, 104, 97, 114, 101, 100, 75, 101, 121]
def sEnd : List UInt8 := [69, 110, 100, 112, 111, 105, 110, 116]
def sKeep : List UInt8 := [80, 101, 114, 115, 105, 115, 116, 101, 110, 116, 75, 101, 101, 112, 97, 108, 105, 118, 101]
def sAllow : List UInt8 := [65, 108, 108, 111, 119, 101, 100, 73, 80, 115]
def Named (l nm T : List UInt8) : Prop := ∃ c u x v, trimT l = c :: u ∧ c.toNat ≠ 35 ∧ (c :: u == sIface) = false ∧ (c :: u == sPeer) = false ∧ Go.Lib.cut (c :: u) [61] = (x, v, true) ∧ trimT x = nm ∧ trimT v = T
def qP (x : Bool × List UInt8 × Nat) : Pf := ((x.1, x.2.1), (x.2.2 : Int))
inductive ValP : Pe → List UInt8 → List UInt8 → Pe → Prop
  | pub {p : Pe} {T K : List UInt8} (h : unkey T = some K) (hl : K.length = 32) : ValP p sPub T (K, p.2)
  | shared {p : Pe} {T K : List UInt8} (h : unkey T = some K) (hl : K.length = 32) : ValP p sShared T (p.1, K, p.2.2)
  | endp {p : Pe} {T : List UInt8} {x : Bool × List UInt8 × Nat} (h : parseE T = some x) (hx : PfL (qP x)) : ValP p sEnd T (p.1, p.2.1, true, qP x, p.2.2.2.2)
  | keep {p : Pe} {T : List UInt8} (h : decOk 10 T = true) (hv : decV T ≤ 9999999999) : ValP p sKeep T (p.1, p.2.1, p.2.2.1, p.2.2.2.1, (decV T : Int), p.2.2.2.2.2)
  | allow {p : Pe} {T : List UInt8} {L : List (Bool × List UInt8 × Nat)} (h0 : p.2.2.2.2.2 = []) (h : (splitL 44 T).map (fun t => parseP (trimT t)) = L.map some) (hx : ∀ x ∈ L, PfL (qP x)) : ValP p sAllow T (p.1, p.2.1, p.2.2.1, p.2.2.2.1, p.2.2.2.2.1, L.map qP)
structure Ps where
  K : List UInt8
  port : Int
  ps : List Pe
  nm : List (List UInt8)
  st : Bool
def closes (ps : List Pe) (nm : List (List UInt8)) : Prop := nm.length ≤ 9 ∧ ((ps = [] ∧ sPriv ∈ nm ∧ sPort ∈ nm) ∨ (ps ≠ [] ∧ sPub ∈ nm))
inductive LStep : Ps → List UInt8 → Ps → Prop
  | skip {S : Ps} {l : List UInt8} (h : trimT l = [] ∨ ∃ r, trimT l = 35 :: r) : LStep S l S
  | iface {K : List UInt8} {port : Int} {ps : List Pe} {nm : List (List UInt8)} {l : List UInt8} (h : trimT l = sIface) : LStep ⟨K, port, ps, nm, false⟩ l ⟨K, port, ps, nm, true⟩
  | peer {K : List UInt8} {port : Int} {ps : List Pe} {nm : List (List UInt8)} {l : List UInt8} (h : trimT l = sPeer) (hc : closes ps nm) (hp : ps.length ≤ 9) : LStep ⟨K, port, ps, nm, true⟩ l ⟨K, port, ps ++ [peO], [], true⟩
  | priv {K : List UInt8} {port : Int} {nm : List (List UInt8)} {l T K' : List UInt8} (h : Named l sPriv T) (hn : sPriv ∉ nm) (hm : nm.length ≤ 9) (hk : unkey T = some K') (hl : K'.length = 32) : LStep ⟨K, port, [], nm, true⟩ l ⟨K', port, [], nm ++ [sPriv], true⟩
  | port {K : List UInt8} {port : Int} {nm : List (List UInt8)} {l T : List UInt8} (h : Named l sPort T) (hn : sPort ∉ nm) (hm : nm.length ≤ 9) (hd : decOk 10 T = true) (hv : decV T ≤ 9999999999) : LStep ⟨K, port, [], nm, true⟩ l ⟨K, (decV T : Int), [], nm ++ [sPort], true⟩
  | val {K : List UInt8} {port : Int} {ps : List Pe} {p p' : Pe} {nm : List (List UInt8)} {l x T : List UInt8} (h : Named l x T) (hn : x ∉ nm) (hm : nm.length ≤ 9) (hv : ValP p x T p') (hp : ps.length ≤ 9) : LStep ⟨K, port, ps ++ [p], nm, true⟩ l ⟨K, port, ps ++ [p'], nm ++ [x], true⟩
def Steps : Ps → List (List UInt8) → Ps → Prop
  | S, [], S' => S = S'
  | S, l :: L, S' => ∃ S1, LStep S l S1 ∧ Steps S1 L S'
theorem Steps.split : ∀ {L L' : List (List UInt8)} {S S2 : Ps}, Steps S (L ++ L') S2 → ∃ S1, Steps S L S1 ∧ Steps S1 L' S2
  | [], _, S, _, h => ⟨S, rfl, h⟩
  | _ :: _, _, _, _, ⟨Sm, h, hr⟩ => by
    obtain ⟨S1, h1, h2⟩ := hr.split
    exact ⟨S1, ⟨Sm, h, h1⟩, h2⟩
theorem named_nil {x T : List UInt8} : ¬ Named [] x T := fun ⟨_, _, _, _, h, _⟩ => by cases h
theorem step_nil {S S1 : Ps} (h : LStep S [] S1) : S = S1 := by
  cases h with
  | skip => rfl
  | iface h => cases h
  | peer h => cases h
  | priv h => exact absurd h named_nil
  | port h => exact absurd h named_nil
  | val h => exact absurd h named_nil
theorem splitL_nl : ∀ t : List UInt8, splitL 10 (t ++ [10]) = splitL 10 t ++ [[]]
  | [] => by decide
  | c :: t => by
    have ih := splitL_nl t
    rw [List.cons_append, splitL, splitL, ih]
    cases h : splitL 10 t with
    | nil => exact absurd h (splitL_ne 10 t)
    | cons x r => split <;> simp
theorem suffix_nl (s : List UInt8) : Go.Lib.trimSuffix s [10] = s ∨ s = Go.Lib.trimSuffix s [10] ++ [10] := by
  rw [Go.Lib.trimSuffix, Go.Lib.hasSuffix, suf_one]
  cases h : s.getLast? with
  | none => left; simp
  | some c =>
    by_cases hc : c = 10
    · subst hc
      right
      obtain ⟨t, rfl⟩ : ∃ t, s = t ++ [10] := ⟨s.dropLast, by rw [List.getLast?_eq_some_iff] at h; obtain ⟨ys, rfl⟩ := h; simp⟩
      simp
    · left
      rw [if_neg (by simpa using hc)]
theorem steps_suffix {S S' : Ps} {s : List UInt8} (h : Steps S (splitL 10 s) S') : Steps S (splitL 10 (Go.Lib.trimSuffix s [10])) S' := by
  rcases suffix_nl s with e | e
  · rw [e]; exact h
  · rw [e, splitL_nl] at h
    obtain ⟨S1, h1, S2, h2, h3⟩ := h.split
    cases step_nil h2
    cases h3
    exact h1
def AllB (l : List UInt8) : Prop := ∀ c ∈ l, blank c = true
theorem allB_nil : AllB [] := fun _ h => by cases h
theorem trimL_app {m : List UInt8} : ∀ {pre : List UInt8}, AllB pre → trimLs (pre ++ m) = trimLs m
  | [], _ => rfl
  | c :: pre, h => by rw [List.cons_append, trimL_cons, if_pos (h c (by simp)), trimL_app fun d hd => h d (by simp [hd])]
theorem trimR_app {m post : List UInt8} (h : AllB post) : trimR (m ++ post) = trimR m := by
  have key : ∀ (q : List UInt8), AllB q → trimR (m ++ q.reverse) = trimR m := fun q => by
    induction q with
    | nil => intro _; rw [List.reverse_nil, List.append_nil]
    | cons c q ih => intro h; rw [List.reverse_cons, ← List.append_assoc, trimR_snoc, if_pos (h c (by simp)), ih fun d hd => h d (by simp [hd])]
  have := key post.reverse fun c hc => h c (List.mem_reverse.1 hc)
  rwa [List.reverse_reverse] at this
def Edge (m : List UInt8) : Prop := (∃ c u, m = c :: u ∧ blank c = false) ∧ ∃ u d, m = u ++ [d] ∧ blank d = false
theorem trim_core {pre m post : List UInt8} (h1 : AllB pre) (h2 : AllB post) (h : Edge m) : trimT (pre ++ (m ++ post)) = m := by
  obtain ⟨⟨c, u, rfl, hc⟩, v, d, he, hd⟩ := h
  rw [trimT, ← List.append_assoc, trimR_app h2, he, ← List.append_assoc, trimR_snoc, hd, if_neg (by simp), List.append_assoc, ← he, trimL_app h1, trimL_cons, hc, if_neg (by simp)]
theorem trim_blank {pre : List UInt8} (h : AllB pre) : trimT pre = [] := by
  have h1 := trimR_app (m := []) h
  rw [List.nil_append] at h1
  rw [trimT, h1]; rfl
theorem blank_ne {c : UInt8} (h : blank c = true) : c ≠ 10 ∧ c ≠ 61 := by
  constructor <;> (rintro rfl; revert h; decide)
theorem named_of {n v p1 p2 pre post : List UInt8} {c : UInt8} {u : List UInt8} (hn : n = c :: u) (hc : c.toNat ≠ 35) (h61 : (61 : UInt8) ∉ n) (en : Edge n) (ev : Edge v) (b1 : AllB p1) (b2 : AllB p2) (h1 : AllB pre) (h2 : AllB post) :
    Named (pre ++ ((n ++ 32 :: (p1 ++ 61 :: (p2 ++ 32 :: v))) ++ post)) n v := by
  have e : Edge (n ++ 32 :: (p1 ++ 61 :: (p2 ++ 32 :: v))) := by
    obtain ⟨⟨c, u, rfl, hc⟩, _⟩ := en
    obtain ⟨_, w, d, rfl, hd⟩ := ev
    exact ⟨⟨c, _, rfl, hc⟩, c :: (u ++ 32 :: (p1 ++ 61 :: (p2 ++ 32 :: w))), d, by simp, hd⟩
  have ht := trim_core h1 h2 e
  have hm : (61 : UInt8) ∈ n ++ 32 :: (p1 ++ 61 :: (p2 ++ 32 :: v)) := by simp
  have hne : ∀ l : List UInt8, (61 : UInt8) ∉ l → (n ++ 32 :: (p1 ++ 61 :: (p2 ++ 32 :: v)) == l) = false := fun l hl => by
    rw [beq_eq_false_iff_ne]; rintro rfl; exact hl hm
  have h61' : (61 : UInt8) ∉ n ++ 32 :: p1 := fun h => by
    rcases List.mem_append.1 h with h | h
    · exact h61 h
    · rcases List.mem_cons.1 h with h | h
      · exact absurd h (by decide)
      · exact (blank_ne (b1 _ h)).2 rfl
  have hcut : Go.Lib.cut (n ++ 32 :: (p1 ++ 61 :: (p2 ++ 32 :: v))) [61] = (n ++ 32 :: p1, p2 ++ 32 :: v, true) := by
    have := cut_app 61 (n ++ 32 :: p1) (p2 ++ 32 :: v) h61'
    rwa [List.append_assoc, List.cons_append] at this
  have t1 : trimT (n ++ 32 :: p1) = n := trim_core (pre := []) allB_nil (post := 32 :: p1) (fun d hd => by
    rcases List.mem_cons.1 hd with rfl | hd
    · decide
    · exact b1 d hd) en
  have t2 : trimT (p2 ++ 32 :: v) = v := by
    have := trim_core (pre := p2 ++ [32]) (m := v) (post := []) (fun d hd => by
      rcases List.mem_append.1 hd with hd | hd
      · exact b2 d hd
      · rw [List.mem_singleton] at hd; subst hd; decide) allB_nil ev
    rwa [List.append_nil, List.append_assoc] at this
  have g1 := hne sIface (by decide)
  have g2 := hne sPeer (by decide)
  subst hn
  exact ⟨c, _, _, _, ht, hc, g1, g2, hcut, t1, t2⟩
def note : List UInt8 := [10, 35, 32, 110, 111, 116, 101, 10, 10]
def mark (c : UInt8) (r : List UInt8) : Bool := (c == 61 && r.head? == some 32) || c == 10
def pc (c : UInt8) (o : Option UInt8) : List UInt8 := match o with
  | none => [c]
  | some k => if c = 10 ∧ k.toNat % 7 = 0 then note else if k.toNat % 4 = 0 then [c] else if k.toNat % 4 = 1 then [32, c] else if k.toNat % 4 = 2 then [9, c] else [c, 32]
def varT : List UInt8 → List UInt8 → List UInt8
  | _, [] => []
  | sp, c :: r => if mark c r then pc c sp.head? ++ varT sp.tail r else c :: varT sp r
theorem varT_id : ∀ s : List UInt8, varT [] s = s
  | [] => rfl
  | c :: r => by
    have ih := varT_id r
    rw [varT]
    split
    · exact congrArg (c :: ·) ih
    · rw [ih]
theorem varT_skip {r : List UInt8} : ∀ {x sp : List UInt8}, (61 : UInt8) ∉ x → (10 : UInt8) ∉ x → varT sp (x ++ r) = x ++ varT sp r
  | [], _, _, _ => rfl
  | c :: x, sp, h1, h2 => by
    have hm : mark c (x ++ r) = false := by
      have a : c ≠ 61 := fun e => h1 (by simp [e])
      have b : c ≠ 10 := fun e => h2 (by simp [e])
      simp [mark, a, b]
    rw [List.cons_append, varT, if_neg (by rw [hm]; simp), varT_skip (fun e => h1 (by simp [e])) (fun e => h2 (by simp [e]))]; rfl
theorem pc61 (o : Option UInt8) : ∃ p1 p2, AllB p1 ∧ AllB p2 ∧ pc 61 o = p1 ++ 61 :: p2 := by
  have b1 : AllB [32] := fun c hc => by rw [List.mem_singleton] at hc; subst hc; decide
  have b2 : AllB [9] := fun c hc => by rw [List.mem_singleton] at hc; subst hc; decide
  cases o with
  | none => exact ⟨[], [], allB_nil, allB_nil, rfl⟩
  | some k =>
    rw [pc, if_neg (by rintro ⟨h, _⟩; exact absurd h (by decide))]
    split
    · exact ⟨[], [], allB_nil, allB_nil, rfl⟩
    · split
      · exact ⟨[32], [], b1, allB_nil, rfl⟩
      · split
        · exact ⟨[9], [], b2, allB_nil, rfl⟩
        · exact ⟨[], [32], allB_nil, b1, rfl⟩
theorem pc10 (o : Option UInt8) : (∃ post pre, AllB post ∧ AllB pre ∧ pc 10 o = post ++ 10 :: pre) ∨ pc 10 o = note := by
  have b1 : AllB [32] := fun c hc => by rw [List.mem_singleton] at hc; subst hc; decide
  have b2 : AllB [9] := fun c hc => by rw [List.mem_singleton] at hc; subst hc; decide
  cases o with
  | none => exact .inl ⟨[], [], allB_nil, allB_nil, rfl⟩
  | some k =>
    rw [pc]
    split
    · exact .inr rfl
    · split
      · exact .inl ⟨[], [], allB_nil, allB_nil, rfl⟩
      · split
        · exact .inl ⟨[32], [], b1, allB_nil, rfl⟩
        · split
          · exact .inl ⟨[9], [], b2, allB_nil, rfl⟩
          · exact .inl ⟨[], [32], allB_nil, b1, rfl⟩
def lnS (x : List UInt8 × Option (List UInt8)) : List UInt8 := match x.2 with | none => x.1 | some v => x.1 ++ 32 :: 61 :: 32 :: v
def GoodL (x : List UInt8 × Option (List UInt8)) : Prop := (61 : UInt8) ∉ x.1 ∧ (10 : UInt8) ∉ x.1 ∧ match x.2 with | none => True | some v => ∃ w, (v = w ∨ v = w ++ [61]) ∧ (61 : UInt8) ∉ w ∧ (10 : UInt8) ∉ w
def Vr (x : List UInt8 × Option (List UInt8)) (l : List UInt8) : Prop := match x.2 with | none => l = x.1 | some v => ∃ p1 p2, AllB p1 ∧ AllB p2 ∧ l = x.1 ++ 32 :: (p1 ++ 61 :: (p2 ++ 32 :: v))
theorem allB_10 {l : List UInt8} (h : AllB l) : (10 : UInt8) ∉ l := fun h10 => (blank_ne (h _ h10)).1 rfl
theorem var_line {x : List UInt8 × Option (List UInt8)} (h : GoodL x) (sp r : List UInt8) : ∃ l sp' : List UInt8, varT sp (lnS x ++ 10 :: r) = l ++ (pc 10 sp'.head? ++ varT sp'.tail r) ∧ Vr x l ∧ (10 : UInt8) ∉ l := by
  obtain ⟨n, o⟩ := x
  obtain ⟨h1, h2, h3⟩ := h
  have hnl : ∀ sp, varT sp (10 :: r) = pc 10 sp.head? ++ varT sp.tail r := fun sp => by rw [varT, if_pos (by simp [mark])]
  cases o with
  | none => exact ⟨n, sp, by rw [lnS]; dsimp only; rw [varT_skip h1 h2, hnl], rfl, h2⟩
  | some v =>
    obtain ⟨w, hw, w1, w2⟩ := h3
    obtain ⟨p1, p2, b1, b2, hp⟩ := pc61 sp.head?
    have e1 : varT sp (lnS (n, some v) ++ 10 :: r) = n ++ 32 :: (p1 ++ 61 :: (p2 ++ 32 :: varT sp.tail (v ++ 10 :: r))) := by
      have : lnS (n, some v) ++ 10 :: r = n ++ ([32] ++ (61 :: ([32] ++ (v ++ 10 :: r)))) := by simp [lnS]
      rw [this, varT_skip h1 h2, varT_skip (by decide) (by decide), varT, if_pos (by simp [mark]), hp, varT_skip (by decide) (by decide)]
      simp
    have e2 : ∀ sp, varT sp (v ++ 10 :: r) = v ++ (pc 10 sp.head? ++ varT sp.tail r) := fun sp => by
      rcases hw with rfl | rfl
      · rw [varT_skip w1 w2, hnl]
      · rw [List.append_assoc, varT_skip w1 w2, List.singleton_append, varT, if_neg (by simp [mark]), hnl]; simp
    refine ⟨n ++ 32 :: (p1 ++ 61 :: (p2 ++ 32 :: v)), sp.tail, by rw [e1, e2]; simp, ⟨p1, p2, b1, b2, rfl⟩, fun hm => ?_⟩
    have hv : (10 : UInt8) ∉ v := fun hm => by
      rcases hw with rfl | rfl
      · exact w2 hm
      · rcases List.mem_append.1 hm with hm | hm
        · exact w2 hm
        · exact absurd hm (by decide)
    simp only [List.mem_append, List.mem_cons] at hm
    rcases hm with h | h | h | h | h | h | h
    · exact h2 h
    · exact absurd h (by decide)
    · exact allB_10 b1 h
    · exact absurd h (by decide)
    · exact allB_10 b2 h
    · exact absurd h (by decide)
    · exact hv h
def StepV (S : Ps) (x : List UInt8 × Option (List UInt8)) (S1 : Ps) : Prop := GoodL x ∧ ∀ l pre post, Vr x l → AllB pre → AllB post → LStep S (pre ++ (l ++ post)) S1
def StepsV : Ps → List (List UInt8 × Option (List UInt8)) → Ps → Prop
  | S, [], S' => S = S'
  | S, x :: L, S' => ∃ S1, StepV S x S1 ∧ StepsV S1 L S'
theorem StepsV.app : ∀ {L L' : List (List UInt8 × Option (List UInt8))} {S S1 S2 : Ps}, StepsV S L S1 → StepsV S1 L' S2 → StepsV S (L ++ L') S2
  | [], _, _, _, _, h, h2 => by cases h; exact h2
  | _ :: _, _, _, _, _, ⟨Sm, h, hr⟩, h2 => ⟨Sm, h, hr.app h2⟩
def lnsT (L : List (List UInt8 × Option (List UInt8))) : List UInt8 := L.flatMap fun x => lnS x ++ [10]
theorem run_var : ∀ {L : List (List UInt8 × Option (List UInt8))} {S S' : Ps}, StepsV S L S' → ∀ (sp pre : List UInt8), AllB pre → Steps S (splitL 10 (pre ++ varT sp (lnsT L))) S'
  | [], S, _, h, sp, pre, hp => by
    cases h
    have e : pre ++ varT sp (lnsT []) = pre := by rw [lnsT, List.flatMap_nil, varT, List.append_nil]
    rw [e, splitL_has 10 pre (allB_10 hp)]
    exact ⟨S, .skip (.inl (trim_blank hp)), rfl⟩
  | x :: L, S, S', ⟨S1, ⟨hg, hx⟩, hr⟩, sp, pre, hp => by
    have ih := run_var hr
    have e : lnsT (x :: L) = lnS x ++ 10 :: lnsT L := by simp [lnsT]
    obtain ⟨l, sp', e2, hv, h10⟩ := var_line hg sp (lnsT L)
    rw [e, e2]
    rcases pc10 sp'.head? with ⟨post, pre2, b1, b2, e3⟩ | e3
    · have h1 : (10 : UInt8) ∉ pre ++ (l ++ post) := fun h => by
        rcases List.mem_append.1 h with h | h
        · exact allB_10 hp h
        · rcases List.mem_append.1 h with h | h
          · exact h10 h
          · exact allB_10 b1 h
      have e4 : pre ++ (l ++ (pc 10 sp'.head? ++ varT sp'.tail (lnsT L))) = (pre ++ (l ++ post)) ++ 10 :: (pre2 ++ varT sp'.tail (lnsT L)) := by rw [e3]; simp
      rw [e4, splitL_app 10 _ _ h1]
      exact ⟨S1, hx l pre post hv hp b1, ih _ _ b2⟩
    · have h1 : (10 : UInt8) ∉ pre ++ l := fun h => by
        rcases List.mem_append.1 h with h | h
        · exact allB_10 hp h
        · exact h10 h
      have e4 : pre ++ (l ++ (pc 10 sp'.head? ++ varT sp'.tail (lnsT L))) = (pre ++ l) ++ 10 :: ([35, 32, 110, 111, 116, 101] ++ 10 :: ([] ++ 10 :: ([] ++ varT sp'.tail (lnsT L)))) := by rw [e3]; simp [note]
      rw [e4, splitL_app 10 _ _ h1, splitL_app 10 _ _ (by decide), splitL_app 10 _ _ (by decide)]
      have := hx l pre [] hv hp allB_nil
      rw [List.append_nil] at this
      exact ⟨S1, this, S1, .skip (.inr ⟨_, rfl⟩), S1, .skip (.inl rfl), ih _ _ allB_nil⟩
end Go.Proofs.YtdceppjoipoohaaGreatDoor
end
section
namespace Go.Proofs.YtdceppjoipoohaaGreatDoor
open Go Go.Sy
set_option linter.all false
set_option maxRecDepth 100000
set_option maxHeartbeats 4000000
def adC (a : Bool × List UInt8) : List CV := .bool a.1 :: a.2.map byteC
theorem adC_len {a : Bool × List UInt8} (h : a.2.length = 16) : (adC a).length = 17 := by simp [adC, h]
theorem pfC_l {p : Pf} (h : p.1.2.length = 16) : (pfC p).length = 18 := by simp [pfC, h]
theorem pf_parts {p : Pf} (h : p.1.2.length = 16) : (pfC p).length = 18 ∧ (pfC p).take 18 = pfC p ∧ (pfC p).drop 18 = [] ∧ (pfC p).take 17 = adC p.1 ∧ (pfC p)[17]? = some (.int .i64 p.2) ∧ ((pfC p).drop 17).head? = some (.int .i64 p.2) := by
  have l17 := adC_len h
  have l18 := pfC_l h
  have g : (pfC p)[17]? = some (.int .i64 p.2) := by rw [show pfC p = adC p.1 ++ [.int .i64 p.2] from rfl, List.getElem?_append_right (by omega), l17]; rfl
  exact ⟨l18, List.take_of_length_le (by omega), List.drop_eq_nil_of_le (by omega), by rw [show pfC p = adC p.1 ++ [.int .i64 p.2] from rfl, List.take_left' l17], g, by rw [List.head?_drop, g]⟩
def PfG (p : Pf) : Prop := p.1.2.length = 16 ∧ vld p.1.1 p.1.2 p.2 = true
def PsG (ps : List Pf) : Prop := ps.Nodup ∧ ∀ p ∈ ps, PfG p
def GrowX (o : Nat) (c : CV) (W : List Box) (ps : List Pf) : Prop := (ps = [] ∧ c = .nilS) ∨ ∃ b m, o ≤ b ∧ ps ≠ [] ∧ c = .view b 0 ps.length 18 false ∧ W[b]? = some ⟨ps.flatMap pfC, m⟩
theorem pf_drawn {B : List Box} {β : Nat} {l : List UInt8} {a : Nat} (hB : B[β]? = some (cb l a)) (hl : a ≤ l.length ∧ l.length < 1000000) :
    ∃ (q : Pf) (a2 : Nat) (G : List Box), PfG q ∧ a2 ≤ l.length ∧ ∀ args, Is args [.ptr β 0] → ACall Tryz.prog 47 args B fun c B' => c = .agg (pfC q) ∧ B' = B.set β (cb l a2) ++ G := by
  have hb : pfBits l a ≤ if adSix l a then 128 else 32 := by
    have : pfBits l a < pfN l a := nxV_lt (by unfold pfN; split <;> omega)
    unfold pfN at this
    split at this <;> rename_i h <;> simp [h] <;> omega
  refine ⟨((adSix l a, pfIP l a), pfBits l a), pfA l a, pfG l a, ⟨cutL_len _ _, vld_cut (adIP_len l a) (okA_ad l a) hb⟩, nxA_le (adA_le hl.1), fun args h => prefix_at h hB hl⟩
theorem nodup_snoc {ps : List Pf} {q : Pf} (h : PsG ps) (hq : PfG q) (hn : ps.contains q = false) : PsG (ps ++ [q]) := by
  refine ⟨List.nodup_append.2 ⟨h.1, by simp, fun a ha b hb e => ?_⟩, fun p hp => ?_⟩
  · rw [List.mem_singleton] at hb; subst hb; subst e
    rw [← List.contains_iff_mem] at ha
    rw [hn] at ha; cases ha
  · rcases List.mem_append.1 hp with hp | hp
    · exact h.2 p hp
    · rw [List.mem_singleton.1 hp]; exact hq
theorem contains_next {ps : List Pf} {q : Pf} {j : Nat} (h : j < ps.length) : (ps.take (j + 1)).contains q = ((ps.take j).contains q || ps[j] == q) := by
  rw [List.take_succ_eq_append_getElem h, List.contains_append, List.contains_cons, List.contains_nil, Bool.or_false]
  congr 1
  exact Bool.eq_iff_iff.2 ⟨fun h => by rw [beq_iff_eq] at h ⊢; exact h.symm, fun h => by rw [beq_iff_eq] at h ⊢; exact h.symm⟩
theorem prefixes_at {B : List Box} {β : Nat} {args : List CV} {l : List UInt8} {a n : Nat} {m : Int} (ha : Is args [.ptr β 0, .int .i64 m]) (hm : m = n) (hB : B[β]? = some (cb l a)) (hl : a ≤ l.length ∧ l.length < 1000000) (hn : n ≤ 1000) :
    ACall Tryz.prog 20 args B fun c B' => ∃ (ps : List Pf) (a' : Nat), a' ≤ l.length ∧ PsG ps ∧ ps.length ≤ n ∧ GrowX B.length c B' ps ∧ B'[β]? = some (cb l a') ∧ (∀ k, k < B.length → k ≠ β → B'[k]? = B[k]?) ∧ B.length ≤ B'.length := by
  have ha : args = _ := ha
  subst ha hm
  have hβ := (List.getElem?_eq_some_iff.1 hB).1
  have hnx : ∀ (args : List CV), Is args [.ptr β 0, .int .i64 ((n : Int) + 1)] → ACall Tryz.prog 21 args B fun c B' => c = .int .i64 (nxV l a (n + 1)) ∧ B' = B.set β (cb l (nxA l a (n + 1))) := fun args h => next_at (n := n + 1) h (by omega) hB ⟨by omega, by omega⟩
  have hv := nxV_lt (l := l) (a := a) (n := n + 1) (by omega)
  have hA := nxA_le (l := l) (a := a) (n := n + 1) hl.1
  have hB1 : (B.set β (cb l (nxA l a (n + 1))))[β]? = some (cb l (nxA l a (n + 1))) := List.getElem?_set_self hβ
  have hB2 : ∀ k, k < B.length → k ≠ β → (B.set β (cb l (nxA l a (n + 1))))[k]? = B[k]? := fun k _ hk => List.getElem?_set_ne (Ne.symm hk)
  have hB3 : B.length ≤ (B.set β (cb l (nxA l a (n + 1)))).length := by rw [List.length_set]; exact Nat.le_refl _
  generalize nxA l a (n + 1) = a1 at *
  generalize nxV l a (n + 1) = i0 at *
  refine acall_intro mixed Tryz.func20 rfl ca20 (by kernel_rfl) (by rw [Tryz.ntmps20]; simp) ?_
  have hwr : IntKind.i64.wrap ((n : Int) + 1) = (n : Int) + 1 := wi64 (by omega)
  repeat' (first | (with_reducible first | apply jA | apply jB | apply jC | apply jD | apply jE | apply jF | apply jG | apply jH | apply jI | apply jJ | apply jK | apply jL | apply jM | apply jN | apply jO) | ((with_reducible first | apply jP | apply jQ); rfl) | ((first | ((with_reducible first | apply jR | apply jS | apply jT); rfl; rfl) | (with_reducible first | apply jU | apply jV | apply jW) | ((with_reducible first | apply jX | apply jY | apply jZ); rfl) | ((with_reducible first | apply kA | apply kB | apply kC); rfl)); all_goals (first | ((with_reducible show Is _ _); exact kE) | ((with_reducible refine fun (hc : (_ : Bool) = _) => ?_); (try simp only [xZ, xY, xP, reduceCtorEq] at hc); (try (have hx : True := hc; clear hx hc)); (try exact kX)) | ((with_reducible show ACall _ _ _ _ _); (first | ((with_reducible apply hnx) <;> exact kD))) | ((fail_if_success (with_reducible first | show Is _ _ | show ACall _ _ _ _ _)); (try ((with_reducible show _ ∨ _); exact kT))))))
  clear hnx hwr hB
  obtain ⟨W0, hW0⟩ : ∃ W0, B.set β (cb l a1) = W0 := ⟨_, rfl⟩
  rw [hW0] at hB1 hB2 hB3
  refine w_loop (fun fr W => ∃ (i a : Nat) (ps : List Pf), i + ps.length ≤ n ∧ a ≤ l.length ∧ PsG ps ∧ fr 6 = .int .i64 i ∧ fr 0 = .ptr β 0 ∧ GrowX B.length (fr 5) W ps ∧ W[β]? = some (cb l a) ∧ (∀ k, k < B.length → k ≠ β → W[k]? = B[k]?) ∧ B.length ≤ W.length) (fun fr _ => natOf (fr 6)) ?_ ?_
  · exact ⟨i0, a1, [], by simp; omega, hA, ⟨List.nodup_nil, by simp⟩, by (simp (disch := omega) [go_sem, *]) <;> (try omega), by (simp (disch := omega) [go_sem, *]) <;> (try omega), .inl ⟨rfl, by (simp (disch := omega) [go_sem, *]) <;> (try omega)⟩, by rw [hW0]; exact hB1, by rw [hW0]; exact hB2, by rw [hW0]; exact hB3⟩
  · clear hW0 hB1 hB2 hB3 hv hA
    rintro fr W ⟨i, a, ps, hi, ha, hps, h6, h0, hg, hb, hsame, hlen⟩
    by_cases hc : 0 < i
    · obtain ⟨q, a2, G, hq, ha2, hpf⟩ := pf_drawn hb ⟨ha, hl.2⟩
      obtain ⟨p1, p2, p3, p4, p5, p6⟩ := pf_parts hq.1
      obtain ⟨W1, hW1⟩ : ∃ W1, W.set β (cb l a2) ++ G = W1 := ⟨_, rfl⟩
      have hWl : (W.set β (cb l a2)).length = W.length := List.length_set
      have hb1 : W1[β]? = some (cb l a2) := by rw [← hW1, List.getElem?_append_left (by omega)]; exact List.getElem?_set_self (by omega)
      have hs1 : ∀ k, k < B.length → k ≠ β → W1[k]? = B[k]? := fun k h1 h2 => by rw [← hW1, List.getElem?_append_left (by omega), List.getElem?_set_ne (Ne.symm h2), hsame k h1 h2]
      have hl1 : B.length ≤ W1.length := by rw [← hW1, List.length_append, hWl]; omega
      have hg1 : GrowX B.length (fr 5) W1 ps := by
        rcases hg with h | ⟨b, mu, h1, h2, h3, h4⟩
        · exact .inl h
        · refine .inr ⟨b, mu, h1, h2, h3, ?_⟩
          rw [← hW1, List.getElem?_append_left (by have := (List.getElem?_eq_some_iff.1 h4).1; omega), List.getElem?_set_ne (by omega), h4]
      simp only [hW1] at hpf
      clear hW1 hWl hg hb hsame hlen
      have hwi : IntKind.i64.wrap ((i : Int) - 1) = ((i - 1 : Nat) : Int) := by rw [wi64 ⟨by omega, by omega⟩]; omega
      rcases hg1 with ⟨rfl, h5⟩ | ⟨b, mu, hbl, hne, h5, hbb⟩
      · replace hps : Hid _ := hps
        replace hs1 : Hid _ := hs1
        repeat' (first | (with_reducible first | apply jA | apply jB | apply jC | apply jD | apply jE | apply jF | apply jG | apply jH | apply jI | apply jJ | apply jK | apply jL | apply jM | apply jN | apply jO) | ((with_reducible first | apply jP | apply jQ); rfl) | ((first | ((with_reducible first | apply jR | apply jS | apply jT); rfl; rfl) | (with_reducible first | apply jU | apply jV | apply jW) | ((with_reducible first | apply jX | apply jY | apply jZ); rfl) | ((with_reducible first | apply kA | apply kB | apply kC); rfl)); all_goals (first | ((with_reducible show Is _ _); exact kE) | ((with_reducible refine fun (hc : (_ : Bool) = _) => ?_); (try simp only [xZ, xY, xP, reduceCtorEq] at hc); (try (have hx : True := hc; clear hx hc)); (try exact kX)) | ((with_reducible show ACall _ _ _ _ _); (first | ((with_reducible apply hpf) <;> exact kD))) | ((fail_if_success (with_reducible first | show Is _ _ | show ACall _ _ _ _ _)); (try ((with_reducible show _ ∨ _); exact kT))))))
        refine w_unroll 1 ?_
        repeat' (first | (with_reducible first | apply jA | apply jB | apply jC | apply jD | apply jE | apply jF | apply jG | apply jH | apply jI | apply jJ | apply jK | apply jL | apply jM | apply jN | apply jO) | ((with_reducible first | apply jP | apply jQ); rfl) | ((first | ((with_reducible first | apply jR | apply jS | apply jT); rfl; rfl) | (with_reducible first | apply jU | apply jV | apply jW) | ((with_reducible first | apply jX | apply jY | apply jZ); rfl)); all_goals (first | ((with_reducible show Is _ _); exact kE) | ((with_reducible refine fun (hc : (_ : Bool) = _) => ?_); (try simp only [xZ, xY, xP, reduceCtorEq] at hc); (try (have hx : True := hc; clear hx hc)); (try exact kX)) | ((fail_if_success (with_reducible first | show Is _ _ | show ACall _ _ _ _ _)); (try ((with_reducible show _ ∨ _); exact kT))))))
        have hx := bx_pack hb1
        refine ⟨⟨i - 1, a2, [q], by simp at hi ⊢; omega, ha2, nodup_snoc hps hq rfl, by (simp (disch := omega) [go_sem, *]) <;> (try omega), by (simp (disch := omega) [go_sem, *]) <;> (try omega), .inr ⟨W1.length + 1, false, by omega, by simp, by (simp (disch := omega) [go_sem, *]) <;> (try omega), by simp⟩, hx.1 _, fun k h1 h2 => ?_, by rw [List.length_append]; omega⟩, by simp [upd, natOf, hwi, h6]; omega⟩
        rw [List.getElem?_append_left (by omega), (show ∀ k, k < B.length → k ≠ β → W1[k]? = B[k]? from hs1) k h1 h2]
      · have hbne : b ≠ β := by omega
        have hfl := fl_len (f := pfC) (n := 18) (l := ps) fun p hp => pfC_l (hps.2 p hp).1
        have kl := cells_all (f := pfC) (z := 18) (L := ps) fun p hp => pfC_l (hps.2 p hp).1
        have hpsl : ∀ p ∈ ps, p.1.2.length = 16 := fun p hp => (hps.2 p hp).1
        have hn0 : ps.length ≠ 0 := by simpa using hne
        have hfin : (if ps.contains q then ps else ps ++ [q]).length ≤ ps.length + 1 ∧ PsG (if ps.contains q then ps else ps ++ [q]) := by
          cases hcq : ps.contains q with
          | true => exact ⟨by simp, hps⟩
          | false => exact ⟨by simp, nodup_snoc hps hq hcq⟩
        have hfs : (ps ++ [q]).flatMap pfC = ps.flatMap pfC ++ pfC q := by rw [List.flatMap_append, List.flatMap_singleton]
        obtain ⟨cs, hcs⟩ : ∃ cs, ps.flatMap pfC = cs := ⟨_, rfl⟩
        rw [hcs] at hfl kl hbb hfs
        replace hcs : Hid _ := hcs
        replace kl : Hid _ := kl
        replace hps : Hid _ := hps
        replace hs1 : Hid _ := hs1
        replace hpsl : Hid _ := hpsl
        replace hfin : Hid _ := hfin
        replace hfs : Hid _ := hfs
        repeat' (first | (with_reducible first | apply jA | apply jB | apply jC | apply jD | apply jE | apply jF | apply jG | apply jH | apply jI | apply jJ | apply jK | apply jL | apply jM | apply jN | apply jO) | ((with_reducible first | apply jP | apply jQ); rfl) | ((first | ((with_reducible first | apply jR | apply jS | apply jT); rfl; rfl) | (with_reducible first | apply jU | apply jV | apply jW) | ((with_reducible first | apply jX | apply jY | apply jZ); rfl) | ((with_reducible first | apply kA | apply kB | apply kC); rfl)); all_goals (first | ((with_reducible show Is _ _); exact kE) | ((with_reducible refine fun (hc : (_ : Bool) = _) => ?_); (try simp only [xZ, xY, xP, reduceCtorEq] at hc); (try (have hx : True := hc; clear hx hc)); (try exact kX)) | ((with_reducible show ACall _ _ _ _ _); (first | ((with_reducible apply hpf) <;> exact kD))) | ((fail_if_success (with_reducible first | show Is _ _ | show ACall _ _ _ _ _)); (try ((with_reducible show _ ∨ _); exact kT))))))
        clear hpf
        have hx := bx_pack hb1
        have hy := bx_pack hbb
        refine w_loop (fun fr X => ∃ j : Nat, j ≤ ps.length ∧ fr 23 = .int .i64 j ∧ fr 22 = .int .i64 ps.length ∧ fr 21 = .view b 0 ps.length 18 false ∧ fr 5 = .view b 0 ps.length 18 false ∧ fr 7 = .ptr W1.length 0 ∧ fr 8 = .bool (!(ps.take j).contains q) ∧ fr 0 = .ptr β 0 ∧ fr 6 = .int .i64 i ∧
          X[b]? = some ⟨cs, mu⟩ ∧ X[W1.length]? = some ⟨pfC q, false⟩ ∧ X[β]? = some (cb l a2) ∧ (∀ k, k < B.length → k ≠ β → X[k]? = B[k]?) ∧ B.length ≤ X.length) (fun fr _ => ps.length - natOf (fr 23)) ?_ ?_
        · refine ⟨0, by omega, by (simp (disch := omega) [go_sem, *]) <;> (try omega), by (simp (disch := omega) [go_sem, *]) <;> (try omega), by (simp (disch := omega) [go_sem, *]) <;> (try omega), by (simp (disch := omega) [go_sem, *]) <;> (try omega), by (simp (disch := omega) [go_sem, *]) <;> (try omega), by (simp (disch := omega) [go_sem, *]) <;> (try omega), by (simp (disch := omega) [go_sem, *]) <;> (try omega), by (simp (disch := omega) [go_sem, *]) <;> (try omega), hy.1 _, by simp, hx.1 _, fun k h1 h2 => ?_, by rw [List.length_append]; omega⟩
          rw [List.getElem?_append_left (by omega), (show ∀ k, k < B.length → k ≠ β → W1[k]? = B[k]? from hs1) k h1 h2]
        · have hmo : natOf (fr 6) = i := by rw [h6]; rfl
          replace hmo : Hid _ := hmo
          clear hx hy hs1 hb1 hbb h5 h0 h6
          rintro fr X ⟨j, hj, h23, h22, h21, h5, h7, h8, h0, h6, hXb, hXq, hXβ, hsame, hlen⟩
          have hx := bx_pack hXβ
          have hy := bx_pack hXb
          have hw := bx_pack hXq
          by_cases hcj : j < ps.length
          · obtain ⟨a1, a3⟩ := (show Cells pfC 18 cs ps from kl) j hcj
            have hu := (show ∀ p ∈ ps, p.1.2.length = 16 from hpsl) _ (List.getElem_mem hcj)
            obtain ⟨v1, v2, v3, v4, v5, v6⟩ := pf_parts hu
            have he := pf_eqV hq.1 hu
            have hn := contains_next (q := q) hcj
            replace hsame : Hid _ := hsame
            have hkeep : ∀ D : List Box, (X ++ D)[b]? = some ⟨cs, mu⟩ ∧ (X ++ D)[W1.length]? = some ⟨pfC q, false⟩ ∧ (X ++ D)[β]? = some (cb l a2) ∧ (∀ k, k < B.length → k ≠ β → (X ++ D)[k]? = B[k]?) ∧ B.length ≤ (X ++ D).length := fun D => ⟨hy.1 D, hw.1 D, hx.1 D, fun k h1 h2 => by rw [List.getElem?_append_left (by omega), (show ∀ k, k < B.length → k ≠ β → X[k]? = B[k]? from hsame) k h1 h2], by rw [List.length_append]; omega⟩
            clear hpsl
            replace hkeep : Hid _ := hkeep
            generalize ps[j] = u at *
            cases hf : (ps.take j).contains q with
            | true =>
              rw [hf] at h8 hn
              replace hn : (ps.take (j + 1)).contains q = true := hn
              simp only [Bool.not_true] at h8
              clear hf
              cases mu
              all_goals
                repeat' (first | (with_reducible first | apply jA | apply jB | apply jC | apply jD | apply jE | apply jF | apply jG | apply jH | apply jI | apply jJ | apply jK | apply jL | apply jM | apply jN | apply jO) | ((with_reducible first | apply jP | apply jQ); rfl) | ((first | ((with_reducible first | apply jR | apply jS | apply jT); rfl; rfl) | (with_reducible first | apply jU | apply jV | apply jW) | ((with_reducible first | apply jX | apply jY | apply jZ); rfl)); all_goals (first | ((with_reducible show Is _ _); exact kE) | ((with_reducible refine fun (hc : (_ : Bool) = _) => ?_); (try simp only [xZ, xY, xP, reduceCtorEq] at hc); (try (have hx : True := hc; clear hx hc)); (try exact kX)) | ((fail_if_success (with_reducible first | show Is _ _ | show ACall _ _ _ _ _)); (try ((with_reducible show _ ∨ _); exact kT))))))
                exact ⟨⟨j + 1, by omega, by (simp (disch := omega) [go_sem, *]) <;> (try omega), by (simp (disch := omega) [go_sem, *]) <;> (try omega), by (simp (disch := omega) [go_sem, *]) <;> (try omega), by (simp (disch := omega) [go_sem, *]) <;> (try omega), by (simp (disch := omega) [go_sem, *]) <;> (try omega), by rw [hn]; (simp (disch := omega) [go_sem, *]) <;> (try omega), by (simp (disch := omega) [go_sem, *]) <;> (try omega), by (simp (disch := omega) [go_sem, *]) <;> (try omega), (show ∀ D : List Box, _ from hkeep) _⟩, by (simp (disch := omega) [go_sem, *]) <;> (try omega)⟩
            | false =>
              rw [hf] at h8 hn
              simp only [Bool.false_or, Bool.not_false] at h8 hn
              clear hf
              by_cases hqu : q = u
              · subst hqu
                rw [beq_self_eq_true] at hn he
                cases mu
                all_goals
                  repeat' (first | (with_reducible first | apply jA | apply jB | apply jC | apply jD | apply jE | apply jF | apply jG | apply jH | apply jI | apply jJ | apply jK | apply jL | apply jM | apply jN | apply jO) | ((with_reducible first | apply jP | apply jQ); rfl) | ((first | ((with_reducible first | apply jR | apply jS | apply jT); rfl; rfl) | (with_reducible first | apply jU | apply jV | apply jW) | ((with_reducible first | apply jX | apply jY | apply jZ); rfl)); all_goals (first | ((with_reducible show Is _ _); exact kE) | ((with_reducible refine fun (hc : (_ : Bool) = _) => ?_); (try simp only [xZ, xY, xP, reduceCtorEq] at hc); (try (have hx : True := hc; clear hx hc)); (try exact kX)) | ((fail_if_success (with_reducible first | show Is _ _ | show ACall _ _ _ _ _)); (try ((with_reducible show _ ∨ _); exact kT))))))
                  exact ⟨⟨j + 1, by omega, by (simp (disch := omega) [go_sem, *]) <;> (try omega), by (simp (disch := omega) [go_sem, *]) <;> (try omega), by (simp (disch := omega) [go_sem, *]) <;> (try omega), by (simp (disch := omega) [go_sem, *]) <;> (try omega), by (simp (disch := omega) [go_sem, *]) <;> (try omega), by rw [hn]; (simp (disch := omega) [go_sem, *]) <;> (try omega), by (simp (disch := omega) [go_sem, *]) <;> (try omega), by (simp (disch := omega) [go_sem, *]) <;> (try omega), (show ∀ D : List Box, _ from hkeep) _⟩, by (simp (disch := omega) [go_sem, *]) <;> (try omega)⟩
              · rw [beq_eq_false_iff_ne.2 (Ne.symm hqu)] at hn
                rw [beq_eq_false_iff_ne.2 hqu] at he
                cases mu
                all_goals
                  repeat' (first | (with_reducible first | apply jA | apply jB | apply jC | apply jD | apply jE | apply jF | apply jG | apply jH | apply jI | apply jJ | apply jK | apply jL | apply jM | apply jN | apply jO) | ((with_reducible first | apply jP | apply jQ); rfl) | ((first | ((with_reducible first | apply jR | apply jS | apply jT); rfl; rfl) | (with_reducible first | apply jU | apply jV | apply jW) | ((with_reducible first | apply jX | apply jY | apply jZ); rfl)); all_goals (first | ((with_reducible show Is _ _); exact kE) | ((with_reducible refine fun (hc : (_ : Bool) = _) => ?_); (try simp only [xZ, xY, xP, reduceCtorEq] at hc); (try (have hx : True := hc; clear hx hc)); (try exact kX)) | ((fail_if_success (with_reducible first | show Is _ _ | show ACall _ _ _ _ _)); (try ((with_reducible show _ ∨ _); exact kT))))))
                  exact ⟨⟨j + 1, by omega, by (simp (disch := omega) [go_sem, *]) <;> (try omega), by (simp (disch := omega) [go_sem, *]) <;> (try omega), by (simp (disch := omega) [go_sem, *]) <;> (try omega), by (simp (disch := omega) [go_sem, *]) <;> (try omega), by (simp (disch := omega) [go_sem, *]) <;> (try omega), by rw [hn]; (simp (disch := omega) [go_sem, *]) <;> (try omega), by (simp (disch := omega) [go_sem, *]) <;> (try omega), by (simp (disch := omega) [go_sem, *]) <;> (try omega), (show ∀ D : List Box, _ from hkeep) _⟩, by (simp (disch := omega) [go_sem, *]) <;> (try omega)⟩
          · obtain rfl : j = ps.length := by omega
            rw [List.take_length] at h8
            obtain ⟨f1, f2⟩ := (show (if ps.contains q then ps else ps ++ [q]).length ≤ ps.length + 1 ∧ PsG (if ps.contains q then ps else ps ++ [q]) from hfin)
            replace hsame : Hid _ := hsame
            cases hf : ps.contains q with
            | true =>
              rw [hf] at h8 f1 f2
              simp only [Bool.not_true, if_true] at h8 f1 f2
              replace f2 : Hid _ := f2
              clear hf
              cases mu
              all_goals
                repeat' (first | (with_reducible first | apply jA | apply jB | apply jC | apply jD | apply jE | apply jF | apply jG | apply jH | apply jI | apply jJ | apply jK | apply jL | apply jM | apply jN | apply jO) | ((with_reducible first | apply jP | apply jQ); rfl) | ((first | ((with_reducible first | apply jR | apply jS | apply jT); rfl; rfl) | (with_reducible first | apply jU | apply jV | apply jW) | ((with_reducible first | apply jX | apply jY | apply jZ); rfl)); all_goals (first | ((with_reducible show Is _ _); exact kE) | ((with_reducible refine fun (hc : (_ : Bool) = _) => ?_); (try simp only [xZ, xY, xP, reduceCtorEq] at hc); (try (have hx : True := hc; clear hx hc)); (try exact kX)) | ((fail_if_success (with_reducible first | show Is _ _ | show ACall _ _ _ _ _)); (try ((with_reducible show _ ∨ _); exact kT))))))
                refine ⟨⟨i - 1, a2, ps, by omega, ha2, f2, by (simp (disch := omega) [go_sem, *]) <;> (try omega), by (simp (disch := omega) [go_sem, *]) <;> (try omega), .inr ⟨b, _, hbl, hne, by (simp (disch := omega) [go_sem, *]) <;> (try omega), by rw [show ps.flatMap pfC = cs from hcs]; exact hXb⟩, hXβ, hsame, hlen⟩, by rw [show natOf _ = i from hmo]; simp [upd, natOf]; omega⟩
            | false =>
              rw [hf] at h8 f1 f2
              simp only [Bool.not_false, Bool.false_eq_true, if_false] at h8 f1 f2
              replace f2 : Hid _ := f2
              clear hf
              cases mu
              all_goals
                repeat' (first | (with_reducible first | apply jA | apply jB | apply jC | apply jD | apply jE | apply jF | apply jG | apply jH | apply jI | apply jJ | apply jK | apply jL | apply jM | apply jN | apply jO) | ((with_reducible first | apply jP | apply jQ); rfl) | ((first | ((with_reducible first | apply jR | apply jS | apply jT); rfl; rfl) | (with_reducible first | apply jU | apply jV | apply jW) | ((with_reducible first | apply jX | apply jY | apply jZ); rfl)); all_goals (first | ((with_reducible show Is _ _); exact kE) | ((with_reducible refine fun (hc : (_ : Bool) = _) => ?_); (try simp only [xZ, xY, xP, reduceCtorEq] at hc); (try (have hx : True := hc; clear hx hc)); (try exact kX)) | ((fail_if_success (with_reducible first | show Is _ _ | show ACall _ _ _ _ _)); (try ((with_reducible show _ ∨ _); exact kT))))))
                refine ⟨⟨i - 1, a2, ps ++ [q], by omega, ha2, f2, by (simp (disch := omega) [go_sem, *]) <;> (try omega), by (simp (disch := omega) [go_sem, *]) <;> (try omega), .inr ⟨b, true, hbl, by simp, by rw [List.length_append]; (simp (disch := omega) [go_sem, *]) <;> (try omega), by rw [show (ps ++ [q]).flatMap pfC = _ from hfs]; exact hy.2.2.1 _⟩, by rw [List.getElem?_set_ne hbne]; exact hXβ, fun k h1 h2 => by rw [List.getElem?_set_ne (by omega)]; exact (show ∀ k, k < B.length → k ≠ β → X[k]? = B[k]? from hsame) k h1 h2, by rw [List.length_set]; exact hlen⟩, by rw [show natOf _ = i from hmo]; simp [upd, natOf]; omega⟩
    · have : i = 0 := by omega
      subst this
      replace hps : Hid _ := hps
      replace hsame : Hid _ := hsame
      repeat' (first | (with_reducible first | apply jA | apply jB | apply jC | apply jD | apply jE | apply jF | apply jG | apply jH | apply jI | apply jJ | apply jK | apply jL | apply jM | apply jN | apply jO) | ((with_reducible first | apply jP | apply jQ); rfl) | ((first | ((with_reducible first | apply jR | apply jS | apply jT); rfl; rfl) | (with_reducible first | apply jU | apply jV | apply jW) | ((with_reducible first | apply jX | apply jY | apply jZ); rfl)); all_goals (first | ((with_reducible show Is _ _); exact kE) | ((with_reducible refine fun (hc : (_ : Bool) = _) => ?_); (try simp only [xZ, xY, xP, reduceCtorEq] at hc); (try (have hx : True := hc; clear hx hc)); (try exact kX)) | ((fail_if_success (with_reducible first | show Is _ _ | show ACall _ _ _ _ _)); (try ((with_reducible show _ ∨ _); exact kT))))))
      exact ⟨ps, a, ha, hps, by omega, hg, hb, hsame, hlen⟩
end Go.Proofs.YtdceppjoipoohaaGreatDoor
end
section
namespace Go.Proofs.YtdceppjoipoohaaGreatDoor
open Go Go.Sy
set_option linter.all false
set_option maxRecDepth 100000
set_option maxHeartbeats 4000000
theorem dkey_at {B : List Box} {β : Nat} {args : List CV} {l : List UInt8} {a : Nat} (ha : Is args [.ptr β 0]) (hB : B[β]? = some (cb l a)) (hl : a ≤ l.length ∧ l.length < 1000000) : ACall Tryz.prog 18 args B fun c B' => ∃ (K : List UInt8) (a2 : Nat) (G : List Box), K.length = 32 ∧ a2 ≤ l.length ∧ c = .agg (K.map byteC) ∧ B' = B.set β (cb l a2) ++ G := by
  obtain rfl := ha
  have hby : ∀ {B : List Box} {args : List CV}, Is args [.ptr β 0, .int .i64 32] → B[β]? = some (cb l a) → ACall Tryz.prog 46 args B fun c B' => c = .view B.length 0 32 1 true ∧ B' = B.set β (cb l (nxA l a 256)) ++ [⟨(bytesV (nxV l a 256) (2 * nxA l a 256 + 1) 32).map byteC, false⟩] := fun h h2 => bytes_at (n := 32) h rfl h2 hl (by omega)
  have hbl := bytesV_len (nxV l a 256) (2 * nxA l a 256 + 1) 32
  have hA := nxA_le (l := l) (a := a) (n := 256) hl.1
  generalize bytesV (nxV l a 256) (2 * nxA l a 256 + 1) 32 = K at *
  generalize nxA l a 256 = a2 at *
  have xb := bx_pack hB
  refine acall_intro mixed Tryz.func18 rfl ca18 (by kernel_rfl) (by rw [Tryz.ntmps18]; simp) ?_
  repeat' (first | (with_reducible first | apply jA | apply jB | apply jC | apply jD | apply jE | apply jF | apply jG | apply jH | apply jI | apply jJ | apply jK | apply jL | apply jM | apply jN | apply jO) | ((with_reducible apply jP); rfl) | ((first | ((with_reducible first | apply jR | apply jS | apply jT); rfl; rfl) | (with_reducible first | apply jU | apply jV | apply jW) | ((with_reducible first | apply jX | apply jY | apply jZ); rfl) | ((with_reducible first | apply kA | apply kB | apply kC); rfl)); all_goals (first | ((with_reducible show Is _ _); exact kE) | ((with_reducible refine fun (hc : (_ : Bool) = _) => ?_); (try simp only [xZ, xY, xP, reduceCtorEq] at hc); (try (have hx : True := hc; clear hx hc)); (try exact kX)) | ((with_reducible show ACall _ _ _ _ _); (first | ((with_reducible apply hby) <;> exact kD))) | ((fail_if_success (with_reducible first | show Is _ _ | show ACall _ _ _ _ _)); (try ((with_reducible show _ ∨ _); exact kT))))))
  refine w_drawJ [0] [⟨[], false⟩] (fun B' => ∃ cs, B'[B.length + 1]? = some ⟨cs, false⟩ ∧ cs.length = 32) rfl (by simp (disch := first | omega | (simp only [yZ, yB] <;> omega) | fail) [go_sem, yY, *, -List.map_take, -List.map_drop, -List.map_append, -List.map_reverse]; exact rfl) ⟨_, (by (try (simp (disch := omega) [go_sem, *]) <;> (try omega)); rfl), rfl⟩ ?_
  repeat' (first | (with_reducible first | apply jA | apply jB | apply jC | apply jD | apply jE | apply jF | apply jG | apply jH | apply jI | apply jJ | apply jK | apply jL | apply jM | apply jN | apply jO) | ((with_reducible first | apply jP | apply jQ); rfl) | ((with_reducible apply w_drawA); (conv => lhs; reduce); exact kE; exact kE) | ((first | ((with_reducible first | apply d_made | apply q_made); rfl; rfl)); (iterate 6 exact kE)) | ((first | ((with_reducible first | apply d_fop | apply q_fop); rfl; rfl)); (intro Bx hJ; (first | (obtain ⟨_, hJ1, hJ2⟩ := hJ) | (try simp only at hJ)); exact kE)) | ((with_reducible first | apply d_free | apply q_free); rfl; (iterate 2 exact kE); (intro Bx hJ); (first | ((with_reducible apply hby) <;> exact kD))) | ((first | ((with_reducible first | apply jR | apply jS | apply jT); rfl; rfl) | (with_reducible first | apply jU | apply jV | apply jW) | ((with_reducible first | apply jX | apply jY | apply jZ); rfl) | ((with_reducible first | apply kA | apply kB | apply kC); rfl)); all_goals (first | ((with_reducible show Is _ _); exact kE) | ((with_reducible refine fun (hc : (_ : Bool) = _) => ?_); (try simp only [xZ, xY, xP, reduceCtorEq] at hc); (try (have hx : True := hc; clear hx hc)); (try exact kX)) | ((with_reducible show ACall _ _ _ _ _); (first | ((with_reducible apply hby) <;> exact kD))) | ((fail_if_success (with_reducible first | show Is _ _ | show ACall _ _ _ _ _)); (try ((with_reducible show _ ∨ _); first | exact .inl rfl | (refine .inr ⟨rfl, ?_, ?_⟩; (focus (repeat (first | exact trivial | refine ⟨.inl rfl, ?_⟩ | refine ⟨.inr rfl, ?_⟩ | refine ⟨.inr (by (simp (disch := first | omega | (simp only [yZ, yB] <;> omega) | fail) [go_sem, yY, *, -List.map_take, -List.map_drop, -List.map_append, -List.map_reverse])), ?_⟩))); (first | exact trivial | exact rfl | (refine ⟨_, ?_, ?_⟩; (focus (simp (disch := first | omega | (simp only [yZ, yB] <;> omega) | fail) [go_sem, yY, *, -List.map_take, -List.map_drop, -List.map_append, -List.map_reverse]; (try exact rfl))); (simp (disch := first | omega | (simp only [yZ, yB] <;> omega) | fail) [go_sem, yY, *, -List.map_take, -List.map_drop, -List.map_append, -List.map_reverse])) | (simp (disch := first | omega | (simp only [yZ, yB] <;> omega) | fail) [go_sem, yY, *, -List.map_take, -List.map_drop, -List.map_append, -List.map_reverse]))) | exact .inl (by (simp (disch := first | omega | (simp only [yZ, yB] <;> omega) | fail) [go_sem, yY, *, -List.map_take, -List.map_drop, -List.map_append, -List.map_reverse]))))))))
  exact ⟨K, a2, _, hbl, hA, rfl, rfl⟩
end Go.Proofs.YtdceppjoipoohaaGreatDoor
end
