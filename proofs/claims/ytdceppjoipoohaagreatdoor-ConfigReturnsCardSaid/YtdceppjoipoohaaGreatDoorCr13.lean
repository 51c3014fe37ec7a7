/- Lemmas and definitions of this claim (own texts, joined by a program; what the claim does not use is left out). -/
import Derived.Test.YtdceppjoipoohaaGreatDoorCr12
import Derived.OpenShut
import Derived.ShutString
import Derived.ChangeOld
import Derived.Below
import Derived.ProofKit
import Derived.Test.YtdceppjoipoohaaGreatDoorRows
import Derived.Lib.LaidU8
import Derived.Shelf.Vars
import Derived.Lay
import Derived.LaidOnce
import Derived.SizedLaws
section
namespace Go.Proofs.YtdceppjoipoohaaGreatDoor
open Go Go.Sy
set_option linter.all false
set_option maxRecDepth 100000
set_option maxHeartbeats 4000000
theorem varT_mark {c : UInt8} {r sp X : List UInt8} {k : Nat} (h : mark c r = true) (hX : pc c sp[k]? = X) : varT (sp.drop k) (c :: r) = X ++ varT (sp.drop (k + 1)) r := by
  rw [varT, if_pos h, List.head?_drop, hX, List.tail_drop]
theorem varT_none {c : UInt8} {r sp : List UInt8} {k : Nat} (h : mark c r = false) : varT (sp.drop k) (c :: r) = c :: varT (sp.drop k) r := by
  rw [varT, h]; rfl
theorem ConfigReturns_in (codes spaces : List UInt8) (hcl : codes.length ≤ maxLen) (hsl : spaces.length ≤ maxLen) : PC Tryz.prog true 4 [lb codes, lb spaces] (.bool true) := by
  have hm' : (maxLen : Nat) = 9223372036854775807 := by rfl
  refine acall_AWc mixed Tryz.func4 rfl (by kernel_rfl) (by rw [Tryz.ntmps4]; simp) ?_
  refine AWc_w mixed (by kernel_rfl) (fun fr B => fr 0 = lb codes ∧ fr 1 = lb spaces ∧ B = []) ?_ ?_
  · repeat' (first | (with_reducible first | apply jA | apply jB | apply jC | apply jD | apply jE | apply jF | apply jG | apply jH | apply jI | apply jJ | apply jK | apply jL | apply jM | apply jN | apply jO) | ((with_reducible first | apply jP | apply jQ); rfl) | ((first | ((with_reducible first | apply jR | apply jS | apply jT); rfl; rfl) | (with_reducible first | apply jU | apply jV | apply jW) | ((with_reducible first | apply jX | apply jY | apply jZ); rfl)); all_goals (first | ((with_reducible show Is _ _); exact kE) | ((with_reducible refine fun (hc : (_ : Bool) = _) => ?_); (try simp only [xZ, xY, xP, reduceCtorEq] at hc); (try (have hx : True := hc; clear hx hc)); (try exact kX)) | ((fail_if_success (with_reducible first | show Is _ _ | show ACall _ _ _ _ _)); (try ((with_reducible show _ ∨ _); exact kT))))))
    exact ⟨by (simp (disch := omega) [go_sem, *]) <;> (try omega), by (simp (disch := omega) [go_sem, *]) <;> (try omega), rfl⟩
  rintro fr B ⟨f0, f1, rfl⟩
  have hcl200 : (codes.take 200).length ≤ 200 := List.length_take_le _ _
  refine AWc_seq ?_
  refine AWc_two (l1 := [_]) (l2 := [_, _]) rfl (by rfl) (by rfl) ?_
  repeat' (first | (with_reducible first | apply jA | apply jB | apply jC | apply jD | apply jE | apply jF | apply jG | apply jH | apply jI | apply jJ | apply jK | apply jL | apply jM | apply jN | apply jO) | ((with_reducible first | apply jP | apply jQ); rfl) | ((first | ((with_reducible first | apply jR | apply jS | apply jT); rfl; rfl) | (with_reducible first | apply jU | apply jV | apply jW) | ((with_reducible first | apply jX | apply jY | apply jZ); rfl)); all_goals (first | ((with_reducible show Is _ _); exact kE) | ((with_reducible refine fun (hc : (_ : Bool) = _) => ?_); (try simp only [xZ, xY, xP, reduceCtorEq] at hc); (try (have hx : True := hc; clear hx hc)); (try exact kX)) | ((fail_if_success (with_reducible first | show Is _ _ | show ACall _ _ _ _ _)); (try ((with_reducible show _ ∨ _); exact kT))))))
  refine ⟨true, [(20, lb codes)], rfl, rfl, rfl, rfl, rfl, rfl, fun p hp => ?_, fun fr' hf => ?_⟩
  · rw [List.mem_singleton.1 hp]
    (simp (disch := omega) [go_sem, *, lb]) <;> (try omega)
  have h18 : fr' 20 = lb codes := hf (20, lb codes) (by simp)
  refine .inl ((new_at (l := codes) (n := 200) (by (simp (disch := omega) [go_sem, *, lb]) <;> (try omega); exact rfl) (by omega)).mono fun c1 B1 ⟨hc1, hB1⟩ => ?_)
  rw [hc1, hB1]
  clear hc1 hB1 h18 hf
  refine .inl ((config_at (n := 3) (β := 0) (l := codes.take 200) (by (simp (disch := omega) [go_sem, *]) <;> (try omega); exact rfl) rfl (by omega) ⟨0, Nat.zero_le _, rfl⟩ (by omega)).mono fun c2 B2 ⟨K, port, ps, hgood, hz⟩ => ⟨_, hz, fun v => ?_⟩)
  have hgp : (∀ p ∈ ps, PeL p) ∧ ps.length ≤ 8 ∧ (∀ p ∈ ps, p.2.2.2.2.2.length < 1000000) := ⟨fun p hp => (hgood.2.2.1 p hp).1, hgood.2.2.2.2.2.2, fun p hp => by have := al_le_alls hp; have := hgood.2.2.2.2.2.1; omega⟩
  have hrd : ∀ sp, (varT sp (cfT K port ps)).length ≤ 4000 → ∀ {B : List Box} {args : List CV}, Is (omap (Go.Sy.fz true false [] 6) args) (some [.str (varT sp (cfT K port ps))]) → ACall Tryz.prog 6 args B fun c B' => c = .tup [.agg (cfC (K, port, ps)), .int .i64 0, .int .i64 0] ∧ B' = B := fun sp h4 B args hz => by
    obtain ⟨nm, hc, hs⟩ := cf_read hgood sp
    exact readG_at hz h4 (varT_ne (cfT_len hgood).2) hs hc hgood.1 hgood.2.1 hgp.1 hgp.2.1 hgp.2.2 hgood.val
  have hfm : ∀ {B : List Box} {args : List CV}, Is (omap (Go.Sy.fz true false B 6) args) (some [.agg (cfC (K, port, ps))]) → ACall Tryz.prog 10 args B fun c B' => c = .tup [.str (cfT K port ps), .int .i64 0] ∧ B' = B := fun hz => by
    have := format_in K port ps hgood.1 (by have := hgood.2.1; omega) hgp.1 (by omega) hgp.2.2
    rw [fmtR, hgood.val, if_pos rfl] at this
    exact acall_fresh hz this
  have hsm : ∀ {B : List Box} {args : List CV}, Is (omap (Go.Sy.fz true false B 6) args) (some [.agg (cfC (K, port, ps)), .agg (cfC (K, port, ps))]) → ACall Tryz.prog 11 args B fun c B' => c = .bool true ∧ B' = B := fun hz => same_at hz hgood.1 hgp.1 (by omega) hgp.2.2
  have hrl : ∀ (s : List UInt8), 4000 < s.length → s.length < 1000000 → ∀ {B : List Box} {args : List CV}, Is (omap (Go.Sy.fz true false [] 6) args) (some [.str s]) → ACall Tryz.prog 6 args B fun c B' => c = .tup [.agg (z32.map byteC ++ [.int .i64 0, .lst 0 [] false]), .int .i64 0, .int .i64 3] ∧ B' = B := fun s h1 h2 B args h => acall_imm h (readLong_in s h1 h2)
  have hfz : ∃ (U : List UInt8) (v : Int), ∀ {B : List Box} {args : List CV}, Is (omap (Go.Sy.fz true false B 6) args) (some [.agg (z32.map byteC ++ [.int .i64 0, .lst 0 [] false])]) → ACall Tryz.prog 10 args B fun c B' => c = .tup [.str U, .int .i64 v] ∧ B' = B := ⟨_, _, fun hz => acall_fresh hz (format_in z32 0 [] rfl (by decide) (by simp) (by decide) (by simp))⟩
  have hbg : ∀ {B : List Box} {args : List CV}, Is (omap (Go.Sy.fz true false B 6) args) (some []) → ACall Tryz.prog 7 args B fun c B' => c = .bool true ∧ B' = B := fun h => begun_at h
  have hsl4 := (cfT_len hgood).1
  have hom : ∀ {nz : Bool} {B : List Box} {k : Nat}, omap (Go.Sy.fz nz false B (k + 3)) (cfC (K, port, ps)) = some (cfC (K, port, ps)) := cf_om _
  have hCl := (cf_parts (c := (K, port, ps)) hgood.1).2.2.2
  have hvl := varT_len (cfT K port ps) spaces
  have hr0 := hrd []
  rw [varT_id] at hr0
  have hr0 := fun {B} {args} h => @hr0 hsl4 B args h
  have hr1 := hrd spaces
  replace hz : Hid _ := hz
  obtain ⟨Y0, hY0⟩ : ∃ Y0, cfC (K, port, ps) = Y0 := ⟨_, rfl⟩
  rw [hY0] at hCl hom hfm hsm hr0 hr1 ⊢
  replace hY0 : Hid _ := hY0
  clear hrd hgp hgood
  generalize cfT K port ps = s at *
  have hY0t : Y0.take 34 = Y0 := List.take_of_length_le (by omega)
  repeat' (first | (with_reducible first | apply jA | apply jB | apply jC | apply jD | apply jE | apply jF | apply jG | apply jH | apply jI | apply jJ | apply jK | apply jL | apply jM | apply jN | apply jO) | ((with_reducible first | apply jP | apply jQ); rfl) | ((first | ((with_reducible first | apply jR | apply jS | apply jT); rfl; rfl) | (with_reducible first | apply jU | apply jV | apply jW) | ((with_reducible first | apply jX | apply jY | apply jZ); rfl)); all_goals (first | ((with_reducible show Is _ _); exact kE) | ((with_reducible refine fun (hc : (_ : Bool) = _) => ?_); (try simp only [xZ, xY, xP, reduceCtorEq] at hc); (try (have hx : True := hc; clear hx hc)); (try exact kX)) | ((fail_if_success (with_reducible first | show Is _ _ | show ACall _ _ _ _ _)); (try ((with_reducible show _ ∨ _); exact kT))))))
  refine WPc_sound mixed.mixed _ _ _ _ (by kernel_rfl) ?_
  replace hr1 : Hid _ := hr1
  replace hrl : Hid _ := hrl
  replace hfz : Hid _ := hfz
  repeat' (first | (with_reducible first | apply jA | apply jB | apply jC | apply jD | apply jE | apply jF | apply jG | apply jH | apply jI | apply jJ | apply jK | apply jL | apply jM | apply jN | apply jO) | ((with_reducible first | apply jP | apply jQ); rfl) | ((first | ((with_reducible first | apply jR | apply jS | apply jT); rfl; rfl) | (with_reducible first | apply jU | apply jV | apply jW) | ((with_reducible first | apply jX | apply jY | apply jZ); rfl) | ((with_reducible first | apply kA | apply kB | apply kC); rfl)); all_goals (first | ((with_reducible show Is _ _); exact kE) | ((with_reducible refine fun (hc : (_ : Bool) = _) => ?_); (try simp only [xZ, xY, xP, reduceCtorEq] at hc); (try (have hx : True := hc; clear hx hc)); (try exact kX)) | ((with_reducible show ACall _ _ _ _ _); (first | ((with_reducible apply hfm) <;> exact kD) | ((with_reducible apply hr0) <;> exact kD) | ((with_reducible apply hsm) <;> exact kD))) | ((fail_if_success (with_reducible first | show Is _ _ | show ACall _ _ _ _ _)); (try ((with_reducible show _ ∨ _); exact kT))))))
  have hr1 : (varT spaces s).length ≤ 4000 → ∀ {B : List Box} {args : List CV}, Is (omap (Go.Sy.fz true false [] 6) args) (some [.str (varT spaces s)]) → ACall Tryz.prog 6 args B fun c B' => c = .tup [.agg Y0, .int .i64 0, .int .i64 0] ∧ B' = B := hr1
  clear hr0
  refine w_loop (fun fr B => ∃ (i k : Nat) (t : List UInt8), i ≤ s.length ∧ k ≤ i ∧ t.length ≤ i * 9 ∧ t ++ varT (spaces.drop k) (s.drop i) = varT spaces s ∧ fr 13 = .int .i64 i ∧ fr 12 = .int .i64 k ∧ fr 11 = .str t ∧ fr 6 = .str s ∧ fr 1 = .lst spaces.length (spaces.map byteC) false ∧ fr 5 = .ptr 0 0 ∧ ∃ G, B = ⟨Y0, false⟩ :: ⟨Y0, false⟩ :: G) (fun fr _ => s.length - natOf (fr 13)) ?_ ?_
  · exact ⟨0, 0, [], by omega, by omega, by simp, rfl, by (simp (disch := omega) [go_sem, *]) <;> (try omega), by (simp (disch := omega) [go_sem, *]) <;> (try omega), by (simp (disch := omega) [go_sem, *]) <;> (try omega), by (simp (disch := omega) [go_sem, *]) <;> (try omega), by (simp (disch := omega) [go_sem, *, lb]) <;> (try omega), by (simp (disch := omega) [go_sem, *]) <;> (try omega), _, rfl⟩
  clear f0 f1 fr
  rintro fr B ⟨i, k, t, hi, hki, htl, hv, f13, f12, f11, f6, f1, f5, G, rfl⟩
  have hm0 : natOf (fr 13) = i := by rw [f13]; rfl
  by_cases hc : i < s.length
  · obtain ⟨c, r, hcr⟩ : ∃ c r, s.drop i = c :: r := ⟨_, _, List.drop_eq_getElem_cons hc⟩
    have hr : s.drop (i + 1) = r := by rw [← List.drop_drop, hcr]; rfl
    have hsi : s[i]? = some c := by rw [← List.head?_drop, hcr]; rfl
    have hsi2 : s[i]'hc = c := (List.getElem?_eq_some_iff.1 hsi).2
    have hs1 : s[i + 1]? = r.head? := by rw [← List.head?_drop, hr]
    have hrl2 : r.length = s.length - (i + 1) := by rw [← hr, List.length_drop]
    have hwi : IntKind.i64.wrap ((i : Int) + 1) = (i : Int) + 1 := wi64 ⟨by omega, by omega⟩
    have hwk : IntKind.i64.wrap ((k : Int) + 1) = (k : Int) + 1 := wi64 ⟨by omega, by omega⟩
    have htk : (s.drop i).take 1 = [c] := by rw [hcr]; rfl
    rw [hcr] at hv
    have hmk : mark c r = true → ∀ X, pc c spaces[k]? = X → (t ++ X) ++ varT (spaces.drop (k + 1)) (s.drop (i + 1)) = varT spaces s := fun hm X hX => by
      rw [hr, List.append_assoc, ← varT_mark hm hX]; exact hv
    have hnm : mark c r = false → (t ++ [c]) ++ varT (spaces.drop k) (s.drop (i + 1)) = varT spaces s := fun hm => by
      rw [hr, List.append_assoc, List.singleton_append, ← varT_none hm]; exact hv
    clear hm' hrl hfz hbg hsm hfm hr1 hom hcr
    by_cases h10 : c = 10
    · subst h10
      have hmk := hmk (by simp [mark])
      clear hnm
      by_cases hk : k < spaces.length
      · obtain ⟨a, ha⟩ : ∃ a, spaces[k]? = some a := ⟨_, List.getElem?_eq_getElem hk⟩
        have hdk : (spaces.map byteC).drop k = byteC a :: (spaces.map byteC).drop (k + 1) := by
          have hl : k < (spaces.map byteC).length := by rw [List.length_map]; exact hk
          rw [List.drop_eq_getElem_cons hl]
          have := (List.getElem?_eq_some_iff.1 ha).2
          simp [this]
        rw [ha, pc] at hmk
        have haK : spaces[k]'hk = a := (List.getElem?_eq_some_iff.1 ha).2
        clear ha
        obtain ⟨q, hq, hq5⟩ : ∃ q : Nat, a.toNat % 4 = q ∧ q < 4 := ⟨_, rfl, Nat.mod_lt _ (by decide)⟩
        have hq1 : ((a.toNat : Int)) % 4 = (q : Int) := by omega
        have hq2 : ((a.toNat : Int)).tmod 4 = (q : Int) := by rw [← hq]; rfl
        obtain ⟨w, hw⟩ : ∃ w : Nat, a.toNat % 7 = w := ⟨_, rfl⟩
        have hw1 : ((a.toNat : Int)) % 7 = (w : Int) := by omega
        have hw2 : ((a.toNat : Int)).tmod 7 = (w : Int) := by rw [← hw]; rfl
        rw [hq, hw] at hmk
        clear hq hw
        by_cases hw0 : w = 0
        · subst hw0
          have hX := hmk note (by simp)
          rw [note] at hX
          replace hX : Hid _ := hX
          clear hmk
          obtain rfl | rfl | rfl | rfl : q = 0 ∨ q = 1 ∨ q = 2 ∨ q = 3 := by omega
          all_goals
            repeat' (first | (with_reducible first | apply jA | apply jB | apply jC | apply jD | apply jE | apply jF | apply jG | apply jH | apply jI | apply jJ | apply jK | apply jL | apply jM | apply jN | apply jO) | ((with_reducible first | apply jP | apply jQ); rfl) | ((first | ((with_reducible first | apply jR | apply jS | apply jT); rfl; rfl) | (with_reducible first | apply jU | apply jV | apply jW) | ((with_reducible first | apply jX | apply jY | apply jZ); rfl)); all_goals (first | ((with_reducible show Is _ _); exact kE) | ((with_reducible refine fun (hc : (_ : Bool) = _) => ?_); (try simp only [xZ, xY, xP, reduceCtorEq] at hc); (try (have hx : True := hc; clear hx hc)); (try exact kX)) | ((fail_if_success (with_reducible first | show Is _ _ | show ACall _ _ _ _ _)); (try ((with_reducible show _ ∨ _); exact kT))))))
            exact ⟨⟨i + 1, k + 1, t ++ [10, 35, 32, 110, 111, 116, 101, 10, 10], by omega, by omega, by simp; omega, hX, by (simp (disch := omega) [go_sem, *]) <;> (try omega), by (simp (disch := omega) [go_sem, *]) <;> (try omega), by (simp (disch := omega) [go_sem, *]) <;> (try omega), by (simp (disch := omega) [go_sem, *]) <;> (try omega), by (simp (disch := omega) [go_sem, *]) <;> (try omega), by (simp (disch := omega) [go_sem, *]) <;> (try omega), _, rfl⟩, by (simp (disch := omega) [go_sem, *]) <;> (try omega)⟩
        · have hw3 : (w : Int) ≠ 0 := by omega
          obtain rfl | rfl | rfl | rfl : q = 0 ∨ q = 1 ∨ q = 2 ∨ q = 3 := by omega
          · have hX := hmk [10] (by simp [hw0])
            replace hX : Hid _ := hX
            clear hmk
            repeat' (first | (with_reducible first | apply jA | apply jB | apply jC | apply jD | apply jE | apply jF | apply jG | apply jH | apply jI | apply jJ | apply jK | apply jL | apply jM | apply jN | apply jO) | ((with_reducible first | apply jP | apply jQ); rfl) | ((first | ((with_reducible first | apply jR | apply jS | apply jT); rfl; rfl) | (with_reducible first | apply jU | apply jV | apply jW) | ((with_reducible first | apply jX | apply jY | apply jZ); rfl)); all_goals (first | ((with_reducible show Is _ _); exact kE) | ((with_reducible refine fun (hc : (_ : Bool) = _) => ?_); (try simp only [xZ, xY, xP, reduceCtorEq] at hc); (try (have hx : True := hc; clear hx hc)); (try exact kX)) | ((fail_if_success (with_reducible first | show Is _ _ | show ACall _ _ _ _ _)); (try ((with_reducible show _ ∨ _); exact kT))))))
            exact ⟨⟨i + 1, k + 1, t ++ [10], by omega, by omega, by simp; omega, hX, by (simp (disch := omega) [go_sem, *]) <;> (try omega), by (simp (disch := omega) [go_sem, *]) <;> (try omega), by (simp (disch := omega) [go_sem, *]) <;> (try omega), by (simp (disch := omega) [go_sem, *]) <;> (try omega), by (simp (disch := omega) [go_sem, *]) <;> (try omega), by (simp (disch := omega) [go_sem, *]) <;> (try omega), _, rfl⟩, by (simp (disch := omega) [go_sem, *]) <;> (try omega)⟩
          · have hX := hmk [32, 10] (by simp [hw0])
            replace hX : Hid _ := hX
            clear hmk
            repeat' (first | (with_reducible first | apply jA | apply jB | apply jC | apply jD | apply jE | apply jF | apply jG | apply jH | apply jI | apply jJ | apply jK | apply jL | apply jM | apply jN | apply jO) | ((with_reducible first | apply jP | apply jQ); rfl) | ((first | ((with_reducible first | apply jR | apply jS | apply jT); rfl; rfl) | (with_reducible first | apply jU | apply jV | apply jW) | ((with_reducible first | apply jX | apply jY | apply jZ); rfl)); all_goals (first | ((with_reducible show Is _ _); exact kE) | ((with_reducible refine fun (hc : (_ : Bool) = _) => ?_); (try simp only [xZ, xY, xP, reduceCtorEq] at hc); (try (have hx : True := hc; clear hx hc)); (try exact kX)) | ((fail_if_success (with_reducible first | show Is _ _ | show ACall _ _ _ _ _)); (try ((with_reducible show _ ∨ _); exact kT))))))
            exact ⟨⟨i + 1, k + 1, t ++ [32, 10], by omega, by omega, by simp; omega, hX, by (simp (disch := omega) [go_sem, *]) <;> (try omega), by (simp (disch := omega) [go_sem, *]) <;> (try omega), by (simp (disch := omega) [go_sem, *]) <;> (try omega), by (simp (disch := omega) [go_sem, *]) <;> (try omega), by (simp (disch := omega) [go_sem, *]) <;> (try omega), by (simp (disch := omega) [go_sem, *]) <;> (try omega), _, rfl⟩, by (simp (disch := omega) [go_sem, *]) <;> (try omega)⟩
          · have hX := hmk [9, 10] (by simp [hw0])
            replace hX : Hid _ := hX
            clear hmk
            repeat' (first | (with_reducible first | apply jA | apply jB | apply jC | apply jD | apply jE | apply jF | apply jG | apply jH | apply jI | apply jJ | apply jK | apply jL | apply jM | apply jN | apply jO) | ((with_reducible first | apply jP | apply jQ); rfl) | ((first | ((with_reducible first | apply jR | apply jS | apply jT); rfl; rfl) | (with_reducible first | apply jU | apply jV | apply jW) | ((with_reducible first | apply jX | apply jY | apply jZ); rfl)); all_goals (first | ((with_reducible show Is _ _); exact kE) | ((with_reducible refine fun (hc : (_ : Bool) = _) => ?_); (try simp only [xZ, xY, xP, reduceCtorEq] at hc); (try (have hx : True := hc; clear hx hc)); (try exact kX)) | ((fail_if_success (with_reducible first | show Is _ _ | show ACall _ _ _ _ _)); (try ((with_reducible show _ ∨ _); exact kT))))))
            exact ⟨⟨i + 1, k + 1, t ++ [9, 10], by omega, by omega, by simp; omega, hX, by (simp (disch := omega) [go_sem, *]) <;> (try omega), by (simp (disch := omega) [go_sem, *]) <;> (try omega), by (simp (disch := omega) [go_sem, *]) <;> (try omega), by (simp (disch := omega) [go_sem, *]) <;> (try omega), by (simp (disch := omega) [go_sem, *]) <;> (try omega), by (simp (disch := omega) [go_sem, *]) <;> (try omega), _, rfl⟩, by (simp (disch := omega) [go_sem, *]) <;> (try omega)⟩
          · have hX := hmk [10, 32] (by simp [hw0])
            replace hX : Hid _ := hX
            clear hmk
            repeat' (first | (with_reducible first | apply jA | apply jB | apply jC | apply jD | apply jE | apply jF | apply jG | apply jH | apply jI | apply jJ | apply jK | apply jL | apply jM | apply jN | apply jO) | ((with_reducible first | apply jP | apply jQ); rfl) | ((first | ((with_reducible first | apply jR | apply jS | apply jT); rfl; rfl) | (with_reducible first | apply jU | apply jV | apply jW) | ((with_reducible first | apply jX | apply jY | apply jZ); rfl)); all_goals (first | ((with_reducible show Is _ _); exact kE) | ((with_reducible refine fun (hc : (_ : Bool) = _) => ?_); (try simp only [xZ, xY, xP, reduceCtorEq] at hc); (try (have hx : True := hc; clear hx hc)); (try exact kX)) | ((fail_if_success (with_reducible first | show Is _ _ | show ACall _ _ _ _ _)); (try ((with_reducible show _ ∨ _); exact kT))))))
            exact ⟨⟨i + 1, k + 1, t ++ [10, 32], by omega, by omega, by simp; omega, hX, by (simp (disch := omega) [go_sem, *]) <;> (try omega), by (simp (disch := omega) [go_sem, *]) <;> (try omega), by (simp (disch := omega) [go_sem, *]) <;> (try omega), by (simp (disch := omega) [go_sem, *]) <;> (try omega), by (simp (disch := omega) [go_sem, *]) <;> (try omega), by (simp (disch := omega) [go_sem, *]) <;> (try omega), _, rfl⟩, by (simp (disch := omega) [go_sem, *]) <;> (try omega)⟩
      · have hX := hmk [10] (by rw [List.getElem?_eq_none (by omega)]; rfl)
        replace hX : Hid _ := hX
        clear hmk
        repeat' (first | (with_reducible first | apply jA | apply jB | apply jC | apply jD | apply jE | apply jF | apply jG | apply jH | apply jI | apply jJ | apply jK | apply jL | apply jM | apply jN | apply jO) | ((with_reducible first | apply jP | apply jQ); rfl) | ((first | ((with_reducible first | apply jR | apply jS | apply jT); rfl; rfl) | (with_reducible first | apply jU | apply jV | apply jW) | ((with_reducible first | apply jX | apply jY | apply jZ); rfl)); all_goals (first | ((with_reducible show Is _ _); exact kE) | ((with_reducible refine fun (hc : (_ : Bool) = _) => ?_); (try simp only [xZ, xY, xP, reduceCtorEq] at hc); (try (have hx : True := hc; clear hx hc)); (try exact kX)) | ((fail_if_success (with_reducible first | show Is _ _ | show ACall _ _ _ _ _)); (try ((with_reducible show _ ∨ _); exact kT))))))
        exact ⟨⟨i + 1, k + 1, t ++ [10], by omega, by omega, by simp; omega, hX, by (simp (disch := omega) [go_sem, *]) <;> (try omega), by (simp (disch := omega) [go_sem, *]) <;> (try omega), by (simp (disch := omega) [go_sem, *]) <;> (try omega), by (simp (disch := omega) [go_sem, *]) <;> (try omega), by (simp (disch := omega) [go_sem, *]) <;> (try omega), by (simp (disch := omega) [go_sem, *]) <;> (try omega), _, rfl⟩, by (simp (disch := omega) [go_sem, *]) <;> (try omega)⟩
    · have e10 : ([c] == ([10] : List UInt8)) = false := by simpa using h10
      by_cases h61 : c = 61
      · subst h61
        cases r with
        | nil =>
          have hX := hnm (by simp [mark])
          replace hX : Hid _ := hX
          clear hmk hnm
          simp only [List.length_nil] at hrl2
          have hsl1 : s.length = i + 1 := by omega
          clear hrl2
          repeat' (first | (with_reducible first | apply jA | apply jB | apply jC | apply jD | apply jE | apply jF | apply jG | apply jH | apply jI | apply jJ | apply jK | apply jL | apply jM | apply jN | apply jO) | ((with_reducible first | apply jP | apply jQ); rfl) | ((first | ((with_reducible first | apply jR | apply jS | apply jT); rfl; rfl) | (with_reducible first | apply jU | apply jV | apply jW) | ((with_reducible first | apply jX | apply jY | apply jZ); rfl)); all_goals (first | ((with_reducible show Is _ _); exact kE) | ((with_reducible refine fun (hc : (_ : Bool) = _) => ?_); (try simp only [xZ, xY, xP, reduceCtorEq] at hc); (try (have hx : True := hc; clear hx hc)); (try exact kX)) | ((fail_if_success (with_reducible first | show Is _ _ | show ACall _ _ _ _ _)); (try ((with_reducible show _ ∨ _); exact kT))))))
          exact ⟨⟨i + 1, k, t ++ [61], by omega, by omega, by simp; omega, hX, by (simp (disch := omega) [go_sem, *]) <;> (try omega), by (simp (disch := omega) [go_sem, *]) <;> (try omega), by (simp (disch := omega) [go_sem, *]) <;> (try omega), by (simp (disch := omega) [go_sem, *]) <;> (try omega), by (simp (disch := omega) [go_sem, *]) <;> (try omega), by (simp (disch := omega) [go_sem, *]) <;> (try omega), _, rfl⟩, by (simp (disch := omega) [go_sem, *]) <;> (try omega)⟩
        | cons d r =>
          simp only [List.head?_cons, List.length_cons] at hs1 hrl2
          have hs12 : s[i + 1]'(by omega) = d := (List.getElem?_eq_some_iff.1 hs1).2
          by_cases h32 : d = 32
          · subst h32
            have hr0 : True := trivial
            have hmk := hmk (by simp [mark, hr0])
            clear hnm
            by_cases hk : k < spaces.length
            · obtain ⟨a, ha⟩ : ∃ a, spaces[k]? = some a := ⟨_, List.getElem?_eq_getElem hk⟩
              have hdk : (spaces.map byteC).drop k = byteC a :: (spaces.map byteC).drop (k + 1) := by
                have hl : k < (spaces.map byteC).length := by rw [List.length_map]; exact hk
                rw [List.drop_eq_getElem_cons hl]
                have := (List.getElem?_eq_some_iff.1 ha).2
                simp [this]
              rw [ha, pc] at hmk
              have haK : spaces[k]'hk = a := (List.getElem?_eq_some_iff.1 ha).2
              clear ha
              obtain ⟨q, hq, hq5⟩ : ∃ q : Nat, a.toNat % 4 = q ∧ q < 4 := ⟨_, rfl, Nat.mod_lt _ (by decide)⟩
              have hq1 : ((a.toNat : Int)) % 4 = (q : Int) := by omega
              have hq2 : ((a.toNat : Int)).tmod 4 = (q : Int) := by rw [← hq]; rfl
              rw [hq] at hmk
              clear hq
              obtain rfl | rfl | rfl | rfl : q = 0 ∨ q = 1 ∨ q = 2 ∨ q = 3 := by omega
              · have hX := hmk [61] (by simp)
                replace hX : Hid _ := hX
                clear hmk
                repeat' (first | (with_reducible first | apply jA | apply jB | apply jC | apply jD | apply jE | apply jF | apply jG | apply jH | apply jI | apply jJ | apply jK | apply jL | apply jM | apply jN | apply jO) | ((with_reducible first | apply jP | apply jQ); rfl) | ((first | ((with_reducible first | apply jR | apply jS | apply jT); rfl; rfl) | (with_reducible first | apply jU | apply jV | apply jW) | ((with_reducible first | apply jX | apply jY | apply jZ); rfl)); all_goals (first | ((with_reducible show Is _ _); exact kE) | ((with_reducible refine fun (hc : (_ : Bool) = _) => ?_); (try simp only [xZ, xY, xP, reduceCtorEq] at hc); (try (have hx : True := hc; clear hx hc)); (try exact kX)) | ((fail_if_success (with_reducible first | show Is _ _ | show ACall _ _ _ _ _)); (try ((with_reducible show _ ∨ _); exact kT))))))
                exact ⟨⟨i + 1, k + 1, t ++ [61], by omega, by omega, by simp; omega, hX, by (simp (disch := omega) [go_sem, *]) <;> (try omega), by (simp (disch := omega) [go_sem, *]) <;> (try omega), by (simp (disch := omega) [go_sem, *]) <;> (try omega), by (simp (disch := omega) [go_sem, *]) <;> (try omega), by (simp (disch := omega) [go_sem, *]) <;> (try omega), by (simp (disch := omega) [go_sem, *]) <;> (try omega), _, rfl⟩, by (simp (disch := omega) [go_sem, *]) <;> (try omega)⟩
              · have hX := hmk [32, 61] (by simp)
                replace hX : Hid _ := hX
                clear hmk
                repeat' (first | (with_reducible first | apply jA | apply jB | apply jC | apply jD | apply jE | apply jF | apply jG | apply jH | apply jI | apply jJ | apply jK | apply jL | apply jM | apply jN | apply jO) | ((with_reducible first | apply jP | apply jQ); rfl) | ((first | ((with_reducible first | apply jR | apply jS | apply jT); rfl; rfl) | (with_reducible first | apply jU | apply jV | apply jW) | ((with_reducible first | apply jX | apply jY | apply jZ); rfl)); all_goals (first | ((with_reducible show Is _ _); exact kE) | ((with_reducible refine fun (hc : (_ : Bool) = _) => ?_); (try simp only [xZ, xY, xP, reduceCtorEq] at hc); (try (have hx : True := hc; clear hx hc)); (try exact kX)) | ((fail_if_success (with_reducible first | show Is _ _ | show ACall _ _ _ _ _)); (try ((with_reducible show _ ∨ _); exact kT))))))
                exact ⟨⟨i + 1, k + 1, t ++ [32, 61], by omega, by omega, by simp; omega, hX, by (simp (disch := omega) [go_sem, *]) <;> (try omega), by (simp (disch := omega) [go_sem, *]) <;> (try omega), by (simp (disch := omega) [go_sem, *]) <;> (try omega), by (simp (disch := omega) [go_sem, *]) <;> (try omega), by (simp (disch := omega) [go_sem, *]) <;> (try omega), by (simp (disch := omega) [go_sem, *]) <;> (try omega), _, rfl⟩, by (simp (disch := omega) [go_sem, *]) <;> (try omega)⟩
              · have hX := hmk [9, 61] (by simp)
                replace hX : Hid _ := hX
                clear hmk
                repeat' (first | (with_reducible first | apply jA | apply jB | apply jC | apply jD | apply jE | apply jF | apply jG | apply jH | apply jI | apply jJ | apply jK | apply jL | apply jM | apply jN | apply jO) | ((with_reducible first | apply jP | apply jQ); rfl) | ((first | ((with_reducible first | apply jR | apply jS | apply jT); rfl; rfl) | (with_reducible first | apply jU | apply jV | apply jW) | ((with_reducible first | apply jX | apply jY | apply jZ); rfl)); all_goals (first | ((with_reducible show Is _ _); exact kE) | ((with_reducible refine fun (hc : (_ : Bool) = _) => ?_); (try simp only [xZ, xY, xP, reduceCtorEq] at hc); (try (have hx : True := hc; clear hx hc)); (try exact kX)) | ((fail_if_success (with_reducible first | show Is _ _ | show ACall _ _ _ _ _)); (try ((with_reducible show _ ∨ _); exact kT))))))
                exact ⟨⟨i + 1, k + 1, t ++ [9, 61], by omega, by omega, by simp; omega, hX, by (simp (disch := omega) [go_sem, *]) <;> (try omega), by (simp (disch := omega) [go_sem, *]) <;> (try omega), by (simp (disch := omega) [go_sem, *]) <;> (try omega), by (simp (disch := omega) [go_sem, *]) <;> (try omega), by (simp (disch := omega) [go_sem, *]) <;> (try omega), by (simp (disch := omega) [go_sem, *]) <;> (try omega), _, rfl⟩, by (simp (disch := omega) [go_sem, *]) <;> (try omega)⟩
              · have hX := hmk [61, 32] (by simp)
                replace hX : Hid _ := hX
                clear hmk
                repeat' (first | (with_reducible first | apply jA | apply jB | apply jC | apply jD | apply jE | apply jF | apply jG | apply jH | apply jI | apply jJ | apply jK | apply jL | apply jM | apply jN | apply jO) | ((with_reducible first | apply jP | apply jQ); rfl) | ((first | ((with_reducible first | apply jR | apply jS | apply jT); rfl; rfl) | (with_reducible first | apply jU | apply jV | apply jW) | ((with_reducible first | apply jX | apply jY | apply jZ); rfl)); all_goals (first | ((with_reducible show Is _ _); exact kE) | ((with_reducible refine fun (hc : (_ : Bool) = _) => ?_); (try simp only [xZ, xY, xP, reduceCtorEq] at hc); (try (have hx : True := hc; clear hx hc)); (try exact kX)) | ((fail_if_success (with_reducible first | show Is _ _ | show ACall _ _ _ _ _)); (try ((with_reducible show _ ∨ _); exact kT))))))
                exact ⟨⟨i + 1, k + 1, t ++ [61, 32], by omega, by omega, by simp; omega, hX, by (simp (disch := omega) [go_sem, *]) <;> (try omega), by (simp (disch := omega) [go_sem, *]) <;> (try omega), by (simp (disch := omega) [go_sem, *]) <;> (try omega), by (simp (disch := omega) [go_sem, *]) <;> (try omega), by (simp (disch := omega) [go_sem, *]) <;> (try omega), by (simp (disch := omega) [go_sem, *]) <;> (try omega), _, rfl⟩, by (simp (disch := omega) [go_sem, *]) <;> (try omega)⟩
            · have hX := hmk [61] (by rw [List.getElem?_eq_none (by omega)]; rfl)
              replace hX : Hid _ := hX
              clear hmk
              repeat' (first | (with_reducible first | apply jA | apply jB | apply jC | apply jD | apply jE | apply jF | apply jG | apply jH | apply jI | apply jJ | apply jK | apply jL | apply jM | apply jN | apply jO) | ((with_reducible first | apply jP | apply jQ); rfl) | ((first | ((with_reducible first | apply jR | apply jS | apply jT); rfl; rfl) | (with_reducible first | apply jU | apply jV | apply jW) | ((with_reducible first | apply jX | apply jY | apply jZ); rfl)); all_goals (first | ((with_reducible show Is _ _); exact kE) | ((with_reducible refine fun (hc : (_ : Bool) = _) => ?_); (try simp only [xZ, xY, xP, reduceCtorEq] at hc); (try (have hx : True := hc; clear hx hc)); (try exact kX)) | ((fail_if_success (with_reducible first | show Is _ _ | show ACall _ _ _ _ _)); (try ((with_reducible show _ ∨ _); exact kT))))))
              exact ⟨⟨i + 1, k + 1, t ++ [61], by omega, by omega, by simp; omega, hX, by (simp (disch := omega) [go_sem, *]) <;> (try omega), by (simp (disch := omega) [go_sem, *]) <;> (try omega), by (simp (disch := omega) [go_sem, *]) <;> (try omega), by (simp (disch := omega) [go_sem, *]) <;> (try omega), by (simp (disch := omega) [go_sem, *]) <;> (try omega), by (simp (disch := omega) [go_sem, *]) <;> (try omega), _, rfl⟩, by (simp (disch := omega) [go_sem, *]) <;> (try omega)⟩
          · have h32' : (d.toNat : Int) ≠ 32 := by
              intro e
              exact h32 (UInt8.toNat_inj.1 (by have : d.toNat = 32 := by omega
                                               rw [this]; rfl))
            have hX := hnm (by simp [mark, h32])
            replace hX : Hid _ := hX
            clear hmk hnm
            repeat' (first | (with_reducible first | apply jA | apply jB | apply jC | apply jD | apply jE | apply jF | apply jG | apply jH | apply jI | apply jJ | apply jK | apply jL | apply jM | apply jN | apply jO) | ((with_reducible first | apply jP | apply jQ); rfl) | ((first | ((with_reducible first | apply jR | apply jS | apply jT); rfl; rfl) | (with_reducible first | apply jU | apply jV | apply jW) | ((with_reducible first | apply jX | apply jY | apply jZ); rfl)); all_goals (first | ((with_reducible show Is _ _); exact kE) | ((with_reducible refine fun (hc : (_ : Bool) = _) => ?_); (try simp only [xZ, xY, xP, reduceCtorEq] at hc); (try (have hx : True := hc; clear hx hc)); (try exact kX)) | ((fail_if_success (with_reducible first | show Is _ _ | show ACall _ _ _ _ _)); (try ((with_reducible show _ ∨ _); exact kT))))))
            exact ⟨⟨i + 1, k, t ++ [61], by omega, by omega, by simp; omega, hX, by (simp (disch := omega) [go_sem, *]) <;> (try omega), by (simp (disch := omega) [go_sem, *]) <;> (try omega), by (simp (disch := omega) [go_sem, *]) <;> (try omega), by (simp (disch := omega) [go_sem, *]) <;> (try omega), by (simp (disch := omega) [go_sem, *]) <;> (try omega), by (simp (disch := omega) [go_sem, *]) <;> (try omega), _, rfl⟩, by (simp (disch := omega) [go_sem, *]) <;> (try omega)⟩
      · have e61 : ([c] == ([61] : List UInt8)) = false := by simpa using h61
        have hX := hnm (by simp [mark, h61, h10])
        replace hX : Hid _ := hX
        clear hmk hnm
        repeat' (first | (with_reducible first | apply jA | apply jB | apply jC | apply jD | apply jE | apply jF | apply jG | apply jH | apply jI | apply jJ | apply jK | apply jL | apply jM | apply jN | apply jO) | ((with_reducible first | apply jP | apply jQ); rfl) | ((first | ((with_reducible first | apply jR | apply jS | apply jT); rfl; rfl) | (with_reducible first | apply jU | apply jV | apply jW) | ((with_reducible first | apply jX | apply jY | apply jZ); rfl)); all_goals (first | ((with_reducible show Is _ _); exact kE) | ((with_reducible refine fun (hc : (_ : Bool) = _) => ?_); (try simp only [xZ, xY, xP, reduceCtorEq] at hc); (try (have hx : True := hc; clear hx hc)); (try exact kX)) | ((fail_if_success (with_reducible first | show Is _ _ | show ACall _ _ _ _ _)); (try ((with_reducible show _ ∨ _); exact kT))))))
        exact ⟨⟨i + 1, k, t ++ [c], by omega, by omega, by simp; omega, hX, by (simp (disch := omega) [go_sem, *]) <;> (try omega), by (simp (disch := omega) [go_sem, *]) <;> (try omega), by (simp (disch := omega) [go_sem, *]) <;> (try omega), by (simp (disch := omega) [go_sem, *]) <;> (try omega), by (simp (disch := omega) [go_sem, *]) <;> (try omega), by (simp (disch := omega) [go_sem, *]) <;> (try omega), _, rfl⟩, by (simp (disch := omega) [go_sem, *]) <;> (try omega)⟩
  · obtain rfl : i = s.length := by omega
    have hv : t = varT spaces s := by rw [List.drop_length] at hv; rw [← hv, varT, List.append_nil]
    rw [← hv] at hr1 hvl
    clear hv
    by_cases h4 : t.length ≤ 4000
    · have hr1 := fun {B} {args} h => @hr1 h4 B args h
      repeat' (first | (with_reducible first | apply jA | apply jB | apply jC | apply jD | apply jE | apply jF | apply jG | apply jH | apply jI | apply jJ | apply jK | apply jL | apply jM | apply jN | apply jO) | ((with_reducible first | apply jP | apply jQ); rfl) | ((first | ((with_reducible first | apply jR | apply jS | apply jT); rfl; rfl) | (with_reducible first | apply jU | apply jV | apply jW) | ((with_reducible first | apply jX | apply jY | apply jZ); rfl) | ((with_reducible first | apply kA | apply kB | apply kC); rfl)); all_goals (first | ((with_reducible show Is _ _); exact kE) | ((with_reducible refine fun (hc : (_ : Bool) = _) => ?_); (try simp only [xZ, xY, xP, reduceCtorEq] at hc); (try (have hx : True := hc; clear hx hc)); (try exact kX)) | ((with_reducible show ACall _ _ _ _ _); (first | ((with_reducible apply hr1) <;> exact kD) | ((with_reducible apply hfm) <;> exact kD) | ((with_reducible apply hsm) <;> exact kD) | ((with_reducible apply hbg) <;> exact kD))) | ((fail_if_success (with_reducible first | show Is _ _ | show ACall _ _ _ _ _)); (try ((with_reducible show _ ∨ _); exact kT))))))
      all_goals rfl
    · have hrl' : ∀ (s : List UInt8), 4000 < s.length → s.length < 1000000 → ∀ {B : List Box} {args : List CV}, Is (omap (Go.Sy.fz true false [] 6) args) (some [.str s]) → ACall Tryz.prog 6 args B fun c B' => c = .tup [.agg (z32.map byteC ++ [.int .i64 0, .lst 0 [] false]), .int .i64 0, .int .i64 3] ∧ B' = B := hrl
      have hr2 := fun {B} {args} h => @hrl' t (by omega) (by omega) B args h
      obtain ⟨U, v2, hf2⟩ := hfz
      have hzl : z32.length = 32 := rfl
      clear hr1 hrl' hrl
      generalize z32 = Z at *
      repeat' (first | (with_reducible first | apply jA | apply jB | apply jC | apply jD | apply jE | apply jF | apply jG | apply jH | apply jI | apply jJ | apply jK | apply jL | apply jM | apply jN | apply jO) | ((with_reducible first | apply jP | apply jQ); rfl) | ((first | ((with_reducible first | apply jR | apply jS | apply jT); rfl; rfl) | (with_reducible first | apply jU | apply jV | apply jW) | ((with_reducible first | apply jX | apply jY | apply jZ); rfl) | ((with_reducible first | apply kA | apply kB | apply kC); rfl)); all_goals (first | ((with_reducible show Is _ _); exact kE) | ((with_reducible refine fun (hc : (_ : Bool) = _) => ?_); (try simp only [xZ, xY, xP, reduceCtorEq] at hc); (try (have hx : True := hc; clear hx hc)); (try exact kX)) | ((with_reducible show ACall _ _ _ _ _); (first | ((with_reducible apply hr2) <;> exact kD) | ((with_reducible apply hf2) <;> exact kD) | ((with_reducible apply hsm) <;> exact kD) | ((with_reducible apply hbg) <;> exact kD))) | ((fail_if_success (with_reducible first | show Is _ _ | show ACall _ _ _ _ _)); (try ((with_reducible show _ ∨ _); exact kT))))))
      all_goals rfl
end Go.Proofs.YtdceppjoipoohaaGreatDoor
end
section
namespace Go.Sy
set_option linter.all false
open Go.RowKit (Below)
open Go.ChangeShapes Go.WideShapes
section
variable {H : Type} {enc : TypeId × Value → H} {P : Program} {W : World} {base : Nat} {held : Bool}
def Old (W : World) : Nat → Nat → Prop := fun b _ => b < W.heap.size
theorem fz_true {fr nz : Bool} {B : List Box} {k : Nat} {c : CV} {t : Bool} (h : fz nz fr B k c = some (.bool t)) : c = .bool t := by
  cases k with
  | zero => simp [fz] at h
  | succ k =>
    cases c <;> simp only [fz] at h
    case bool b => simpa using h
    case nilS => cases nz <;> simp at h
    case view => split at h <;> simp at h
    case cview => split at h <;> simp at h
    case ptr => split at h <;> (try split at h) <;> simp at h
    case lst => split at h <;> simp at h
    case iptr => split at h <;> simp at h
    case fn => split at h <;> simp at h
    all_goals simp at h
theorem PC.calls {fr : Bool} {f : FuncId} {args : List CV} {vs : List Value} (h : PC P fr f args (.bool true)) (hv : R (Old W) [] W false args vs) (ht : TabsOk (Old W) W) : Calls P f vs.toArray W fun e w' => e = .returned (.bool true) ∧ Below W.heap.size W w' := by
  refine (h.2 W.heap.size (Old W) [] W vs (BRel.none_ W _ (fun _ _ h => h) ht) hv).mono fun e w' ⟨c, v, B', I', μ', he, hQ, hs⟩ => ?_
  have := fz_true hQ
  subst this
  exact ⟨by rw [he, hs.val.bool_inv], hs.below⟩
theorem byte_of_wf {n : Int} (h : (Lit.int .u8 n).wf = true) : ∃ b : UInt8, n = b.toNat := by
  have := bounds_u8 h
  exact ⟨UInt8.ofNat n.toNat, by simp; omega⟩
theorem bytes_cells : ∀ (vs : List Value), (∀ v ∈ vs, ∃ n, v = .int .u8 n ∧ (Lit.int .u8 n).wf = true) → ∃ l : List UInt8, vs = l.map fun b => .int .u8 (b.toNat : Int)
  | [], _ => ⟨[], rfl⟩
  | v :: vs, h => by
    obtain ⟨n, rfl, hn⟩ := h v (by simp)
    obtain ⟨b, rfl⟩ := byte_of_wf hn
    obtain ⟨l, rfl⟩ := bytes_cells vs fun v hv => h v (by simp [hv])
    exact ⟨b :: l, rfl⟩
theorem R_bytes (I : Nat → Nat → Prop) (μ : List (List Place)) (w : World) (one : Bool) : ∀ l : List UInt8, R I μ w one (l.map byteC) (l.map fun b => .int .u8 (b.toNat : Int))
  | [] => .nil _
  | b :: l => .int _ _ (R_bytes I μ w one l)
theorem open_bytes {r : Reach} {b0 : Nat} {t e : TypeId} {v : Value} {d : DataW H} {ps : List MemPlace} (ht : P.underlying t = some (.slice e)) (he : P.underlying e = some (.int .u8)) (hc : P.cellsOf e = 1)
    (hval : Value.okWide P W r b0 t v) (hd : DataW.Trod enc P W base (fun _ => true) held t v d ps) : ∃ l : List UInt8, l.length ≤ maxLen ∧ V (Old W) [] W (lb l) v := by
  obtain ⟨a0, len0, cap0, rfl⟩ := okWide_slice ht hval
  obtain ⟨fuel, hf⟩ := hd
  rcases open_ints ht he hc hf with ⟨hcs, _⟩ | ⟨x, l, c, zs, hcs, _, hl, hm, hz, _, hcell, hwz⟩
  · simp [Value.cells] at hcs
    obtain ⟨rfl, rfl, rfl⟩ := hcs
    exact ⟨[], by simp, .lstE _ _ (.nil _)⟩
  · simp [Value.cells] at hcs
    obtain ⟨rfl, rfl, rfl⟩ := hcs
    simp only [if_true] at hz
    by_cases hc0 : cap0 = 0
    · subst hc0
      obtain rfl : len0 = 0 := by omega
      exact ⟨[], by simp, .lstE _ _ (.nil _)⟩
    · obtain ⟨b, off, spot⟩ := x
      have hspot : spot = none := by simpa [Addr.add] using World.cell?_spot (hcell 0 (by omega))
      subst hspot
      obtain ⟨bl, hbl⟩ := bytes_cells ((zs.take len0).map (Value.int .u8)) fun v hv => by
        obtain ⟨n, hn, rfl⟩ := List.mem_map.1 hv
        exact ⟨n, rfl, hwz n (List.mem_of_mem_take hn)⟩
      have hlen : bl.length = len0 := by
        have := congrArg List.length hbl
        simp at this; omega
      refine ⟨bl, by omega, ?_⟩
      rw [lb, hlen]
      refine .lst len0 false b off cap0 (R_bytes _ _ _ _ bl) (fun j v hj => ?_) hl (fun h => by cases h) (.nil _)
      rw [← hbl] at hj
      have hjl : j < len0 := by have := (List.getElem?_eq_some_iff.1 hj).1; simp at this; omega
      have h1 := hcell j (by omega)
      rw [show Addr.add ⟨b, off, none⟩ j = ⟨b, off + j, none⟩ by unfold Addr.add; split <;> simp_all] at h1
      have h2 : v = .int .u8 (zs.getD j 0) := by
        rw [List.getElem?_map, List.getElem?_take_of_lt hjl, List.getElem?_eq_getElem (by omega)] at hj
        simp at hj
        rw [← hj, List.getD_eq_getElem?_getD, List.getElem?_eq_getElem (by omega)]; rfl
      subst h2
      refine ⟨h1, ?_⟩
      unfold World.cell? at h1
      show b < W.heap.size
      rcases Nat.lt_or_ge b W.heap.size with hb | hb
      · exact hb
      · have : W.heap[b]? = none := Array.getElem?_eq_none hb
        simp [this] at h1
theorem V_cons {I : Nat → Nat → Prop} {μ : List (List Place)} {w : World} {c : CV} {v : Value} {cs : List CV} {vs : List Value} (h : V I μ w c v) (hs : R I μ w false cs vs) : R I μ w false (c :: cs) (v :: vs) := .cons h (by simp) hs
end
end Go.Sy
end
section
namespace Go.Sy
set_option linter.all false
open Go.RowKit (Below)
open Go.ChangeShapes Go.WideShapes
section
variable {H : Type} {enc : TypeId × Value → H} {P : Program} {W : World} {base : Nat} {held : Bool}
def Opn (enc : TypeId × Value → H) (P : Program) (W : World) (base : Nat) (held : Bool) (t : TypeId) {α : Type} (f : α → List CV) (ok : α → Prop) : Prop :=
  ∀ (fuel : Nat) (cs : List Value) (x : DataW H × List MemPlace), DataW.trod enc P W base (fun _ => true) held fuel t cs = some x → ∃ a, ok a ∧ R (Old W) [] W true (f a) cs
inductive OpnF (enc : TypeId × Value → H) (P : Program) (W : World) (base : Nat) (held : Bool) : (off : Nat) → List Field → {α : Type} → (α → List CV) → (α → Prop) → Prop
  | one {off : Nat} {f : Field} {α : Type} {g : α → List CV} {ok : α → Prop} (h0 : f.offset = off) (h : Opn enc P W base held f.type g ok) : OpnF enc P W base held off [f] g ok
  | cons {off n : Nat} {f : Field} {fs : List Field} {α β : Type} {g : α → List CV} {ok : α → Prop} {g' : β → List CV} {ok' : β → Prop} (h0 : f.offset = off) (hc : P.cellsOf f.type = n) (h : Opn enc P W base held f.type g ok)
      (hs : OpnF enc P W base held (off + n) fs g' ok') : OpnF enc P W base held off (f :: fs) (fun p : α × β => g p.1 ++ g' p.2) (fun p => ok p.1 ∧ ok' p.2)
end
end Go.Sy
end
section
namespace Go.Proofs.YtdceppjoipoohaaGreatDoor
open Go Go.Sy
set_option linter.all false
set_option maxRecDepth 100000
set_option maxHeartbeats 4000000
theorem tab_reads {W : World} {n : String} {g : Nat} {k : IntKind} {zs : List Int} {t e : TypeId} {m : Nat} (hg : Tryz.prog.globalNamed n = some g) (hty : (Tryz.prog.globals[g]?).map (·.type) = some t) (ht : Tryz.prog.underlying t = some (.array m e)) (he : Tryz.prog.underlying e = some (.int k)) (hce : Tryz.prog.cellsOf e = 1) (hct : Tryz.prog.cellsOf t = m) (hz : 0 < zs.length) (h : Go.Lib.VarReads Tryz.prog W n (Go.Lib.tabData k zs)) : ∀ j : Nat, W.cell? ⟨g, j, none⟩ = (zs[j]?).map (.int k) ∧ Old W g j := by
  obtain ⟨g', t', cs, fuel, p, hg', ht', hvar, hd⟩ := h
  obtain rfl := Option.some.inj (hg.symm.trans hg')
  obtain rfl := Option.some.inj (hty.symm.trans ht')
  have hc := Go.Lib.cells_of_tab ht he hce hct hd
  have hcell : ∀ j : Nat, W.cell? ⟨g, j, none⟩ = (zs[j]?).map (.int k) := fun j => by
    rw [World.var?_cell hg hvar j, ← Array.getElem?_toList, hc, List.getElem?_map]
  refine fun j => ⟨hcell j, ?_⟩
  have h0 := hcell 0
  rw [List.getElem?_eq_getElem hz] at h0
  show g < W.heap.size
  rcases Nat.lt_or_ge g W.heap.size with h | h
  · exact h
  · unfold World.cell? at h0
    rw [show W.heap[(⟨g, 0, Option.none⟩ : Addr).block]? = Option.none from Array.getElem?_eq_none h] at h0
    cases h0
theorem int_lives {W : World} {g : Nat} {k : IntKind} (h : ∃ m, W.cell? ⟨g, 0, none⟩ = some (.int k m)) : Old W g 0 := by
  obtain ⟨m, h0⟩ := h
  show g < W.heap.size
  rcases Nat.lt_or_ge g W.heap.size with h | h
  · exact h
  · unfold World.cell? at h0
    rw [show W.heap[(⟨g, 0, Option.none⟩ : Addr).block]? = Option.none from Array.getElem?_eq_none h] at h0
    cases h0
theorem tabs_of {W : World} (hS : W.ShapedOpen Tryz.prog) (hL : laidMet Tryz.prog [("math/bits.deBruijn32tab", Rows.laid_math_bits_deBruijn32tab), ("math/bits.deBruijn64tab", Rows.laid_math_bits_deBruijn64tab), ("internal/strconv.uint64pow10", Rows.laid_internal_strconv_uint64pow10), ("unicode/utf8.acceptRanges", Rows.laid_unicode_utf8_acceptRanges), ("unicode/utf8.first", Rows.laid_unicode_utf8_first)] W) : TabsOk (Old W) W := by
  constructor
  · intro g k zs hg
    unfold tab at hg
    split at hg
    · obtain ⟨rfl, rfl⟩ := Prod.mk.inj (Option.some.inj hg)
      exact tab_reads (t := 138) (by kernel_rfl) (by kernel_rfl) Tryz.underlying138 Tryz.underlying117 (by kernel_rfl) (by kernel_rfl) (by decide) (Go.Lib.laidMet.reads hL (n := "internal/strconv.uint64pow10") (.tail _ (.tail _ (.head _))))
    · obtain ⟨rfl, rfl⟩ := Prod.mk.inj (Option.some.inj hg)
      exact tab_reads (t := 22) (by kernel_rfl) (by kernel_rfl) Tryz.underlying22 Tryz.underlying5 (by kernel_rfl) (by kernel_rfl) (by decide) (Go.Lib.laidMet.reads hL (n := "math/bits.deBruijn32tab") (.head _))
    · obtain ⟨rfl, rfl⟩ := Prod.mk.inj (Option.some.inj hg)
      exact tab_reads (t := 160) (by kernel_rfl) (by kernel_rfl) Tryz.underlying160 Tryz.underlying5 (by kernel_rfl) (by kernel_rfl) (by decide) (Go.Lib.laidMet.reads hL (n := "math/bits.deBruijn64tab") (.tail _ (.head _)))
    · cases hg
  · intro g hg
    obtain rfl : g = 1 := by simpa [tabInts] using hg
    have h : ∃ m, W.cell? ⟨1, 0, none⟩ = some (.int .i64 m) := cell_of_shapedOpen_int (t := 3) hS (by decide +kernel) (zero := #[.int .i64 0]) (by kernel_rfl) rfl (by kernel_rfl) (by kernel_rfl) Tryz.underlying3
    exact ⟨int_lives h, h⟩
theorem handed_laid {H : Type} {enc : TypeId × Value → H} {C : Checked} {os : Os} {f : FuncId} {fn : Func} {s : ChangeSpec} {conds : List PathCond} {apart fresh handsOn again : Bool} {X : World → Array Value → Prop}
    (hX : ∀ (w w' : World) (args : Array Value), w.heap = w'.heap → X w args → X w' args)
    (own : ownKnob C.prog.godebug = none) (started : os.Started) (noInit : C.prog.inits.idxOf? f = none) (hfn : C.prog.funcs[f]? = some fn)
    (witness : ∃ (w : World) (tape : Tape) (i : Input), w.os = os ∧ (w.forCall tape i).Shaped C.prog ∧ i.vars = [] ∧ Input.okWide C.prog (w.forCall tape i) .any w.heap.size f i ∧
      ((s.pre enc C.prog fn conds apart (w.forCall tape i).memory i.args ∧ X (w.forCall tape i).memory i.args) ∧ sizedMet enc C.prog fn (OpenSpec.ofChange s) apart (w.forCall tape i).memory i.args) ∧ Assume.holds {} C.prog (lone (Frame.enter C.prog f i.args .normal) [] (w.forCall tape i)))
    (contract : ∀ (W : World) (base : Nat) (args : Array Value) (ds gs : List (DataW H)) (before : List MemPlace),
      (∀ (j : Nat) t v, fn.params[j]? = some t → args[j]? = some v → Value.okWide C.prog W .any base t v) →
      DataW.Whole enc C.prog fn.params.toList s.vars apart W args.toList ds gs before → W.ShapedOpen C.prog → X W args →
      Calls C.prog f args W fun e W' => ∃ v, e = .returned v ∧ s.post enc C.prog fn apart fresh handsOn again W args v W') :
    ReturnsInHanded {} C os f .any (fun w args => (s.pre enc C.prog fn conds apart w args ∧ X w args) ∧ sizedMet enc C.prog fn (OpenSpec.ofChange s) apart w args) (s.post enc C.prog fn apart fresh handsOn again) := by
  refine returnsInHanded_of_calls own started noInit witness ?_
  intro w tape i _ hsh _ hok hpre _
  obtain ⟨_, _, _, fn', hfn', _, _, _, _, hval⟩ := hok
  have e : fn' = fn := Option.some.inj (hfn'.symm.trans hfn)
  subst e
  obtain ⟨⟨⟨ds, gs, before, hw, hc⟩, hx⟩, hz⟩ := hpre
  have hw' := DataW.Whole.of_heap (w' := w.forCall tape i) (by rfl) hw
  refine (contract (w.forCall tape i) w.heap.size i.args ds gs before hval hw' hsh (hX _ _ _ (by rfl) hx)).mono fun e W' ⟨v, he, hp⟩ => ?_
  subst he
  exact ChangeSpec.post_blind hp
end Go.Proofs.YtdceppjoipoohaaGreatDoor
end
