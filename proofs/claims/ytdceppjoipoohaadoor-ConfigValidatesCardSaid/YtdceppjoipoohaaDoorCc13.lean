/- Lemmas and definitions of this claim (own texts, joined by a program; what the claim does not use is left out). -/
import Derived.Test.YtdceppjoipoohaaDoorCc12
import Derived.OpenShut
import Derived.ShutString
import Derived.ChangeOld
import Derived.Below
import Derived.ProofKit
import Derived.Test.YtdceppjoipoohaaDoorRows
import Derived.Lib.LaidU8
import Derived.Shelf.Vars
import Derived.Lay
import Derived.LaidOnce
import Derived.SizedLaws
section
namespace Go.Proofs.YtdceppjoipoohaaDoor
open Go Go.Sy
set_option linter.all false
set_option maxRecDepth 100000
set_option maxHeartbeats 4000000
theorem kE_VX0 {α : Type} {x y : α} (h : Is x y := by first | ((try simp (disch := first | omega | (simp only [yZ, yB] <;> omega) | fail) [go_sem, yY, *, rZ_len, rZ_drop, if_pos, if_neg, -List.map_take, -List.map_drop, -List.map_append, -List.map_reverse]); exact rfl) | fail) : Is x y := h
def pfN63 (n : Int) : Pf := ((false, List.replicate 16 0), Go.bits .and .i64 n 63)
def spoilG (port : Int) (T : List Pe) (i : Nat) (q : Pe) (a wh n : Int) : Int × List Pe :=
  if wh % 8 = 0 then (n, T) else if wh % 8 = 1 then (port, T.set i ((T.headD q).1, q.2)) else if wh % 8 = 2 then (port, T.set i (q.1, q.2.1, !q.2.2.1, q.2.2.2))
  else if wh % 8 = 3 then (port, T.set i (q.1, q.2.1, q.2.2.1, (q.2.2.2.1.1, n), q.2.2.2.2)) else if wh % 8 = 4 then (port, T.set i (q.1, q.2.1, q.2.2.1, q.2.2.2.1, n, q.2.2.2.2.2))
  else if wh % 8 = 5 then (port, T.set i (q.1, q.2.1, q.2.2.1, q.2.2.2.1, q.2.2.2.2.1, q.2.2.2.2.2 ++ [pfN63 n])) else if wh % 8 = 6 then (port, T.set i (q.1, q.2.1, q.2.2.1, q.2.2.2.1, q.2.2.2.2.1, q.2.2.2.2.2 ++ q.2.2.2.2.2))
  else (port, T ++ List.replicate (a % 9).toNat peO)
def spoilF (port : Int) (T : List Pe) (a wh n : Int) : Int × List Pe := match T[(a % (T.length : Int)).toNat]? with
  | none => (n, [])
  | some q => spoilG port T (a % (T.length : Int)).toNat q a wh n
theorem spoilF_nil (port a wh n : Int) : spoilF port [] a wh n = (n, []) := by simp [spoilF]
theorem spoilF_at {port a wh n : Int} {T : List Pe} {i : Nat} (h : i < T.length) (hi : a % (T.length : Int) = i) : spoilF port T a wh n = spoilG port T i T[i] a wh n := by
  unfold spoilF
  rw [hi, Int.toNat_natCast, List.getElem?_eq_getElem h]
theorem setCf {K : List UInt8} {port : Int} {T : List Pe} {i : Nat} {q : Pe} (hpo : -9223372036854775808 ≤ port ∧ port ≤ 9223372036854775807) (hT1 : ∀ p ∈ T, PeL p) (hT2 : T.length ≤ 10) (hT3 : ∀ p ∈ T, p.2.2.2.2.2.length ≤ 6) (hq : PeL q) (hq2 : q.2.2.2.2.2.length ≤ 12) : CfOk K (.agg (cfC (K, port, T.set i q))) := by
  refine ⟨port, T.set i q, rfl, hpo, fun p hp => ?_, by rw [List.length_set]; omega, fun p hp => ?_⟩
  · rcases List.mem_or_eq_of_mem_set hp with h | rfl
    · exact hT1 p h
    · exact hq
  · rcases List.mem_or_eq_of_mem_set hp with h | rfl
    · exact Nat.le_trans (hT3 p h) (by omega)
    · exact hq2
theorem spoilF_ok {K : List UInt8} {port a wh n : Int} {T : List Pe} (hpo : -9223372036854775808 ≤ port ∧ port ≤ 9223372036854775807) (hn : -9223372036854775808 ≤ n ∧ n ≤ 9223372036854775807) (ha : 0 ≤ a) (hT1 : ∀ p ∈ T, PeL p) (hT2 : T.length ≤ 10) (hT3 : ∀ p ∈ T, p.2.2.2.2.2.length ≤ 6) : CfOk K (.agg (cfC (K, spoilF port T a wh n))) := by
  cases hT : T with
  | nil => rw [spoilF_nil]; exact ⟨n, [], rfl, hn, by simp, by simp, by simp⟩
  | cons t T' =>
    rw [← hT]
    have hm : 1 ≤ T.length := by rw [hT]; simp
    obtain ⟨i, hi3⟩ : ∃ i : Nat, a % (T.length : Int) = i := ⟨(a % (T.length : Int)).toNat, by have := Int.emod_nonneg a (show (T.length : Int) ≠ 0 by omega); omega⟩
    have hi2 : i < T.length := by have := Int.emod_lt_of_pos a (show (0 : Int) < T.length by omega); omega
    have hq := hT1 T[i] (List.getElem_mem hi2)
    have hqa := hT3 T[i] (List.getElem_mem hi2)
    have hq0 : ∀ q : Pe, (T.headD q).1.length = 32 := fun q => by rw [hT]; exact (hT1 t (by rw [hT]; simp)).1
    have hbi : -9223372036854775808 ≤ Go.bits .and .i64 n 63 ∧ Go.bits .and .i64 n 63 ≤ 9223372036854775807 := wrap64 _
    rw [spoilF_at hi2 hi3]
    unfold spoilG
    repeat' split
    · exact ⟨n, T, rfl, hn, hT1, by omega, fun p hp => Nat.le_trans (hT3 p hp) (by omega)⟩
    · exact setCf hpo hT1 hT2 hT3 ⟨hq0 _, hq.2⟩ (by simp only; omega)
    · exact setCf hpo hT1 hT2 hT3 ⟨hq.1, hq.2.1, hq.2.2⟩ (by simp only; omega)
    · exact setCf hpo hT1 hT2 hT3 ⟨hq.1, hq.2.1, ⟨hq.2.2.1.1, hn⟩, hq.2.2.2⟩ (by simp only; omega)
    · exact setCf hpo hT1 hT2 hT3 ⟨hq.1, hq.2.1, hq.2.2.1, hn, hq.2.2.2.2⟩ (by simp only; omega)
    · refine setCf hpo hT1 hT2 hT3 ⟨hq.1, hq.2.1, hq.2.2.1, hq.2.2.2.1, fun p hp => ?_⟩ (by simp only [List.length_append, List.length_singleton]; omega)
      rcases List.mem_append.1 hp with h | h
      · exact hq.2.2.2.2 p h
      · rw [List.mem_singleton.1 h]; exact ⟨by simp [pfN63], hbi⟩
    · exact setCf hpo hT1 hT2 hT3 ⟨hq.1, hq.2.1, hq.2.2.1, hq.2.2.2.1, fun p hp => hq.2.2.2.2 p (by rcases List.mem_append.1 hp with h | h <;> exact h)⟩ (by simp only [List.length_append]; omega)
    · refine ⟨port, T ++ List.replicate (a % 9).toNat peO, rfl, hpo, fun p hp => ?_, by rw [List.length_append, List.length_replicate]; omega, fun p hp => ?_⟩
      · rcases List.mem_append.1 hp with h | h
        · exact hT1 p h
        · rw [List.eq_of_mem_replicate h]; exact peO_len
      · rcases List.mem_append.1 hp with h | h
        · exact Nat.le_trans (hT3 p h) (by omega)
        · rw [List.eq_of_mem_replicate h]; simp [peO]
theorem crow8 {K : List UInt8} {port : Int} {T : List Pe} {D E : List CV} {k β : Nat} {row : CV} {B : List Box} (hT1 : ∀ p ∈ T, PeL p) (hD : D.take (T.length * 85) = T.flatMap peC) (hr : row = .view β 0 (T.length + k) 85 false ∨ ∃ cap, row = .cview β 0 (T.length + k) cap 85) (hB : B[β]? = some ⟨D.take (T.length * 85) ++ (repC peZ k ++ E), false⟩) : fz true false B 6 (.agg (K.map byteC ++ [.int .i64 port, row])) = some (.agg (cfC (K, port, T ++ List.replicate k peO))) := by
  have hl : (T ++ List.replicate k peO).length = T.length + k := by simp
  exact crow_fz (.inr ⟨β, _, by rw [hl]; exact hr, hB, by rw [hl]; exact row7 hT1 hD⟩)
theorem spoiltF_in (K : List UInt8) (port : Int) (ps : List Pe) (what at_ : UInt8) (n : Int) (hK : K.length = 32) (hpo : -9223372036854775808 ≤ port ∧ port ≤ 9223372036854775807) (hn : -9223372036854775808 ≤ n ∧ n ≤ 9223372036854775807) (hps : ∀ p ∈ ps, PeL p) (hl : ps.length ≤ maxLen) (hal : ∀ p ∈ ps, p.2.2.2.2.2.length ≤ maxLen) {B : List Box} {args : List CV} (hz : Is args [.agg (cfC (K, port, ps)), byteC what, byteC at_, .int .i64 n]) : ACall Tryd.prog 23 args B fun c B' => c = .agg (cfC (K, spoilF port (cutPs ps) at_.toNat what.toNat n)) ∧ B' = B := by
  obtain rfl := hz
  refine acall_immQ (Q := fun c => c = .agg (cfC (K, spoilF port (cutPs ps) at_.toNat what.toNat n))) (nz := true) (fr := false) (args' := [.agg (cfC (K, port, ps)), byteC what, byteC at_, .int .i64 n]) (by rw [omap_two, fz_agg, cf_om]; rfl) ?_
  obtain ⟨a, ha, hae, ha2⟩ : ∃ a : Int, (0 ≤ a ∧ a ≤ 255) ∧ byteC at_ = .int .u8 a ∧ (at_.toNat : Int) = a := ⟨at_.toNat, ⟨by omega, by have := at_.toNat_lt; omega⟩, rfl, rfl⟩
  obtain ⟨wh, hw, hwe, hw2⟩ : ∃ a : Int, (0 ≤ a ∧ a ≤ 255) ∧ byteC what = .int .u8 a ∧ (what.toNat : Int) = a := ⟨what.toNat, ⟨by omega, by have := what.toNat_lt; omega⟩, rfl, rfl⟩
  rw [hae, hwe, ha2, hw2]
  clear hae hwe ha2 hw2
  have hcu : ∀ {B : List Box} {args : List CV}, Is args [.agg (cfC (K, port, ps))] → ACall Tryd.prog 24 args B fun c B' => (∃ row, c = .agg (K.map byteC ++ [.int .i64 port, row]) ∧ CutR B row (cutPs ps) B') ∧ ∃ X, B' = B ++ X := fun hz => cut_at K port ps hK hps hl hal hz
  have hT1 := cutPs_mem hps
  have hT2 := @cutPs_len ps
  have hT3 := @cutPs_al ps
  have hCl := (cf_parts (c := (K, port, ps)) hK).2.2.2
  generalize cutPs ps = T at *
  obtain ⟨SP, hSP⟩ : ∃ SP, spoilF port T a wh n = SP := ⟨_, rfl⟩
  rw [hSP]
  replace hSP : Hid _ := hSP
  generalize cfC (K, port, ps) = C at *
  have r1 : ∀ p x, (K.map byteC ++ [CV.int .i64 p, x]).drop 33 = [x] := fun p x => by rw [show (33 : Nat) = 32 + 1 from rfl, ← List.drop_drop, List.drop_left' (by simp [hK])]; rfl
  have r2 : ∀ p x, (K.map byteC ++ [CV.int .i64 p, x]).length = 34 := fun p x => by simp [hK]
  replace hps : Hid _ := hps
  replace hal : Hid _ := hal
  replace hT1 : Hid _ := hT1
  replace hT3 : Hid _ := hT3
  clear hps hal
  refine acall_intro mixed Tryd.func23 rfl ca23 (by kernel_rfl) (by rw [Tryd.ntmps23]; simp) ?_
  repeat' (first | (with_reducible first | apply jA | apply jB | apply jC | apply jD | apply jE | apply jF | apply jG | apply jH | apply jI | apply jJ | apply jK | apply jL | apply jM | apply jN | apply jO) | ((with_reducible first | apply jP | apply jQ); rfl) | ((first | ((with_reducible first | apply jR | apply jS | apply jT); rfl; rfl) | (with_reducible first | apply jU | apply jV | apply jW) | ((with_reducible first | apply jX | apply jY | apply jZ); rfl)); all_goals (first | ((with_reducible show Is _ _); exact kE) | ((with_reducible refine fun (hc : (_ : Bool) = _) => ?_); (try simp only [xZ, xY, xP, reduceCtorEq] at hc); (try (have hx : True := hc; clear hx hc)); (try exact kX)) | ((fail_if_success (with_reducible first | show Is _ _ | show ACall _ _ _ _ _)); (try ((with_reducible show _ ∨ _); exact kT))))) | (((with_reducible first | apply o_callQ | apply q_callQ); rfl); (iterate 2 exact kE); (first | ((with_reducible apply hcu) <;> exact kD))))
  rintro _ B2 ⟨⟨row, rfl, hr⟩, X, rfl⟩
  clear hcu
  have hs1 : ∀ p x q, (K.map byteC ++ [CV.int .i64 p, x]).take 32 ++ CV.int .i64 q :: (K.map byteC ++ [CV.int .i64 p, x]).drop 33 = K.map byteC ++ [CV.int .i64 q, x] := fun p x q => by rw [r1, List.take_left' (by simp [hK])]
  rcases hr with ⟨rfl, rfl⟩ | ⟨β, cap, Z, hβ, rfl, hb, hD⟩
  · repeat' (first | (with_reducible first | apply jA | apply jB | apply jC | apply jD | apply jE | apply jF | apply jG | apply jH | apply jI | apply jJ | apply jK | apply jL | apply jM | apply jN | apply jO) | ((with_reducible first | apply jP | apply jQ); rfl) | ((first | ((with_reducible first | apply jR | apply jS | apply jT); rfl; rfl) | (with_reducible first | apply jU | apply jV | apply jW) | ((with_reducible first | apply jX | apply jY | apply jZ); rfl)); all_goals (first | ((with_reducible show Is _ _); exact kE_VX0) | ((with_reducible refine fun (hc : (_ : Bool) = _) => ?_); (try simp only [xZ, xY, xP, reduceCtorEq] at hc); (try (have hx : True := hc; clear hx hc)); (try exact kX)) | ((fail_if_success (with_reducible first | show Is _ _ | show ACall _ _ _ _ _)); (try ((with_reducible show _ ∨ _); exact kT))))))
    refine ⟨_, rfl, ?_⟩
    rw [← (show spoilF port [] a wh n = SP from hSP), spoilF_nil]
    exact crow_fz (.inl ⟨rfl, rfl⟩)
  obtain ⟨b, rfl⟩ : ∃ b, β = b + 2 := ⟨β - 2, by simp at hβ; omega⟩
  have hX : X[b]? = some ⟨T.flatMap peC ++ Z, false⟩ := by simpa using hb
  clear hb hβ
  by_cases hm1 : T = []
  · subst hm1
    repeat' (first | (with_reducible first | apply jA | apply jB | apply jC | apply jD | apply jE | apply jF | apply jG | apply jH | apply jI | apply jJ | apply jK | apply jL | apply jM | apply jN | apply jO) | ((with_reducible first | apply jP | apply jQ); rfl) | ((first | ((with_reducible first | apply jR | apply jS | apply jT); rfl; rfl) | (with_reducible first | apply jU | apply jV | apply jW) | ((with_reducible first | apply jX | apply jY | apply jZ); rfl)); all_goals (first | ((with_reducible show Is _ _); exact kE_VX0) | ((with_reducible refine fun (hc : (_ : Bool) = _) => ?_); (try simp only [xZ, xY, xP, reduceCtorEq] at hc); (try (have hx : True := hc; clear hx hc)); (try exact kX)) | ((fail_if_success (with_reducible first | show Is _ _ | show ACall _ _ _ _ _)); (try ((with_reducible show _ ∨ _); exact kT))))))
    refine ⟨_, rfl, ?_⟩
    rw [← (show spoilF port [] a wh n = SP from hSP), spoilF_nil]
    exact crow_fz (.inr ⟨b + 2, _, .inr ⟨cap, rfl⟩, by simpa using hX, by simp; rfl⟩)
  have hm : 1 ≤ T.length := by cases T with | nil => exact absurd rfl hm1 | cons => simp
  have hcap : T.length ≤ cap := by
    rw [List.length_append, fl_len fun p hp => peC_len ((hT1 : ∀ p ∈ T, PeL p) p hp)] at hD
    omega
  obtain ⟨i, hi3⟩ : ∃ i : Nat, a % (T.length : Int) = i := ⟨(a % (T.length : Int)).toNat, by have := Int.emod_nonneg a (show (T.length : Int) ≠ 0 by omega); omega⟩
  have hi2 : i < T.length := by have := Int.emod_lt_of_pos a (show (0 : Int) < T.length by omega); omega
  have hT1 : ∀ p ∈ T, PeL p := hT1
  have hT3 : ∀ p ∈ T, p.2.2.2.2.2.length ≤ 6 := hT3
  have hq := hT1 T[i] (List.getElem_mem hi2)
  have hq0 := hT1 T[0] (List.getElem_mem hm)
  have hqa := hT3 T[i] (List.getElem_mem hi2)
  have hrow : ∀ (o : Nat) (vs : List CV) (q : Pe) (B : List Box), o + vs.length ≤ 85 → omap (Go.Sy.fz true false B 4) (splice (peC T[i]) o vs) = some (peC q) → omap (Go.Sy.fz true false B 4) ((splice (T.flatMap peC ++ Z) (i * 85 + o) vs).take (T.length * 85)) = some ((T.set i q).flatMap peC) := fun o vs q B => spoil_row hT1 hi2
  obtain ⟨D, hD2⟩ : ∃ D, T.flatMap peC ++ Z = D := ⟨_, rfl⟩
  have hc0 : D.take 85 = peC T[0] := by
    rw [← hD2]
    obtain ⟨t, T', rfl⟩ : ∃ t T', T = t :: T' := by cases T with | nil => exact absurd rfl hm1 | cons t T' => exact ⟨t, T', rfl⟩
    rw [List.flatMap_cons, List.append_assoc]; exact List.take_left' (peC_len hq0)
  have x0 : D.take 32 = T[0].1.map byteC := by
    rw [show D.take 32 = (D.take 85).take 32 by rw [List.take_take]; rfl, hc0, peC, List.take_left' (by simp [hq0.1])]
  have hci : (D.drop (i * 85)).take 85 = peC T[i] := by
    rw [← hD2, List.drop_append_of_le_length (by rw [fl_len fun p hp => peC_len (hT1 p hp)]; omega), List.take_append_of_le_length (by rw [List.length_drop, fl_len fun p hp => peC_len (hT1 p hp)]; omega)]
    exact fl_get (fun p hp => peC_len (hT1 p hp)) i hi2
  have xo : ∀ o, o < 85 → D[i * 85 + o]? = (peC T[i])[o]? := fun o ho => by rw [← hci, List.getElem?_take, if_pos ho, List.getElem?_drop]
  have x64 : D[i * 85 + 64]? = some (.bool T[i].2.2.1) := by
    rw [xo 64 (by omega), peC, ← List.append_assoc, List.getElem?_append_right (by simp [hq.1, hq.2.1])]; simp [hq.1, hq.2.1]
  have x84 : D[i * 85 + 84]? = some (.lst T[i].2.2.2.2.2.length (T[i].2.2.2.2.2.flatMap pfC) false) := by
    rw [xo 84 (by omega), peC_eq, List.getElem?_append_right (by rw [peH_len hq]; omega), peH_len hq]; rfl
  rw [hD2] at hX hD hrow
  have y64 : ∀ h : i * 85 + 64 < D.length, D[i * 85 + 64] = .bool T[i].2.2.1 := fun h => (List.getElem?_eq_some_iff.1 x64).2
  have y84 : ∀ h : i * 85 + 84 < D.length, D[i * 85 + 84] = .lst T[i].2.2.2.2.2.length (T[i].2.2.2.2.2.flatMap pfC) false := fun h => (List.getElem?_eq_some_iff.1 x84).2
  have q0l : T[0].1.length = 32 := hq0.1
  have hhd : (T.headD T[i]).1 = T[0].1 := by
    obtain ⟨t, T', rfl⟩ : ∃ t T', T = t :: T' := by cases T with | nil => exact absurd rfl hm1 | cons t T' => exact ⟨t, T', rfl⟩
    rfl
  replace hhd : Hid _ := hhd
  have hfin : ∀ (o : Nat) (vs : List CV) (q : Pe) (B' : List Box) (D' : List CV), PeL q → q.2.2.2.2.2.length ≤ 12 → o + vs.length ≤ 85 → omap (Go.Sy.fz true false B' 4) (splice (peC T[i]) o vs) = some (peC q) → D' = splice D (i * 85 + o) vs → B'[b + 2]? = some ⟨D', false⟩ → spoilG port T i T[i] a wh n = (port, T.set i q) → ∃ c', c' = .agg (cfC (K, SP)) ∧ fz true false B' 6 (.agg (K.map byteC ++ [.int .i64 port, .cview (b + 2) 0 T.length cap 85])) = some c' := fun o vs q B' D' a1 a2 a3 a4 a5 a6 a7 => ⟨_, rfl, by
    rw [← (show spoilF port T a wh n = SP from hSP), spoilF_at hi2 hi3, a7]
    exact crow_fz (.inr ⟨b + 2, D', .inr ⟨cap, by rw [List.length_set]⟩, a6, by rw [List.length_set]; subst a5; exact hrow o vs q B' a3 a4⟩)⟩
  replace hfin : Hid _ := hfin
  clear x64 x84
  clear xo hci hc0
  replace hD2 : Hid _ := hD2
  replace hT1 : Hid _ := hT1
  replace hT3 : Hid _ := hT3
  replace hrow : Hid _ := hrow
  replace hq : Hid _ := hq
  replace hq0 : Hid _ := hq0
  have xb := bx_pack hX
  have hb3 := xb.2.2.2.1
  have hb4 := xb.2.2.2.2.2.1
  replace hb3 : Hid _ := hb3
  replace hb4 : Hid _ := hb4
  have hb2 : ∀ y, (X.set b y)[b]? = some y := xb.2.2.1
  have hx : wh % 8 = 0 ∨ wh % 8 = 1 ∨ wh % 8 = 2 ∨ wh % 8 = 3 ∨ wh % 8 = 4 ∨ wh % 8 = 5 ∨ wh % 8 = 6 ∨ wh % 8 = 7 := by omega
  rcases hx with h8 | h8 | h8 | h8 | h8 | h8 | h8 | h8
  · repeat' (first | (with_reducible first | apply jA | apply jB | apply jC | apply jD | apply jE | apply jF | apply jG | apply jH | apply jI | apply jJ | apply jK | apply jL | apply jM | apply jN | apply jO) | ((with_reducible first | apply jP | apply jQ); rfl) | ((first | ((with_reducible first | apply jR | apply jS | apply jT); rfl; rfl) | (with_reducible first | apply jU | apply jV | apply jW) | ((with_reducible first | apply jX | apply jY | apply jZ); rfl)); all_goals (first | ((with_reducible show Is _ _); exact kE_VX0) | ((with_reducible refine fun (hc : (_ : Bool) = _) => ?_); (try simp only [xZ, xY, xP, reduceCtorEq] at hc); (try (have hx : True := hc; clear hx hc)); (try exact kX)) | ((fail_if_success (with_reducible first | show Is _ _ | show ACall _ _ _ _ _)); (try ((with_reducible show _ ∨ _); exact kT))))))
    refine ⟨_, rfl, ?_⟩
    rw [← (show spoilF port T a wh n = SP from hSP), spoilF_at hi2 hi3, spoilG, if_pos h8]
    exact crow_fz (.inr ⟨b + 2, D, .inr ⟨cap, rfl⟩, by simpa using hX, by
      have hD2 : _ = D := hD2
      rw [← hD2, List.take_left' (fl_len fun p hp => peC_len ((hT1 : ∀ p ∈ T, PeL p) p hp))]; exact pe_om _⟩)
  · repeat' (first | (with_reducible first | apply jA | apply jB | apply jC | apply jD | apply jE | apply jF | apply jG | apply jH | apply jI | apply jJ | apply jK | apply jL | apply jM | apply jN | apply jO) | ((with_reducible first | apply jP | apply jQ); rfl) | ((first | ((with_reducible first | apply jR | apply jS | apply jT); rfl; rfl) | (with_reducible first | apply jU | apply jV | apply jW) | ((with_reducible first | apply jX | apply jY | apply jZ); rfl)); all_goals (first | ((with_reducible show Is _ _); exact kE_VX0) | ((with_reducible refine fun (hc : (_ : Bool) = _) => ?_); (try simp only [xZ, xY, xP, reduceCtorEq] at hc); (try (have hx : True := hc; clear hx hc)); (try exact kX)) | ((fail_if_success (with_reducible first | show Is _ _ | show ACall _ _ _ _ _)); (try ((with_reducible show _ ∨ _); exact kT))))))
    refine hfin 0 (T[0].1.map byteC) (T[0].1, T[i].2) _ _ ⟨q0l, hq.2⟩ (by have := hqa; simp only; omega) (by simp [q0l]) (by rw [sp_pub hq.1 q0l]; exact pe_om1 _) ?_ (by rw [List.getElem?_cons_succ, List.getElem?_cons_succ]; exact hb2 _) ?g8
    case g8 => have hhd : (T.headD T[i]).1 = T[0].1 := hhd; rw [spoilG, if_neg (by omega), if_pos h8, hhd]
    simp [splice, q0l]
  · repeat' (first | (with_reducible first | apply jA | apply jB | apply jC | apply jD | apply jE | apply jF | apply jG | apply jH | apply jI | apply jJ | apply jK | apply jL | apply jM | apply jN | apply jO) | ((with_reducible first | apply jP | apply jQ); rfl) | ((first | ((with_reducible first | apply jR | apply jS | apply jT); rfl; rfl) | (with_reducible first | apply jU | apply jV | apply jW) | ((with_reducible first | apply jX | apply jY | apply jZ); rfl)); all_goals (first | ((with_reducible show Is _ _); exact kE_VX0) | ((with_reducible refine fun (hc : (_ : Bool) = _) => ?_); (try simp only [xZ, xY, xP, reduceCtorEq] at hc); (try (have hx : True := hc; clear hx hc)); (try exact kX)) | ((fail_if_success (with_reducible first | show Is _ _ | show ACall _ _ _ _ _)); (try ((with_reducible show _ ∨ _); exact kT))))))
    refine hfin 64 [.bool (!T[i].2.2.1)] (T[i].1, T[i].2.1, !T[i].2.2.1, T[i].2.2.2) _ _ ⟨hq.1, hq.2.1, hq.2.2⟩ (by have := hqa; simp only; omega) (by simp) (by rw [sp_has hq.1 hq.2.1]; exact pe_om1 _) ?_ (by rw [List.getElem?_cons_succ, List.getElem?_cons_succ]; exact hb2 _) ?g8
    case g8 => simp [spoilG, h8]
    simp [splice]
  · repeat' (first | (with_reducible first | apply jA | apply jB | apply jC | apply jD | apply jE | apply jF | apply jG | apply jH | apply jI | apply jJ | apply jK | apply jL | apply jM | apply jN | apply jO) | ((with_reducible first | apply jP | apply jQ); rfl) | ((first | ((with_reducible first | apply jR | apply jS | apply jT); rfl; rfl) | (with_reducible first | apply jU | apply jV | apply jW) | ((with_reducible first | apply jX | apply jY | apply jZ); rfl)); all_goals (first | ((with_reducible show Is _ _); exact kE_VX0) | ((with_reducible refine fun (hc : (_ : Bool) = _) => ?_); (try simp only [xZ, xY, xP, reduceCtorEq] at hc); (try (have hx : True := hc; clear hx hc)); (try exact kX)) | ((fail_if_success (with_reducible first | show Is _ _ | show ACall _ _ _ _ _)); (try ((with_reducible show _ ∨ _); exact kT))))))
    refine hfin 82 [.int .i64 n] (T[i].1, T[i].2.1, T[i].2.2.1, (T[i].2.2.2.1.1, n), T[i].2.2.2.2) _ _ ⟨hq.1, hq.2.1, ⟨hq.2.2.1.1, hn⟩, hq.2.2.2⟩ (by have := hqa; simp only; omega) (by simp) (by rw [sp_port hq]; exact pe_om1 _) ?_ (by rw [List.getElem?_cons_succ, List.getElem?_cons_succ]; exact hb2 _) ?g8
    case g8 => simp [spoilG, h8]
    simp [splice, Nat.add_assoc]
  · repeat' (first | (with_reducible first | apply jA | apply jB | apply jC | apply jD | apply jE | apply jF | apply jG | apply jH | apply jI | apply jJ | apply jK | apply jL | apply jM | apply jN | apply jO) | ((with_reducible first | apply jP | apply jQ); rfl) | ((first | ((with_reducible first | apply jR | apply jS | apply jT); rfl; rfl) | (with_reducible first | apply jU | apply jV | apply jW) | ((with_reducible first | apply jX | apply jY | apply jZ); rfl)); all_goals (first | ((with_reducible show Is _ _); exact kE_VX0) | ((with_reducible refine fun (hc : (_ : Bool) = _) => ?_); (try simp only [xZ, xY, xP, reduceCtorEq] at hc); (try (have hx : True := hc; clear hx hc)); (try exact kX)) | ((fail_if_success (with_reducible first | show Is _ _ | show ACall _ _ _ _ _)); (try ((with_reducible show _ ∨ _); exact kT))))))
    refine hfin 83 [.int .i64 n] (T[i].1, T[i].2.1, T[i].2.2.1, T[i].2.2.2.1, n, T[i].2.2.2.2.2) _ _ ⟨hq.1, hq.2.1, hq.2.2.1, hn, hq.2.2.2.2⟩ (by have := hqa; simp only; omega) (by simp) (by rw [sp_keep hq]; exact pe_om1 _) ?_ (by rw [List.getElem?_cons_succ, List.getElem?_cons_succ]; exact hb2 _) ?g8
    case g8 => simp [spoilG, h8]
    simp [splice]
  · obtain ⟨R, hR⟩ : ∃ R, T[i].2.2.2.2.2.flatMap pfC = R := ⟨_, rfl⟩
    obtain ⟨al, hal⟩ : ∃ al, T[i].2.2.2.2.2.length = al := ⟨_, rfl⟩
    have hbi : -9223372036854775808 ≤ Go.bits .and .i64 n 63 ∧ Go.bits .and .i64 n 63 ≤ 9223372036854775807 := wrap64 _
    have hRl : R.length = al * 18 := by rw [← hR, ← hal]; exact fl_len fun p hp => pfC_len (hq.2.2.2.2 p hp)
    rw [hR, hal] at y84
    rw [hal] at hqa
    replace hR : Hid _ := hR
    replace hal : Hid _ := hal
    have hpf : ∀ L : List Pf, ∀ p ∈ [(((false, List.replicate 16 0), Go.bits .and .i64 n 63) : Pf)], PfL p := fun _ p hp => by
      rw [List.mem_singleton] at hp
      subst hp
      exact ⟨by simp, hbi⟩
    have hpf2 : ∀ p ∈ T[i].2.2.2.2.2 ++ [(((false, List.replicate 16 0), Go.bits .and .i64 n 63) : Pf)], PfL p := fun p hp => by
      rcases List.mem_append.1 hp with h | h
      · exact hq.2.2.2.2 p h
      · exact hpf [] p h
    replace hpf : Hid _ := hpf
    replace hpf2 : Hid _ := hpf2
    by_cases h0 : al = 0
    · subst h0
      have hal0 : T[i].2.2.2.2.2 = [] := List.length_eq_zero_iff.1 (show T[i].2.2.2.2.2.length = 0 from hal)
      replace hal0 : Hid _ := hal0
      obtain rfl := List.length_eq_zero_iff.1 hRl
      repeat' (first | (with_reducible first | apply jA | apply jB | apply jC | apply jD | apply jE | apply jF | apply jG | apply jH | apply jI | apply jJ | apply jK | apply jL | apply jM | apply jN | apply jO) | ((with_reducible first | apply jP | apply jQ); rfl) | ((first | ((with_reducible first | apply jR | apply jS | apply jT); rfl; rfl) | (with_reducible first | apply jU | apply jV | apply jW) | ((with_reducible first | apply jX | apply jY | apply jZ); rfl)); all_goals (first | ((with_reducible show Is _ _); exact kE_VX0) | ((with_reducible refine fun (hc : (_ : Bool) = _) => ?_); (try simp only [xZ, xY, xP, reduceCtorEq] at hc); (try (have hx : True := hc; clear hx hc)); (try exact kX)) | ((fail_if_success (with_reducible first | show Is _ _ | show ACall _ _ _ _ _)); (try ((with_reducible show _ ∨ _); exact kT))))))
      refine hfin 84 [.view (X.length + 1 + 1) 0 1 18 false] (T[i].1, T[i].2.1, T[i].2.2.1, T[i].2.2.2.1, T[i].2.2.2.2.1, [((false, List.replicate 16 0), Go.bits .and .i64 n 63)]) _ _ ⟨hq.1, hq.2.1, hq.2.2.1, hq.2.2.2.1, hpf []⟩ (by simp) (by simp) (sp_view hq (hpf []) rfl (by rw [List.getElem?_cons_succ, List.getElem?_cons_succ]; exact hb4 _ _)) ?_ (by rw [List.getElem?_cons_succ, List.getElem?_cons_succ]; exact hb3 _ _) ?g8
      case g8 => rw [spoilG, if_neg (by omega), if_neg (by omega), if_neg (by omega), if_neg (by omega), if_neg (by omega), if_pos h8, show T[i].2.2.2.2.2 = [] from hal0]; rfl
      simp [splice]
    repeat' (first | (with_reducible first | apply jA | apply jB | apply jC | apply jD | apply jE | apply jF | apply jG | apply jH | apply jI | apply jJ | apply jK | apply jL | apply jM | apply jN | apply jO) | ((with_reducible first | apply jP | apply jQ); rfl) | ((first | ((with_reducible first | apply jR | apply jS | apply jT); rfl; rfl) | (with_reducible first | apply jU | apply jV | apply jW) | ((with_reducible first | apply jX | apply jY | apply jZ); rfl)); all_goals (first | ((with_reducible show Is _ _); exact kE_VX0) | ((with_reducible refine fun (hc : (_ : Bool) = _) => ?_); (try simp only [xZ, xY, xP, reduceCtorEq] at hc); (try (have hx : True := hc; clear hx hc)); (try exact kX)) | ((fail_if_success (with_reducible first | show Is _ _ | show ACall _ _ _ _ _)); (try ((with_reducible show _ ∨ _); exact kT))))))
    refine hfin 84 [.view (X.length + 1 + 1) 0 (al + 1) 18 false] (T[i].1, T[i].2.1, T[i].2.2.1, T[i].2.2.2.1, T[i].2.2.2.2.1, T[i].2.2.2.2.2 ++ [((false, List.replicate 16 0), Go.bits .and .i64 n 63)]) _ _ ⟨hq.1, hq.2.1, hq.2.2.1, hq.2.2.2.1, hpf2⟩ (by rw [List.length_append, (hal : _ = al)]; simp; omega) (by simp) (sp_view hq hpf2 (by rw [List.length_append, (hal : _ = al)]; rfl) (by rw [List.getElem?_cons_succ, List.getElem?_cons_succ, List.flatMap_append, (hR : _ = R)]; exact hb4 _ _)) ?_ (by rw [List.getElem?_cons_succ, List.getElem?_cons_succ]; exact hb3 _ _) ?g8
    case g8 => simp [spoilG, h8, pfN63]
    simp [splice]
  · obtain ⟨R, hR⟩ : ∃ R, T[i].2.2.2.2.2.flatMap pfC = R := ⟨_, rfl⟩
    obtain ⟨al, hal⟩ : ∃ al, T[i].2.2.2.2.2.length = al := ⟨_, rfl⟩
    have hRl : R.length = al * 18 := by rw [← hR, ← hal]; exact fl_len fun p hp => pfC_len (hq.2.2.2.2 p hp)
    rw [hR, hal] at y84
    rw [hal] at hqa
    replace hR : Hid _ := hR
    replace hal : Hid _ := hal
    by_cases h0 : al = 0
    · subst h0
      have hal0 : T[i].2.2.2.2.2 = [] := List.length_eq_zero_iff.1 (show T[i].2.2.2.2.2.length = 0 from hal)
      replace hal0 : Hid _ := hal0
      obtain rfl := List.length_eq_zero_iff.1 hRl
      repeat' (first | (with_reducible first | apply jA | apply jB | apply jC | apply jD | apply jE | apply jF | apply jG | apply jH | apply jI | apply jJ | apply jK | apply jL | apply jM | apply jN | apply jO) | ((with_reducible first | apply jP | apply jQ); rfl) | ((first | ((with_reducible first | apply jR | apply jS | apply jT); rfl; rfl) | (with_reducible first | apply jU | apply jV | apply jW) | ((with_reducible first | apply jX | apply jY | apply jZ); rfl)); all_goals (first | ((with_reducible show Is _ _); exact kE_VX0) | ((with_reducible refine fun (hc : (_ : Bool) = _) => ?_); (try simp only [xZ, xY, xP, reduceCtorEq] at hc); (try (have hx : True := hc; clear hx hc)); (try exact kX)) | ((fail_if_success (with_reducible first | show Is _ _ | show ACall _ _ _ _ _)); (try ((with_reducible show _ ∨ _); exact kT))))))
      refine hfin 84 [.nilS] (T[i].1, T[i].2.1, T[i].2.2.1, T[i].2.2.2.1, T[i].2.2.2.2.1, []) _ _ ⟨hq.1, hq.2.1, hq.2.2.1, hq.2.2.2.1, by simp⟩ (by simp) (by simp) (sp_nil hq) ?_ (by rw [List.getElem?_cons_succ, List.getElem?_cons_succ]; exact hb2 _) ?g8
      case g8 => rw [spoilG, if_neg (by omega), if_neg (by omega), if_neg (by omega), if_neg (by omega), if_neg (by omega), if_neg (by omega), if_pos h8, show T[i].2.2.2.2.2 = [] from hal0]; rfl
      simp [splice]
    have hRf : R.all Go.Sy.flat = true := by
      rw [← (hR : _ = R), List.all_flatMap, List.all_eq_true]
      intro p _
      simp [pfC, Go.Sy.flat, byteC]
    repeat' (first | (with_reducible first | apply jA | apply jB | apply jC | apply jD | apply jE | apply jF | apply jG | apply jH | apply jI | apply jJ | apply jK | apply jL | apply jM | apply jN | apply jO) | ((with_reducible apply jP); rfl) | ((first | ((with_reducible first | apply jR | apply jS | apply jT); rfl; rfl) | (with_reducible first | apply jU | apply jV | apply jW) | ((with_reducible first | apply jX | apply jY | apply jZ); rfl)); all_goals (first | ((with_reducible show Is _ _); exact kE_VX0) | ((with_reducible refine fun (hc : (_ : Bool) = _) => ?_); (try simp only [xZ, xY, xP, reduceCtorEq] at hc); (try (have hx : True := hc; clear hx hc)); (try exact kX)) | ((fail_if_success (with_reducible first | show Is _ _ | show ACall _ _ _ _ _)); (try ((with_reducible show _ ∨ _); exact kT))))))
    refine w_draw (by decide) ?_
    repeat' (first | (with_reducible first | apply jA | apply jB | apply jC | apply jD | apply jE | apply jF | apply jG | apply jH | apply jI | apply jJ | apply jK | apply jL | apply jM | apply jN | apply jO) | ((with_reducible apply jP); rfl) | ((first | ((with_reducible first | apply jR | apply jS | apply jT); rfl; rfl) | (with_reducible first | apply jU | apply jV | apply jW) | ((with_reducible first | apply jX | apply jY | apply jZ); rfl)); all_goals (first | ((with_reducible show Is _ _); exact kE_VX0) | ((with_reducible refine fun (hc : (_ : Bool) = _) => ?_); (try simp only [xZ, xY, xP, reduceCtorEq] at hc); (try (have hx : True := hc; clear hx hc)); (try exact kX)) | ((fail_if_success (with_reducible first | show Is _ _ | show ACall _ _ _ _ _)); (try ((with_reducible show _ ∨ _); exact kT))))))
    refine w_drawH [5] [⟨R, false⟩] rfl (by simp (disch := first | omega | (simp only [yZ, yB] <;> omega) | fail) [go_sem, yY, *, -List.map_take, -List.map_drop, -List.map_append, -List.map_reverse]; exact rfl) ?_
    repeat' (first | (with_reducible first | apply jA | apply jB | apply jC | apply jD | apply jE | apply jF | apply jG | apply jH | apply jI | apply jJ | apply jK | apply jL | apply jM | apply jN | apply jO) | ((with_reducible first | apply jP | apply jQ); rfl) | ((with_reducible apply w_drawA); (conv => lhs; reduce); exact kE_VX0; exact kE_VX0) | ((first | ((with_reducible first | apply d_made | apply q_made); rfl; rfl)); (iterate 6 exact kE_VX0)) | ((first | ((with_reducible first | apply d_fop | apply q_fop); rfl; rfl)); (intro Bx hJ; (first | (obtain ⟨_, hJ1, hJ2⟩ := hJ) | (try simp only at hJ)); exact kE_VX0)) | ((first | ((with_reducible first | apply jR | apply jS | apply jT); rfl; rfl) | (with_reducible first | apply jU | apply jV | apply jW) | ((with_reducible first | apply jX | apply jY | apply jZ); rfl)); all_goals (first | ((with_reducible show Is _ _); exact kE_VX0) | ((with_reducible refine fun (hc : (_ : Bool) = _) => ?_); (try simp only [xZ, xY, xP, reduceCtorEq] at hc); (try (have hx : True := hc; clear hx hc)); (try exact kX)) | ((fail_if_success (with_reducible first | show Is _ _ | show ACall _ _ _ _ _)); (try ((with_reducible show _ ∨ _); first | exact .inl rfl | (refine .inr ⟨rfl, ?_, ?_⟩; (focus (repeat (first | exact trivial | refine ⟨.inl rfl, ?_⟩ | refine ⟨.inr rfl, ?_⟩ | refine ⟨.inr (by (simp (disch := first | omega | (simp only [yZ, yB] <;> omega) | fail) [go_sem, yY, *, rZ_len, rZ_drop, -List.map_take, -List.map_drop, -List.map_append, -List.map_reverse])), ?_⟩))); (first | exact trivial | exact rfl | (refine ⟨_, ?_, ?_⟩; (focus (simp (disch := first | omega | (simp only [yZ, yB] <;> omega) | fail) [go_sem, yY, *, rZ_len, rZ_drop, -List.map_take, -List.map_drop, -List.map_append, -List.map_reverse]; (try exact rfl))); (simp (disch := first | omega | (simp only [yZ, yB] <;> omega) | fail) [go_sem, yY, *, rZ_len, rZ_drop, -List.map_take, -List.map_drop, -List.map_append, -List.map_reverse])) | (simp (disch := first | omega | (simp only [yZ, yB] <;> omega) | fail) [go_sem, yY, *, rZ_len, rZ_drop, -List.map_take, -List.map_drop, -List.map_append, -List.map_reverse]))) | exact .inl (by (simp (disch := first | omega | (simp only [yZ, yB] <;> omega) | fail) [go_sem, yY, *, rZ_len, rZ_drop, -List.map_take, -List.map_drop, -List.map_append, -List.map_reverse]))))))))
    have hpf2 : ∀ p ∈ T[i].2.2.2.2.2 ++ T[i].2.2.2.2.2, PfL p := fun p hp => hq.2.2.2.2 p (by rcases List.mem_append.1 hp with h | h <;> exact h)
    refine hfin 84 [.view (X.length + 2) 0 (al + al) 18 false] (T[i].1, T[i].2.1, T[i].2.2.1, T[i].2.2.2.1, T[i].2.2.2.2.1, T[i].2.2.2.2.2 ++ T[i].2.2.2.2.2) _ _ ⟨hq.1, hq.2.1, hq.2.2.1, hq.2.2.2.1, hpf2⟩ (by rw [List.length_append, (hal : _ = al)]; omega) (by simp) (sp_view hq hpf2 (by rw [List.length_append, (hal : _ = al)]) (by rw [List.getElem?_cons_succ, List.getElem?_cons_succ, List.flatMap_append, (hR : _ = R)]; exact hb4 _ _)) ?_ (by rw [List.getElem?_cons_succ, List.getElem?_cons_succ]; exact hb3 _ _) ?g8
    case g8 => simp [spoilG, h8]
    simp [splice]
  · obtain ⟨k, hk⟩ : ∃ k : Nat, a % 9 = k := ⟨(a % 9).toNat, by omega⟩
    have hk9 : k ≤ 8 := by omega
    have hD3 : D.take (T.length * 85) = T.flatMap peC := by
      rw [← (hD2 : _ = D)]; exact List.take_left' (fl_len fun p hp => peC_len ((hT1 : ∀ p ∈ T, PeL p) p hp))
    replace hD3 : Hid _ := hD3
    by_cases k0 : k = 0
    · subst k0
      repeat' (first | (with_reducible first | apply jA | apply jB | apply jC | apply jD | apply jE | apply jF | apply jG | apply jH | apply jI | apply jJ | apply jK | apply jL | apply jM | apply jN | apply jO) | ((with_reducible first | apply jP | apply jQ); rfl) | ((first | ((with_reducible first | apply jR | apply jS | apply jT); rfl; rfl) | (with_reducible first | apply jU | apply jV | apply jW) | ((with_reducible first | apply jX | apply jY | apply jZ); rfl)); all_goals (first | ((with_reducible show Is _ _); exact kE_VX0) | ((with_reducible refine fun (hc : (_ : Bool) = _) => ?_); (try simp only [xZ, xY, xP, reduceCtorEq] at hc); (try (have hx : True := hc; clear hx hc)); (try exact kX)) | ((fail_if_success (with_reducible first | show Is _ _ | show ACall _ _ _ _ _)); (try ((with_reducible show _ ∨ _); exact kT))))))
      refine ⟨_, rfl, ?_⟩
      rw [← (show spoilF port T a wh n = SP from hSP), spoilF_at hi2 hi3, show spoilG port T i T[i] a wh n = (port, T) by simp [spoilG, h8, hk]]
      exact crow_fz (.inr ⟨b + 2, D, .inr ⟨cap, rfl⟩, by simpa using hX, by rw [(hD3 : _ = _)]; exact pe_om _⟩)
    by_cases hroom : T.length + k ≤ cap
    · repeat' (first | (with_reducible first | apply jA | apply jB | apply jC | apply jD | apply jE | apply jF | apply jG | apply jH | apply jI | apply jJ | apply jK | apply jL | apply jM | apply jN | apply jO) | ((with_reducible first | apply jP | apply jQ); rfl) | ((first | ((with_reducible first | apply jR | apply jS | apply jT); rfl; rfl) | (with_reducible first | apply jU | apply jV | apply jW) | ((with_reducible first | apply jX | apply jY | apply jZ); rfl)); all_goals (first | ((with_reducible show Is _ _); exact kE_VX0) | ((with_reducible refine fun (hc : (_ : Bool) = _) => ?_); (try simp only [xZ, xY, xP, reduceCtorEq] at hc); (try (have hx : True := hc; clear hx hc)); (try exact kX)) | ((fail_if_success (with_reducible first | show Is _ _ | show ACall _ _ _ _ _)); (try ((with_reducible show _ ∨ _); exact kT))))))
      refine ⟨_, rfl, ?_⟩
      rw [← (show spoilF port T a wh n = SP from hSP), spoilF_at hi2 hi3, show spoilG port T i T[i] a wh n = (port, T ++ List.replicate k peO) by simp [spoilG, h8, hk]]
      refine crow8 (T := T) (D := D) (k := k) hT1 hD3 (.inr ⟨cap, rfl⟩) (by rw [List.getElem?_cons_succ, List.getElem?_cons_succ]; exact hb2 _)
    repeat' (first | (with_reducible first | apply jA | apply jB | apply jC | apply jD | apply jE | apply jF | apply jG | apply jH | apply jI | apply jJ | apply jK | apply jL | apply jM | apply jN | apply jO) | ((with_reducible first | apply jP | apply jQ); rfl) | ((first | ((with_reducible first | apply jR | apply jS | apply jT); rfl; rfl) | (with_reducible first | apply jU | apply jV | apply jW) | ((with_reducible first | apply jX | apply jY | apply jZ); rfl)); all_goals (first | ((with_reducible show Is _ _); exact kE_VX0) | ((with_reducible refine fun (hc : (_ : Bool) = _) => ?_); (try simp only [xZ, xY, xP, reduceCtorEq] at hc); (try (have hx : True := hc; clear hx hc)); (try exact kX)) | ((fail_if_success (with_reducible first | show Is _ _ | show ACall _ _ _ _ _)); (try ((with_reducible show _ ∨ _); exact kT))))))
    refine ⟨_, rfl, ?_⟩
    rw [← (show spoilF port T a wh n = SP from hSP), spoilF_at hi2 hi3, show spoilG port T i T[i] a wh n = (port, T ++ List.replicate k peO) by simp [spoilG, h8, hk]]
    refine crow8 (T := T) (D := D) (k := k) (E := []) hT1 hD3 (.inl rfl) (by rw [List.getElem?_cons_succ, List.getElem?_cons_succ, List.append_nil]; exact (List.getElem?_append_right (Nat.le_refl _)).trans (by rw [Nat.sub_self]; rfl))
end Go.Proofs.YtdceppjoipoohaaDoor
end
section
namespace Go.Proofs.YtdceppjoipoohaaDoor
open Go Go.Sy
set_option linter.all false
set_option maxRecDepth 100000
set_option maxHeartbeats 4000000
def RawP (p : List UInt8 × List UInt8 × Bool × ((Bool × List UInt8) × Int) × Int × List ((Bool × List UInt8) × Int)) : Prop := p.1.length = 32 ∧ (p.2.1.length = 32 ∧ (True ∧ (((True ∧ p.2.2.2.1.1.2.length = 16) ∧ (-9223372036854775808 ≤ p.2.2.2.1.2 ∧ p.2.2.2.1.2 ≤ 9223372036854775807)) ∧ ((-9223372036854775808 ≤ p.2.2.2.2.1 ∧ p.2.2.2.2.1 ≤ 9223372036854775807) ∧ (p.2.2.2.2.2.length ≤ maxLen ∧ ∀ q ∈ p.2.2.2.2.2, ((True ∧ q.1.2.length = 16) ∧ (-9223372036854775808 ≤ q.2 ∧ q.2 ≤ 9223372036854775807)))))))
def RawOk (c : List UInt8 × Int × List (List UInt8 × List UInt8 × Bool × ((Bool × List UInt8) × Int) × Int × List ((Bool × List UInt8) × Int))) : Prop := c.1.length = 32 ∧ ((-9223372036854775808 ≤ c.2.1 ∧ c.2.1 ≤ 9223372036854775807) ∧ (c.2.2.length ≤ maxLen ∧ ∀ p ∈ c.2.2, RawP p))
theorem RawP.l {p : Pe} (h : RawP p) : PeL p ∧ p.2.2.2.2.2.length ≤ maxLen := by
  obtain ⟨h1, h2, _, ⟨⟨_, h3⟩, h4⟩, h5, h6, h7⟩ := h
  exact ⟨⟨h1, h2, ⟨h3, h4⟩, h5, fun q hq => ⟨(h7 q hq).1.2, (h7 q hq).2⟩⟩, h6⟩
def CfB (X : List CV) : Prop := ∃ (K : List UInt8) (port : Int) (ps : List Pe), X = cfC (K, port, ps) ∧ K.length = 32 ∧ (-9223372036854775808 ≤ port ∧ port ≤ 9223372036854775807) ∧ (∀ p ∈ ps, PeL p) ∧ ps.length < 1000 ∧ ∀ p ∈ ps, p.2.2.2.2.2.length < 1000
theorem CfB.len {X : List CV} (h : CfB X) : X.length = 34 := by
  obtain ⟨K, port, ps, rfl, hK, _⟩ := h
  exact (cf_parts (c := (K, port, ps)) hK).2.2.2
theorem CfB.om {X : List CV} (h : CfB X) {nz : Bool} {B : List Box} {k : Nat} : omap (Go.Sy.fz nz false B (k + 3)) X = some X := by
  obtain ⟨K, port, ps, rfl, _⟩ := h
  exact cf_om _
theorem CfB.of {K : List UInt8} {X : List CV} (hK : K.length = 32) (h : CfOk K (.agg X)) : CfB X := by
  obtain ⟨port, ps, h1, h2, h3, h4, h5⟩ := h
  exact ⟨K, port, ps, by simpa using h1, hK, h2, h3, by omega, fun p hp => by have := h5 p hp; omega⟩
theorem CfB.calls {X : List CV} (h : CfB X) : ∃ (S : List UInt8) (v : Int), (S.length < 2000000000) ∧
    (∀ {B : List Box} {args : List CV}, Is (omap (Go.Sy.fz true false B 6) args) (some [.agg X]) → ACall Tryd.prog 25 args B fun c B' => c = .tup [.str S, .int .i64 v] ∧ B' = B) ∧
    (∀ {B : List Box} {args : List CV}, Is (omap (Go.Sy.fz true false B 6) args) (some [.agg X]) → ACall Tryd.prog 26 args B fun c B' => c = .tup [.str S, .int .i64 v] ∧ B' = B) ∧
    (∀ {B : List Box} {args : List CV}, Is (omap (Go.Sy.fz true false B 6) args) (some [.agg X]) → ACall Tryd.prog 27 args B fun c B' => c = .int .i64 v ∧ B' = B) ∧
    (∀ {B : List Box} {args : List CV}, Is (omap (Go.Sy.fz true false B 6) args) (some [.agg X]) → ACall Tryd.prog 28 args B fun c B' => c = .int .i64 v ∧ B' = B) := by
  obtain ⟨K, port, ps, rfl, hK, hpo, hps, hl, hal⟩ := h
  refine ⟨if valC port ps = 0 then cfT K port ps else [], valC port ps, ?_, fun hz => acall_fresh hz (format_in K port ps hK hpo hps (by omega) fun p hp => by have := hal p hp; omega), fun hz => acall_fresh hz (rformat_in K port ps hK hpo hps hl hal), fun hz => acall_fresh hz (validate_in K port ps hK hpo hps (by omega) fun p hp => by have := hal p hp; omega), fun hz => acall_fresh hz (rvalidate_in K port ps hK hpo hps hl hal)⟩
  split
  · rename_i hv
    obtain ⟨⟨h8, h16⟩, hpo2, _⟩ := valC_zero hv
    have h1 := cfH_len K hpo
    have h2 := peTs_len hps fun p hp => Nat.le_trans (al_le_alls hp) (by omega)
    have h3 : ps.length * 200000 ≤ 8 * 200000 := Nat.mul_le_mul_right _ h8
    rw [cfT, List.length_append]
    omega
  · simp
theorem ConfigValidates_in (codes : List UInt8) (what at_ : UInt8) (n : Int) (raw : List UInt8 × Int × List (List UInt8 × List UInt8 × Bool × ((Bool × List UInt8) × Int) × Int × List ((Bool × List UInt8) × Int))) (hcl : codes.length ≤ maxLen) (hn : -9223372036854775808 ≤ n ∧ n ≤ 9223372036854775807) (hr : RawOk raw) :
    PC Tryd.prog true 5 [lb codes, byteC what, byteC at_, .int .i64 n, .agg (cfC raw)] (.bool true) := by
  obtain ⟨RK, Rport, Rps⟩ := raw
  obtain ⟨hRK, hRp, hRl, hRa⟩ := hr
  dsimp only at hRK hRp hRl hRa
  have hm' : (maxLen : Nat) = 9223372036854775807 := by rfl
  have hRps : ∀ p ∈ Rps, PeL p := fun p hp => (hRa p hp).l.1
  have hcut : ∀ {B : List Box} {args : List CV}, Is args [.agg (cfC (RK, Rport, Rps))] → ACall Tryd.prog 24 args B fun c B' => c = .agg (cfC (RK, Rport, cutPs Rps)) ∧ B' = B := fun h => cut_in RK Rport Rps hRK hRps hRl (fun p hp => (hRa p hp).l.2) h
  have b3 : CfB (cfC (RK, Rport, cutPs Rps)) := ⟨RK, Rport, cutPs Rps, rfl, hRK, hRp, cutPs_mem hRps, by have := @cutPs_len Rps; omega, fun p hp => by have := cutPs_al p hp; omega⟩
  have hRlen := (cf_parts (c := (RK, Rport, Rps)) hRK).2.2.2
  generalize cfC (RK, Rport, cutPs Rps) = Y3 at *
  generalize cfC (RK, Rport, Rps) = R at *
  have hRt : R.take 34 = R := List.take_of_length_le (by omega)
  have b3l := b3.len
  replace b3 : Hid _ := b3
  refine acall_AWc mixed Tryd.func5 rfl (by kernel_rfl) (by rw [Tryd.ntmps5]; simp) ?_
  refine AWc_w mixed (by kernel_rfl) (fun fr B => fr 0 = lb codes ∧ fr 1 = byteC what ∧ fr 2 = byteC at_ ∧ fr 3 = .int .i64 n ∧ fr 9 = .ptr 0 0 ∧ B = [⟨R, false⟩]) ?_ ?_
  · repeat' (first | (with_reducible first | apply jA | apply jB | apply jC | apply jD | apply jE | apply jF | apply jG | apply jH | apply jI | apply jJ | apply jK | apply jL | apply jM | apply jN | apply jO) | ((with_reducible first | apply jP | apply jQ); rfl) | ((first | ((with_reducible first | apply jR | apply jS | apply jT); rfl; rfl) | (with_reducible first | apply jU | apply jV | apply jW) | ((with_reducible first | apply jX | apply jY | apply jZ); rfl)); all_goals (first | ((with_reducible show Is _ _); exact kE) | ((with_reducible refine fun (hc : (_ : Bool) = _) => ?_); (try simp only [xZ, xY, xP, reduceCtorEq] at hc); (try (have hx : True := hc; clear hx hc)); (try exact kX)) | ((fail_if_success (with_reducible first | show Is _ _ | show ACall _ _ _ _ _)); (try ((with_reducible show _ ∨ _); exact kT))))))
    exact ⟨by (simp (disch := omega) [go_sem, *]) <;> (try omega), by (simp (disch := omega) [go_sem, *]) <;> (try omega), by (simp (disch := omega) [go_sem, *]) <;> (try omega), by (simp (disch := omega) [go_sem, *]) <;> (try omega), by (simp (disch := omega) [go_sem, *]) <;> (try omega), rfl⟩
  rintro fr B ⟨f0, f1, f2, f3, f9, rfl⟩
  have hcl200 : (codes.take 200).length ≤ 200 := List.length_take_le _ _
  refine AWc_seq ?_
  refine AWc_two (l1 := [_]) (l2 := [_, _]) rfl (by rfl) (by rfl) ?_
  repeat' (first | (with_reducible first | apply jA | apply jB | apply jC | apply jD | apply jE | apply jF | apply jG | apply jH | apply jI | apply jJ | apply jK | apply jL | apply jM | apply jN | apply jO) | ((with_reducible first | apply jP | apply jQ); rfl) | ((first | ((with_reducible first | apply jR | apply jS | apply jT); rfl; rfl) | (with_reducible first | apply jU | apply jV | apply jW) | ((with_reducible first | apply jX | apply jY | apply jZ); rfl)); all_goals (first | ((with_reducible show Is _ _); exact kE) | ((with_reducible refine fun (hc : (_ : Bool) = _) => ?_); (try simp only [xZ, xY, xP, reduceCtorEq] at hc); (try (have hx : True := hc; clear hx hc)); (try exact kX)) | ((fail_if_success (with_reducible first | show Is _ _ | show ACall _ _ _ _ _)); (try ((with_reducible show _ ∨ _); exact kT))))))
  refine ⟨true, [(18, lb codes)], rfl, rfl, rfl, rfl, rfl, rfl, fun p hp => ?_, fun fr' hf => ?_⟩
  · rw [List.mem_singleton.1 hp]
    (simp (disch := omega) [go_sem, *, lb]) <;> (try omega)
  have h18 : fr' 18 = lb codes := hf (18, lb codes) (by simp)
  refine .inl ((new_at (l := codes) (n := 200) (by (simp (disch := omega) [go_sem, *, lb]) <;> (try omega); exact rfl) (by omega)).mono fun c1 B1 ⟨hc1, hB1⟩ => ?_)
  rw [hc1, hB1]
  clear hc1 hB1 h18 hf
  refine .inl ((config_at (n := 4) (β := 0) (l := codes.take 200) (by (simp (disch := omega) [go_sem, *]) <;> (try omega); exact rfl) rfl (by omega) ⟨0, Nat.zero_le _, rfl⟩ (by omega)).mono fun c2 B2 ⟨K, port, ps, hgood, hz⟩ => ⟨_, hz, fun v => ?_⟩)
  have hval := hgood.val
  have b0 : CfB (cfC (K, port, ps)) := ⟨K, port, ps, rfl, hgood.1, ⟨by have := hgood.2.1; omega, by have := hgood.2.1; omega⟩, fun p hp => (hgood.2.2.1 p hp).1, by have := hgood.2.2.2.2.2.2; omega, fun p hp => by have := al_le_alls hp; have := hgood.2.2.2.2.2.1; omega⟩
  have b0l := b0.len
  replace hz : Hid _ := hz
  replace hgood : Hid _ := hgood
  replace b0 : Hid _ := b0
  replace hval : Hid _ := hval
  obtain ⟨Y0, hY0⟩ : ∃ Y0, cfC (K, port, ps) = Y0 := ⟨_, rfl⟩
  rw [hY0] at b0l ⊢
  replace hY0 : Hid _ := hY0
  repeat' (first | (with_reducible first | apply jA | apply jB | apply jC | apply jD | apply jE | apply jF | apply jG | apply jH | apply jI | apply jJ | apply jK | apply jL | apply jM | apply jN | apply jO) | ((with_reducible first | apply jP | apply jQ); rfl) | ((first | ((with_reducible first | apply jR | apply jS | apply jT); rfl; rfl) | (with_reducible first | apply jU | apply jV | apply jW) | ((with_reducible first | apply jX | apply jY | apply jZ); rfl)); all_goals (first | ((with_reducible show Is _ _); exact kE) | ((with_reducible refine fun (hc : (_ : Bool) = _) => ?_); (try simp only [xZ, xY, xP, reduceCtorEq] at hc); (try (have hx : True := hc; clear hx hc)); (try exact kX)) | ((fail_if_success (with_reducible first | show Is _ _ | show ACall _ _ _ _ _)); (try ((with_reducible show _ ∨ _); exact kT))))))
  refine WPc_sound mixed.mixed _ _ _ _ (by kernel_rfl) ?_
  have hgood := show CfGood K port ps from hgood
  have b0 : CfB Y0 := by rw [← (show cfC (K, port, ps) = Y0 from hY0)]; exact b0
  have hps : ∀ p ∈ ps, PeL p := fun p hp => (hgood.2.2.1 p hp).1
  have hpo : -9223372036854775808 ≤ port ∧ port ≤ 9223372036854775807 := by have := hgood.2.1; omega
  have hsp : ∀ {B : List Box} {args : List CV} {n' : Int}, Is args [.agg Y0, byteC what, byteC at_, .int .i64 n'] → -9223372036854775808 ≤ n' ∧ n' ≤ 9223372036854775807 → ACall Tryd.prog 23 args B fun c B' => c = .agg (cfC (K, spoilF port (cutPs ps) at_.toNat what.toNat n')) ∧ B' = B := fun h hn' => spoiltF_in K port ps what at_ _ hgood.1 hpo hn' hps (by have := hgood.2.2.2.2.2.2; omega) (fun p hp => by have := al_le_alls hp; have := hgood.2.2.2.2.2.1; omega) (by rw [show cfC (K, port, ps) = Y0 from hY0]; exact h)
  have hn63 : -9223372036854775808 ≤ Go.bits .and .i64 n 65535 ∧ Go.bits .and .i64 n 65535 ≤ 9223372036854775807 := wrap64 _
  have bS : ∀ n', -9223372036854775808 ≤ n' ∧ n' ≤ 9223372036854775807 → CfB (cfC (K, spoilF port (cutPs ps) at_.toNat what.toNat n')) := fun n' hn' => CfB.of hgood.1 (spoilF_ok hpo hn' (by omega) (cutPs_mem hps) cutPs_len cutPs_al)
  have b1 := bS n hn
  have b2 := bS _ hn63
  have hs1 : ∀ {B : List Box} {args : List CV}, Is args [.agg Y0, byteC what, byteC at_, .int .i64 n] → ACall Tryd.prog 23 args B fun c B' => c = .agg (cfC (K, spoilF port (cutPs ps) at_.toNat what.toNat n)) ∧ B' = B := fun h => hsp h hn
  have hs2 : ∀ {B : List Box} {args : List CV}, Is args [.agg Y0, byteC what, byteC at_, .int .i64 (Go.bits .and .i64 n 65535)] → ACall Tryd.prog 23 args B fun c B' => c = .agg (cfC (K, spoilF port (cutPs ps) at_.toNat what.toNat (Go.bits .and .i64 n 65535))) ∧ B' = B := fun h => hsp h hn63
  generalize cfC (K, spoilF port (cutPs ps) at_.toNat what.toNat n) = Y1 at *
  generalize cfC (K, spoilF port (cutPs ps) at_.toNat what.toNat (Go.bits .and .i64 n 65535)) = Y2 at *
  have b1l := b1.len
  have b2l := b2.len
  have b3 := show CfB Y3 from b3
  have hv0 : ∀ {B : List Box} {args : List CV}, Is (omap (Go.Sy.fz true false B 6) args) (some [.agg Y0]) → ACall Tryd.prog 27 args B fun c B' => c = .int .i64 0 ∧ B' = B := fun hz => acall_fresh hz (by rw [← (show cfC (K, port, ps) = Y0 from hY0), ← (show valC port ps = 0 from hval)]; exact validate_in K port ps hgood.1 hpo hps (by have := hgood.2.2.2.2.2.2; omega) fun p hp => by have := al_le_alls hp; have := hgood.2.2.2.2.2.1; omega)
  have hbg : ∀ {B : List Box} {args : List CV}, Is (omap (Go.Sy.fz true false B 6) args) (some []) → ACall Tryd.prog 18 args B fun c B' => c = .bool true ∧ B' = B := fun h => begun_at h
  have hY0t : Y0.take 34 = Y0 := List.take_of_length_le (by omega)
  have ho0 : ∀ {nz : Bool} {B : List Box} {k : Nat}, omap (Go.Sy.fz nz false B (k + 3)) Y0 = some Y0 := b0.om
  replace b0 : Hid _ := b0
  replace b1 : Hid _ := b1
  replace b2 : Hid _ := b2
  replace b3 : Hid _ := b3
  replace hgood : Hid _ := hgood
  clear hsp bS hn63 hps hpo
  repeat' (first | (with_reducible first | apply jA | apply jB | apply jC | apply jD | apply jE | apply jF | apply jG | apply jH | apply jI | apply jJ | apply jK | apply jL | apply jM | apply jN | apply jO) | ((with_reducible first | apply jP | apply jQ); rfl) | ((with_reducible apply w_drawA); (conv => lhs; reduce); exact kE; exact kE) | ((first | ((with_reducible first | apply d_made | apply q_made); rfl; rfl)); (iterate 6 exact kE)) | ((first | ((with_reducible first | apply d_fop | apply q_fop); rfl; rfl)); (intro Bx hJ; (first | (obtain ⟨_, hJ1, hJ2⟩ := hJ) | (try simp only at hJ)); exact kE)) | ((with_reducible first | apply d_free | apply q_free); rfl; (iterate 2 exact kE); (intro Bx hJ); (first | ((with_reducible apply hs1) <;> exact kD) | ((with_reducible apply hs2) <;> exact kD) | ((with_reducible apply hcut) <;> exact kD))) | ((first | ((with_reducible first | apply jR | apply jS | apply jT); rfl; rfl) | (with_reducible first | apply jU | apply jV | apply jW) | ((with_reducible first | apply jX | apply jY | apply jZ); rfl) | ((with_reducible first | apply kA | apply kB | apply kC); rfl)); all_goals (first | ((with_reducible show Is _ _); exact kE) | ((with_reducible refine fun (hc : (_ : Bool) = _) => ?_); (try simp only [xZ, xY, xP, reduceCtorEq] at hc); (try (have hx : True := hc; clear hx hc)); (try exact kX)) | ((with_reducible show ACall _ _ _ _ _); (first | ((with_reducible apply hs1) <;> exact kD) | ((with_reducible apply hs2) <;> exact kD) | ((with_reducible apply hcut) <;> exact kD))) | ((fail_if_success (with_reducible first | show Is _ _ | show ACall _ _ _ _ _)); (try ((with_reducible show _ ∨ _); first | exact .inl rfl | (refine .inr ⟨rfl, ?_, ?_⟩; (focus (repeat (first | exact trivial | refine ⟨.inl rfl, ?_⟩ | refine ⟨.inr rfl, ?_⟩ | refine ⟨.inr (by (simp (disch := first | omega | (simp only [yZ, yB] <;> omega) | fail) [go_sem, yY, *, -List.map_take, -List.map_drop, -List.map_append, -List.map_reverse])), ?_⟩))); (first | exact trivial | exact rfl | (refine ⟨_, ?_, ?_⟩; (focus (simp (disch := first | omega | (simp only [yZ, yB] <;> omega) | fail) [go_sem, yY, *, -List.map_take, -List.map_drop, -List.map_append, -List.map_reverse]; (try exact rfl))); (simp (disch := first | omega | (simp only [yZ, yB] <;> omega) | fail) [go_sem, yY, *, -List.map_take, -List.map_drop, -List.map_append, -List.map_reverse])) | (simp (disch := first | omega | (simp only [yZ, yB] <;> omega) | fail) [go_sem, yY, *, -List.map_take, -List.map_drop, -List.map_append, -List.map_reverse]))) | exact .inl (by (simp (disch := first | omega | (simp only [yZ, yB] <;> omega) | fail) [go_sem, yY, *, -List.map_take, -List.map_drop, -List.map_append, -List.map_reverse]))))))))
  refine w_loop (fun fr B => ∃ (i : Nat) (G : List Box), i ≤ 4 ∧ fr 37 = .int .i64 i ∧ fr 36 = .int .i64 4 ∧ fr 35 = .lst 4 (Y0 ++ (Y1 ++ (Y2 ++ Y3))) true ∧ fr 11 = .ptr 1 0 ∧ B = ⟨R, false⟩ :: ⟨Y0, false⟩ :: G) (fun fr _ => 4 - natOf (fr 37)) ?_ ?_
  · refine ⟨0, [], by omega, by (simp (disch := omega) [go_sem, *]) <;> (try omega), by (simp (disch := omega) [go_sem, *]) <;> (try omega), ?_, by (simp (disch := omega) [go_sem, *]) <;> (try omega), rfl⟩
    simp (disch := omega) [go_sem, *]
  clear f0 f1 f2 f3 f9 fr hs1 hs2 hcut hz hRt
  have hD : ∀ i, i < 4 → ∃ X, CfB X ∧ ((Y0 ++ (Y1 ++ (Y2 ++ Y3))).drop (i * 34)).take 34 = X ∧ i * 34 + 34 ≤ (Y0 ++ (Y1 ++ (Y2 ++ Y3))).length := fun i hi => by
    have hl : (Y0 ++ (Y1 ++ (Y2 ++ Y3))).length = 136 := by simp [b0l, b1l, b2l, b3l]
    have d1 : (Y0 ++ (Y1 ++ (Y2 ++ Y3))).drop 34 = Y1 ++ (Y2 ++ Y3) := List.drop_left' b0l
    have d2 : (Y0 ++ (Y1 ++ (Y2 ++ Y3))).drop 68 = Y2 ++ Y3 := by rw [show (68 : Nat) = 34 + 34 from rfl, ← List.drop_drop, d1, List.drop_left' b1l]
    have d3 : (Y0 ++ (Y1 ++ (Y2 ++ Y3))).drop 102 = Y3 := by rw [show (102 : Nat) = 68 + 34 from rfl, ← List.drop_drop, d2, List.drop_left' b2l]
    obtain rfl | rfl | rfl | rfl : i = 0 ∨ i = 1 ∨ i = 2 ∨ i = 3 := by omega
    · exact ⟨Y0, b0, by rw [Nat.zero_mul, List.drop_zero, List.take_left' b0l], by omega⟩
    · exact ⟨Y1, b1, by rw [show 1 * 34 = 34 from rfl, d1, List.take_left' b1l], by omega⟩
    · exact ⟨Y2, b2, by rw [show 2 * 34 = 68 from rfl, d2, List.take_left' b2l], by omega⟩
    · exact ⟨Y3, b3, by rw [show 3 * 34 = 102 from rfl, d3, List.take_of_length_le (by omega)], by omega⟩
  generalize Y0 ++ (Y1 ++ (Y2 ++ Y3)) = D at *
  clear b1l b2l b3l
  replace hD : Hid _ := hD
  rintro fr B ⟨i, G, hi, f37, f36, f35, f11, rfl⟩
  have hm0 : natOf (fr 37) = i := by rw [f37]; rfl
  by_cases hci : i < 4
  · obtain ⟨X, hX, d1, d2⟩ := (show ∀ i, i < 4 → ∃ X, CfB X ∧ (D.drop (i * 34)).take 34 = X ∧ i * 34 + 34 ≤ D.length from hD) i hci
    have hXl := hX.len
    have hXt : X.take 34 = X := List.take_of_length_le (by omega)
    have hXo : ∀ {nz : Bool} {B : List Box} {k : Nat}, omap (Go.Sy.fz nz false B (k + 3)) X = some X := hX.om
    obtain ⟨S, v, hS, g1, g2, g3, g4⟩ := hX.calls
    replace hX : Hid _ := hX
    clear hv0 hbg
    repeat' (first | (with_reducible first | apply jA | apply jB | apply jC | apply jD | apply jE | apply jF | apply jG | apply jH | apply jI | apply jJ | apply jK | apply jL | apply jM | apply jN | apply jO) | ((with_reducible first | apply jP | apply jQ); rfl) | ((with_reducible apply w_drawA); (conv => lhs; reduce); exact kE; exact kE) | ((first | ((with_reducible first | apply d_made | apply q_made); rfl; rfl)); (iterate 6 exact kE)) | ((first | ((with_reducible first | apply d_fop | apply q_fop); rfl; rfl)); (intro Bx hJ; (first | (obtain ⟨_, hJ1, hJ2⟩ := hJ) | (try simp only at hJ)); exact kE)) | ((with_reducible first | apply d_free | apply q_free); rfl; (iterate 2 exact kE); (intro Bx hJ); (first | ((with_reducible apply g1) <;> exact kD) | ((with_reducible apply g2) <;> exact kD) | ((with_reducible apply g3) <;> exact kD) | ((with_reducible apply g4) <;> exact kD))) | ((first | ((with_reducible first | apply jR | apply jS | apply jT); rfl; rfl) | (with_reducible first | apply jU | apply jV | apply jW) | ((with_reducible first | apply jX | apply jY | apply jZ); rfl) | ((with_reducible first | apply kA | apply kB | apply kC); rfl)); all_goals (first | ((with_reducible show Is _ _); exact kE) | ((with_reducible refine fun (hc : (_ : Bool) = _) => ?_); (try simp only [xZ, xY, xP, reduceCtorEq] at hc); (try (have hx : True := hc; clear hx hc)); (try exact kX)) | ((with_reducible show ACall _ _ _ _ _); (first | ((with_reducible apply g1) <;> exact kD) | ((with_reducible apply g2) <;> exact kD) | ((with_reducible apply g3) <;> exact kD) | ((with_reducible apply g4) <;> exact kD))) | ((fail_if_success (with_reducible first | show Is _ _ | show ACall _ _ _ _ _)); (try ((with_reducible show _ ∨ _); first | exact .inl rfl | (refine .inr ⟨rfl, ?_, ?_⟩; (focus (repeat (first | exact trivial | refine ⟨.inl rfl, ?_⟩ | refine ⟨.inr rfl, ?_⟩ | refine ⟨.inr (by (simp (disch := first | omega | (simp only [yZ, yB] <;> omega) | fail) [go_sem, yY, *, -List.map_take, -List.map_drop, -List.map_append, -List.map_reverse])), ?_⟩))); (first | exact trivial | exact rfl | (refine ⟨_, ?_, ?_⟩; (focus (simp (disch := first | omega | (simp only [yZ, yB] <;> omega) | fail) [go_sem, yY, *, -List.map_take, -List.map_drop, -List.map_append, -List.map_reverse]; (try exact rfl))); (simp (disch := first | omega | (simp only [yZ, yB] <;> omega) | fail) [go_sem, yY, *, -List.map_take, -List.map_drop, -List.map_append, -List.map_reverse])) | (simp (disch := first | omega | (simp only [yZ, yB] <;> omega) | fail) [go_sem, yY, *, -List.map_take, -List.map_drop, -List.map_append, -List.map_reverse]))) | exact .inl (by (simp (disch := first | omega | (simp only [yZ, yB] <;> omega) | fail) [go_sem, yY, *, -List.map_take, -List.map_drop, -List.map_append, -List.map_reverse]))))))))
    exact ⟨⟨i + 1, G ++ [⟨X, false⟩], by omega, by (simp (disch := omega) [go_sem, *]) <;> (try omega), by (simp (disch := omega) [go_sem, *]) <;> (try omega), by (simp (disch := omega) [go_sem, *]) <;> (try omega), by (simp (disch := omega) [go_sem, *]) <;> (try omega), by simp⟩, by (simp (disch := omega) [go_sem, *]) <;> (try omega)⟩
  · obtain rfl : i = 4 := by omega
    repeat' (first | (with_reducible first | apply jA | apply jB | apply jC | apply jD | apply jE | apply jF | apply jG | apply jH | apply jI | apply jJ | apply jK | apply jL | apply jM | apply jN | apply jO) | ((with_reducible first | apply jP | apply jQ); rfl) | ((first | ((with_reducible first | apply jR | apply jS | apply jT); rfl; rfl) | (with_reducible first | apply jU | apply jV | apply jW) | ((with_reducible first | apply jX | apply jY | apply jZ); rfl) | ((with_reducible first | apply kA | apply kB | apply kC); rfl)); all_goals (first | ((with_reducible show Is _ _); exact kE) | ((with_reducible refine fun (hc : (_ : Bool) = _) => ?_); (try simp only [xZ, xY, xP, reduceCtorEq] at hc); (try (have hx : True := hc; clear hx hc)); (try exact kX)) | ((with_reducible show ACall _ _ _ _ _); (first | ((with_reducible apply hv0) <;> exact kD) | ((with_reducible apply hbg) <;> exact kD))) | ((fail_if_success (with_reducible first | show Is _ _ | show ACall _ _ _ _ _)); (try ((with_reducible show _ ∨ _); exact kT))))))
    rfl
end Go.Proofs.YtdceppjoipoohaaDoor
end
section
namespace Go.Sy
set_option linter.all false
open Go.RowKit (Below)
open Go.ChangeShapes Go.WideShapes
section
variable {H : Type} {enc : TypeId × Value → H} {P : Program} {W : World} {base : Nat} {held : Bool}
def Old (W : World) : Nat → Nat → Prop := fun b _ => b < W.heap.size
theorem fz_true {fr nz : Bool} {B : List Box} {k : Nat} {c : CV} {t : Bool} (h : fz nz fr B k c = some (.bool t)) : c = .bool t := by
  cases k with
  | zero => simp [fz] at h
  | succ k =>
    cases c <;> simp only [fz] at h
    case bool b => simpa using h
    case nilS => cases nz <;> simp at h
    case view => split at h <;> simp at h
    case cview => split at h <;> simp at h
    case ptr => split at h <;> (try split at h) <;> simp at h
    case lst => split at h <;> simp at h
    case iptr => split at h <;> simp at h
    case fn => split at h <;> simp at h
    all_goals simp at h
theorem PC.calls {fr : Bool} {f : FuncId} {args : List CV} {vs : List Value} (h : PC P fr f args (.bool true)) (hv : R (Old W) [] W false args vs) (ht : TabsOk (Old W) W) : Calls P f vs.toArray W fun e w' => e = .returned (.bool true) ∧ Below W.heap.size W w' := by
  refine (h.2 W.heap.size (Old W) [] W vs (BRel.none_ W _ (fun _ _ h => h) ht) hv).mono fun e w' ⟨c, v, B', I', μ', he, hQ, hs⟩ => ?_
  have := fz_true hQ
  subst this
  exact ⟨by rw [he, hs.val.bool_inv], hs.below⟩
theorem byte_of_wf {n : Int} (h : (Lit.int .u8 n).wf = true) : ∃ b : UInt8, n = b.toNat := by
  have := bounds_u8 h
  exact ⟨UInt8.ofNat n.toNat, by simp; omega⟩
theorem bytes_cells : ∀ (vs : List Value), (∀ v ∈ vs, ∃ n, v = .int .u8 n ∧ (Lit.int .u8 n).wf = true) → ∃ l : List UInt8, vs = l.map fun b => .int .u8 (b.toNat : Int)
  | [], _ => ⟨[], rfl⟩
  | v :: vs, h => by
    obtain ⟨n, rfl, hn⟩ := h v (by simp)
    obtain ⟨b, rfl⟩ := byte_of_wf hn
    obtain ⟨l, rfl⟩ := bytes_cells vs fun v hv => h v (by simp [hv])
    exact ⟨b :: l, rfl⟩
theorem R_bytes (I : Nat → Nat → Prop) (μ : List (List Place)) (w : World) (one : Bool) : ∀ l : List UInt8, R I μ w one (l.map byteC) (l.map fun b => .int .u8 (b.toNat : Int))
  | [] => .nil _
  | b :: l => .int _ _ (R_bytes I μ w one l)
theorem open_bytes {r : Reach} {b0 : Nat} {t e : TypeId} {v : Value} {d : DataW H} {ps : List MemPlace} (ht : P.underlying t = some (.slice e)) (he : P.underlying e = some (.int .u8)) (hc : P.cellsOf e = 1)
    (hval : Value.okWide P W r b0 t v) (hd : DataW.Trod enc P W base (fun _ => true) held t v d ps) : ∃ l : List UInt8, l.length ≤ maxLen ∧ V (Old W) [] W (lb l) v := by
  obtain ⟨a0, len0, cap0, rfl⟩ := okWide_slice ht hval
  obtain ⟨fuel, hf⟩ := hd
  rcases open_ints ht he hc hf with ⟨hcs, _⟩ | ⟨x, l, c, zs, hcs, _, hl, hm, hz, _, hcell, hwz⟩
  · simp [Value.cells] at hcs
    obtain ⟨rfl, rfl, rfl⟩ := hcs
    exact ⟨[], by simp, .lstE _ _ (.nil _)⟩
  · simp [Value.cells] at hcs
    obtain ⟨rfl, rfl, rfl⟩ := hcs
    simp only [if_true] at hz
    by_cases hc0 : cap0 = 0
    · subst hc0
      obtain rfl : len0 = 0 := by omega
      exact ⟨[], by simp, .lstE _ _ (.nil _)⟩
    · obtain ⟨b, off, spot⟩ := x
      have hspot : spot = none := by simpa [Addr.add] using World.cell?_spot (hcell 0 (by omega))
      subst hspot
      obtain ⟨bl, hbl⟩ := bytes_cells ((zs.take len0).map (Value.int .u8)) fun v hv => by
        obtain ⟨n, hn, rfl⟩ := List.mem_map.1 hv
        exact ⟨n, rfl, hwz n (List.mem_of_mem_take hn)⟩
      have hlen : bl.length = len0 := by
        have := congrArg List.length hbl
        simp at this; omega
      refine ⟨bl, by omega, ?_⟩
      rw [lb, hlen]
      refine .lst len0 false b off cap0 (R_bytes _ _ _ _ bl) (fun j v hj => ?_) hl (fun h => by cases h) (.nil _)
      rw [← hbl] at hj
      have hjl : j < len0 := by have := (List.getElem?_eq_some_iff.1 hj).1; simp at this; omega
      have h1 := hcell j (by omega)
      rw [show Addr.add ⟨b, off, none⟩ j = ⟨b, off + j, none⟩ by unfold Addr.add; split <;> simp_all] at h1
      have h2 : v = .int .u8 (zs.getD j 0) := by
        rw [List.getElem?_map, List.getElem?_take_of_lt hjl, List.getElem?_eq_getElem (by omega)] at hj
        simp at hj
        rw [← hj, List.getD_eq_getElem?_getD, List.getElem?_eq_getElem (by omega)]; rfl
      subst h2
      refine ⟨h1, ?_⟩
      unfold World.cell? at h1
      show b < W.heap.size
      rcases Nat.lt_or_ge b W.heap.size with hb | hb
      · exact hb
      · have : W.heap[b]? = none := Array.getElem?_eq_none hb
        simp [this] at h1
theorem open_i {r : Reach} {b0 : Nat} {t : TypeId} {k : IntKind} {v : Value} {d : DataW H} {ps : List MemPlace} (ht : P.underlying t = some (.int k)) (hval : Value.okWide P W r b0 t v) (hd : DataW.Trod enc P W base (fun _ => true) held t v d ps) :
    ∃ n, (Lit.int k n).wf = true ∧ V (Old W) [] W (.int k n) v := by
  obtain ⟨n, rfl, _, _, hw⟩ := ChangeShapes.open_int ht hval hd
  exact ⟨n, hw, .int _ _ (.nil _)⟩
theorem open_byte {r : Reach} {b0 : Nat} {t : TypeId} {v : Value} {d : DataW H} {ps : List MemPlace} (ht : P.underlying t = some (.int .u8)) (hval : Value.okWide P W r b0 t v) (hd : DataW.Trod enc P W base (fun _ => true) held t v d ps) :
    ∃ b : UInt8, V (Old W) [] W (byteC b) v := by
  obtain ⟨n, hw, h⟩ := open_i ht hval hd
  obtain ⟨b, rfl⟩ := byte_of_wf hw
  exact ⟨b, h⟩
theorem V_cons {I : Nat → Nat → Prop} {μ : List (List Place)} {w : World} {c : CV} {v : Value} {cs : List CV} {vs : List Value} (h : V I μ w c v) (hs : R I μ w false cs vs) : R I μ w false (c :: cs) (v :: vs) := .cons h (by simp) hs
end
end Go.Sy
end
section
namespace Go.Sy
set_option linter.all false
open Go.RowKit (Below)
open Go.ChangeShapes Go.WideShapes
section
variable {H : Type} {enc : TypeId × Value → H} {P : Program} {W : World} {base : Nat} {held : Bool}
def Opn (enc : TypeId × Value → H) (P : Program) (W : World) (base : Nat) (held : Bool) (t : TypeId) {α : Type} (f : α → List CV) (ok : α → Prop) : Prop :=
  ∀ (fuel : Nat) (cs : List Value) (x : DataW H × List MemPlace), DataW.trod enc P W base (fun _ => true) held fuel t cs = some x → ∃ a, ok a ∧ R (Old W) [] W true (f a) cs
theorem Opn.mono {t : TypeId} {α : Type} {f : α → List CV} {ok ok' : α → Prop} (h : Opn enc P W base held t f ok) (hk : ∀ a, ok a → ok' a) : Opn enc P W base held t f ok' := fun fuel cs x hx =>
  let ⟨a, h1, h2⟩ := h fuel cs x hx; ⟨a, hk a h1, h2⟩
theorem opn_int {t : TypeId} {k : IntKind} (ht : P.underlying t = some (.int k)) : Opn enc P W base held t (fun n => [.int k n]) (fun n => (Lit.int k n).wf = true) := fun fuel cs x hx => by
  obtain ⟨n, rfl, _, hw⟩ := DataW.trod_int ht hx
  exact ⟨n, hw, .int _ _ (.nil _)⟩
theorem opn_i64 {t : TypeId} (ht : P.underlying t = some (.int .i64)) : Opn enc P W base held t (fun n => [.int .i64 n]) (fun n => -9223372036854775808 ≤ n ∧ n ≤ 9223372036854775807) := (opn_int ht).mono fun _ h => bounds_i64 h
theorem opn_bool {t : TypeId} (ht : P.underlying t = some .bool) : Opn enc P W base held t (fun b : Bool => [.bool b]) (fun _ => True) := fun fuel cs x hx => by
  obtain ⟨b, rfl, _⟩ := DataW.trod_bool ht hx
  exact ⟨b, trivial, .bool _ (.nil _)⟩
theorem opn_byteArray {t e : TypeId} {n : Nat} (hu : P.underlying t = some (.array n e)) (he : P.underlying e = some (.int .u8)) (hc : P.cellsOf e = 1) (hn : P.cellsOf t = n) : Opn enc P W base held t (fun l : List UInt8 => l.map byteC) (fun l => l.length = n) := fun fuel cs x hx => by
  obtain ⟨xs, m, rfl, _, hl, hx, hi⟩ := DataW.trod_array hu hx
  obtain ⟨l, hl'⟩ := bytes_cells cs fun v hv => by
    obtain ⟨i, hi1, hi2⟩ := List.mem_iff_getElem.1 hv
    have hin : i < n := by rw [← hn, ← hl]; exact hi1
    have := hi i hin
    rw [hc, List.getElem?_eq_getElem (by omega), Nat.mul_one] at this
    rw [show (cs.drop i).take 1 = [v] from by rw [List.drop_eq_getElem_cons hi1, hi2]; rfl] at this
    obtain ⟨k, h1, h2, h3⟩ := DataW.trod_int he this
    simp at h1
    exact ⟨k, h1, h3⟩
  refine ⟨l, ?_, by rw [hl']; exact R_bytes _ _ _ _ l⟩
  show l.length = n
  have := congrArg List.length hl'
  simp only [List.length_map] at this
  rw [← this, hl, hn]
inductive OpnF (enc : TypeId × Value → H) (P : Program) (W : World) (base : Nat) (held : Bool) : (off : Nat) → List Field → {α : Type} → (α → List CV) → (α → Prop) → Prop
  | one {off : Nat} {f : Field} {α : Type} {g : α → List CV} {ok : α → Prop} (h0 : f.offset = off) (h : Opn enc P W base held f.type g ok) : OpnF enc P W base held off [f] g ok
  | cons {off n : Nat} {f : Field} {fs : List Field} {α β : Type} {g : α → List CV} {ok : α → Prop} {g' : β → List CV} {ok' : β → Prop} (h0 : f.offset = off) (hc : P.cellsOf f.type = n) (h : Opn enc P W base held f.type g ok)
      (hs : OpnF enc P W base held (off + n) fs g' ok') : OpnF enc P W base held off (f :: fs) (fun p : α × β => g p.1 ++ g' p.2) (fun p => ok p.1 ∧ ok' p.2)
theorem opnF {fuel : Nat} {cs : List Value} {off : Nat} {fs : List Field} {α : Type} {g : α → List CV} {ok : α → Prop} (h : OpnF enc P W base held off fs g ok) (hx : ∀ f ∈ fs, ∃ y, DataW.trod enc P W base (fun _ => true) held fuel f.type ((cs.drop f.offset).take (P.cellsOf f.type)) = some y)
    (hl : ∀ f, fs.getLast? = some f → cs.length = f.offset + P.cellsOf f.type) : ∃ a, ok a ∧ R (Old W) [] W true (g a) (cs.drop off) := by
  induction h with
  | @one off f α g ok h0 h =>
    obtain ⟨y, hy⟩ := hx f (by simp)
    have hl := hl f rfl
    rw [h0] at hy hl
    obtain ⟨a, h1, h2⟩ := h _ _ _ hy
    refine ⟨a, h1, ?_⟩
    rwa [List.take_of_length_le (by rw [List.length_drop]; omega)] at h2
  | @cons off n f fs α β g ok g' ok' h0 hc h hs ih =>
    obtain ⟨y, hy⟩ := hx f (by simp)
    rw [h0, hc] at hy
    obtain ⟨a, h1, h2⟩ := h _ _ _ hy
    obtain ⟨b, h3, h4⟩ := ih (fun f hf => hx f (by simp [hf])) (fun f' hf' => hl f' (by
      cases fs with
      | nil => simp at hf'
      | cons f1 fs => rw [List.getLast?_cons_cons]; exact hf'))
    refine ⟨(a, b), ⟨h1, h3⟩, ?_⟩
    rw [← List.take_append_drop n (cs.drop off), List.drop_drop]
    exact h2.append h4
theorem opn_struct {t : TypeId} {fs : Array Field} {l : List Field} {f : Field} {α : Type} {g : α → List CV} {ok : α → Prop} (ht : P.underlying t = some (.struct fs)) (hl : fs.toList = l) (hf : l.getLast? = some f) (hn : P.cellsOf t = f.offset + P.cellsOf f.type) (h : OpnF enc P W base held 0 l g ok) : Opn enc P W base held t g ok := fun fuel cs x hx => by
  obtain ⟨xs, n, rfl, _, hlen, hxs, hi⟩ := DataW.trod_struct ht hx
  have := opnF (fuel := n) (cs := cs) h (fun f hf => by
    obtain ⟨i, hi1, hi2⟩ := List.mem_iff_getElem.1 hf
    have hfi : fs[i]? = some f := by rw [← Array.getElem?_toList, hl, List.getElem?_eq_getElem hi1, hi2]
    have hil : i < xs.length := by rw [hxs]; exact (Array.getElem?_eq_some_iff.1 hfi).1
    exact ⟨xs[i], by rw [hi i f hfi, List.getElem?_eq_getElem hil]⟩) (fun f' hf' => by
    rw [hf] at hf'; cases hf'; rw [hlen, hn])
  simpa using this
theorem row_cells {α : Type} {g : α → List CV} {ok : α → Prop} {z : Nat} {b o : Nat} : ∀ (n i : Nat), (∀ j, i ≤ j → j < i + n → ∃ a vs, ok a ∧ R (Old W) [] W true (g a) vs ∧ vs.length = z ∧ ∀ k v, vs[k]? = some v → W.cell? ⟨b, o + j * z + k, none⟩ = some v) →
    ∃ (l : List α) (vs : List Value), l.length = n ∧ (∀ a ∈ l, ok a) ∧ R (Old W) [] W true (l.flatMap g) vs ∧ vs.length = n * z ∧ ∀ k v, vs[k]? = some v → W.cell? ⟨b, o + i * z + k, none⟩ = some v
  | 0, i, _ => ⟨[], [], rfl, by simp, .nil _, by simp, by simp⟩
  | n + 1, i, h => by
    obtain ⟨a, vs, h1, h2, h3, h4⟩ := h i (Nat.le_refl _) (by omega)
    obtain ⟨l, us, g1, g2, g3, g4, g5⟩ := row_cells n (i + 1) (fun j h1 h2 => h j (by omega) (by omega))
    refine ⟨a :: l, vs ++ us, by simp [g1], fun x hx => ?_, ?_, by rw [List.length_append, h3, g4, Nat.succ_mul]; omega, fun k v hk => ?_⟩
    · rcases List.mem_cons.1 hx with rfl | hx
      · exact h1
      · exact g2 x hx
    · rw [List.flatMap_cons]; exact h2.append g3
    · rcases Nat.lt_or_ge k z with hkz | hkz
      · rw [List.getElem?_append_left (by omega)] at hk
        exact h4 k v hk
      · rw [List.getElem?_append_right (by omega), h3] at hk
        have := g5 _ v hk
        rw [Nat.succ_mul] at this
        rw [show o + i * z + k = o + (i * z + z) + (k - z) by omega]
        exact this
theorem cells_at {a : Addr} {n : Nat} {vs : List Value} (h : W.cells? base a n = some vs) : vs.length = n ∧ ∀ (k : Nat) (v : Value), vs[k]? = some v → W.cell? (a.add k) = some v := by
  unfold World.cells? at h
  split at h
  · refine ⟨by simpa using mapM_some_length h, fun k v hk => ?_⟩
    have hkn : k < n := by
      have h1 := (List.getElem?_eq_some_iff.1 hk).1
      have h2 : vs.length = n := by simpa using mapM_some_length h
      omega
    have := mapM_some_get h k k (by simp [hkn])
    rw [this, hk]
  · cases h
theorem add_none (b o k : Nat) : Addr.add ⟨b, o, none⟩ k = ⟨b, o + k, none⟩ := by unfold Addr.add; split <;> simp_all
theorem opn_slice {t e : TypeId} {α : Type} {g : α → List CV} {ok : α → Prop} {z : Nat} (ht : P.underlying t = some (.slice e)) (hz : P.cellsOf e = z) (hz0 : 0 < z) (h : Opn enc P W base held e g ok) :
    Opn enc P W base held t (fun l : List α => [.lst l.length (l.flatMap g) false]) (fun l => l.length ≤ maxLen ∧ ∀ a ∈ l, ok a) := fun fuel cs x hx => by
  rcases DataW.trod_slice ht hx with ⟨rfl, _⟩ | ⟨a, len, cap, elems, rest, n, _, rfl, _, hb, hl, hm, hlen, hel, hsp, _⟩
  · exact ⟨[], ⟨by simp, by simp⟩, .lstE _ _ (.nil _)⟩
  · obtain ⟨hrl, hr⟩ := hsp rfl
    by_cases hc0 : cap = 0
    · subst hc0
      obtain rfl : len = 0 := by omega
      exact ⟨[], ⟨by simp, by simp⟩, .lstE _ _ (.nil _)⟩
    · have hat : ∀ i, i < cap → ∃ vs y, W.cells? base (a.add (i * z)) z = some vs ∧ DataW.trod enc P W base (fun _ => true) held n e vs = some y := by
        intro i hi
        rcases Nat.lt_or_ge i len with h1 | h1
        · have := hel i h1
          rw [hz, List.getElem?_eq_getElem (by omega)] at this
          obtain ⟨vs, h2, h3⟩ := Option.bind_eq_some_iff.1 this
          exact ⟨vs, _, h2, h3⟩
        · have := hr (i - len) (by omega)
          rw [hz, List.getElem?_eq_getElem (by omega), show len + (i - len) = i by omega] at this
          obtain ⟨vs, h2, h3⟩ := Option.bind_eq_some_iff.1 this
          exact ⟨vs, _, h2, h3⟩
      obtain ⟨b, off, spot⟩ := a
      have hspot : spot = none := by
        obtain ⟨vs, y, h1, _⟩ := hat 0 (by omega)
        obtain ⟨h2, h3⟩ := cells_at h1
        have h4 := h3 0 vs[0] (List.getElem?_eq_getElem (by omega))
        have := World.cell?_spot h4
        simpa [Addr.add] using this
      subst hspot
      obtain ⟨l, vs, h1, h2, h3, h4, h5⟩ := row_cells (W := W) (g := g) (ok := ok) (z := z) (b := b) (o := off) len 0 (fun j _ hj => by
        obtain ⟨vs, y, g1, g2⟩ := hat j (by omega)
        obtain ⟨g3, g4⟩ := cells_at g1
        obtain ⟨a, g5, g6⟩ := h _ _ _ g2
        exact ⟨a, vs, g5, g6, g3, fun k v hk => by have := g4 k v hk; rwa [add_none, add_none] at this⟩)
      refine ⟨l, ⟨by omega, h2⟩, ?_⟩
      show R (Old W) [] W true [.lst l.length (l.flatMap g) false] _
      rw [h1]
      refine .lst len false b off cap h3 (fun j v hj => ?_) hl (fun h => by cases h) (.nil _)
      have h6 := h5 j v hj
      rw [Nat.zero_mul, Nat.add_zero] at h6
      refine ⟨h6, ?_⟩
      unfold World.cell? at h6
      show b < W.heap.size
      rcases Nat.lt_or_ge b W.heap.size with hb | hb
      · exact hb
      · have : W.heap[b]? = none := Array.getElem?_eq_none hb
        simp [this] at h6
theorem open_agg {r : Reach} {b0 : Nat} {t : TypeId} {fs : Array Field} {v : Value} {d : DataW H} {ps : List MemPlace} {α : Type} {g : α → List CV} {ok : α → Prop} (ht : P.underlying t = some (.struct fs)) (h : Opn enc P W base held t g ok)
    (hval : Value.okWide P W r b0 t v) (hd : DataW.Trod enc P W base (fun _ => true) held t v d ps) : ∃ a, ok a ∧ V (Old W) [] W (.agg (g a)) v := by
  obtain ⟨cs, rfl, _⟩ := okWide_struct ht hval
  obtain ⟨fuel, hf⟩ := hd
  obtain ⟨a, h1, h2⟩ := h _ _ _ hf
  exact ⟨a, h1, .agg (bs := cs.toList) h2 (.nil _)⟩
end
end Go.Sy
end
section
namespace Go.Proofs.YtdceppjoipoohaaDoor
open Go Go.Sy
set_option linter.all false
set_option maxRecDepth 100000
set_option maxHeartbeats 4000000
theorem tab_reads {W : World} {n : String} {g : Nat} {k : IntKind} {zs : List Int} {t e : TypeId} {m : Nat} (hg : Tryd.prog.globalNamed n = some g) (hty : (Tryd.prog.globals[g]?).map (·.type) = some t) (ht : Tryd.prog.underlying t = some (.array m e)) (he : Tryd.prog.underlying e = some (.int k)) (hce : Tryd.prog.cellsOf e = 1) (hct : Tryd.prog.cellsOf t = m) (hz : 0 < zs.length) (h : Go.Lib.VarReads Tryd.prog W n (Go.Lib.tabData k zs)) : ∀ j : Nat, W.cell? ⟨g, j, none⟩ = (zs[j]?).map (.int k) ∧ Old W g j := by
  obtain ⟨g', t', cs, fuel, p, hg', ht', hvar, hd⟩ := h
  obtain rfl := Option.some.inj (hg.symm.trans hg')
  obtain rfl := Option.some.inj (hty.symm.trans ht')
  have hc := Go.Lib.cells_of_tab ht he hce hct hd
  have hcell : ∀ j : Nat, W.cell? ⟨g, j, none⟩ = (zs[j]?).map (.int k) := fun j => by
    rw [World.var?_cell hg hvar j, ← Array.getElem?_toList, hc, List.getElem?_map]
  refine fun j => ⟨hcell j, ?_⟩
  have h0 := hcell 0
  rw [List.getElem?_eq_getElem hz] at h0
  show g < W.heap.size
  rcases Nat.lt_or_ge g W.heap.size with h | h
  · exact h
  · unfold World.cell? at h0
    rw [show W.heap[(⟨g, 0, Option.none⟩ : Addr).block]? = Option.none from Array.getElem?_eq_none h] at h0
    cases h0
theorem int_lives {W : World} {g : Nat} {k : IntKind} (h : ∃ m, W.cell? ⟨g, 0, none⟩ = some (.int k m)) : Old W g 0 := by
  obtain ⟨m, h0⟩ := h
  show g < W.heap.size
  rcases Nat.lt_or_ge g W.heap.size with h | h
  · exact h
  · unfold World.cell? at h0
    rw [show W.heap[(⟨g, 0, Option.none⟩ : Addr).block]? = Option.none from Array.getElem?_eq_none h] at h0
    cases h0
theorem tabs_of {W : World} (hS : W.ShapedOpen Tryd.prog) (hL : laidMet Tryd.prog [("math/bits.deBruijn32tab", Rows.laid_math_bits_deBruijn32tab), ("math/bits.deBruijn64tab", Rows.laid_math_bits_deBruijn64tab), ("internal/strconv.uint64pow10", Rows.laid_internal_strconv_uint64pow10), ("unicode/utf8.acceptRanges", Rows.laid_unicode_utf8_acceptRanges), ("unicode/utf8.first", Rows.laid_unicode_utf8_first)] W) : TabsOk (Old W) W := by
  constructor
  · intro g k zs hg
    unfold tab at hg
    split at hg
    · obtain ⟨rfl, rfl⟩ := Prod.mk.inj (Option.some.inj hg)
      exact tab_reads (t := 135) (by kernel_rfl) (by kernel_rfl) Tryd.underlying135 Tryd.underlying122 (by kernel_rfl) (by kernel_rfl) (by decide) (Go.Lib.laidMet.reads hL (n := "internal/strconv.uint64pow10") (.tail _ (.tail _ (.head _))))
    · obtain ⟨rfl, rfl⟩ := Prod.mk.inj (Option.some.inj hg)
      exact tab_reads (t := 51) (by kernel_rfl) (by kernel_rfl) Tryd.underlying51 Tryd.underlying5 (by kernel_rfl) (by kernel_rfl) (by decide) (Go.Lib.laidMet.reads hL (n := "math/bits.deBruijn32tab") (.head _))
    · obtain ⟨rfl, rfl⟩ := Prod.mk.inj (Option.some.inj hg)
      exact tab_reads (t := 142) (by kernel_rfl) (by kernel_rfl) Tryd.underlying142 Tryd.underlying5 (by kernel_rfl) (by kernel_rfl) (by decide) (Go.Lib.laidMet.reads hL (n := "math/bits.deBruijn64tab") (.tail _ (.head _)))
    · cases hg
  · intro g hg
    obtain rfl : g = 0 := by simpa [tabInts] using hg
    have h : ∃ m, W.cell? ⟨0, 0, none⟩ = some (.int .i64 m) := cell_of_shapedOpen_int (t := 3) hS (by decide +kernel) (zero := #[.int .i64 0]) (by kernel_rfl) rfl (by kernel_rfl) (by kernel_rfl) Tryd.underlying3
    exact ⟨int_lives h, h⟩
theorem handed_laid {H : Type} {enc : TypeId × Value → H} {C : Checked} {os : Os} {f : FuncId} {fn : Func} {s : ChangeSpec} {conds : List PathCond} {apart fresh handsOn again : Bool} {X : World → Array Value → Prop}
    (hX : ∀ (w w' : World) (args : Array Value), w.heap = w'.heap → X w args → X w' args)
    (own : ownKnob C.prog.godebug = none) (started : os.Started) (noInit : C.prog.inits.idxOf? f = none) (hfn : C.prog.funcs[f]? = some fn)
    (witness : ∃ (w : World) (tape : Tape) (i : Input), w.os = os ∧ (w.forCall tape i).Shaped C.prog ∧ i.vars = [] ∧ Input.okWide C.prog (w.forCall tape i) .any w.heap.size f i ∧
      ((s.pre enc C.prog fn conds apart (w.forCall tape i).memory i.args ∧ X (w.forCall tape i).memory i.args) ∧ sizedMet enc C.prog fn (OpenSpec.ofChange s) apart (w.forCall tape i).memory i.args) ∧ Assume.holds {} C.prog (lone (Frame.enter C.prog f i.args .normal) [] (w.forCall tape i)))
    (contract : ∀ (W : World) (base : Nat) (args : Array Value) (ds gs : List (DataW H)) (before : List MemPlace),
      (∀ (j : Nat) t v, fn.params[j]? = some t → args[j]? = some v → Value.okWide C.prog W .any base t v) →
      DataW.Whole enc C.prog fn.params.toList s.vars apart W args.toList ds gs before → W.ShapedOpen C.prog → X W args →
      Calls C.prog f args W fun e W' => ∃ v, e = .returned v ∧ s.post enc C.prog fn apart fresh handsOn again W args v W') :
    ReturnsInHanded {} C os f .any (fun w args => (s.pre enc C.prog fn conds apart w args ∧ X w args) ∧ sizedMet enc C.prog fn (OpenSpec.ofChange s) apart w args) (s.post enc C.prog fn apart fresh handsOn again) := by
  refine returnsInHanded_of_calls own started noInit witness ?_
  intro w tape i _ hsh _ hok hpre _
  obtain ⟨_, _, _, fn', hfn', _, _, _, _, hval⟩ := hok
  have e : fn' = fn := Option.some.inj (hfn'.symm.trans hfn)
  subst e
  obtain ⟨⟨⟨ds, gs, before, hw, hc⟩, hx⟩, hz⟩ := hpre
  have hw' := DataW.Whole.of_heap (w' := w.forCall tape i) (by rfl) hw
  refine (contract (w.forCall tape i) w.heap.size i.args ds gs before hval hw' hsh (hX _ _ _ (by rfl) hx)).mono fun e W' ⟨v, he, hp⟩ => ?_
  subst he
  exact ChangeSpec.post_blind hp
end Go.Proofs.YtdceppjoipoohaaDoor
end
