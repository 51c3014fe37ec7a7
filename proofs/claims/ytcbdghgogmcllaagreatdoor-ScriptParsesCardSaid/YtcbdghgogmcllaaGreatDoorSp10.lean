/- Lemmas and definitions of this claim (own texts, joined by a program; what the claim does not use is left out). -/
import Derived.Test.YtcbdghgogmcllaaGreatDoorSp9
set_option linter.all false
set_option maxRecDepth 100000
set_option maxHeartbeats 4000000
section
namespace Go.Proofs.YtcbdghgogmcllaaGreatDoor
open Go Go.Sy
def ctlR (s : List UInt8) : Ac × Bool := if prS s then (evA { ev0 with kind := 5, text := s }, true) else (act0, false)
theorem fz_acb {nz : Bool} {B : List Box} (a : Ac) (b : Bool) : Go.Sy.fz nz false B 6 (.tup [.agg (acC a), .bool b]) = some (.tup [.agg (acC a), .bool b]) := by simp [go_sem, acC_om]
def zA : List CV := [.int .i64 0, .int .i64 0, .bool false, .int .u8 0, .int .u8 0, .int .u8 0, .int .u8 0, .int .u8 0, .int .u8 0, .int .u8 0, .int .u8 0, .int .u8 0, .int .u8 0, .int .u8 0, .int .u8 0, .int .u8 0, .int .u8 0, .int .u8 0, .int .u8 0, .int .i64 0, .nilS, .int .i64 0, .str [], .int .i64 0, .int .i64 0, .int .u8 0, .int .i64 0, .int .i64 0, .int .u8 0, .int .u8 0, .int .u8 0, .int .u8 0, .int .u8 0, .int .u8 0, .int .u8 0, .int .u8 0, .int .u8 0, .int .u8 0, .int .u8 0, .int .u8 0, .int .u8 0, .int .u8 0, .int .u8 0, .int .u8 0, .int .u8 0, .int .u8 0, .int .u8 0, .int .u8 0, .int .u8 0, .int .u8 0, .int .u8 0, .int .u8 0, .int .u8 0, .int .u8 0, .int .u8 0, .int .u8 0, .int .u8 0, .int .u8 0, .int .u8 0, .int .u8 0]
theorem zA_len : zA.length = 60 := rfl
theorem ctlR_in (s : List UInt8) (hs : s.length < 1000000000) : PC Tryz.prog false 32 [.str s] (.tup [.agg (acC (ctlR s).1), .bool (ctlR s).2]) := by
  have hz := acC_zero
  have hzl := zA_len
  unfold ctlR
  refine acall_intro mixed Tryz.func32 rfl ca32 (by kernel_rfl) (by rw [Tryz.ntmps32]; simp) ?_
  refine w0 ?_ 
  refine w_loop (fun fr B => ∃ j : Nat, j ≤ s.length ∧ (s.take j).all prC = true ∧ fr 4 = .int .i64 j ∧ fr 0 = .str s ∧ fr 2 = .ptr 0 0 ∧ B = [⟨zA, false⟩]) (fun fr _ => s.length - natOf (fr 4)) ?_ ?_
  · exact ⟨0, by omega, by simp, kS, kS, kS, rfl⟩
  rintro fr B ⟨j, hj, hn, h4, h0, h2, rfl⟩
  have hm : natOf (fr 4) = j := by rw [h4]; rfl
  by_cases hc : j < s.length
  · have ht : (s.take (j + 1)).all prC = prC (s[j]'hc) := by rw [List.take_succ_eq_append_getElem hc, List.all_append, hn]; simp
    have hbad : prC (s[j]'hc) = false → prS s = false := fun h => by
      rw [prS, List.all_eq_false]
      exact ⟨_, List.getElem_mem hc, by simp [h]⟩
    have hb := (s[j]'hc).toNat_lt
    obtain ⟨y, hy⟩ : ∃ y, s[j]'hc = y := ⟨_, rfl⟩
    rw [hy] at ht hbad hb
    by_cases h1 : 32 ≤ y.toNat
    · by_cases h3 : y.toNat ≤ 126
      · have h5 : (s.take (j + 1)).all prC = true := by rw [ht]; simp [prC, h1, h3]
        have g1 : ¬ (y.toNat < 32) := by omega
        have g2 : ¬ (126 < y.toNat) := by omega
        clear hbad ht hn hz
        replace h5 : Hid _ := h5
        refine w0 ?_ 
        exact ⟨⟨j + 1, by omega, h5, kS, kS, kS, rfl⟩, kS⟩
      · have h5 : prS s = false := hbad (by simp [prC, h3])
        have g1 : ¬ (y.toNat < 32) := by omega
        have g2 : 126 < y.toNat := by omega
        rw [h5]
        simp only [Bool.false_eq_true, if_false]
        rw [hz]
        clear hbad ht hn h5 hz
        refine w0 ?_ 
        all_goals rfl
    · have h5 : prS s = false := hbad (by simp [prC, h1])
      have g1 : y.toNat < 32 := by omega
      rw [h5]
      simp only [Bool.false_eq_true, if_false]
      rw [hz]
      clear hbad ht hn h5 hz
      refine w0 ?_ 
      all_goals rfl
  · obtain rfl : j = s.length := by omega
    rw [List.take_length] at hn
    have h5 : prS s = true := hn
    rw [h5]
    simp only [if_true]
    clear hn h5 hz
    refine w0 ?_ 
    all_goals rfl
theorem ctlR_at {B : List Box} {s : List UInt8} (hs : s.length < 1000000000) : ACall Tryz.prog 32 [.str s] B fun c B' => c = .tup [.agg (acC (ctlR s).1), .bool (ctlR s).2] ∧ B' = B := acall_imm (nz := false) rfl (ctlR_in s hs)
theorem evR_Plain (x1 : List UInt8) (hs : x1.length < 1000000000) : PC Tryz.prog false 33 [.lst 2 [.str wPlain, .str x1] false] (.tup [.agg (acC (evA { ev0 with kind := 1, bytes := (bytesR x1).1 })), .bool (bytesR x1).2]) := by
  have hu : ∀ {B : List Box}, ACall Tryz.prog 53 [.str x1] B fun c B' => c = .tup [lb (bytesR x1).1, .bool (bytesR x1).2] ∧ B' = B := bytesR_at hs
  generalize bytesR x1 = r at *
  obtain ⟨l, b⟩ := r
  rw [lb] at hu
  dsimp only at *
  rw [wPlain]
  refine acall_intro mixed Tryz.func33 rfl ca33 (by kernel_rfl) (by rw [Tryz.ntmps33]; simp) ?_
  refine w1 @hu ?_ 
  exact fz_acb (evA { ev0 with kind := 1, bytes := l }) b
theorem evR_Entropy (x1 : List UInt8) (hs : x1.length < 1000000000) : PC Tryz.prog false 33 [.lst 2 [.str wEntropy, .str x1] false] (.tup [.agg (acC (evA { ev0 with kind := 4, bytes := (bytesR x1).1 })), .bool (bytesR x1).2]) := by
  have hu : ∀ {B : List Box}, ACall Tryz.prog 53 [.str x1] B fun c B' => c = .tup [lb (bytesR x1).1, .bool (bytesR x1).2] ∧ B' = B := bytesR_at hs
  generalize bytesR x1 = r at *
  obtain ⟨l, b⟩ := r
  rw [lb] at hu
  dsimp only at *
  rw [wEntropy]
  refine acall_intro mixed Tryz.func33 rfl ca33 (by kernel_rfl) (by rw [Tryz.ntmps33]; simp) ?_
  refine w1 @hu ?_ 
  exact fz_acb (evA { ev0 with kind := 4, bytes := l }) b
theorem evR_Tick (x1 : List UInt8) (hs : x1.length < 1000000000) : PC Tryz.prog false 33 [.lst 2 [.str wTick, .str x1] false] (.tup [.agg (acC (evA { ev0 with kind := 3, time := (numR x1).1 })), .bool (numR x1).2]) := by
  have hu : ∀ {B : List Box}, ACall Tryz.prog 55 [.str x1] B fun c B' => c = .tup [.int .i64 (numR x1).1, .bool (numR x1).2] ∧ B' = B := numR_at hs
  generalize numR x1 = r at *
  obtain ⟨l, b⟩ := r
  dsimp only at *
  rw [wTick]
  refine acall_intro mixed Tryz.func33 rfl ca33 (by kernel_rfl) (by rw [Tryz.ntmps33]; simp) ?_
  refine w1 @hu ?_ 
  rfl
def dgR (x1 x2 : List UInt8) : Ac × Bool := match parseE x1 with
  | some (six, A, n) => (evA { ev0 with kind := 2, six := six, ip := A, port := n, bytes := (bytesR x2).1 }, (bytesR x2).2 && (fmtE six A n == x1))
  | none => (evA { ev0 with kind := 2, bytes := (bytesR x2).1 }, false)
theorem rparseE_at {B : List Box} {s : List UInt8} (hs : s.length < 1000000000) : ACall Tryz.prog 54 [.str s] B fun c B' => c = rE (parseE s) ∧ B' = B := acall_fresh (nz := false) rfl (rparseE_in s hs)
theorem evR_Datagram (x1 x2 : List UInt8) (h1 : x1.length < 1000000000) (h2 : x2.length < 1000000000) : PC Tryz.prog false 33 [.lst 3 [.str wDatagram, .str x1, .str x2] false] (.tup [.agg (acC (dgR x1 x2).1), .bool (dgR x1 x2).2]) := by
  have hu : ∀ {B : List Box}, ACall Tryz.prog 53 [.str x2] B fun c B' => c = .tup [lb (bytesR x2).1, .bool (bytesR x2).2] ∧ B' = B := bytesR_at h2
  have hp : ∀ {B : List Box}, ACall Tryz.prog 54 [.str x1] B fun c B' => c = rE (parseE x1) ∧ B' = B := rparseE_at h1
  unfold dgR
  generalize bytesR x2 = r at *
  obtain ⟨l, b⟩ := r
  rw [lb] at hu
  dsimp only at *
  rw [wDatagram]
  cases he : parseE x1 with
  | none =>
    rw [he] at hp
    simp only [rE, prefC, z16, List.replicate, List.map_cons, List.map_nil, List.cons_append, List.nil_append] at hp
    dsimp only
    refine acall_intro mixed Tryz.func33 rfl ca33 (by kernel_rfl) (by rw [Tryz.ntmps33]; simp) ?_
    cases b
    all_goals
      repeat' (first | (with_reducible first | apply jA | apply jB | apply jC | apply jD | apply jE | apply jF | apply jG | apply jH | apply jI | apply jJ | apply jK | apply jL | apply jM | apply jN | apply jO) | ((with_reducible apply jP); rfl) | ((first | ((with_reducible first | apply jR | apply jS | apply jT); rfl; rfl) | (with_reducible first | apply jU | apply jV | apply jW) | ((with_reducible first | apply jX | apply jY | apply jZ); rfl) | ((with_reducible first | apply kA | apply kB | apply kC); rfl)); all_goals (first | ((with_reducible show Is _ _); exact kE) | ((with_reducible refine fun (hc : (_ : Bool) = _) => ?_); (try simp only [xZ, xY, xP, reduceCtorEq] at hc); (try (have hx : True := hc; clear hx hc)); (try exact kX)) | ((with_reducible show ACall _ _ _ _ _); (first | ((with_reducible apply hp) <;> exact kD))) | ((fail_if_success (with_reducible first | show Is _ _ | show ACall _ _ _ _ _)); (try ((with_reducible show _ ∨ _); exact kT))))))
      refine w_drawJ [0] [⟨[], false⟩] (fun B' => B'[2]? = some ⟨[.bool false, byteC 0, byteC 0, byteC 0, byteC 0, byteC 0, byteC 0, byteC 0, byteC 0, byteC 0, byteC 0, byteC 0, byteC 0, byteC 0, byteC 0, byteC 0, byteC 0, .int .i64 0], false⟩) rfl rfl rfl ?_
      repeat' (first | (with_reducible first | apply jA | apply jB | apply jC | apply jD | apply jE | apply jF | apply jG | apply jH | apply jI | apply jJ | apply jK | apply jL | apply jM | apply jN | apply jO) | ((with_reducible apply jP); rfl) | ((first | ((with_reducible first | apply d_made | apply q_made); rfl; rfl)); (iterate 6 exact kE)) | ((first | ((with_reducible first | apply d_fop | apply q_fop); rfl; rfl)); (intro Bx hJ; (first | (obtain ⟨_, hJ1, hJ2⟩ := hJ) | (try simp only at hJ)); exact kE)) | ((first | ((with_reducible first | apply jR | apply jS | apply jT); rfl; rfl) | (with_reducible first | apply jU | apply jV | apply jW) | ((with_reducible first | apply jX | apply jY | apply jZ); rfl)); all_goals (first | ((with_reducible show Is _ _); exact kE) | ((with_reducible refine fun (hc : (_ : Bool) = _) => ?_); (try simp only [xZ, xY, xP, reduceCtorEq] at hc); (try (have hx : True := hc; clear hx hc)); (try exact kX)) | ((fail_if_success (with_reducible first | show Is _ _ | show ACall _ _ _ _ _)); (try ((with_reducible show _ ∨ _); first | exact .inl rfl | (refine .inr ⟨rfl, ?_, ?_⟩; (focus (repeat (first | exact trivial | refine ⟨.inl rfl, ?_⟩ | refine ⟨.inr rfl, ?_⟩ | refine ⟨.inr (by (simp (disch := first | omega | (simp only [yZ, yB] <;> omega) | fail) [go_sem, yY, *, -List.map_take, -List.map_drop, -List.map_append, -List.map_reverse])), ?_⟩))); (first | exact trivial | exact rfl | (refine ⟨_, ?_, ?_⟩; (focus (simp (disch := first | omega | (simp only [yZ, yB] <;> omega) | fail) [go_sem, yY, *, -List.map_take, -List.map_drop, -List.map_append, -List.map_reverse]; (try exact rfl))); (simp (disch := first | omega | (simp only [yZ, yB] <;> omega) | fail) [go_sem, yY, *, -List.map_take, -List.map_drop, -List.map_append, -List.map_reverse])) | (simp (disch := first | omega | (simp only [yZ, yB] <;> omega) | fail) [go_sem, yY, *, -List.map_take, -List.map_drop, -List.map_append, -List.map_reverse]))) | exact .inl (by (simp (disch := first | omega | (simp only [yZ, yB] <;> omega) | fail) [go_sem, yY, *, -List.map_take, -List.map_drop, -List.map_append, -List.map_reverse]))))))))
      refine w2 @hp @hu ?_ 
      exact fz_acb (evA { ev0 with kind := 2, bytes := l }) _
  | some q =>
    obtain ⟨six, A, n⟩ := q
    have hA : A.length = 16 := parseE_ip he
    have hn : i64 n := by have := parseE_port he; constructor <;> omega
    have hf : ∀ {B : List Box} {args : List CV}, Is (omap (Go.Sy.fz true false B 6) args) (some [prefC six A n]) → ACall Tryz.prog 52 args B fun c B' => c = .str (fmtE six A n) ∧ B' = B := fun hz => rfmtE_at hz hA hn
    rw [he] at hp
    dsimp only
    generalize fmtE six A n = s2 at *
    match A, hA with
    | [a0, a1, a2, a3, a4, a5, a6, a7, a8, a9, a10, a11, a12, a13, a14, a15], _ =>
    simp only [rE, prefC, List.map_cons, List.map_nil, List.cons_append, List.nil_append] at hp hf
    refine acall_intro mixed Tryz.func33 rfl ca33 (by kernel_rfl) (by rw [Tryz.ntmps33]; simp) ?_
    cases b
    · clear hf
      repeat' (first | (with_reducible first | apply jA | apply jB | apply jC | apply jD | apply jE | apply jF | apply jG | apply jH | apply jI | apply jJ | apply jK | apply jL | apply jM | apply jN | apply jO) | ((with_reducible apply jP); rfl) | ((first | ((with_reducible first | apply jR | apply jS | apply jT); rfl; rfl) | (with_reducible first | apply jU | apply jV | apply jW) | ((with_reducible first | apply jX | apply jY | apply jZ); rfl) | ((with_reducible first | apply kA | apply kB | apply kC); rfl)); all_goals (first | ((with_reducible show Is _ _); exact kE) | ((with_reducible refine fun (hc : (_ : Bool) = _) => ?_); (try simp only [xZ, xY, xP, reduceCtorEq] at hc); (try (have hx : True := hc; clear hx hc)); (try exact kX)) | ((with_reducible show ACall _ _ _ _ _); (first | ((with_reducible apply hp) <;> exact kD))) | ((fail_if_success (with_reducible first | show Is _ _ | show ACall _ _ _ _ _)); (try ((with_reducible show _ ∨ _); exact kT))))))
      refine w_drawJ [0] [⟨[], false⟩] (fun B' => B'[2]? = some ⟨[.bool six, byteC a0, byteC a1, byteC a2, byteC a3, byteC a4, byteC a5, byteC a6, byteC a7, byteC a8, byteC a9, byteC a10, byteC a11, byteC a12, byteC a13, byteC a14, byteC a15, .int .i64 n], false⟩) rfl rfl rfl ?_
      repeat' (first | (with_reducible first | apply jA | apply jB | apply jC | apply jD | apply jE | apply jF | apply jG | apply jH | apply jI | apply jJ | apply jK | apply jL | apply jM | apply jN | apply jO) | ((with_reducible apply jP); rfl) | ((first | ((with_reducible first | apply d_made | apply q_made); rfl; rfl)); (iterate 6 exact kE)) | ((first | ((with_reducible first | apply d_fop | apply q_fop); rfl; rfl)); (intro Bx hJ; (first | (obtain ⟨_, hJ1, hJ2⟩ := hJ) | (try simp only at hJ)); exact kE)) | ((first | ((with_reducible first | apply jR | apply jS | apply jT); rfl; rfl) | (with_reducible first | apply jU | apply jV | apply jW) | ((with_reducible first | apply jX | apply jY | apply jZ); rfl)); all_goals (first | ((with_reducible show Is _ _); exact kE) | ((with_reducible refine fun (hc : (_ : Bool) = _) => ?_); (try simp only [xZ, xY, xP, reduceCtorEq] at hc); (try (have hx : True := hc; clear hx hc)); (try exact kX)) | ((fail_if_success (with_reducible first | show Is _ _ | show ACall _ _ _ _ _)); (try ((with_reducible show _ ∨ _); first | exact .inl rfl | (refine .inr ⟨rfl, ?_, ?_⟩; (focus (repeat (first | exact trivial | refine ⟨.inl rfl, ?_⟩ | refine ⟨.inr rfl, ?_⟩ | refine ⟨.inr (by (simp (disch := first | omega | (simp only [yZ, yB] <;> omega) | fail) [go_sem, yY, *, -List.map_take, -List.map_drop, -List.map_append, -List.map_reverse])), ?_⟩))); (first | exact trivial | exact rfl | (refine ⟨_, ?_, ?_⟩; (focus (simp (disch := first | omega | (simp only [yZ, yB] <;> omega) | fail) [go_sem, yY, *, -List.map_take, -List.map_drop, -List.map_append, -List.map_reverse]; (try exact rfl))); (simp (disch := first | omega | (simp only [yZ, yB] <;> omega) | fail) [go_sem, yY, *, -List.map_take, -List.map_drop, -List.map_append, -List.map_reverse])) | (simp (disch := first | omega | (simp only [yZ, yB] <;> omega) | fail) [go_sem, yY, *, -List.map_take, -List.map_drop, -List.map_append, -List.map_reverse]))) | exact .inl (by (simp (disch := first | omega | (simp only [yZ, yB] <;> omega) | fail) [go_sem, yY, *, -List.map_take, -List.map_drop, -List.map_append, -List.map_reverse]))))))))
      refine w1 @hu ?_ 
      exact fz_acb (evA { ev0 with kind := 2, six := six, ip := [a0, a1, a2, a3, a4, a5, a6, a7, a8, a9, a10, a11, a12, a13, a14, a15], port := n, bytes := l }) _
    · repeat' (first | (with_reducible first | apply jA | apply jB | apply jC | apply jD | apply jE | apply jF | apply jG | apply jH | apply jI | apply jJ | apply jK | apply jL | apply jM | apply jN | apply jO) | ((with_reducible apply jP); rfl) | ((first | ((with_reducible first | apply jR | apply jS | apply jT); rfl; rfl) | (with_reducible first | apply jU | apply jV | apply jW) | ((with_reducible first | apply jX | apply jY | apply jZ); rfl) | ((with_reducible first | apply kA | apply kB | apply kC); rfl)); all_goals (first | ((with_reducible show Is _ _); exact kE) | ((with_reducible refine fun (hc : (_ : Bool) = _) => ?_); (try simp only [xZ, xY, xP, reduceCtorEq] at hc); (try (have hx : True := hc; clear hx hc)); (try exact kX)) | ((with_reducible show ACall _ _ _ _ _); (first | ((with_reducible apply hp) <;> exact kD))) | ((fail_if_success (with_reducible first | show Is _ _ | show ACall _ _ _ _ _)); (try ((with_reducible show _ ∨ _); exact kT))))))
      refine w_drawJ [0] [⟨[], false⟩] (fun B' => B'[2]? = some ⟨[.bool six, byteC a0, byteC a1, byteC a2, byteC a3, byteC a4, byteC a5, byteC a6, byteC a7, byteC a8, byteC a9, byteC a10, byteC a11, byteC a12, byteC a13, byteC a14, byteC a15, .int .i64 n], false⟩) rfl rfl rfl ?_
      repeat' (first | (with_reducible first | apply jA | apply jB | apply jC | apply jD | apply jE | apply jF | apply jG | apply jH | apply jI | apply jJ | apply jK | apply jL | apply jM | apply jN | apply jO) | ((with_reducible apply jP); rfl) | ((first | ((with_reducible first | apply d_made | apply q_made); rfl; rfl)); (iterate 6 exact kE)) | ((first | ((with_reducible first | apply d_fop | apply q_fop); rfl; rfl)); (intro Bx hJ; (first | (obtain ⟨_, hJ1, hJ2⟩ := hJ) | (try simp only at hJ)); exact kE)) | ((first | ((with_reducible first | apply jR | apply jS | apply jT); rfl; rfl) | (with_reducible first | apply jU | apply jV | apply jW) | ((with_reducible first | apply jX | apply jY | apply jZ); rfl)); all_goals (first | ((with_reducible show Is _ _); exact kE) | ((with_reducible refine fun (hc : (_ : Bool) = _) => ?_); (try simp only [xZ, xY, xP, reduceCtorEq] at hc); (try (have hx : True := hc; clear hx hc)); (try exact kX)) | ((fail_if_success (with_reducible first | show Is _ _ | show ACall _ _ _ _ _)); (try ((with_reducible show _ ∨ _); first | exact .inl rfl | (refine .inr ⟨rfl, ?_, ?_⟩; (focus (repeat (first | exact trivial | refine ⟨.inl rfl, ?_⟩ | refine ⟨.inr rfl, ?_⟩ | refine ⟨.inr (by (simp (disch := first | omega | (simp only [yZ, yB] <;> omega) | fail) [go_sem, yY, *, -List.map_take, -List.map_drop, -List.map_append, -List.map_reverse])), ?_⟩))); (first | exact trivial | exact rfl | (refine ⟨_, ?_, ?_⟩; (focus (simp (disch := first | omega | (simp only [yZ, yB] <;> omega) | fail) [go_sem, yY, *, -List.map_take, -List.map_drop, -List.map_append, -List.map_reverse]; (try exact rfl))); (simp (disch := first | omega | (simp only [yZ, yB] <;> omega) | fail) [go_sem, yY, *, -List.map_take, -List.map_drop, -List.map_append, -List.map_reverse])) | (simp (disch := first | omega | (simp only [yZ, yB] <;> omega) | fail) [go_sem, yY, *, -List.map_take, -List.map_drop, -List.map_append, -List.map_reverse]))) | exact .inl (by (simp (disch := first | omega | (simp only [yZ, yB] <;> omega) | fail) [go_sem, yY, *, -List.map_take, -List.map_drop, -List.map_append, -List.map_reverse]))))))))
      repeat' (first | (with_reducible first | apply jA | apply jB | apply jC | apply jD | apply jE | apply jF | apply jG | apply jH | apply jI | apply jJ | apply jK | apply jL | apply jM | apply jN | apply jO) | ((with_reducible first | apply jP | apply jQ); rfl) | ((with_reducible apply w_drawA); (conv => lhs; reduce); exact kE; exact kE) | ((first | ((with_reducible first | apply d_made | apply q_made); rfl; rfl)); (iterate 6 exact kE)) | ((first | ((with_reducible first | apply d_fop | apply q_fop); rfl; rfl)); (intro Bx hJ; (first | (obtain ⟨_, hJ1, hJ2⟩ := hJ) | (try simp only at hJ)); exact kE)) | ((with_reducible first | apply d_free | apply q_free); rfl; (iterate 2 exact kE); (intro Bx hJ); (first | ((with_reducible apply hu) <;> exact kD) | ((with_reducible apply hf) <;> exact kD))) | ((first | ((with_reducible first | apply jR | apply jS | apply jT); rfl; rfl) | (with_reducible first | apply jU | apply jV | apply jW) | ((with_reducible first | apply jX | apply jY | apply jZ); rfl) | ((with_reducible first | apply kA | apply kB | apply kC); rfl)); all_goals (first | ((with_reducible show Is _ _); exact kE) | ((with_reducible refine fun (hc : (_ : Bool) = _) => ?_); (try simp only [xZ, xY, xP, reduceCtorEq] at hc); (try (have hx : True := hc; clear hx hc)); (try exact kX)) | ((with_reducible show ACall _ _ _ _ _); (first | ((with_reducible apply hu) <;> exact kD) | ((with_reducible apply hf) <;> exact kD))) | ((fail_if_success (with_reducible first | show Is _ _ | show ACall _ _ _ _ _)); (try ((with_reducible show _ ∨ _); first | exact .inl rfl | (refine .inr ⟨rfl, ?_, ?_⟩; (focus (repeat (first | exact trivial | refine ⟨.inl rfl, ?_⟩ | refine ⟨.inr rfl, ?_⟩ | refine ⟨.inr (by (simp (disch := first | omega | (simp only [yZ, yB] <;> omega) | fail) [go_sem, yY, *, -List.map_take, -List.map_drop, -List.map_append, -List.map_reverse])), ?_⟩))); (first | exact trivial | exact rfl | (refine ⟨_, ?_, ?_⟩; (focus (simp (disch := first | omega | (simp only [yZ, yB] <;> omega) | fail) [go_sem, yY, *, -List.map_take, -List.map_drop, -List.map_append, -List.map_reverse]; (try exact rfl))); (simp (disch := first | omega | (simp only [yZ, yB] <;> omega) | fail) [go_sem, yY, *, -List.map_take, -List.map_drop, -List.map_append, -List.map_reverse])) | (simp (disch := first | omega | (simp only [yZ, yB] <;> omega) | fail) [go_sem, yY, *, -List.map_take, -List.map_drop, -List.map_append, -List.map_reverse]))) | exact .inl (by (simp (disch := first | omega | (simp only [yZ, yB] <;> omega) | fail) [go_sem, yY, *, -List.map_take, -List.map_drop, -List.map_append, -List.map_reverse]))))))))
      rw [Bool.true_and]
      exact fz_acb (evA { ev0 with kind := 2, six := six, ip := [a0, a1, a2, a3, a4, a5, a6, a7, a8, a9, a10, a11, a12, a13, a14, a15], port := n, bytes := l }) _
theorem evR_miss (n : Nat) (x0 : List UInt8) (Y : List CV) (h2 : n = 2 → x0 = wDatagram) (h3 : n = 3 → (x0 == wDatagram) = false) : PC Tryz.prog false 33 [.lst n (.str x0 :: Y) false] (.tup [.agg (acC (evA ev0)), .bool false]) := by
  refine acall_intro mixed Tryz.func33 rfl ca33 (by kernel_rfl) (by rw [Tryz.ntmps33]; simp) ?_
  by_cases n2 : n = 2
  · subst n2
    rw [h2 rfl, wDatagram]
    clear h2 h3
    refine w0 ?_ 
    rfl
  have b2 : ((n : Int) == 2) = false := by simpa using (by omega : (n : Int) ≠ 2)
  by_cases n3 : n = 3
  · subst n3
    have h4 := h3 rfl
    rw [wDatagram] at h4
    clear h2 h3
    refine w0 ?_ 
    rfl
  have b3 : ((n : Int) == 3) = false := by simpa using (by omega : (n : Int) ≠ 3)
  clear h2 h3
  refine w0 ?_ 
  rfl
end Go.Proofs.YtcbdghgogmcllaaGreatDoor
end
section
namespace Go.Proofs.YtcbdghgogmcllaaGreatDoor
open Go Go.Sy
def handR (x1 x2 x3 : List UInt8) : Ac × Bool := if x1.length = 1 ∧ x2.length = 1 ∧ (numR x1).2 = true ∧ (numR x2).2 = true ∧ (bytesR x3).2 = true ∧ (bytesR x3).1.length = 32 then ({ act0 with kind := 2, lo := (numR x1).1, hi := (numR x2).1, key := (bytesR x3).1 }, true) else ({ act0 with kind := 2 }, false)
theorem handR_miss (n : Nat) (Y : List CV) (h : n ≠ 4) : PC Tryz.prog false 34 [.lst n Y false] (.tup [.agg (acC { act0 with kind := 2 }), .bool false]) := by
  have hb : ((n : Int) != 4) = true := by simpa using (by omega : (n : Int) ≠ 4)
  refine acall_intro mixed Tryz.func34 rfl ca34 (by kernel_rfl) (by rw [Tryz.ntmps34]; simp) ?_
  refine w0 ?_ 
  rfl
theorem handR_in (x0 x1 x2 x3 : List UInt8) (h1 : x1.length < 1000000000) (h2 : x2.length < 1000000000) (h3 : x3.length < 1000000000) : PC Tryz.prog false 34 [.lst 4 [.str x0, .str x1, .str x2, .str x3] false] (.tup [.agg (acC (handR x1 x2 x3).1), .bool (handR x1 x2 x3).2]) := by
  have hu : ∀ {B : List Box}, ACall Tryz.prog 55 [.str x1] B fun c B' => c = .tup [.int .i64 (numR x1).1, .bool (numR x1).2] ∧ B' = B := numR_at h1
  have hv : ∀ {B : List Box}, ACall Tryz.prog 55 [.str x2] B fun c B' => c = .tup [.int .i64 (numR x2).1, .bool (numR x2).2] ∧ B' = B := numR_at h2
  have hk : ∀ {B : List Box}, ACall Tryz.prog 53 [.str x3] B fun c B' => c = .tup [lb (bytesR x3).1, .bool (bytesR x3).2] ∧ B' = B := bytesR_at h3
  unfold handR
  generalize numR x1 = r1 at *
  generalize numR x2 = r2 at *
  generalize bytesR x3 = r3 at *
  obtain ⟨n1, b1⟩ := r1
  obtain ⟨n2, b2⟩ := r2
  obtain ⟨l, b3⟩ := r3
  rw [lb] at hk
  dsimp only at *
  have hm : (l.map byteC).length = l.length := List.length_map _
  refine acall_intro mixed Tryz.func34 rfl ca34 (by kernel_rfl) (by rw [Tryz.ntmps34]; simp) ?_
  by_cases e1 : x1.length = 1
  rotate_left
  · have hb : ((x1.length : Int) != 1) = true := by simpa using (by omega : (x1.length : Int) ≠ 1)
    rw [if_neg (fun h => e1 h.1)]
    clear hu hv hk
    refine w0 ?_ 
    rfl
  by_cases e2 : x2.length = 1
  rotate_left
  · have hb : ((x2.length : Int) != 1) = true := by simpa using (by omega : (x2.length : Int) ≠ 1)
    rw [if_neg (fun h => e2 h.2.1)]
    clear hu hv hk
    refine w0 ?_ 
    rfl
  cases b1
  · rw [if_neg (fun h => by simpa using h.2.2.1)]
    refine w3 @hu @hv @hk ?_ 
    rfl
  cases b2
  · rw [if_neg (fun h => by simpa using h.2.2.2.1)]
    refine w3 @hu @hv @hk ?_ 
    rfl
  cases b3
  · rw [if_neg (fun h => by simpa using h.2.2.2.2.1)]
    refine w3 @hu @hv @hk ?_ 
    rfl
  by_cases e3 : l.length = 32
  rotate_left
  · have hb : ((l.length : Int) != 32) = true := by simpa using (by omega : (l.length : Int) ≠ 32)
    rw [if_neg (fun h => e3 h.2.2.2.2.2)]
    refine w3 @hu @hv @hk ?_ 
    rfl
  rw [if_pos ⟨e1, e2, rfl, rfl, rfl, e3⟩]
  have ht : (l.map byteC).take 32 = l.map byteC := List.take_of_length_le (by omega)
  refine w3 @hu @hv @hk ?_ 
  exact fz_acb { act0 with kind := 2, lo := n1, hi := n2, key := l } true
end Go.Proofs.YtcbdghgogmcllaaGreatDoor
end
section
namespace Go.Proofs.YtcbdghgogmcllaaGreatDoor
open Go Go.Sy
def namedR (x0 x1 : List UInt8) (tl : List (List UInt8)) : Ac × Bool :=
  if x1 = [48] ∨ x1 = [49] then
    match tl with
    | [] => if x0 = wAbort then ({ act0 with kind := 4, who := if x1 = [48] then 0 else 1 }, true) else if x0 = wKill then ({ act0 with kind := 5, who := if x1 = [48] then 0 else 1 }, true) else (act0, false)
    | [x2] => if x0 = wPick then ({ act0 with kind := 3, who := if x1 = [48] then 0 else 1, n := (numR x2).1 }, (numR x2).2) else if x0 = wCut then ({ act0 with kind := 7, who := if x1 = [48] then 0 else 1, n := (numR x2).1 }, (numR x2).2) else (act0, false)
    | [x2, x3] => if x0 = wCorrupt ∧ (bytesR x3).2 = true ∧ (bytesR x3).1.length = 1 then ({ act0 with kind := 6, who := if x1 = [48] then 0 else 1, n := (numR x2).1, xor := (bytesR x3).1.headD 0 }, (numR x2).2) else (act0, false)
    | _ => (act0, false)
  else (act0, false)
theorem namedR_bad (n : Nat) (x0 x1 : List UInt8) (Y : List CV) (hn : 2 ≤ n) (h1 : x1 ≠ [48]) (h2 : x1 ≠ [49]) : PC Tryz.prog false 35 [.lst n (.str x0 :: .str x1 :: Y) false] (.tup [.agg (acC act0), .bool false]) := by
  have b1 : (x1 != [48]) = true := by simpa using h1
  have b2 : (x1 != [49]) = true := by simpa using h2
  refine acall_intro mixed Tryz.func35 rfl ca35 (by kernel_rfl) (by rw [Tryz.ntmps35]; simp) ?_
  refine w0 ?_ 
  rfl
theorem namedR_0 (x0 x1 : List UInt8) (hx : x1 = [48] ∨ x1 = [49]) : PC Tryz.prog false 35 [.lst 2 [.str x0, .str x1] false] (.tup [.agg (acC (namedR x0 x1 []).1), .bool (namedR x0 x1 []).2]) := by
  rw [namedR, if_pos hx]
  dsimp only
  rcases hx with rfl | rfl
  all_goals
    by_cases e1 : x0 = wAbort
    · subst e1
      rw [if_pos rfl, wAbort]
      refine acall_intro mixed Tryz.func35 rfl ca35 (by kernel_rfl) (by rw [Tryz.ntmps35]; simp) ?_
      refine w0 ?_ 
      rfl
    rw [if_neg e1]
    have b1 : (x0 == wAbort) = false := by simpa using e1
    rw [wAbort] at b1
    by_cases e2 : x0 = wKill
    · subst e2
      rw [if_pos rfl, wKill]
      clear b1 e1
      refine acall_intro mixed Tryz.func35 rfl ca35 (by kernel_rfl) (by rw [Tryz.ntmps35]; simp) ?_
      refine w0 ?_ 
      rfl
    rw [if_neg e2]
    have b2 : (x0 == wKill) = false := by simpa using e2
    rw [wKill] at b2
    refine acall_intro mixed Tryz.func35 rfl ca35 (by kernel_rfl) (by rw [Tryz.ntmps35]; simp) ?_
    refine w0 ?_ 
    rfl
theorem namedR_1 (x0 x1 x2 : List UInt8) (hx : x1 = [48] ∨ x1 = [49]) (h2 : x2.length < 1000000000) : PC Tryz.prog false 35 [.lst 3 [.str x0, .str x1, .str x2] false] (.tup [.agg (acC (namedR x0 x1 [x2]).1), .bool (namedR x0 x1 [x2]).2]) := by
  have hu : ∀ {B : List Box}, ACall Tryz.prog 55 [.str x2] B fun c B' => c = .tup [.int .i64 (numR x2).1, .bool (numR x2).2] ∧ B' = B := numR_at h2
  rw [namedR, if_pos hx]
  dsimp only
  generalize numR x2 = r1 at *
  obtain ⟨n1, b⟩ := r1
  dsimp only at *
  rcases hx with rfl | rfl
  all_goals
    by_cases e1 : x0 = wPick
    · subst e1
      rw [if_pos rfl, wPick]
      refine acall_intro mixed Tryz.func35 rfl ca35 (by kernel_rfl) (by rw [Tryz.ntmps35]; simp) ?_
      refine w1 @hu ?_ 
      rfl
    rw [if_neg e1]
    have b1 : (x0 == wPick) = false := by simpa using e1
    rw [wPick] at b1
    by_cases e2 : x0 = wCut
    · subst e2
      rw [if_pos rfl, wCut]
      clear b1 e1
      refine acall_intro mixed Tryz.func35 rfl ca35 (by kernel_rfl) (by rw [Tryz.ntmps35]; simp) ?_
      refine w1 @hu ?_ 
      rfl
    rw [if_neg e2]
    have b2 : (x0 == wCut) = false := by simpa using e2
    rw [wCut] at b2
    refine acall_intro mixed Tryz.func35 rfl ca35 (by kernel_rfl) (by rw [Tryz.ntmps35]; simp) ?_
    refine w1 @hu ?_ 
    rfl
theorem namedR_2 (x0 x1 x2 x3 : List UInt8) (hx : x1 = [48] ∨ x1 = [49]) (h2 : x2.length < 1000000000) (h3 : x3.length < 1000000000) : PC Tryz.prog false 35 [.lst 4 [.str x0, .str x1, .str x2, .str x3] false] (.tup [.agg (acC (namedR x0 x1 [x2, x3]).1), .bool (namedR x0 x1 [x2, x3]).2]) := by
  have hu : ∀ {B : List Box}, ACall Tryz.prog 55 [.str x2] B fun c B' => c = .tup [.int .i64 (numR x2).1, .bool (numR x2).2] ∧ B' = B := numR_at h2
  have hk : ∀ {B : List Box}, ACall Tryz.prog 53 [.str x3] B fun c B' => c = .tup [lb (bytesR x3).1, .bool (bytesR x3).2] ∧ B' = B := bytesR_at h3
  rw [namedR, if_pos hx]
  dsimp only
  generalize numR x2 = r1 at *
  obtain ⟨n1, b⟩ := r1
  generalize bytesR x3 = r3 at *
  obtain ⟨l, b3⟩ := r3
  rw [lb] at hk
  dsimp only at *
  have hm : (l.map byteC).length = l.length := List.length_map _
  rcases hx with rfl | rfl
  all_goals
    by_cases e1 : x0 = wCorrupt
    rotate_left
    · rw [if_neg (fun h => e1 h.1)]
      have b1 : (x0 == wCorrupt) = false := by simpa using e1
      rw [wCorrupt] at b1
      clear hk hm
      refine acall_intro mixed Tryz.func35 rfl ca35 (by kernel_rfl) (by rw [Tryz.ntmps35]; simp) ?_
      refine w1 @hu ?_ 
      rfl
    subst e1
    cases b3
    · rw [if_neg (fun h => by simpa using h.2.1), wCorrupt]
      refine acall_intro mixed Tryz.func35 rfl ca35 (by kernel_rfl) (by rw [Tryz.ntmps35]; simp) ?_
      refine w2 @hu @hk ?_ 
      rfl
    by_cases e3 : l.length = 1
    rotate_left
    · have hb : ((l.length : Int) != 1) = true := by simpa using (by omega : (l.length : Int) ≠ 1)
      rw [if_neg (fun h => e3 h.2.2), wCorrupt]
      refine acall_intro mixed Tryz.func35 rfl ca35 (by kernel_rfl) (by rw [Tryz.ntmps35]; simp) ?_
      refine w2 @hu @hk ?_ 
      rfl
    rw [if_pos ⟨rfl, rfl, e3⟩, wCorrupt]
    clear hm
    match l, e3 with
    | [c], _ =>
    refine acall_intro mixed Tryz.func35 rfl ca35 (by kernel_rfl) (by rw [Tryz.ntmps35]; simp) ?_
    repeat' (first | (with_reducible first | apply jA | apply jB | apply jC | apply jD | apply jE | apply jF | apply jG | apply jH | apply jI | apply jJ | apply jK | apply jL | apply jM | apply jN | apply jO) | ((with_reducible apply jP); rfl) | ((first | ((with_reducible first | apply jR | apply jS | apply jT); rfl; rfl) | (with_reducible first | apply jU | apply jV | apply jW) | ((with_reducible first | apply jX | apply jY | apply jZ); rfl) | ((with_reducible first | apply kA | apply kB | apply kC); rfl)); all_goals (first | ((with_reducible show Is _ _); exact kE) | ((with_reducible refine fun (hc : (_ : Bool) = _) => ?_); (try simp only [xZ, xY, xP, reduceCtorEq] at hc); (try (have hx : True := hc; clear hx hc)); (try exact kX)) | ((with_reducible show ACall _ _ _ _ _); (first | ((with_reducible apply hu) <;> exact kD) | ((with_reducible apply hk) <;> exact kD))) | ((fail_if_success (with_reducible first | show Is _ _ | show ACall _ _ _ _ _)); (try ((with_reducible show _ ∨ _); exact kT))))))
    refine w_drawJ [0, 1, 2] [⟨[], false⟩, ⟨[], false⟩, ⟨[], false⟩] (fun _ => True) rfl rfl trivial ?_
    repeat' (first | (with_reducible first | apply jA | apply jB | apply jC | apply jD | apply jE | apply jF | apply jG | apply jH | apply jI | apply jJ | apply jK | apply jL | apply jM | apply jN | apply jO) | ((with_reducible apply jP); rfl) | ((first | ((with_reducible first | apply d_made | apply q_made); rfl; rfl)); (iterate 6 exact kE)) | ((first | ((with_reducible first | apply d_fop | apply q_fop); rfl; rfl)); (intro Bx hJ; (first | (obtain ⟨_, hJ1, hJ2⟩ := hJ) | (try simp only at hJ)); exact kE)) | ((first | ((with_reducible first | apply jR | apply jS | apply jT); rfl; rfl) | (with_reducible first | apply jU | apply jV | apply jW) | ((with_reducible first | apply jX | apply jY | apply jZ); rfl)); all_goals (first | ((with_reducible show Is _ _); exact kE) | ((with_reducible refine fun (hc : (_ : Bool) = _) => ?_); (try simp only [xZ, xY, xP, reduceCtorEq] at hc); (try (have hx : True := hc; clear hx hc)); (try exact kX)) | ((fail_if_success (with_reducible first | show Is _ _ | show ACall _ _ _ _ _)); (try ((with_reducible show _ ∨ _); first | exact .inl rfl | (refine .inr ⟨rfl, ?_, ?_⟩; (focus (repeat (first | exact trivial | refine ⟨.inl rfl, ?_⟩ | refine ⟨.inr rfl, ?_⟩ | refine ⟨.inr (by (simp (disch := first | omega | (simp only [yZ, yB] <;> omega) | fail) [go_sem, yY, *, -List.map_take, -List.map_drop, -List.map_append, -List.map_reverse])), ?_⟩))); (first | exact trivial | exact rfl | (refine ⟨_, ?_, ?_⟩; (focus (simp (disch := first | omega | (simp only [yZ, yB] <;> omega) | fail) [go_sem, yY, *, -List.map_take, -List.map_drop, -List.map_append, -List.map_reverse]; (try exact rfl))); (simp (disch := first | omega | (simp only [yZ, yB] <;> omega) | fail) [go_sem, yY, *, -List.map_take, -List.map_drop, -List.map_append, -List.map_reverse])) | (simp (disch := first | omega | (simp only [yZ, yB] <;> omega) | fail) [go_sem, yY, *, -List.map_take, -List.map_drop, -List.map_append, -List.map_reverse]))) | exact .inl (by (simp (disch := first | omega | (simp only [yZ, yB] <;> omega) | fail) [go_sem, yY, *, -List.map_take, -List.map_drop, -List.map_append, -List.map_reverse]))))))))
    refine w0 ?_ 
    rfl
theorem namedR_more (n : Nat) (x0 x1 x2 : List UInt8) (Y : List CV) (hn : 5 ≤ n) (hx : x1 = [48] ∨ x1 = [49]) (h2 : x2.length < 1000000000) : PC Tryz.prog false 35 [.lst n (.str x0 :: .str x1 :: .str x2 :: Y) false] (.tup [.agg (acC act0), .bool false]) := by
  have hu : ∀ {B : List Box}, ACall Tryz.prog 55 [.str x2] B fun c B' => c = .tup [.int .i64 (numR x2).1, .bool (numR x2).2] ∧ B' = B := numR_at h2
  have c2 : ((n : Int) == 2) = false := by simpa using (by omega : (n : Int) ≠ 2)
  have c3 : ((n : Int) == 3) = false := by simpa using (by omega : (n : Int) ≠ 3)
  have c4 : ((n : Int) == 4) = false := by simpa using (by omega : (n : Int) ≠ 4)
  generalize numR x2 = r1 at *
  rcases hx with rfl | rfl
  all_goals
    refine acall_intro mixed Tryz.func35 rfl ca35 (by kernel_rfl) (by rw [Tryz.ntmps35]; simp) ?_
    refine w1 @hu ?_ 
    rfl
end Go.Proofs.YtcbdghgogmcllaaGreatDoor
end
section
namespace Go.Proofs.YtcbdghgogmcllaaGreatDoor
open Go Go.Sy
def evR (x0 x1 : List UInt8) (tl : List (List UInt8)) : Ac × Bool := match tl with
  | [] => if x0 = wPlain then (evA { ev0 with kind := 1, bytes := (bytesR x1).1 }, (bytesR x1).2) else if x0 = wTick then (evA { ev0 with kind := 3, time := (numR x1).1 }, (numR x1).2) else if x0 = wEntropy then (evA { ev0 with kind := 4, bytes := (bytesR x1).1 }, (bytesR x1).2) else (evA ev0, false)
  | [x2] => if x0 = wDatagram then dgR x1 x2 else (evA ev0, false)
  | _ => (evA ev0, false)
def handX (x1 : List UInt8) (tl : List (List UInt8)) : Ac × Bool := match tl with
  | [x2, x3] => handR x1 x2 x3
  | _ => ({ act0 with kind := 2 }, false)
def isEv (x0 : List UInt8) : Bool := x0 == wPlain || x0 == wDatagram || x0 == wTick || x0 == wEntropy
def wordsR (w : List (List UInt8)) : Ac × Bool := match w with
  | x0 :: x1 :: tl => if isEv x0 then evR x0 x1 tl else if x0 = wHandoff then handX x1 tl else namedR x0 x1 tl
  | _ => (act0, false)
def lineR (s : List UInt8) : Ac × Bool := if s.take 8 = sCtl then ctlR (s.drop 8) else wordsR (splitL 32 s)
structure AcK (a : Ac) : Prop where
  ip : a.ev.ip.length = 16
  key : a.key.length = 32
theorem acK_len {a : Ac} (h : AcK a) : (acC a).length = 60 := by simp [acC, evC_len h.ip, h.key]
theorem act0_K : AcK act0 := ⟨rfl, rfl⟩
theorem ctlR_K (s : List UInt8) : AcK (ctlR s).1 := by
  unfold ctlR
  split <;> exact ⟨rfl, rfl⟩
theorem evR_K (x0 x1 : List UInt8) (tl : List (List UInt8)) : AcK (evR x0 x1 tl).1 := by
  unfold evR dgR
  repeat' split
  all_goals first | exact ⟨rfl, rfl⟩ | skip
  all_goals exact ⟨parseE_ip (by assumption), rfl⟩
theorem handX_K (x1 : List UInt8) (tl : List (List UInt8)) : AcK (handX x1 tl).1 := by
  unfold handX handR
  repeat' split
  all_goals first | exact ⟨rfl, rfl⟩ | skip
  rename_i h
  exact ⟨rfl, h.2.2.2.2.2⟩
theorem namedR_K (x0 x1 : List UInt8) (tl : List (List UInt8)) : AcK (namedR x0 x1 tl).1 := by
  unfold namedR
  repeat' split
  all_goals exact ⟨rfl, rfl⟩
theorem wordsR_K (w : List (List UInt8)) : AcK (wordsR w).1 := by
  unfold wordsR
  repeat' split
  · exact evR_K _ _ _
  · exact handX_K _ _
  · exact namedR_K _ _ _
  · exact act0_K
theorem lineR_K (s : List UInt8) : AcK (lineR s).1 := by
  unfold lineR
  split
  · exact ctlR_K _
  · exact wordsR_K _
section
variable {x0 x1 : List UInt8} {tl : List (List UInt8)} {n : Nat} {Y : List CV}
theorem evR_in (hn : n = tl.length + 2) (hY : Y = tl.map .str) (h1 : x1.length < 1000000000) (hl : ∀ x ∈ tl, x.length < 1000000000) (he : isEv x0 = true) : PC Tryz.prog false 33 [.lst n (.str x0 :: .str x1 :: Y) false] (.tup [.agg (acC (evR x0 x1 tl).1), .bool (evR x0 x1 tl).2]) := by
  subst hn hY
  have he' : ((x0 = wPlain ∨ x0 = wDatagram) ∨ x0 = wTick) ∨ x0 = wEntropy := by simpa [isEv] using he
  match tl, hl with
  | [], _ =>
    rcases he' with ((rfl | rfl) | rfl) | rfl
    · exact evR_Plain x1 h1
    · exact evR_miss 2 _ [.str x1] (fun _ => rfl) (by decide)
    · exact evR_Tick x1 h1
    · exact evR_Entropy x1 h1
  | [x2], hl =>
    rcases he' with ((rfl | rfl) | rfl) | rfl
    · exact evR_miss 3 _ [.str x1, .str x2] (by decide) (by decide)
    · exact evR_Datagram x1 x2 h1 (hl x2 (by simp))
    · exact evR_miss 3 _ [.str x1, .str x2] (by decide) (by decide)
    · exact evR_miss 3 _ [.str x1, .str x2] (by decide) (by decide)
  | x2 :: x3 :: tl, hl => exact evR_miss _ _ _ (fun h => by simp at h) (fun h => by simp at h)
theorem handX_in (hn : n = tl.length + 2) (hY : Y = tl.map .str) (h1 : x1.length < 1000000000) (hl : ∀ x ∈ tl, x.length < 1000000000) : PC Tryz.prog false 34 [.lst n (.str x0 :: .str x1 :: Y) false] (.tup [.agg (acC (handX x1 tl).1), .bool (handX x1 tl).2]) := by
  subst hn hY
  match tl, hl with
  | [], _ => exact handR_miss _ _ (by simp)
  | [x2], _ => exact handR_miss _ _ (by simp)
  | [x2, x3], hl => exact handR_in x0 x1 x2 x3 h1 (hl x2 (by simp)) (hl x3 (by simp))
  | x2 :: x3 :: x4 :: tl, _ => exact handR_miss _ _ (by simp)
theorem namedR_in (hn : n = tl.length + 2) (hY : Y = tl.map .str) (hl : ∀ x ∈ tl, x.length < 1000000000) : PC Tryz.prog false 35 [.lst n (.str x0 :: .str x1 :: Y) false] (.tup [.agg (acC (namedR x0 x1 tl).1), .bool (namedR x0 x1 tl).2]) := by
  subst hn hY
  by_cases hx : x1 = [48] ∨ x1 = [49]
  · match tl, hl with
    | [], _ => exact namedR_0 x0 x1 hx
    | [x2], hl => exact namedR_1 x0 x1 x2 hx (hl x2 (by simp))
    | [x2, x3], hl => exact namedR_2 x0 x1 x2 x3 hx (hl x2 (by simp)) (hl x3 (by simp))
    | x2 :: x3 :: x4 :: tl, hl =>
      have e : namedR x0 x1 (x2 :: x3 :: x4 :: tl) = (act0, false) := by unfold namedR; rw [if_pos hx]
      rw [e]
      exact namedR_more _ x0 x1 x2 _ (by simp) hx (hl x2 (by simp))
  · have e : namedR x0 x1 tl = (act0, false) := by unfold namedR; rw [if_neg hx]
    rw [e]
    exact namedR_bad _ x0 x1 _ (by omega) (fun h => hx (.inl h)) (fun h => hx (.inr h))
end
theorem lineR_in (s : List UInt8) (hs : s.length < 1000000) : PC Tryz.prog false 17 [.str s] (.tup [.agg (acC (lineR s).1), .bool (lineR s).2]) := by
  have hz := acC_zero
  have hzl := zA_len
  by_cases hp : s.take 8 = sCtl
  · have h8 : 8 ≤ s.length := by
      have := congrArg List.length hp
      rw [List.length_take] at this
      have h : sCtl.length = 8 := rfl
      omega
    rw [lineR, if_pos hp]
    have htk : (s.drop 8).take (s.length - 8) = s.drop 8 := List.take_of_length_le (by rw [List.length_drop]; omega)
    have hct : ∀ {B : List Box} {args : List CV}, Is args [.str ((s.drop 8).take (s.length - 8))] → ACall Tryz.prog 32 args B fun c B' => c = .tup [.agg (acC (ctlR (s.drop 8)).1), .bool (ctlR (s.drop 8)).2] ∧ B' = B := fun {B args} h => by
      have h : _ = _ := h
      rw [htk] at h
      subst h
      exact ctlR_at (by rw [List.length_drop]; omega)
    have ho : ∀ {nz : Bool} {B : List Box} {k : Nat}, omap (Go.Sy.fz nz false B (k + 3)) (acC (ctlR (s.drop 8)).1) = some (acC (ctlR (s.drop 8)).1) := acC_om
    have hl := acK_len (ctlR_K (s.drop 8))
    have ht : (acC (ctlR (s.drop 8)).1).take 60 = acC (ctlR (s.drop 8)).1 := List.take_of_length_le (by omega)
    generalize acC (ctlR (s.drop 8)).1 = Z at *
    generalize (ctlR (s.drop 8)).2 = b at *
    rw [sCtl] at hp
    clear hz hzl
    refine acall_intro mixed Tryz.func17 rfl ca17 (by kernel_rfl) (by rw [Tryz.ntmps17]; simp) ?_
    refine w1 @hct ?_ 
    simp [go_sem, ho]
  rw [lineR, if_neg hp]
  have hnum := splitL_num 32 s
  have hmem := splitL_mem 32 s
  have hsp : ∀ {B : List Box}, ACall Tryz.prog 24 [.str s, .int .u8 32] B fun c B' => c = .lst (splitL 32 s).length ((splitL 32 s).map .str) false ∧ B' = B := rsplit_at (b := 32) rfl (by omega)
  have hp8 : 8 ≤ s.length → (s.take 8 == sCtl) = false := fun _ => by simpa using hp
  rw [sCtl] at hp8
  generalize splitL 32 s = w at *
  rcases w with _ | ⟨x0, _ | ⟨x1, tl⟩⟩
  · simp only [wordsR]
    simp only [List.length_nil, List.map_nil] at hsp
    refine acall_intro mixed Tryz.func17 rfl ca17 (by kernel_rfl) (by rw [Tryz.ntmps17]; simp) ?_
    by_cases h8 : 8 ≤ s.length
    · have hp9 := hp8 h8
      refine w1 @hsp ?_ 
      rfl
    · refine w1 @hsp ?_ 
      rfl
  · simp only [wordsR]
    simp only [List.length_nil, List.length_cons, List.map_nil, List.map_cons] at hsp
    refine acall_intro mixed Tryz.func17 rfl ca17 (by kernel_rfl) (by rw [Tryz.ntmps17]; simp) ?_
    by_cases h8 : 8 ≤ s.length
    · have hp9 := hp8 h8
      refine w1 @hsp ?_ 
      rfl
    · refine w1 @hsp ?_ 
      rfl
  · simp only [wordsR]
    obtain ⟨n, hn⟩ : ∃ n, n = tl.length + 2 := ⟨_, rfl⟩
    obtain ⟨Y, hY⟩ : ∃ Y : List CV, Y = tl.map .str := ⟨_, rfl⟩
    have h1 : x1.length < 1000000000 := by have := hmem x1 (by simp); omega
    have hl : ∀ x ∈ tl, x.length < 1000000000 := fun x hx => by have := hmem x (by simp [hx]); omega
    have hnn : n < 1000000000 := by simp at hnum; omega
    rw [show (x0 :: x1 :: tl).length = n by simp [hn], show (x0 :: x1 :: tl).map CV.str = .str x0 :: .str x1 :: Y by rw [hY]; rfl] at hsp
    have hom : omap (Go.Sy.fz false false [] 6) [.lst n (.str x0 :: .str x1 :: Y) false] = some [.lst n (.str x0 :: .str x1 :: Y) false] := by rw [hY]; simp [omap_two, omap_nil, fz_lst, fz_str, omap_strs]
    have hev := fun he {B} => acall_imm (B := B) (nz := false) hom (evR_in (x0 := x0) hn hY h1 hl he)
    have hha := fun {B} => acall_imm (B := B) (nz := false) hom (handX_in (x0 := x0) hn hY h1 hl)
    have hna := fun {B} => acall_imm (B := B) (nz := false) hom (namedR_in (x0 := x0) (x1 := x1) hn hY hl)
    have hn2 : 2 ≤ n := by omega
    have hn3 : ¬ ((n : Int) < 2) := by omega
    clear hnum hmem h1 hl hY hom
    clear hn
    by_cases he : isEv x0 = true
    · rw [if_pos he]
      replace hev := fun {B} => @hev he B
      clear hha hna
      have ho : ∀ {nz : Bool} {B : List Box} {k : Nat}, omap (Go.Sy.fz nz false B (k + 3)) (acC (evR x0 x1 tl).1) = some (acC (evR x0 x1 tl).1) := acC_om
      have hl := acK_len (evR_K x0 x1 tl)
      have ht : (acC (evR x0 x1 tl).1).take 60 = acC (evR x0 x1 tl).1 := List.take_of_length_le (by omega)
      generalize acC (evR x0 x1 tl).1 = Z at *
      generalize (evR x0 x1 tl).2 = b at *
      have he' : ((x0 = wPlain ∨ x0 = wDatagram) ∨ x0 = wTick) ∨ x0 = wEntropy := by simpa [isEv] using he
      clear he
      rcases he' with ((rfl | rfl) | rfl) | rfl
      · rw [wPlain] at hev hsp
        refine acall_intro mixed Tryz.func17 rfl ca17 (by kernel_rfl) (by rw [Tryz.ntmps17]; simp) ?_
        by_cases h8 : 8 ≤ s.length
        · have hp9 := hp8 h8
          refine w2 @hsp @hev ?_ 
          simp [go_sem, ho]
        · refine w2 @hsp @hev ?_ 
          simp [go_sem, ho]
      · rw [wDatagram] at hev hsp
        refine acall_intro mixed Tryz.func17 rfl ca17 (by kernel_rfl) (by rw [Tryz.ntmps17]; simp) ?_
        by_cases h8 : 8 ≤ s.length
        · have hp9 := hp8 h8
          refine w2 @hsp @hev ?_ 
          simp [go_sem, ho]
        · refine w2 @hsp @hev ?_ 
          simp [go_sem, ho]
      · rw [wTick] at hev hsp
        refine acall_intro mixed Tryz.func17 rfl ca17 (by kernel_rfl) (by rw [Tryz.ntmps17]; simp) ?_
        by_cases h8 : 8 ≤ s.length
        · have hp9 := hp8 h8
          refine w2 @hsp @hev ?_ 
          simp [go_sem, ho]
        · refine w2 @hsp @hev ?_ 
          simp [go_sem, ho]
      · rw [wEntropy] at hev hsp
        refine acall_intro mixed Tryz.func17 rfl ca17 (by kernel_rfl) (by rw [Tryz.ntmps17]; simp) ?_
        by_cases h8 : 8 ≤ s.length
        · have hp9 := hp8 h8
          refine w2 @hsp @hev ?_ 
          simp [go_sem, ho]
        · refine w2 @hsp @hev ?_ 
          simp [go_sem, ho]
    rw [if_neg he]
    have he2 : (((x0 == wPlain) = false ∧ (x0 == wDatagram) = false) ∧ (x0 == wTick) = false) ∧ (x0 == wEntropy) = false := by simpa [isEv] using he
    obtain ⟨⟨⟨e1, e2⟩, e3⟩, e4⟩ := he2
    rw [wPlain] at e1
    rw [wDatagram] at e2
    rw [wTick] at e3
    rw [wEntropy] at e4
    clear hev he
    by_cases hh : x0 = wHandoff
    · rw [if_pos hh]
      clear hna
      have ho : ∀ {nz : Bool} {B : List Box} {k : Nat}, omap (Go.Sy.fz nz false B (k + 3)) (acC (handX x1 tl).1) = some (acC (handX x1 tl).1) := acC_om
      have hl := acK_len (handX_K x1 tl)
      have ht : (acC (handX x1 tl).1).take 60 = acC (handX x1 tl).1 := List.take_of_length_le (by omega)
      generalize acC (handX x1 tl).1 = Z at *
      generalize (handX x1 tl).2 = b at *
      subst hh
      rw [wHandoff] at hha hsp
      clear e1 e2 e3 e4
      refine acall_intro mixed Tryz.func17 rfl ca17 (by kernel_rfl) (by rw [Tryz.ntmps17]; simp) ?_
      by_cases h8 : 8 ≤ s.length
      · have hp9 := hp8 h8
        refine w2 @hsp @hha ?_ 
        simp [go_sem, ho]
      · refine w2 @hsp @hha ?_ 
        simp [go_sem, ho]
    rw [if_neg hh]
    have e5 : (x0 == wHandoff) = false := by simpa using hh
    rw [wHandoff] at e5
    clear hha hh
    have ho : ∀ {nz : Bool} {B : List Box} {k : Nat}, omap (Go.Sy.fz nz false B (k + 3)) (acC (namedR x0 x1 tl).1) = some (acC (namedR x0 x1 tl).1) := acC_om
    have hl := acK_len (namedR_K x0 x1 tl)
    have ht : (acC (namedR x0 x1 tl).1).take 60 = acC (namedR x0 x1 tl).1 := List.take_of_length_le (by omega)
    generalize acC (namedR x0 x1 tl).1 = Z at *
    generalize (namedR x0 x1 tl).2 = b at *
    refine acall_intro mixed Tryz.func17 rfl ca17 (by kernel_rfl) (by rw [Tryz.ntmps17]; simp) ?_
    by_cases h8 : 8 ≤ s.length
    · have hp9 := hp8 h8
      refine w2 @hsp @hna ?_ 
      simp [go_sem, ho]
    · refine w2 @hsp @hna ?_ 
      simp [go_sem, ho]
theorem lineR_at {B : List Box} {s : List UInt8} (hs : s.length < 1000000) : ACall Tryz.prog 17 [.str s] B fun c B' => c = .tup [.agg (acC (lineR s).1), .bool (lineR s).2] ∧ B' = B := acall_imm (nz := false) rfl (lineR_in s hs)
end Go.Proofs.YtcbdghgogmcllaaGreatDoor
end
section
namespace Go.Proofs.YtcbdghgogmcllaaGreatDoor
open Go Go.Sy
theorem sameEv_in (a b : Ev) (ha : EvL a) (hb : EvL b) : PC Tryz.prog true 36 [.agg (evC a), .agg (evC b)] (.bool (sameE a b)) := by
  have ia := ha.ip
  have ib := hb.ip
  obtain ⟨le, e0, e1, e19, e20, e21⟩ := ev_parts ia
  obtain ⟨lf, f0, f1, f19, f20, f21⟩ := ev_parts ib
  have la : a.bytes.length < 1000000 := ha.bytes
  have lb' : b.bytes.length < 1000000 := hb.bytes
  generalize evC a = E at *
  generalize evC b = F at *
  clear ha hb
  refine acall_intro mixed Tryz.func36 rfl ca36 (by kernel_rfl) (by rw [Tryz.ntmps36]; simp) ?_
  repeat' (first | (with_reducible first | apply jA | apply jB | apply jC | apply jD | apply jE | apply jF | apply jG | apply jH | apply jI | apply jJ | apply jK | apply jL | apply jM | apply jN | apply jO) | ((with_reducible first | apply jP | apply jQ); rfl) | ((first | ((with_reducible first | apply jR | apply jS | apply jT); rfl; rfl) | (with_reducible first | apply jU | apply jV | apply jW) | ((with_reducible first | apply jX | apply jY | apply jZ); rfl)); all_goals (first | ((with_reducible show Is _ _); exact kE) | ((with_reducible refine fun (hc : (_ : Bool) = _) => ?_); (try simp only [xZ, xY, xP, reduceCtorEq] at hc); (try (have hx : True := hc; clear hx hc)); (try exact kX)) | ((fail_if_success (with_reducible first | show Is _ _ | show ACall _ _ _ _ _)); (try ((with_reducible show _ ∨ _); exact kT))))))
  all_goals
    clear la lb' le lf e0 e1 e19 e20 e21 f0 f1 f19 f20 f21
    rw [fz_bool]
    simp [sameE, *]
theorem sameEv_at {B : List Box} {args : List CV} {a b : Ev} {t : Bool} (hz : Is (omap (fz true false B 6) args) (some [.agg (evC a), .agg (evC b)])) (ha : EvL a) (hb : EvL b) (ht : sameE a b = t) : ACall Tryz.prog 36 args B fun c B' => c = .bool t ∧ B' = B := by
  subst ht
  exact acall_fresh hz (sameEv_in a b ha hb)
theorem rsame_in (a b : Ac) (ha : AcL a) (hb : AcL b) : PC Tryz.prog true 18 [.agg (acC a), .agg (acC b)] (.bool (sameA a b)) := by
  have pa := ac_parts ha
  have pb := ac_parts hb
  have a0 := pa.d0; have a1 := pa.d1; have a23 := pa.d23; have a24 := pa.d24; have a25 := pa.d25; have a26 := pa.d26; have a27 := pa.d27; have a28 := pa.d28
  have b0 := pb.d0; have b1 := pb.d1; have b23 := pb.d23; have b24 := pb.d24; have b25 := pb.d25; have b26 := pb.d26; have b27 := pb.d27; have b28 := pb.d28
  have la := pa.len
  have lb' := pb.len
  have ka := ha.key
  have kb := hb.key
  have kta : a.key.take 32 = a.key := List.take_of_length_le (by omega)
  have ktb : b.key.take 32 = b.key := List.take_of_length_le (by omega)
  have hq : ∀ {B : List Box} {args : List CV}, Is (omap (fz true false B 6) args) (some [.agg (evC a.ev), .agg (evC b.ev)]) → ACall Tryz.prog 36 args B fun c B' => c = .bool (sameE a.ev b.ev) ∧ B' = B := fun hz => sameEv_at hz ha.ev hb.ev rfl
  have oa : ∀ {nz : Bool} {B : List Box} {k : Nat}, omap (Go.Sy.fz nz false B (k + 3)) (evC a.ev) = some (evC a.ev) := evC_om
  have ob : ∀ {nz : Bool} {B : List Box} {k : Nat}, omap (Go.Sy.fz nz false B (k + 3)) (evC b.ev) = some (evC b.ev) := evC_om
  have le := evC_len ha.ev.ip
  have lf := evC_len hb.ev.ip
  rw [List.drop_one] at a1 b1
  have hse : sameA a b = (a.kind == b.kind && a.who == b.who && a.n == b.n && a.xor == b.xor && a.lo == b.lo && a.hi == b.hi && a.key == b.key && sameE a.ev b.ev) := rfl
  rw [hse]
  generalize sameE a.ev b.ev = t at *
  generalize evC a.ev = E at *
  generalize evC b.ev = F at *
  generalize acC a = X at *
  generalize acC b = Y at *
  clear pa pb ha hb hse
  refine acall_intro mixed Tryz.func18 rfl ca18 (by kernel_rfl) (by rw [Tryz.ntmps18]; simp) ?_
  repeat' (first | (with_reducible first | apply jA | apply jB | apply jC | apply jD | apply jE | apply jF | apply jG | apply jH | apply jI | apply jJ | apply jK | apply jL | apply jM | apply jN | apply jO) | ((with_reducible first | apply jP | apply jQ); rfl) | ((first | ((with_reducible first | apply jR | apply jS | apply jT); rfl; rfl) | (with_reducible first | apply jU | apply jV | apply jW) | ((with_reducible first | apply jX | apply jY | apply jZ); rfl) | ((with_reducible first | apply kA | apply kB | apply kC); rfl)); all_goals (first | ((with_reducible show Is _ _); exact kE) | ((with_reducible refine fun (hc : (_ : Bool) = _) => ?_); (try simp only [xZ, xY, xP, reduceCtorEq] at hc); (try (have hx : True := hc; clear hx hc)); (try exact kX)) | ((with_reducible show ACall _ _ _ _ _); (first | ((with_reducible apply hq) <;> exact kD))) | ((fail_if_success (with_reducible first | show Is _ _ | show ACall _ _ _ _ _)); (try ((with_reducible show _ ∨ _); exact kT))))))
  all_goals
    clear hq la lb' le lf oa ob
    clear a23 a24 a25 a26 a27 a28 b23 b24 b25 b26 b27 b28 a0 a1 b0 b1
    have hx : (a.xor = b.xor) = ((a.xor.toNat : Int) = (b.xor.toNat : Int)) := propext ⟨fun h => by rw [h], fun h => UInt8.toNat_inj.1 (by omega)⟩
    rw [fz_bool]
    simp [hx, *]
theorem rsame_at {B : List Box} {args : List CV} {a b : Ac} {t : Bool} (hz : Is (omap (fz true false B 6) args) (some [.agg (acC a), .agg (acC b)])) (ha : AcL a) (hb : AcL b) (ht : sameA a b = t) : ACall Tryz.prog 18 args B fun c B' => c = .bool t ∧ B' = B := by
  subst ht
  exact acall_fresh hz (rsame_in a b ha hb)
end Go.Proofs.YtcbdghgogmcllaaGreatDoor
end
section
namespace Go.Proofs.YtcbdghgogmcllaaGreatDoor
open Go Go.Sy
structure AcS (a : Ac) : Prop where
  l : AcL a
  bytes : a.ev.bytes.length < 100000
  text : a.ev.text.length < 100000
def goodA (a : Ac) : Bool := (parseS (lineS a)).2 && sameA (parseS (lineS a)).1 a
def catS (l : List Ac) : List UInt8 := (l.map lineS).flatten
def fmtV (l : List Ac) : List UInt8 × Int := if 400 < l.length then ([], 12) else if l.all goodA then (catS l, 0) else ([], 1)
end Go.Proofs.YtcbdghgogmcllaaGreatDoor
end
section
namespace Go.Proofs.YtcbdghgogmcllaaGreatDoor
open Go Go.Sy
theorem numR_i64 (s : List UInt8) : i64 (numR s).1 := by
  unfold numR
  split
  · rename_i h
    exact ⟨by omega, by omega⟩
  · exact i64_zero
theorem bytesR_len (s : List UInt8) : (bytesR s).1.length ≤ s.length := by
  unfold bytesR
  split
  · simp
  · split
    · rename_i l hu
      have := unhex_len _ _ hu
      split
      · simp; omega
      · simp
    · simp
theorem i64_1 : i64 1 := ⟨by decide, by decide⟩
theorem i64_2 : i64 2 := ⟨by decide, by decide⟩
theorem i64_3 : i64 3 := ⟨by decide, by decide⟩
theorem i64_4 : i64 4 := ⟨by decide, by decide⟩
theorem i64_5 : i64 5 := ⟨by decide, by decide⟩
theorem i64_6 : i64 6 := ⟨by decide, by decide⟩
theorem i64_7 : i64 7 := ⟨by decide, by decide⟩
theorem len0 : ([] : List UInt8).length < 1000000 := by decide
theorem ev0_L : EvL ev0 := ⟨rfl, i64_zero, i64_zero, i64_zero, by decide, by decide⟩
theorem evb_L {k : Int} {s : List UInt8} (hk : i64 k) (hs : s.length < 1000000) : EvL { ev0 with kind := k, bytes := (bytesR s).1 } := ⟨rfl, hk, i64_zero, i64_zero, by have := bytesR_len s; show (bytesR s).1.length < _; omega, len0⟩
theorem evR_L {x0 x1 : List UInt8} {tl : List (List UInt8)} (h1 : x1.length < 1000000) (ht : ∀ x ∈ tl, x.length < 1000000) : AcL (evR x0 x1 tl).1 := by
  unfold evR
  split
  · repeat' split
    · exact evA_L (evb_L i64_1 h1)
    · exact evA_L ⟨rfl, i64_3, i64_zero, numR_i64 _, len0, len0⟩
    · exact evA_L (evb_L i64_4 h1)
    · exact evA_L ev0_L
  · rename_i x2
    have h2 := ht x2 (by simp)
    have := bytesR_len x2
    split
    · unfold dgR
      split
      · rename_i six A n he
        have hn := parseE_port he
        exact evA_L ⟨parseE_ip he, i64_2, ⟨by show (-9223372036854775808 : Int) ≤ (n : Int); omega, by show (n : Int) ≤ _; omega⟩, i64_zero, by show (bytesR x2).1.length < _; omega, len0⟩
      · exact evA_L (evb_L i64_2 h2)
    · exact evA_L ev0_L
  · exact evA_L ev0_L
theorem handX_L {x1 : List UInt8} {tl : List (List UInt8)} : AcL (handX x1 tl).1 := by
  unfold handX
  split
  · unfold handR
    split
    · rename_i h
      exact ⟨ev0_L, i64_2, i64_zero, i64_zero, numR_i64 _, numR_i64 _, h.2.2.2.2.2⟩
    · exact ⟨ev0_L, i64_2, i64_zero, i64_zero, i64_zero, i64_zero, rfl⟩
  · exact ⟨ev0_L, i64_2, i64_zero, i64_zero, i64_zero, i64_zero, rfl⟩
theorem i64_if (p : Prop) [Decidable p] : i64 (if p then 0 else 1) := by
  split
  · exact i64_zero
  · exact i64_1
theorem namedR_L {x0 x1 : List UInt8} {tl : List (List UInt8)} : AcL (namedR x0 x1 tl).1 := by
  unfold namedR
  obtain ⟨w, hw⟩ : ∃ w, (if x1 = [48] then (0 : Int) else 1) = w := ⟨_, rfl⟩
  have hi : i64 w := hw ▸ i64_if _
  simp only [hw]
  repeat' split
  all_goals first | exact act0_L | skip
  · exact ⟨ev0_L, i64_4, hi, i64_zero, i64_zero, i64_zero, rfl⟩
  · exact ⟨ev0_L, i64_5, hi, i64_zero, i64_zero, i64_zero, rfl⟩
  · exact ⟨ev0_L, i64_3, hi, numR_i64 _, i64_zero, i64_zero, rfl⟩
  · exact ⟨ev0_L, i64_7, hi, numR_i64 _, i64_zero, i64_zero, rfl⟩
  · exact ⟨ev0_L, i64_6, hi, numR_i64 _, i64_zero, i64_zero, rfl⟩
theorem lineR_L {s : List UInt8} (hs : s.length < 1000000) : AcL (lineR s).1 := by
  unfold lineR
  split
  · unfold ctlR
    split
    · refine evA_L ⟨rfl, i64_5, i64_zero, i64_zero, len0, ?_⟩
      show (s.drop 8).length < _
      rw [List.length_drop]; omega
    · exact act0_L
  · have hm := splitL_mem 32 s
    generalize splitL 32 s = w at *
    unfold wordsR
    split
    · rename_i x0 x1 tl
      have h1 : x1.length < 1000000 := by have := hm x1 (by simp); omega
      have ht : ∀ x ∈ tl, x.length < 1000000 := fun x hx => by have := hm x (by simp [hx]); omega
      split
      · exact evR_L h1 ht
      · split
        · exact handX_L
        · exact namedR_L
    · exact act0_L
end Go.Proofs.YtcbdghgogmcllaaGreatDoor
end
section
namespace Go.Proofs.YtcbdghgogmcllaaGreatDoor
open Go Go.Sy
theorem kE_RJ0 {α : Type} {x y : α} (h : Is x y := by first | ((try simp (disch := first | omega | (simp only [yZ, yB] <;> omega) | fail) [go_sem, yY, *, bx_get0, bx_get, bx_set0, bx_set, if_pos, if_neg, -List.map_take, -List.map_drop, -List.map_append, -List.map_reverse]); exact rfl) | fail) : Is x y := h
theorem kD_RJ0 {p : Prop} (h : p := by (first | omega | assumption | exact rfl | ((simp (disch := first | omega | (simp only [yZ, yB] <;> omega) | fail) [go_sem, yY, *, bx_get0, bx_get, bx_set0, bx_set, -List.map_take, -List.map_drop, -List.map_append, -List.map_reverse]) <;> (first | done | omega | exact rfl)) | fail)) : p := h
theorem wB_RJ0 {p q : Prop} (k : q) (h : Hq q → p := by (intro k; (repeat' (first | (with_reducible first | apply jA | apply jB | apply jC | apply jD | apply jE | apply jF | apply jG | apply jH | apply jI | apply jJ | apply jK | apply jL | apply jM | apply jN | apply jO) | ((with_reducible first | apply jP | apply jQ); rfl) | ((first | ((with_reducible first | apply jR | apply jS | apply jT); rfl; rfl) | (with_reducible first | apply jU | apply jV | apply jW) | ((with_reducible first | apply jX | apply jY | apply jZ); rfl) | ((with_reducible first | apply kA | apply kB | apply kC); rfl)); all_goals (first | ((with_reducible show Is _ _); exact kE_RJ0) | ((with_reducible refine fun (hc : (_ : Bool) = _) => ?_); (try simp only [xZ, xY, xP, reduceCtorEq] at hc); (try (have hx : True := hc; clear hx hc)); (try exact kX)) | ((with_reducible show ACall _ _ _ _ _); (first | ((with_reducible apply c0) <;> exact kD_RJ0) | ((with_reducible apply c1) <;> exact kD_RJ0) | ((with_reducible apply c2) <;> exact kD_RJ0) | ((with_reducible apply c3) <;> exact kD_RJ0) | ((with_reducible apply c4) <;> exact kD_RJ0) | ((with_reducible apply c5) <;> exact kD_RJ0) | ((with_reducible apply c6) <;> exact kD_RJ0) | ((with_reducible apply c7) <;> exact kD_RJ0))) | ((fail_if_success (with_reducible first | show Is _ _ | show ACall _ _ _ _ _)); (try ((with_reducible show _ ∨ _); exact kT))))) | (((with_reducible first | apply o_callQ | apply q_callQ); rfl); (iterate 2 exact kE_RJ0); (first | ((with_reducible apply q0) <;> exact kD_RJ0))))); exact hq k)) : p := h ⟨k⟩
theorem w_RJ03 {A0 A1 A2 p q : Prop} (c0 : A0) (c1 : A1) (c2 : A2) (k : q) (h : A0 → A1 → A2 → Hq q → p := by (intro c0 c1 c2 k; exact wB_RJ0 (hq k))) : p := h c0 c1 c2 ⟨k⟩
def goodR (a : Ac) : Bool := (lineR (textR a)).2 && sameA a (lineR (textR a)).1
def catR (l : List Ac) : List UInt8 := (l.map fun a => textR a ++ [10]).flatten
def fmtR (l : List Ac) : List UInt8 × Int := if 400 < l.length then ([], 12) else if l.all goodR then (catR l, 0) else ([], 1)
theorem textR_short {a : Ac} (h : AcS a) : (textR a).length < 399999 := by
  have h1 := decM_len h.l.who
  have h2 := decM_len h.l.n
  have h3 := decM_len h.l.lo
  have h4 := decM_len h.l.hi
  have h5 := decM_len h.l.ev.time
  have h6 : (hexW a.ev.bytes).length ≤ 200000 := by
    have := h.bytes
    unfold hexW
    split
    · simp
    · rw [hexS_len]; omega
  have h7 := fmtE_len a.ev.six a.ev.ip a.ev.port
  have h8 : (hexS a.key).length = 64 := by rw [hexS_len, h.l.key]
  have h9 : (hexS [a.xor]).length = 2 := by rw [hexS_len]; rfl
  have h10 := h.text
  unfold textR textE
  repeat' split
  all_goals (simp [wPlain, wDatagram, wTick, wEntropy, wControl, wHandoff, wPick, wAbort, wKill, wCorrupt, wCut]; try omega)
theorem textR_at {B : List Box} {args : List CV} {a : Ac} (hz : Is (omap (fz true false B 6) args) (some [.agg (acC a)])) (h : AcL a) : ACall Tryz.prog 16 args B fun c B' => c = .str (textR a) ∧ B' = B := acall_fresh hz (textR_in a h)
theorem catR_len {l : List Ac} (h : ∀ a ∈ l, AcS a) : (catR l).length ≤ l.length * 400000 := by
  induction l with
  | nil => simp [catR]
  | cons a l ih =>
    have := ih fun b hb => h b (by simp [hb])
    have := textR_short (h a (by simp))
    simp [catR] at *
    omega
theorem catR_succ {l : List Ac} {j : Nat} (h : j < l.length) : catR (l.take (j + 1)) = catR (l.take j) ++ (textR l[j] ++ [10]) := by
  rw [List.take_succ_eq_append_getElem h, catR, List.map_append, List.flatten_append]
  simp [catR]
theorem rformat_in (l : List Ac) (hl : ∀ a ∈ l, AcS a) (hn : l.length ≤ 2000) : PC Tryz.prog true 6 [.lst l.length (l.flatMap acC) false] (.tup [.str (fmtR l).1, .int .i64 (fmtR l).2]) := by
  have hcs : Cells acC 60 (l.flatMap acC) l := cells_all fun a ha => acC_len (hl a ha).l
  by_cases h4 : 400 < l.length
  · have e : fmtR l = ([], 12) := by rw [fmtR, if_pos h4]
    rw [e]
    generalize l.flatMap acC = Y at *
    generalize l.length = n at *
    clear hcs hl
    have h4' : (400 : Int) < n := by omega
    refine acall_intro mixed Tryz.func6 rfl ca6 (by kernel_rfl) (by rw [Tryz.ntmps6]; simp) ?_
    refine w0 ?_ 
    all_goals rfl
  have e : fmtR l = if l.all goodR then (catR l, 0) else ([], 1) := by rw [fmtR, if_neg h4]
  rw [e]
  clear e
  have h4' : ¬ ((400 : Int) < l.length) := by omega
  generalize hY : l.flatMap acC = Y at *
  refine acall_intro mixed Tryz.func6 rfl ca6 (by kernel_rfl) (by rw [Tryz.ntmps6]; simp) ?_
  refine w0 ?_ 
  refine w_loop (fun fr B => ∃ j, j ≤ l.length ∧ (l.take j).all goodR = true ∧ fr 13 = .lst l.length Y false ∧ fr 14 = .int .i64 l.length ∧ fr 15 = .int .i64 j ∧ fr 4 = .str (catR (l.take j))) (fun fr _ => l.length - natOf (fr 15)) ?_ ?_
  · exact ⟨0, by omega, by simp, kS, kS, kS, by rw [show catR (l.take 0) = [] from rfl]; (simp (disch := omega) [go_sem, *]) <;> (try omega)⟩
  rintro fr B ⟨j, hj, hg, f13, f14, f15, f4⟩
  have hm : natOf (fr 15) = j := by rw [f15]; rfl
  have hcl := catR_len (l := l.take j) fun a ha => hl a (List.mem_of_mem_take ha)
  have hcl2 : (l.take j).length ≤ 2000 := by rw [List.length_take]; omega
  by_cases hc : j < l.length
  · have ha := hl l[j] (List.getElem_mem hc)
    obtain ⟨hlen, hcell⟩ := hcs j hc
    have hls := textR_short ha
    have hal := acC_len ha.l
    have hao : ∀ {nz : Bool} {B : List Box} {k : Nat}, omap (Go.Sy.fz nz false B (k + 3)) (acC l[j]) = some (acC l[j]) := acC_om
    have hat : (acC l[j]).take 60 = acC l[j] := List.take_of_length_le (by omega)
    have hpL : AcL (lineR (textR l[j])).1 := lineR_L (by omega)
    have hpo : ∀ {nz : Bool} {B : List Box} {k : Nat}, omap (Go.Sy.fz nz false B (k + 3)) (acC (lineR (textR l[j])).1) = some (acC (lineR (textR l[j])).1) := acC_om
    have hpl := acC_len hpL
    have hpt : (acC (lineR (textR l[j])).1).take 60 = acC (lineR (textR l[j])).1 := List.take_of_length_le (by omega)
    have htx : ∀ {B : List Box} {args : List CV}, Is (omap (Go.Sy.fz true false B 6) args) (some [.agg (acC l[j])]) → ACall Tryz.prog 16 args B fun c B' => c = .str (textR l[j]) ∧ B' = B := fun hz => textR_at hz ha.l
    have hps : ∀ {B : List Box}, ACall Tryz.prog 17 [.str (textR l[j])] B fun c B' => c = .tup [.agg (acC (lineR (textR l[j])).1), .bool (lineR (textR l[j])).2] ∧ B' = B := lineR_at (by omega)
    have hsm : ∀ {B : List Box} {args : List CV}, Is (omap (Go.Sy.fz true false B 6) args) (some [.agg (acC l[j]), .agg (acC (lineR (textR l[j])).1)]) → ACall Tryz.prog 18 args B fun c B' => c = .bool (sameA l[j] (lineR (textR l[j])).1) ∧ B' = B := fun hz => rsame_at hz ha.l hpL rfl
    have hsucc := catR_succ hc
    have hgs : (l.take (j + 1)).all goodR = goodR l[j] := by rw [List.take_succ_eq_append_getElem hc, List.all_append, hg]; simp
    have hbad : goodR l[j] = false → l.all goodR = false := fun h => by rw [List.all_eq_false]; exact ⟨_, List.getElem_mem hc, by simp [h]⟩
    have hgd : goodR l[j] = ((lineR (textR l[j])).2 && sameA l[j] (lineR (textR l[j])).1) := rfl
    rw [hgd] at hgs hbad
    clear hgd hpL ha hcs
    generalize acC (lineR (textR l[j])).1 = Z at *
    generalize sameA l[j] (lineR (textR l[j])).1 = t2 at *
    generalize (lineR (textR l[j])).2 = t1 at *
    generalize acC l[j] = X at *
    generalize textR l[j] = S at *
    have hcell' : (Y.drop (j * 60)).take 60 = X := hcell
    have hyl : j * 60 + 60 ≤ Y.length := by omega
    generalize catR (l.take j) = L at *
    obtain ⟨n, hnl⟩ : ∃ n, l.length = n := ⟨_, rfl⟩
    have hcj : j < n := by omega
    rw [hnl] at f13 f14 ⊢
    have hj2 : j < 2000000 := by omega
    have hLS : L.length + S.length + 1 < 1000000000 := by omega
    replace hgs : Hid _ := hgs
    replace hsucc : Hid _ := hsucc
    replace hnl : Hid _ := hnl
    clear hg hcell hlen hY hl hcl hcl2 h4 h4' hn hj hc
    by_cases hgo : (t1 && t2) = true
    · cases t1 <;> cases t2 <;> try cases hgo
      clear hbad
      refine w_RJ03 @htx @hps @hsm ?_ 
      have hsucc : _ = _ := hsucc
      have hgs : (l.take (j + 1)).all goodR = (true && true) := hgs
      have hnl : l.length = n := hnl
      exact ⟨⟨j + 1, by omega, hgs, kS, kS, kS, by rw [hsucc]; (simp (disch := omega) [go_sem, *]) <;> (try omega)⟩, kS⟩
    · have hb2 := hbad (by simpa using hgo)
      rw [hb2]
      simp only [Bool.false_eq_true, if_false]
      clear hb2 hbad
      cases t1
      · refine w_RJ03 @htx @hps @hsm ?_ 
        all_goals rfl
      · cases t2
        · refine w_RJ03 @htx @hps @hsm ?_ 
          all_goals rfl
        · cases hgo rfl
  · obtain rfl : j = l.length := by omega
    rw [List.take_length] at hg f4
    rw [hg]
    simp only [if_true]
    clear hcs hl hY hg
    generalize catR l = L at *
    refine w0 ?_ 
    all_goals rfl
end Go.Proofs.YtcbdghgogmcllaaGreatDoor
end
section
namespace Go.Proofs.YtcbdghgogmcllaaGreatDoor
open Go Go.Sy
theorem digV_hd {n : Nat} (h : n < 16) : digV (hd n) = some n := by
  have : ∀ k : Fin 16, digV (hd k.1) = some k.1 := by decide
  exact this ⟨n, h⟩
theorem unhex_hexS (l : List UInt8) : unhex (hexS l) = some l := by
  induction l with
  | nil => rfl
  | cons x l ih =>
    have hx := x.toNat_lt
    have e : hexS (x :: l) = hd (x.toNat / 16) :: hd (x.toNat % 16) :: hexS l := rfl
    rw [e, unhex, digV_hd (by omega), digV_hd (by omega), ih]
    simp only [Option.bind_some, Option.map_some, hexb, Option.some.injEq, List.cons.injEq, and_true]
    apply UInt8.toNat_inj.1
    rw [UInt8.toNat_ofNat']
    omega
def NoSp (x : List UInt8) : Prop := ∀ c ∈ x, c ≠ 32 ∧ c ≠ 10
theorem hd_ch {k : Nat} (h : k < 16) : hd k ≠ 32 ∧ hd k ≠ 10 ∧ hd k ≠ 45 := by
  have : ∀ k : Fin 16, hd k.1 ≠ 32 ∧ hd k.1 ≠ 10 ∧ hd k.1 ≠ 45 := by decide
  exact this ⟨k, h⟩
theorem hexS_ch (l : List UInt8) : ∀ c ∈ hexS l, c ≠ 32 ∧ c ≠ 10 ∧ c ≠ 45 := by
  intro c hc
  simp only [hexS, List.mem_flatMap] at hc
  obtain ⟨x, _, hx⟩ := hc
  have := x.toNat_lt
  simp only [List.mem_cons, List.mem_nil_iff, or_false] at hx
  rcases hx with rfl | rfl
  · exact hd_ch (by omega)
  · exact hd_ch (by omega)
theorem hexS_nosp (l : List UInt8) : NoSp (hexS l) := fun c hc => ⟨(hexS_ch l c hc).1, (hexS_ch l c hc).2.1⟩
theorem hexW_nosp (l : List UInt8) : NoSp (hexW l) := by
  unfold hexW
  split
  · intro c hc
    simp only [List.mem_singleton] at hc
    subst hc
    decide
  · exact hexS_nosp l
theorem hexS_nm (l : List UInt8) : hexS l ≠ [45] := fun h => (hexS_ch l 45 (by rw [h]; simp)).2.2 rfl
theorem unhexW_back (l : List UInt8) : unhexW (hexW l) = (l, true) := by
  unfold hexW
  split
  · rename_i h
    subst h
    rfl
  · rename_i h
    rw [unhexW, if_neg (hexS_nm l), unhex_hexS]
    have : 0 < l.length := List.length_pos_iff.2 h
    simp only [this, decide_true]
theorem bytesR_back (l : List UInt8) : bytesR (hexW l) = (l, true) := by
  unfold hexW
  split
  · rename_i h
    subst h
    rfl
  · rename_i h
    rw [bytesR, if_neg (hexS_nm l), unhex_hexS]
    simp only [ne_eq, h, not_false_eq_true, and_self, if_true]
theorem bytesR_ok {s l : List UInt8} (h : bytesR s = (l, true)) : hexW l = s := by
  unfold bytesR at h
  split at h
  · rename_i e
    simp only [Prod.mk.injEq, and_true] at h
    subst h e
    rfl
  · split at h
    · rename_i m hm
      split at h
      · rename_i hh
        simp only [Prod.mk.injEq, and_true] at h
        subst h
        rw [hexW, if_neg hh.1, hh.2]
      · cases h
    · cases h
theorem dec_nosp (n : Nat) : NoSp (Go.Lib.decDigits n) := fun c hc => by
  have := dec_dig n c hc
  constructor <;> (rintro rfl; revert this; decide)
theorem itoa_nosp (n : Int) : NoSp (Go.Lib.itoa n) := by
  unfold Go.Lib.itoa
  split
  · intro c hc
    rcases List.mem_cons.1 hc with rfl | hc
    · decide
    · exact dec_nosp _ c hc
  · exact dec_nosp _
end Go.Proofs.YtcbdghgogmcllaaGreatDoor
end
section
namespace Go.Proofs.YtcbdghgogmcllaaGreatDoor
open Go Go.Sy
theorem dec_ofNat {c : UInt8} (h1 : 48 ≤ c.toNat) (h2 : c.toNat ≤ 57) : UInt8.ofNat (48 + (c.toNat - 48)) = c := by
  rw [show 48 + (c.toNat - 48) = c.toNat by omega]
  exact UInt8.ofNat_toNat
theorem dec_back : ∀ (k : Nat) (s : List UInt8), s.length = k + 1 → s.all isDig = true → (1 < s.length → s.head? ≠ some 48) → Go.Lib.decDigits (decV s) = s
  | 0, s, hl, hd, hh => by
    match s, hl with
    | [c], _ =>
    have hc : 48 ≤ c.toNat ∧ c.toNat ≤ 57 := by simpa [isDig] using hd
    have e : decV [c] = c.toNat - 48 := by simp [decV]
    rw [e, Go.Lib.decDigits, dif_pos (by omega), dec_ofNat hc.1 hc.2]
  | k + 1, s, hl, hd, hh => by
    obtain ⟨t, c, rfl⟩ : ∃ t c, s = t ++ [c] := ⟨s.dropLast, s.getLast (by intro e; rw [e] at hl; cases hl), (List.dropLast_concat_getLast _).symm⟩
    have htl : t.length = k + 1 := by simpa using hl
    rw [List.all_append, Bool.and_eq_true] at hd
    have hc : 48 ≤ c.toNat ∧ c.toNat ≤ 57 := by simpa [isDig] using hd.2
    have hth : t.head? ≠ some 48 := by
      have := hh (by simp; omega)
      rw [List.head?_append] at this
      intro e
      rw [e] at this
      exact this rfl
    have ih := dec_back k t htl hd.1 (fun _ => hth)
    have hv : decV t ≠ 0 := fun e => by
      rw [e, Go.Lib.decDigits, dif_pos (by omega)] at ih
      rw [← ih] at hth
      exact hth rfl
    rw [decV_app, Go.Lib.decDigits, dif_neg (by omega), show (10 * decV t + (c.toNat - 48)) / 10 = decV t by omega, show (10 * decV t + (c.toNat - 48)) % 10 = c.toNat - 48 by omega, ih, dec_ofNat hc.1 hc.2]
theorem decOk_back {m : Nat} {s : List UInt8} (h : decOk m s = true) : Go.Lib.decDigits (decV s) = s := by
  rw [decOk, headOk] at h
  simp only [Bool.and_eq_true, decide_eq_true_eq, Bool.not_eq_true', Bool.and_eq_false_iff] at h
  obtain ⟨⟨⟨h1, _⟩, h3⟩, h4⟩ := h
  refine dec_back (s.length - 1) s (by omega) h4 fun hl e => ?_
  rcases h3 with h3 | h3
  · simp at h3; omega
  · rw [e] at h3; cases h3
theorem decOk_lt {s : List UInt8} (h : decOk 19 s = true) : decV s < 10000000000000000000 := by
  rw [decOk, headOk] at h
  simp only [Bool.and_eq_true, decide_eq_true_eq] at h
  have h1 := decV_lt s h.2
  have h2 : (10 : Nat) ^ s.length ≤ 10 ^ 19 := Nat.pow_le_pow_right (by omega) h.1.1.2
  omega
theorem numR_ok {s : List UInt8} {n : Int} (h : numR s = (n, true)) : 0 ≤ n ∧ n ≤ 4611686018427387904 ∧ Go.Lib.decDigits n.toNat = s := by
  unfold numR at h
  split at h
  · rename_i hh
    simp only [Prod.mk.injEq, and_true] at h
    subst h
    obtain ⟨h1, h2, h3⟩ := hh
    have hlt := decOk_lt h1
    have hb := decOk_back h1
    have e : nV s = (decV s : Int) := by
      rw [nV, if_pos h1] at h2 h3 ⊢
      rw [w64] at h2 h3 ⊢
      omega
    refine ⟨h2, h3, ?_⟩
    rw [e]
    exact hb
  · cases h
theorem numR_back {n : Int} (h0 : 0 ≤ n) (h1 : n ≤ 4611686018427387904) : numR (Go.Lib.decDigits n.toNat) = (n, true) := by
  have hok := decOk_dec 18 n.toNat (by omega)
  have hv := (dec_all n.toNat).2.1
  have e : nV (Go.Lib.decDigits n.toNat) = n := by
    rw [nV, if_pos hok, hv, w64]
    omega
  rw [numR, e, if_pos ⟨hok, h0, h1⟩]
theorem decM_nn {n : Int} (h : 0 ≤ n) : decM n = Go.Lib.decDigits n.toNat := by rw [decM, Int.max_eq_left h]
theorem numR_eq {s : List UInt8} {n : Int} (h : numR s = (n, true)) : 0 ≤ n ∧ n ≤ 4611686018427387904 ∧ decM n = s := by
  obtain ⟨h1, h2, h3⟩ := numR_ok h
  exact ⟨h1, h2, by rw [decM_nn h1, h3]⟩
theorem dec_one_len {n : Nat} (h : (Go.Lib.decDigits n).length = 1) : n < 10 := by
  by_cases h10 : n < 10
  · exact h10
  · rw [Go.Lib.decDigits, dif_neg h10, List.length_append] at h
    have := List.length_pos_iff.2 (dec_ne (n / 10))
    rw [show [UInt8.ofNat (48 + n % 10)].length = 1 from rfl] at h
    omega
theorem decM_itoa {n : Int} (h : 0 ≤ n) : Go.Lib.itoa n = decM n := by rw [itoa_nn h, decM_nn h]
end Go.Proofs.YtcbdghgogmcllaaGreatDoor
end
section
namespace Go.Proofs.YtcbdghgogmcllaaGreatDoor
open Go Go.Sy
inductive Norm : Ac → Prop
  | plain (l : List UInt8) : Norm (evA { ev0 with kind := 1, bytes := l })
  | dgram (six : Bool) (A : List UInt8) (n : Nat) (l : List UInt8) (hA : A.length = 16) (ok : okA six A = true) (h1 : 1 ≤ n) (h2 : n ≤ 65535) : Norm (evA { ev0 with kind := 2, six := six, ip := A, port := (n : Int), bytes := l })
  | tick (n : Int) (h0 : 0 ≤ n) (h1 : n ≤ 4611686018427387904) : Norm (evA { ev0 with kind := 3, time := n })
  | entropy (l : List UInt8) : Norm (evA { ev0 with kind := 4, bytes := l })
  | control (t : List UInt8) (h : prS t = true) : Norm (evA { ev0 with kind := 5, text := t })
  | handoff (lo hi : Int) (k : List UInt8) (l0 : 0 ≤ lo) (l1 : lo ≤ 9) (h0 : 0 ≤ hi) (h1 : hi ≤ 9) (hk : k.length = 32) : Norm { act0 with kind := 2, lo := lo, hi := hi, key := k }
  | pick (w n : Int) (w0 : 0 ≤ w) (w1 : w ≤ 1) (h0 : 0 ≤ n) (h1 : n ≤ 4611686018427387904) : Norm { act0 with kind := 3, who := w, n := n }
  | abort (w : Int) (w0 : 0 ≤ w) (w1 : w ≤ 1) : Norm { act0 with kind := 4, who := w }
  | kill (w : Int) (w0 : 0 ≤ w) (w1 : w ≤ 1) : Norm { act0 with kind := 5, who := w }
  | corrupt (w n : Int) (x : UInt8) (w0 : 0 ≤ w) (w1 : w ≤ 1) (h0 : 0 ≤ n) (h1 : n ≤ 4611686018427387904) : Norm { act0 with kind := 6, who := w, n := n, xor := x }
  | cut (w n : Int) (w0 : 0 ≤ w) (w1 : w ≤ 1) (h0 : 0 ≤ n) (h1 : n ≤ 4611686018427387904) : Norm { act0 with kind := 7, who := w, n := n }
structure GoodN (b : Ac) (w : List UInt8) (ws : List (List UInt8)) : Prop where
  name : nameS b = w
  words : wordsS b = ws
  text : textR b = Go.Lib.join (w :: ws) [32]
  nosp : ∀ x ∈ w :: ws, NoSp x
  rd : readW (w :: ws) = (b, true)
  rr : wordsR (w :: ws) = (b, true)
  nc : w ∈ [wPlain, wDatagram, wTick, wEntropy, wHandoff, wPick, wCut, wAbort, wKill, wCorrupt]
  ne : ws ≠ []
theorem words_nosp {w : List UInt8} (h : w ∈ [wPlain, wDatagram, wTick, wEntropy, wHandoff, wPick, wCut, wAbort, wKill, wCorrupt]) : NoSp w := by
  have : ∀ w ∈ [wPlain, wDatagram, wTick, wEntropy, wHandoff, wPick, wCut, wAbort, wKill, wCorrupt], ∀ c ∈ w, c ≠ 32 ∧ c ≠ 10 := by decide
  exact this w h
theorem join2 (x y : List UInt8) : Go.Lib.join [x, y] [32] = x ++ [32] ++ y := by simp [Go.Lib.join_cons, Go.Lib.joinTail]
theorem join3 (x y z : List UInt8) : Go.Lib.join [x, y, z] [32] = x ++ [32] ++ y ++ [32] ++ z := by simp [Go.Lib.join_cons, Go.Lib.joinTail]
theorem join4 (x y z t : List UInt8) : Go.Lib.join [x, y, z, t] [32] = x ++ [32] ++ y ++ [32] ++ z ++ [32] ++ t := by simp [Go.Lib.join_cons, Go.Lib.joinTail]
theorem nosp_two {x y : List UInt8} (h1 : NoSp x) (h2 : NoSp y) : ∀ z ∈ [x, y], NoSp z := by
  intro z hz
  simp only [List.mem_cons, List.mem_nil_iff, or_false] at hz
  rcases hz with rfl | rfl <;> assumption
theorem nosp_three {x y t : List UInt8} (h1 : NoSp x) (h2 : NoSp y) (h3 : NoSp t) : ∀ z ∈ [x, y, t], NoSp z := by
  intro z hz
  simp only [List.mem_cons, List.mem_nil_iff, or_false] at hz
  rcases hz with rfl | rfl | rfl <;> assumption
theorem nosp_four {x y t u : List UInt8} (h1 : NoSp x) (h2 : NoSp y) (h3 : NoSp t) (h4 : NoSp u) : ∀ z ∈ [x, y, t, u], NoSp z := by
  intro z hz
  simp only [List.mem_cons, List.mem_nil_iff, or_false] at hz
  rcases hz with rfl | rfl | rfl | rfl <;> assumption
theorem good_plain (l : List UInt8) : GoodN (evA { ev0 with kind := 1, bytes := l }) wPlain [hexW l] := by
  refine ⟨rfl, rfl, ?_, nosp_two (words_nosp (by decide)) (hexW_nosp l), ?_, ?_, by decide, by simp⟩
  · rw [join2]; rfl
  · show (evA { ev0 with kind := 1, bytes := (unhexW (hexW l)).1 }, (unhexW (hexW l)).2) = _
    rw [unhexW_back]
  · show (evA { ev0 with kind := 1, bytes := (bytesR (hexW l)).1 }, (bytesR (hexW l)).2) = _
    rw [bytesR_back]
theorem good_entropy (l : List UInt8) : GoodN (evA { ev0 with kind := 4, bytes := l }) wEntropy [hexW l] := by
  refine ⟨rfl, rfl, ?_, nosp_two (words_nosp (by decide)) (hexW_nosp l), ?_, ?_, by decide, by simp⟩
  · rw [join2]; rfl
  · show (evA { ev0 with kind := 4, bytes := (unhexW (hexW l)).1 }, (unhexW (hexW l)).2) = _
    rw [unhexW_back]
  · show (evA { ev0 with kind := 4, bytes := (bytesR (hexW l)).1 }, (bytesR (hexW l)).2) = _
    rw [bytesR_back]
theorem good_tick {n : Int} (h0 : 0 ≤ n) (h1 : n ≤ 4611686018427387904) : GoodN (evA { ev0 with kind := 3, time := n }) wTick [Go.Lib.itoa n] := by
  refine ⟨rfl, rfl, ?_, nosp_two (words_nosp (by decide)) (itoa_nosp n), ?_, ?_, by decide, by simp⟩
  · rw [join2, decM_itoa h0]; rfl
  · show (evA { ev0 with kind := 3, time := (numW (Go.Lib.itoa n)).1 }, (numW (Go.Lib.itoa n)).2) = _
    rw [numW_back h0 h1]
  · show (evA { ev0 with kind := 3, time := (numR (Go.Lib.itoa n)).1 }, (numR (Go.Lib.itoa n)).2) = _
    rw [itoa_nn h0, numR_back h0 h1]
theorem good_handoff {lo hi : Int} {k : List UInt8} (l0 : 0 ≤ lo) (l1 : lo ≤ 9) (h0 : 0 ≤ hi) (h1 : hi ≤ 9) (hk : k.length = 32) : GoodN { act0 with kind := 2, lo := lo, hi := hi, key := k } wHandoff [Go.Lib.itoa lo, Go.Lib.itoa hi, hexS k] := by
  have hx : hexW k = hexS k := by rw [hexW, if_neg (by intro e; rw [e] at hk; cases hk)]
  refine ⟨rfl, rfl, ?_, nosp_four (words_nosp (by decide)) (itoa_nosp lo) (itoa_nosp hi) (hexS_nosp k), ?_, ?_, by decide, by simp⟩
  · rw [join4, decM_itoa l0, decM_itoa h0]; rfl
  · show handW (Go.Lib.itoa lo) (Go.Lib.itoa hi) (hexS k) = _
    rw [handW, unhex_hexS, smallW_back l0 l1, smallW_back h0 h1]
    simp only [hk, and_self, if_true]
  · show handR (Go.Lib.itoa lo) (Go.Lib.itoa hi) (hexS k) = _
    have e1 : (Go.Lib.itoa lo).length = 1 := by rw [itoa_nn l0, dec_small (by omega)]; rfl
    have e2 : (Go.Lib.itoa hi).length = 1 := by rw [itoa_nn h0, dec_small (by omega)]; rfl
    have e3 : numR (Go.Lib.itoa lo) = (lo, true) := by rw [itoa_nn l0, numR_back l0 (by omega)]
    have e4 : numR (Go.Lib.itoa hi) = (hi, true) := by rw [itoa_nn h0, numR_back h0 (by omega)]
    have e5 : bytesR (hexS k) = (k, true) := by rw [← hx, bytesR_back]
    rw [handR, e3, e4, e5]
    simp only [e1, e2, hk, and_self, if_true]
theorem who_word {w : Int} (w0 : 0 ≤ w) (w1 : w ≤ 1) : (Go.Lib.itoa w = [48] ∨ Go.Lib.itoa w = [49]) ∧ (if Go.Lib.itoa w = [48] then (0 : Int) else 1) = w := by
  have : w = 0 ∨ w = 1 := by omega
  rcases this with rfl | rfl
  · have e : Go.Lib.itoa 0 = [48] := by rw [itoa_nn (by decide)]; exact dec_small (by decide)
    rw [e]; exact ⟨.inl rfl, rfl⟩
  · have e : Go.Lib.itoa 1 = [49] := by rw [itoa_nn (by decide)]; exact dec_small (by decide)
    rw [e]; exact ⟨.inr rfl, rfl⟩
theorem good_abort {w : Int} (w0 : 0 ≤ w) (w1 : w ≤ 1) : GoodN { act0 with kind := 4, who := w } wAbort [Go.Lib.itoa w] := by
  obtain ⟨e1, e2⟩ := who_word w0 w1
  refine ⟨rfl, rfl, ?_, nosp_two (words_nosp (by decide)) (itoa_nosp w), ?_, ?_, by decide, by simp⟩
  · rw [join2, decM_itoa w0]; rfl
  · show barW 4 (Go.Lib.itoa w) = _
    rw [barW, whoW_back w0 w1]
  · show namedR wAbort (Go.Lib.itoa w) [] = _
    rw [namedR, if_pos e1]
    simp only [e2]
    rfl
theorem good_kill {w : Int} (w0 : 0 ≤ w) (w1 : w ≤ 1) : GoodN { act0 with kind := 5, who := w } wKill [Go.Lib.itoa w] := by
  obtain ⟨e1, e2⟩ := who_word w0 w1
  refine ⟨rfl, rfl, ?_, nosp_two (words_nosp (by decide)) (itoa_nosp w), ?_, ?_, by decide, by simp⟩
  · rw [join2, decM_itoa w0]; rfl
  · show barW 5 (Go.Lib.itoa w) = _
    rw [barW, whoW_back w0 w1]
  · show namedR wKill (Go.Lib.itoa w) [] = _
    rw [namedR, if_pos e1]
    simp only [e2]
    rfl
theorem good_pick {w n : Int} (w0 : 0 ≤ w) (w1 : w ≤ 1) (h0 : 0 ≤ n) (h1 : n ≤ 4611686018427387904) : GoodN { act0 with kind := 3, who := w, n := n } wPick [Go.Lib.itoa w, Go.Lib.itoa n] := by
  obtain ⟨e1, e2⟩ := who_word w0 w1
  have e4 : numR (Go.Lib.itoa n) = (n, true) := by rw [itoa_nn h0, numR_back h0 h1]
  refine ⟨rfl, rfl, ?_, nosp_three (words_nosp (by decide)) (itoa_nosp w) (itoa_nosp n), ?_, ?_, by decide, by simp⟩
  · rw [join3, decM_itoa w0, decM_itoa h0]; rfl
  · show nmbW 3 (Go.Lib.itoa w) (Go.Lib.itoa n) = _
    rw [nmbW, whoW_back w0 w1, numW_back h0 h1]
    rfl
  · show namedR wPick (Go.Lib.itoa w) [Go.Lib.itoa n] = _
    rw [namedR, if_pos e1]
    simp only [e2, e4]
    rfl
theorem good_cut {w n : Int} (w0 : 0 ≤ w) (w1 : w ≤ 1) (h0 : 0 ≤ n) (h1 : n ≤ 4611686018427387904) : GoodN { act0 with kind := 7, who := w, n := n } wCut [Go.Lib.itoa w, Go.Lib.itoa n] := by
  obtain ⟨e1, e2⟩ := who_word w0 w1
  have e4 : numR (Go.Lib.itoa n) = (n, true) := by rw [itoa_nn h0, numR_back h0 h1]
  refine ⟨rfl, rfl, ?_, nosp_three (words_nosp (by decide)) (itoa_nosp w) (itoa_nosp n), ?_, ?_, by decide, by simp⟩
  · rw [join3, decM_itoa w0, decM_itoa h0]; rfl
  · show nmbW 7 (Go.Lib.itoa w) (Go.Lib.itoa n) = _
    rw [nmbW, whoW_back w0 w1, numW_back h0 h1]
    rfl
  · show namedR wCut (Go.Lib.itoa w) [Go.Lib.itoa n] = _
    rw [namedR, if_pos e1]
    simp only [e2, e4]
    rfl
theorem good_corrupt {w n : Int} {x : UInt8} (w0 : 0 ≤ w) (w1 : w ≤ 1) (h0 : 0 ≤ n) (h1 : n ≤ 4611686018427387904) : GoodN { act0 with kind := 6, who := w, n := n, xor := x } wCorrupt [Go.Lib.itoa w, Go.Lib.itoa n, hexS [x]] := by
  obtain ⟨e1, e2⟩ := who_word w0 w1
  have e4 : numR (Go.Lib.itoa n) = (n, true) := by rw [itoa_nn h0, numR_back h0 h1]
  have e5 : bytesR (hexS [x]) = ([x], true) := by have := bytesR_back [x]; rwa [hexW, if_neg (by simp)] at this
  refine ⟨rfl, rfl, ?_, nosp_four (words_nosp (by decide)) (itoa_nosp w) (itoa_nosp n) (hexS_nosp _), ?_, ?_, by decide, by simp⟩
  · rw [join4, decM_itoa w0, decM_itoa h0]; rfl
  · show corW (Go.Lib.itoa w) (Go.Lib.itoa n) (hexS [x]) = _
    rw [corW, unhex_hexS, whoW_back w0 w1, numW_back h0 h1]
    rfl
  · show namedR wCorrupt (Go.Lib.itoa w) [Go.Lib.itoa n, hexS [x]] = _
    rw [namedR, if_pos e1]
    simp only [e2, e4, e5]
    rfl
end Go.Proofs.YtcbdghgogmcllaaGreatDoor
end
section
namespace Go.Proofs.YtcbdghgogmcllaaGreatDoor
open Go Go.Sy
theorem fmtE_nosp {six : Bool} {A : List UInt8} {p : Nat} (hok : okA six A = true) (h1 : 1 ≤ p) (h2 : p ≤ 65535) : NoSp (fmtE six A p) := by
  have e : fmtE six A p = brk six (fmtA six A) ++ 58 :: Go.Lib.decDigits p := by rw [fmtE, if_pos ⟨hok, by omega, by omega⟩]; rfl
  have k : ∀ c : UInt8, 46 ≤ c.toNat → c ≠ 32 ∧ c ≠ 10 := fun c hc => by
    constructor <;> (rintro rfl; revert hc; decide)
  rw [e]
  intro c hc
  rcases List.mem_append.1 hc with hc | hc
  · cases six with
    | true =>
      have hc : c ∈ 91 :: (fmtA true A ++ [93]) := hc
      simp only [List.mem_cons, List.mem_append, List.mem_singleton, List.not_mem_nil, or_false] at hc
      rcases hc with rfl | hc | rfl
      · decide
      · exact k c (by have := fmtA_mem hc; omega)
      · decide
    | false => exact k c (by have := fmtA_mem (six := false) (A := A) hc; omega)
  · rcases List.mem_cons.1 hc with rfl | hc
    · decide
    · exact k c (by have := dec_mem hc; omega)
theorem good_dgram {six : Bool} {A : List UInt8} {n : Nat} {l : List UInt8} (hA : A.length = 16) (ok : okA six A = true) (h1 : 1 ≤ n) (h2 : n ≤ 65535) : GoodN (evA { ev0 with kind := 2, six := six, ip := A, port := (n : Int), bytes := l }) wDatagram [fmtE six A n, hexW l] := by
  have hp := parseE_back hA ok h1 h2
  refine ⟨rfl, rfl, ?_, nosp_three (words_nosp (by decide)) (fmtE_nosp ok h1 h2) (hexW_nosp l), ?_, ?_, by decide, by simp⟩
  · rw [join3]; rfl
  · show dgW (fmtE six A n) (hexW l) = _
    rw [dgW, hp, unhexW_back]
  · show dgR (fmtE six A n) (hexW l) = _
    rw [dgR, hp, bytesR_back]
    simp only [beq_self_eq_true, Bool.and_self]
theorem norm_cases {b : Ac} (h : Norm b) : (∃ t, prS t = true ∧ b = evA { ev0 with kind := 5, text := t }) ∨ ∃ w ws, GoodN b w ws := by
  cases h with
  | plain l => exact .inr ⟨_, _, good_plain l⟩
  | dgram six A n l hA ok h1 h2 => exact .inr ⟨_, _, good_dgram hA ok h1 h2⟩
  | tick n h0 h1 => exact .inr ⟨_, _, good_tick h0 h1⟩
  | entropy l => exact .inr ⟨_, _, good_entropy l⟩
  | control t h => exact .inl ⟨t, h, rfl⟩
  | handoff lo hi k l0 l1 h0 h1 hk => exact .inr ⟨_, _, good_handoff l0 l1 h0 h1 hk⟩
  | pick w n w0 w1 h0 h1 => exact .inr ⟨_, _, good_pick w0 w1 h0 h1⟩
  | abort w w0 w1 => exact .inr ⟨_, _, good_abort w0 w1⟩
  | kill w w0 w1 => exact .inr ⟨_, _, good_kill w0 w1⟩
  | corrupt w n x w0 w1 h0 h1 => exact .inr ⟨_, _, good_corrupt w0 w1 h0 h1⟩
  | cut w n w0 w1 h0 h1 => exact .inr ⟨_, _, good_cut w0 w1 h0 h1⟩
theorem nc_words {w : List UInt8} (h : w ∈ [wPlain, wDatagram, wTick, wEntropy, wHandoff, wPick, wCut, wAbort, wKill, wCorrupt]) (r : List UInt8) : (w ++ 32 :: r).take 8 ≠ sCtl ∧ Go.Lib.hasPrefix (w ++ 32 :: r) sCtl = false ∧ w ≠ wControl ∧ w ≠ [] := by
  simp only [List.mem_cons, List.mem_nil_iff, or_false] at h
  rcases h with rfl | rfl | rfl | rfl | rfl | rfl | rfl | rfl | rfl | rfl
  all_goals
    refine ⟨fun e => ?_, rfl, by decide, by decide⟩
    have := congrArg (fun l => (l[0]?, l[1]?, l[2]?)) e
    revert this
    simp [wPlain, wDatagram, wTick, wEntropy, wHandoff, wPick, wCut, wAbort, wKill, wCorrupt, sCtl]
section
variable {b : Ac} {w : List UInt8} {ws : List (List UInt8)}
theorem GoodN.form (h : GoodN b w ws) : ∃ r, Go.Lib.join (w :: ws) [32] = w ++ 32 :: r := by
  obtain ⟨x, l, rfl⟩ := List.exists_cons_of_ne_nil h.ne
  exact ⟨_, by rw [Go.Lib.join_cons]; simp [Go.Lib.joinTail]; rfl⟩
theorem GoodN.line (h : GoodN b w ws) : lineS b = textR b ++ [10] := by
  have := nc_words h.nc []
  rw [lineS, h.name, if_neg this.2.2.1, if_neg this.2.2.2, h.words, h.text]
theorem GoodN.split (h : GoodN b w ws) : splitL 32 (textR b) = w :: ws := by
  rw [h.text]
  exact splitL_join 32 ws w fun y hy e => (h.nosp y hy 32 e).1 rfl
theorem GoodN.back (h : GoodN b w ws) : lineR (textR b) = (b, true) := by
  obtain ⟨r, hr⟩ := h.form
  rw [lineR, if_neg, h.split, h.rr]
  rw [h.text, hr]
  exact (nc_words h.nc r).1
end
end Go.Proofs.YtcbdghgogmcllaaGreatDoor
end
section
namespace Go.Proofs.YtcbdghgogmcllaaGreatDoor
open Go Go.Sy
theorem trim_end (x : List UInt8) : Go.Lib.trimSuffix (x ++ [10]) [10] = x := by
  have h : Go.Lib.hasSuffix (x ++ [10]) [10] = true := by
    rw [Go.Lib.hasSuffix, List.isSuffixOf_iff_suffix]
    exact List.suffix_append _ _
  rw [Go.Lib.trimSuffix, if_pos h]
  simp
theorem trim_pre (p x : List UInt8) : Go.Lib.trimPrefix (p ++ x) p = x := by
  have h : Go.Lib.hasPrefix (p ++ x) p = true := by
    rw [Go.Lib.hasPrefix, List.isPrefixOf_iff_prefix]
    exact List.prefix_append _ _
  rw [Go.Lib.trimPrefix, if_pos h]
  simp
theorem pre_app (p x : List UInt8) : Go.Lib.hasPrefix (p ++ x) p = true := by
  rw [Go.Lib.hasPrefix, List.isPrefixOf_iff_prefix]
  exact List.prefix_append _ _
theorem GoodN.wds {b : Ac} {w : List UInt8} {ws : List (List UInt8)} (h : GoodN b w ws) : wdsS (lineS b) = w :: ws := by rw [wdsS, h.line, trim_end, h.split]
theorem GoodN.parse {b : Ac} {w : List UInt8} {ws : List (List UInt8)} (h : GoodN b w ws) : parseS (lineS b) = (b, true) := by
  obtain ⟨r, hr⟩ := h.form
  have hp : Go.Lib.hasPrefix (lineS b) sCtl = false := by
    rw [h.line, h.text, hr, List.append_assoc, List.cons_append]
    exact (nc_words h.nc _).2.1
  rw [parseS, hp, h.wds, h.rd]
  simp
theorem ctl_line (t : List UInt8) : lineS (evA { ev0 with kind := 5, text := t }) = sCtl ++ (t ++ [10]) := by
  show wControl ++ [32] ++ t ++ [10] = _
  simp [wControl, sCtl]
theorem ctl_text (t : List UInt8) : textR (evA { ev0 with kind := 5, text := t }) = sCtl ++ t := by
  show wControl ++ [32] ++ t = _
  simp [wControl, sCtl]
theorem ctl_parse {t : List UInt8} (h : prS t = true) : parseS (lineS (evA { ev0 with kind := 5, text := t })) = (evA { ev0 with kind := 5, text := t }, true) := by
  have e : ctlT (lineS (evA { ev0 with kind := 5, text := t })) = t := by rw [ctlT, ctl_line, trim_pre, trim_end]
  have hp : Go.Lib.hasPrefix (lineS (evA { ev0 with kind := 5, text := t })) sCtl = true := by rw [ctl_line]; exact pre_app _ _
  have hw : ctlW (lineS (evA { ev0 with kind := 5, text := t })) = evA { ev0 with kind := 5, text := t } := by rw [ctlW, e]
  rw [parseS, if_pos hp, hw, e, h]
  simp
theorem ctl_back {t : List UInt8} (h : prS t = true) : lineR (textR (evA { ev0 with kind := 5, text := t })) = (evA { ev0 with kind := 5, text := t }, true) := by
  have e1 : (sCtl ++ t).take 8 = sCtl := List.take_left' rfl
  have e2 : (sCtl ++ t).drop 8 = t := List.drop_left' rfl
  rw [ctl_text, lineR, if_pos e1, e2, ctlR, if_pos h]
theorem norm_parse {b : Ac} (h : Norm b) : parseS (lineS b) = (b, true) := by
  rcases norm_cases h with ⟨t, ht, rfl⟩ | ⟨w, ws, hg⟩
  · exact ctl_parse ht
  · exact hg.parse
theorem norm_back {b : Ac} (h : Norm b) : lineR (textR b) = (b, true) := by
  rcases norm_cases h with ⟨t, ht, rfl⟩ | ⟨w, ws, hg⟩
  · exact ctl_back ht
  · exact hg.back
theorem norm_line {b : Ac} (h : Norm b) : lineS b = textR b ++ [10] := by
  rcases norm_cases h with ⟨t, ht, rfl⟩ | ⟨w, ws, hg⟩
  · rw [ctl_line, ctl_text, List.append_assoc]
  · exact hg.line
theorem fmtE_nosp2 (six : Bool) (A : List UInt8) (p : Nat) : NoSp (fmtE six A p) := by
  by_cases h : okA six A = true ∧ 1 ≤ p ∧ p ≤ 65535
  · exact fmtE_nosp h.1 h.2.1 h.2.2
  · have e : fmtE six A p = [] := by
      rw [fmtE, if_neg]
      rintro ⟨h1, h2, h3⟩
      exact h ⟨h1, by omega, by omega⟩
    rw [e]
    intro c hc
    cases hc
theorem parseE_nil : parseE [] = none := by decide +kernel
theorem fmtE_ok {six : Bool} {A : List UInt8} {p : Nat} (h : parseE (fmtE six A p) = some (six, A, p)) : A.length = 16 ∧ okA six A = true ∧ 1 ≤ p ∧ p ≤ 65535 := by
  refine ⟨parseE_ip h, ?_⟩
  by_cases hk : okA six A = true ∧ 1 ≤ p ∧ p ≤ 65535
  · exact hk
  · have e : fmtE six A p = [] := by
      rw [fmtE, if_neg]
      rintro ⟨h1, h2, h3⟩
      exact hk ⟨h1, by omega, by omega⟩
    rw [e, parseE_nil] at h
    cases h
end Go.Proofs.YtcbdghgogmcllaaGreatDoor
end
section
namespace Go.Proofs.YtcbdghgogmcllaaGreatDoor
open Go Go.Sy
theorem pair_eq {α β : Type} {a a' : α} {b b' : β} (h : (a, b) = (a', b')) : a = a' ∧ b = b' := by cases h; exact ⟨rfl, rfl⟩
theorem parse_norm {s : List UInt8} {b : Ac} (h : parseS s = (b, true)) : Norm b ∧ s = lineS b := by
  unfold parseS at h
  split at h
  · obtain ⟨h1, h2⟩ := pair_eq h
    rw [Bool.and_eq_true, beq_iff_eq] at h2
    subst h1
    exact ⟨.control _ h2.1, h2.2.symm⟩
  · obtain ⟨h1, h2⟩ := pair_eq h
    rw [Bool.and_eq_true, beq_iff_eq] at h2
    obtain ⟨h3, h4⟩ := h2
    have hr : readW (wdsS s) = (b, true) := Prod.ext h1 h3
    rw [h1] at h4
    refine ⟨?_, h4.symm⟩
    rw [← h4] at hr
    clear h h1 h3 h4
    unfold readW at hr
    split at hr
    · rename_i x0 x1 hw
      split at hr
      · obtain ⟨rfl, _⟩ := pair_eq hr; exact .plain _
      split at hr
      · obtain ⟨e1, e2⟩ := pair_eq hr
        have := numW_ok (s := x1) (n := (numW x1).1) (Prod.ext rfl e2)
        rw [← e1]; exact .tick _ this.1 this.2
      split at hr
      · obtain ⟨rfl, _⟩ := pair_eq hr; exact .entropy _
      split at hr
      · obtain ⟨e1, e2⟩ := pair_eq hr
        have := whoW_ok (s := x1) (n := (whoW x1).1) (Prod.ext rfl e2)
        rw [← e1]; exact .abort _ this.1 this.2
      split at hr
      · obtain ⟨e1, e2⟩ := pair_eq hr
        have := whoW_ok (s := x1) (n := (whoW x1).1) (Prod.ext rfl e2)
        rw [← e1]; exact .kill _ this.1 this.2
      · cases hr
    · rename_i x0 x1 x2 hw
      split at hr
      · rename_i hx
        subst hx
        unfold dgW at hr
        split at hr
        · rename_i six A n he
          obtain ⟨e1, _⟩ := pair_eq hr
          have hl : lineS b = Go.Lib.join (wDatagram :: [fmtE six A n, hexW (unhexW x2).1]) [32] ++ [10] := by rw [← e1]; rfl
          rw [hl, wdsS, trim_end, splitL_join 32 _ _ (fun y hy e => (nosp_three (words_nosp (by decide)) (fmtE_nosp2 six A n) (hexW_nosp _) y hy 32 e).1 rfl)] at hw
          injection hw with _ hw
          injection hw with hx1 _
          rw [← hx1] at he
          obtain ⟨k1, k2, k3, k4⟩ := fmtE_ok he
          rw [← e1]
          exact .dgram six A n _ k1 k2 k3 k4
        · cases hr
      split at hr
      · obtain ⟨e1, e2⟩ := pair_eq hr
        rw [Bool.and_eq_true] at e2
        have k1 := whoW_ok (s := x1) (n := (whoW x1).1) (Prod.ext rfl e2.1)
        have k2 := numW_ok (s := x2) (n := (numW x2).1) (Prod.ext rfl e2.2)
        rw [← e1]; exact .pick _ _ k1.1 k1.2 k2.1 k2.2
      split at hr
      · obtain ⟨e1, e2⟩ := pair_eq hr
        rw [Bool.and_eq_true] at e2
        have k1 := whoW_ok (s := x1) (n := (whoW x1).1) (Prod.ext rfl e2.1)
        have k2 := numW_ok (s := x2) (n := (numW x2).1) (Prod.ext rfl e2.2)
        rw [← e1]; exact .cut _ _ k1.1 k1.2 k2.1 k2.2
      · cases hr
    · rename_i x0 x1 x2 x3 hw
      split at hr
      · unfold handW at hr
        split at hr
        · split at hr
          · rename_i hh
            obtain ⟨e1, _⟩ := pair_eq hr
            have k1 := smallW_ok (s := x1) (n := (smallW x1).1) (Prod.ext rfl hh.1)
            have k2 := smallW_ok (s := x2) (n := (smallW x2).1) (Prod.ext rfl hh.2.1)
            rw [← e1]; exact .handoff _ _ _ k1.1 k1.2 k2.1 k2.2 hh.2.2
          · cases hr
        · cases hr
      split at hr
      · unfold corW at hr
        split at hr
        · split at hr
          · rename_i hh
            obtain ⟨e1, _⟩ := pair_eq hr
            have k1 := whoW_ok (s := x1) (n := (whoW x1).1) (Prod.ext rfl hh.1)
            have k2 := numW_ok (s := x2) (n := (numW x2).1) (Prod.ext rfl hh.2)
            rw [← e1]; exact .corrupt _ _ _ k1.1 k1.2 k2.1 k2.2
          · cases hr
        · cases hr
      · cases hr
    · cases hr
theorem join_splitL (c : UInt8) : ∀ s : List UInt8, Go.Lib.join (splitL c s) [c] = s
  | [] => rfl
  | d :: s => by
    have ih := join_splitL c s
    obtain ⟨x, xs, h⟩ := List.exists_cons_of_ne_nil (splitL_ne c s)
    by_cases hd : d = c
    · rw [splitL, if_pos hd, h]
      rw [h] at ih
      rw [Go.Lib.join_cons] at ih ⊢
      rw [hd]
      simp only [Go.Lib.joinTail, List.map_cons, List.flatten_cons] at ih ⊢
      simpa using ih
    · rw [splitL_cons h hd]
      rw [h] at ih
      rw [Go.Lib.join_cons] at ih ⊢
      rw [List.cons_append, ih]
theorem hexS_W {k : List UInt8} {x : List UInt8} (h : hexW k = x) (h0 : k ≠ []) : hexS k = x := by rw [← h, hexW, if_neg h0]
theorem who_dec {x1 : List UInt8} (hx : x1 = [48] ∨ x1 = [49]) : 0 ≤ (if x1 = [48] then (0 : Int) else 1) ∧ (if x1 = [48] then (0 : Int) else 1) ≤ 1 ∧ Go.Lib.itoa (if x1 = [48] then (0 : Int) else 1) = x1 := by
  rcases hx with rfl | rfl
  · exact ⟨by decide, by decide, by rw [if_pos rfl, itoa_nn (by decide)]; exact dec_small (by decide)⟩
  · exact ⟨by decide, by decide, by rw [if_neg (by decide), itoa_nn (by decide)]; exact dec_small (by decide)⟩
theorem words_norm {w : List (List UInt8)} {b : Ac} (h : wordsR w = (b, true)) : Norm b ∧ ∃ n ws, GoodN b n ws ∧ w = n :: ws := by
  unfold wordsR at h
  split at h
  · rename_i x0 x1 tl
    split at h
    · unfold evR at h
      split at h
      · split at h
        · rename_i hx; subst hx
          obtain ⟨e1, e2⟩ := pair_eq h
          have k := bytesR_ok (s := x1) (l := (bytesR x1).1) (Prod.ext rfl e2)
          rw [← e1]; exact ⟨.plain _, _, _, good_plain _, by rw [k]⟩
        split at h
        · rename_i hx; subst hx
          obtain ⟨e1, e2⟩ := pair_eq h
          have k := numR_eq (s := x1) (n := (numR x1).1) (Prod.ext rfl e2)
          rw [← e1]; exact ⟨.tick _ k.1 k.2.1, _, _, good_tick k.1 k.2.1, by rw [decM_itoa k.1, k.2.2]⟩
        split at h
        · rename_i hx; subst hx
          obtain ⟨e1, e2⟩ := pair_eq h
          have k := bytesR_ok (s := x1) (l := (bytesR x1).1) (Prod.ext rfl e2)
          rw [← e1]; exact ⟨.entropy _, _, _, good_entropy _, by rw [k]⟩
        · cases h
      · split at h
        · rename_i x2 hx; subst hx
          unfold dgR at h
          split at h
          · rename_i six A n he
            obtain ⟨e1, e2⟩ := pair_eq h
            rw [Bool.and_eq_true, beq_iff_eq] at e2
            have k := bytesR_ok (s := x2) (l := (bytesR x2).1) (Prod.ext rfl e2.1)
            rw [← e2.2] at he
            obtain ⟨k1, k2, k3, k4⟩ := fmtE_ok he
            rw [← e1]; exact ⟨.dgram six A n _ k1 k2 k3 k4, _, _, good_dgram k1 k2 k3 k4, by rw [k, e2.2]⟩
          · cases h
        · cases h
      · cases h
    split at h
    · rename_i hx; subst hx
      unfold handX at h
      split at h
      · rename_i x2 x3
        unfold handR at h
        split at h
        · rename_i hh
          obtain ⟨g1, g2, g3, g4, g5, g6⟩ := hh
          obtain ⟨e1, _⟩ := pair_eq h
          have k1 := numR_eq (s := x1) (n := (numR x1).1) (Prod.ext rfl g3)
          have k2 := numR_eq (s := x2) (n := (numR x2).1) (Prod.ext rfl g4)
          have k3 := bytesR_ok (s := x3) (l := (bytesR x3).1) (Prod.ext rfl g5)
          have d1 : (numR x1).1 ≤ 9 := by
            have := dec_one_len (n := (numR x1).1.toNat) (by rw [← decM_nn k1.1, k1.2.2]; exact g1)
            omega
          have d2 : (numR x2).1 ≤ 9 := by
            have := dec_one_len (n := (numR x2).1.toNat) (by rw [← decM_nn k2.1, k2.2.2]; exact g2)
            omega
          have k4 := hexS_W k3 (fun e => by rw [e] at g6; cases g6)
          rw [← e1]; exact ⟨.handoff _ _ _ k1.1 d1 k2.1 d2 g6, _, _, good_handoff k1.1 d1 k2.1 d2 g6, by rw [decM_itoa k1.1, decM_itoa k2.1, k1.2.2, k2.2.2, k4]⟩
        · cases h
      · cases h
    · unfold namedR at h
      split at h
      · rename_i hx
        obtain ⟨w0, w1, w2⟩ := who_dec hx
        split at h
        · split at h
          · rename_i hx; subst hx
            obtain ⟨e1, _⟩ := pair_eq h
            rw [← e1]; exact ⟨.abort _ w0 w1, _, _, good_abort w0 w1, by rw [w2]⟩
          split at h
          · rename_i hx; subst hx
            obtain ⟨e1, _⟩ := pair_eq h
            rw [← e1]; exact ⟨.kill _ w0 w1, _, _, good_kill w0 w1, by rw [w2]⟩
          · cases h
        · rename_i x2
          split at h
          · rename_i hx; subst hx
            obtain ⟨e1, e2⟩ := pair_eq h
            have k := numR_eq (s := x2) (n := (numR x2).1) (Prod.ext rfl e2)
            rw [← e1]; exact ⟨.pick _ _ w0 w1 k.1 k.2.1, _, _, good_pick w0 w1 k.1 k.2.1, by rw [w2, decM_itoa k.1, k.2.2]⟩
          split at h
          · rename_i hx; subst hx
            obtain ⟨e1, e2⟩ := pair_eq h
            have k := numR_eq (s := x2) (n := (numR x2).1) (Prod.ext rfl e2)
            rw [← e1]; exact ⟨.cut _ _ w0 w1 k.1 k.2.1, _, _, good_cut w0 w1 k.1 k.2.1, by rw [w2, decM_itoa k.1, k.2.2]⟩
          · cases h
        · rename_i x2 x3
          split at h
          · rename_i hh
            obtain ⟨hx, g1, g2⟩ := hh
            subst hx
            obtain ⟨e1, e2⟩ := pair_eq h
            have k := numR_eq (s := x2) (n := (numR x2).1) (Prod.ext rfl e2)
            have k3 := bytesR_ok (s := x3) (l := (bytesR x3).1) (Prod.ext rfl g1)
            obtain ⟨c, hc⟩ : ∃ c, (bytesR x3).1 = [c] := by
              match (bytesR x3).1, g2 with
              | [c], _ => exact ⟨c, rfl⟩
            rw [hc] at k3 e1
            have k4 := hexS_W k3 (by simp)
            rw [← e1]; exact ⟨.corrupt _ _ _ w0 w1 k.1 k.2.1, _, _, good_corrupt (x := c) w0 w1 k.1 k.2.1, by rw [w2, decM_itoa k.1, k.2.2, k4]⟩
          · cases h
        · cases h
      · cases h
  · cases h
theorem line_norm {s : List UInt8} {b : Ac} (h : lineR s = (b, true)) : Norm b ∧ s = textR b := by
  unfold lineR at h
  split at h
  · rename_i hp
    unfold ctlR at h
    split at h
    · rename_i hc
      obtain ⟨e1, _⟩ := pair_eq h
      rw [← e1]
      refine ⟨.control _ hc, ?_⟩
      rw [ctl_text, ← hp, List.take_append_drop]
    · cases h
  · obtain ⟨h1, n, ws, hg, hw⟩ := words_norm h
    refine ⟨h1, ?_⟩
    rw [hg.text, ← hw, join_splitL]
theorem good_norm {a : Ac} : goodA a = true ↔ Norm a := by
  constructor
  · intro h
    rw [goodA, Bool.and_eq_true, sameA_iff] at h
    have := (parse_norm (Prod.ext (x := parseS (lineS a)) rfl h.1 : parseS (lineS a) = ((parseS (lineS a)).1, true))).1
    rwa [h.2] at this
  · intro h
    rw [goodA, norm_parse h]
    simp only [Bool.true_and]
    exact sameA_iff.2 rfl
theorem goodR_norm {a : Ac} : goodR a = true ↔ Norm a := by
  constructor
  · intro h
    rw [goodR, Bool.and_eq_true, sameA_iff] at h
    have := (line_norm (Prod.ext (x := lineR (textR a)) rfl h.1 : lineR (textR a) = ((lineR (textR a)).1, true))).1
    rwa [← h.2] at this
  · intro h
    rw [goodR, norm_back h]
    simp only [Bool.true_and]
    exact sameA_iff.2 rfl
theorem fmt_eq (l : List Ac) : fmtV l = fmtR l := by
  have h : l.all goodA = l.all goodR := by
    congr 1
    funext a
    exact Bool.eq_iff_iff.2 (good_norm.trans goodR_norm.symm)
  rw [fmtV, fmtR, h]
  split
  · rfl
  · split
    · rename_i hh
      have : catS l = catR l := by
        rw [catS, catR]
        congr 1
        exact List.map_congr_left fun a ha => norm_line (goodR_norm.1 (List.all_eq_true.1 hh a ha))
      rw [this]
    · rfl
end Go.Proofs.YtcbdghgogmcllaaGreatDoor
end
