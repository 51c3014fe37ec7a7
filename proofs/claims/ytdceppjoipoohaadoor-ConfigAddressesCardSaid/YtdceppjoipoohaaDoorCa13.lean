/- Lemmas and definitions of this claim (own texts, joined by a program; what the claim does not use is left out). -/
import Derived.Test.YtdceppjoipoohaaDoorCa12
import Derived.OpenShut
import Derived.ShutString
import Derived.ChangeOld
import Derived.Below
import Derived.ProofKit
import Derived.Test.YtdceppjoipoohaaDoorRows
import Derived.Lib.LaidU8
import Derived.Shelf.Vars
import Derived.Lay
import Derived.LaidOnce
import Derived.SizedLaws
section
namespace Go.Proofs.YtdceppjoipoohaaDoor
open Go Go.Sy
set_option linter.all false
set_option maxRecDepth 100000
set_option maxHeartbeats 4000000
theorem ConfigAddresses_in (codes : List UInt8) (a : Bool × List UInt8) (e p : (Bool × List UInt8) × Int) (s : List UInt8) (at_ by_ : UInt8) (hcl : codes.length ≤ maxLen) (ha : True ∧ a.2.length = 16) (he : (True ∧ e.1.2.length = 16) ∧ -9223372036854775808 ≤ e.2 ∧ e.2 ≤ 9223372036854775807) (hp' : (True ∧ p.1.2.length = 16) ∧ -9223372036854775808 ≤ p.2 ∧ p.2 ≤ 9223372036854775807) (hsl : s.length ≤ maxLen) :
    PC Tryd.prog true 3 [lb codes, addrC a.1 a.2, prefC e.1.1 e.1.2 e.2, prefC p.1.1 p.1.2 p.2, .str s, byteC at_, byteC by_] (.bool true) := by
  obtain ⟨a6, aA⟩ := a
  obtain ⟨⟨e6, eA⟩, en⟩ := e
  obtain ⟨⟨p6, pA⟩, pn⟩ := p
  replace ha := ha.2
  obtain ⟨⟨_, he⟩, hen⟩ := he
  obtain ⟨⟨_, hp'⟩, hpn⟩ := hp'
  dsimp only at *
  have hm' : (maxLen : Nat) = 9223372036854775807 := by rfl
  have hl60 : (codes.take 60).length ≤ 60 := List.length_take_le _ _
  have hnew : ∀ (B : List Box) (args : List CV), Is args [.lst codes.length (codes.map byteC) false, .int .i64 60] → ACall Tryd.prog 6 args B fun c B' => c = .ptr B.length 0 ∧ B' = B ++ [cb (codes.take 60) 0] := fun B args h => new_at (n := 60) h (by omega)
  generalize codes.take 60 = L at *
  have h1 : adA L 0 ≤ L.length := adA_le (Nat.zero_le _)
  have h2 : epA L (adA L 0) ≤ L.length := epA_le h1
  have h3 : adA L (epA L (adA L 0)) ≤ L.length := adA_le h2
  have had : ∀ (B : List Box) (args : List CV), Is args [.ptr 3 0] → B[3]? = some (cb L 0) → ACall Tryd.prog 7 args B fun c B' => c = addrC (adSix L 0) (adIP L 0) ∧ B' = B.set 3 (cb L (adA L 0)) ++ adG L 0 := fun B args h h2 => addr_at h h2 ⟨Nat.zero_le _, by omega⟩
  have hep : ∀ (B : List Box) (args : List CV), Is args [.ptr 3 0] → B[3]? = some (cb L (adA L 0)) → ACall Tryd.prog 8 args B fun c B' => c = prefC (adSix L (adA L 0)) (adIP L (adA L 0)) (epP L (adA L 0)) ∧ B' = B.set 3 (cb L (epA L (adA L 0))) ++ epG L (adA L 0) := fun B args h h2 => endpoint_at h h2 ⟨h1, by omega⟩
  have hpf : ∀ (B : List Box) (args : List CV), Is args [.ptr 3 0] → B[3]? = some (cb L (epA L (adA L 0))) → ACall Tryd.prog 9 args B fun c B' => c = prefC (adSix L (epA L (adA L 0))) (pfIP L (epA L (adA L 0))) (pfBits L (epA L (adA L 0))) ∧ B' = B.set 3 (cb L (pfA L (epA L (adA L 0)))) ++ pfG L (epA L (adA L 0)) := fun B args h h2' => prefix_at h h2' ⟨h2, by omega⟩
  have hvl : vld (adSix L (epA L (adA L 0))) (pfIP L (epA L (adA L 0))) (pfBits L (epA L (adA L 0)) : Nat) = true := by
    refine vld_cut (adIP_len _ _) (okA_ad _ _) ?_
    have := nxV_lt (l := L) (a := adA L (epA L (adA L 0))) (n := pfN L (epA L (adA L 0))) (by unfold pfN; split <;> omega)
    unfold pfBits
    unfold pfN at this ⊢
    split at this <;> simp_all <;> omega
  have hr := vld_range hvl
  have l1 := adIP_len L 0
  have l2 := adIP_len L (adA L 0)
  have l3 : (pfIP L (epA L (adA L 0))).length = 16 := cutL_len _ _
  have hp := epP_le L (adA L 0)
  have f1 := fmtA_len (adSix L 0) (adIP L 0)
  have f2 : (fmtE (adSix L (adA L 0)) (adIP L (adA L 0)) (epP L (adA L 0))).length < 1000 := fmtE_len _ _ _
  have f3 : (fmtP (adSix L (epA L (adA L 0))) (pfIP L (epA L (adA L 0))) (pfBits L (epA L (adA L 0)) : Nat)).length < 1000 := fmtP_len _ _ _
  clear h1 h2 h3 hvl
  generalize pfBits L (epA L (adA L 0)) = k3 at *
  generalize pfIP L (epA L (adA L 0)) = A3 at *
  generalize adSix L (epA L (adA L 0)) = s3 at *
  generalize pfG L (epA L (adA L 0)) = G3 at *
  generalize pfA L (epA L (adA L 0)) = a3 at *
  generalize epP L (adA L 0) = k2 at *
  generalize adIP L (adA L 0) = A2 at *
  generalize adSix L (adA L 0) = s2 at *
  generalize epG L (adA L 0) = G2 at *
  generalize epA L (adA L 0) = a2 at *
  generalize adIP L 0 = A1 at *
  generalize adSix L 0 = s1 at *
  generalize adG L 0 = G1 at *
  generalize adA L 0 = a1 at *
  have w1 : ∀ {B : List Box} {args : List CV}, Is (omap (Go.Sy.fz true false B 6) args) (some [addrC s1 A1]) → ACall Tryd.prog 15 args B fun c B' => c = .str (fmtA s1 A1) ∧ B' = B := fun h => fmtAddr_at h l1
  have w2 : ∀ {B : List Box} {args : List CV}, Is (omap (Go.Sy.fz true false B 6) args) (some [prefC s2 A2 k2]) → ACall Tryd.prog 16 args B fun c B' => c = .str (fmtE s2 A2 k2) ∧ B' = B := fun h => fmtE_at h l2 (by omega)
  have w3 : ∀ {B : List Box} {args : List CV}, Is (omap (Go.Sy.fz true false B 6) args) (some [prefC s3 A3 k3]) → ACall Tryd.prog 17 args B fun c B' => c = .str (fmtP s3 A3 k3) ∧ B' = B := fun h => fmtP_at h l3 (by omega)
  have x1 : ∀ {B : List Box} {args : List CV}, Is (omap (Go.Sy.fz true false B 6) args) (some [addrC s1 A1]) → ACall Tryd.prog 11 args B fun c B' => c = .str (fmtA s1 A1) ∧ B' = B := fun h => rfmtAddr_at h l1
  have x2 : ∀ {B : List Box} {args : List CV}, Is (omap (Go.Sy.fz true false B 6) args) (some [prefC s2 A2 k2]) → ACall Tryd.prog 12 args B fun c B' => c = .str (fmtE s2 A2 k2) ∧ B' = B := fun h => rfmtE_at h l2 (by omega)
  have x3 : ∀ {B : List Box} {args : List CV}, Is (omap (Go.Sy.fz true false B 6) args) (some [prefC s3 A3 k3]) → ACall Tryd.prog 13 args B fun c B' => c = .str (fmtP s3 A3 k3) ∧ B' = B := fun h => rfmtP_at h l3 (by omega)
  have y1 : ∀ {B : List Box} {args : List CV}, Is (omap (Go.Sy.fz true false B 6) args) (some [addrC a6 aA]) → ACall Tryd.prog 15 args B fun c B' => c = .str (fmtA a6 aA) ∧ B' = B := fun h => fmtAddr_at h ha
  have y2 : ∀ {B : List Box} {args : List CV}, Is (omap (Go.Sy.fz true false B 6) args) (some [prefC e6 eA en]) → ACall Tryd.prog 16 args B fun c B' => c = .str (fmtE e6 eA en) ∧ B' = B := fun h => fmtE_at h he hen
  have y3 : ∀ {B : List Box} {args : List CV}, Is (omap (Go.Sy.fz true false B 6) args) (some [prefC p6 pA pn]) → ACall Tryd.prog 17 args B fun c B' => c = .str (fmtP p6 pA pn) ∧ B' = B := fun h => fmtP_at h hp' hpn
  have z1 : ∀ {B : List Box} {args : List CV}, Is (omap (Go.Sy.fz true false B 6) args) (some [addrC a6 aA]) → ACall Tryd.prog 11 args B fun c B' => c = .str (fmtA a6 aA) ∧ B' = B := fun h => rfmtAddr_at h ha
  have z2 : ∀ {B : List Box} {args : List CV}, Is (omap (Go.Sy.fz true false B 6) args) (some [prefC e6 eA en]) → ACall Tryd.prog 12 args B fun c B' => c = .str (fmtE e6 eA en) ∧ B' = B := fun h => rfmtE_at h he hen
  have z3 : ∀ {B : List Box} {args : List CV}, Is (omap (Go.Sy.fz true false B 6) args) (some [prefC p6 pA pn]) → ACall Tryd.prog 13 args B fun c B' => c = .str (fmtP p6 pA pn) ∧ B' = B := fun h => rfmtP_at h hp' hpn
  have hbg : ∀ {B : List Box} {args : List CV}, Is (omap (Go.Sy.fz true false B 6) args) (some []) → ACall Tryd.prog 18 args B fun c B' => c = .bool true ∧ B' = B := fun h => begun_at h
  generalize fmtA s1 A1 = t1 at *
  generalize fmtE s2 A2 k2 = t2 at *
  generalize fmtP s3 A3 k3 = t3 at *
  have hsh : ∀ {B : List Box} {args : List CV}, Is (omap (Go.Sy.fz true false B 6) args) (some [.str s, .int .i64 60]) → ACall Tryd.prog 10 args B fun c B' => c = .str (s.take 60) ∧ B' = B := fun h => acall_fresh h (short_in s 60 (by decide) hsl)
  have f0 : (s.take 60).length ≤ 60 := List.length_take_le _ _
  generalize s.take 60 = t0 at *
  refine acall_intro mixed Tryd.func3 rfl ca3 (by kernel_rfl) (by rw [Tryd.ntmps3]; simp) ?_
  repeat' (first | (with_reducible (first | apply w_seq | apply w_region | apply w_block | apply w_skip | apply w_exit | apply w_ret | apply w_then | apply w_then_exit | apply w_then_ret | apply w_in | apply w_in_here | apply w_in_ret | apply w_round | apply o_nil | apply d_nil)) | ((with_reducible (first | apply w_in_exit)); rfl) | ((with_reducible (first | apply w_draw)); rfl) | ((first | ((with_reducible (first | apply o_op | apply d_op | apply q_op)); rfl; rfl) | ((with_reducible (first | apply w_cond | apply w_end | apply w_return))) | ((with_reducible (first | apply o_guard | apply d_guard | apply q_guard)); rfl) | ((with_reducible (first | apply o_call_eq | apply d_call | apply q_call)); rfl)); all_goals (first | ((with_reducible show Is _ _); ((try simp (disch := first | omega | (simp only [yA, yB, yC, yD, yE] <;> omega) | fail) [go_sem, yF, yG, yH, *, prefC, addrC, lb, bx_get0, bx_get, bx_set0, bx_set, if_pos, if_neg, -List.map_take, -List.map_drop, -List.map_append, -List.map_reverse]); exact rfl)) | ((fail_if_success (with_reducible show Is _ _)); (first | ((with_reducible refine fun (hc : (_ : Bool) = _) => ?_); (try simp only [xA, xB, xC, xD, xE, xF, xG, xH, reduceCtorEq, xI, xJ, xK, xL, xM, xN, xO, xP, xQ, xR] at hc); (try (have hx : True := hc; clear hx hc)); (try (exfalso; omega)); (try (with_reducible (exact absurd hc (by assumption)))); (try (with_reducible (exact absurd (by assumption) hc)))) | ((with_reducible show ACall _ _ _ _ _); (first | ((with_reducible (first | apply hnew)) <;> (first | omega | assumption | exact rfl | ((simp (disch := first | omega | (simp only [yA, yB, yC, yD, yE] <;> omega) | fail) [go_sem, yF, yG, yH, *, prefC, addrC, lb, bx_get0, bx_get, bx_set0, bx_set, -List.map_take, -List.map_drop, -List.map_append, -List.map_reverse]) <;> (first | done | omega | exact rfl)))) | ((with_reducible (first | apply had)) <;> (first | omega | assumption | exact rfl | ((simp (disch := first | omega | (simp only [yA, yB, yC, yD, yE] <;> omega) | fail) [go_sem, yF, yG, yH, *, prefC, addrC, lb, bx_get0, bx_get, bx_set0, bx_set, -List.map_take, -List.map_drop, -List.map_append, -List.map_reverse]) <;> (first | done | omega | exact rfl)))) | ((with_reducible (first | apply hep)) <;> (first | omega | assumption | exact rfl | ((simp (disch := first | omega | (simp only [yA, yB, yC, yD, yE] <;> omega) | fail) [go_sem, yF, yG, yH, *, prefC, addrC, lb, bx_get0, bx_get, bx_set0, bx_set, -List.map_take, -List.map_drop, -List.map_append, -List.map_reverse]) <;> (first | done | omega | exact rfl)))) | ((with_reducible (first | apply hpf)) <;> (first | omega | assumption | exact rfl | ((simp (disch := first | omega | (simp only [yA, yB, yC, yD, yE] <;> omega) | fail) [go_sem, yF, yG, yH, *, prefC, addrC, lb, bx_get0, bx_get, bx_set0, bx_set, -List.map_take, -List.map_drop, -List.map_append, -List.map_reverse]) <;> (first | done | omega | exact rfl)))) | ((with_reducible (first | apply hsh)) <;> (first | omega | assumption | exact rfl | ((simp (disch := first | omega | (simp only [yA, yB, yC, yD, yE] <;> omega) | fail) [go_sem, yF, yG, yH, *, prefC, addrC, lb, bx_get0, bx_get, bx_set0, bx_set, -List.map_take, -List.map_drop, -List.map_append, -List.map_reverse]) <;> (first | done | omega | exact rfl)))) | ((with_reducible (first | apply x1)) <;> (first | omega | assumption | exact rfl | ((simp (disch := first | omega | (simp only [yA, yB, yC, yD, yE] <;> omega) | fail) [go_sem, yF, yG, yH, *, prefC, addrC, lb, bx_get0, bx_get, bx_set0, bx_set, -List.map_take, -List.map_drop, -List.map_append, -List.map_reverse]) <;> (first | done | omega | exact rfl)))) | ((with_reducible (first | apply x2)) <;> (first | omega | assumption | exact rfl | ((simp (disch := first | omega | (simp only [yA, yB, yC, yD, yE] <;> omega) | fail) [go_sem, yF, yG, yH, *, prefC, addrC, lb, bx_get0, bx_get, bx_set0, bx_set, -List.map_take, -List.map_drop, -List.map_append, -List.map_reverse]) <;> (first | done | omega | exact rfl)))) | ((with_reducible (first | apply x3)) <;> (first | omega | assumption | exact rfl | ((simp (disch := first | omega | (simp only [yA, yB, yC, yD, yE] <;> omega) | fail) [go_sem, yF, yG, yH, *, prefC, addrC, lb, bx_get0, bx_get, bx_set0, bx_set, -List.map_take, -List.map_drop, -List.map_append, -List.map_reverse]) <;> (first | done | omega | exact rfl)))))) | ((fail_if_success (with_reducible show ACall _ _ _ _ _)); (try ((with_reducible show _ ∨ _); first | exact .inl rfl | (refine .inr ⟨rfl, ?_, ?_⟩; (focus (repeat (first | exact trivial | refine ⟨.inl rfl, ?_⟩ | refine ⟨.inr rfl, ?_⟩))); (first | exact trivial | exact rfl))))))))))
  clear hnew had hep hpf hsh
  have hTl : ∀ x ∈ [t0, t1, t2, t3], x.length < 1000 := by
    intro x hx
    simp only [List.mem_cons, List.not_mem_nil, or_false] at hx
    rcases hx with rfl | rfl | rfl | rfl <;> omega
  have hT4 : [t0, t1, t2, t3].length = 4 := rfl
  obtain ⟨T, hT⟩ : ∃ T, [t0, t1, t2, t3] = T := ⟨_, rfl⟩
  have hTm : [CV.str t0, CV.str t1, CV.str t2, CV.str t3] = T.map .str := by rw [← hT]; rfl
  rw [hT] at hTl hT4
  refine w_loop (fun fr B => ∃ (B0 Z : List Box) (j n16 n17 n18 R : Nat), j ≤ 4 ∧ fr 43 = .int .i64 j ∧ fr 42 = .int .i64 4 ∧ fr 41 = .cview R 0 4 4 1 ∧ fr 8 = .ptr 0 0 ∧ fr 9 = .ptr 1 0 ∧ fr 10 = .ptr 2 0 ∧ fr 16 = .ptr n16 0 ∧ fr 17 = .ptr n17 0 ∧ fr 18 = .ptr n18 0 ∧ fr 5 = byteC at_ ∧ fr 6 = byteC by_ ∧ B = B0 ++ Z ∧
    (∀ Z, (B0 ++ Z)[0]? = some ⟨.bool a6 :: aA.map byteC, false⟩) ∧ (∀ Z, (B0 ++ Z)[1]? = some ⟨.bool e6 :: (eA.map byteC ++ [.int .i64 en]), false⟩) ∧ (∀ Z, (B0 ++ Z)[2]? = some ⟨.bool p6 :: (pA.map byteC ++ [.int .i64 pn]), false⟩) ∧ (∀ Z, (B0 ++ Z)[n16]? = some ⟨.bool s1 :: A1.map byteC, false⟩) ∧ (∀ Z, (B0 ++ Z)[n17]? = some ⟨.bool s2 :: (A2.map byteC ++ [.int .i64 (k2 : Int)]), false⟩) ∧ (∀ Z, (B0 ++ Z)[n18]? = some ⟨.bool s3 :: (A3.map byteC ++ [.int .i64 (k3 : Int)]), false⟩) ∧ (∀ Z, (B0 ++ Z)[R]? = some ⟨T.map .str, false⟩)) (fun fr _ => 4 - natOf (fr 43)) ?_ ?_
  · refine ⟨_, [], 0, _, _, _, _, by omega, by (simp (disch := omega) [go_sem, *]) <;> (try omega), by (simp (disch := omega) [go_sem, *]) <;> (try omega), by rfl, by (simp (disch := omega) [go_sem, *]) <;> (try omega), by (simp (disch := omega) [go_sem, *]) <;> (try omega), by (simp (disch := omega) [go_sem, *]) <;> (try omega), by rfl, by rfl, by rfl, by (simp (disch := omega) [go_sem, *]) <;> (try omega), by (simp (disch := omega) [go_sem, *]) <;> (try omega), (List.append_nil _).symm, fun Z => ?_, fun Z => ?_, fun Z => ?_, fun Z => ?_, fun Z => ?_, fun Z => ?_, fun Z => ?_⟩
    · rfl
    · rfl
    · rfl
    · simp [bx_get0, bx_get]
    · simp [bx_get0, bx_get]
    · simp [bx_get0, bx_get]
    · rw [← hTm]; simp [bx_get0, bx_get]
  · rintro fr B ⟨B0, Z, j, n16, n17, n18, R, hj, h43, h42, h41, h8, h9, h10, h16, h17, h18, h5, h6, rfl, b0, b1, b2, b16, b17, b18, bR⟩
    clear hTm hT
    by_cases hc : j < 4
    · have bb : Hid _ := And.intro b0 (And.intro b1 (And.intro b2 (And.intro b16 (And.intro b17 b18))))
      have cR := bR Z
      have bR : Hid _ := bR
      have hx : (T.map CV.str)[j]'(by simp; omega) = .str (T[j]'(by omega)) := by simp
      have hxl := hTl (T[j]'(by omega)) (List.getElem_mem _)
      have hTl : Hid _ := hTl
      clear b0 b1 b2 b16 b17 b18 w1 w2 w3 x1 x2 x3 y1 y2 y3 z1 z2 z3 hbg
      generalize (T[j]'(by omega)) = x at *
      have hrd : ∀ (v : List UInt8), v.length < 1000 → ∀ {B : List Box} {args : List CV}, Is (omap (Go.Sy.fz true false B 6) args) (some [.str v]) → ACall Tryd.prog 14 args B fun c B' => c = .bool true ∧ B' = B := fun v hv _ _ h => acall_fresh h (reads_in v (by omega))
      have hmo : natOf (fr 43) = j := by rw [h43]; rfl
      by_cases hx0 : 0 < x.length
      · obtain ⟨k, hk, hkl⟩ : ∃ k : Nat, at_.toNat % x.length = k ∧ k < x.length := ⟨_, rfl, Nat.mod_lt _ hx0⟩
        have hk1 : ((at_.toNat : Int)).tmod (x.length : Int) = (k : Int) := by rw [← hk]; rfl
        have hk2 : ((at_.toNat : Int)) % (x.length : Int) = (k : Int) := by rw [← hk]; rfl
        obtain ⟨m, hm, hml⟩ : ∃ m : Nat, by_.toNat % 28 = m ∧ m < 28 := ⟨_, rfl, Nat.mod_lt _ (by decide)⟩
        have hm1 : ((by_.toNat : Int)).tmod 28 = (m : Int) := by rw [← hm]; rfl
        have hm2 : ((by_.toNat : Int)) % 28 = (m : Int) := by rw [← hm]; rfl
        obtain ⟨y, hy⟩ : ∃ y, ([48, 49, 50, 51, 52, 53, 54, 55, 56, 57, 97, 98, 99, 100, 101, 102, 65, 66, 67, 68, 69, 70, 46, 58, 47, 91, 93, 32] : List UInt8)[m]'(by simpa using hml) = y := ⟨_, rfl⟩
        have hne : x ≠ [] := List.length_pos_iff.1 hx0
        have hnp : (x.length : Int) ≠ 0 := by omega
        clear hk hm
        repeat' (first | (with_reducible (first | apply w_seq | apply w_region | apply w_block | apply w_skip | apply w_exit | apply w_ret | apply w_then | apply w_then_exit | apply w_then_ret | apply w_in | apply w_in_here | apply w_in_ret | apply w_round | apply o_nil | apply d_nil)) | ((with_reducible (first | apply w_in_exit)); rfl) | ((with_reducible (first | apply w_draw)); rfl) | ((first | ((with_reducible (first | apply o_op | apply d_op | apply q_op)); rfl; rfl) | ((with_reducible (first | apply w_cond | apply w_end | apply w_return))) | ((with_reducible (first | apply o_guard | apply d_guard | apply q_guard)); rfl)); all_goals (first | ((with_reducible show Is _ _); ((try simp (disch := first | omega | (simp only [yA, yB, yC, yD, yE] <;> omega) | fail) [go_sem, yF, yG, yH, *, bx_get0, bx_get, bx_set0, bx_set, if_pos, if_neg, -List.map_take, -List.map_drop, -List.map_append, -List.map_reverse]); exact rfl)) | ((fail_if_success (with_reducible show Is _ _)); (first | ((with_reducible refine fun (hc : (_ : Bool) = _) => ?_); (try simp only [xA, xB, xC, xD, xE, xF, xG, xH, reduceCtorEq, xI, xJ, xK, xL, xM, xN, xO, xP, xQ, xR] at hc); (try (have hx : True := hc; clear hx hc)); (try (exfalso; omega)); (try (with_reducible (exact absurd hc (by assumption)))); (try (with_reducible (exact absurd (by assumption) hc)))) | ((fail_if_success (with_reducible show ACall _ _ _ _ _)); (try ((with_reducible show _ ∨ _); first | exact .inl rfl | (refine .inr ⟨rfl, ?_, ?_⟩; (focus (repeat (first | exact trivial | refine ⟨.inl rfl, ?_⟩ | refine ⟨.inr rfl, ?_⟩))); (first | exact trivial | exact rfl))))))))))
        obtain ⟨u, hu⟩ : ∃ u, x.take k ++ y :: x.drop (k + 1) = u := ⟨_, rfl⟩
        have hul0 : u.length = x.length := by rw [← hu]; simp; omega
        have hul : u.length < 1000 := by omega
        rw [bytes_mid, hu]
        clear hu hk1 hk2 hm1 hm2 hy hml hkl hne hnp
        rw [← hul0] at hx0
        repeat' (first | (with_reducible (first | apply w_seq | apply w_region | apply w_block | apply w_skip | apply w_exit | apply w_ret | apply w_then | apply w_then_exit | apply w_then_ret | apply w_in | apply w_in_here | apply w_in_ret | apply w_round | apply o_nil | apply d_nil)) | ((with_reducible (first | apply w_in_exit)); rfl) | ((with_reducible (first | apply w_draw)); rfl) | ((first | ((with_reducible (first | apply o_op | apply d_op | apply q_op)); rfl; rfl) | ((with_reducible (first | apply w_cond | apply w_end | apply w_return))) | ((with_reducible (first | apply o_guard | apply d_guard | apply q_guard)); rfl)); all_goals (first | ((with_reducible show Is _ _); ((try simp (disch := first | omega | (simp only [yA, yB, yC, yD, yE] <;> omega) | fail) [go_sem, yF, yG, yH, *, bx_get0, bx_get, bx_set0, bx_set, if_pos, if_neg, -List.map_take, -List.map_drop, -List.map_append, -List.map_reverse]); exact rfl)) | ((fail_if_success (with_reducible show Is _ _)); (first | ((with_reducible refine fun (hc : (_ : Bool) = _) => ?_); (try simp only [xA, xB, xC, xD, xE, xF, xG, xH, reduceCtorEq, xI, xJ, xK, xL, xM, xN, xO, xP, xQ, xR] at hc); (try (have hx : True := hc; clear hx hc)); (try (exfalso; omega)); (try (with_reducible (exact absurd hc (by assumption)))); (try (with_reducible (exact absurd (by assumption) hc)))) | ((fail_if_success (with_reducible show ACall _ _ _ _ _)); (try ((with_reducible show _ ∨ _); first | exact .inl rfl | (refine .inr ⟨rfl, ?_, ?_⟩; (focus (repeat (first | exact trivial | refine ⟨.inl rfl, ?_⟩ | refine ⟨.inr rfl, ?_⟩))); (first | exact trivial | exact rfl))))))))))
        refine w_loop (fun fr B => ∃ (Z : List Box) (i R2 : Nat), i ≤ 2 ∧ fr 68 = .int .i64 i ∧ fr 67 = .int .i64 2 ∧ fr 66 = .cview R2 0 2 2 1 ∧ fr 43 = .int .i64 j ∧ fr 42 = .int .i64 4 ∧ fr 41 = .cview R 0 4 4 1 ∧ fr 8 = .ptr 0 0 ∧ fr 9 = .ptr 1 0 ∧ fr 10 = .ptr 2 0 ∧ fr 16 = .ptr n16 0 ∧ fr 17 = .ptr n17 0 ∧ fr 18 = .ptr n18 0 ∧ fr 5 = byteC at_ ∧ fr 6 = byteC by_ ∧ B = B0 ++ Z ∧ (B0 ++ Z)[R2]? = some ⟨[.str x, .str u], false⟩) (fun fr _ => 2 - natOf (fr 68)) ?_ ?_
        · refine ⟨_, 0, _, by omega, by (simp (disch := omega) [go_sem, *]) <;> (try omega), by (simp (disch := omega) [go_sem, *]) <;> (try omega), by rfl, by (simp (disch := omega) [go_sem, *]) <;> (try omega), by (simp (disch := omega) [go_sem, *]) <;> (try omega), by (simp (disch := omega) [go_sem, *]) <;> (try omega), by (simp (disch := omega) [go_sem, *]) <;> (try omega), by (simp (disch := omega) [go_sem, *]) <;> (try omega), by (simp (disch := omega) [go_sem, *]) <;> (try omega), by (simp (disch := omega) [go_sem, *]) <;> (try omega), by (simp (disch := omega) [go_sem, *]) <;> (try omega), by (simp (disch := omega) [go_sem, *]) <;> (try omega), by (simp (disch := omega) [go_sem, *]) <;> (try omega), by (simp (disch := omega) [go_sem, *]) <;> (try omega), rfl, ?_⟩
          first | (simp [bx_get0, bx_get]; done) | (simp [bx_get0, bx_get]; exact ⟨by rw [hx1, hu], hu⟩)
        clear h43 h42 h41 h8 h9 h10 h16 h17 h18 h5 h6 cR hx
        rintro fr B ⟨Z, i, R2, hi, h68, h67, h66, h43, h42, h41, h8, h9, h10, h16, h17, h18, h5, h6, rfl, hR2⟩
        have hm0 : natOf (fr 43) = j := by rw [h43]; rfl
        have hi3 : i = 0 ∨ i = 1 ∨ i = 2 := by omega
        rcases hi3 with rfl | rfl | rfl
        · repeat' (first | (with_reducible (first | apply w_seq | apply w_region | apply w_block | apply w_skip | apply w_exit | apply w_ret | apply w_then | apply w_then_exit | apply w_then_ret | apply w_in | apply w_in_here | apply w_in_ret | apply w_round | apply o_nil | apply d_nil)) | ((with_reducible (first | apply w_in_exit)); rfl) | ((with_reducible (first | apply w_draw)); rfl) | ((first | ((with_reducible (first | apply o_op | apply d_op | apply q_op)); rfl; rfl) | ((with_reducible (first | apply w_cond | apply w_end | apply w_return))) | ((with_reducible (first | apply o_guard | apply d_guard | apply q_guard)); rfl) | ((with_reducible (first | apply o_call_eq | apply d_call | apply q_call)); rfl)); all_goals (first | ((with_reducible show Is _ _); ((try simp (disch := first | omega | (simp only [yA, yB, yC, yD, yE] <;> omega) | fail) [go_sem, yF, yG, yH, *, bx_get0, bx_get, bx_set0, bx_set, if_pos, if_neg, -List.map_take, -List.map_drop, -List.map_append, -List.map_reverse]); exact rfl)) | ((fail_if_success (with_reducible show Is _ _)); (first | ((with_reducible refine fun (hc : (_ : Bool) = _) => ?_); (try simp only [xA, xB, xC, xD, xE, xF, xG, xH, reduceCtorEq, xI, xJ, xK, xL, xM, xN, xO, xP, xQ, xR] at hc); (try (have hx : True := hc; clear hx hc)); (try (exfalso; omega)); (try (with_reducible (exact absurd hc (by assumption)))); (try (with_reducible (exact absurd (by assumption) hc)))) | ((with_reducible show ACall _ _ _ _ _); (first | ((with_reducible (first | apply hrd x hxl)) <;> (first | omega | assumption | exact rfl | ((simp (disch := first | omega | (simp only [yA, yB, yC, yD, yE] <;> omega) | fail) [go_sem, yF, yG, yH, *, bx_get0, bx_get, bx_set0, bx_set, -List.map_take, -List.map_drop, -List.map_append, -List.map_reverse]) <;> (first | done | omega | exact rfl)))))) | ((fail_if_success (with_reducible show ACall _ _ _ _ _)); (try ((with_reducible show _ ∨ _); first | exact .inl rfl | (refine .inr ⟨rfl, ?_, ?_⟩; (focus (repeat (first | exact trivial | refine ⟨.inl rfl, ?_⟩ | refine ⟨.inr rfl, ?_⟩))); (first | exact trivial | exact rfl))))))))))
          exact ⟨⟨Z, 1, R2, by omega, by (simp (disch := omega) [go_sem, *]) <;> (try omega), by (simp (disch := omega) [go_sem, *]) <;> (try omega), by (simp (disch := omega) [go_sem, *]) <;> (try omega), by (simp (disch := omega) [go_sem, *]) <;> (try omega), by (simp (disch := omega) [go_sem, *]) <;> (try omega), by (simp (disch := omega) [go_sem, *]) <;> (try omega), by (simp (disch := omega) [go_sem, *]) <;> (try omega), by (simp (disch := omega) [go_sem, *]) <;> (try omega), by (simp (disch := omega) [go_sem, *]) <;> (try omega), by (simp (disch := omega) [go_sem, *]) <;> (try omega), by (simp (disch := omega) [go_sem, *]) <;> (try omega), by (simp (disch := omega) [go_sem, *]) <;> (try omega), by (simp (disch := omega) [go_sem, *]) <;> (try omega), by (simp (disch := omega) [go_sem, *]) <;> (try omega), rfl, hR2⟩, by (simp (disch := omega) [go_sem, *]) <;> (try omega)⟩
        · repeat' (first | (with_reducible (first | apply w_seq | apply w_region | apply w_block | apply w_skip | apply w_exit | apply w_ret | apply w_then | apply w_then_exit | apply w_then_ret | apply w_in | apply w_in_here | apply w_in_ret | apply w_round | apply o_nil | apply d_nil)) | ((with_reducible (first | apply w_in_exit)); rfl) | ((with_reducible (first | apply w_draw)); rfl) | ((first | ((with_reducible (first | apply o_op | apply d_op | apply q_op)); rfl; rfl) | ((with_reducible (first | apply w_cond | apply w_end | apply w_return))) | ((with_reducible (first | apply o_guard | apply d_guard | apply q_guard)); rfl) | ((with_reducible (first | apply o_call_eq | apply d_call | apply q_call)); rfl)); all_goals (first | ((with_reducible show Is _ _); ((try simp (disch := first | omega | (simp only [yA, yB, yC, yD, yE] <;> omega) | fail) [go_sem, yF, yG, yH, *, bx_get0, bx_get, bx_set0, bx_set, if_pos, if_neg, -List.map_take, -List.map_drop, -List.map_append, -List.map_reverse]); exact rfl)) | ((fail_if_success (with_reducible show Is _ _)); (first | ((with_reducible refine fun (hc : (_ : Bool) = _) => ?_); (try simp only [xA, xB, xC, xD, xE, xF, xG, xH, reduceCtorEq, xI, xJ, xK, xL, xM, xN, xO, xP, xQ, xR] at hc); (try (have hx : True := hc; clear hx hc)); (try (exfalso; omega)); (try (with_reducible (exact absurd hc (by assumption)))); (try (with_reducible (exact absurd (by assumption) hc)))) | ((with_reducible show ACall _ _ _ _ _); (first | ((with_reducible (first | apply hrd u hul)) <;> (first | omega | assumption | exact rfl | ((simp (disch := first | omega | (simp only [yA, yB, yC, yD, yE] <;> omega) | fail) [go_sem, yF, yG, yH, *, bx_get0, bx_get, bx_set0, bx_set, -List.map_take, -List.map_drop, -List.map_append, -List.map_reverse]) <;> (first | done | omega | exact rfl)))))) | ((fail_if_success (with_reducible show ACall _ _ _ _ _)); (try ((with_reducible show _ ∨ _); first | exact .inl rfl | (refine .inr ⟨rfl, ?_, ?_⟩; (focus (repeat (first | exact trivial | refine ⟨.inl rfl, ?_⟩ | refine ⟨.inr rfl, ?_⟩))); (first | exact trivial | exact rfl))))))))))
          exact ⟨⟨Z, 2, R2, by omega, by (simp (disch := omega) [go_sem, *]) <;> (try omega), by (simp (disch := omega) [go_sem, *]) <;> (try omega), by (simp (disch := omega) [go_sem, *]) <;> (try omega), by (simp (disch := omega) [go_sem, *]) <;> (try omega), by (simp (disch := omega) [go_sem, *]) <;> (try omega), by (simp (disch := omega) [go_sem, *]) <;> (try omega), by (simp (disch := omega) [go_sem, *]) <;> (try omega), by (simp (disch := omega) [go_sem, *]) <;> (try omega), by (simp (disch := omega) [go_sem, *]) <;> (try omega), by (simp (disch := omega) [go_sem, *]) <;> (try omega), by (simp (disch := omega) [go_sem, *]) <;> (try omega), by (simp (disch := omega) [go_sem, *]) <;> (try omega), by (simp (disch := omega) [go_sem, *]) <;> (try omega), by (simp (disch := omega) [go_sem, *]) <;> (try omega), rfl, hR2⟩, by (simp (disch := omega) [go_sem, *]) <;> (try omega)⟩
        · clear hR2
          repeat' (first | (with_reducible (first | apply w_seq | apply w_region | apply w_block | apply w_skip | apply w_exit | apply w_ret | apply w_then | apply w_then_exit | apply w_then_ret | apply w_in | apply w_in_here | apply w_in_ret | apply w_round | apply o_nil | apply d_nil)) | ((with_reducible (first | apply w_in_exit)); rfl) | ((with_reducible (first | apply w_draw)); rfl) | ((first | ((with_reducible (first | apply o_op | apply d_op | apply q_op)); rfl; rfl) | ((with_reducible (first | apply w_cond | apply w_end | apply w_return))) | ((with_reducible (first | apply o_guard | apply d_guard | apply q_guard)); rfl)); all_goals (first | ((with_reducible show Is _ _); ((try simp (disch := first | omega | (simp only [yA, yB, yC, yD, yE] <;> omega) | fail) [go_sem, yF, yG, yH, *, if_pos, if_neg, -List.map_take, -List.map_drop, -List.map_append, -List.map_reverse]); exact rfl)) | ((fail_if_success (with_reducible show Is _ _)); (first | ((with_reducible refine fun (hc : (_ : Bool) = _) => ?_); (try simp only [xA, xB, xC, xD, xE, xF, xG, xH, reduceCtorEq, xI, xJ, xK, xL, xM, xN, xO, xP, xQ, xR] at hc); (try (have hx : True := hc; clear hx hc)); (try (exfalso; omega)); (try (with_reducible (exact absurd hc (by assumption)))); (try (with_reducible (exact absurd (by assumption) hc)))) | ((fail_if_success (with_reducible show ACall _ _ _ _ _)); (try ((with_reducible show _ ∨ _); first | exact .inl rfl | (refine .inr ⟨rfl, ?_, ?_⟩; (focus (repeat (first | exact trivial | refine ⟨.inl rfl, ?_⟩ | refine ⟨.inr rfl, ?_⟩))); (first | exact trivial | exact rfl))))))))))
          obtain ⟨b0, b1, b2, b16, b17, b18⟩ := bb
          exact ⟨⟨B0, Z, j + 1, n16, n17, n18, R, by omega, by (simp (disch := omega) [go_sem, *]) <;> (try omega), by (simp (disch := omega) [go_sem, *]) <;> (try omega), by (simp (disch := omega) [go_sem, *]) <;> (try omega), by (simp (disch := omega) [go_sem, *]) <;> (try omega), by (simp (disch := omega) [go_sem, *]) <;> (try omega), by (simp (disch := omega) [go_sem, *]) <;> (try omega), by (simp (disch := omega) [go_sem, *]) <;> (try omega), by (simp (disch := omega) [go_sem, *]) <;> (try omega), by (simp (disch := omega) [go_sem, *]) <;> (try omega), by (simp (disch := omega) [go_sem, *]) <;> (try omega), by (simp (disch := omega) [go_sem, *]) <;> (try omega), rfl, b0, b1, b2, b16, b17, b18, bR⟩, by (simp (disch := omega) [go_sem, *]) <;> (try omega)⟩
      · obtain ⟨u, hu⟩ : ∃ u : List UInt8, u = [] := ⟨_, rfl⟩
        have hx1 : x = u := by rw [hu]; exact List.eq_nil_of_length_eq_zero (by omega)
        have hul : u.length < 1000 := by rw [hu]; decide
        have hul0 : x.length = 0 := by omega
        repeat' (first | (with_reducible (first | apply w_seq | apply w_region | apply w_block | apply w_skip | apply w_exit | apply w_ret | apply w_then | apply w_then_exit | apply w_then_ret | apply w_in | apply w_in_here | apply w_in_ret | apply w_round | apply o_nil | apply d_nil)) | ((with_reducible (first | apply w_in_exit)); rfl) | ((with_reducible (first | apply w_draw)); rfl) | ((first | ((with_reducible (first | apply o_op | apply d_op | apply q_op)); rfl; rfl) | ((with_reducible (first | apply w_cond | apply w_end | apply w_return))) | ((with_reducible (first | apply o_guard | apply d_guard | apply q_guard)); rfl)); all_goals (first | ((with_reducible show Is _ _); ((try simp (disch := first | omega | (simp only [yA, yB, yC, yD, yE] <;> omega) | fail) [go_sem, yF, yG, yH, *, bx_get0, bx_get, bx_set0, bx_set, if_pos, if_neg, -List.map_take, -List.map_drop, -List.map_append, -List.map_reverse]); exact rfl)) | ((fail_if_success (with_reducible show Is _ _)); (first | ((with_reducible refine fun (hc : (_ : Bool) = _) => ?_); (try simp only [xA, xB, xC, xD, xE, xF, xG, xH, reduceCtorEq, xI, xJ, xK, xL, xM, xN, xO, xP, xQ, xR] at hc); (try (have hx : True := hc; clear hx hc)); (try (exfalso; omega)); (try (with_reducible (exact absurd hc (by assumption)))); (try (with_reducible (exact absurd (by assumption) hc)))) | ((fail_if_success (with_reducible show ACall _ _ _ _ _)); (try ((with_reducible show _ ∨ _); first | exact .inl rfl | (refine .inr ⟨rfl, ?_, ?_⟩; (focus (repeat (first | exact trivial | refine ⟨.inl rfl, ?_⟩ | refine ⟨.inr rfl, ?_⟩))); (first | exact trivial | exact rfl))))))))))
        refine w_loop (fun fr B => ∃ (Z : List Box) (i R2 : Nat), i ≤ 2 ∧ fr 68 = .int .i64 i ∧ fr 67 = .int .i64 2 ∧ fr 66 = .cview R2 0 2 2 1 ∧ fr 43 = .int .i64 j ∧ fr 42 = .int .i64 4 ∧ fr 41 = .cview R 0 4 4 1 ∧ fr 8 = .ptr 0 0 ∧ fr 9 = .ptr 1 0 ∧ fr 10 = .ptr 2 0 ∧ fr 16 = .ptr n16 0 ∧ fr 17 = .ptr n17 0 ∧ fr 18 = .ptr n18 0 ∧ fr 5 = byteC at_ ∧ fr 6 = byteC by_ ∧ B = B0 ++ Z ∧ (B0 ++ Z)[R2]? = some ⟨[.str x, .str u], false⟩) (fun fr _ => 2 - natOf (fr 68)) ?_ ?_
        · refine ⟨_, 0, _, by omega, by (simp (disch := omega) [go_sem, *]) <;> (try omega), by (simp (disch := omega) [go_sem, *]) <;> (try omega), by rfl, by (simp (disch := omega) [go_sem, *]) <;> (try omega), by (simp (disch := omega) [go_sem, *]) <;> (try omega), by (simp (disch := omega) [go_sem, *]) <;> (try omega), by (simp (disch := omega) [go_sem, *]) <;> (try omega), by (simp (disch := omega) [go_sem, *]) <;> (try omega), by (simp (disch := omega) [go_sem, *]) <;> (try omega), by (simp (disch := omega) [go_sem, *]) <;> (try omega), by (simp (disch := omega) [go_sem, *]) <;> (try omega), by (simp (disch := omega) [go_sem, *]) <;> (try omega), by (simp (disch := omega) [go_sem, *]) <;> (try omega), by (simp (disch := omega) [go_sem, *]) <;> (try omega), rfl, ?_⟩
          first | (simp [bx_get0, bx_get]; done) | (simp [bx_get0, bx_get]; exact ⟨by rw [hx1, hu], hu⟩)
        clear h43 h42 h41 h8 h9 h10 h16 h17 h18 h5 h6 cR hx
        rintro fr B ⟨Z, i, R2, hi, h68, h67, h66, h43, h42, h41, h8, h9, h10, h16, h17, h18, h5, h6, rfl, hR2⟩
        have hm0 : natOf (fr 43) = j := by rw [h43]; rfl
        have hi3 : i = 0 ∨ i = 1 ∨ i = 2 := by omega
        rcases hi3 with rfl | rfl | rfl
        · repeat' (first | (with_reducible (first | apply w_seq | apply w_region | apply w_block | apply w_skip | apply w_exit | apply w_ret | apply w_then | apply w_then_exit | apply w_then_ret | apply w_in | apply w_in_here | apply w_in_ret | apply w_round | apply o_nil | apply d_nil)) | ((with_reducible (first | apply w_in_exit)); rfl) | ((with_reducible (first | apply w_draw)); rfl) | ((first | ((with_reducible (first | apply o_op | apply d_op | apply q_op)); rfl; rfl) | ((with_reducible (first | apply w_cond | apply w_end | apply w_return))) | ((with_reducible (first | apply o_guard | apply d_guard | apply q_guard)); rfl) | ((with_reducible (first | apply o_call_eq | apply d_call | apply q_call)); rfl)); all_goals (first | ((with_reducible show Is _ _); ((try simp (disch := first | omega | (simp only [yA, yB, yC, yD, yE] <;> omega) | fail) [go_sem, yF, yG, yH, *, bx_get0, bx_get, bx_set0, bx_set, if_pos, if_neg, -List.map_take, -List.map_drop, -List.map_append, -List.map_reverse]); exact rfl)) | ((fail_if_success (with_reducible show Is _ _)); (first | ((with_reducible refine fun (hc : (_ : Bool) = _) => ?_); (try simp only [xA, xB, xC, xD, xE, xF, xG, xH, reduceCtorEq, xI, xJ, xK, xL, xM, xN, xO, xP, xQ, xR] at hc); (try (have hx : True := hc; clear hx hc)); (try (exfalso; omega)); (try (with_reducible (exact absurd hc (by assumption)))); (try (with_reducible (exact absurd (by assumption) hc)))) | ((with_reducible show ACall _ _ _ _ _); (first | ((with_reducible (first | apply hrd x hxl)) <;> (first | omega | assumption | exact rfl | ((simp (disch := first | omega | (simp only [yA, yB, yC, yD, yE] <;> omega) | fail) [go_sem, yF, yG, yH, *, bx_get0, bx_get, bx_set0, bx_set, -List.map_take, -List.map_drop, -List.map_append, -List.map_reverse]) <;> (first | done | omega | exact rfl)))))) | ((fail_if_success (with_reducible show ACall _ _ _ _ _)); (try ((with_reducible show _ ∨ _); first | exact .inl rfl | (refine .inr ⟨rfl, ?_, ?_⟩; (focus (repeat (first | exact trivial | refine ⟨.inl rfl, ?_⟩ | refine ⟨.inr rfl, ?_⟩))); (first | exact trivial | exact rfl))))))))))
          exact ⟨⟨Z, 1, R2, by omega, by (simp (disch := omega) [go_sem, *]) <;> (try omega), by (simp (disch := omega) [go_sem, *]) <;> (try omega), by (simp (disch := omega) [go_sem, *]) <;> (try omega), by (simp (disch := omega) [go_sem, *]) <;> (try omega), by (simp (disch := omega) [go_sem, *]) <;> (try omega), by (simp (disch := omega) [go_sem, *]) <;> (try omega), by (simp (disch := omega) [go_sem, *]) <;> (try omega), by (simp (disch := omega) [go_sem, *]) <;> (try omega), by (simp (disch := omega) [go_sem, *]) <;> (try omega), by (simp (disch := omega) [go_sem, *]) <;> (try omega), by (simp (disch := omega) [go_sem, *]) <;> (try omega), by (simp (disch := omega) [go_sem, *]) <;> (try omega), by (simp (disch := omega) [go_sem, *]) <;> (try omega), by (simp (disch := omega) [go_sem, *]) <;> (try omega), rfl, hR2⟩, by (simp (disch := omega) [go_sem, *]) <;> (try omega)⟩
        · repeat' (first | (with_reducible (first | apply w_seq | apply w_region | apply w_block | apply w_skip | apply w_exit | apply w_ret | apply w_then | apply w_then_exit | apply w_then_ret | apply w_in | apply w_in_here | apply w_in_ret | apply w_round | apply o_nil | apply d_nil)) | ((with_reducible (first | apply w_in_exit)); rfl) | ((with_reducible (first | apply w_draw)); rfl) | ((first | ((with_reducible (first | apply o_op | apply d_op | apply q_op)); rfl; rfl) | ((with_reducible (first | apply w_cond | apply w_end | apply w_return))) | ((with_reducible (first | apply o_guard | apply d_guard | apply q_guard)); rfl) | ((with_reducible (first | apply o_call_eq | apply d_call | apply q_call)); rfl)); all_goals (first | ((with_reducible show Is _ _); ((try simp (disch := first | omega | (simp only [yA, yB, yC, yD, yE] <;> omega) | fail) [go_sem, yF, yG, yH, *, bx_get0, bx_get, bx_set0, bx_set, if_pos, if_neg, -List.map_take, -List.map_drop, -List.map_append, -List.map_reverse]); exact rfl)) | ((fail_if_success (with_reducible show Is _ _)); (first | ((with_reducible refine fun (hc : (_ : Bool) = _) => ?_); (try simp only [xA, xB, xC, xD, xE, xF, xG, xH, reduceCtorEq, xI, xJ, xK, xL, xM, xN, xO, xP, xQ, xR] at hc); (try (have hx : True := hc; clear hx hc)); (try (exfalso; omega)); (try (with_reducible (exact absurd hc (by assumption)))); (try (with_reducible (exact absurd (by assumption) hc)))) | ((with_reducible show ACall _ _ _ _ _); (first | ((with_reducible (first | apply hrd u hul)) <;> (first | omega | assumption | exact rfl | ((simp (disch := first | omega | (simp only [yA, yB, yC, yD, yE] <;> omega) | fail) [go_sem, yF, yG, yH, *, bx_get0, bx_get, bx_set0, bx_set, -List.map_take, -List.map_drop, -List.map_append, -List.map_reverse]) <;> (first | done | omega | exact rfl)))))) | ((fail_if_success (with_reducible show ACall _ _ _ _ _)); (try ((with_reducible show _ ∨ _); first | exact .inl rfl | (refine .inr ⟨rfl, ?_, ?_⟩; (focus (repeat (first | exact trivial | refine ⟨.inl rfl, ?_⟩ | refine ⟨.inr rfl, ?_⟩))); (first | exact trivial | exact rfl))))))))))
          exact ⟨⟨Z, 2, R2, by omega, by (simp (disch := omega) [go_sem, *]) <;> (try omega), by (simp (disch := omega) [go_sem, *]) <;> (try omega), by (simp (disch := omega) [go_sem, *]) <;> (try omega), by (simp (disch := omega) [go_sem, *]) <;> (try omega), by (simp (disch := omega) [go_sem, *]) <;> (try omega), by (simp (disch := omega) [go_sem, *]) <;> (try omega), by (simp (disch := omega) [go_sem, *]) <;> (try omega), by (simp (disch := omega) [go_sem, *]) <;> (try omega), by (simp (disch := omega) [go_sem, *]) <;> (try omega), by (simp (disch := omega) [go_sem, *]) <;> (try omega), by (simp (disch := omega) [go_sem, *]) <;> (try omega), by (simp (disch := omega) [go_sem, *]) <;> (try omega), by (simp (disch := omega) [go_sem, *]) <;> (try omega), by (simp (disch := omega) [go_sem, *]) <;> (try omega), rfl, hR2⟩, by (simp (disch := omega) [go_sem, *]) <;> (try omega)⟩
        · clear hR2
          repeat' (first | (with_reducible (first | apply w_seq | apply w_region | apply w_block | apply w_skip | apply w_exit | apply w_ret | apply w_then | apply w_then_exit | apply w_then_ret | apply w_in | apply w_in_here | apply w_in_ret | apply w_round | apply o_nil | apply d_nil)) | ((with_reducible (first | apply w_in_exit)); rfl) | ((with_reducible (first | apply w_draw)); rfl) | ((first | ((with_reducible (first | apply o_op | apply d_op | apply q_op)); rfl; rfl) | ((with_reducible (first | apply w_cond | apply w_end | apply w_return))) | ((with_reducible (first | apply o_guard | apply d_guard | apply q_guard)); rfl)); all_goals (first | ((with_reducible show Is _ _); ((try simp (disch := first | omega | (simp only [yA, yB, yC, yD, yE] <;> omega) | fail) [go_sem, yF, yG, yH, *, if_pos, if_neg, -List.map_take, -List.map_drop, -List.map_append, -List.map_reverse]); exact rfl)) | ((fail_if_success (with_reducible show Is _ _)); (first | ((with_reducible refine fun (hc : (_ : Bool) = _) => ?_); (try simp only [xA, xB, xC, xD, xE, xF, xG, xH, reduceCtorEq, xI, xJ, xK, xL, xM, xN, xO, xP, xQ, xR] at hc); (try (have hx : True := hc; clear hx hc)); (try (exfalso; omega)); (try (with_reducible (exact absurd hc (by assumption)))); (try (with_reducible (exact absurd (by assumption) hc)))) | ((fail_if_success (with_reducible show ACall _ _ _ _ _)); (try ((with_reducible show _ ∨ _); first | exact .inl rfl | (refine .inr ⟨rfl, ?_, ?_⟩; (focus (repeat (first | exact trivial | refine ⟨.inl rfl, ?_⟩ | refine ⟨.inr rfl, ?_⟩))); (first | exact trivial | exact rfl))))))))))
          obtain ⟨b0, b1, b2, b16, b17, b18⟩ := bb
          exact ⟨⟨B0, Z, j + 1, n16, n17, n18, R, by omega, by (simp (disch := omega) [go_sem, *]) <;> (try omega), by (simp (disch := omega) [go_sem, *]) <;> (try omega), by (simp (disch := omega) [go_sem, *]) <;> (try omega), by (simp (disch := omega) [go_sem, *]) <;> (try omega), by (simp (disch := omega) [go_sem, *]) <;> (try omega), by (simp (disch := omega) [go_sem, *]) <;> (try omega), by (simp (disch := omega) [go_sem, *]) <;> (try omega), by (simp (disch := omega) [go_sem, *]) <;> (try omega), by (simp (disch := omega) [go_sem, *]) <;> (try omega), by (simp (disch := omega) [go_sem, *]) <;> (try omega), by (simp (disch := omega) [go_sem, *]) <;> (try omega), rfl, b0, b1, b2, b16, b17, b18, bR⟩, by (simp (disch := omega) [go_sem, *]) <;> (try omega)⟩
    · obtain rfl : j = 4 := by omega
      have c0 := b0 Z
      have c1 := b1 Z
      have c2 := b2 Z
      have c16 := b16 Z
      have c17 := b17 Z
      have c18 := b18 Z
      clear b0 b1 b2 b16 b17 b18 bR hTl hT4
      generalize B0 ++ Z = B at *
      repeat' (first | (with_reducible (first | apply w_seq | apply w_region | apply w_block | apply w_skip | apply w_exit | apply w_ret | apply w_then | apply w_then_exit | apply w_then_ret | apply w_in | apply w_in_here | apply w_in_ret | apply w_round | apply o_nil | apply d_nil)) | ((with_reducible (first | apply w_in_exit)); rfl) | ((with_reducible (first | apply w_draw)); rfl) | ((first | ((with_reducible (first | apply o_op | apply d_op | apply q_op)); rfl; rfl) | ((with_reducible (first | apply w_cond | apply w_end | apply w_return))) | ((with_reducible (first | apply o_guard | apply d_guard | apply q_guard)); rfl) | ((with_reducible (first | apply o_call_eq | apply d_call | apply q_call)); rfl)); all_goals (first | ((with_reducible show Is _ _); ((try simp (disch := first | omega | (simp only [yA, yB, yC, yD, yE] <;> omega) | fail) [go_sem, yF, yG, yH, *, if_pos, if_neg, -List.map_take, -List.map_drop, -List.map_append, -List.map_reverse]); exact rfl)) | ((fail_if_success (with_reducible show Is _ _)); (first | ((with_reducible refine fun (hc : (_ : Bool) = _) => ?_); (try simp only [xA, xB, xC, xD, xE, xF, xG, xH, reduceCtorEq, xI, xJ, xK, xL, xM, xN, xO, xP, xQ, xR] at hc); (try (have hx : True := hc; clear hx hc)); (try (exfalso; omega)); (try (with_reducible (exact absurd hc (by assumption)))); (try (with_reducible (exact absurd (by assumption) hc)))) | ((with_reducible show ACall _ _ _ _ _); (first | ((with_reducible (first | apply w1)) <;> (first | omega | assumption | exact rfl | ((simp (disch := first | omega | (simp only [yA, yB, yC, yD, yE] <;> omega) | fail) [go_sem, yF, yG, yH, *, -List.map_take, -List.map_drop, -List.map_append, -List.map_reverse]) <;> (first | done | omega | exact rfl)))) | ((with_reducible (first | apply w2)) <;> (first | omega | assumption | exact rfl | ((simp (disch := first | omega | (simp only [yA, yB, yC, yD, yE] <;> omega) | fail) [go_sem, yF, yG, yH, *, -List.map_take, -List.map_drop, -List.map_append, -List.map_reverse]) <;> (first | done | omega | exact rfl)))) | ((with_reducible (first | apply w3)) <;> (first | omega | assumption | exact rfl | ((simp (disch := first | omega | (simp only [yA, yB, yC, yD, yE] <;> omega) | fail) [go_sem, yF, yG, yH, *, -List.map_take, -List.map_drop, -List.map_append, -List.map_reverse]) <;> (first | done | omega | exact rfl)))) | ((with_reducible (first | apply x1)) <;> (first | omega | assumption | exact rfl | ((simp (disch := first | omega | (simp only [yA, yB, yC, yD, yE] <;> omega) | fail) [go_sem, yF, yG, yH, *, -List.map_take, -List.map_drop, -List.map_append, -List.map_reverse]) <;> (first | done | omega | exact rfl)))) | ((with_reducible (first | apply x2)) <;> (first | omega | assumption | exact rfl | ((simp (disch := first | omega | (simp only [yA, yB, yC, yD, yE] <;> omega) | fail) [go_sem, yF, yG, yH, *, -List.map_take, -List.map_drop, -List.map_append, -List.map_reverse]) <;> (first | done | omega | exact rfl)))) | ((with_reducible (first | apply x3)) <;> (first | omega | assumption | exact rfl | ((simp (disch := first | omega | (simp only [yA, yB, yC, yD, yE] <;> omega) | fail) [go_sem, yF, yG, yH, *, -List.map_take, -List.map_drop, -List.map_append, -List.map_reverse]) <;> (first | done | omega | exact rfl)))) | ((with_reducible (first | apply y1)) <;> (first | omega | assumption | exact rfl | ((simp (disch := first | omega | (simp only [yA, yB, yC, yD, yE] <;> omega) | fail) [go_sem, yF, yG, yH, *, -List.map_take, -List.map_drop, -List.map_append, -List.map_reverse]) <;> (first | done | omega | exact rfl)))) | ((with_reducible (first | apply y2)) <;> (first | omega | assumption | exact rfl | ((simp (disch := first | omega | (simp only [yA, yB, yC, yD, yE] <;> omega) | fail) [go_sem, yF, yG, yH, *, -List.map_take, -List.map_drop, -List.map_append, -List.map_reverse]) <;> (first | done | omega | exact rfl)))) | ((with_reducible (first | apply y3)) <;> (first | omega | assumption | exact rfl | ((simp (disch := first | omega | (simp only [yA, yB, yC, yD, yE] <;> omega) | fail) [go_sem, yF, yG, yH, *, -List.map_take, -List.map_drop, -List.map_append, -List.map_reverse]) <;> (first | done | omega | exact rfl)))) | ((with_reducible (first | apply z1)) <;> (first | omega | assumption | exact rfl | ((simp (disch := first | omega | (simp only [yA, yB, yC, yD, yE] <;> omega) | fail) [go_sem, yF, yG, yH, *, -List.map_take, -List.map_drop, -List.map_append, -List.map_reverse]) <;> (first | done | omega | exact rfl)))) | ((with_reducible (first | apply z2)) <;> (first | omega | assumption | exact rfl | ((simp (disch := first | omega | (simp only [yA, yB, yC, yD, yE] <;> omega) | fail) [go_sem, yF, yG, yH, *, -List.map_take, -List.map_drop, -List.map_append, -List.map_reverse]) <;> (first | done | omega | exact rfl)))) | ((with_reducible (first | apply z3)) <;> (first | omega | assumption | exact rfl | ((simp (disch := first | omega | (simp only [yA, yB, yC, yD, yE] <;> omega) | fail) [go_sem, yF, yG, yH, *, -List.map_take, -List.map_drop, -List.map_append, -List.map_reverse]) <;> (first | done | omega | exact rfl)))) | ((with_reducible (first | apply hbg)) <;> (first | omega | assumption | exact rfl | ((simp (disch := first | omega | (simp only [yA, yB, yC, yD, yE] <;> omega) | fail) [go_sem, yF, yG, yH, *, -List.map_take, -List.map_drop, -List.map_append, -List.map_reverse]) <;> (first | done | omega | exact rfl)))))) | ((fail_if_success (with_reducible show ACall _ _ _ _ _)); (try ((with_reducible show _ ∨ _); first | exact .inl rfl | (refine .inr ⟨rfl, ?_, ?_⟩; (focus (repeat (first | exact trivial | refine ⟨.inl rfl, ?_⟩ | refine ⟨.inr rfl, ?_⟩))); (first | exact trivial | exact rfl))))))))))
      all_goals rfl
end Go.Proofs.YtdceppjoipoohaaDoor
end
section
namespace Go.Sy
set_option linter.all false
open Go.RowKit (Below)
open Go.ChangeShapes Go.WideShapes
section
variable {H : Type} {enc : TypeId × Value → H} {P : Program} {W : World} {base : Nat} {held : Bool}
def Old (W : World) : Nat → Nat → Prop := fun b _ => b < W.heap.size
theorem fz_true {fr nz : Bool} {B : List Box} {k : Nat} {c : CV} {t : Bool} (h : fz nz fr B k c = some (.bool t)) : c = .bool t := by
  cases k with
  | zero => simp [fz] at h
  | succ k =>
    cases c <;> simp only [fz] at h
    case bool b => simpa using h
    case nilS => cases nz <;> simp at h
    case view => split at h <;> simp at h
    case cview => split at h <;> simp at h
    case ptr => split at h <;> (try split at h) <;> simp at h
    case lst => split at h <;> simp at h
    case iptr => split at h <;> simp at h
    case fn => split at h <;> simp at h
    all_goals simp at h
theorem PC.calls {fr : Bool} {f : FuncId} {args : List CV} {vs : List Value} (h : PC P fr f args (.bool true)) (hv : R (Old W) [] W false args vs) (ht : TabsOk (Old W) W) : Calls P f vs.toArray W fun e w' => e = .returned (.bool true) ∧ Below W.heap.size W w' := by
  refine (h.2 W.heap.size (Old W) [] W vs (BRel.none_ W _ (fun _ _ h => h) ht) hv).mono fun e w' ⟨c, v, B', I', μ', he, hQ, hs⟩ => ?_
  have := fz_true hQ
  subst this
  exact ⟨by rw [he, hs.val.bool_inv], hs.below⟩
theorem byte_of_wf {n : Int} (h : (Lit.int .u8 n).wf = true) : ∃ b : UInt8, n = b.toNat := by
  have := bounds_u8 h
  exact ⟨UInt8.ofNat n.toNat, by simp; omega⟩
theorem bytes_cells : ∀ (vs : List Value), (∀ v ∈ vs, ∃ n, v = .int .u8 n ∧ (Lit.int .u8 n).wf = true) → ∃ l : List UInt8, vs = l.map fun b => .int .u8 (b.toNat : Int)
  | [], _ => ⟨[], rfl⟩
  | v :: vs, h => by
    obtain ⟨n, rfl, hn⟩ := h v (by simp)
    obtain ⟨b, rfl⟩ := byte_of_wf hn
    obtain ⟨l, rfl⟩ := bytes_cells vs fun v hv => h v (by simp [hv])
    exact ⟨b :: l, rfl⟩
theorem R_bytes (I : Nat → Nat → Prop) (μ : List (List Place)) (w : World) (one : Bool) : ∀ l : List UInt8, R I μ w one (l.map byteC) (l.map fun b => .int .u8 (b.toNat : Int))
  | [] => .nil _
  | b :: l => .int _ _ (R_bytes I μ w one l)
theorem open_bytes {r : Reach} {b0 : Nat} {t e : TypeId} {v : Value} {d : DataW H} {ps : List MemPlace} (ht : P.underlying t = some (.slice e)) (he : P.underlying e = some (.int .u8)) (hc : P.cellsOf e = 1)
    (hval : Value.okWide P W r b0 t v) (hd : DataW.Trod enc P W base (fun _ => true) held t v d ps) : ∃ l : List UInt8, l.length ≤ maxLen ∧ V (Old W) [] W (lb l) v := by
  obtain ⟨a0, len0, cap0, rfl⟩ := okWide_slice ht hval
  obtain ⟨fuel, hf⟩ := hd
  rcases open_ints ht he hc hf with ⟨hcs, _⟩ | ⟨x, l, c, zs, hcs, _, hl, hm, hz, _, hcell, hwz⟩
  · simp [Value.cells] at hcs
    obtain ⟨rfl, rfl, rfl⟩ := hcs
    exact ⟨[], by simp, .lstE _ _ (.nil _)⟩
  · simp [Value.cells] at hcs
    obtain ⟨rfl, rfl, rfl⟩ := hcs
    simp only [if_true] at hz
    by_cases hc0 : cap0 = 0
    · subst hc0
      obtain rfl : len0 = 0 := by omega
      exact ⟨[], by simp, .lstE _ _ (.nil _)⟩
    · obtain ⟨b, off, spot⟩ := x
      have hspot : spot = none := by simpa [Addr.add] using World.cell?_spot (hcell 0 (by omega))
      subst hspot
      obtain ⟨bl, hbl⟩ := bytes_cells ((zs.take len0).map (Value.int .u8)) fun v hv => by
        obtain ⟨n, hn, rfl⟩ := List.mem_map.1 hv
        exact ⟨n, rfl, hwz n (List.mem_of_mem_take hn)⟩
      have hlen : bl.length = len0 := by
        have := congrArg List.length hbl
        simp at this; omega
      refine ⟨bl, by omega, ?_⟩
      rw [lb, hlen]
      refine .lst len0 false b off cap0 (R_bytes _ _ _ _ bl) (fun j v hj => ?_) hl (fun h => by cases h) (.nil _)
      rw [← hbl] at hj
      have hjl : j < len0 := by have := (List.getElem?_eq_some_iff.1 hj).1; simp at this; omega
      have h1 := hcell j (by omega)
      rw [show Addr.add ⟨b, off, none⟩ j = ⟨b, off + j, none⟩ by unfold Addr.add; split <;> simp_all] at h1
      have h2 : v = .int .u8 (zs.getD j 0) := by
        rw [List.getElem?_map, List.getElem?_take_of_lt hjl, List.getElem?_eq_getElem (by omega)] at hj
        simp at hj
        rw [← hj, List.getD_eq_getElem?_getD, List.getElem?_eq_getElem (by omega)]; rfl
      subst h2
      refine ⟨h1, ?_⟩
      unfold World.cell? at h1
      show b < W.heap.size
      rcases Nat.lt_or_ge b W.heap.size with hb | hb
      · exact hb
      · have : W.heap[b]? = none := Array.getElem?_eq_none hb
        simp [this] at h1
theorem open_str {r : Reach} {b0 : Nat} {t : TypeId} {v : Value} {d : DataW H} {ps : List MemPlace} (ht : P.underlying t = some .string) (hval : Value.okWide P W r b0 t v) (hd : DataW.Trod enc P W base (fun _ => true) held t v d ps) :
    ∃ l : List UInt8, l.length ≤ maxLen ∧ V (Old W) [] W (.str l) v := by
  obtain ⟨s, rfl, _, _, hs⟩ := Go.ChangeMaps.open_string ht hval hd
  refine ⟨s.data.toList, by simpa using hs, ?_⟩
  exact .str s.data.toList (.nil _)
theorem open_i {r : Reach} {b0 : Nat} {t : TypeId} {k : IntKind} {v : Value} {d : DataW H} {ps : List MemPlace} (ht : P.underlying t = some (.int k)) (hval : Value.okWide P W r b0 t v) (hd : DataW.Trod enc P W base (fun _ => true) held t v d ps) :
    ∃ n, (Lit.int k n).wf = true ∧ V (Old W) [] W (.int k n) v := by
  obtain ⟨n, rfl, _, _, hw⟩ := ChangeShapes.open_int ht hval hd
  exact ⟨n, hw, .int _ _ (.nil _)⟩
theorem open_byte {r : Reach} {b0 : Nat} {t : TypeId} {v : Value} {d : DataW H} {ps : List MemPlace} (ht : P.underlying t = some (.int .u8)) (hval : Value.okWide P W r b0 t v) (hd : DataW.Trod enc P W base (fun _ => true) held t v d ps) :
    ∃ b : UInt8, V (Old W) [] W (byteC b) v := by
  obtain ⟨n, hw, h⟩ := open_i ht hval hd
  obtain ⟨b, rfl⟩ := byte_of_wf hw
  exact ⟨b, h⟩
theorem V_cons {I : Nat → Nat → Prop} {μ : List (List Place)} {w : World} {c : CV} {v : Value} {cs : List CV} {vs : List Value} (h : V I μ w c v) (hs : R I μ w false cs vs) : R I μ w false (c :: cs) (v :: vs) := .cons h (by simp) hs
end
end Go.Sy
end
section
namespace Go.Sy
set_option linter.all false
open Go.RowKit (Below)
open Go.ChangeShapes Go.WideShapes
section
variable {H : Type} {enc : TypeId × Value → H} {P : Program} {W : World} {base : Nat} {held : Bool}
def Opn (enc : TypeId × Value → H) (P : Program) (W : World) (base : Nat) (held : Bool) (t : TypeId) {α : Type} (f : α → List CV) (ok : α → Prop) : Prop :=
  ∀ (fuel : Nat) (cs : List Value) (x : DataW H × List MemPlace), DataW.trod enc P W base (fun _ => true) held fuel t cs = some x → ∃ a, ok a ∧ R (Old W) [] W true (f a) cs
theorem Opn.mono {t : TypeId} {α : Type} {f : α → List CV} {ok ok' : α → Prop} (h : Opn enc P W base held t f ok) (hk : ∀ a, ok a → ok' a) : Opn enc P W base held t f ok' := fun fuel cs x hx =>
  let ⟨a, h1, h2⟩ := h fuel cs x hx; ⟨a, hk a h1, h2⟩
theorem opn_int {t : TypeId} {k : IntKind} (ht : P.underlying t = some (.int k)) : Opn enc P W base held t (fun n => [.int k n]) (fun n => (Lit.int k n).wf = true) := fun fuel cs x hx => by
  obtain ⟨n, rfl, _, hw⟩ := DataW.trod_int ht hx
  exact ⟨n, hw, .int _ _ (.nil _)⟩
theorem opn_i64 {t : TypeId} (ht : P.underlying t = some (.int .i64)) : Opn enc P W base held t (fun n => [.int .i64 n]) (fun n => -9223372036854775808 ≤ n ∧ n ≤ 9223372036854775807) := (opn_int ht).mono fun _ h => bounds_i64 h
theorem opn_bool {t : TypeId} (ht : P.underlying t = some .bool) : Opn enc P W base held t (fun b : Bool => [.bool b]) (fun _ => True) := fun fuel cs x hx => by
  obtain ⟨b, rfl, _⟩ := DataW.trod_bool ht hx
  exact ⟨b, trivial, .bool _ (.nil _)⟩
theorem opn_byteArray {t e : TypeId} {n : Nat} (hu : P.underlying t = some (.array n e)) (he : P.underlying e = some (.int .u8)) (hc : P.cellsOf e = 1) (hn : P.cellsOf t = n) : Opn enc P W base held t (fun l : List UInt8 => l.map byteC) (fun l => l.length = n) := fun fuel cs x hx => by
  obtain ⟨xs, m, rfl, _, hl, hx, hi⟩ := DataW.trod_array hu hx
  obtain ⟨l, hl'⟩ := bytes_cells cs fun v hv => by
    obtain ⟨i, hi1, hi2⟩ := List.mem_iff_getElem.1 hv
    have hin : i < n := by rw [← hn, ← hl]; exact hi1
    have := hi i hin
    rw [hc, List.getElem?_eq_getElem (by omega), Nat.mul_one] at this
    rw [show (cs.drop i).take 1 = [v] from by rw [List.drop_eq_getElem_cons hi1, hi2]; rfl] at this
    obtain ⟨k, h1, h2, h3⟩ := DataW.trod_int he this
    simp at h1
    exact ⟨k, h1, h3⟩
  refine ⟨l, ?_, by rw [hl']; exact R_bytes _ _ _ _ l⟩
  show l.length = n
  have := congrArg List.length hl'
  simp only [List.length_map] at this
  rw [← this, hl, hn]
inductive OpnF (enc : TypeId × Value → H) (P : Program) (W : World) (base : Nat) (held : Bool) : (off : Nat) → List Field → {α : Type} → (α → List CV) → (α → Prop) → Prop
  | one {off : Nat} {f : Field} {α : Type} {g : α → List CV} {ok : α → Prop} (h0 : f.offset = off) (h : Opn enc P W base held f.type g ok) : OpnF enc P W base held off [f] g ok
  | cons {off n : Nat} {f : Field} {fs : List Field} {α β : Type} {g : α → List CV} {ok : α → Prop} {g' : β → List CV} {ok' : β → Prop} (h0 : f.offset = off) (hc : P.cellsOf f.type = n) (h : Opn enc P W base held f.type g ok)
      (hs : OpnF enc P W base held (off + n) fs g' ok') : OpnF enc P W base held off (f :: fs) (fun p : α × β => g p.1 ++ g' p.2) (fun p => ok p.1 ∧ ok' p.2)
theorem opnF {fuel : Nat} {cs : List Value} {off : Nat} {fs : List Field} {α : Type} {g : α → List CV} {ok : α → Prop} (h : OpnF enc P W base held off fs g ok) (hx : ∀ f ∈ fs, ∃ y, DataW.trod enc P W base (fun _ => true) held fuel f.type ((cs.drop f.offset).take (P.cellsOf f.type)) = some y)
    (hl : ∀ f, fs.getLast? = some f → cs.length = f.offset + P.cellsOf f.type) : ∃ a, ok a ∧ R (Old W) [] W true (g a) (cs.drop off) := by
  induction h with
  | @one off f α g ok h0 h =>
    obtain ⟨y, hy⟩ := hx f (by simp)
    have hl := hl f rfl
    rw [h0] at hy hl
    obtain ⟨a, h1, h2⟩ := h _ _ _ hy
    refine ⟨a, h1, ?_⟩
    rwa [List.take_of_length_le (by rw [List.length_drop]; omega)] at h2
  | @cons off n f fs α β g ok g' ok' h0 hc h hs ih =>
    obtain ⟨y, hy⟩ := hx f (by simp)
    rw [h0, hc] at hy
    obtain ⟨a, h1, h2⟩ := h _ _ _ hy
    obtain ⟨b, h3, h4⟩ := ih (fun f hf => hx f (by simp [hf])) (fun f' hf' => hl f' (by
      cases fs with
      | nil => simp at hf'
      | cons f1 fs => rw [List.getLast?_cons_cons]; exact hf'))
    refine ⟨(a, b), ⟨h1, h3⟩, ?_⟩
    rw [← List.take_append_drop n (cs.drop off), List.drop_drop]
    exact h2.append h4
theorem opn_struct {t : TypeId} {fs : Array Field} {l : List Field} {f : Field} {α : Type} {g : α → List CV} {ok : α → Prop} (ht : P.underlying t = some (.struct fs)) (hl : fs.toList = l) (hf : l.getLast? = some f) (hn : P.cellsOf t = f.offset + P.cellsOf f.type) (h : OpnF enc P W base held 0 l g ok) : Opn enc P W base held t g ok := fun fuel cs x hx => by
  obtain ⟨xs, n, rfl, _, hlen, hxs, hi⟩ := DataW.trod_struct ht hx
  have := opnF (fuel := n) (cs := cs) h (fun f hf => by
    obtain ⟨i, hi1, hi2⟩ := List.mem_iff_getElem.1 hf
    have hfi : fs[i]? = some f := by rw [← Array.getElem?_toList, hl, List.getElem?_eq_getElem hi1, hi2]
    have hil : i < xs.length := by rw [hxs]; exact (Array.getElem?_eq_some_iff.1 hfi).1
    exact ⟨xs[i], by rw [hi i f hfi, List.getElem?_eq_getElem hil]⟩) (fun f' hf' => by
    rw [hf] at hf'; cases hf'; rw [hlen, hn])
  simpa using this
theorem open_agg {r : Reach} {b0 : Nat} {t : TypeId} {fs : Array Field} {v : Value} {d : DataW H} {ps : List MemPlace} {α : Type} {g : α → List CV} {ok : α → Prop} (ht : P.underlying t = some (.struct fs)) (h : Opn enc P W base held t g ok)
    (hval : Value.okWide P W r b0 t v) (hd : DataW.Trod enc P W base (fun _ => true) held t v d ps) : ∃ a, ok a ∧ V (Old W) [] W (.agg (g a)) v := by
  obtain ⟨cs, rfl, _⟩ := okWide_struct ht hval
  obtain ⟨fuel, hf⟩ := hd
  obtain ⟨a, h1, h2⟩ := h _ _ _ hf
  exact ⟨a, h1, .agg (bs := cs.toList) h2 (.nil _)⟩
end
end Go.Sy
end
section
namespace Go.Proofs.YtdceppjoipoohaaDoor
open Go Go.Sy
set_option linter.all false
set_option maxRecDepth 100000
set_option maxHeartbeats 4000000
theorem tab_reads {W : World} {n : String} {g : Nat} {k : IntKind} {zs : List Int} {t e : TypeId} {m : Nat} (hg : Tryd.prog.globalNamed n = some g) (hty : (Tryd.prog.globals[g]?).map (·.type) = some t) (ht : Tryd.prog.underlying t = some (.array m e)) (he : Tryd.prog.underlying e = some (.int k)) (hce : Tryd.prog.cellsOf e = 1) (hct : Tryd.prog.cellsOf t = m) (hz : 0 < zs.length) (h : Go.Lib.VarReads Tryd.prog W n (Go.Lib.tabData k zs)) : ∀ j : Nat, W.cell? ⟨g, j, none⟩ = (zs[j]?).map (.int k) ∧ Old W g j := by
  obtain ⟨g', t', cs, fuel, p, hg', ht', hvar, hd⟩ := h
  obtain rfl := Option.some.inj (hg.symm.trans hg')
  obtain rfl := Option.some.inj (hty.symm.trans ht')
  have hc := Go.Lib.cells_of_tab ht he hce hct hd
  have hcell : ∀ j : Nat, W.cell? ⟨g, j, none⟩ = (zs[j]?).map (.int k) := fun j => by
    rw [World.var?_cell hg hvar j, ← Array.getElem?_toList, hc, List.getElem?_map]
  refine fun j => ⟨hcell j, ?_⟩
  have h0 := hcell 0
  rw [List.getElem?_eq_getElem hz] at h0
  show g < W.heap.size
  rcases Nat.lt_or_ge g W.heap.size with h | h
  · exact h
  · unfold World.cell? at h0
    rw [show W.heap[(⟨g, 0, Option.none⟩ : Addr).block]? = Option.none from Array.getElem?_eq_none h] at h0
    cases h0
theorem int_lives {W : World} {g : Nat} {k : IntKind} (h : ∃ m, W.cell? ⟨g, 0, none⟩ = some (.int k m)) : Old W g 0 := by
  obtain ⟨m, h0⟩ := h
  show g < W.heap.size
  rcases Nat.lt_or_ge g W.heap.size with h | h
  · exact h
  · unfold World.cell? at h0
    rw [show W.heap[(⟨g, 0, Option.none⟩ : Addr).block]? = Option.none from Array.getElem?_eq_none h] at h0
    cases h0
theorem tabs_of {W : World} (hS : W.ShapedOpen Tryd.prog) (hL : laidMet Tryd.prog [("math/bits.deBruijn32tab", Rows.laid_math_bits_deBruijn32tab), ("math/bits.deBruijn64tab", Rows.laid_math_bits_deBruijn64tab), ("internal/strconv.uint64pow10", Rows.laid_internal_strconv_uint64pow10), ("unicode/utf8.acceptRanges", Rows.laid_unicode_utf8_acceptRanges), ("unicode/utf8.first", Rows.laid_unicode_utf8_first)] W) : TabsOk (Old W) W := by
  constructor
  · intro g k zs hg
    unfold tab at hg
    split at hg
    · obtain ⟨rfl, rfl⟩ := Prod.mk.inj (Option.some.inj hg)
      exact tab_reads (t := 135) (by kernel_rfl) (by kernel_rfl) Tryd.underlying135 Tryd.underlying122 (by kernel_rfl) (by kernel_rfl) (by decide) (Go.Lib.laidMet.reads hL (n := "internal/strconv.uint64pow10") (.tail _ (.tail _ (.head _))))
    · obtain ⟨rfl, rfl⟩ := Prod.mk.inj (Option.some.inj hg)
      exact tab_reads (t := 51) (by kernel_rfl) (by kernel_rfl) Tryd.underlying51 Tryd.underlying5 (by kernel_rfl) (by kernel_rfl) (by decide) (Go.Lib.laidMet.reads hL (n := "math/bits.deBruijn32tab") (.head _))
    · obtain ⟨rfl, rfl⟩ := Prod.mk.inj (Option.some.inj hg)
      exact tab_reads (t := 142) (by kernel_rfl) (by kernel_rfl) Tryd.underlying142 Tryd.underlying5 (by kernel_rfl) (by kernel_rfl) (by decide) (Go.Lib.laidMet.reads hL (n := "math/bits.deBruijn64tab") (.tail _ (.head _)))
    · cases hg
  · intro g hg
    obtain rfl : g = 0 := by simpa [tabInts] using hg
    have h : ∃ m, W.cell? ⟨0, 0, none⟩ = some (.int .i64 m) := cell_of_shapedOpen_int (t := 3) hS (by decide +kernel) (zero := #[.int .i64 0]) (by kernel_rfl) rfl (by kernel_rfl) (by kernel_rfl) Tryd.underlying3
    exact ⟨int_lives h, h⟩
theorem handed_laid {H : Type} {enc : TypeId × Value → H} {C : Checked} {os : Os} {f : FuncId} {fn : Func} {s : ChangeSpec} {conds : List PathCond} {apart fresh handsOn again : Bool} {X : World → Array Value → Prop}
    (hX : ∀ (w w' : World) (args : Array Value), w.heap = w'.heap → X w args → X w' args)
    (own : ownKnob C.prog.godebug = none) (started : os.Started) (noInit : C.prog.inits.idxOf? f = none) (hfn : C.prog.funcs[f]? = some fn)
    (witness : ∃ (w : World) (tape : Tape) (i : Input), w.os = os ∧ (w.forCall tape i).Shaped C.prog ∧ i.vars = [] ∧ Input.okWide C.prog (w.forCall tape i) .any w.heap.size f i ∧
      ((s.pre enc C.prog fn conds apart (w.forCall tape i).memory i.args ∧ X (w.forCall tape i).memory i.args) ∧ sizedMet enc C.prog fn (OpenSpec.ofChange s) apart (w.forCall tape i).memory i.args) ∧ Assume.holds {} C.prog (lone (Frame.enter C.prog f i.args .normal) [] (w.forCall tape i)))
    (contract : ∀ (W : World) (base : Nat) (args : Array Value) (ds gs : List (DataW H)) (before : List MemPlace),
      (∀ (j : Nat) t v, fn.params[j]? = some t → args[j]? = some v → Value.okWide C.prog W .any base t v) →
      DataW.Whole enc C.prog fn.params.toList s.vars apart W args.toList ds gs before → W.ShapedOpen C.prog → X W args →
      Calls C.prog f args W fun e W' => ∃ v, e = .returned v ∧ s.post enc C.prog fn apart fresh handsOn again W args v W') :
    ReturnsInHanded {} C os f .any (fun w args => (s.pre enc C.prog fn conds apart w args ∧ X w args) ∧ sizedMet enc C.prog fn (OpenSpec.ofChange s) apart w args) (s.post enc C.prog fn apart fresh handsOn again) := by
  refine returnsInHanded_of_calls own started noInit witness ?_
  intro w tape i _ hsh _ hok hpre _
  obtain ⟨_, _, _, fn', hfn', _, _, _, _, hval⟩ := hok
  have e : fn' = fn := Option.some.inj (hfn'.symm.trans hfn)
  subst e
  obtain ⟨⟨⟨ds, gs, before, hw, hc⟩, hx⟩, hz⟩ := hpre
  have hw' := DataW.Whole.of_heap (w' := w.forCall tape i) (by rfl) hw
  refine (contract (w.forCall tape i) w.heap.size i.args ds gs before hval hw' hsh (hX _ _ _ (by rfl) hx)).mono fun e W' ⟨v, he, hp⟩ => ?_
  subst he
  exact ChangeSpec.post_blind hp
end Go.Proofs.YtdceppjoipoohaaDoor
end
