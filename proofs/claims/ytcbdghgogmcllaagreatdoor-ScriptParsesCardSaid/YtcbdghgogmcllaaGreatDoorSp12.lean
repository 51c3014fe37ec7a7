/- Lemmas and definitions of this claim (own texts, joined by a program; what the claim does not use is left out). -/
import Derived.Test.YtcbdghgogmcllaaGreatDoorSp11
import Derived.OpenShut
import Derived.ShutString
import Derived.ChangeOld
import Derived.Below
import Derived.ProofKit
import Derived.Test.YtcbdghgogmcllaaGreatDoorRows
import Derived.Lib.LaidU8
import Derived.Shelf.Vars
import Derived.Lay
import Derived.LaidOnce
import Derived.LaidLaws
import Derived.SizedLaws
set_option linter.all false
set_option maxRecDepth 100000
set_option maxHeartbeats 4000000
section
namespace Go.Proofs.YtcbdghgogmcllaaGreatDoor
open Go Go.Sy
theorem kE_L20 {α : Type} {x y : α} (h : Is x y := by first | ((try simp (disch := first | omega | (simp only [yZ, yB] <;> omega) | fail) [go_sem, yY, *, lb, if_pos, if_neg, -List.map_take, -List.map_drop, -List.map_append, -List.map_reverse]); exact rfl) | fail) : Is x y := h
theorem kD_L20 {p : Prop} (h : p := by (first | omega | assumption | exact rfl | ((simp (disch := first | omega | (simp only [yZ, yB] <;> omega) | fail) [go_sem, yY, *, lb, -List.map_take, -List.map_drop, -List.map_append, -List.map_reverse]) <;> (first | done | omega | exact rfl)) | fail)) : p := h
theorem wB_L20 {p q : Prop} (k : q) (h : Hq q → p := by (intro k; (repeat' (first | (with_reducible first | apply jA | apply jB | apply jC | apply jD | apply jE | apply jF | apply jG | apply jH | apply jI | apply jJ | apply jK | apply jL | apply jM | apply jN | apply jO) | ((with_reducible first | apply jP | apply jQ); rfl) | ((first | ((with_reducible first | apply jR | apply jS | apply jT); rfl; rfl) | (with_reducible first | apply jU | apply jV | apply jW) | ((with_reducible first | apply jX | apply jY | apply jZ); rfl) | ((with_reducible first | apply kA | apply kB | apply kC); rfl)); all_goals (first | ((with_reducible show Is _ _); exact kE_L20) | ((with_reducible refine fun (hc : (_ : Bool) = _) => ?_); (try simp only [xZ, xY, xP, reduceCtorEq] at hc); (try (have hx : True := hc; clear hx hc)); (try exact kX)) | ((with_reducible show ACall _ _ _ _ _); (first | ((with_reducible apply c0) <;> exact kD_L20) | ((with_reducible apply c1) <;> exact kD_L20) | ((with_reducible apply c2) <;> exact kD_L20) | ((with_reducible apply c3) <;> exact kD_L20) | ((with_reducible apply c4) <;> exact kD_L20) | ((with_reducible apply c5) <;> exact kD_L20) | ((with_reducible apply c6) <;> exact kD_L20) | ((with_reducible apply c7) <;> exact kD_L20))) | ((fail_if_success (with_reducible first | show Is _ _ | show ACall _ _ _ _ _)); (try ((with_reducible show _ ∨ _); exact kT))))) | (((with_reducible first | apply o_callQ | apply q_callQ); rfl); (iterate 2 exact kE_L20); (first | ((with_reducible apply q0) <;> exact kD_L20))))); exact hq k)) : p := h ⟨k⟩
theorem w_L200q {A0 p q : Prop} (q0 : A0) (k : q) (h : A0 → Hq q → p := by (intro q0 k; exact wB_L20 (hq k))) : p := h q0 ⟨k⟩
theorem both_parse {x : List UInt8} (hx : x.length < 1000000) : ∃ (n : Nat) (C : List CV) (k g : Int), (∀ {nz : Bool} {B : List Box} {k : Nat}, omap (Go.Sy.fz nz false B (k + 3)) C = some C) ∧
    (∀ {B : List Box} {args : List CV}, Is args [.str x] → ACall Tryz.prog 9 args B fun c B' => c = .tup [.lst n C false, .int .i64 k, .int .i64 g] ∧ B' = B) ∧
    (∀ {B : List Box} {args : List CV}, Is args [.str x] → ACall Tryz.prog 10 args B fun c B' => c = .tup [.lst n C false, .int .i64 k, .int .i64 g] ∧ B' = B) ∧
    (∀ {B : List Box} {args : List CV}, Is (omap (fz true false B 6) args) (some [.lst n C false, .lst n C false]) → ACall Tryz.prog 11 args B fun c B' => c = .bool true ∧ B' = B) := by
  refine ⟨(parV x).1.length, (parV x).1.flatMap acC, (parV x).2.1, (parV x).2.2, acs_om _, fun h => sParse_at h hx, fun h => ?_, fun hz => sameAll_at hz rfl rfl (par_L hx) (par_L hx) (by have := par_len x; omega) (by have := par_len x; omega) (by simp)⟩
  obtain rfl := h
  rw [par_eq]
  exact acall_imm (nz := true) (by simp [go_sem]) (rpar_in x hx)
def wordsL : List (List UInt8) := [[112, 108, 97, 105, 110, 32], [100, 97, 116, 97, 103, 114, 97, 109, 32, 49, 46, 50, 46, 51, 46, 52, 58, 53, 32], [116, 105, 99, 107, 32], [101, 110, 116, 114, 111, 112, 121, 32], [99, 111, 110, 116, 114, 111, 108, 32], [104, 97, 110, 100, 111, 102, 102, 32, 49, 32, 50, 32], [112, 105, 99, 107, 32, 48, 32], [97, 98, 111, 114, 116, 32], [107, 105, 108, 108, 32], [99, 111, 114, 114, 117, 112, 116, 32, 49, 32, 50, 32], [99, 117, 116, 32, 49, 32]]
theorem ScriptParses_in (codes : List UInt8) (at_ : Int) (by_ what : UInt8) (s : List UInt8) (hcl : codes.length ≤ maxLen) (ha : 0 ≤ at_ ∧ at_ ≤ 65535) (hs : s.length ≤ maxLen) : PC Tryz.prog true 3 [lb codes, .int .u16 at_, byteC by_, byteC what, .str s] (.bool true) := by
  have hm' : (maxLen : Nat) = 9223372036854775807 := by rfl
  have hmade : ∀ {B : List Box} {args : List CV}, Is args [.lst codes.length (codes.map byteC) false] → ACall Tryz.prog 7 args B fun c B' => (∃ L : List Ac, L.length ≤ 16 ∧ (∀ x ∈ L, AcN x) ∧ c = .lst L.length (L.flatMap acC) false) ∧ B' = B := fun {B args} h => made_at codes (by omega) h
  have hbg : ∀ {B : List Box} {args : List CV}, Is (omap (fz true false B 6) args) (some []) → ACall Tryz.prog 12 args B fun c B' => c = .bool true ∧ B' = B := fun h => begun_at h
  obtain ⟨ha0, ha1⟩ := ha
  refine acall_intro mixed Tryz.func3 rfl ca3 (by kernel_rfl) (by rw [Tryz.ntmps3]; simp) ?_
  refine w_cut (fun fr W => fr 0 = lb codes ∧ fr 1 = .int .u16 at_ ∧ fr 2 = byteC by_ ∧ fr 3 = byteC what ∧ fr 4 = .str s ∧ W = []) ?_ ?_
  · refine w0 ?_ 
    exact ⟨kS, kS, kS, kS, kS, rfl⟩
  rintro fr W ⟨f0, f1, f2, f3, f4, rfl⟩
  refine w_cut (fun fr W => ∃ S : List UInt8, S.length ≤ 48000 ∧ fr 11 = .str S ∧ fr 1 = .int .u16 at_ ∧ fr 2 = byteC by_ ∧ fr 3 = byteC what ∧ fr 4 = .str s ∧ W = []) ?_ ?_
  · refine w_L200q @hmade ?_ 
    rintro _ _ ⟨⟨L, hL, hLN, rfl⟩, rfl⟩
    have hLs : ∀ a ∈ L, AcS a := fun a h => (hLN a h).s
    have hfm : ∀ {B : List Box} {args : List CV}, Is (omap (fz true false B 6) args) (some [.lst L.length (L.flatMap acC) false]) → ACall Tryz.prog 6 args B fun c B' => c = .tup [.str (catS L), .int .i64 0] ∧ B' = B := fun hz => by
      have := rformat_in L hLs (by omega)
      rw [← fmt_eq, fmt_norm (fun a h => (hLN a h).norm) (by omega)] at this
      exact acall_fresh hz this
    have hSl := catG_len hLN
    have hSl2 : (catS L).length ≤ 48000 := by omega
    have hoo : ∀ {nz : Bool} {B : List Box} {k : Nat}, omap (Go.Sy.fz nz false B (k + 3)) (L.flatMap acC) = some (L.flatMap acC) := acs_om L
    clear hLs hLN hSl
    generalize L.flatMap acC = LC at *
    generalize catS L = S at *
    generalize L.length = ln at *
    refine w1 @hfm ?_ 
    exact ⟨S, hSl2, kS, kS, kS, kS, kS, rfl⟩
  clear f0 f1 f2 f3 f4 fr hmade
  rintro fr W ⟨S, hS, f11, f1, f2, f3, f4, rfl⟩
  refine w_cut (fun fr W => fr 13 = .view 0 0 S.length 1 false ∧ fr 11 = .str S ∧ fr 1 = .int .u16 at_ ∧ fr 2 = byteC by_ ∧ fr 3 = byteC what ∧ fr 4 = .str s ∧ W = [⟨S.map byteC, false⟩]) ?_ ?_
  · refine w0 ?_ 
    exact ⟨kS, kS, kS, kS, kS, kS, rfl⟩
  clear f11 f1 f2 f3 f4 fr
  rintro fr W ⟨f13, f11, f1, f2, f3, f4, rfl⟩
  refine w_cut (fun fr W => ∃ t : List UInt8, t.length = S.length ∧ fr 13 = .view 0 0 t.length 1 false ∧ W = [⟨t.map byteC, false⟩] ∧ fr 11 = .str S ∧ fr 3 = byteC what ∧ fr 4 = .str s) ?_ ?_
  · by_cases h0 : S.length = 0
    · refine w0 ?_ 
      exact ⟨S, rfl, by rw [h0]; (simp (disch := omega) [go_sem, *]) <;> (try omega), rfl, kS, kS, kS⟩
    · obtain ⟨i, hi, hil⟩ : ∃ i : Nat, at_.tmod (S.length : Int) = i ∧ i < S.length := by
        refine ⟨at_.toNat % S.length, ?_, Nat.mod_lt _ (by omega)⟩
        rw [show at_ = ((at_.toNat : Nat) : Int) by omega]
        rfl
      have hi2 : at_ % (S.length : Int) = i := by rw [← hi, Int.tmod_eq_emod_of_nonneg ha0]
      have hbt := by_.toNat_lt
      obtain ⟨q, hqr, hq10⟩ : ∃ q : Nat, ((by_.toNat : Int)).tmod 10 = q ∧ q < 10 := ⟨by_.toNat % 10, rfl, Nat.mod_lt _ (by omega)⟩
      have hq2 : ((by_.toNat : Int)) % 10 = q := by rw [← hqr]; rfl
      have hqc : q = 0 ∨ q = 1 ∨ q = 2 ∨ q = 3 ∨ q = 4 ∨ q = 5 ∨ q = 6 ∨ q = 7 ∨ q = 8 ∨ q = 9 := by omega
      clear hq10
      have e : ∀ c : UInt8, (S.take i ++ c :: S.drop (i + 1)).length = S.length := fun c => by simp; omega
      rcases hqc with rfl | rfl | rfl | rfl | rfl | rfl | rfl | rfl | rfl | rfl
      · refine w0 ?_ 
        exact ⟨S.take i ++ 32 :: S.drop (i + 1), e _, by rw [e]; (simp (disch := omega) [go_sem, *]) <;> (try omega), by rw [List.map_append, List.map_cons], kS, kS, kS⟩
      · refine w0 ?_ 
        exact ⟨S.take i ++ 48 :: S.drop (i + 1), e _, by rw [e]; (simp (disch := omega) [go_sem, *]) <;> (try omega), by rw [List.map_append, List.map_cons], kS, kS, kS⟩
      · refine w0 ?_ 
        exact ⟨S.take i ++ 97 :: S.drop (i + 1), e _, by rw [e]; (simp (disch := omega) [go_sem, *]) <;> (try omega), by rw [List.map_append, List.map_cons], kS, kS, kS⟩
      · refine w0 ?_ 
        exact ⟨S.take i ++ 45 :: S.drop (i + 1), e _, by rw [e]; (simp (disch := omega) [go_sem, *]) <;> (try omega), by rw [List.map_append, List.map_cons], kS, kS, kS⟩
      · refine w0 ?_ 
        exact ⟨S.take i ++ 46 :: S.drop (i + 1), e _, by rw [e]; (simp (disch := omega) [go_sem, *]) <;> (try omega), by rw [List.map_append, List.map_cons], kS, kS, kS⟩
      · refine w0 ?_ 
        exact ⟨S.take i ++ 58 :: S.drop (i + 1), e _, by rw [e]; (simp (disch := omega) [go_sem, *]) <;> (try omega), by rw [List.map_append, List.map_cons], kS, kS, kS⟩
      · refine w0 ?_ 
        exact ⟨S.take i ++ 120 :: S.drop (i + 1), e _, by rw [e]; (simp (disch := omega) [go_sem, *]) <;> (try omega), by rw [List.map_append, List.map_cons], kS, kS, kS⟩
      · refine w0 ?_ 
        exact ⟨S.take i ++ 88 :: S.drop (i + 1), e _, by rw [e]; (simp (disch := omega) [go_sem, *]) <;> (try omega), by rw [List.map_append, List.map_cons], kS, kS, kS⟩
      · refine w0 ?_ 
        exact ⟨S.take i ++ 10 :: S.drop (i + 1), e _, by rw [e]; (simp (disch := omega) [go_sem, *]) <;> (try omega), by rw [List.map_append, List.map_cons], kS, kS, kS⟩
      · refine w0 ?_ 
        exact ⟨S.take i ++ 126 :: S.drop (i + 1), e _, by rw [e]; (simp (disch := omega) [go_sem, *]) <;> (try omega), by rw [List.map_append, List.map_cons], kS, kS, kS⟩
  clear f13 f11 f1 f2 f3 f4 fr
  rintro fr W ⟨t, ht, f13, rfl, f11, f3, f4⟩
  have hsh : ∀ {B : List Box} {args : List CV}, Is args [.str s, .int .i64 40] → ACall Tryz.prog 8 args B fun c B' => c = .str (s.take 40) ∧ B' = B := fun h => shortB_at (n := 40) h rfl hs (by omega)
  have hu : (s.take 40).length ≤ 40 := List.length_take_le _ _
  have htl : t.length ≤ 48000 := by omega
  generalize s.take 40 = u at *
  refine w_cut (fun fr W => fr 4 = .str u ∧ fr 13 = .view 0 0 t.length 1 false ∧ W = [⟨t.map byteC, false⟩] ∧ fr 11 = .str S ∧ fr 3 = byteC what) ?_ ?_
  · refine w1 @hsh ?_ 
    exact ⟨kS, kS, rfl, kS, kS⟩
  clear f13 f11 f3 f4 fr hsh
  rintro fr W ⟨f4, f13, rfl, f11, f3⟩
  refine w_cut (fun fr W => fr 14 = .cview 1 0 11 11 1 ∧ fr 4 = .str u ∧ fr 13 = .view 0 0 t.length 1 false ∧ W = [⟨t.map byteC, false⟩, ⟨wordsL.map .str, false⟩] ∧ fr 11 = .str S ∧ fr 3 = byteC what) ?_ ?_
  · refine w0 ?_ 
    exact ⟨kS, kS, kS, rfl, kS, kS⟩
  clear f13 f11 f3 f4 fr
  rintro fr W ⟨f14, f4, f13, rfl, f11, f3⟩
  have hwt := what.toNat_lt
  obtain ⟨w, hw, hw11⟩ : ∃ w : Nat, ((what.toNat : Int)).tmod 11 = w ∧ w < 11 := ⟨what.toNat % 11, rfl, Nat.mod_lt _ (by omega)⟩
  have hw2 : ((what.toNat : Int)) % 11 = w := by rw [← hw]; rfl
  obtain ⟨y, hy, hyl⟩ : ∃ y : List UInt8, (∀ r, r = (wordsL.map CV.str).drop w → r = .str y :: (wordsL.map CV.str).drop (w + 1)) ∧ y.length ≤ 20 := by
    have hwl : w < wordsL.length := hw11
    refine ⟨wordsL[w], fun r hr => by rw [hr, ← List.map_drop, List.drop_eq_getElem_cons hwl, List.map_cons, List.map_drop], ?_⟩
    have : ∀ x ∈ wordsL, x.length ≤ 20 := by decide
    exact this _ (List.getElem_mem hwl)
  have hy := hy _ rfl
  have hWl : (wordsL.map CV.str).length = 11 := rfl
  generalize wordsL.map CV.str = Ws at *
  have htt : (t.map byteC).take t.length = t.map byteC := List.take_of_length_le (by simp)
  refine w_cut (fun fr W => True) ?_ ?_
  · refine w_cut (fun fr W => ∃ (b0 b1 : Box) (xs : List (List UInt8)), fr 74 = .cview 2 0 7 7 1 ∧ fr 75 = .int .i64 7 ∧ fr 76 = .int .i64 0 ∧ xs.length = 7 ∧ (∀ x ∈ xs, x.length < 1000000) ∧ W = [b0, b1, ⟨xs.map .str, false⟩]) ?_ ?_
    · refine w0 ?_ 
      refine ⟨_, _, [S, t, u, u ++ [10], y ++ (u ++ [10]), S ++ (y ++ [55, 10]), S ++ [10]], kS, kS, kS, rfl, ?_, rfl⟩
      intro x hx
      simp only [List.mem_cons, List.not_mem_nil, or_false] at hx
      rcases hx with rfl | rfl | rfl | rfl | rfl | rfl | rfl
      all_goals (try simp)
      all_goals omega
    clear f14 f4 f13 f11 f3 fr
    rintro fr W ⟨b0, b1, xs, f74, f75, f76, hxl, hxs, rfl⟩
    replace hxs : Hid _ := hxs
    have hXl : (xs.map CV.str).length = 7 := by rw [List.length_map, hxl]
    refine w0 ?_ 
    refine w_loop (fun fr W => ∃ j : Nat, j ≤ 7 ∧ fr 74 = .cview 2 0 7 7 1 ∧ fr 75 = .int .i64 7 ∧ fr 76 = .int .i64 j ∧ W = [b0, b1, ⟨xs.map .str, false⟩]) (fun fr _ => 7 - natOf (fr 76)) ?_ ?_
    · exact ⟨0, by omega, f74, f75, f76, rfl⟩
    clear f74 f75 f76 fr
    rintro fr W ⟨j, hj, f74, f75, f76, rfl⟩
    have hm : natOf (fr 76) = j := by rw [f76]; rfl
    by_cases hc : j < 7
    · have hjx : j < xs.length := by omega
      obtain ⟨x, hx⟩ : ∃ x, xs[j]'hjx = x := ⟨_, rfl⟩
      have hX : (xs.map CV.str).drop j = .str x :: (xs.map CV.str).drop (j + 1) := by rw [← List.map_drop, List.drop_eq_getElem_cons hjx, hx, List.map_cons, List.map_drop]
      obtain ⟨n, C, k, g, ho, hp, hqr, hsm⟩ := both_parse ((show ∀ x ∈ xs, x.length < 1000000 from hxs) x (by rw [← hx]; exact List.getElem_mem hjx))
      clear hx
      generalize xs.map CV.str = X at *
      refine w3 @hp @hqr @hsm ?_ 
      exact ⟨⟨j + 1, by omega, kS, kS, kS, rfl⟩, kS⟩
    · obtain rfl : j = 7 := by omega
      refine w0 ?_ 
      exact trivial
  rintro fr W -
  clear f14 f4 f13 f11 f3
  refine w1 @hbg ?_ 
  rfl
end Go.Proofs.YtcbdghgogmcllaaGreatDoor
end
section
namespace Go.Sy
open Go.RowKit (Below)
open Go.ChangeShapes Go.WideShapes
section
variable {H : Type} {enc : TypeId × Value → H} {P : Program} {W : World} {base : Nat} {held : Bool}
def Old (W : World) : Nat → Nat → Prop := fun b _ => b < W.heap.size
theorem fz_true {fr nz : Bool} {B : List Box} {k : Nat} {c : CV} {t : Bool} (h : fz nz fr B k c = some (.bool t)) : c = .bool t := by
  cases k with
  | zero => simp [fz] at h
  | succ k =>
    cases c <;> simp only [fz] at h
    case bool b => simpa using h
    case nilS => cases nz <;> simp at h
    case view => split at h <;> simp at h
    case cview => split at h <;> simp at h
    case ptr => split at h <;> (try split at h) <;> simp at h
    case lst => split at h <;> simp at h
    case iptr => split at h <;> simp at h
    case fn => split at h <;> simp at h
    case imap => split at h <;> (try split at h) <;> simp at h
    all_goals simp at h
theorem PC.calls {fr : Bool} {f : FuncId} {args : List CV} {vs : List Value} (h : PC P fr f args (.bool true)) (hv : R (Old W) [] W false args vs) (ht : TabsOk (Old W) W) : Calls P f vs.toArray W fun e w' => e = .returned (.bool true) ∧ Below W.heap.size W w' := by
  refine (h.2 W.heap.size (Old W) [] W vs (BRel.none_ W _ (fun _ _ h => h) ht) hv).mono fun e w' ⟨c, v, B', I', μ', he, hQ, hs⟩ => ?_
  have := fz_true hQ
  subst this
  exact ⟨by rw [he, hs.val.bool_inv], hs.below⟩
theorem byte_of_wf {n : Int} (h : (Lit.int .u8 n).wf = true) : ∃ b : UInt8, n = b.toNat := by
  have := bounds_u8 h
  exact ⟨UInt8.ofNat n.toNat, by simp; omega⟩
theorem bytes_cells : ∀ (vs : List Value), (∀ v ∈ vs, ∃ n, v = .int .u8 n ∧ (Lit.int .u8 n).wf = true) → ∃ l : List UInt8, vs = l.map fun b => .int .u8 (b.toNat : Int)
  | [], _ => ⟨[], rfl⟩
  | v :: vs, h => by
    obtain ⟨n, rfl, hn⟩ := h v (by simp)
    obtain ⟨b, rfl⟩ := byte_of_wf hn
    obtain ⟨l, rfl⟩ := bytes_cells vs fun v hv => h v (by simp [hv])
    exact ⟨b :: l, rfl⟩
theorem R_bytes (I : Nat → Nat → Prop) (μ : List (List Place)) (w : World) (one : Bool) : ∀ l : List UInt8, R I μ w one (l.map byteC) (l.map fun b => .int .u8 (b.toNat : Int))
  | [] => .nil _
  | b :: l => .int _ _ (R_bytes I μ w one l)
theorem open_bytes {r : Reach} {b0 : Nat} {t e : TypeId} {v : Value} {d : DataW H} {ps : List MemPlace} (ht : P.underlying t = some (.slice e)) (he : P.underlying e = some (.int .u8)) (hc : P.cellsOf e = 1)
    (hval : Value.okWide P W r b0 t v) (hd : DataW.Trod enc P W base (fun _ => true) held t v d ps) : ∃ l : List UInt8, l.length ≤ maxLen ∧ V (Old W) [] W (lb l) v := by
  obtain ⟨a0, len0, cap0, rfl⟩ := okWide_slice ht hval
  obtain ⟨fuel, hf⟩ := hd
  rcases open_ints ht he hc hf with ⟨hcs, _⟩ | ⟨x, l, c, zs, hcs, _, hl, hm, hz, _, hcell, hwz⟩
  · simp [Value.cells] at hcs
    obtain ⟨rfl, rfl, rfl⟩ := hcs
    exact ⟨[], by simp, .lstE _ _ (.nil _)⟩
  · simp [Value.cells] at hcs
    obtain ⟨rfl, rfl, rfl⟩ := hcs
    simp only [if_true] at hz
    by_cases hc0 : cap0 = 0
    · subst hc0
      obtain rfl : len0 = 0 := by omega
      exact ⟨[], by simp, .lstE _ _ (.nil _)⟩
    · obtain ⟨b, off, spot⟩ := x
      have hspot : spot = none := by simpa [Addr.add] using World.cell?_spot (hcell 0 (by omega))
      subst hspot
      obtain ⟨bl, hbl⟩ := bytes_cells ((zs.take len0).map (Value.int .u8)) fun v hv => by
        obtain ⟨n, hn, rfl⟩ := List.mem_map.1 hv
        exact ⟨n, rfl, hwz n (List.mem_of_mem_take hn)⟩
      have hlen : bl.length = len0 := by
        have := congrArg List.length hbl
        simp at this; omega
      refine ⟨bl, by omega, ?_⟩
      rw [lb, hlen]
      refine .lst len0 false b off cap0 (R_bytes _ _ _ _ bl) (fun j v hj => ?_) hl (fun h => by cases h) (.nil _)
      rw [← hbl] at hj
      have hjl : j < len0 := by have := (List.getElem?_eq_some_iff.1 hj).1; simp at this; omega
      have h1 := hcell j (by omega)
      rw [show Addr.add ⟨b, off, none⟩ j = ⟨b, off + j, none⟩ by unfold Addr.add; split <;> simp_all] at h1
      have h2 : v = .int .u8 (zs.getD j 0) := by
        rw [List.getElem?_map, List.getElem?_take_of_lt hjl, List.getElem?_eq_getElem (by omega)] at hj
        simp at hj
        rw [← hj, List.getD_eq_getElem?_getD, List.getElem?_eq_getElem (by omega)]; rfl
      subst h2
      refine ⟨h1, ?_⟩
      unfold World.cell? at h1
      show b < W.heap.size
      rcases Nat.lt_or_ge b W.heap.size with hb | hb
      · exact hb
      · have : W.heap[b]? = none := Array.getElem?_eq_none hb
        simp [this] at h1
theorem open_str {r : Reach} {b0 : Nat} {t : TypeId} {v : Value} {d : DataW H} {ps : List MemPlace} (ht : P.underlying t = some .string) (hval : Value.okWide P W r b0 t v) (hd : DataW.Trod enc P W base (fun _ => true) held t v d ps) :
    ∃ l : List UInt8, l.length ≤ maxLen ∧ V (Old W) [] W (.str l) v := by
  obtain ⟨s, rfl, _, _, hs⟩ := Go.ChangeMaps.open_string ht hval hd
  refine ⟨s.data.toList, by simpa using hs, ?_⟩
  exact .str s.data.toList (.nil _)
theorem open_i {r : Reach} {b0 : Nat} {t : TypeId} {k : IntKind} {v : Value} {d : DataW H} {ps : List MemPlace} (ht : P.underlying t = some (.int k)) (hval : Value.okWide P W r b0 t v) (hd : DataW.Trod enc P W base (fun _ => true) held t v d ps) :
    ∃ n, (Lit.int k n).wf = true ∧ V (Old W) [] W (.int k n) v := by
  obtain ⟨n, rfl, _, _, hw⟩ := ChangeShapes.open_int ht hval hd
  exact ⟨n, hw, .int _ _ (.nil _)⟩
theorem open_byte {r : Reach} {b0 : Nat} {t : TypeId} {v : Value} {d : DataW H} {ps : List MemPlace} (ht : P.underlying t = some (.int .u8)) (hval : Value.okWide P W r b0 t v) (hd : DataW.Trod enc P W base (fun _ => true) held t v d ps) :
    ∃ b : UInt8, V (Old W) [] W (byteC b) v := by
  obtain ⟨n, hw, h⟩ := open_i ht hval hd
  obtain ⟨b, rfl⟩ := byte_of_wf hw
  exact ⟨b, h⟩
theorem V_cons {I : Nat → Nat → Prop} {μ : List (List Place)} {w : World} {c : CV} {v : Value} {cs : List CV} {vs : List Value} (h : V I μ w c v) (hs : R I μ w false cs vs) : R I μ w false (c :: cs) (v :: vs) := .cons h (by simp) hs
end
end Go.Sy
end
section
namespace Go.Sy
open Go.RowKit (Below)
open Go.ChangeShapes Go.WideShapes
section
variable {H : Type} {enc : TypeId × Value → H} {P : Program} {W : World} {base : Nat} {held : Bool}
def Opn (enc : TypeId × Value → H) (P : Program) (W : World) (base : Nat) (held : Bool) (t : TypeId) {α : Type} (f : α → List CV) (ok : α → Prop) : Prop :=
  ∀ (fuel : Nat) (cs : List Value) (x : DataW H × List MemPlace), DataW.trod enc P W base (fun _ => true) held fuel t cs = some x → ∃ a, ok a ∧ R (Old W) [] W true (f a) cs
inductive OpnF (enc : TypeId × Value → H) (P : Program) (W : World) (base : Nat) (held : Bool) : (off : Nat) → List Field → {α : Type} → (α → List CV) → (α → Prop) → Prop
  | one {off : Nat} {f : Field} {α : Type} {g : α → List CV} {ok : α → Prop} (h0 : f.offset = off) (h : Opn enc P W base held f.type g ok) : OpnF enc P W base held off [f] g ok
  | cons {off n : Nat} {f : Field} {fs : List Field} {α β : Type} {g : α → List CV} {ok : α → Prop} {g' : β → List CV} {ok' : β → Prop} (h0 : f.offset = off) (hc : P.cellsOf f.type = n) (h : Opn enc P W base held f.type g ok)
      (hs : OpnF enc P W base held (off + n) fs g' ok') : OpnF enc P W base held off (f :: fs) (fun p : α × β => g p.1 ++ g' p.2) (fun p => ok p.1 ∧ ok' p.2)
end
end Go.Sy
end
section
namespace Go.Proofs.YtcbdghgogmcllaaGreatDoor
open Go Go.Sy
theorem tab_reads {W : World} {n : String} {g : Nat} {k : IntKind} {zs : List Int} {t e : TypeId} {m : Nat} (hg : Tryz.prog.globalNamed n = some g) (hty : (Tryz.prog.globals[g]?).map (·.type) = some t) (ht : Tryz.prog.underlying t = some (.array m e)) (he : Tryz.prog.underlying e = some (.int k)) (hce : Tryz.prog.cellsOf e = 1) (hct : Tryz.prog.cellsOf t = m) (hz : 0 < zs.length) (h : Go.Lib.VarReads Tryz.prog W n (Go.Lib.tabData k zs)) : ∀ j : Nat, W.cell? ⟨g, j, none⟩ = (zs[j]?).map (.int k) ∧ Old W g j := by
  obtain ⟨g', t', cs, fuel, p, hg', ht', hvar, hd⟩ := h
  obtain rfl := Option.some.inj (hg.symm.trans hg')
  obtain rfl := Option.some.inj (hty.symm.trans ht')
  have hc := Go.Lib.cells_of_tab ht he hce hct hd
  have hcell : ∀ j : Nat, W.cell? ⟨g, j, none⟩ = (zs[j]?).map (.int k) := fun j => by
    rw [World.var?_cell hg hvar j, ← Array.getElem?_toList, hc, List.getElem?_map]
  refine fun j => ⟨hcell j, ?_⟩
  have h0 := hcell 0
  rw [List.getElem?_eq_getElem hz] at h0
  show g < W.heap.size
  rcases Nat.lt_or_ge g W.heap.size with h | h
  · exact h
  · unfold World.cell? at h0
    rw [show W.heap[(⟨g, 0, Option.none⟩ : Addr).block]? = Option.none from Array.getElem?_eq_none h] at h0
    cases h0
theorem int_lives {W : World} {g : Nat} {k : IntKind} (h : ∃ m, W.cell? ⟨g, 0, none⟩ = some (.int k m)) : Old W g 0 := by
  obtain ⟨m, h0⟩ := h
  show g < W.heap.size
  rcases Nat.lt_or_ge g W.heap.size with h | h
  · exact h
  · unfold World.cell? at h0
    rw [show W.heap[(⟨g, 0, Option.none⟩ : Addr).block]? = Option.none from Array.getElem?_eq_none h] at h0
    cases h0
theorem ifs_live {W : World} {n : String} {g : Nat} {nm : String} {d : DataW Unit} {t : TypeId} {ms : Array (String × TypeId)} (hg : Tryz.prog.globalNamed n = some g) (hty : (Tryz.prog.globals[g]?).map (·.type) = some t) (ht : Tryz.prog.underlying t = some (.interface ms)) (h : Go.Lib.VarReads Tryz.prog W n (.iface nm d)) : Old W g 0 ∧ ∃ t p, W.cell? ⟨g, 0, none⟩ = some (.iface t p) := by
  obtain ⟨g', t', cs, fuel, p, hg', ht', hvar, hd⟩ := h
  obtain rfl := Option.some.inj (hg.symm.trans hg')
  obtain rfl := Option.some.inj (hty.symm.trans ht')
  obtain ⟨_, u, v, hcs, _, _⟩ := iface_of_trod ht hd
  have h0 : W.cell? ⟨g, 0, none⟩ = some (.iface u v) := by
    rw [World.var?_cell hg hvar 0, ← Array.getElem?_toList, hcs]; rfl
  refine ⟨?_, u, v, h0⟩
  show g < W.heap.size
  rcases Nat.lt_or_ge g W.heap.size with h | h
  · exact h
  · unfold World.cell? at h0
    rw [show W.heap[(⟨g, 0, Option.none⟩ : Addr).block]? = Option.none from Array.getElem?_eq_none h] at h0
    cases h0
theorem tabs_of {W : World} (hS : W.ShapedOpen Tryz.prog) (hL : laidMet Tryz.prog [("math/bits.deBruijn32tab", Rows.laid_math_bits_deBruijn32tab), ("math/bits.deBruijn64tab", Rows.laid_math_bits_deBruijn64tab), ("internal/strconv.uint64pow10", Rows.laid_internal_strconv_uint64pow10), ("unicode/utf8.acceptRanges", Rows.laid_unicode_utf8_acceptRanges), ("strconv.ErrRange", Rows.laid_strconv_ErrRange), ("strconv.ErrSyntax", Rows.laid_strconv_ErrSyntax), ("unicode/utf8.first", Rows.laid_unicode_utf8_first)] W) : TabsOk (Old W) W := by
  refine ⟨?_, ?_, ?_⟩
  · intro g k zs hg
    unfold tab at hg
    split at hg
    · obtain ⟨rfl, rfl⟩ := Prod.mk.inj (Option.some.inj hg)
      exact tab_reads (t := 196) (by kernel_rfl) (by kernel_rfl) Tryz.underlying196 Tryz.underlying60 (by kernel_rfl) (by kernel_rfl) (by decide) (Go.Lib.laidMet.reads hL (n := "internal/strconv.uint64pow10") (.tail _ (.tail _ (.head _))))
    · obtain ⟨rfl, rfl⟩ := Prod.mk.inj (Option.some.inj hg)
      exact tab_reads (t := 44) (by kernel_rfl) (by kernel_rfl) Tryz.underlying44 Tryz.underlying5 (by kernel_rfl) (by kernel_rfl) (by decide) (Go.Lib.laidMet.reads hL (n := "math/bits.deBruijn32tab") (.head _))
    · obtain ⟨rfl, rfl⟩ := Prod.mk.inj (Option.some.inj hg)
      exact tab_reads (t := 222) (by kernel_rfl) (by kernel_rfl) Tryz.underlying222 Tryz.underlying5 (by kernel_rfl) (by kernel_rfl) (by decide) (Go.Lib.laidMet.reads hL (n := "math/bits.deBruijn64tab") (.tail _ (.head _)))
    · cases hg
  · intro g hg
    obtain rfl : g = 0 := by simpa [tabInts] using hg
    have h : ∃ m, W.cell? ⟨0, 0, none⟩ = some (.int .i64 m) := cell_of_shapedOpen_int (t := 3) hS (by decide +kernel) (zero := #[.int .i64 0]) (by kernel_rfl) rfl (by kernel_rfl) (by kernel_rfl) Tryz.underlying3
    exact ⟨int_lives h, h⟩
  · intro g hg
    have hg : g = 4 ∨ g = 5 := by simpa [tabIfs] using hg
    rcases hg with rfl | rfl
    · exact ifs_live (t := 78) (by kernel_rfl) (by kernel_rfl) Tryz.underlying78 (Go.Lib.laidMet.reads hL (n := "strconv.ErrSyntax") (.tail _ (.tail _ (.tail _ (.tail _ (.tail _ (.head _)))))))
    · exact ifs_live (t := 78) (by kernel_rfl) (by kernel_rfl) Tryz.underlying78 (Go.Lib.laidMet.reads hL (n := "strconv.ErrRange") (.tail _ (.tail _ (.tail _ (.tail _ (.head _))))))
theorem handed_laid {H : Type} {enc : TypeId × Value → H} {C : Checked} {os : Os} {f : FuncId} {fn : Func} {s : ChangeSpec} {conds : List PathCond} {apart fresh handsOn again : Bool} {X : World → Array Value → Prop}
    (hX : ∀ (w w' : World) (args : Array Value), w.heap = w'.heap → X w args → X w' args)
    (own : ownKnob C.prog.godebug = none) (started : os.Started) (noInit : C.prog.inits.idxOf? f = none) (hfn : C.prog.funcs[f]? = some fn)
    (witness : ∃ (w : World) (tape : Tape) (i : Input), w.os = os ∧ (w.forCall tape i).Shaped C.prog ∧ i.vars = [] ∧ Input.okWide C.prog (w.forCall tape i) .any w.heap.size f i ∧
      ((s.pre enc C.prog fn conds apart (w.forCall tape i).memory i.args ∧ X (w.forCall tape i).memory i.args) ∧ sizedMet enc C.prog fn (OpenSpec.ofChange s) apart (w.forCall tape i).memory i.args) ∧ Assume.holds {} C.prog (lone (Frame.enter C.prog f i.args .normal) [] (w.forCall tape i)))
    (contract : ∀ (W : World) (base : Nat) (args : Array Value) (ds gs : List (DataW H)) (before : List MemPlace),
      (∀ (j : Nat) t v, fn.params[j]? = some t → args[j]? = some v → Value.okWide C.prog W .any base t v) →
      DataW.Whole enc C.prog fn.params.toList s.vars apart W args.toList ds gs before → W.ShapedOpen C.prog → X W args →
      Calls C.prog f args W fun e W' => ∃ v, e = .returned v ∧ s.post enc C.prog fn apart fresh handsOn again W args v W') :
    ReturnsInHanded {} C os f .any (fun w args => (s.pre enc C.prog fn conds apart w args ∧ X w args) ∧ sizedMet enc C.prog fn (OpenSpec.ofChange s) apart w args) (s.post enc C.prog fn apart fresh handsOn again) := by
  refine returnsInHanded_of_calls own started noInit witness ?_
  intro w tape i _ hsh _ hok hpre _
  obtain ⟨_, _, _, fn', hfn', _, _, _, _, hval⟩ := hok
  have e : fn' = fn := Option.some.inj (hfn'.symm.trans hfn)
  subst e
  obtain ⟨⟨⟨ds, gs, before, hw, hc⟩, hx⟩, hz⟩ := hpre
  have hw' := DataW.Whole.of_heap (w' := w.forCall tape i) (by rfl) hw
  refine (contract (w.forCall tape i) w.heap.size i.args ds gs before hval hw' hsh (hX _ _ _ (by rfl) hx)).mono fun e W' ⟨v, he, hp⟩ => ?_
  subst he
  exact ChangeSpec.post_blind hp
end Go.Proofs.YtcbdghgogmcllaaGreatDoor
end
