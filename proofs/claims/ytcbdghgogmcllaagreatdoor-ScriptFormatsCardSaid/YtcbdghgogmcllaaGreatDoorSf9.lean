/- Lemmas and definitions of this claim (own texts, joined by a program; what the claim does not use is left out). -/
import Derived.Test.YtcbdghgogmcllaaGreatDoorSf8
import Derived.Lib.AtoiAllCases
import Derived.Lib.ParseIntBTie
set_option linter.all false
set_option maxRecDepth 100000
set_option maxHeartbeats 4000000
section
namespace Go.Proofs.YtcbdghgogmcllaaGreatDoor
open Go Go.Sy
theorem kE_SG0 {α : Type} {x y : α} (h : Is x y := by first | ((try simp (disch := first | omega | (simp only [yZ, yB] <;> omega) | fail) [go_sem, yY, *, lb, if_pos, if_neg, -List.map_take, -List.map_drop, -List.map_append, -List.map_reverse]); exact rfl) | fail) : Is x y := h
theorem kD_SG0 {p : Prop} (h : p := by (first | omega | assumption | exact rfl | ((simp (disch := first | omega | (simp only [yZ, yB] <;> omega) | fail) [go_sem, yY, *, lb, -List.map_take, -List.map_drop, -List.map_append, -List.map_reverse]) <;> (first | done | omega | exact rfl)) | fail)) : p := h
theorem kE_SG1 {α : Type} {x y : α} (h : Is x y := by first | ((try simp (disch := first | omega | (simp only [yZ, yB] <;> omega) | fail) [go_sem, yY, *, evPure_nil Tryz.underlying78, nilEq_nil, if_pos, if_neg, -List.map_take, -List.map_drop, -List.map_append, -List.map_reverse]); exact rfl) | fail) : Is x y := h
theorem kD_SG1 {p : Prop} (h : p := by (first | omega | assumption | exact rfl | ((simp (disch := first | omega | (simp only [yZ, yB] <;> omega) | fail) [go_sem, yY, *, evPure_nil Tryz.underlying78, nilEq_nil, -List.map_take, -List.map_drop, -List.map_append, -List.map_reverse]) <;> (first | done | omega | exact rfl)) | fail)) : p := h
theorem wB_SG0 {p q : Prop} (k : q) (h : Hq q → p := by (intro k; (repeat' (first | (with_reducible first | apply jA | apply jB | apply jC | apply jD | apply jE | apply jF | apply jG | apply jH | apply jI | apply jJ | apply jK | apply jL | apply jM | apply jN | apply jO) | ((with_reducible first | apply jP | apply jQ); rfl) | ((first | ((with_reducible first | apply jR | apply jS | apply jT); rfl; rfl) | (with_reducible first | apply jU | apply jV | apply jW) | ((with_reducible first | apply jX | apply jY | apply jZ); rfl) | ((with_reducible first | apply kA | apply kB | apply kC); rfl)); all_goals (first | ((with_reducible show Is _ _); exact kE_SG0) | ((with_reducible refine fun (hc : (_ : Bool) = _) => ?_); (try simp only [xZ, xY, xP, reduceCtorEq] at hc); (try (have hx : True := hc; clear hx hc)); (try exact kX)) | ((with_reducible show ACall _ _ _ _ _); (first | ((with_reducible apply c0) <;> exact kD_SG0) | ((with_reducible apply c1) <;> exact kD_SG0) | ((with_reducible apply c2) <;> exact kD_SG0) | ((with_reducible apply c3) <;> exact kD_SG0) | ((with_reducible apply c4) <;> exact kD_SG0) | ((with_reducible apply c5) <;> exact kD_SG0) | ((with_reducible apply c6) <;> exact kD_SG0) | ((with_reducible apply c7) <;> exact kD_SG0))) | ((fail_if_success (with_reducible first | show Is _ _ | show ACall _ _ _ _ _)); (try ((with_reducible show _ ∨ _); exact kT))))) | (((with_reducible first | apply o_callQ | apply q_callQ); rfl); (iterate 2 exact kE_SG0); (first | ((with_reducible apply q0) <;> exact kD_SG0))))); exact hq k)) : p := h ⟨k⟩
theorem wB_SG1 {p q : Prop} (k : q) (h : Hq q → p := by (intro k; (repeat' (first | (with_reducible first | apply jA | apply jB | apply jC | apply jD | apply jE | apply jF | apply jG | apply jH | apply jI | apply jJ | apply jK | apply jL | apply jM | apply jN | apply jO) | ((with_reducible first | apply jP | apply jQ); rfl) | ((first | ((with_reducible first | apply jR | apply jS | apply jT); rfl; rfl) | (with_reducible first | apply jU | apply jV | apply jW) | ((with_reducible first | apply jX | apply jY | apply jZ); rfl) | ((with_reducible first | apply kA | apply kB | apply kC); rfl)); all_goals (first | ((with_reducible show Is _ _); exact kE_SG1) | ((with_reducible refine fun (hc : (_ : Bool) = _) => ?_); (try simp only [xZ, xY, xP, reduceCtorEq] at hc); (try (have hx : True := hc; clear hx hc)); (try exact kX)) | ((with_reducible show ACall _ _ _ _ _); (first | ((with_reducible apply c0) <;> exact kD_SG1) | ((with_reducible apply c1) <;> exact kD_SG1) | ((with_reducible apply c2) <;> exact kD_SG1) | ((with_reducible apply c3) <;> exact kD_SG1) | ((with_reducible apply c4) <;> exact kD_SG1) | ((with_reducible apply c5) <;> exact kD_SG1) | ((with_reducible apply c6) <;> exact kD_SG1) | ((with_reducible apply c7) <;> exact kD_SG1))) | ((fail_if_success (with_reducible first | show Is _ _ | show ACall _ _ _ _ _)); (try ((with_reducible show _ ∨ _); exact kT))))) | (((with_reducible first | apply o_callQ | apply q_callQ); rfl); (iterate 2 exact kE_SG1); (first | ((with_reducible apply q0) <;> exact kD_SG1))))); exact hq k)) : p := h ⟨k⟩
theorem w_SG00 {p q : Prop}  (k : q) (h : Hq q → p := by (intro  k; exact wB_SG0 (hq k))) : p := h  ⟨k⟩
theorem w_SG01 {A0 p q : Prop} (c0 : A0) (k : q) (h : A0 → Hq q → p := by (intro c0 k; exact wB_SG0 (hq k))) : p := h c0 ⟨k⟩
theorem w_SG11 {A0 p q : Prop} (c0 : A0) (k : q) (h : A0 → Hq q → p := by (intro c0 k; exact wB_SG1 (hq k))) : p := h c0 ⟨k⟩
def unhexW (s : List UInt8) : List UInt8 × Bool := if s = [45] then ([], true) else match unhex s with | some l => (l, decide (0 < l.length)) | none => ([], false)
theorem unhexW_in (s : List UInt8) (hs : s.length < 1000000000) : PC Tryz.prog false 71 [.str s] (.tup [lb (unhexW s).1, .bool (unhexW s).2]) := by
  have hp : ∀ {B : List Box}, ACall Tryz.prog 107 [.str s] B fun c B' => c = unhexC (unhex s) ∧ B' = B := parseHex_at (by omega)
  refine acall_intro mixed Tryz.func71 rfl ca71 (by kernel_rfl) (by rw [Tryz.ntmps71]; simp) ?_
  unfold unhexW
  by_cases h : s = [45]
  · subst h
    rw [if_pos rfl]
    clear hp
    refine w_SG00 ?_ 
    rfl
  · rw [if_neg h]
    have h' : (s == [45]) = false := by simpa using h
    cases hu : unhex s with
    | none =>
      rw [hu] at hp
      simp only [unhexC, lb] at hp
      refine w_SG01 @hp ?_ 
      rfl
    | some l =>
      rw [hu] at hp
      simp only [unhexC, lb] at hp
      have hm : (l.map byteC).length = l.length := List.length_map _
      by_cases h0 : 0 < l.length
      · have h0d : decide (0 < l.length) = true := decide_eq_true h0
        have h0' : (0 : Int) < l.length := by omega
        refine w_SG01 @hp ?_ 
        simp [go_sem, lb, h0]
      · have : l = [] := List.eq_nil_of_length_eq_zero (by omega)
        subst this
        refine w_SG01 @hp ?_ 
        rfl
def numW (s : List UInt8) : Int × Bool := match Go.Lib.parseIntB 64 s with | .ok n => (n, decide (0 ≤ n) && decide (n ≤ 4611686018427387904)) | Go.Lib.NumEnd.syntax => (0, false) | .range => (Go.Lib.intSat 64 s, false)
theorem numW_in (s : List UInt8) (hs : s.length < 1000000000) : PC Tryz.prog true 79 [.str s] (.tup [.int .i64 (numW s).1, .bool (numW s).2]) := by
  have hp : ∀ {B : List Box}, ACall Tryz.prog 115 [.str s, .int .i64 10, .int .i64 64] B fun c B' => c = endC (Go.Lib.parseIntB 64 s) (Go.Lib.intSat 64 s) ∧ B' = B := parseInt_at (by omega)
  refine acall_intro mixed Tryz.func79 rfl ca79 (by kernel_rfl) (by rw [Tryz.ntmps79]; simp) ?_
  unfold numW
  cases he : Go.Lib.parseIntB 64 s with
  | ok n =>
    rw [he] at hp
    simp only [endC] at hp
    by_cases h0 : 0 ≤ n
    · by_cases h1 : n ≤ 4611686018427387904
      · simp only [h0, h1, decide_true, Bool.and_true]
        refine w_SG11 @hp ?_ 
        rfl
      · have h1' : 4611686018427387904 < n := by omega
        simp only [h0, h1, decide_true, decide_false, Bool.and_false]
        refine w_SG11 @hp ?_ 
        rfl
    · have h0' : n < 0 := by omega
      simp only [h0, decide_false, Bool.false_and]
      refine w_SG11 @hp ?_ 
      rfl
  | range =>
    rw [he] at hp
    simp only [endC, errC] at hp
    refine w_SG11 @hp ?_ 
    rfl
  | _ =>
    rw [he] at hp
    simp only [endC, errC] at hp
    refine w_SG11 @hp ?_ 
    rfl
def smallW (s : List UInt8) : Int × Bool := match Go.Lib.atoiAll s with | .ok n => (n, decide (s.length = 1)) | Go.Lib.NumEnd.syntax => (0, false) | .range => (Go.Lib.atoiSat s, false)
theorem smallW_in (s : List UInt8) (hs : s.length < 1000000000) : PC Tryz.prog true 117 [.str s] (.tup [.int .i64 (smallW s).1, .bool (smallW s).2]) := by
  have hp : ∀ {B : List Box}, ACall Tryz.prog 147 [.str s] B fun c B' => c = endC (Go.Lib.atoiAll s) (Go.Lib.atoiSat s) ∧ B' = B := atoi_at (by omega)
  refine acall_intro mixed Tryz.func117 rfl ca117 (by kernel_rfl) (by rw [Tryz.ntmps117]; simp) ?_
  unfold smallW
  cases he : Go.Lib.atoiAll s with
  | ok n =>
    rw [he] at hp
    simp only [endC] at hp
    by_cases h0 : s.length = 1
    · simp only [h0, decide_true]
      refine w_SG11 @hp ?_ 
      rfl
    · simp only [h0, decide_false]
      have h0' : ((s.length : Int) == 1) = false := by simpa using (by omega : (s.length : Int) ≠ 1)
      refine w_SG11 @hp ?_ 
      rfl
  | range =>
    rw [he] at hp
    simp only [endC, errC] at hp
    refine w_SG11 @hp ?_ 
    rfl
  | _ =>
    rw [he] at hp
    simp only [endC, errC] at hp
    refine w_SG11 @hp ?_ 
    rfl
theorem smallW_at {B : List Box} {s : List UInt8} (hs : s.length < 1000000000) : ACall Tryz.prog 117 [.str s] B fun c B' => c = .tup [.int .i64 (smallW s).1, .bool (smallW s).2] ∧ B' = B := acall_fresh (nz := false) rfl (smallW_in s hs)
def whoW (s : List UInt8) : Int × Bool := ((smallW s).1, (smallW s).2 && decide ((smallW s).1 ≤ 1))
theorem whoW_in (s : List UInt8) (hs : s.length < 1000000000) : PC Tryz.prog true 119 [.str s] (.tup [.int .i64 (whoW s).1, .bool (whoW s).2]) := by
  have hp : ∀ {B : List Box}, ACall Tryz.prog 117 [.str s] B fun c B' => c = .tup [.int .i64 (smallW s).1, .bool (smallW s).2] ∧ B' = B := smallW_at hs
  refine acall_intro mixed Tryz.func119 rfl ca119 (by kernel_rfl) (by rw [Tryz.ntmps119]; simp) ?_
  unfold whoW
  generalize smallW s = r at *
  obtain ⟨n, b⟩ := r
  dsimp only at *
  cases b
  · refine w1 @hp ?_ 
    rfl
  · by_cases h1 : n ≤ 1
    · simp only [h1, decide_true, Bool.and_true]
      refine w_SG11 @hp ?_ 
      rfl
    · have h1' : 1 < n := by omega
      simp only [h1, decide_false, Bool.and_false]
      refine w_SG11 @hp ?_ 
      rfl
theorem unhexW_at {B : List Box} {s : List UInt8} (hs : s.length < 1000000000) : ACall Tryz.prog 71 [.str s] B fun c B' => c = .tup [lb (unhexW s).1, .bool (unhexW s).2] ∧ B' = B := acall_imm (nz := false) rfl (unhexW_in s hs)
theorem numW_at {B : List Box} {s : List UInt8} (hs : s.length < 1000000000) : ACall Tryz.prog 79 [.str s] B fun c B' => c = .tup [.int .i64 (numW s).1, .bool (numW s).2] ∧ B' = B := acall_fresh (nz := false) rfl (numW_in s hs)
theorem whoW_at {B : List Box} {s : List UInt8} (hs : s.length < 1000000000) : ACall Tryz.prog 119 [.str s] B fun c B' => c = .tup [.int .i64 (whoW s).1, .bool (whoW s).2] ∧ B' = B := acall_fresh (nz := false) rfl (whoW_in s hs)
end Go.Proofs.YtcbdghgogmcllaaGreatDoor
end
section
namespace Go.Proofs.YtcbdghgogmcllaaGreatDoor
open Go Go.Sy
def z32 : List UInt8 := List.replicate 32 0
def ev0 : Ev := ⟨0, false, z16, 0, [], 0, []⟩
def act0 : Ac := ⟨0, ev0, 0, 0, 0, 0, 0, z32⟩
def evA (e : Ev) : Ac := { act0 with kind := 1, ev := e }
theorem evC_om {e : Ev} {nz : Bool} {B : List Box} {k : Nat} : omap (Go.Sy.fz nz false B (k + 3)) (evC e) = some (evC e) := by
  simp [evC, omap_app, omap_two, omap_nil, omap_bytes, fz_int, fz_bool, fz_str, fz_lst, fz_byte]
theorem acC_om {a : Ac} {nz : Bool} {B : List Box} {k : Nat} : omap (Go.Sy.fz nz false B (k + 3)) (acC a) = some (acC a) := by
  simp [acC, evC, omap_app, omap_two, omap_nil, omap_bytes, fz_int, fz_bool, fz_str, fz_lst, fz_byte]
theorem evA_cells (e : Ev) : acC (evA e) = .int .i64 1 :: (evC e ++ (.int .i64 0 :: .int .i64 0 :: .int .u8 0 :: .int .i64 0 :: .int .i64 0 :: z32.map byteC)) := rfl
theorem input_in (e : Ev) (h : e.ip.length = 16) : PC Tryz.prog false 42 [.agg (evC e)] (.agg (acC (evA e))) := by
  have hl := evC_len h
  have ho : ∀ {nz : Bool} {B : List Box} {k : Nat}, omap (Go.Sy.fz nz false B (k + 3)) (evC e) = some (evC e) := evC_om
  have ht : (evC e).take 22 = evC e := List.take_of_length_le (by omega)
  rw [evA_cells]
  generalize evC e = X at *
  clear h
  refine acall_intro mixed Tryz.func42 rfl ca42 (by kernel_rfl) (by rw [Tryz.ntmps42]; simp) ?_
  refine w0 ?_ 
  simp [go_sem, ho, z32]
  rfl
theorem input_at {B : List Box} {args : List CV} {e : Ev} (hz : Is (omap (Go.Sy.fz true false [] 6) args) (some [.agg (evC e)])) (h : e.ip.length = 16) : ACall Tryz.prog 42 args B fun c B' => c = .agg (acC (evA e)) ∧ B' = B := acall_imm hz (input_in e h)
theorem acA_len (e : Ev) (h : e.ip.length = 16) : (acC (evA e)).length = 60 := by simp [acC, evA, act0, evC_len h, z32]
theorem rd1_in (x0 x1 : List UInt8) (hs : x1.length < 1000000000) : PC Tryz.prog false 70 [.lst 2 [.str x0, .str x1] false] (.tup [.agg (acC (evA { ev0 with kind := 1, bytes := (unhexW x1).1 })), .bool (unhexW x1).2]) := by
  have hu : ∀ {B : List Box}, ACall Tryz.prog 71 [.str x1] B fun c B' => c = .tup [lb (unhexW x1).1, .bool (unhexW x1).2] ∧ B' = B := unhexW_at hs
  have hi := fun {B} {args} hz => @input_at B args { ev0 with kind := 1, bytes := (unhexW x1).1 } hz rfl
  have hl := acA_len { ev0 with kind := 1, bytes := (unhexW x1).1 } rfl
  have ho : ∀ {nz : Bool} {B : List Box} {k : Nat}, omap (Go.Sy.fz nz false B (k + 3)) (acC (evA { ev0 with kind := 1, bytes := (unhexW x1).1 })) = some (acC (evA { ev0 with kind := 1, bytes := (unhexW x1).1 })) := acC_om
  have ht : (acC (evA { ev0 with kind := 1, bytes := (unhexW x1).1 })).take 60 = acC (evA { ev0 with kind := 1, bytes := (unhexW x1).1 }) := List.take_of_length_le (by omega)
  generalize acC (evA { ev0 with kind := 1, bytes := (unhexW x1).1 }) = Y at *
  simp only [evC, ev0, z16, List.replicate, List.map_cons, List.map_nil, List.cons_append, List.nil_append] at hi
  generalize unhexW x1 = r at *
  obtain ⟨l, b⟩ := r
  dsimp only at *
  refine acall_intro mixed Tryz.func70 rfl ca70 (by kernel_rfl) (by rw [Tryz.ntmps70]; simp) ?_
  rw [lb] at hu
  refine w2 @hu @hi ?_ 
  simp [go_sem, ho]
theorem rd7_in (x0 x1 : List UInt8) (hs : x1.length < 1000000000) : PC Tryz.prog false 81 [.lst 2 [.str x0, .str x1] false] (.tup [.agg (acC (evA { ev0 with kind := 4, bytes := (unhexW x1).1 })), .bool (unhexW x1).2]) := by
  have hu : ∀ {B : List Box}, ACall Tryz.prog 71 [.str x1] B fun c B' => c = .tup [lb (unhexW x1).1, .bool (unhexW x1).2] ∧ B' = B := unhexW_at hs
  have hi := fun {B} {args} hz => @input_at B args { ev0 with kind := 4, bytes := (unhexW x1).1 } hz rfl
  have hl := acA_len { ev0 with kind := 4, bytes := (unhexW x1).1 } rfl
  have ho : ∀ {nz : Bool} {B : List Box} {k : Nat}, omap (Go.Sy.fz nz false B (k + 3)) (acC (evA { ev0 with kind := 4, bytes := (unhexW x1).1 })) = some (acC (evA { ev0 with kind := 4, bytes := (unhexW x1).1 })) := acC_om
  have ht : (acC (evA { ev0 with kind := 4, bytes := (unhexW x1).1 })).take 60 = acC (evA { ev0 with kind := 4, bytes := (unhexW x1).1 }) := List.take_of_length_le (by omega)
  generalize acC (evA { ev0 with kind := 4, bytes := (unhexW x1).1 }) = Y at *
  simp only [evC, ev0, z16, List.replicate, List.map_cons, List.map_nil, List.cons_append, List.nil_append] at hi
  generalize unhexW x1 = r at *
  obtain ⟨l, b⟩ := r
  dsimp only at *
  refine acall_intro mixed Tryz.func81 rfl ca81 (by kernel_rfl) (by rw [Tryz.ntmps81]; simp) ?_
  rw [lb] at hu
  refine w2 @hu @hi ?_ 
  simp [go_sem, ho]
theorem rd5_in (x0 x1 : List UInt8) (hs : x1.length < 1000000000) : PC Tryz.prog false 78 [.lst 2 [.str x0, .str x1] false] (.tup [.agg (acC (evA { ev0 with kind := 3, time := (numW x1).1 })), .bool (numW x1).2]) := by
  have hu : ∀ {B : List Box}, ACall Tryz.prog 79 [.str x1] B fun c B' => c = .tup [.int .i64 (numW x1).1, .bool (numW x1).2] ∧ B' = B := numW_at hs
  have hi := fun {B} {args} hz => @input_at B args { ev0 with kind := 3, time := (numW x1).1 } hz rfl
  have hl := acA_len { ev0 with kind := 3, time := (numW x1).1 } rfl
  have ho : ∀ {nz : Bool} {B : List Box} {k : Nat}, omap (Go.Sy.fz nz false B (k + 3)) (acC (evA { ev0 with kind := 3, time := (numW x1).1 })) = some (acC (evA { ev0 with kind := 3, time := (numW x1).1 })) := acC_om
  have ht : (acC (evA { ev0 with kind := 3, time := (numW x1).1 })).take 60 = acC (evA { ev0 with kind := 3, time := (numW x1).1 }) := List.take_of_length_le (by omega)
  generalize acC (evA { ev0 with kind := 3, time := (numW x1).1 }) = Y at *
  simp only [evC, ev0, z16, List.replicate, List.map_cons, List.map_nil, List.cons_append, List.nil_append, List.length_nil] at hi
  generalize numW x1 = r at *
  obtain ⟨l, b⟩ := r
  dsimp only at *
  refine acall_intro mixed Tryz.func78 rfl ca78 (by kernel_rfl) (by rw [Tryz.ntmps78]; simp) ?_
  refine w2 @hu @hi ?_ 
  simp [go_sem, ho]
theorem parseE_ip {s : List UInt8} {six : Bool} {A : List UInt8} {n : Nat} (h : parseE s = some (six, A, n)) : A.length = 16 := by
  unfold parseE at h
  split at h
  · cases h
  · unfold endE at h
    repeat' split at h
    all_goals first | (cases h; done) | skip
    all_goals
      simp at h
      first
        | (obtain ⟨rfl, rfl, rfl⟩ := h; exact parseA_len (by assumption))
        | (obtain ⟨_, rfl, rfl, rfl⟩ := h; exact parseA_len (by assumption))
def dgW (x1 x2 : List UInt8) : Ac × Bool := match parseE x1 with
  | some (six, A, n) => (evA { ev0 with kind := 2, six := six, ip := A, port := n, bytes := (unhexW x2).1 }, (unhexW x2).2)
  | none => (evA { ev0 with kind := 2, bytes := (unhexW x2).1 }, false)
theorem rd3_in (x0 x1 x2 : List UInt8) (h1 : x1.length < 1000000000) (h2 : x2.length < 1000000000) : PC Tryz.prog false 74 [.lst 3 [.str x0, .str x1, .str x2] false] (.tup [.agg (acC (dgW x1 x2).1), .bool (dgW x1 x2).2]) := by
  have hu : ∀ {B : List Box}, ACall Tryz.prog 71 [.str x2] B fun c B' => c = .tup [lb (unhexW x2).1, .bool (unhexW x2).2] ∧ B' = B := unhexW_at h2
  have hp : ∀ {B : List Box}, ACall Tryz.prog 75 [.str x1] B fun c B' => c = rE (parseE x1) ∧ B' = B := parseE_at h1
  unfold dgW
  generalize unhexW x2 = r at *
  obtain ⟨l, b⟩ := r
  rw [lb] at hu
  dsimp only at *
  cases he : parseE x1 with
  | none =>
    rw [he] at hp
    simp only [rE, prefC, z16, List.replicate, List.map_cons, List.map_nil, List.cons_append, List.nil_append] at hp
    have hi := fun {B} {args} hz => @input_at B args { ev0 with kind := 2, bytes := l } hz rfl
    have hl := acA_len { ev0 with kind := 2, bytes := l } rfl
    have ho : ∀ {nz : Bool} {B : List Box} {k : Nat}, omap (Go.Sy.fz nz false B (k + 3)) (acC (evA { ev0 with kind := 2, bytes := l })) = some (acC (evA { ev0 with kind := 2, bytes := l })) := acC_om
    have ht : (acC (evA { ev0 with kind := 2, bytes := l })).take 60 = acC (evA { ev0 with kind := 2, bytes := l }) := List.take_of_length_le (by omega)
    dsimp only
    generalize acC (evA { ev0 with kind := 2, bytes := l }) = Y at *
    simp only [evC, ev0, z16, List.replicate, List.map_cons, List.map_nil, List.cons_append, List.nil_append, List.length_nil] at hi
    refine acall_intro mixed Tryz.func74 rfl ca74 (by kernel_rfl) (by rw [Tryz.ntmps74]; simp) ?_
    cases b
    all_goals
      refine w3 @hp @hu @hi ?_ 
      simp [go_sem, ho]
  | some q =>
    obtain ⟨six, A, n⟩ := q
    have hA : A.length = 16 := parseE_ip he
    rw [he] at hp
    simp only [rE, prefC] at hp
    have hi := fun {B} {args} hz => @input_at B args { ev0 with kind := 2, six := six, ip := A, port := n, bytes := l } hz hA
    have hl := acA_len { ev0 with kind := 2, six := six, ip := A, port := n, bytes := l } hA
    have ho : ∀ {nz : Bool} {B : List Box} {k : Nat}, omap (Go.Sy.fz nz false B (k + 3)) (acC (evA { ev0 with kind := 2, six := six, ip := A, port := n, bytes := l })) = some (acC (evA { ev0 with kind := 2, six := six, ip := A, port := n, bytes := l })) := acC_om
    have ht : (acC (evA { ev0 with kind := 2, six := six, ip := A, port := n, bytes := l })).take 60 = acC (evA { ev0 with kind := 2, six := six, ip := A, port := n, bytes := l }) := List.take_of_length_le (by omega)
    dsimp only
    generalize acC (evA { ev0 with kind := 2, six := six, ip := A, port := n, bytes := l }) = Y at *
    simp only [evC, ev0, List.cons_append, List.nil_append, List.length_nil] at hi
    refine acall_intro mixed Tryz.func74 rfl ca74 (by kernel_rfl) (by rw [Tryz.ntmps74]; simp) ?_
    cases b
    all_goals
      refine w3 @hp @hu @hi ?_ 
      simp [go_sem, ho]
theorem acC_zero : acC act0 = [.int .i64 0, .int .i64 0, .bool false, .int .u8 0, .int .u8 0, .int .u8 0, .int .u8 0, .int .u8 0, .int .u8 0, .int .u8 0, .int .u8 0, .int .u8 0, .int .u8 0, .int .u8 0, .int .u8 0, .int .u8 0, .int .u8 0, .int .u8 0, .int .u8 0, .int .i64 0, .lst 0 [] false, .int .i64 0, .str [], .int .i64 0, .int .i64 0, .int .u8 0, .int .i64 0, .int .i64 0, .int .u8 0, .int .u8 0, .int .u8 0, .int .u8 0, .int .u8 0, .int .u8 0, .int .u8 0, .int .u8 0, .int .u8 0, .int .u8 0, .int .u8 0, .int .u8 0, .int .u8 0, .int .u8 0, .int .u8 0, .int .u8 0, .int .u8 0, .int .u8 0, .int .u8 0, .int .u8 0, .int .u8 0, .int .u8 0, .int .u8 0, .int .u8 0, .int .u8 0, .int .u8 0, .int .u8 0, .int .u8 0, .int .u8 0, .int .u8 0, .int .u8 0, .int .u8 0] := rfl
def handW (x1 x2 x3 : List UInt8) : Ac × Bool := match unhex x3 with
  | some b => if (smallW x1).2 = true ∧ (smallW x2).2 = true ∧ b.length = 32 then ({ act0 with kind := 2, lo := (smallW x1).1, hi := (smallW x2).1, key := b }, true) else (act0, false)
  | none => (act0, false)
theorem handW_in (x0 x1 x2 x3 : List UInt8) (h1 : x1.length < 1000000000) (h2 : x2.length < 1000000000) (h3 : x3.length < 1000000000) : PC Tryz.prog false 85 [.lst 4 [.str x0, .str x1, .str x2, .str x3] false] (.tup [.agg (acC (handW x1 x2 x3).1), .bool (handW x1 x2 x3).2]) := by
  have hu1 : ∀ {B : List Box}, ACall Tryz.prog 117 [.str x1] B fun c B' => c = .tup [.int .i64 (smallW x1).1, .bool (smallW x1).2] ∧ B' = B := smallW_at h1
  have hu2 : ∀ {B : List Box}, ACall Tryz.prog 117 [.str x2] B fun c B' => c = .tup [.int .i64 (smallW x2).1, .bool (smallW x2).2] ∧ B' = B := smallW_at h2
  have hp : ∀ {B : List Box}, ACall Tryz.prog 107 [.str x3] B fun c B' => c = unhexC (unhex x3) ∧ B' = B := parseHex_at (by omega)
  unfold handW
  generalize smallW x1 = r at *
  obtain ⟨n1, b1⟩ := r
  generalize smallW x2 = r at *
  obtain ⟨n2, b2⟩ := r
  dsimp only at *
  have hz := acC_zero
  cases he : unhex x3 with
  | none =>
    rw [he] at hp
    simp only [unhexC, lb] at hp
    dsimp only
    rw [hz]
    refine acall_intro mixed Tryz.func85 rfl ca85 (by kernel_rfl) (by rw [Tryz.ntmps85]; simp) ?_
    cases b1 <;> cases b2
    all_goals
      refine w3 @hp @hu1 @hu2 ?_ 
      rfl
  | some b =>
    rw [he] at hp
    simp only [unhexC, lb] at hp
    dsimp only
    by_cases h32 : b.length = 32
    · have hm : (b.map byteC).length = 32 := by simp [h32]
      have ht : (b.map byteC).take 32 = b.map byteC := List.take_of_length_le (by omega)
      have hom : ∀ {nz : Bool} {B : List Box} {k : Nat}, omap (Go.Sy.fz nz false B (k + 1)) (b.map byteC) = some (b.map byteC) := omap_bytes b
      have hr : acC { act0 with kind := 2, lo := n1, hi := n2, key := b } = (acC { act0 with kind := 2, lo := n1, hi := n2 }).take 28 ++ b.map byteC := rfl
      cases b1
      · simp only [Bool.false_eq_true, false_and, if_false]
        rw [hz]
        refine acall_intro mixed Tryz.func85 rfl ca85 (by kernel_rfl) (by rw [Tryz.ntmps85]; simp) ?_
        cases b2
        all_goals
          refine w3 @hp @hu1 @hu2 ?_ 
          rfl
      · cases b2
        · simp only [Bool.false_eq_true, false_and, and_false, if_false]
          rw [hz]
          refine acall_intro mixed Tryz.func85 rfl ca85 (by kernel_rfl) (by rw [Tryz.ntmps85]; simp) ?_
          refine w3 @hp @hu1 @hu2 ?_ 
          rfl
        · simp only [h32, and_self, if_true]
          rw [hr]
          rw [h32] at hp
          generalize b.map byteC = X at *
          refine acall_intro mixed Tryz.func85 rfl ca85 (by kernel_rfl) (by rw [Tryz.ntmps85]; simp) ?_
          refine w3 @hp @hu1 @hu2 ?_ 
          simp [go_sem, hom, acC, evC, act0, ev0, z16, z32]
          rfl
    · have h32' : ((b.length : Int) == 32) = false := by simpa using (by omega : (b.length : Int) ≠ 32)
      have h32n : ((b.length : Int) != 32) = true := by simpa using (by omega : (b.length : Int) ≠ 32)
      simp only [h32, and_false, if_false]
      rw [hz]
      refine acall_intro mixed Tryz.func85 rfl ca85 (by kernel_rfl) (by rw [Tryz.ntmps85]; simp) ?_
      cases b1 <;> cases b2
      all_goals
        refine w3 @hp @hu1 @hu2 ?_ 
        rfl
def corW (x1 x2 x3 : List UInt8) : Ac × Bool := match unhex x3 with
  | some [b] => if (whoW x1).2 = true ∧ (numW x2).2 = true then ({ act0 with kind := 6, who := (whoW x1).1, n := (numW x2).1, xor := b }, true) else (act0, false)
  | _ => (act0, false)
theorem corW_in (x0 x1 x2 x3 : List UInt8) (h1 : x1.length < 1000000000) (h2 : x2.length < 1000000000) (h3 : x3.length < 1000000000) : PC Tryz.prog false 90 [.lst 4 [.str x0, .str x1, .str x2, .str x3] false] (.tup [.agg (acC (corW x1 x2 x3).1), .bool (corW x1 x2 x3).2]) := by
  have hu1 : ∀ {B : List Box}, ACall Tryz.prog 119 [.str x1] B fun c B' => c = .tup [.int .i64 (whoW x1).1, .bool (whoW x1).2] ∧ B' = B := whoW_at h1
  have hu2 : ∀ {B : List Box}, ACall Tryz.prog 79 [.str x2] B fun c B' => c = .tup [.int .i64 (numW x2).1, .bool (numW x2).2] ∧ B' = B := numW_at h2
  have hp : ∀ {B : List Box}, ACall Tryz.prog 107 [.str x3] B fun c B' => c = unhexC (unhex x3) ∧ B' = B := parseHex_at (by omega)
  unfold corW
  generalize whoW x1 = r at *
  obtain ⟨n1, b1⟩ := r
  generalize numW x2 = r at *
  obtain ⟨n2, b2⟩ := r
  dsimp only at *
  have hz := acC_zero
  have bad : ∀ b : List UInt8, unhex x3 = some b → b.length ≠ 1 → PC Tryz.prog false 90 [.lst 4 [.str x0, .str x1, .str x2, .str x3] false] (.tup [.agg (acC act0), .bool false]) := by
    intro b he hb
    rw [he] at hp
    simp only [unhexC, lb] at hp
    have h32' : ((b.length : Int) == 1) = false := by simpa using (by omega : (b.length : Int) ≠ 1)
    have h32n : ((b.length : Int) != 1) = true := by simpa using (by omega : (b.length : Int) ≠ 1)
    rw [hz]
    refine acall_intro mixed Tryz.func90 rfl ca90 (by kernel_rfl) (by rw [Tryz.ntmps90]; simp) ?_
    cases b1 <;> cases b2
    all_goals
      refine w3 @hp @hu1 @hu2 ?_ 
      rfl
  cases he : unhex x3 with
  | none =>
    rw [he] at hp
    simp only [unhexC, lb] at hp
    dsimp only
    rw [hz]
    refine acall_intro mixed Tryz.func90 rfl ca90 (by kernel_rfl) (by rw [Tryz.ntmps90]; simp) ?_
    cases b1 <;> cases b2
    all_goals
      refine w3 @hp @hu1 @hu2 ?_ 
      rfl
  | some b =>
    match b, he with
    | [], he => exact bad [] he (by simp)
    | x :: y :: l, he => exact bad _ he (by simp)
    | [b], he =>
      rw [he] at hp
      simp only [unhexC, lb, List.length_cons, List.length_nil, List.map_cons, List.map_nil] at hp
      clear bad
      dsimp only
      cases b1
      · simp only [Bool.false_eq_true, false_and, if_false]
        rw [hz]
        refine acall_intro mixed Tryz.func90 rfl ca90 (by kernel_rfl) (by rw [Tryz.ntmps90]; simp) ?_
        cases b2
        all_goals
          refine w3 @hp @hu1 @hu2 ?_ 
          rfl
      · cases b2
        · simp only [Bool.false_eq_true, false_and, and_false, if_false]
          rw [hz]
          refine acall_intro mixed Tryz.func90 rfl ca90 (by kernel_rfl) (by rw [Tryz.ntmps90]; simp) ?_
          refine w3 @hp @hu1 @hu2 ?_ 
          rfl
        · simp only [and_self, if_true]
          refine acall_intro mixed Tryz.func90 rfl ca90 (by kernel_rfl) (by rw [Tryz.ntmps90]; simp) ?_
          refine w3 @hp @hu1 @hu2 ?_ 
          rfl
def nmbW (k : Int) (x1 x2 : List UInt8) : Ac × Bool := ({ act0 with kind := k, who := (whoW x1).1, n := (numW x2).1 }, (whoW x1).2 && (numW x2).2)
theorem nmbW_in (k : Int) (x0 x1 x2 : List UInt8) (h1 : x1.length < 1000000000) (h2 : x2.length < 1000000000) : PC Tryz.prog false 118 [.lst 3 [.str x0, .str x1, .str x2] false, .iptr [.int .i64 k]] (.tup [.agg (acC (nmbW k x1 x2).1), .bool (nmbW k x1 x2).2]) := by
  have hu1 : ∀ {B : List Box}, ACall Tryz.prog 119 [.str x1] B fun c B' => c = .tup [.int .i64 (whoW x1).1, .bool (whoW x1).2] ∧ B' = B := whoW_at h1
  have hu2 : ∀ {B : List Box}, ACall Tryz.prog 79 [.str x2] B fun c B' => c = .tup [.int .i64 (numW x2).1, .bool (numW x2).2] ∧ B' = B := numW_at h2
  unfold nmbW
  generalize whoW x1 = r at *
  obtain ⟨n1, b1⟩ := r
  generalize numW x2 = r at *
  obtain ⟨n2, b2⟩ := r
  dsimp only at *
  refine acall_intro mixed Tryz.func118 rfl ca118 (by kernel_rfl) (by rw [Tryz.ntmps118]; simp) ?_
  cases b1 <;> cases b2
  all_goals
    refine w2 @hu1 @hu2 ?_ 
    rfl
def barW (k : Int) (x1 : List UInt8) : Ac × Bool := ({ act0 with kind := k, who := (whoW x1).1 }, (whoW x1).2)
theorem barW_in (k : Int) (x0 x1 : List UInt8) (h1 : x1.length < 1000000000) : PC Tryz.prog false 121 [.lst 2 [.str x0, .str x1] false, .iptr [.int .i64 k]] (.tup [.agg (acC (barW k x1).1), .bool (barW k x1).2]) := by
  have hu1 : ∀ {B : List Box}, ACall Tryz.prog 119 [.str x1] B fun c B' => c = .tup [.int .i64 (whoW x1).1, .bool (whoW x1).2] ∧ B' = B := whoW_at h1
  unfold barW
  generalize whoW x1 = r at *
  obtain ⟨n1, b1⟩ := r
  dsimp only at *
  refine acall_intro mixed Tryz.func121 rfl ca121 (by kernel_rfl) (by rw [Tryz.ntmps121]; simp) ?_
  refine w1 @hu1 ?_ 
  rfl
end Go.Proofs.YtcbdghgogmcllaaGreatDoor
end
section
namespace Go.Proofs.YtcbdghgogmcllaaGreatDoor
open Go Go.Sy
def prC (c : UInt8) : Bool := decide (32 ≤ c.toNat) && decide (c.toNat ≤ 126)
def prS (s : List UInt8) : Bool := s.all prC
theorem printable_in (s : List UInt8) (hs : s.length < 1000000000) : PC Tryz.prog true 44 [.str s] (.bool (prS s)) := by
  refine acall_intro mixed Tryz.func44 rfl ca44 (by kernel_rfl) (by rw [Tryz.ntmps44]; simp) ?_
  refine w0 ?_ 
  refine w_loop (fun fr B => ∃ j : Nat, j ≤ s.length ∧ (s.take j).all prC = true ∧ fr 6 = .int .i64 j ∧ fr 5 = .int .i64 s.length ∧ fr 0 = .str s ∧ B = []) (fun fr _ => s.length - natOf (fr 6)) ?_ ?_
  · exact ⟨0, by omega, by simp, kS, kS, kS, rfl⟩
  rintro fr B ⟨j, hj, hn, h6, h5, h0, rfl⟩
  have hm : natOf (fr 6) = j := by rw [h6]; rfl
  by_cases hc : j < s.length
  · have ht : (s.take (j + 1)).all prC = prC (s[j]'hc) := by rw [List.take_succ_eq_append_getElem hc, List.all_append, hn]; simp
    have hbad : prC (s[j]'hc) = false → prS s = false := fun h => by
      rw [prS, List.all_eq_false]
      exact ⟨_, List.getElem_mem hc, by simp [h]⟩
    have hb := (s[j]'hc).toNat_lt
    obtain ⟨y, hy⟩ : ∃ y, s[j]'hc = y := ⟨_, rfl⟩
    rw [hy] at ht hbad hb
    by_cases h1 : 32 ≤ y.toNat
    · by_cases h2 : y.toNat ≤ 126
      · have h3 : (s.take (j + 1)).all prC = true := by rw [ht]; simp [prC, h1, h2]
        have g1 : ¬ (y.toNat < 32) := by omega
        have g2 : ¬ (126 < y.toNat) := by omega
        clear hbad ht hn
        replace h3 : Hid _ := h3
        refine w0 ?_ 
        exact ⟨⟨j + 1, by omega, h3, kS, kS, kS, rfl⟩, kS⟩
      · have h3 : prS s = false := hbad (by simp [prC, h2])
        have g1 : ¬ (y.toNat < 32) := by omega
        have g2 : 126 < y.toNat := by omega
        rw [h3]
        clear hbad ht hn h3
        refine w0 ?_ 
        all_goals rfl
    · have h3 : prS s = false := hbad (by simp [prC, h1])
      have g1 : y.toNat < 32 := by omega
      rw [h3]
      clear hbad ht hn h3
      refine w0 ?_ 
      all_goals rfl
  · obtain rfl : j = s.length := by omega
    rw [List.take_length] at hn
    have h3 : prS s = true := hn
    rw [h3]
    clear hn h3
    refine w0 ?_ 
    all_goals rfl
theorem printable_at {B : List Box} {s : List UInt8} (hs : s.length < 1000000000) : ACall Tryz.prog 44 [.str s] B fun c B' => c = .bool (prS s) ∧ B' = B := acall_fresh (nz := false) rfl (printable_in s hs)
def sCtl : List UInt8 := [99, 111, 110, 116, 114, 111, 108, 32]
def ctlT (s : List UInt8) : List UInt8 := Go.Lib.trimSuffix (Go.Lib.trimPrefix s sCtl) [10]
def ctlW (s : List UInt8) : Ac := evA { ev0 with kind := 5, text := ctlT s }
theorem parse_ctl (s : List UInt8) (hs : s.length < 1000000) (hp : Go.Lib.hasPrefix s sCtl = true) (ht : (ctlT s).length < 1000000) (hA : AcL (ctlW s)) : PC Tryz.prog false 23 [.str s] (.tup [.agg (acC (ctlW s)), .bool (prS (ctlT s) && (lineS (ctlW s) == s))]) := by
  have hcp : ∀ {B : List Box}, ACall Tryz.prog 41 [.str s, .str sCtl] B fun c B' => c = .tup [.str (Go.Lib.trimPrefix s sCtl), .bool true] ∧ B' = B := by
    intro B
    have := @cutPrefix_at B s sCtl
    rwa [hp] at this
  have htl : (Go.Lib.trimPrefix s sCtl).length ≤ s.length := by
    unfold Go.Lib.trimPrefix
    split <;> simp
  have hts : ∀ {B : List Box}, ACall Tryz.prog 43 [.str (Go.Lib.trimPrefix s sCtl), .str [10]] B fun c B' => c = .str (ctlT s) ∧ B' = B := trimSuffix_at (by omega)
  have hi := fun {B} {args} hz => @input_at B args { ev0 with kind := 5, text := ctlT s } hz rfl
  have hl := acA_len { ev0 with kind := 5, text := ctlT s } rfl
  have ho : ∀ {nz : Bool} {B : List Box} {k : Nat}, omap (Go.Sy.fz nz false B (k + 3)) (acC (ctlW s)) = some (acC (ctlW s)) := acC_om
  have htk : (acC (ctlW s)).take 60 = acC (ctlW s) := List.take_of_length_le (by rw [ctlW]; omega)
  have h22 := (ac_parts hA).d22
  have hpr : ∀ {B : List Box}, ACall Tryz.prog 44 [.str (ctlT s)] B fun c B' => c = .bool (prS (ctlT s)) ∧ B' = B := printable_at (by omega)
  have hln : ∀ {B : List Box} {args : List CV}, Is (omap (Go.Sy.fz true false B 6) args) (some [.agg (acC (ctlW s))]) → ACall Tryz.prog 25 args B fun c B' => c = .str (lineS (ctlW s)) ∧ B' = B := fun hz => line_at hz hA
  have htx : (ctlW s).ev.text = ctlT s := rfl
  rw [htx] at h22
  rw [← ctlW] at hl
  have hi : ∀ {B : List Box} {args : List CV}, Is (omap (Go.Sy.fz true false [] 6) args) (some [.agg (evC { ev0 with kind := 5, text := ctlT s })]) → ACall Tryz.prog 42 args B fun c B' => c = .agg (acC (ctlW s)) ∧ B' = B := hi
  clear hA hp
  generalize lineS (ctlW s) = L at *
  generalize acC (ctlW s) = Y at *
  simp only [evC, ev0, z16, List.replicate, List.map_cons, List.map_nil, List.cons_append, List.nil_append, List.length_nil] at hi
  rw [sCtl] at *
  generalize Go.Lib.trimPrefix s _ = s1 at *
  generalize ctlT s = s2 at *
  cases hq : prS s2
  · rw [hq] at hpr
    refine acall_intro mixed Tryz.func23 rfl ca23 (by kernel_rfl) (by rw [Tryz.ntmps23]; simp) ?_
    repeat' (first | (with_reducible first | apply jA | apply jB | apply jC | apply jD | apply jE | apply jF | apply jG | apply jH | apply jI | apply jJ | apply jK | apply jL | apply jM | apply jN | apply jO) | ((with_reducible first | apply jP | apply jQ); rfl) | ((with_reducible apply w_drawA); (conv => lhs; reduce); exact kE; exact kE) | ((first | ((with_reducible first | apply d_made | apply q_made); rfl; rfl)); (iterate 6 exact kE)) | ((first | ((with_reducible first | apply d_fop | apply q_fop); rfl; rfl)); (intro Bx hJ; (first | (obtain ⟨_, hJ1, hJ2⟩ := hJ) | (try simp only at hJ)); exact kE)) | ((with_reducible first | apply d_free | apply q_free); rfl; (iterate 2 exact kE); (intro Bx hJ); (first | ((with_reducible apply hcp) <;> exact kD) | ((with_reducible apply hts) <;> exact kD) | ((with_reducible apply hi) <;> exact kD) | ((with_reducible apply hpr) <;> exact kD) | ((with_reducible apply hln) <;> exact kD))) | ((first | ((with_reducible first | apply jR | apply jS | apply jT); rfl; rfl) | (with_reducible first | apply jU | apply jV | apply jW) | ((with_reducible first | apply jX | apply jY | apply jZ); rfl) | ((with_reducible first | apply kA | apply kB | apply kC); rfl)); all_goals (first | ((with_reducible show Is _ _); exact kE) | ((with_reducible refine fun (hc : (_ : Bool) = _) => ?_); (try simp only [xZ, xY, xP, reduceCtorEq] at hc); (try (have hx : True := hc; clear hx hc)); (try exact kX)) | ((with_reducible show ACall _ _ _ _ _); (first | ((with_reducible apply hcp) <;> exact kD) | ((with_reducible apply hts) <;> exact kD) | ((with_reducible apply hi) <;> exact kD) | ((with_reducible apply hpr) <;> exact kD) | ((with_reducible apply hln) <;> exact kD))) | ((fail_if_success (with_reducible first | show Is _ _ | show ACall _ _ _ _ _)); (try ((with_reducible show _ ∨ _); first | exact .inl rfl | (refine .inr ⟨rfl, ?_, ?_⟩; (focus (repeat (first | exact trivial | refine ⟨.inl rfl, ?_⟩ | refine ⟨.inr rfl, ?_⟩ | refine ⟨.inr (by (simp (disch := first | omega | (simp only [yZ, yB] <;> omega) | fail) [go_sem, yY, *, -List.map_take, -List.map_drop, -List.map_append, -List.map_reverse])), ?_⟩))); (first | exact trivial | exact rfl | (refine ⟨_, ?_, ?_⟩; (focus (simp (disch := first | omega | (simp only [yZ, yB] <;> omega) | fail) [go_sem, yY, *, -List.map_take, -List.map_drop, -List.map_append, -List.map_reverse]; (try exact rfl))); (simp (disch := first | omega | (simp only [yZ, yB] <;> omega) | fail) [go_sem, yY, *, -List.map_take, -List.map_drop, -List.map_append, -List.map_reverse])) | (simp (disch := first | omega | (simp only [yZ, yB] <;> omega) | fail) [go_sem, yY, *, -List.map_take, -List.map_drop, -List.map_append, -List.map_reverse]))) | exact .inl (by (simp (disch := first | omega | (simp only [yZ, yB] <;> omega) | fail) [go_sem, yY, *, -List.map_take, -List.map_drop, -List.map_append, -List.map_reverse]))))))))
    all_goals simp [go_sem, ho]
  · rw [hq] at hpr
    refine acall_intro mixed Tryz.func23 rfl ca23 (by kernel_rfl) (by rw [Tryz.ntmps23]; simp) ?_
    repeat' (first | (with_reducible first | apply jA | apply jB | apply jC | apply jD | apply jE | apply jF | apply jG | apply jH | apply jI | apply jJ | apply jK | apply jL | apply jM | apply jN | apply jO) | ((with_reducible first | apply jP | apply jQ); rfl) | ((with_reducible apply w_drawA); (conv => lhs; reduce); exact kE; exact kE) | ((first | ((with_reducible first | apply d_made | apply q_made); rfl; rfl)); (iterate 6 exact kE)) | ((first | ((with_reducible first | apply d_fop | apply q_fop); rfl; rfl)); (intro Bx hJ; (first | (obtain ⟨_, hJ1, hJ2⟩ := hJ) | (try simp only at hJ)); exact kE)) | ((with_reducible first | apply d_free | apply q_free); rfl; (iterate 2 exact kE); (intro Bx hJ); (first | ((with_reducible apply hcp) <;> exact kD) | ((with_reducible apply hts) <;> exact kD) | ((with_reducible apply hi) <;> exact kD) | ((with_reducible apply hpr) <;> exact kD) | ((with_reducible apply hln) <;> exact kD))) | ((first | ((with_reducible first | apply jR | apply jS | apply jT); rfl; rfl) | (with_reducible first | apply jU | apply jV | apply jW) | ((with_reducible first | apply jX | apply jY | apply jZ); rfl) | ((with_reducible first | apply kA | apply kB | apply kC); rfl)); all_goals (first | ((with_reducible show Is _ _); exact kE) | ((with_reducible refine fun (hc : (_ : Bool) = _) => ?_); (try simp only [xZ, xY, xP, reduceCtorEq] at hc); (try (have hx : True := hc; clear hx hc)); (try exact kX)) | ((with_reducible show ACall _ _ _ _ _); (first | ((with_reducible apply hcp) <;> exact kD) | ((with_reducible apply hts) <;> exact kD) | ((with_reducible apply hi) <;> exact kD) | ((with_reducible apply hpr) <;> exact kD) | ((with_reducible apply hln) <;> exact kD))) | ((fail_if_success (with_reducible first | show Is _ _ | show ACall _ _ _ _ _)); (try ((with_reducible show _ ∨ _); first | exact .inl rfl | (refine .inr ⟨rfl, ?_, ?_⟩; (focus (repeat (first | exact trivial | refine ⟨.inl rfl, ?_⟩ | refine ⟨.inr rfl, ?_⟩ | refine ⟨.inr (by (simp (disch := first | omega | (simp only [yZ, yB] <;> omega) | fail) [go_sem, yY, *, -List.map_take, -List.map_drop, -List.map_append, -List.map_reverse])), ?_⟩))); (first | exact trivial | exact rfl | (refine ⟨_, ?_, ?_⟩; (focus (simp (disch := first | omega | (simp only [yZ, yB] <;> omega) | fail) [go_sem, yY, *, -List.map_take, -List.map_drop, -List.map_append, -List.map_reverse]; (try exact rfl))); (simp (disch := first | omega | (simp only [yZ, yB] <;> omega) | fail) [go_sem, yY, *, -List.map_take, -List.map_drop, -List.map_append, -List.map_reverse])) | (simp (disch := first | omega | (simp only [yZ, yB] <;> omega) | fail) [go_sem, yY, *, -List.map_take, -List.map_drop, -List.map_append, -List.map_reverse]))) | exact .inl (by (simp (disch := first | omega | (simp only [yZ, yB] <;> omega) | fail) [go_sem, yY, *, -List.map_take, -List.map_drop, -List.map_append, -List.map_reverse]))))))))
    all_goals simp [go_sem, ho]
def wdsS (s : List UInt8) : List (List UInt8) := splitL 32 (Go.Lib.trimSuffix s [10])
theorem parse_miss (s : List UInt8) (hs : s.length < 1000000) (hp : Go.Lib.hasPrefix s sCtl = false) {x0 : List UInt8} {r : List (List UInt8)} (hw : wdsS s = x0 :: r) (hk : lookC Tryz.prog 101 (.imap formK formX) (.str x0) true = some (.tup [formZ, .bool false])) :
    PC Tryz.prog false 23 [.str s] (.tup [.agg (acC act0), .bool false]) := by
  have hcp : ∀ {B : List Box}, ACall Tryz.prog 41 [.str s, .str sCtl] B fun c B' => c = .tup [.str (Go.Lib.trimPrefix s sCtl), .bool false] ∧ B' = B := by
    intro B
    have := @cutPrefix_at B s sCtl
    rwa [hp] at this
  have htl : (Go.Lib.trimSuffix s [10]).length ≤ s.length := by
    unfold Go.Lib.trimSuffix
    split <;> simp
  have hts : ∀ {B : List Box}, ACall Tryz.prog 43 [.str s, .str [10]] B fun c B' => c = .str (Go.Lib.trimSuffix s [10]) ∧ B' = B := trimSuffix_at (by omega)
  have hsp : ∀ {B : List Box}, ACall Tryz.prog 45 [.str (Go.Lib.trimSuffix s [10]), .str [32]] B fun c B' => c = .lst (wdsS s).length ((wdsS s).map .str) true ∧ B' = B := split_at (by omega)
  obtain ⟨M, hM⟩ : ∃ M, CV.imap formK formX = M := ⟨_, rfl⟩
  rw [hM] at hk
  have hf : ∀ {B : List Box} {args : List CV}, Is args [] → ACall Tryz.prog 46 args B fun c B' => c = M ∧ B' = B := forms_at hM
  rw [hw] at hsp
  rw [formZ] at hk
  rw [sCtl] at *
  simp only [List.length_cons, List.map_cons] at hsp
  generalize Go.Lib.trimPrefix s _ = s1 at *
  generalize Go.Lib.trimSuffix s _ = s2 at *
  rw [acC_zero]
  generalize r.map CV.str = R at *
  generalize r.length = m at *
  clear hM hw
  refine acall_intro mixed Tryz.func23 rfl ca23 (by kernel_rfl) (by rw [Tryz.ntmps23]; simp) ?_
  repeat' (first | (with_reducible first | apply jA | apply jB | apply jC | apply jD | apply jE | apply jF | apply jG | apply jH | apply jI | apply jJ | apply jK | apply jL | apply jM | apply jN | apply jO) | ((with_reducible first | apply jP | apply jQ); rfl) | ((with_reducible apply w_drawA); (conv => lhs; reduce); exact kE; exact kE) | ((first | ((with_reducible first | apply d_made | apply q_made); rfl; rfl)); (iterate 6 exact kE)) | ((first | ((with_reducible first | apply d_fop | apply q_fop); rfl; rfl)); (intro Bx hJ; (first | (obtain ⟨_, hJ1, hJ2⟩ := hJ) | (try simp only at hJ)); exact kE)) | ((with_reducible first | apply d_free | apply q_free); rfl; (iterate 2 exact kE); (intro Bx hJ); (first | ((with_reducible apply hcp) <;> exact kD) | ((with_reducible apply hts) <;> exact kD) | ((with_reducible apply hsp) <;> exact kD) | ((with_reducible apply hf) <;> exact kD))) | ((first | ((with_reducible first | apply jR | apply jS | apply jT); rfl; rfl) | (with_reducible first | apply jU | apply jV | apply jW) | ((with_reducible first | apply jX | apply jY | apply jZ); rfl) | ((with_reducible first | apply kA | apply kB | apply kC); rfl)); all_goals (first | ((with_reducible show Is _ _); exact kE) | ((with_reducible refine fun (hc : (_ : Bool) = _) => ?_); (try simp only [xZ, xY, xP, reduceCtorEq] at hc); (try (have hx : True := hc; clear hx hc)); (try exact kX)) | ((with_reducible show ACall _ _ _ _ _); (first | ((with_reducible apply hcp) <;> exact kD) | ((with_reducible apply hts) <;> exact kD) | ((with_reducible apply hsp) <;> exact kD) | ((with_reducible apply hf) <;> exact kD))) | ((fail_if_success (with_reducible first | show Is _ _ | show ACall _ _ _ _ _)); (try ((with_reducible show _ ∨ _); first | exact .inl rfl | (refine .inr ⟨rfl, ?_, ?_⟩; (focus (repeat (first | exact trivial | refine ⟨.inl rfl, ?_⟩ | refine ⟨.inr rfl, ?_⟩ | refine ⟨.inr (by (simp (disch := first | omega | (simp only [yZ, yB] <;> omega) | fail) [go_sem, yY, *, -List.map_take, -List.map_drop, -List.map_append, -List.map_reverse])), ?_⟩))); (first | exact trivial | exact rfl | (refine ⟨_, ?_, ?_⟩; (focus (simp (disch := first | omega | (simp only [yZ, yB] <;> omega) | fail) [go_sem, yY, *, -List.map_take, -List.map_drop, -List.map_append, -List.map_reverse]; (try exact rfl))); (simp (disch := first | omega | (simp only [yZ, yB] <;> omega) | fail) [go_sem, yY, *, -List.map_take, -List.map_drop, -List.map_append, -List.map_reverse])) | (simp (disch := first | omega | (simp only [yZ, yB] <;> omega) | fail) [go_sem, yY, *, -List.map_take, -List.map_drop, -List.map_append, -List.map_reverse]))) | exact .inl (by (simp (disch := first | omega | (simp only [yZ, yB] <;> omega) | fail) [go_sem, yY, *, -List.map_take, -List.map_drop, -List.map_append, -List.map_reverse]))))))))
  all_goals rfl
theorem parse_cnt (s : List UInt8) (hs : s.length < 1000000) (hp : Go.Lib.hasPrefix s sCtl = false) {x0 : List UInt8} {r : List (List UInt8)} {n : Nat} {y z : CV} (hw : wdsS s = x0 :: r) (hk : lookC Tryz.prog 101 (.imap formK formX) (.str x0) true = some (.tup [.agg [.int .i64 n, y, z], .bool true])) (hn : r.length + 1 ≠ n) :
    PC Tryz.prog false 23 [.str s] (.tup [.agg (acC act0), .bool false]) := by
  have hcp : ∀ {B : List Box}, ACall Tryz.prog 41 [.str s, .str sCtl] B fun c B' => c = .tup [.str (Go.Lib.trimPrefix s sCtl), .bool false] ∧ B' = B := by
    intro B
    have := @cutPrefix_at B s sCtl
    rwa [hp] at this
  have htl : (Go.Lib.trimSuffix s [10]).length ≤ s.length := by
    unfold Go.Lib.trimSuffix
    split <;> simp
  have hts : ∀ {B : List Box}, ACall Tryz.prog 43 [.str s, .str [10]] B fun c B' => c = .str (Go.Lib.trimSuffix s [10]) ∧ B' = B := trimSuffix_at (by omega)
  have hsp : ∀ {B : List Box}, ACall Tryz.prog 45 [.str (Go.Lib.trimSuffix s [10]), .str [32]] B fun c B' => c = .lst (wdsS s).length ((wdsS s).map .str) true ∧ B' = B := split_at (by omega)
  obtain ⟨M, hM⟩ : ∃ M, CV.imap formK formX = M := ⟨_, rfl⟩
  rw [hM] at hk
  have hf : ∀ {B : List Box} {args : List CV}, Is args [] → ACall Tryz.prog 46 args B fun c B' => c = M ∧ B' = B := forms_at hM
  rw [hw] at hsp
  rw [sCtl] at *
  simp only [List.length_cons, List.map_cons] at hsp
  generalize Go.Lib.trimPrefix s _ = s1 at *
  generalize Go.Lib.trimSuffix s _ = s2 at *
  rw [acC_zero]
  generalize r.map CV.str = R at *
  generalize r.length = m at *
  have hn1 : ((m : Int) + 1 == (n : Int)) = false := by simpa using (by omega : (m : Int) + 1 ≠ n)
  have hn2 : ((m : Int) + 1 != (n : Int)) = true := by simpa using (by omega : (m : Int) + 1 ≠ n)
  clear hM hw
  refine acall_intro mixed Tryz.func23 rfl ca23 (by kernel_rfl) (by rw [Tryz.ntmps23]; simp) ?_
  repeat' (first | (with_reducible first | apply jA | apply jB | apply jC | apply jD | apply jE | apply jF | apply jG | apply jH | apply jI | apply jJ | apply jK | apply jL | apply jM | apply jN | apply jO) | ((with_reducible first | apply jP | apply jQ); rfl) | ((with_reducible apply w_drawA); (conv => lhs; reduce); exact kE; exact kE) | ((first | ((with_reducible first | apply d_made | apply q_made); rfl; rfl)); (iterate 6 exact kE)) | ((first | ((with_reducible first | apply d_fop | apply q_fop); rfl; rfl)); (intro Bx hJ; (first | (obtain ⟨_, hJ1, hJ2⟩ := hJ) | (try simp only at hJ)); exact kE)) | ((with_reducible first | apply d_free | apply q_free); rfl; (iterate 2 exact kE); (intro Bx hJ); (first | ((with_reducible apply hcp) <;> exact kD) | ((with_reducible apply hts) <;> exact kD) | ((with_reducible apply hsp) <;> exact kD) | ((with_reducible apply hf) <;> exact kD))) | ((first | ((with_reducible first | apply jR | apply jS | apply jT); rfl; rfl) | (with_reducible first | apply jU | apply jV | apply jW) | ((with_reducible first | apply jX | apply jY | apply jZ); rfl) | ((with_reducible first | apply kA | apply kB | apply kC); rfl)); all_goals (first | ((with_reducible show Is _ _); exact kE) | ((with_reducible refine fun (hc : (_ : Bool) = _) => ?_); (try simp only [xZ, xY, xP, reduceCtorEq] at hc); (try (have hx : True := hc; clear hx hc)); (try exact kX)) | ((with_reducible show ACall _ _ _ _ _); (first | ((with_reducible apply hcp) <;> exact kD) | ((with_reducible apply hts) <;> exact kD) | ((with_reducible apply hsp) <;> exact kD) | ((with_reducible apply hf) <;> exact kD))) | ((fail_if_success (with_reducible first | show Is _ _ | show ACall _ _ _ _ _)); (try ((with_reducible show _ ∨ _); first | exact .inl rfl | (refine .inr ⟨rfl, ?_, ?_⟩; (focus (repeat (first | exact trivial | refine ⟨.inl rfl, ?_⟩ | refine ⟨.inr rfl, ?_⟩ | refine ⟨.inr (by (simp (disch := first | omega | (simp only [yZ, yB] <;> omega) | fail) [go_sem, yY, *, -List.map_take, -List.map_drop, -List.map_append, -List.map_reverse])), ?_⟩))); (first | exact trivial | exact rfl | (refine ⟨_, ?_, ?_⟩; (focus (simp (disch := first | omega | (simp only [yZ, yB] <;> omega) | fail) [go_sem, yY, *, -List.map_take, -List.map_drop, -List.map_append, -List.map_reverse]; (try exact rfl))); (simp (disch := first | omega | (simp only [yZ, yB] <;> omega) | fail) [go_sem, yY, *, -List.map_take, -List.map_drop, -List.map_append, -List.map_reverse])) | (simp (disch := first | omega | (simp only [yZ, yB] <;> omega) | fail) [go_sem, yY, *, -List.map_take, -List.map_drop, -List.map_append, -List.map_reverse]))) | exact .inl (by (simp (disch := first | omega | (simp only [yZ, yB] <;> omega) | fail) [go_sem, yY, *, -List.map_take, -List.map_drop, -List.map_append, -List.map_reverse]))))))))
  all_goals rfl
theorem parse_read (s : List UInt8) (hs : s.length < 1000000) (hp : Go.Lib.hasPrefix s sCtl = false) {x0 : List UInt8} {r : List (List UInt8)} {n g : Nat} {y : CV} {caps : List CV} {a : Ac} {ok : Bool} (hw : wdsS s = x0 :: r) (hk : lookC Tryz.prog 101 (.imap formK formX) (.str x0) true = some (.tup [.agg [.int .i64 n, y, .fn (.func g) [] caps], .bool true])) (hn : r.length + 1 = n)
    (hr : ∀ {B : List Box} {args : List CV}, Is args (.lst n ((x0 :: r).map .str) true :: caps) → ACall Tryz.prog g args B fun c B' => c = .tup [.agg (acC a), .bool ok] ∧ B' = B) (hA : AcL a) :
    PC Tryz.prog false 23 [.str s] (.tup [.agg (acC a), .bool (ok && (lineS a == s))]) := by
  have hcp : ∀ {B : List Box}, ACall Tryz.prog 41 [.str s, .str sCtl] B fun c B' => c = .tup [.str (Go.Lib.trimPrefix s sCtl), .bool false] ∧ B' = B := by
    intro B
    have := @cutPrefix_at B s sCtl
    rwa [hp] at this
  have htl : (Go.Lib.trimSuffix s [10]).length ≤ s.length := by
    unfold Go.Lib.trimSuffix
    split <;> simp
  have hts : ∀ {B : List Box}, ACall Tryz.prog 43 [.str s, .str [10]] B fun c B' => c = .str (Go.Lib.trimSuffix s [10]) ∧ B' = B := trimSuffix_at (by omega)
  have hsp : ∀ {B : List Box}, ACall Tryz.prog 45 [.str (Go.Lib.trimSuffix s [10]), .str [32]] B fun c B' => c = .lst (wdsS s).length ((wdsS s).map .str) true ∧ B' = B := split_at (by omega)
  obtain ⟨M, hM⟩ : ∃ M, CV.imap formK formX = M := ⟨_, rfl⟩
  rw [hM] at hk
  have hf : ∀ {B : List Box} {args : List CV}, Is args [] → ACall Tryz.prog 46 args B fun c B' => c = M ∧ B' = B := forms_at hM
  rw [hw] at hsp
  have hl := acC_len hA
  have ho : ∀ {nz : Bool} {B : List Box} {k : Nat}, omap (Go.Sy.fz nz false B (k + 3)) (acC a) = some (acC a) := acC_om
  have htk : (acC a).take 60 = acC a := List.take_of_length_le (by omega)
  have hln : ∀ {B : List Box} {args : List CV}, Is (omap (Go.Sy.fz true false B 6) args) (some [.agg (acC a)]) → ACall Tryz.prog 25 args B fun c B' => c = .str (lineS a) ∧ B' = B := fun hz => line_at hz hA
  rw [sCtl] at *
  simp only [List.length_cons, List.map_cons, hn] at hsp
  simp only [List.map_cons] at hr
  generalize Go.Lib.trimPrefix s _ = s1 at *
  generalize Go.Lib.trimSuffix s _ = s2 at *
  generalize lineS a = L at *
  generalize acC a = Y at *
  generalize r.map CV.str = R at *
  have hn0 : (0 : Int) < n := by omega
  clear hM hw hn hA
  cases ok
  · refine acall_intro mixed Tryz.func23 rfl ca23 (by kernel_rfl) (by rw [Tryz.ntmps23]; simp) ?_
    repeat' (first | (with_reducible first | apply jA | apply jB | apply jC | apply jD | apply jE | apply jF | apply jG | apply jH | apply jI | apply jJ | apply jK | apply jL | apply jM | apply jN | apply jO) | ((with_reducible first | apply jP | apply jQ); rfl) | ((with_reducible apply w_drawA); (conv => lhs; reduce); exact kE; exact kE) | ((first | ((with_reducible first | apply d_made | apply q_made); rfl; rfl)); (iterate 6 exact kE)) | ((first | ((with_reducible first | apply d_fop | apply q_fop); rfl; rfl)); (intro Bx hJ; (first | (obtain ⟨_, hJ1, hJ2⟩ := hJ) | (try simp only at hJ)); exact kE)) | ((with_reducible first | apply d_free | apply q_free); rfl; (iterate 2 exact kE); (intro Bx hJ); (first | ((with_reducible apply hcp) <;> exact kD) | ((with_reducible apply hts) <;> exact kD) | ((with_reducible apply hsp) <;> exact kD) | ((with_reducible apply hf) <;> exact kD) | ((with_reducible apply hr) <;> exact kD) | ((with_reducible apply hln) <;> exact kD))) | ((first | ((with_reducible first | apply jR | apply jS | apply jT); rfl; rfl) | (with_reducible first | apply jU | apply jV | apply jW) | ((with_reducible first | apply jX | apply jY | apply jZ); rfl) | ((with_reducible first | apply kA | apply kB | apply kC); rfl)); all_goals (first | ((with_reducible show Is _ _); exact kE) | ((with_reducible refine fun (hc : (_ : Bool) = _) => ?_); (try simp only [xZ, xY, xP, reduceCtorEq] at hc); (try (have hx : True := hc; clear hx hc)); (try exact kX)) | ((with_reducible show ACall _ _ _ _ _); (first | ((with_reducible apply hcp) <;> exact kD) | ((with_reducible apply hts) <;> exact kD) | ((with_reducible apply hsp) <;> exact kD) | ((with_reducible apply hf) <;> exact kD) | ((with_reducible apply hr) <;> exact kD) | ((with_reducible apply hln) <;> exact kD))) | ((fail_if_success (with_reducible first | show Is _ _ | show ACall _ _ _ _ _)); (try ((with_reducible show _ ∨ _); first | exact .inl rfl | (refine .inr ⟨rfl, ?_, ?_⟩; (focus (repeat (first | exact trivial | refine ⟨.inl rfl, ?_⟩ | refine ⟨.inr rfl, ?_⟩ | refine ⟨.inr (by (simp (disch := first | omega | (simp only [yZ, yB] <;> omega) | fail) [go_sem, yY, *, -List.map_take, -List.map_drop, -List.map_append, -List.map_reverse])), ?_⟩))); (first | exact trivial | exact rfl | (refine ⟨_, ?_, ?_⟩; (focus (simp (disch := first | omega | (simp only [yZ, yB] <;> omega) | fail) [go_sem, yY, *, -List.map_take, -List.map_drop, -List.map_append, -List.map_reverse]; (try exact rfl))); (simp (disch := first | omega | (simp only [yZ, yB] <;> omega) | fail) [go_sem, yY, *, -List.map_take, -List.map_drop, -List.map_append, -List.map_reverse])) | (simp (disch := first | omega | (simp only [yZ, yB] <;> omega) | fail) [go_sem, yY, *, -List.map_take, -List.map_drop, -List.map_append, -List.map_reverse]))) | exact .inl (by (simp (disch := first | omega | (simp only [yZ, yB] <;> omega) | fail) [go_sem, yY, *, -List.map_take, -List.map_drop, -List.map_append, -List.map_reverse]))))))))
    all_goals simp [go_sem, ho]
  · refine acall_intro mixed Tryz.func23 rfl ca23 (by kernel_rfl) (by rw [Tryz.ntmps23]; simp) ?_
    repeat' (first | (with_reducible first | apply jA | apply jB | apply jC | apply jD | apply jE | apply jF | apply jG | apply jH | apply jI | apply jJ | apply jK | apply jL | apply jM | apply jN | apply jO) | ((with_reducible first | apply jP | apply jQ); rfl) | ((with_reducible apply w_drawA); (conv => lhs; reduce); exact kE; exact kE) | ((first | ((with_reducible first | apply d_made | apply q_made); rfl; rfl)); (iterate 6 exact kE)) | ((first | ((with_reducible first | apply d_fop | apply q_fop); rfl; rfl)); (intro Bx hJ; (first | (obtain ⟨_, hJ1, hJ2⟩ := hJ) | (try simp only at hJ)); exact kE)) | ((with_reducible first | apply d_free | apply q_free); rfl; (iterate 2 exact kE); (intro Bx hJ); (first | ((with_reducible apply hcp) <;> exact kD) | ((with_reducible apply hts) <;> exact kD) | ((with_reducible apply hsp) <;> exact kD) | ((with_reducible apply hf) <;> exact kD) | ((with_reducible apply hr) <;> exact kD) | ((with_reducible apply hln) <;> exact kD))) | ((first | ((with_reducible first | apply jR | apply jS | apply jT); rfl; rfl) | (with_reducible first | apply jU | apply jV | apply jW) | ((with_reducible first | apply jX | apply jY | apply jZ); rfl) | ((with_reducible first | apply kA | apply kB | apply kC); rfl)); all_goals (first | ((with_reducible show Is _ _); exact kE) | ((with_reducible refine fun (hc : (_ : Bool) = _) => ?_); (try simp only [xZ, xY, xP, reduceCtorEq] at hc); (try (have hx : True := hc; clear hx hc)); (try exact kX)) | ((with_reducible show ACall _ _ _ _ _); (first | ((with_reducible apply hcp) <;> exact kD) | ((with_reducible apply hts) <;> exact kD) | ((with_reducible apply hsp) <;> exact kD) | ((with_reducible apply hf) <;> exact kD) | ((with_reducible apply hr) <;> exact kD) | ((with_reducible apply hln) <;> exact kD))) | ((fail_if_success (with_reducible first | show Is _ _ | show ACall _ _ _ _ _)); (try ((with_reducible show _ ∨ _); first | exact .inl rfl | (refine .inr ⟨rfl, ?_, ?_⟩; (focus (repeat (first | exact trivial | refine ⟨.inl rfl, ?_⟩ | refine ⟨.inr rfl, ?_⟩ | refine ⟨.inr (by (simp (disch := first | omega | (simp only [yZ, yB] <;> omega) | fail) [go_sem, yY, *, -List.map_take, -List.map_drop, -List.map_append, -List.map_reverse])), ?_⟩))); (first | exact trivial | exact rfl | (refine ⟨_, ?_, ?_⟩; (focus (simp (disch := first | omega | (simp only [yZ, yB] <;> omega) | fail) [go_sem, yY, *, -List.map_take, -List.map_drop, -List.map_append, -List.map_reverse]; (try exact rfl))); (simp (disch := first | omega | (simp only [yZ, yB] <;> omega) | fail) [go_sem, yY, *, -List.map_take, -List.map_drop, -List.map_append, -List.map_reverse])) | (simp (disch := first | omega | (simp only [yZ, yB] <;> omega) | fail) [go_sem, yY, *, -List.map_take, -List.map_drop, -List.map_append, -List.map_reverse]))) | exact .inl (by (simp (disch := first | omega | (simp only [yZ, yB] <;> omega) | fail) [go_sem, yY, *, -List.map_take, -List.map_drop, -List.map_append, -List.map_reverse]))))))))
    all_goals simp [go_sem, ho]
end Go.Proofs.YtcbdghgogmcllaaGreatDoor
end
section
namespace Go.Proofs.YtcbdghgogmcllaaGreatDoor
open Go Go.Sy
theorem i64_zero : i64 0 := ⟨by decide, by decide⟩
theorem numW_i64 (s : List UInt8) : i64 (numW s).1 := by
  unfold numW
  rw [Go.Lib.parseIntB_64, Go.Lib.intSat_64]
  cases h : Go.Lib.atoiAll s with
  | ok n => exact Go.Lib.atoiAll_bounds h
  | range => exact Go.Lib.atoiSat_bounds s
  | _ => exact i64_zero
theorem smallW_i64 (s : List UInt8) : i64 (smallW s).1 := by
  unfold smallW
  cases h : Go.Lib.atoiAll s with
  | ok n => exact Go.Lib.atoiAll_bounds h
  | range => exact Go.Lib.atoiSat_bounds s
  | _ => exact i64_zero
theorem whoW_i64 (s : List UInt8) : i64 (whoW s).1 := smallW_i64 s
theorem unhexW_le (s : List UInt8) : (unhexW s).1.length ≤ s.length := by
  unfold unhexW
  split
  · simp
  · split
    · rename_i l h
      have := unhex_len _ _ h
      dsimp only; omega
    · simp
theorem act0_L : AcL act0 := ⟨⟨rfl, i64_zero, i64_zero, i64_zero, by decide, by decide⟩, i64_zero, i64_zero, i64_zero, i64_zero, i64_zero, rfl⟩
theorem evA_L {e : Ev} (h : EvL e) : AcL (evA e) := ⟨h, ⟨by show (-9223372036854775808 : Int) ≤ 1; decide, by show (1 : Int) ≤ 9223372036854775807; decide⟩, i64_zero, i64_zero, i64_zero, i64_zero, rfl⟩
theorem ctlW_L {s : List UInt8} (h : (ctlT s).length < 1000000) : AcL (ctlW s) := evA_L ⟨rfl, ⟨by show (-9223372036854775808 : Int) ≤ 5; decide, by show (5 : Int) ≤ 9223372036854775807; decide⟩, i64_zero, i64_zero, by show (0 : Nat) < 1000000; decide, h⟩
def readW (w : List (List UInt8)) : Ac × Bool := match w with
  | [x0, x1] => if x0 = wPlain then (evA { ev0 with kind := 1, bytes := (unhexW x1).1 }, (unhexW x1).2) else if x0 = wTick then (evA { ev0 with kind := 3, time := (numW x1).1 }, (numW x1).2) else if x0 = wEntropy then (evA { ev0 with kind := 4, bytes := (unhexW x1).1 }, (unhexW x1).2)
    else if x0 = wAbort then barW 4 x1 else if x0 = wKill then barW 5 x1 else (act0, false)
  | [x0, x1, x2] => if x0 = wDatagram then dgW x1 x2 else if x0 = wPick then nmbW 3 x1 x2 else if x0 = wCut then nmbW 7 x1 x2 else (act0, false)
  | [x0, x1, x2, x3] => if x0 = wHandoff then handW x1 x2 x3 else if x0 = wCorrupt then corW x1 x2 x3 else (act0, false)
  | _ => (act0, false)
def parseS (s : List UInt8) : Ac × Bool := if Go.Lib.hasPrefix s sCtl then (ctlW s, prS (ctlT s) && (lineS (ctlW s) == s)) else ((readW (wdsS s)).1, (readW (wdsS s)).2 && (lineS (readW (wdsS s)).1 == s))
theorem parseE_port {s : List UInt8} {six : Bool} {A : List UInt8} {n : Nat} (h : parseE s = some (six, A, n)) : n ≤ 65535 := by
  unfold parseE at h
  split at h
  · cases h
  · unfold endE at h
    split at h
    · split at h
      · rename_i hh
        simp at h
        obtain ⟨_, _, rfl⟩ := h
        exact hh.2.2.1
      · cases h
    · cases h
theorem readW_L {w : List (List UInt8)} (h : ∀ x ∈ w, x.length < 1000000) : AcL (readW w).1 := by
  have hb : ∀ (k : Int) (x : List UInt8), i64 k → x.length < 1000000 → AcL (evA { ev0 with kind := k, bytes := (unhexW x).1 }) := fun k x hk hx => evA_L ⟨rfl, hk, i64_zero, i64_zero, by have := unhexW_le x; show (unhexW x).1.length < 1000000; omega, by show (0 : Nat) < 1000000; decide⟩
  have hsm : ∀ k : Int, 0 ≤ k → k ≤ 7 → i64 k := fun k h1 h2 => ⟨by omega, by omega⟩
  unfold readW
  split
  · rename_i x0 x1
    repeat' split
    · exact hb 1 x1 (hsm _ (by decide) (by decide)) (h x1 (by simp))
    · exact evA_L ⟨rfl, hsm 3 (by decide) (by decide), i64_zero, numW_i64 x1, by show (0 : Nat) < 1000000; decide, by show (0 : Nat) < 1000000; decide⟩
    · exact hb 4 x1 (hsm _ (by decide) (by decide)) (h x1 (by simp))
    · exact ⟨act0_L.ev, hsm 4 (by decide) (by decide), whoW_i64 x1, i64_zero, i64_zero, i64_zero, rfl⟩
    · exact ⟨act0_L.ev, hsm 5 (by decide) (by decide), whoW_i64 x1, i64_zero, i64_zero, i64_zero, rfl⟩
    · exact act0_L
  · rename_i x0 x1 x2
    repeat' split
    · unfold dgW
      split
      · rename_i six A n he
        have := parseE_port he
        have := unhexW_le x2
        have := h x2 (by simp)
        exact evA_L ⟨parseE_ip he, hsm 2 (by decide) (by decide), ⟨by show (-9223372036854775808 : Int) ≤ n; omega, by show (n : Int) ≤ 9223372036854775807; omega⟩, i64_zero, by show (unhexW x2).1.length < 1000000; omega, by show (0 : Nat) < 1000000; decide⟩
      · exact hb 2 x2 (hsm _ (by decide) (by decide)) (h x2 (by simp))
    · exact ⟨act0_L.ev, hsm 3 (by decide) (by decide), whoW_i64 x1, numW_i64 x2, i64_zero, i64_zero, rfl⟩
    · exact ⟨act0_L.ev, hsm 7 (by decide) (by decide), whoW_i64 x1, numW_i64 x2, i64_zero, i64_zero, rfl⟩
    · exact act0_L
  · rename_i x0 x1 x2 x3
    repeat' split
    · unfold handW
      split
      · split
        · rename_i hh
          exact ⟨act0_L.ev, hsm 2 (by decide) (by decide), i64_zero, i64_zero, smallW_i64 x1, smallW_i64 x2, hh.2.2⟩
        · exact act0_L
      · exact act0_L
    · unfold corW
      split
      · split
        · exact ⟨act0_L.ev, hsm 6 (by decide) (by decide), whoW_i64 x1, numW_i64 x2, i64_zero, i64_zero, rfl⟩
        · exact act0_L
      · exact act0_L
    · exact act0_L
  · exact act0_L
theorem ctlT_le (s : List UInt8) : (ctlT s).length ≤ s.length := by
  have h1 : (Go.Lib.trimPrefix s sCtl).length ≤ s.length := by unfold Go.Lib.trimPrefix; split <;> simp
  unfold ctlT Go.Lib.trimSuffix
  split
  · simp; omega
  · exact h1
theorem wdsS_le {s x : List UInt8} (h : x ∈ wdsS s) : x.length ≤ s.length := by
  have h1 := splitL_mem 32 _ _ h
  have h2 : (Go.Lib.trimSuffix s [10]).length ≤ s.length := by unfold Go.Lib.trimSuffix; split <;> simp
  omega
theorem len_two {α : Type} {r : List α} (h : r.length = 2) : ∃ x1 x2, r = [x1, x2] := by
  match r, h with
  | [a, b], _ => exact ⟨a, b, rfl⟩
theorem len_three {α : Type} {r : List α} (h : r.length = 3) : ∃ x1 x2 x3, r = [x1, x2, x3] := by
  match r, h with
  | [a, b, c], _ => exact ⟨a, b, c, rfl⟩
theorem look_miss {x : List UInt8} (h : x ∉ [wPlain, wDatagram, wTick, wEntropy, wHandoff, wPick, wCut, wAbort, wKill, wCorrupt]) : lookC Tryz.prog 101 (.imap formK formX) (.str x) true = some (.tup [formZ, .bool false]) := by
  simp only [List.mem_cons, not_or, List.not_mem_nil, not_false_eq_true, and_true] at h
  obtain ⟨h1, h2, h3, h4, h5, h6, h7, h8, h9, h10⟩ := h
  have e1 : (x == wPlain) = false := by simpa using h1
  have e2 : (x == wDatagram) = false := by simpa using h2
  have e3 : (x == wTick) = false := by simpa using h3
  have e4 : (x == wEntropy) = false := by simpa using h4
  have e5 : (x == wHandoff) = false := by simpa using h5
  have e6 : (x == wPick) = false := by simpa using h6
  have e7 : (x == wCut) = false := by simpa using h7
  have e8 : (x == wAbort) = false := by simpa using h8
  have e9 : (x == wKill) = false := by simpa using h9
  have e10 : (x == wCorrupt) = false := by simpa using h10
  have hu : Tryz.prog.underlying 9 = some .string := Tryz.underlying9
  simp [lookC, Tryz.underlying101, formK, formX, findC, hu, sameC, e1, e2, e3, e4, e5, e6, e7, e8, e9, e10]
  have hz : zvalC Tryz.prog 99 = some formZ := by kernel_rfl
  exact hz
theorem readW_one {x0 : List UInt8} {r : List (List UInt8)} {n : Nat} (hx : (x0 ∈ [wPlain, wTick, wEntropy, wAbort, wKill] ∧ n = 2) ∨ (x0 ∈ [wDatagram, wPick, wCut] ∧ n = 3) ∨ (x0 ∈ [wHandoff, wCorrupt] ∧ n = 4)) (hn : r.length + 1 ≠ n) : readW (x0 :: r) = (act0, false) := by
  match r, hn with
  | [], _ => rfl
  | [x1], hn =>
    rcases hx with ⟨_, rfl⟩ | ⟨hx, rfl⟩ | ⟨hx, rfl⟩
    · simp at hn
    · simp only [List.mem_cons, List.not_mem_nil, or_false] at hx
      rcases hx with rfl | rfl | rfl <;> rfl
    · simp only [List.mem_cons, List.not_mem_nil, or_false] at hx
      rcases hx with rfl | rfl <;> rfl
  | [x1, x2], hn =>
    rcases hx with ⟨hx, rfl⟩ | ⟨_, rfl⟩ | ⟨hx, rfl⟩
    · simp only [List.mem_cons, List.not_mem_nil, or_false] at hx
      rcases hx with rfl | rfl | rfl | rfl | rfl <;> rfl
    · simp at hn
    · simp only [List.mem_cons, List.not_mem_nil, or_false] at hx
      rcases hx with rfl | rfl <;> rfl
  | [x1, x2, x3], hn =>
    rcases hx with ⟨hx, rfl⟩ | ⟨hx, rfl⟩ | ⟨_, rfl⟩
    · simp only [List.mem_cons, List.not_mem_nil, or_false] at hx
      rcases hx with rfl | rfl | rfl | rfl | rfl <;> rfl
    · simp only [List.mem_cons, List.not_mem_nil, or_false] at hx
      rcases hx with rfl | rfl | rfl <;> rfl
    · simp at hn
  | _ :: _ :: _ :: _ :: _, _ => rfl
theorem readW_not {x0 : List UInt8} {r : List (List UInt8)} (h : x0 ∉ [wPlain, wDatagram, wTick, wEntropy, wHandoff, wPick, wCut, wAbort, wKill, wCorrupt]) : readW (x0 :: r) = (act0, false) := by
  simp only [List.mem_cons, not_or, List.not_mem_nil, not_false_eq_true, and_true] at h
  obtain ⟨h1, h2, h3, h4, h5, h6, h7, h8, h9, h10⟩ := h
  unfold readW
  split
  · rename_i he; simp at he; obtain ⟨rfl, _⟩ := he; simp [*]
  · rename_i he; simp at he; obtain ⟨rfl, _⟩ := he; simp [*]
  · rename_i he; simp at he; obtain ⟨rfl, _⟩ := he; simp [*]
  · rfl
theorem sparse_in (s : List UInt8) (hs : s.length < 1000000) : PC Tryz.prog false 23 [.str s] (.tup [.agg (acC (parseS s).1), .bool (parseS s).2]) := by
  unfold parseS
  by_cases hp : Go.Lib.hasPrefix s sCtl = true
  · rw [if_pos hp]
    have := ctlT_le s
    exact parse_ctl s hs hp (by omega) (ctlW_L (by omega))
  rw [if_neg hp]
  have hp : Go.Lib.hasPrefix s sCtl = false := by simpa using hp
  have hL : AcL (readW (wdsS s)).1 := readW_L fun x hx => by have := wdsS_le hx; omega
  have hwl : ∀ x ∈ wdsS s, x.length ≤ s.length := fun x hx => wdsS_le hx
  obtain ⟨x0, r, hw⟩ : ∃ x0 r, wdsS s = x0 :: r := by
    cases h : wdsS s with
    | nil => exact absurd h (splitL_ne 32 _)
    | cons x r => exact ⟨x, r, rfl⟩
  rw [hw] at hL hwl ⊢
  by_cases hx : x0 ∈ [wPlain, wDatagram, wTick, wEntropy, wHandoff, wPick, wCut, wAbort, wKill, wCorrupt]
  rotate_left
  · rw [readW_not hx]
    exact parse_miss s hs hp hw (look_miss hx)
  simp only [List.mem_cons, List.not_mem_nil, or_false] at hx
  rcases hx with hx | hx | hx | hx | hx | hx | hx | hx | hx | hx
  · subst hx
    have hk : lookC Tryz.prog 101 (.imap formK formX) (.str wPlain) true = some (.tup [.agg [.int .i64 (2 : Nat), fnC 68, .fn (.func 70) [] []], .bool true]) := by kernel_rfl
    by_cases hn : r.length + 1 = 2
    · obtain ⟨x1, rfl⟩ : ∃ x1, r = [x1] := List.length_eq_one_iff.1 (by omega)
      exact parse_read s hs hp hw hk hn (fun {B args} hz => acall_imm (nz := true) (by have hz : args = _ := hz; subst hz; rfl) (rd1_in  wPlain x1 (by have := hwl x1 (by simp); omega))) hL
    · rw [readW_one (n := 2) (.inl ⟨by decide, rfl⟩) hn]
      exact parse_cnt s hs hp hw hk hn
  · subst hx
    have hk : lookC Tryz.prog 101 (.imap formK formX) (.str wDatagram) true = some (.tup [.agg [.int .i64 (3 : Nat), fnC 72, .fn (.func 74) [] []], .bool true]) := by kernel_rfl
    by_cases hn : r.length + 1 = 3
    · obtain ⟨x1, x2, rfl⟩ : ∃ x1 x2, r = [x1, x2] := len_two (by omega)
      exact parse_read s hs hp hw hk hn (fun {B args} hz => acall_imm (nz := true) (by have hz : args = _ := hz; subst hz; rfl) (rd3_in  wDatagram x1 x2 (by have := hwl x1 (by simp); omega) (by have := hwl x2 (by simp); omega))) hL
    · rw [readW_one (n := 3) (.inr (.inl ⟨by decide, rfl⟩)) hn]
      exact parse_cnt s hs hp hw hk hn
  · subst hx
    have hk : lookC Tryz.prog 101 (.imap formK formX) (.str wTick) true = some (.tup [.agg [.int .i64 (2 : Nat), fnC 76, .fn (.func 78) [] []], .bool true]) := by kernel_rfl
    by_cases hn : r.length + 1 = 2
    · obtain ⟨x1, rfl⟩ : ∃ x1, r = [x1] := List.length_eq_one_iff.1 (by omega)
      exact parse_read s hs hp hw hk hn (fun {B args} hz => acall_imm (nz := true) (by have hz : args = _ := hz; subst hz; rfl) (rd5_in  wTick x1 (by have := hwl x1 (by simp); omega))) hL
    · rw [readW_one (n := 2) (.inl ⟨by decide, rfl⟩) hn]
      exact parse_cnt s hs hp hw hk hn
  · subst hx
    have hk : lookC Tryz.prog 101 (.imap formK formX) (.str wEntropy) true = some (.tup [.agg [.int .i64 (2 : Nat), fnC 80, .fn (.func 81) [] []], .bool true]) := by kernel_rfl
    by_cases hn : r.length + 1 = 2
    · obtain ⟨x1, rfl⟩ : ∃ x1, r = [x1] := List.length_eq_one_iff.1 (by omega)
      exact parse_read s hs hp hw hk hn (fun {B args} hz => acall_imm (nz := true) (by have hz : args = _ := hz; subst hz; rfl) (rd7_in  wEntropy x1 (by have := hwl x1 (by simp); omega))) hL
    · rw [readW_one (n := 2) (.inl ⟨by decide, rfl⟩) hn]
      exact parse_cnt s hs hp hw hk hn
  · subst hx
    have hk : lookC Tryz.prog 101 (.imap formK formX) (.str wHandoff) true = some (.tup [.agg [.int .i64 (4 : Nat), fnC 82, .fn (.func 85) [] []], .bool true]) := by kernel_rfl
    by_cases hn : r.length + 1 = 4
    · obtain ⟨x1, x2, x3, rfl⟩ : ∃ x1 x2 x3, r = [x1, x2, x3] := len_three (by omega)
      exact parse_read s hs hp hw hk hn (fun {B args} hz => acall_imm (nz := true) (by have hz : args = _ := hz; subst hz; rfl) (handW_in  wHandoff x1 x2 x3 (by have := hwl x1 (by simp); omega) (by have := hwl x2 (by simp); omega) (by have := hwl x3 (by simp); omega))) hL
    · rw [readW_one (n := 4) (.inr (.inr ⟨by decide, rfl⟩)) hn]
      exact parse_cnt s hs hp hw hk hn
  · subst hx
    have hk : lookC Tryz.prog 101 (.imap formK formX) (.str wPick) true = some (.tup [.agg [.int .i64 (3 : Nat), fnC 89, .fn (.func 118) [] [.iptr [.int .i64 3]]], .bool true]) := by kernel_rfl
    by_cases hn : r.length + 1 = 3
    · obtain ⟨x1, x2, rfl⟩ : ∃ x1 x2, r = [x1, x2] := len_two (by omega)
      exact parse_read s hs hp hw hk hn (fun {B args} hz => acall_imm (nz := true) (by have hz : args = _ := hz; subst hz; rfl) (nmbW_in 3 wPick x1 x2 (by have := hwl x1 (by simp); omega) (by have := hwl x2 (by simp); omega))) hL
    · rw [readW_one (n := 3) (.inr (.inl ⟨by decide, rfl⟩)) hn]
      exact parse_cnt s hs hp hw hk hn
  · subst hx
    have hk : lookC Tryz.prog 101 (.imap formK formX) (.str wCut) true = some (.tup [.agg [.int .i64 (3 : Nat), fnC 89, .fn (.func 118) [] [.iptr [.int .i64 7]]], .bool true]) := by kernel_rfl
    by_cases hn : r.length + 1 = 3
    · obtain ⟨x1, x2, rfl⟩ : ∃ x1 x2, r = [x1, x2] := len_two (by omega)
      exact parse_read s hs hp hw hk hn (fun {B args} hz => acall_imm (nz := true) (by have hz : args = _ := hz; subst hz; rfl) (nmbW_in 7 wCut x1 x2 (by have := hwl x1 (by simp); omega) (by have := hwl x2 (by simp); omega))) hL
    · rw [readW_one (n := 3) (.inr (.inl ⟨by decide, rfl⟩)) hn]
      exact parse_cnt s hs hp hw hk hn
  · subst hx
    have hk : lookC Tryz.prog 101 (.imap formK formX) (.str wAbort) true = some (.tup [.agg [.int .i64 (2 : Nat), fnC 120, .fn (.func 121) [] [.iptr [.int .i64 4]]], .bool true]) := by kernel_rfl
    by_cases hn : r.length + 1 = 2
    · obtain ⟨x1, rfl⟩ : ∃ x1, r = [x1] := List.length_eq_one_iff.1 (by omega)
      exact parse_read s hs hp hw hk hn (fun {B args} hz => acall_imm (nz := true) (by have hz : args = _ := hz; subst hz; rfl) (barW_in 4 wAbort x1 (by have := hwl x1 (by simp); omega))) hL
    · rw [readW_one (n := 2) (.inl ⟨by decide, rfl⟩) hn]
      exact parse_cnt s hs hp hw hk hn
  · subst hx
    have hk : lookC Tryz.prog 101 (.imap formK formX) (.str wKill) true = some (.tup [.agg [.int .i64 (2 : Nat), fnC 120, .fn (.func 121) [] [.iptr [.int .i64 5]]], .bool true]) := by kernel_rfl
    by_cases hn : r.length + 1 = 2
    · obtain ⟨x1, rfl⟩ : ∃ x1, r = [x1] := List.length_eq_one_iff.1 (by omega)
      exact parse_read s hs hp hw hk hn (fun {B args} hz => acall_imm (nz := true) (by have hz : args = _ := hz; subst hz; rfl) (barW_in 5 wKill x1 (by have := hwl x1 (by simp); omega))) hL
    · rw [readW_one (n := 2) (.inl ⟨by decide, rfl⟩) hn]
      exact parse_cnt s hs hp hw hk hn
  · subst hx
    have hk : lookC Tryz.prog 101 (.imap formK formX) (.str wCorrupt) true = some (.tup [.agg [.int .i64 (4 : Nat), fnC 88, .fn (.func 90) [] []], .bool true]) := by kernel_rfl
    by_cases hn : r.length + 1 = 4
    · obtain ⟨x1, x2, x3, rfl⟩ : ∃ x1 x2 x3, r = [x1, x2, x3] := len_three (by omega)
      exact parse_read s hs hp hw hk hn (fun {B args} hz => acall_imm (nz := true) (by have hz : args = _ := hz; subst hz; rfl) (corW_in  wCorrupt x1 x2 x3 (by have := hwl x1 (by simp); omega) (by have := hwl x2 (by simp); omega) (by have := hwl x3 (by simp); omega))) hL
    · rw [readW_one (n := 4) (.inr (.inr ⟨by decide, rfl⟩)) hn]
      exact parse_cnt s hs hp hw hk hn
theorem parseS_L {s : List UInt8} (hs : s.length < 1000000) : AcL (parseS s).1 := by
  unfold parseS
  split
  · exact ctlW_L (by have := ctlT_le s; omega)
  · exact readW_L fun x hx => by have := wdsS_le hx; omega
theorem parseS_at {B : List Box} {args : List CV} {s : List UInt8} (hz : Is args [.str s]) (hs : s.length < 1000000) : ACall Tryz.prog 23 args B fun c B' => c = .tup [.agg (acC (parseS s).1), .bool (parseS s).2] ∧ B' = B := by
  have hz : args = _ := hz
  subst hz
  exact acall_imm (nz := false) rfl (sparse_in s hs)
end Go.Proofs.YtcbdghgogmcllaaGreatDoor
end
section
namespace Go.Proofs.YtcbdghgogmcllaaGreatDoor
open Go Go.Sy
theorem kE_SM0 {α : Type} {x y : α} (h : Is x y := by first | ((try simp (disch := first | omega | (simp only [yZ, yB] <;> omega) | fail) [go_sem, yY, *, lb, if_pos, if_neg, -List.map_take, -List.map_drop, -List.map_append, -List.map_reverse]); exact rfl) | fail) : Is x y := h
theorem kD_SM0 {p : Prop} (h : p := by (first | omega | assumption | exact rfl | ((simp (disch := first | omega | (simp only [yZ, yB] <;> omega) | fail) [go_sem, yY, *, lb, -List.map_take, -List.map_drop, -List.map_append, -List.map_reverse]) <;> (first | done | omega | exact rfl)) | fail)) : p := h
theorem wB_SM0 {p q : Prop} (k : q) (h : Hq q → p := by (intro k; (repeat' (first | (with_reducible first | apply jA | apply jB | apply jC | apply jD | apply jE | apply jF | apply jG | apply jH | apply jI | apply jJ | apply jK | apply jL | apply jM | apply jN | apply jO) | ((with_reducible first | apply jP | apply jQ); rfl) | ((first | ((with_reducible first | apply jR | apply jS | apply jT); rfl; rfl) | (with_reducible first | apply jU | apply jV | apply jW) | ((with_reducible first | apply jX | apply jY | apply jZ); rfl) | ((with_reducible first | apply kA | apply kB | apply kC); rfl)); all_goals (first | ((with_reducible show Is _ _); exact kE_SM0) | ((with_reducible refine fun (hc : (_ : Bool) = _) => ?_); (try simp only [xZ, xY, xP, reduceCtorEq] at hc); (try (have hx : True := hc; clear hx hc)); (try exact kX)) | ((with_reducible show ACall _ _ _ _ _); (first | ((with_reducible apply c0) <;> exact kD_SM0) | ((with_reducible apply c1) <;> exact kD_SM0) | ((with_reducible apply c2) <;> exact kD_SM0) | ((with_reducible apply c3) <;> exact kD_SM0) | ((with_reducible apply c4) <;> exact kD_SM0) | ((with_reducible apply c5) <;> exact kD_SM0) | ((with_reducible apply c6) <;> exact kD_SM0) | ((with_reducible apply c7) <;> exact kD_SM0))) | ((fail_if_success (with_reducible first | show Is _ _ | show ACall _ _ _ _ _)); (try ((with_reducible show _ ∨ _); exact kT))))) | (((with_reducible first | apply o_callQ | apply q_callQ); rfl); (iterate 2 exact kE_SM0); (first | ((with_reducible apply q0) <;> exact kD_SM0))))); exact hq k)) : p := h ⟨k⟩
theorem w_SM00 {p q : Prop}  (k : q) (h : Hq q → p := by (intro  k; exact wB_SM0 (hq k))) : p := h  ⟨k⟩
theorem eqB_in (a b : List UInt8) (ha : a.length < 1000000) (hb : b.length < 1000000) : PC Tryz.prog true 49 [lb a, lb b] (.bool (a == b)) := by
  have ma : (a.map byteC).length = a.length := List.length_map _
  have mb : (b.map byteC).length = b.length := List.length_map _
  refine acall_intro mixed Tryz.func49 rfl ca49 (by kernel_rfl) (by rw [Tryz.ntmps49]; simp) ?_
  by_cases hl : a.length = b.length
  rotate_left
  · have e : (a == b) = false := by
      rw [beq_eq_false_iff_ne]
      intro e; exact hl (by rw [e])
    rw [e]
    have h1 : ((a.length : Int) == b.length) = false := by simpa using (by omega : (a.length : Int) ≠ b.length)
    have h2 : ((a.length : Int) != b.length) = true := by simpa using (by omega : (a.length : Int) ≠ b.length)
    clear e
    refine w_SM00 ?_ 
    rfl
  have h2 : ((a.length : Int) != b.length) = false := by simpa using (by omega : (a.length : Int) = b.length)
  repeat' (first | (with_reducible first | apply jA | apply jB | apply jC | apply jD | apply jE | apply jF | apply jG | apply jH | apply jI | apply jJ | apply jK | apply jL | apply jM | apply jN | apply jO) | ((with_reducible apply jP); rfl) | ((first | ((with_reducible first | apply jR | apply jS | apply jT); rfl; rfl) | (with_reducible first | apply jU | apply jV | apply jW) | ((with_reducible first | apply jX | apply jY | apply jZ); rfl)); all_goals (first | ((with_reducible show Is _ _); exact kE_SM0) | ((with_reducible refine fun (hc : (_ : Bool) = _) => ?_); (try simp only [xZ, xY, xP, reduceCtorEq] at hc); (try (have hx : True := hc; clear hx hc)); (try exact kX)) | ((fail_if_success (with_reducible first | show Is _ _ | show ACall _ _ _ _ _)); (try ((with_reducible show _ ∨ _); exact kT))))))
  clear h2
  refine w_loop (fun fr B => ∃ j : Nat, j ≤ a.length ∧ a.take j = b.take j ∧ fr 13 = .int .i64 j ∧ fr 12 = .int .i64 a.length ∧ fr 0 = .lst a.length (a.map byteC) false ∧ fr 1 = .lst b.length (b.map byteC) false ∧ B = []) (fun fr _ => a.length - natOf (fr 13)) ?_ ?_
  · exact ⟨0, by omega, by simp, kS, kS, by (simp (disch := omega) [go_sem, *, lb]) <;> (try omega), by (simp (disch := omega) [go_sem, *, lb]) <;> (try omega), rfl⟩
  rintro fr B ⟨j, hj, hn, h13, h12, h0, h1, rfl⟩
  have hm : natOf (fr 13) = j := by rw [h13]; rfl
  by_cases hc : j < a.length
  · have hc2 : j < b.length := by omega
    by_cases he : a[j]'hc = b[j]'hc2
    · have h3 : a.take (j + 1) = b.take (j + 1) := by rw [List.take_succ_eq_append_getElem hc, List.take_succ_eq_append_getElem hc2, hn, he]
      obtain ⟨y, hy⟩ : ∃ y, b[j]'hc2 = y := ⟨_, rfl⟩
      rw [hy] at he
      clear hn
      replace h3 : Hid _ := h3
      refine w_SM00 ?_ 
      exact ⟨⟨j + 1, by omega, h3, kS, kS, kS, kS, rfl⟩, kS⟩
    · have e : (a == b) = false := by
        rw [beq_eq_false_iff_ne]
        intro e; subst e; exact he rfl
      rw [e]
      have hne : (((a[j]'hc).toNat : Int) != ((b[j]'hc2).toNat : Int)) = true := by
        simpa using fun h => he (UInt8.toNat_inj.1 (by omega))
      obtain ⟨y, hy⟩ : ∃ y, a[j]'hc = y := ⟨_, rfl⟩
      obtain ⟨z, hz⟩ : ∃ z, b[j]'hc2 = z := ⟨_, rfl⟩
      rw [hy, hz] at hne
      rw [hy, hz] at he
      have hyz : ¬ y.toNat = z.toNat := fun h => he (UInt8.toNat_inj.1 h)
      clear e hn
      refine w_SM00 ?_ 
      all_goals rfl
  · obtain rfl : j = a.length := by omega
    have e : (a == b) = true := by
      rw [List.take_length, hl, List.take_length] at hn
      simp [hn]
    rw [e]
    clear e hn
    refine w_SM00 ?_ 
    all_goals rfl
theorem eqB_at {B : List Box} {args : List CV} {a b : List UInt8} {n m : Nat} {t : Bool} (hz : Is (omap (fz true false B 6) args) (some [.lst n (a.map byteC) false, .lst m (b.map byteC) false])) (hn : n = a.length) (hm : m = b.length) (ha : a.length < 1000000) (hb : b.length < 1000000) (ht : (a == b) = t) : ACall Tryz.prog 49 args B fun c B' => c = .bool t ∧ B' = B := by
  subst hn hm ht
  exact acall_fresh hz (eqB_in a b ha hb)
def zE : List CV := [.int .i64 0, .bool false, .int .u8 0, .int .u8 0, .int .u8 0, .int .u8 0, .int .u8 0, .int .u8 0, .int .u8 0, .int .u8 0, .int .u8 0, .int .u8 0, .int .u8 0, .int .u8 0, .int .u8 0, .int .u8 0, .int .u8 0, .int .u8 0, .int .i64 0, .nilS, .int .i64 0, .str []]
def sameE (a b : Ev) : Bool := a.kind == b.kind && (a.six == b.six && a.ip == b.ip && a.port == b.port) && a.time == b.time && a.text == b.text && a.bytes == b.bytes
def sameA (a b : Ac) : Bool := a.kind == b.kind && a.who == b.who && a.n == b.n && a.xor == b.xor && a.lo == b.lo && a.hi == b.hi && a.key == b.key && sameE a.ev b.ev
theorem ev_parts {e : Ev} (h : e.ip.length = 16) : (evC e).length = 22 ∧ (evC e).head? = some (.int .i64 e.kind) ∧ (evC e).tail.take 18 = .bool e.six :: (e.ip.map byteC ++ [.int .i64 e.port]) ∧ (evC e).drop 19 = [.lst e.bytes.length (e.bytes.map byteC) false, .int .i64 e.time, .str e.text] ∧ (evC e).drop 20 = [.int .i64 e.time, .str e.text] ∧ (evC e).drop 21 = [.str e.text] := by
  have l1 : (e.ip.map byteC).length = 16 := by simp [h]
  have d19 : (evC e).drop 19 = [.lst e.bytes.length (e.bytes.map byteC) false, .int .i64 e.time, .str e.text] := by
    rw [evC, List.drop_succ_cons, List.drop_succ_cons, show (17 : Nat) = 16 + 1 from rfl, ← List.drop_drop, List.drop_left' l1]
    rfl
  refine ⟨evC_len h, rfl, ?_, d19, ?_, ?_⟩
  · rw [evC, List.tail_cons, List.take_succ_cons, List.take_append, l1, List.take_of_length_le (by omega)]
    rfl
  · rw [show (20 : Nat) = 19 + 1 from rfl, ← List.drop_drop, d19]; rfl
  · rw [show (21 : Nat) = 19 + 2 from rfl, ← List.drop_drop, d19]; rfl
theorem same_in (a b : Ac) (ha : AcL a) (hb : AcL b) : PC Tryz.prog true 26 [.agg (acC a), .agg (acC b)] (.bool (sameA a b)) := by
  have pa := ac_parts ha
  have pb := ac_parts hb
  have a0 := pa.d0; have a1 := pa.d1; have a23 := pa.d23; have a24 := pa.d24; have a25 := pa.d25; have a26 := pa.d26; have a27 := pa.d27; have a28 := pa.d28
  have b0 := pb.d0; have b1 := pb.d1; have b23 := pb.d23; have b24 := pb.d24; have b25 := pb.d25; have b26 := pb.d26; have b27 := pb.d27; have b28 := pb.d28
  have la := pa.len
  have lb' := pb.len
  have ka := ha.key
  have kb := hb.key
  have kta : a.key.take 32 = a.key := List.take_of_length_le (by omega)
  have ktb : b.key.take 32 = b.key := List.take_of_length_le (by omega)
  have hq : ∀ {B : List Box} {args : List CV}, Is (omap (fz true false B 6) args) (some [.lst a.ev.bytes.length (a.ev.bytes.map byteC) false, .lst b.ev.bytes.length (b.ev.bytes.map byteC) false]) → ACall Tryz.prog 49 args B fun c B' => c = .bool (a.ev.bytes == b.ev.bytes) ∧ B' = B := fun hz => eqB_at hz rfl rfl ha.ev.bytes hb.ev.bytes rfl
  have ia := ha.ev.ip
  have ib := hb.ev.ip
  rw [List.drop_one] at a1 b1
  obtain ⟨le, e0, e1, e19, e20, e21⟩ := ev_parts ia
  obtain ⟨lf, f0, f1, f19, f20, f21⟩ := ev_parts ib
  generalize evC a.ev = E at *
  generalize evC b.ev = F at *
  generalize acC a = X at *
  generalize acC b = Y at *
  clear pa pb ha hb
  refine acall_intro mixed Tryz.func26 rfl ca26 (by kernel_rfl) (by rw [Tryz.ntmps26]; simp) ?_
  repeat' (first | (with_reducible first | apply jA | apply jB | apply jC | apply jD | apply jE | apply jF | apply jG | apply jH | apply jI | apply jJ | apply jK | apply jL | apply jM | apply jN | apply jO) | ((with_reducible apply jP); rfl) | ((first | ((with_reducible first | apply jR | apply jS | apply jT); rfl; rfl) | (with_reducible first | apply jU | apply jV | apply jW) | ((with_reducible first | apply jX | apply jY | apply jZ); rfl)); all_goals (first | ((with_reducible show Is _ _); exact kE) | ((with_reducible refine fun (hc : (_ : Bool) = _) => ?_); (try simp only [xZ, xY, xP, reduceCtorEq] at hc); (try (have hx : True := hc; clear hx hc)); (try exact kX)) | ((fail_if_success (with_reducible first | show Is _ _ | show ACall _ _ _ _ _)); (try ((with_reducible show _ ∨ _); exact kT))))))
  refine w_drawJ [3, 4, 5] [⟨[], false⟩, ⟨zE, false⟩, ⟨zE, false⟩] (fun B => B[1]? = some ⟨Y, false⟩) rfl rfl rfl ?_
  rw [zE]
  repeat' (first | (with_reducible first | apply jA | apply jB | apply jC | apply jD | apply jE | apply jF | apply jG | apply jH | apply jI | apply jJ | apply jK | apply jL | apply jM | apply jN | apply jO) | ((with_reducible apply jP); rfl) | ((first | ((with_reducible first | apply d_made | apply q_made); rfl; rfl)); (iterate 6 exact kE)) | ((first | ((with_reducible first | apply d_fop | apply q_fop); rfl; rfl)); (intro Bx hJ; (first | (obtain ⟨_, hJ1, hJ2⟩ := hJ) | (try simp only at hJ)); exact kE)) | ((with_reducible first | apply d_free | apply q_free); rfl; (iterate 2 exact kE); (intro Bx hJ); (first | ((with_reducible apply hq) <;> exact kD))) | ((first | ((with_reducible first | apply jR | apply jS | apply jT); rfl; rfl) | (with_reducible first | apply jU | apply jV | apply jW) | ((with_reducible first | apply jX | apply jY | apply jZ); rfl) | ((with_reducible first | apply kA | apply kB | apply kC); rfl)); all_goals (first | ((with_reducible show Is _ _); exact kE) | ((with_reducible refine fun (hc : (_ : Bool) = _) => ?_); (try simp only [xZ, xY, xP, reduceCtorEq] at hc); (try (have hx : True := hc; clear hx hc)); (try exact kX)) | ((with_reducible show ACall _ _ _ _ _); (first | ((with_reducible apply hq) <;> exact kD))) | ((fail_if_success (with_reducible first | show Is _ _ | show ACall _ _ _ _ _)); (try ((with_reducible show _ ∨ _); first | exact .inl rfl | (refine .inr ⟨rfl, ?_, ?_⟩; (focus (repeat (first | exact trivial | refine ⟨.inl rfl, ?_⟩ | refine ⟨.inr rfl, ?_⟩ | refine ⟨.inr (by (simp (disch := first | omega | (simp only [yZ, yB] <;> omega) | fail) [go_sem, yY, *, -List.map_take, -List.map_drop, -List.map_append, -List.map_reverse])), ?_⟩))); (first | exact trivial | exact rfl | (refine ⟨_, ?_, ?_⟩; (focus (simp (disch := first | omega | (simp only [yZ, yB] <;> omega) | fail) [go_sem, yY, *, -List.map_take, -List.map_drop, -List.map_append, -List.map_reverse]; (try exact rfl))); (simp (disch := first | omega | (simp only [yZ, yB] <;> omega) | fail) [go_sem, yY, *, -List.map_take, -List.map_drop, -List.map_append, -List.map_reverse])) | (simp (disch := first | omega | (simp only [yZ, yB] <;> omega) | fail) [go_sem, yY, *, -List.map_take, -List.map_drop, -List.map_append, -List.map_reverse]))) | exact .inl (by (simp (disch := first | omega | (simp only [yZ, yB] <;> omega) | fail) [go_sem, yY, *, -List.map_take, -List.map_drop, -List.map_append, -List.map_reverse]))))))))
  simp only [List.append_eq, List.cons_append, List.nil_append]
  repeat' (first | (with_reducible first | apply jA | apply jB | apply jC | apply jD | apply jE | apply jF | apply jG | apply jH | apply jI | apply jJ | apply jK | apply jL | apply jM | apply jN | apply jO) | ((with_reducible first | apply jP | apply jQ); rfl) | ((first | ((with_reducible first | apply jR | apply jS | apply jT); rfl; rfl) | (with_reducible first | apply jU | apply jV | apply jW) | ((with_reducible first | apply jX | apply jY | apply jZ); rfl) | ((with_reducible first | apply kA | apply kB | apply kC); rfl)); all_goals (first | ((with_reducible show Is _ _); exact kE) | ((with_reducible refine fun (hc : (_ : Bool) = _) => ?_); (try simp only [xZ, xY, xP, reduceCtorEq] at hc); (try (have hx : True := hc; clear hx hc)); (try exact kX)) | ((with_reducible show ACall _ _ _ _ _); (first | ((with_reducible apply hq) <;> exact kD))) | ((fail_if_success (with_reducible first | show Is _ _ | show ACall _ _ _ _ _)); (try ((with_reducible show _ ∨ _); exact kT))))))
  all_goals
    clear hq la lb' le lf
    clear a23 a24 a25 a26 a27 a28 b23 b24 b25 b26 b27 b28 e0 e1 e19 e20 e21 f0 f1 f19 f20 f21 a0 a1 b0 b1
    have hx : (a.xor = b.xor) = ((a.xor.toNat : Int) = (b.xor.toNat : Int)) := propext ⟨fun h => by rw [h], fun h => UInt8.toNat_inj.1 (by omega)⟩
    rw [fz_bool]
    simp [sameA, sameE, hx, *]
theorem sameA_iff {a b : Ac} : sameA a b = true ↔ a = b := by
  obtain ⟨k, ⟨ek, s, i, p, by_, t, x⟩, w, n, xr, lo, hi, ky⟩ := a
  obtain ⟨k', ⟨ek', s', i', p', by_', t', x'⟩, w', n', xr', lo', hi', ky'⟩ := b
  simp only [sameA, sameE, Bool.and_eq_true, beq_iff_eq, Ac.mk.injEq, Ev.mk.injEq]
  constructor
  · rintro ⟨⟨⟨⟨⟨⟨⟨h1, h2⟩, h3⟩, h4⟩, h5⟩, h6⟩, h7⟩, ⟨⟨⟨g1, ⟨g2, g3⟩, g4⟩, g5⟩, g6⟩, g7⟩
    exact ⟨h1, ⟨g1, g2, g3, g4, g7, g5, g6⟩, h2, h3, h4, h5, h6, h7⟩
  · rintro ⟨h1, ⟨g1, g2, g3, g4, g7, g5, g6⟩, h2, h3, h4, h5, h6, h7⟩
    exact ⟨⟨⟨⟨⟨⟨⟨h1, h2⟩, h3⟩, h4⟩, h5⟩, h6⟩, h7⟩, ⟨⟨⟨g1, ⟨g2, g3⟩, g4⟩, g5⟩, g6⟩, g7⟩
theorem same_at {B : List Box} {args : List CV} {a b : Ac} {t : Bool} (hz : Is (omap (fz true false B 6) args) (some [.agg (acC a), .agg (acC b)])) (ha : AcL a) (hb : AcL b) (ht : sameA a b = t) : ACall Tryz.prog 26 args B fun c B' => c = .bool t ∧ B' = B := by
  subst ht
  exact acall_fresh hz (same_in a b ha hb)
end Go.Proofs.YtcbdghgogmcllaaGreatDoor
end
section
namespace Go.Proofs.YtcbdghgogmcllaaGreatDoor
open Go Go.Sy
theorem pu_snoc : ∀ (l : List UInt8) (acc u : Nat) (c : UInt8), Go.Lib.parseUint10 acc l = .ok u → 48 ≤ c.toNat → c.toNat ≤ 57 → u * 10 + (c.toNat - 48) < 18446744073709551616 → Go.Lib.parseUint10 acc (l ++ [c]) = .ok (u * 10 + (c.toNat - 48))
  | [], acc, u, c, h, h1, h2, h3 => by
    simp only [Go.Lib.parseUint10] at h
    injection h with h
    subst h
    simp only [List.nil_append, Go.Lib.parseUint10]
    rw [if_pos ⟨h1, h2⟩, if_neg (by omega), if_neg (by omega)]
  | d :: l, acc, u, c, h, h1, h2, h3 => by
    simp only [Go.Lib.parseUint10] at h
    simp only [List.cons_append, Go.Lib.parseUint10]
    split at h
    · rename_i hd
      rw [if_pos hd]
      split at h
      · cases h
      · rename_i g1
        rw [if_neg g1]
        split at h
        · cases h
        · rename_i g2
          rw [if_neg g2]
          exact pu_snoc l _ u c h h1 h2 h3
    · cases h
theorem pu_dec (n : Nat) (h : n < 9223372036854775808) : Go.Lib.parseUint10 0 (Go.Lib.decDigits n) = .ok n := by
  induction n using Nat.strongRecOn with
  | ind n ih =>
    rw [Go.Lib.decDigits]
    split
    · have e : (UInt8.ofNat (48 + n)).toNat = 48 + n := by simp; omega
      simp only [Go.Lib.parseUint10, e]
      rw [if_pos (by omega), if_neg (by omega), if_neg (by omega)]
      congr 1; omega
    · have e : (UInt8.ofNat (48 + n % 10)).toNat = 48 + n % 10 := by simp; omega
      have := pu_snoc _ 0 (n / 10) (UInt8.ofNat (48 + n % 10)) (ih (n / 10) (by omega) (by omega)) (by omega) (by omega) (by omega)
      rw [this, e]
      congr 1; omega
theorem dec_ne (n : Nat) : Go.Lib.decDigits n ≠ [] := by
  rw [Go.Lib.decDigits]
  split <;> simp
theorem dec_dig : ∀ (n : Nat), ∀ c ∈ Go.Lib.decDigits n, 48 ≤ c.toNat ∧ c.toNat ≤ 57 := fun n => by
  induction n using Nat.strongRecOn with
  | ind n ih =>
    rw [Go.Lib.decDigits]
    split
    · intro c hc
      simp only [List.mem_singleton] at hc
      subst hc
      simp
      omega
    · intro c hc
      rw [List.mem_append] at hc
      rcases hc with hc | hc
      · exact ih (n / 10) (by omega) c hc
      · simp only [List.mem_singleton] at hc
        subst hc
        simp
        omega
theorem atoi_dec (n : Nat) (h : n < 9223372036854775808) : Go.Lib.atoiAll (Go.Lib.decDigits n) = .ok (n : Int) := by
  have h1 := pu_dec n h
  have h2 := dec_dig n
  have h3 := dec_ne n
  generalize Go.Lib.decDigits n = l at *
  cases l with
  | nil => exact absurd rfl h3
  | cons c r =>
    have := h2 c (by simp)
    rw [Go.Lib.atoiAll_plain c r (by omega) (by omega), Go.Lib.parseMag, if_neg (by simp), h1]
    simp only [Go.Lib.signless]
    rw [if_neg (by omega)]
theorem itoa_nn {n : Int} (h : 0 ≤ n) : Go.Lib.itoa n = Go.Lib.decDigits n.toNat := by rw [Go.Lib.itoa, if_neg (by omega)]
theorem numW_back {n : Int} (h0 : 0 ≤ n) (h1 : n ≤ 4611686018427387904) : numW (Go.Lib.itoa n) = (n, true) := by
  rw [itoa_nn h0, numW, Go.Lib.parseIntB_64, atoi_dec _ (by omega)]
  have e : ((n.toNat : Nat) : Int) = n := by omega
  simp only [e, h0, h1, decide_true, Bool.and_self]
theorem dec_small {n : Nat} (h : n < 10) : Go.Lib.decDigits n = [UInt8.ofNat (48 + n)] := by rw [Go.Lib.decDigits, dif_pos h]
theorem smallW_back {n : Int} (h0 : 0 ≤ n) (h1 : n ≤ 9) : smallW (Go.Lib.itoa n) = (n, true) := by
  rw [itoa_nn h0, smallW, atoi_dec _ (by omega), dec_small (by omega)]
  have e : ((n.toNat : Nat) : Int) = n := by omega
  simp only [e, List.length_cons, List.length_nil, Nat.zero_add, decide_true]
theorem whoW_back {n : Int} (h0 : 0 ≤ n) (h1 : n ≤ 1) : whoW (Go.Lib.itoa n) = (n, true) := by
  rw [whoW, smallW_back h0 (by omega)]
  simp only [h1, decide_true, Bool.and_self]
theorem numW_ok {s : List UInt8} {n : Int} (h : numW s = (n, true)) : 0 ≤ n ∧ n ≤ 4611686018427387904 := by
  unfold numW at h
  split at h
  · simp only [Prod.mk.injEq, Bool.and_eq_true, decide_eq_true_eq] at h
    obtain ⟨rfl, h⟩ := h
    exact h
  · cases h
  · cases h
theorem smallW_ok {s : List UInt8} {n : Int} (h : smallW s = (n, true)) : 0 ≤ n ∧ n ≤ 9 := by
  unfold smallW at h
  split at h
  · rename_i m hm
    simp only [Prod.mk.injEq, decide_eq_true_eq] at h
    obtain ⟨rfl, h⟩ := h
    match s, h with
    | [c], _ =>
    by_cases e1 : c = 43
    · subst e1; rw [Go.Lib.atoiAll_plus] at hm; cases hm
    by_cases e2 : c = 45
    · subst e2; rw [Go.Lib.atoiAll_minus] at hm; cases hm
    rw [Go.Lib.atoiAll_plain c [] (fun e => e1 (UInt8.toNat_inj.1 e)) (fun e => e2 (UInt8.toNat_inj.1 e)), Go.Lib.parseMag, if_neg (by simp)] at hm
    simp only [Go.Lib.parseUint10] at hm
    have hc := c.toNat_lt
    split at hm
    · rename_i hd
      rw [if_neg (by omega), if_neg (by omega)] at hm
      simp only [Go.Lib.signless] at hm
      rw [if_neg (by omega)] at hm
      injection hm with hm
      omega
    · cases hm
  · cases h
  · cases h
theorem whoW_ok {s : List UInt8} {n : Int} (h : whoW s = (n, true)) : 0 ≤ n ∧ n ≤ 1 := by
  unfold whoW at h
  simp only [Prod.mk.injEq, Bool.and_eq_true, decide_eq_true_eq] at h
  obtain ⟨rfl, h1, h2⟩ := h
  exact ⟨(smallW_ok (s := s) (Prod.ext rfl h1)).1, h2⟩
end Go.Proofs.YtcbdghgogmcllaaGreatDoor
end
section
namespace Go.Proofs.YtcbdghgogmcllaaGreatDoor
open Go Go.Sy
theorem kE_RA0 {α : Type} {x y : α} (h : Is x y := by first | ((try simp (disch := first | omega | (simp only [yZ, yB] <;> omega) | fail) [go_sem, yY, *, lb, if_pos, if_neg, -List.map_take, -List.map_drop, -List.map_append, -List.map_reverse]); exact rfl) | fail) : Is x y := h
theorem kD_RA0 {p : Prop} (h : p := by (first | omega | assumption | exact rfl | ((simp (disch := first | omega | (simp only [yZ, yB] <;> omega) | fail) [go_sem, yY, *, lb, -List.map_take, -List.map_drop, -List.map_append, -List.map_reverse]) <;> (first | done | omega | exact rfl)) | fail)) : p := h
theorem wB_RA0 {p q : Prop} (k : q) (h : Hq q → p := by (intro k; (repeat' (first | (with_reducible first | apply jA | apply jB | apply jC | apply jD | apply jE | apply jF | apply jG | apply jH | apply jI | apply jJ | apply jK | apply jL | apply jM | apply jN | apply jO) | ((with_reducible first | apply jP | apply jQ); rfl) | ((first | ((with_reducible first | apply jR | apply jS | apply jT); rfl; rfl) | (with_reducible first | apply jU | apply jV | apply jW) | ((with_reducible first | apply jX | apply jY | apply jZ); rfl) | ((with_reducible first | apply kA | apply kB | apply kC); rfl)); all_goals (first | ((with_reducible show Is _ _); exact kE_RA0) | ((with_reducible refine fun (hc : (_ : Bool) = _) => ?_); (try simp only [xZ, xY, xP, reduceCtorEq] at hc); (try (have hx : True := hc; clear hx hc)); (try exact kX)) | ((with_reducible show ACall _ _ _ _ _); (first | ((with_reducible apply c0) <;> exact kD_RA0) | ((with_reducible apply c1) <;> exact kD_RA0) | ((with_reducible apply c2) <;> exact kD_RA0) | ((with_reducible apply c3) <;> exact kD_RA0) | ((with_reducible apply c4) <;> exact kD_RA0) | ((with_reducible apply c5) <;> exact kD_RA0) | ((with_reducible apply c6) <;> exact kD_RA0) | ((with_reducible apply c7) <;> exact kD_RA0))) | ((fail_if_success (with_reducible first | show Is _ _ | show ACall _ _ _ _ _)); (try ((with_reducible show _ ∨ _); exact kT))))) | (((with_reducible first | apply o_callQ | apply q_callQ); rfl); (iterate 2 exact kE_RA0); (first | ((with_reducible apply q0) <;> exact kD_RA0))))); exact hq k)) : p := h ⟨k⟩
theorem w_RA00 {p q : Prop}  (k : q) (h : Hq q → p := by (intro  k; exact wB_RA0 (hq k))) : p := h  ⟨k⟩
theorem w_RA01 {A0 p q : Prop} (c0 : A0) (k : q) (h : A0 → Hq q → p := by (intro c0 k; exact wB_RA0 (hq k))) : p := h c0 ⟨k⟩
theorem rdecM_at {n : Nat} (hn : n < 9223372036854775808) {B : List Box} : ACall Tryz.prog 29 [.int .i64 n] B fun c B' => c = .str (Go.Lib.decDigits n) ∧ B' = B := by
  by_cases h10 : n < 10
  · exact rdec_at n (by omega)
  · rw [Go.Lib.decDigits, dif_neg h10]
    have hr : ∀ {B : List Box} {args : List CV}, Is args [.int .i64 ((n : Int) / 10)] → ACall Tryz.prog 29 args B fun c B' => c = .str (Go.Lib.decDigits (n / 10)) ∧ B' = B := fun {B args} h => by
      have h : _ = _ := h
      subst h
      rw [show ((n : Int) / 10) = ((n / 10 : Nat) : Int) by omega]
      exact rdec_at (n / 10) (by omega)
    have hb := byte_nat (48 + n % 10) (by omega)
    have hlen := decDigits_len 18 (n / 10) (by omega)
    generalize UInt8.ofNat (48 + n % 10) = x at *
    have hb' : CV.int .u8 (48 + (n : Int) % 10) = byteC x := by rw [hb]; congr 1
    generalize Go.Lib.decDigits (n / 10) = D at *
    clear hb
    refine acall_intro mixed Tryz.func29 rfl ca29 (by kernel_rfl) (by rw [Tryz.ntmps29]; simp) ?_
    refine w1 @hr ?_ 
    exact ⟨rfl, rfl⟩
def decM (n : Int) : List UInt8 := Go.Lib.decDigits (max n 0).toNat
theorem decM_at {n : Int} (h : i64 n) {B : List Box} {args : List CV} (hz : Is args [.int .i64 (max n 0)]) : ACall Tryz.prog 29 args B fun c B' => c = .str (decM n) ∧ B' = B := by
  have hz : args = _ := hz
  subst hz
  have e : (max n 0) = (((max n 0).toNat : Nat) : Int) := by omega
  have := @rdecM_at (max n 0).toNat (by have := h.2; omega) B
  rw [← e] at this
  exact this
theorem decM_len {n : Int} (h : i64 n) : (decM n).length ≤ 19 := decDigits_len 18 _ (by have := h.2; omega)
def textE (e : Ev) : List UInt8 := if e.kind = 1 then wPlain ++ [32] ++ hexW e.bytes else if e.kind = 2 then wDatagram ++ [32] ++ fmtE e.six e.ip e.port ++ [32] ++ hexW e.bytes else if e.kind = 3 then wTick ++ [32] ++ decM e.time else if e.kind = 4 then wEntropy ++ [32] ++ hexW e.bytes else if e.kind = 5 then wControl ++ [32] ++ e.text else []
def textR (a : Ac) : List UInt8 := if a.kind = 1 then textE a.ev else if a.kind = 2 then wHandoff ++ [32] ++ decM a.lo ++ [32] ++ decM a.hi ++ [32] ++ hexS a.key else if a.kind = 3 then wPick ++ [32] ++ decM a.who ++ [32] ++ decM a.n else if a.kind = 4 then wAbort ++ [32] ++ decM a.who
  else if a.kind = 5 then wKill ++ [32] ++ decM a.who else if a.kind = 6 then wCorrupt ++ [32] ++ decM a.who ++ [32] ++ decM a.n ++ [32] ++ hexS [a.xor] else if a.kind = 7 then wCut ++ [32] ++ decM a.who ++ [32] ++ decM a.n else []
theorem rhexW_in (l : List UInt8) (hl : l.length < 1073741823) : PC Tryz.prog true 51 [lb l] (.str (hexW l)) := by
  have hh : ∀ {B : List Box} {args : List CV}, Is (omap (fz true false B 6) args) (some [.lst l.length (l.map byteC) false]) → ACall Tryz.prog 31 args B fun c B' => c = .str (hexS l) ∧ B' = B := fun h => rhex_at h hl
  refine acall_intro mixed Tryz.func51 rfl ca51 (by kernel_rfl) (by rw [Tryz.ntmps51]; simp) ?_
  by_cases h : l = []
  · subst h
    rw [hexW, if_pos rfl]
    refine w_RA00 ?_ 
    rfl
  · rw [hexW, if_neg h]
    have h0 : l.length ≠ 0 := fun e => h (List.eq_nil_of_length_eq_zero e)
    have hm : (l.map byteC).length = l.length := List.length_map _
    generalize hexS l = s at *
    refine w_RA01 @hh ?_ 
    rfl
theorem rhexW_at {B : List Box} {args : List CV} {l : List UInt8} {n : Nat} (hz : Is (omap (fz true false B 6) args) (some [.lst n (l.map byteC) false])) (hn : n = l.length) (hl : l.length < 1073741823) : ACall Tryz.prog 51 args B fun c B' => c = .str (hexW l) ∧ B' = B := by
  subst hn
  exact acall_fresh hz (rhexW_in l hl)
theorem textE_in (e : Ev) (h : EvL e) : PC Tryz.prog true 30 [.agg (evC e)] (.str (textE e)) := by
  obtain ⟨le, e0, e1, e19, e20, e21⟩ := ev_parts h.ip
  have hx : ∀ {B : List Box} {args : List CV}, Is (omap (fz true false B 6) args) (some [.lst e.bytes.length (e.bytes.map byteC) false]) → ACall Tryz.prog 51 args B fun c B' => c = .str (hexW e.bytes) ∧ B' = B := fun hz => rhexW_at hz rfl (by have := h.bytes; omega)
  have hf : ∀ {B : List Box} {args : List CV}, Is (omap (fz true false B 6) args) (some [.agg (.bool e.six :: (e.ip.map byteC ++ [.int .i64 e.port]))]) → ACall Tryz.prog 52 args B fun c B' => c = .str (fmtE e.six e.ip e.port) ∧ B' = B := fun hz => rfmtE_at hz h.ip h.port
  have hd : ∀ {B : List Box} {args : List CV}, Is args [.int .i64 (max e.time 0)] → ACall Tryz.prog 29 args B fun c B' => c = .str (decM e.time) ∧ B' = B := fun hz => decM_at h.time hz
  have hb : e.bytes.length < 1000000 := h.bytes
  have ht : e.text.length < 1000000 := h.text
  have hxl := hexW_len h.bytes
  have hfl := fmtE_len e.six e.ip e.port
  have hdl : (decM e.time).length ≤ 19 := decM_len h.time
  have hl18 : 18 ≤ (evC e).length - 1 := by omega
  clear le
  unfold textE
  generalize evC e = E at *
  generalize hexW e.bytes = s1 at *
  generalize fmtE e.six e.ip e.port = s2 at *
  generalize decM e.time = s3 at *
  generalize e.kind = k at *
  by_cases k1 : k = 1
  · subst k1
    rw [if_pos rfl]
    refine acall_intro mixed Tryz.func30 rfl ca30 (by kernel_rfl) (by rw [Tryz.ntmps30]; simp) ?_
    refine w1 @hx ?_ 
    all_goals rfl
  rw [if_neg k1]
  have b1 : (k == 1) = false := by simpa using k1
  by_cases k2 : k = 2
  · subst k2
    rw [if_pos rfl]
    refine acall_intro mixed Tryz.func30 rfl ca30 (by kernel_rfl) (by rw [Tryz.ntmps30]; simp) ?_
    repeat' (first | (with_reducible first | apply jA | apply jB | apply jC | apply jD | apply jE | apply jF | apply jG | apply jH | apply jI | apply jJ | apply jK | apply jL | apply jM | apply jN | apply jO) | ((with_reducible first | apply jP | apply jQ); rfl) | ((with_reducible apply w_drawA); (conv => lhs; reduce); exact kE; exact kE) | ((first | ((with_reducible first | apply d_made | apply q_made); rfl; rfl)); (iterate 6 exact kE)) | ((first | ((with_reducible first | apply d_fop | apply q_fop); rfl; rfl)); (intro Bx hJ; (first | (obtain ⟨_, hJ1, hJ2⟩ := hJ) | (try simp only at hJ)); exact kE)) | ((with_reducible first | apply d_free | apply q_free); rfl; (iterate 2 exact kE); (intro Bx hJ); (first | ((with_reducible apply hx) <;> exact kD) | ((with_reducible apply hf) <;> exact kD))) | ((first | ((with_reducible first | apply jR | apply jS | apply jT); rfl; rfl) | (with_reducible first | apply jU | apply jV | apply jW) | ((with_reducible first | apply jX | apply jY | apply jZ); rfl) | ((with_reducible first | apply kA | apply kB | apply kC); rfl)); all_goals (first | ((with_reducible show Is _ _); exact kE) | ((with_reducible refine fun (hc : (_ : Bool) = _) => ?_); (try simp only [xZ, xY, xP, reduceCtorEq] at hc); (try (have hx : True := hc; clear hx hc)); (try exact kX)) | ((with_reducible show ACall _ _ _ _ _); (first | ((with_reducible apply hx) <;> exact kD) | ((with_reducible apply hf) <;> exact kD))) | ((fail_if_success (with_reducible first | show Is _ _ | show ACall _ _ _ _ _)); (try ((with_reducible show _ ∨ _); first | exact .inl rfl | (refine .inr ⟨rfl, ?_, ?_⟩; (focus (repeat (first | exact trivial | refine ⟨.inl rfl, ?_⟩ | refine ⟨.inr rfl, ?_⟩ | refine ⟨.inr (by (simp (disch := first | omega | (simp only [yZ, yB] <;> omega) | fail) [go_sem, yY, *, -List.map_take, -List.map_drop, -List.map_append, -List.map_reverse])), ?_⟩))); (first | exact trivial | exact rfl | (refine ⟨_, ?_, ?_⟩; (focus (simp (disch := first | omega | (simp only [yZ, yB] <;> omega) | fail) [go_sem, yY, *, -List.map_take, -List.map_drop, -List.map_append, -List.map_reverse]; (try exact rfl))); (simp (disch := first | omega | (simp only [yZ, yB] <;> omega) | fail) [go_sem, yY, *, -List.map_take, -List.map_drop, -List.map_append, -List.map_reverse])) | (simp (disch := first | omega | (simp only [yZ, yB] <;> omega) | fail) [go_sem, yY, *, -List.map_take, -List.map_drop, -List.map_append, -List.map_reverse]))) | exact .inl (by (simp (disch := first | omega | (simp only [yZ, yB] <;> omega) | fail) [go_sem, yY, *, -List.map_take, -List.map_drop, -List.map_append, -List.map_reverse]))))))))
    all_goals simp [go_sem, wDatagram]
  rw [if_neg k2]
  have b2 : (k == 2) = false := by simpa using k2
  by_cases k3 : k = 3
  · subst k3
    rw [if_pos rfl]
    refine acall_intro mixed Tryz.func30 rfl ca30 (by kernel_rfl) (by rw [Tryz.ntmps30]; simp) ?_
    refine w1 @hd ?_ 
    all_goals rfl
  rw [if_neg k3]
  have b3 : (k == 3) = false := by simpa using k3
  by_cases k4 : k = 4
  · subst k4
    rw [if_pos rfl]
    refine acall_intro mixed Tryz.func30 rfl ca30 (by kernel_rfl) (by rw [Tryz.ntmps30]; simp) ?_
    refine w1 @hx ?_ 
    all_goals rfl
  rw [if_neg k4]
  have b4 : (k == 4) = false := by simpa using k4
  by_cases k5 : k = 5
  · subst k5
    rw [if_pos rfl]
    refine acall_intro mixed Tryz.func30 rfl ca30 (by kernel_rfl) (by rw [Tryz.ntmps30]; simp) ?_
    refine w0 ?_ 
    all_goals rfl
  rw [if_neg k5]
  have b5 : (k == 5) = false := by simpa using k5
  refine acall_intro mixed Tryz.func30 rfl ca30 (by kernel_rfl) (by rw [Tryz.ntmps30]; simp) ?_
  refine w0 ?_ 
  all_goals rfl
end Go.Proofs.YtcbdghgogmcllaaGreatDoor
end
