/- Lemmas and definitions of this claim (own texts, joined by a program; what the claim does not use is left out). -/
import Derived.Test.YtcbdghgogmcllaaGreatDoorSp8
import Derived.Lib.AtoiAllCases
import Derived.Lib.ParseIntBTie
set_option linter.all false
set_option maxRecDepth 100000
set_option maxHeartbeats 4000000
section
namespace Go.Proofs.YtcbdghgogmcllaaGreatDoor
open Go Go.Sy
def z32 : List UInt8 := List.replicate 32 0
def ev0 : Ev := ⟨0, false, z16, 0, [], 0, []⟩
def act0 : Ac := ⟨0, ev0, 0, 0, 0, 0, 0, z32⟩
def evA (e : Ev) : Ac := { act0 with kind := 1, ev := e }
theorem evC_om {e : Ev} {nz : Bool} {B : List Box} {k : Nat} : omap (Go.Sy.fz nz false B (k + 3)) (evC e) = some (evC e) := by
  simp [evC, omap_app, omap_two, omap_nil, omap_bytes, fz_int, fz_bool, fz_str, fz_lst, fz_byte]
theorem acC_om {a : Ac} {nz : Bool} {B : List Box} {k : Nat} : omap (Go.Sy.fz nz false B (k + 3)) (acC a) = some (acC a) := by
  simp [acC, evC, omap_app, omap_two, omap_nil, omap_bytes, fz_int, fz_bool, fz_str, fz_lst, fz_byte]
theorem evA_cells (e : Ev) : acC (evA e) = .int .i64 1 :: (evC e ++ (.int .i64 0 :: .int .i64 0 :: .int .u8 0 :: .int .i64 0 :: .int .i64 0 :: z32.map byteC)) := rfl
theorem input_in (e : Ev) (h : e.ip.length = 16) : PC Tryz.prog false 42 [.agg (evC e)] (.agg (acC (evA e))) := by
  have hl := evC_len h
  have ho : ∀ {nz : Bool} {B : List Box} {k : Nat}, omap (Go.Sy.fz nz false B (k + 3)) (evC e) = some (evC e) := evC_om
  have ht : (evC e).take 22 = evC e := List.take_of_length_le (by omega)
  rw [evA_cells]
  generalize evC e = X at *
  clear h
  refine acall_intro mixed Tryz.func42 rfl ca42 (by kernel_rfl) (by rw [Tryz.ntmps42]; simp) ?_
  refine w0 ?_ 
  simp [go_sem, ho, z32]
  rfl
theorem input_at {B : List Box} {args : List CV} {e : Ev} (hz : Is (omap (Go.Sy.fz true false [] 6) args) (some [.agg (evC e)])) (h : e.ip.length = 16) : ACall Tryz.prog 42 args B fun c B' => c = .agg (acC (evA e)) ∧ B' = B := acall_imm hz (input_in e h)
theorem acA_len (e : Ev) (h : e.ip.length = 16) : (acC (evA e)).length = 60 := by simp [acC, evA, act0, evC_len h, z32]
theorem rd1_in (x0 x1 : List UInt8) (hs : x1.length < 1000000000) : PC Tryz.prog false 70 [.lst 2 [.str x0, .str x1] false] (.tup [.agg (acC (evA { ev0 with kind := 1, bytes := (unhexW x1).1 })), .bool (unhexW x1).2]) := by
  have hu : ∀ {B : List Box}, ACall Tryz.prog 71 [.str x1] B fun c B' => c = .tup [lb (unhexW x1).1, .bool (unhexW x1).2] ∧ B' = B := unhexW_at hs
  have hi := fun {B} {args} hz => @input_at B args { ev0 with kind := 1, bytes := (unhexW x1).1 } hz rfl
  have hl := acA_len { ev0 with kind := 1, bytes := (unhexW x1).1 } rfl
  have ho : ∀ {nz : Bool} {B : List Box} {k : Nat}, omap (Go.Sy.fz nz false B (k + 3)) (acC (evA { ev0 with kind := 1, bytes := (unhexW x1).1 })) = some (acC (evA { ev0 with kind := 1, bytes := (unhexW x1).1 })) := acC_om
  have ht : (acC (evA { ev0 with kind := 1, bytes := (unhexW x1).1 })).take 60 = acC (evA { ev0 with kind := 1, bytes := (unhexW x1).1 }) := List.take_of_length_le (by omega)
  generalize acC (evA { ev0 with kind := 1, bytes := (unhexW x1).1 }) = Y at *
  simp only [evC, ev0, z16, List.replicate, List.map_cons, List.map_nil, List.cons_append, List.nil_append] at hi
  generalize unhexW x1 = r at *
  obtain ⟨l, b⟩ := r
  dsimp only at *
  refine acall_intro mixed Tryz.func70 rfl ca70 (by kernel_rfl) (by rw [Tryz.ntmps70]; simp) ?_
  rw [lb] at hu
  refine w2 @hu @hi ?_ 
  simp [go_sem, ho]
theorem rd7_in (x0 x1 : List UInt8) (hs : x1.length < 1000000000) : PC Tryz.prog false 81 [.lst 2 [.str x0, .str x1] false] (.tup [.agg (acC (evA { ev0 with kind := 4, bytes := (unhexW x1).1 })), .bool (unhexW x1).2]) := by
  have hu : ∀ {B : List Box}, ACall Tryz.prog 71 [.str x1] B fun c B' => c = .tup [lb (unhexW x1).1, .bool (unhexW x1).2] ∧ B' = B := unhexW_at hs
  have hi := fun {B} {args} hz => @input_at B args { ev0 with kind := 4, bytes := (unhexW x1).1 } hz rfl
  have hl := acA_len { ev0 with kind := 4, bytes := (unhexW x1).1 } rfl
  have ho : ∀ {nz : Bool} {B : List Box} {k : Nat}, omap (Go.Sy.fz nz false B (k + 3)) (acC (evA { ev0 with kind := 4, bytes := (unhexW x1).1 })) = some (acC (evA { ev0 with kind := 4, bytes := (unhexW x1).1 })) := acC_om
  have ht : (acC (evA { ev0 with kind := 4, bytes := (unhexW x1).1 })).take 60 = acC (evA { ev0 with kind := 4, bytes := (unhexW x1).1 }) := List.take_of_length_le (by omega)
  generalize acC (evA { ev0 with kind := 4, bytes := (unhexW x1).1 }) = Y at *
  simp only [evC, ev0, z16, List.replicate, List.map_cons, List.map_nil, List.cons_append, List.nil_append] at hi
  generalize unhexW x1 = r at *
  obtain ⟨l, b⟩ := r
  dsimp only at *
  refine acall_intro mixed Tryz.func81 rfl ca81 (by kernel_rfl) (by rw [Tryz.ntmps81]; simp) ?_
  rw [lb] at hu
  refine w2 @hu @hi ?_ 
  simp [go_sem, ho]
theorem rd5_in (x0 x1 : List UInt8) (hs : x1.length < 1000000000) : PC Tryz.prog false 78 [.lst 2 [.str x0, .str x1] false] (.tup [.agg (acC (evA { ev0 with kind := 3, time := (numW x1).1 })), .bool (numW x1).2]) := by
  have hu : ∀ {B : List Box}, ACall Tryz.prog 79 [.str x1] B fun c B' => c = .tup [.int .i64 (numW x1).1, .bool (numW x1).2] ∧ B' = B := numW_at hs
  have hi := fun {B} {args} hz => @input_at B args { ev0 with kind := 3, time := (numW x1).1 } hz rfl
  have hl := acA_len { ev0 with kind := 3, time := (numW x1).1 } rfl
  have ho : ∀ {nz : Bool} {B : List Box} {k : Nat}, omap (Go.Sy.fz nz false B (k + 3)) (acC (evA { ev0 with kind := 3, time := (numW x1).1 })) = some (acC (evA { ev0 with kind := 3, time := (numW x1).1 })) := acC_om
  have ht : (acC (evA { ev0 with kind := 3, time := (numW x1).1 })).take 60 = acC (evA { ev0 with kind := 3, time := (numW x1).1 }) := List.take_of_length_le (by omega)
  generalize acC (evA { ev0 with kind := 3, time := (numW x1).1 }) = Y at *
  simp only [evC, ev0, z16, List.replicate, List.map_cons, List.map_nil, List.cons_append, List.nil_append, List.length_nil] at hi
  generalize numW x1 = r at *
  obtain ⟨l, b⟩ := r
  dsimp only at *
  refine acall_intro mixed Tryz.func78 rfl ca78 (by kernel_rfl) (by rw [Tryz.ntmps78]; simp) ?_
  refine w2 @hu @hi ?_ 
  simp [go_sem, ho]
theorem parseE_ip {s : List UInt8} {six : Bool} {A : List UInt8} {n : Nat} (h : parseE s = some (six, A, n)) : A.length = 16 := by
  unfold parseE at h
  split at h
  · cases h
  · unfold endE at h
    repeat' split at h
    all_goals first | (cases h; done) | skip
    all_goals
      simp at h
      first
        | (obtain ⟨rfl, rfl, rfl⟩ := h; exact parseA_len (by assumption))
        | (obtain ⟨_, rfl, rfl, rfl⟩ := h; exact parseA_len (by assumption))
def dgW (x1 x2 : List UInt8) : Ac × Bool := match parseE x1 with
  | some (six, A, n) => (evA { ev0 with kind := 2, six := six, ip := A, port := n, bytes := (unhexW x2).1 }, (unhexW x2).2)
  | none => (evA { ev0 with kind := 2, bytes := (unhexW x2).1 }, false)
theorem rd3_in (x0 x1 x2 : List UInt8) (h1 : x1.length < 1000000000) (h2 : x2.length < 1000000000) : PC Tryz.prog false 74 [.lst 3 [.str x0, .str x1, .str x2] false] (.tup [.agg (acC (dgW x1 x2).1), .bool (dgW x1 x2).2]) := by
  have hu : ∀ {B : List Box}, ACall Tryz.prog 71 [.str x2] B fun c B' => c = .tup [lb (unhexW x2).1, .bool (unhexW x2).2] ∧ B' = B := unhexW_at h2
  have hp : ∀ {B : List Box}, ACall Tryz.prog 75 [.str x1] B fun c B' => c = rE (parseE x1) ∧ B' = B := parseE_at h1
  unfold dgW
  generalize unhexW x2 = r at *
  obtain ⟨l, b⟩ := r
  rw [lb] at hu
  dsimp only at *
  cases he : parseE x1 with
  | none =>
    rw [he] at hp
    simp only [rE, prefC, z16, List.replicate, List.map_cons, List.map_nil, List.cons_append, List.nil_append] at hp
    have hi := fun {B} {args} hz => @input_at B args { ev0 with kind := 2, bytes := l } hz rfl
    have hl := acA_len { ev0 with kind := 2, bytes := l } rfl
    have ho : ∀ {nz : Bool} {B : List Box} {k : Nat}, omap (Go.Sy.fz nz false B (k + 3)) (acC (evA { ev0 with kind := 2, bytes := l })) = some (acC (evA { ev0 with kind := 2, bytes := l })) := acC_om
    have ht : (acC (evA { ev0 with kind := 2, bytes := l })).take 60 = acC (evA { ev0 with kind := 2, bytes := l }) := List.take_of_length_le (by omega)
    dsimp only
    generalize acC (evA { ev0 with kind := 2, bytes := l }) = Y at *
    simp only [evC, ev0, z16, List.replicate, List.map_cons, List.map_nil, List.cons_append, List.nil_append, List.length_nil] at hi
    refine acall_intro mixed Tryz.func74 rfl ca74 (by kernel_rfl) (by rw [Tryz.ntmps74]; simp) ?_
    cases b
    all_goals
      refine w3 @hp @hu @hi ?_ 
      simp [go_sem, ho]
  | some q =>
    obtain ⟨six, A, n⟩ := q
    have hA : A.length = 16 := parseE_ip he
    rw [he] at hp
    simp only [rE, prefC] at hp
    have hi := fun {B} {args} hz => @input_at B args { ev0 with kind := 2, six := six, ip := A, port := n, bytes := l } hz hA
    have hl := acA_len { ev0 with kind := 2, six := six, ip := A, port := n, bytes := l } hA
    have ho : ∀ {nz : Bool} {B : List Box} {k : Nat}, omap (Go.Sy.fz nz false B (k + 3)) (acC (evA { ev0 with kind := 2, six := six, ip := A, port := n, bytes := l })) = some (acC (evA { ev0 with kind := 2, six := six, ip := A, port := n, bytes := l })) := acC_om
    have ht : (acC (evA { ev0 with kind := 2, six := six, ip := A, port := n, bytes := l })).take 60 = acC (evA { ev0 with kind := 2, six := six, ip := A, port := n, bytes := l }) := List.take_of_length_le (by omega)
    dsimp only
    generalize acC (evA { ev0 with kind := 2, six := six, ip := A, port := n, bytes := l }) = Y at *
    simp only [evC, ev0, List.cons_append, List.nil_append, List.length_nil] at hi
    refine acall_intro mixed Tryz.func74 rfl ca74 (by kernel_rfl) (by rw [Tryz.ntmps74]; simp) ?_
    cases b
    all_goals
      refine w3 @hp @hu @hi ?_ 
      simp [go_sem, ho]
theorem acC_zero : acC act0 = [.int .i64 0, .int .i64 0, .bool false, .int .u8 0, .int .u8 0, .int .u8 0, .int .u8 0, .int .u8 0, .int .u8 0, .int .u8 0, .int .u8 0, .int .u8 0, .int .u8 0, .int .u8 0, .int .u8 0, .int .u8 0, .int .u8 0, .int .u8 0, .int .u8 0, .int .i64 0, .lst 0 [] false, .int .i64 0, .str [], .int .i64 0, .int .i64 0, .int .u8 0, .int .i64 0, .int .i64 0, .int .u8 0, .int .u8 0, .int .u8 0, .int .u8 0, .int .u8 0, .int .u8 0, .int .u8 0, .int .u8 0, .int .u8 0, .int .u8 0, .int .u8 0, .int .u8 0, .int .u8 0, .int .u8 0, .int .u8 0, .int .u8 0, .int .u8 0, .int .u8 0, .int .u8 0, .int .u8 0, .int .u8 0, .int .u8 0, .int .u8 0, .int .u8 0, .int .u8 0, .int .u8 0, .int .u8 0, .int .u8 0, .int .u8 0, .int .u8 0, .int .u8 0, .int .u8 0] := rfl
def handW (x1 x2 x3 : List UInt8) : Ac × Bool := match unhex x3 with
  | some b => if (smallW x1).2 = true ∧ (smallW x2).2 = true ∧ b.length = 32 then ({ act0 with kind := 2, lo := (smallW x1).1, hi := (smallW x2).1, key := b }, true) else (act0, false)
  | none => (act0, false)
theorem handW_in (x0 x1 x2 x3 : List UInt8) (h1 : x1.length < 1000000000) (h2 : x2.length < 1000000000) (h3 : x3.length < 1000000000) : PC Tryz.prog false 85 [.lst 4 [.str x0, .str x1, .str x2, .str x3] false] (.tup [.agg (acC (handW x1 x2 x3).1), .bool (handW x1 x2 x3).2]) := by
  have hu1 : ∀ {B : List Box}, ACall Tryz.prog 117 [.str x1] B fun c B' => c = .tup [.int .i64 (smallW x1).1, .bool (smallW x1).2] ∧ B' = B := smallW_at h1
  have hu2 : ∀ {B : List Box}, ACall Tryz.prog 117 [.str x2] B fun c B' => c = .tup [.int .i64 (smallW x2).1, .bool (smallW x2).2] ∧ B' = B := smallW_at h2
  have hp : ∀ {B : List Box}, ACall Tryz.prog 107 [.str x3] B fun c B' => c = unhexC (unhex x3) ∧ B' = B := parseHex_at (by omega)
  unfold handW
  generalize smallW x1 = r at *
  obtain ⟨n1, b1⟩ := r
  generalize smallW x2 = r at *
  obtain ⟨n2, b2⟩ := r
  dsimp only at *
  have hz := acC_zero
  cases he : unhex x3 with
  | none =>
    rw [he] at hp
    simp only [unhexC, lb] at hp
    dsimp only
    rw [hz]
    refine acall_intro mixed Tryz.func85 rfl ca85 (by kernel_rfl) (by rw [Tryz.ntmps85]; simp) ?_
    cases b1 <;> cases b2
    all_goals
      refine w3 @hp @hu1 @hu2 ?_ 
      rfl
  | some b =>
    rw [he] at hp
    simp only [unhexC, lb] at hp
    dsimp only
    by_cases h32 : b.length = 32
    · have hm : (b.map byteC).length = 32 := by simp [h32]
      have ht : (b.map byteC).take 32 = b.map byteC := List.take_of_length_le (by omega)
      have hom : ∀ {nz : Bool} {B : List Box} {k : Nat}, omap (Go.Sy.fz nz false B (k + 1)) (b.map byteC) = some (b.map byteC) := omap_bytes b
      have hr : acC { act0 with kind := 2, lo := n1, hi := n2, key := b } = (acC { act0 with kind := 2, lo := n1, hi := n2 }).take 28 ++ b.map byteC := rfl
      cases b1
      · simp only [Bool.false_eq_true, false_and, if_false]
        rw [hz]
        refine acall_intro mixed Tryz.func85 rfl ca85 (by kernel_rfl) (by rw [Tryz.ntmps85]; simp) ?_
        cases b2
        all_goals
          refine w3 @hp @hu1 @hu2 ?_ 
          rfl
      · cases b2
        · simp only [Bool.false_eq_true, false_and, and_false, if_false]
          rw [hz]
          refine acall_intro mixed Tryz.func85 rfl ca85 (by kernel_rfl) (by rw [Tryz.ntmps85]; simp) ?_
          refine w3 @hp @hu1 @hu2 ?_ 
          rfl
        · simp only [h32, and_self, if_true]
          rw [hr]
          rw [h32] at hp
          generalize b.map byteC = X at *
          refine acall_intro mixed Tryz.func85 rfl ca85 (by kernel_rfl) (by rw [Tryz.ntmps85]; simp) ?_
          refine w3 @hp @hu1 @hu2 ?_ 
          simp [go_sem, hom, acC, evC, act0, ev0, z16, z32]
          rfl
    · have h32' : ((b.length : Int) == 32) = false := by simpa using (by omega : (b.length : Int) ≠ 32)
      have h32n : ((b.length : Int) != 32) = true := by simpa using (by omega : (b.length : Int) ≠ 32)
      simp only [h32, and_false, if_false]
      rw [hz]
      refine acall_intro mixed Tryz.func85 rfl ca85 (by kernel_rfl) (by rw [Tryz.ntmps85]; simp) ?_
      cases b1 <;> cases b2
      all_goals
        refine w3 @hp @hu1 @hu2 ?_ 
        rfl
def corW (x1 x2 x3 : List UInt8) : Ac × Bool := match unhex x3 with
  | some [b] => if (whoW x1).2 = true ∧ (numW x2).2 = true then ({ act0 with kind := 6, who := (whoW x1).1, n := (numW x2).1, xor := b }, true) else (act0, false)
  | _ => (act0, false)
theorem corW_in (x0 x1 x2 x3 : List UInt8) (h1 : x1.length < 1000000000) (h2 : x2.length < 1000000000) (h3 : x3.length < 1000000000) : PC Tryz.prog false 90 [.lst 4 [.str x0, .str x1, .str x2, .str x3] false] (.tup [.agg (acC (corW x1 x2 x3).1), .bool (corW x1 x2 x3).2]) := by
  have hu1 : ∀ {B : List Box}, ACall Tryz.prog 119 [.str x1] B fun c B' => c = .tup [.int .i64 (whoW x1).1, .bool (whoW x1).2] ∧ B' = B := whoW_at h1
  have hu2 : ∀ {B : List Box}, ACall Tryz.prog 79 [.str x2] B fun c B' => c = .tup [.int .i64 (numW x2).1, .bool (numW x2).2] ∧ B' = B := numW_at h2
  have hp : ∀ {B : List Box}, ACall Tryz.prog 107 [.str x3] B fun c B' => c = unhexC (unhex x3) ∧ B' = B := parseHex_at (by omega)
  unfold corW
  generalize whoW x1 = r at *
  obtain ⟨n1, b1⟩ := r
  generalize numW x2 = r at *
  obtain ⟨n2, b2⟩ := r
  dsimp only at *
  have hz := acC_zero
  have bad : ∀ b : List UInt8, unhex x3 = some b → b.length ≠ 1 → PC Tryz.prog false 90 [.lst 4 [.str x0, .str x1, .str x2, .str x3] false] (.tup [.agg (acC act0), .bool false]) := by
    intro b he hb
    rw [he] at hp
    simp only [unhexC, lb] at hp
    have h32' : ((b.length : Int) == 1) = false := by simpa using (by omega : (b.length : Int) ≠ 1)
    have h32n : ((b.length : Int) != 1) = true := by simpa using (by omega : (b.length : Int) ≠ 1)
    rw [hz]
    refine acall_intro mixed Tryz.func90 rfl ca90 (by kernel_rfl) (by rw [Tryz.ntmps90]; simp) ?_
    cases b1 <;> cases b2
    all_goals
      refine w3 @hp @hu1 @hu2 ?_ 
      rfl
  cases he : unhex x3 with
  | none =>
    rw [he] at hp
    simp only [unhexC, lb] at hp
    dsimp only
    rw [hz]
    refine acall_intro mixed Tryz.func90 rfl ca90 (by kernel_rfl) (by rw [Tryz.ntmps90]; simp) ?_
    cases b1 <;> cases b2
    all_goals
      refine w3 @hp @hu1 @hu2 ?_ 
      rfl
  | some b =>
    match b, he with
    | [], he => exact bad [] he (by simp)
    | x :: y :: l, he => exact bad _ he (by simp)
    | [b], he =>
      rw [he] at hp
      simp only [unhexC, lb, List.length_cons, List.length_nil, List.map_cons, List.map_nil] at hp
      clear bad
      dsimp only
      cases b1
      · simp only [Bool.false_eq_true, false_and, if_false]
        rw [hz]
        refine acall_intro mixed Tryz.func90 rfl ca90 (by kernel_rfl) (by rw [Tryz.ntmps90]; simp) ?_
        cases b2
        all_goals
          refine w3 @hp @hu1 @hu2 ?_ 
          rfl
      · cases b2
        · simp only [Bool.false_eq_true, false_and, and_false, if_false]
          rw [hz]
          refine acall_intro mixed Tryz.func90 rfl ca90 (by kernel_rfl) (by rw [Tryz.ntmps90]; simp) ?_
          refine w3 @hp @hu1 @hu2 ?_ 
          rfl
        · simp only [and_self, if_true]
          refine acall_intro mixed Tryz.func90 rfl ca90 (by kernel_rfl) (by rw [Tryz.ntmps90]; simp) ?_
          refine w3 @hp @hu1 @hu2 ?_ 
          rfl
def nmbW (k : Int) (x1 x2 : List UInt8) : Ac × Bool := ({ act0 with kind := k, who := (whoW x1).1, n := (numW x2).1 }, (whoW x1).2 && (numW x2).2)
theorem nmbW_in (k : Int) (x0 x1 x2 : List UInt8) (h1 : x1.length < 1000000000) (h2 : x2.length < 1000000000) : PC Tryz.prog false 118 [.lst 3 [.str x0, .str x1, .str x2] false, .iptr [.int .i64 k]] (.tup [.agg (acC (nmbW k x1 x2).1), .bool (nmbW k x1 x2).2]) := by
  have hu1 : ∀ {B : List Box}, ACall Tryz.prog 119 [.str x1] B fun c B' => c = .tup [.int .i64 (whoW x1).1, .bool (whoW x1).2] ∧ B' = B := whoW_at h1
  have hu2 : ∀ {B : List Box}, ACall Tryz.prog 79 [.str x2] B fun c B' => c = .tup [.int .i64 (numW x2).1, .bool (numW x2).2] ∧ B' = B := numW_at h2
  unfold nmbW
  generalize whoW x1 = r at *
  obtain ⟨n1, b1⟩ := r
  generalize numW x2 = r at *
  obtain ⟨n2, b2⟩ := r
  dsimp only at *
  refine acall_intro mixed Tryz.func118 rfl ca118 (by kernel_rfl) (by rw [Tryz.ntmps118]; simp) ?_
  cases b1 <;> cases b2
  all_goals
    refine w2 @hu1 @hu2 ?_ 
    rfl
def barW (k : Int) (x1 : List UInt8) : Ac × Bool := ({ act0 with kind := k, who := (whoW x1).1 }, (whoW x1).2)
theorem barW_in (k : Int) (x0 x1 : List UInt8) (h1 : x1.length < 1000000000) : PC Tryz.prog false 121 [.lst 2 [.str x0, .str x1] false, .iptr [.int .i64 k]] (.tup [.agg (acC (barW k x1).1), .bool (barW k x1).2]) := by
  have hu1 : ∀ {B : List Box}, ACall Tryz.prog 119 [.str x1] B fun c B' => c = .tup [.int .i64 (whoW x1).1, .bool (whoW x1).2] ∧ B' = B := whoW_at h1
  unfold barW
  generalize whoW x1 = r at *
  obtain ⟨n1, b1⟩ := r
  dsimp only at *
  refine acall_intro mixed Tryz.func121 rfl ca121 (by kernel_rfl) (by rw [Tryz.ntmps121]; simp) ?_
  refine w1 @hu1 ?_ 
  rfl
end Go.Proofs.YtcbdghgogmcllaaGreatDoor
end
section
namespace Go.Proofs.YtcbdghgogmcllaaGreatDoor
open Go Go.Sy
def prC (c : UInt8) : Bool := decide (32 ≤ c.toNat) && decide (c.toNat ≤ 126)
def prS (s : List UInt8) : Bool := s.all prC
theorem printable_in (s : List UInt8) (hs : s.length < 1000000000) : PC Tryz.prog true 44 [.str s] (.bool (prS s)) := by
  refine acall_intro mixed Tryz.func44 rfl ca44 (by kernel_rfl) (by rw [Tryz.ntmps44]; simp) ?_
  refine w0 ?_ 
  refine w_loop (fun fr B => ∃ j : Nat, j ≤ s.length ∧ (s.take j).all prC = true ∧ fr 6 = .int .i64 j ∧ fr 5 = .int .i64 s.length ∧ fr 0 = .str s ∧ B = []) (fun fr _ => s.length - natOf (fr 6)) ?_ ?_
  · exact ⟨0, by omega, by simp, kS, kS, kS, rfl⟩
  rintro fr B ⟨j, hj, hn, h6, h5, h0, rfl⟩
  have hm : natOf (fr 6) = j := by rw [h6]; rfl
  by_cases hc : j < s.length
  · have ht : (s.take (j + 1)).all prC = prC (s[j]'hc) := by rw [List.take_succ_eq_append_getElem hc, List.all_append, hn]; simp
    have hbad : prC (s[j]'hc) = false → prS s = false := fun h => by
      rw [prS, List.all_eq_false]
      exact ⟨_, List.getElem_mem hc, by simp [h]⟩
    have hb := (s[j]'hc).toNat_lt
    obtain ⟨y, hy⟩ : ∃ y, s[j]'hc = y := ⟨_, rfl⟩
    rw [hy] at ht hbad hb
    by_cases h1 : 32 ≤ y.toNat
    · by_cases h2 : y.toNat ≤ 126
      · have h3 : (s.take (j + 1)).all prC = true := by rw [ht]; simp [prC, h1, h2]
        have g1 : ¬ (y.toNat < 32) := by omega
        have g2 : ¬ (126 < y.toNat) := by omega
        clear hbad ht hn
        replace h3 : Hid _ := h3
        refine w0 ?_ 
        exact ⟨⟨j + 1, by omega, h3, kS, kS, kS, rfl⟩, kS⟩
      · have h3 : prS s = false := hbad (by simp [prC, h2])
        have g1 : ¬ (y.toNat < 32) := by omega
        have g2 : 126 < y.toNat := by omega
        rw [h3]
        clear hbad ht hn h3
        refine w0 ?_ 
        all_goals rfl
    · have h3 : prS s = false := hbad (by simp [prC, h1])
      have g1 : y.toNat < 32 := by omega
      rw [h3]
      clear hbad ht hn h3
      refine w0 ?_ 
      all_goals rfl
  · obtain rfl : j = s.length := by omega
    rw [List.take_length] at hn
    have h3 : prS s = true := hn
    rw [h3]
    clear hn h3
    refine w0 ?_ 
    all_goals rfl
theorem printable_at {B : List Box} {s : List UInt8} (hs : s.length < 1000000000) : ACall Tryz.prog 44 [.str s] B fun c B' => c = .bool (prS s) ∧ B' = B := acall_fresh (nz := false) rfl (printable_in s hs)
def sCtl : List UInt8 := [99, 111, 110, 116, 114, 111, 108, 32]
def ctlT (s : List UInt8) : List UInt8 := Go.Lib.trimSuffix (Go.Lib.trimPrefix s sCtl) [10]
def ctlW (s : List UInt8) : Ac := evA { ev0 with kind := 5, text := ctlT s }
theorem parse_ctl (s : List UInt8) (hs : s.length < 1000000) (hp : Go.Lib.hasPrefix s sCtl = true) (ht : (ctlT s).length < 1000000) (hA : AcL (ctlW s)) : PC Tryz.prog false 23 [.str s] (.tup [.agg (acC (ctlW s)), .bool (prS (ctlT s) && (lineS (ctlW s) == s))]) := by
  have hcp : ∀ {B : List Box}, ACall Tryz.prog 41 [.str s, .str sCtl] B fun c B' => c = .tup [.str (Go.Lib.trimPrefix s sCtl), .bool true] ∧ B' = B := by
    intro B
    have := @cutPrefix_at B s sCtl
    rwa [hp] at this
  have htl : (Go.Lib.trimPrefix s sCtl).length ≤ s.length := by
    unfold Go.Lib.trimPrefix
    split <;> simp
  have hts : ∀ {B : List Box}, ACall Tryz.prog 43 [.str (Go.Lib.trimPrefix s sCtl), .str [10]] B fun c B' => c = .str (ctlT s) ∧ B' = B := trimSuffix_at (by omega)
  have hi := fun {B} {args} hz => @input_at B args { ev0 with kind := 5, text := ctlT s } hz rfl
  have hl := acA_len { ev0 with kind := 5, text := ctlT s } rfl
  have ho : ∀ {nz : Bool} {B : List Box} {k : Nat}, omap (Go.Sy.fz nz false B (k + 3)) (acC (ctlW s)) = some (acC (ctlW s)) := acC_om
  have htk : (acC (ctlW s)).take 60 = acC (ctlW s) := List.take_of_length_le (by rw [ctlW]; omega)
  have h22 := (ac_parts hA).d22
  have hpr : ∀ {B : List Box}, ACall Tryz.prog 44 [.str (ctlT s)] B fun c B' => c = .bool (prS (ctlT s)) ∧ B' = B := printable_at (by omega)
  have hln : ∀ {B : List Box} {args : List CV}, Is (omap (Go.Sy.fz true false B 6) args) (some [.agg (acC (ctlW s))]) → ACall Tryz.prog 25 args B fun c B' => c = .str (lineS (ctlW s)) ∧ B' = B := fun hz => line_at hz hA
  have htx : (ctlW s).ev.text = ctlT s := rfl
  rw [htx] at h22
  rw [← ctlW] at hl
  have hi : ∀ {B : List Box} {args : List CV}, Is (omap (Go.Sy.fz true false [] 6) args) (some [.agg (evC { ev0 with kind := 5, text := ctlT s })]) → ACall Tryz.prog 42 args B fun c B' => c = .agg (acC (ctlW s)) ∧ B' = B := hi
  clear hA hp
  generalize lineS (ctlW s) = L at *
  generalize acC (ctlW s) = Y at *
  simp only [evC, ev0, z16, List.replicate, List.map_cons, List.map_nil, List.cons_append, List.nil_append, List.length_nil] at hi
  rw [sCtl] at *
  generalize Go.Lib.trimPrefix s _ = s1 at *
  generalize ctlT s = s2 at *
  cases hq : prS s2
  · rw [hq] at hpr
    refine acall_intro mixed Tryz.func23 rfl ca23 (by kernel_rfl) (by rw [Tryz.ntmps23]; simp) ?_
    repeat' (first | (with_reducible first | apply jA | apply jB | apply jC | apply jD | apply jE | apply jF | apply jG | apply jH | apply jI | apply jJ | apply jK | apply jL | apply jM | apply jN | apply jO) | ((with_reducible first | apply jP | apply jQ); rfl) | ((with_reducible apply w_drawA); (conv => lhs; reduce); exact kE; exact kE) | ((first | ((with_reducible first | apply d_made | apply q_made); rfl; rfl)); (iterate 6 exact kE)) | ((first | ((with_reducible first | apply d_fop | apply q_fop); rfl; rfl)); (intro Bx hJ; (first | (obtain ⟨_, hJ1, hJ2⟩ := hJ) | (try simp only at hJ)); exact kE)) | ((with_reducible first | apply d_free | apply q_free); rfl; (iterate 2 exact kE); (intro Bx hJ); (first | ((with_reducible apply hcp) <;> exact kD) | ((with_reducible apply hts) <;> exact kD) | ((with_reducible apply hi) <;> exact kD) | ((with_reducible apply hpr) <;> exact kD) | ((with_reducible apply hln) <;> exact kD))) | ((first | ((with_reducible first | apply jR | apply jS | apply jT); rfl; rfl) | (with_reducible first | apply jU | apply jV | apply jW) | ((with_reducible first | apply jX | apply jY | apply jZ); rfl) | ((with_reducible first | apply kA | apply kB | apply kC); rfl)); all_goals (first | ((with_reducible show Is _ _); exact kE) | ((with_reducible refine fun (hc : (_ : Bool) = _) => ?_); (try simp only [xZ, xY, xP, reduceCtorEq] at hc); (try (have hx : True := hc; clear hx hc)); (try exact kX)) | ((with_reducible show ACall _ _ _ _ _); (first | ((with_reducible apply hcp) <;> exact kD) | ((with_reducible apply hts) <;> exact kD) | ((with_reducible apply hi) <;> exact kD) | ((with_reducible apply hpr) <;> exact kD) | ((with_reducible apply hln) <;> exact kD))) | ((fail_if_success (with_reducible first | show Is _ _ | show ACall _ _ _ _ _)); (try ((with_reducible show _ ∨ _); first | exact .inl rfl | (refine .inr ⟨rfl, ?_, ?_⟩; (focus (repeat (first | exact trivial | refine ⟨.inl rfl, ?_⟩ | refine ⟨.inr rfl, ?_⟩ | refine ⟨.inr (by (simp (disch := first | omega | (simp only [yZ, yB] <;> omega) | fail) [go_sem, yY, *, -List.map_take, -List.map_drop, -List.map_append, -List.map_reverse])), ?_⟩))); (first | exact trivial | exact rfl | (refine ⟨_, ?_, ?_⟩; (focus (simp (disch := first | omega | (simp only [yZ, yB] <;> omega) | fail) [go_sem, yY, *, -List.map_take, -List.map_drop, -List.map_append, -List.map_reverse]; (try exact rfl))); (simp (disch := first | omega | (simp only [yZ, yB] <;> omega) | fail) [go_sem, yY, *, -List.map_take, -List.map_drop, -List.map_append, -List.map_reverse])) | (simp (disch := first | omega | (simp only [yZ, yB] <;> omega) | fail) [go_sem, yY, *, -List.map_take, -List.map_drop, -List.map_append, -List.map_reverse]))) | exact .inl (by (simp (disch := first | omega | (simp only [yZ, yB] <;> omega) | fail) [go_sem, yY, *, -List.map_take, -List.map_drop, -List.map_append, -List.map_reverse]))))))))
    all_goals simp [go_sem, ho]
  · rw [hq] at hpr
    refine acall_intro mixed Tryz.func23 rfl ca23 (by kernel_rfl) (by rw [Tryz.ntmps23]; simp) ?_
    repeat' (first | (with_reducible first | apply jA | apply jB | apply jC | apply jD | apply jE | apply jF | apply jG | apply jH | apply jI | apply jJ | apply jK | apply jL | apply jM | apply jN | apply jO) | ((with_reducible first | apply jP | apply jQ); rfl) | ((with_reducible apply w_drawA); (conv => lhs; reduce); exact kE; exact kE) | ((first | ((with_reducible first | apply d_made | apply q_made); rfl; rfl)); (iterate 6 exact kE)) | ((first | ((with_reducible first | apply d_fop | apply q_fop); rfl; rfl)); (intro Bx hJ; (first | (obtain ⟨_, hJ1, hJ2⟩ := hJ) | (try simp only at hJ)); exact kE)) | ((with_reducible first | apply d_free | apply q_free); rfl; (iterate 2 exact kE); (intro Bx hJ); (first | ((with_reducible apply hcp) <;> exact kD) | ((with_reducible apply hts) <;> exact kD) | ((with_reducible apply hi) <;> exact kD) | ((with_reducible apply hpr) <;> exact kD) | ((with_reducible apply hln) <;> exact kD))) | ((first | ((with_reducible first | apply jR | apply jS | apply jT); rfl; rfl) | (with_reducible first | apply jU | apply jV | apply jW) | ((with_reducible first | apply jX | apply jY | apply jZ); rfl) | ((with_reducible first | apply kA | apply kB | apply kC); rfl)); all_goals (first | ((with_reducible show Is _ _); exact kE) | ((with_reducible refine fun (hc : (_ : Bool) = _) => ?_); (try simp only [xZ, xY, xP, reduceCtorEq] at hc); (try (have hx : True := hc; clear hx hc)); (try exact kX)) | ((with_reducible show ACall _ _ _ _ _); (first | ((with_reducible apply hcp) <;> exact kD) | ((with_reducible apply hts) <;> exact kD) | ((with_reducible apply hi) <;> exact kD) | ((with_reducible apply hpr) <;> exact kD) | ((with_reducible apply hln) <;> exact kD))) | ((fail_if_success (with_reducible first | show Is _ _ | show ACall _ _ _ _ _)); (try ((with_reducible show _ ∨ _); first | exact .inl rfl | (refine .inr ⟨rfl, ?_, ?_⟩; (focus (repeat (first | exact trivial | refine ⟨.inl rfl, ?_⟩ | refine ⟨.inr rfl, ?_⟩ | refine ⟨.inr (by (simp (disch := first | omega | (simp only [yZ, yB] <;> omega) | fail) [go_sem, yY, *, -List.map_take, -List.map_drop, -List.map_append, -List.map_reverse])), ?_⟩))); (first | exact trivial | exact rfl | (refine ⟨_, ?_, ?_⟩; (focus (simp (disch := first | omega | (simp only [yZ, yB] <;> omega) | fail) [go_sem, yY, *, -List.map_take, -List.map_drop, -List.map_append, -List.map_reverse]; (try exact rfl))); (simp (disch := first | omega | (simp only [yZ, yB] <;> omega) | fail) [go_sem, yY, *, -List.map_take, -List.map_drop, -List.map_append, -List.map_reverse])) | (simp (disch := first | omega | (simp only [yZ, yB] <;> omega) | fail) [go_sem, yY, *, -List.map_take, -List.map_drop, -List.map_append, -List.map_reverse]))) | exact .inl (by (simp (disch := first | omega | (simp only [yZ, yB] <;> omega) | fail) [go_sem, yY, *, -List.map_take, -List.map_drop, -List.map_append, -List.map_reverse]))))))))
    all_goals simp [go_sem, ho]
def wdsS (s : List UInt8) : List (List UInt8) := splitL 32 (Go.Lib.trimSuffix s [10])
theorem parse_miss (s : List UInt8) (hs : s.length < 1000000) (hp : Go.Lib.hasPrefix s sCtl = false) {x0 : List UInt8} {r : List (List UInt8)} (hw : wdsS s = x0 :: r) (hk : lookC Tryz.prog 101 (.imap formK formX) (.str x0) true = some (.tup [formZ, .bool false])) :
    PC Tryz.prog false 23 [.str s] (.tup [.agg (acC act0), .bool false]) := by
  have hcp : ∀ {B : List Box}, ACall Tryz.prog 41 [.str s, .str sCtl] B fun c B' => c = .tup [.str (Go.Lib.trimPrefix s sCtl), .bool false] ∧ B' = B := by
    intro B
    have := @cutPrefix_at B s sCtl
    rwa [hp] at this
  have htl : (Go.Lib.trimSuffix s [10]).length ≤ s.length := by
    unfold Go.Lib.trimSuffix
    split <;> simp
  have hts : ∀ {B : List Box}, ACall Tryz.prog 43 [.str s, .str [10]] B fun c B' => c = .str (Go.Lib.trimSuffix s [10]) ∧ B' = B := trimSuffix_at (by omega)
  have hsp : ∀ {B : List Box}, ACall Tryz.prog 45 [.str (Go.Lib.trimSuffix s [10]), .str [32]] B fun c B' => c = .lst (wdsS s).length ((wdsS s).map .str) true ∧ B' = B := split_at (by omega)
  obtain ⟨M, hM⟩ : ∃ M, CV.imap formK formX = M := ⟨_, rfl⟩
  rw [hM] at hk
  have hf : ∀ {B : List Box} {args : List CV}, Is args [] → ACall Tryz.prog 46 args B fun c B' => c = M ∧ B' = B := forms_at hM
  rw [hw] at hsp
  rw [formZ] at hk
  rw [sCtl] at *
  simp only [List.length_cons, List.map_cons] at hsp
  generalize Go.Lib.trimPrefix s _ = s1 at *
  generalize Go.Lib.trimSuffix s _ = s2 at *
  rw [acC_zero]
  generalize r.map CV.str = R at *
  generalize r.length = m at *
  clear hM hw
  refine acall_intro mixed Tryz.func23 rfl ca23 (by kernel_rfl) (by rw [Tryz.ntmps23]; simp) ?_
  repeat' (first | (with_reducible first | apply jA | apply jB | apply jC | apply jD | apply jE | apply jF | apply jG | apply jH | apply jI | apply jJ | apply jK | apply jL | apply jM | apply jN | apply jO) | ((with_reducible first | apply jP | apply jQ); rfl) | ((with_reducible apply w_drawA); (conv => lhs; reduce); exact kE; exact kE) | ((first | ((with_reducible first | apply d_made | apply q_made); rfl; rfl)); (iterate 6 exact kE)) | ((first | ((with_reducible first | apply d_fop | apply q_fop); rfl; rfl)); (intro Bx hJ; (first | (obtain ⟨_, hJ1, hJ2⟩ := hJ) | (try simp only at hJ)); exact kE)) | ((with_reducible first | apply d_free | apply q_free); rfl; (iterate 2 exact kE); (intro Bx hJ); (first | ((with_reducible apply hcp) <;> exact kD) | ((with_reducible apply hts) <;> exact kD) | ((with_reducible apply hsp) <;> exact kD) | ((with_reducible apply hf) <;> exact kD))) | ((first | ((with_reducible first | apply jR | apply jS | apply jT); rfl; rfl) | (with_reducible first | apply jU | apply jV | apply jW) | ((with_reducible first | apply jX | apply jY | apply jZ); rfl) | ((with_reducible first | apply kA | apply kB | apply kC); rfl)); all_goals (first | ((with_reducible show Is _ _); exact kE) | ((with_reducible refine fun (hc : (_ : Bool) = _) => ?_); (try simp only [xZ, xY, xP, reduceCtorEq] at hc); (try (have hx : True := hc; clear hx hc)); (try exact kX)) | ((with_reducible show ACall _ _ _ _ _); (first | ((with_reducible apply hcp) <;> exact kD) | ((with_reducible apply hts) <;> exact kD) | ((with_reducible apply hsp) <;> exact kD) | ((with_reducible apply hf) <;> exact kD))) | ((fail_if_success (with_reducible first | show Is _ _ | show ACall _ _ _ _ _)); (try ((with_reducible show _ ∨ _); first | exact .inl rfl | (refine .inr ⟨rfl, ?_, ?_⟩; (focus (repeat (first | exact trivial | refine ⟨.inl rfl, ?_⟩ | refine ⟨.inr rfl, ?_⟩ | refine ⟨.inr (by (simp (disch := first | omega | (simp only [yZ, yB] <;> omega) | fail) [go_sem, yY, *, -List.map_take, -List.map_drop, -List.map_append, -List.map_reverse])), ?_⟩))); (first | exact trivial | exact rfl | (refine ⟨_, ?_, ?_⟩; (focus (simp (disch := first | omega | (simp only [yZ, yB] <;> omega) | fail) [go_sem, yY, *, -List.map_take, -List.map_drop, -List.map_append, -List.map_reverse]; (try exact rfl))); (simp (disch := first | omega | (simp only [yZ, yB] <;> omega) | fail) [go_sem, yY, *, -List.map_take, -List.map_drop, -List.map_append, -List.map_reverse])) | (simp (disch := first | omega | (simp only [yZ, yB] <;> omega) | fail) [go_sem, yY, *, -List.map_take, -List.map_drop, -List.map_append, -List.map_reverse]))) | exact .inl (by (simp (disch := first | omega | (simp only [yZ, yB] <;> omega) | fail) [go_sem, yY, *, -List.map_take, -List.map_drop, -List.map_append, -List.map_reverse]))))))))
  all_goals rfl
theorem parse_cnt (s : List UInt8) (hs : s.length < 1000000) (hp : Go.Lib.hasPrefix s sCtl = false) {x0 : List UInt8} {r : List (List UInt8)} {n : Nat} {y z : CV} (hw : wdsS s = x0 :: r) (hk : lookC Tryz.prog 101 (.imap formK formX) (.str x0) true = some (.tup [.agg [.int .i64 n, y, z], .bool true])) (hn : r.length + 1 ≠ n) :
    PC Tryz.prog false 23 [.str s] (.tup [.agg (acC act0), .bool false]) := by
  have hcp : ∀ {B : List Box}, ACall Tryz.prog 41 [.str s, .str sCtl] B fun c B' => c = .tup [.str (Go.Lib.trimPrefix s sCtl), .bool false] ∧ B' = B := by
    intro B
    have := @cutPrefix_at B s sCtl
    rwa [hp] at this
  have htl : (Go.Lib.trimSuffix s [10]).length ≤ s.length := by
    unfold Go.Lib.trimSuffix
    split <;> simp
  have hts : ∀ {B : List Box}, ACall Tryz.prog 43 [.str s, .str [10]] B fun c B' => c = .str (Go.Lib.trimSuffix s [10]) ∧ B' = B := trimSuffix_at (by omega)
  have hsp : ∀ {B : List Box}, ACall Tryz.prog 45 [.str (Go.Lib.trimSuffix s [10]), .str [32]] B fun c B' => c = .lst (wdsS s).length ((wdsS s).map .str) true ∧ B' = B := split_at (by omega)
  obtain ⟨M, hM⟩ : ∃ M, CV.imap formK formX = M := ⟨_, rfl⟩
  rw [hM] at hk
  have hf : ∀ {B : List Box} {args : List CV}, Is args [] → ACall Tryz.prog 46 args B fun c B' => c = M ∧ B' = B := forms_at hM
  rw [hw] at hsp
  rw [sCtl] at *
  simp only [List.length_cons, List.map_cons] at hsp
  generalize Go.Lib.trimPrefix s _ = s1 at *
  generalize Go.Lib.trimSuffix s _ = s2 at *
  rw [acC_zero]
  generalize r.map CV.str = R at *
  generalize r.length = m at *
  have hn1 : ((m : Int) + 1 == (n : Int)) = false := by simpa using (by omega : (m : Int) + 1 ≠ n)
  have hn2 : ((m : Int) + 1 != (n : Int)) = true := by simpa using (by omega : (m : Int) + 1 ≠ n)
  clear hM hw
  refine acall_intro mixed Tryz.func23 rfl ca23 (by kernel_rfl) (by rw [Tryz.ntmps23]; simp) ?_
  repeat' (first | (with_reducible first | apply jA | apply jB | apply jC | apply jD | apply jE | apply jF | apply jG | apply jH | apply jI | apply jJ | apply jK | apply jL | apply jM | apply jN | apply jO) | ((with_reducible first | apply jP | apply jQ); rfl) | ((with_reducible apply w_drawA); (conv => lhs; reduce); exact kE; exact kE) | ((first | ((with_reducible first | apply d_made | apply q_made); rfl; rfl)); (iterate 6 exact kE)) | ((first | ((with_reducible first | apply d_fop | apply q_fop); rfl; rfl)); (intro Bx hJ; (first | (obtain ⟨_, hJ1, hJ2⟩ := hJ) | (try simp only at hJ)); exact kE)) | ((with_reducible first | apply d_free | apply q_free); rfl; (iterate 2 exact kE); (intro Bx hJ); (first | ((with_reducible apply hcp) <;> exact kD) | ((with_reducible apply hts) <;> exact kD) | ((with_reducible apply hsp) <;> exact kD) | ((with_reducible apply hf) <;> exact kD))) | ((first | ((with_reducible first | apply jR | apply jS | apply jT); rfl; rfl) | (with_reducible first | apply jU | apply jV | apply jW) | ((with_reducible first | apply jX | apply jY | apply jZ); rfl) | ((with_reducible first | apply kA | apply kB | apply kC); rfl)); all_goals (first | ((with_reducible show Is _ _); exact kE) | ((with_reducible refine fun (hc : (_ : Bool) = _) => ?_); (try simp only [xZ, xY, xP, reduceCtorEq] at hc); (try (have hx : True := hc; clear hx hc)); (try exact kX)) | ((with_reducible show ACall _ _ _ _ _); (first | ((with_reducible apply hcp) <;> exact kD) | ((with_reducible apply hts) <;> exact kD) | ((with_reducible apply hsp) <;> exact kD) | ((with_reducible apply hf) <;> exact kD))) | ((fail_if_success (with_reducible first | show Is _ _ | show ACall _ _ _ _ _)); (try ((with_reducible show _ ∨ _); first | exact .inl rfl | (refine .inr ⟨rfl, ?_, ?_⟩; (focus (repeat (first | exact trivial | refine ⟨.inl rfl, ?_⟩ | refine ⟨.inr rfl, ?_⟩ | refine ⟨.inr (by (simp (disch := first | omega | (simp only [yZ, yB] <;> omega) | fail) [go_sem, yY, *, -List.map_take, -List.map_drop, -List.map_append, -List.map_reverse])), ?_⟩))); (first | exact trivial | exact rfl | (refine ⟨_, ?_, ?_⟩; (focus (simp (disch := first | omega | (simp only [yZ, yB] <;> omega) | fail) [go_sem, yY, *, -List.map_take, -List.map_drop, -List.map_append, -List.map_reverse]; (try exact rfl))); (simp (disch := first | omega | (simp only [yZ, yB] <;> omega) | fail) [go_sem, yY, *, -List.map_take, -List.map_drop, -List.map_append, -List.map_reverse])) | (simp (disch := first | omega | (simp only [yZ, yB] <;> omega) | fail) [go_sem, yY, *, -List.map_take, -List.map_drop, -List.map_append, -List.map_reverse]))) | exact .inl (by (simp (disch := first | omega | (simp only [yZ, yB] <;> omega) | fail) [go_sem, yY, *, -List.map_take, -List.map_drop, -List.map_append, -List.map_reverse]))))))))
  all_goals rfl
theorem parse_read (s : List UInt8) (hs : s.length < 1000000) (hp : Go.Lib.hasPrefix s sCtl = false) {x0 : List UInt8} {r : List (List UInt8)} {n g : Nat} {y : CV} {caps : List CV} {a : Ac} {ok : Bool} (hw : wdsS s = x0 :: r) (hk : lookC Tryz.prog 101 (.imap formK formX) (.str x0) true = some (.tup [.agg [.int .i64 n, y, .fn (.func g) [] caps], .bool true])) (hn : r.length + 1 = n)
    (hr : ∀ {B : List Box} {args : List CV}, Is args (.lst n ((x0 :: r).map .str) true :: caps) → ACall Tryz.prog g args B fun c B' => c = .tup [.agg (acC a), .bool ok] ∧ B' = B) (hA : AcL a) :
    PC Tryz.prog false 23 [.str s] (.tup [.agg (acC a), .bool (ok && (lineS a == s))]) := by
  have hcp : ∀ {B : List Box}, ACall Tryz.prog 41 [.str s, .str sCtl] B fun c B' => c = .tup [.str (Go.Lib.trimPrefix s sCtl), .bool false] ∧ B' = B := by
    intro B
    have := @cutPrefix_at B s sCtl
    rwa [hp] at this
  have htl : (Go.Lib.trimSuffix s [10]).length ≤ s.length := by
    unfold Go.Lib.trimSuffix
    split <;> simp
  have hts : ∀ {B : List Box}, ACall Tryz.prog 43 [.str s, .str [10]] B fun c B' => c = .str (Go.Lib.trimSuffix s [10]) ∧ B' = B := trimSuffix_at (by omega)
  have hsp : ∀ {B : List Box}, ACall Tryz.prog 45 [.str (Go.Lib.trimSuffix s [10]), .str [32]] B fun c B' => c = .lst (wdsS s).length ((wdsS s).map .str) true ∧ B' = B := split_at (by omega)
  obtain ⟨M, hM⟩ : ∃ M, CV.imap formK formX = M := ⟨_, rfl⟩
  rw [hM] at hk
  have hf : ∀ {B : List Box} {args : List CV}, Is args [] → ACall Tryz.prog 46 args B fun c B' => c = M ∧ B' = B := forms_at hM
  rw [hw] at hsp
  have hl := acC_len hA
  have ho : ∀ {nz : Bool} {B : List Box} {k : Nat}, omap (Go.Sy.fz nz false B (k + 3)) (acC a) = some (acC a) := acC_om
  have htk : (acC a).take 60 = acC a := List.take_of_length_le (by omega)
  have hln : ∀ {B : List Box} {args : List CV}, Is (omap (Go.Sy.fz true false B 6) args) (some [.agg (acC a)]) → ACall Tryz.prog 25 args B fun c B' => c = .str (lineS a) ∧ B' = B := fun hz => line_at hz hA
  rw [sCtl] at *
  simp only [List.length_cons, List.map_cons, hn] at hsp
  simp only [List.map_cons] at hr
  generalize Go.Lib.trimPrefix s _ = s1 at *
  generalize Go.Lib.trimSuffix s _ = s2 at *
  generalize lineS a = L at *
  generalize acC a = Y at *
  generalize r.map CV.str = R at *
  have hn0 : (0 : Int) < n := by omega
  clear hM hw hn hA
  cases ok
  · refine acall_intro mixed Tryz.func23 rfl ca23 (by kernel_rfl) (by rw [Tryz.ntmps23]; simp) ?_
    repeat' (first | (with_reducible first | apply jA | apply jB | apply jC | apply jD | apply jE | apply jF | apply jG | apply jH | apply jI | apply jJ | apply jK | apply jL | apply jM | apply jN | apply jO) | ((with_reducible first | apply jP | apply jQ); rfl) | ((with_reducible apply w_drawA); (conv => lhs; reduce); exact kE; exact kE) | ((first | ((with_reducible first | apply d_made | apply q_made); rfl; rfl)); (iterate 6 exact kE)) | ((first | ((with_reducible first | apply d_fop | apply q_fop); rfl; rfl)); (intro Bx hJ; (first | (obtain ⟨_, hJ1, hJ2⟩ := hJ) | (try simp only at hJ)); exact kE)) | ((with_reducible first | apply d_free | apply q_free); rfl; (iterate 2 exact kE); (intro Bx hJ); (first | ((with_reducible apply hcp) <;> exact kD) | ((with_reducible apply hts) <;> exact kD) | ((with_reducible apply hsp) <;> exact kD) | ((with_reducible apply hf) <;> exact kD) | ((with_reducible apply hr) <;> exact kD) | ((with_reducible apply hln) <;> exact kD))) | ((first | ((with_reducible first | apply jR | apply jS | apply jT); rfl; rfl) | (with_reducible first | apply jU | apply jV | apply jW) | ((with_reducible first | apply jX | apply jY | apply jZ); rfl) | ((with_reducible first | apply kA | apply kB | apply kC); rfl)); all_goals (first | ((with_reducible show Is _ _); exact kE) | ((with_reducible refine fun (hc : (_ : Bool) = _) => ?_); (try simp only [xZ, xY, xP, reduceCtorEq] at hc); (try (have hx : True := hc; clear hx hc)); (try exact kX)) | ((with_reducible show ACall _ _ _ _ _); (first | ((with_reducible apply hcp) <;> exact kD) | ((with_reducible apply hts) <;> exact kD) | ((with_reducible apply hsp) <;> exact kD) | ((with_reducible apply hf) <;> exact kD) | ((with_reducible apply hr) <;> exact kD) | ((with_reducible apply hln) <;> exact kD))) | ((fail_if_success (with_reducible first | show Is _ _ | show ACall _ _ _ _ _)); (try ((with_reducible show _ ∨ _); first | exact .inl rfl | (refine .inr ⟨rfl, ?_, ?_⟩; (focus (repeat (first | exact trivial | refine ⟨.inl rfl, ?_⟩ | refine ⟨.inr rfl, ?_⟩ | refine ⟨.inr (by (simp (disch := first | omega | (simp only [yZ, yB] <;> omega) | fail) [go_sem, yY, *, -List.map_take, -List.map_drop, -List.map_append, -List.map_reverse])), ?_⟩))); (first | exact trivial | exact rfl | (refine ⟨_, ?_, ?_⟩; (focus (simp (disch := first | omega | (simp only [yZ, yB] <;> omega) | fail) [go_sem, yY, *, -List.map_take, -List.map_drop, -List.map_append, -List.map_reverse]; (try exact rfl))); (simp (disch := first | omega | (simp only [yZ, yB] <;> omega) | fail) [go_sem, yY, *, -List.map_take, -List.map_drop, -List.map_append, -List.map_reverse])) | (simp (disch := first | omega | (simp only [yZ, yB] <;> omega) | fail) [go_sem, yY, *, -List.map_take, -List.map_drop, -List.map_append, -List.map_reverse]))) | exact .inl (by (simp (disch := first | omega | (simp only [yZ, yB] <;> omega) | fail) [go_sem, yY, *, -List.map_take, -List.map_drop, -List.map_append, -List.map_reverse]))))))))
    all_goals simp [go_sem, ho]
  · refine acall_intro mixed Tryz.func23 rfl ca23 (by kernel_rfl) (by rw [Tryz.ntmps23]; simp) ?_
    repeat' (first | (with_reducible first | apply jA | apply jB | apply jC | apply jD | apply jE | apply jF | apply jG | apply jH | apply jI | apply jJ | apply jK | apply jL | apply jM | apply jN | apply jO) | ((with_reducible first | apply jP | apply jQ); rfl) | ((with_reducible apply w_drawA); (conv => lhs; reduce); exact kE; exact kE) | ((first | ((with_reducible first | apply d_made | apply q_made); rfl; rfl)); (iterate 6 exact kE)) | ((first | ((with_reducible first | apply d_fop | apply q_fop); rfl; rfl)); (intro Bx hJ; (first | (obtain ⟨_, hJ1, hJ2⟩ := hJ) | (try simp only at hJ)); exact kE)) | ((with_reducible first | apply d_free | apply q_free); rfl; (iterate 2 exact kE); (intro Bx hJ); (first | ((with_reducible apply hcp) <;> exact kD) | ((with_reducible apply hts) <;> exact kD) | ((with_reducible apply hsp) <;> exact kD) | ((with_reducible apply hf) <;> exact kD) | ((with_reducible apply hr) <;> exact kD) | ((with_reducible apply hln) <;> exact kD))) | ((first | ((with_reducible first | apply jR | apply jS | apply jT); rfl; rfl) | (with_reducible first | apply jU | apply jV | apply jW) | ((with_reducible first | apply jX | apply jY | apply jZ); rfl) | ((with_reducible first | apply kA | apply kB | apply kC); rfl)); all_goals (first | ((with_reducible show Is _ _); exact kE) | ((with_reducible refine fun (hc : (_ : Bool) = _) => ?_); (try simp only [xZ, xY, xP, reduceCtorEq] at hc); (try (have hx : True := hc; clear hx hc)); (try exact kX)) | ((with_reducible show ACall _ _ _ _ _); (first | ((with_reducible apply hcp) <;> exact kD) | ((with_reducible apply hts) <;> exact kD) | ((with_reducible apply hsp) <;> exact kD) | ((with_reducible apply hf) <;> exact kD) | ((with_reducible apply hr) <;> exact kD) | ((with_reducible apply hln) <;> exact kD))) | ((fail_if_success (with_reducible first | show Is _ _ | show ACall _ _ _ _ _)); (try ((with_reducible show _ ∨ _); first | exact .inl rfl | (refine .inr ⟨rfl, ?_, ?_⟩; (focus (repeat (first | exact trivial | refine ⟨.inl rfl, ?_⟩ | refine ⟨.inr rfl, ?_⟩ | refine ⟨.inr (by (simp (disch := first | omega | (simp only [yZ, yB] <;> omega) | fail) [go_sem, yY, *, -List.map_take, -List.map_drop, -List.map_append, -List.map_reverse])), ?_⟩))); (first | exact trivial | exact rfl | (refine ⟨_, ?_, ?_⟩; (focus (simp (disch := first | omega | (simp only [yZ, yB] <;> omega) | fail) [go_sem, yY, *, -List.map_take, -List.map_drop, -List.map_append, -List.map_reverse]; (try exact rfl))); (simp (disch := first | omega | (simp only [yZ, yB] <;> omega) | fail) [go_sem, yY, *, -List.map_take, -List.map_drop, -List.map_append, -List.map_reverse])) | (simp (disch := first | omega | (simp only [yZ, yB] <;> omega) | fail) [go_sem, yY, *, -List.map_take, -List.map_drop, -List.map_append, -List.map_reverse]))) | exact .inl (by (simp (disch := first | omega | (simp only [yZ, yB] <;> omega) | fail) [go_sem, yY, *, -List.map_take, -List.map_drop, -List.map_append, -List.map_reverse]))))))))
    all_goals simp [go_sem, ho]
end Go.Proofs.YtcbdghgogmcllaaGreatDoor
end
section
namespace Go.Proofs.YtcbdghgogmcllaaGreatDoor
open Go Go.Sy
theorem i64_zero : i64 0 := ⟨by decide, by decide⟩
theorem numW_i64 (s : List UInt8) : i64 (numW s).1 := by
  unfold numW
  rw [Go.Lib.parseIntB_64, Go.Lib.intSat_64]
  cases h : Go.Lib.atoiAll s with
  | ok n => exact Go.Lib.atoiAll_bounds h
  | range => exact Go.Lib.atoiSat_bounds s
  | _ => exact i64_zero
theorem smallW_i64 (s : List UInt8) : i64 (smallW s).1 := by
  unfold smallW
  cases h : Go.Lib.atoiAll s with
  | ok n => exact Go.Lib.atoiAll_bounds h
  | range => exact Go.Lib.atoiSat_bounds s
  | _ => exact i64_zero
theorem whoW_i64 (s : List UInt8) : i64 (whoW s).1 := smallW_i64 s
theorem unhexW_le (s : List UInt8) : (unhexW s).1.length ≤ s.length := by
  unfold unhexW
  split
  · simp
  · split
    · rename_i l h
      have := unhex_len _ _ h
      dsimp only; omega
    · simp
theorem act0_L : AcL act0 := ⟨⟨rfl, i64_zero, i64_zero, i64_zero, by decide, by decide⟩, i64_zero, i64_zero, i64_zero, i64_zero, i64_zero, rfl⟩
theorem evA_L {e : Ev} (h : EvL e) : AcL (evA e) := ⟨h, ⟨by show (-9223372036854775808 : Int) ≤ 1; decide, by show (1 : Int) ≤ 9223372036854775807; decide⟩, i64_zero, i64_zero, i64_zero, i64_zero, rfl⟩
theorem ctlW_L {s : List UInt8} (h : (ctlT s).length < 1000000) : AcL (ctlW s) := evA_L ⟨rfl, ⟨by show (-9223372036854775808 : Int) ≤ 5; decide, by show (5 : Int) ≤ 9223372036854775807; decide⟩, i64_zero, i64_zero, by show (0 : Nat) < 1000000; decide, h⟩
def readW (w : List (List UInt8)) : Ac × Bool := match w with
  | [x0, x1] => if x0 = wPlain then (evA { ev0 with kind := 1, bytes := (unhexW x1).1 }, (unhexW x1).2) else if x0 = wTick then (evA { ev0 with kind := 3, time := (numW x1).1 }, (numW x1).2) else if x0 = wEntropy then (evA { ev0 with kind := 4, bytes := (unhexW x1).1 }, (unhexW x1).2)
    else if x0 = wAbort then barW 4 x1 else if x0 = wKill then barW 5 x1 else (act0, false)
  | [x0, x1, x2] => if x0 = wDatagram then dgW x1 x2 else if x0 = wPick then nmbW 3 x1 x2 else if x0 = wCut then nmbW 7 x1 x2 else (act0, false)
  | [x0, x1, x2, x3] => if x0 = wHandoff then handW x1 x2 x3 else if x0 = wCorrupt then corW x1 x2 x3 else (act0, false)
  | _ => (act0, false)
def parseS (s : List UInt8) : Ac × Bool := if Go.Lib.hasPrefix s sCtl then (ctlW s, prS (ctlT s) && (lineS (ctlW s) == s)) else ((readW (wdsS s)).1, (readW (wdsS s)).2 && (lineS (readW (wdsS s)).1 == s))
theorem parseE_port {s : List UInt8} {six : Bool} {A : List UInt8} {n : Nat} (h : parseE s = some (six, A, n)) : n ≤ 65535 := by
  unfold parseE at h
  split at h
  · cases h
  · unfold endE at h
    split at h
    · split at h
      · rename_i hh
        simp at h
        obtain ⟨_, _, rfl⟩ := h
        exact hh.2.2.1
      · cases h
    · cases h
theorem readW_L {w : List (List UInt8)} (h : ∀ x ∈ w, x.length < 1000000) : AcL (readW w).1 := by
  have hb : ∀ (k : Int) (x : List UInt8), i64 k → x.length < 1000000 → AcL (evA { ev0 with kind := k, bytes := (unhexW x).1 }) := fun k x hk hx => evA_L ⟨rfl, hk, i64_zero, i64_zero, by have := unhexW_le x; show (unhexW x).1.length < 1000000; omega, by show (0 : Nat) < 1000000; decide⟩
  have hsm : ∀ k : Int, 0 ≤ k → k ≤ 7 → i64 k := fun k h1 h2 => ⟨by omega, by omega⟩
  unfold readW
  split
  · rename_i x0 x1
    repeat' split
    · exact hb 1 x1 (hsm _ (by decide) (by decide)) (h x1 (by simp))
    · exact evA_L ⟨rfl, hsm 3 (by decide) (by decide), i64_zero, numW_i64 x1, by show (0 : Nat) < 1000000; decide, by show (0 : Nat) < 1000000; decide⟩
    · exact hb 4 x1 (hsm _ (by decide) (by decide)) (h x1 (by simp))
    · exact ⟨act0_L.ev, hsm 4 (by decide) (by decide), whoW_i64 x1, i64_zero, i64_zero, i64_zero, rfl⟩
    · exact ⟨act0_L.ev, hsm 5 (by decide) (by decide), whoW_i64 x1, i64_zero, i64_zero, i64_zero, rfl⟩
    · exact act0_L
  · rename_i x0 x1 x2
    repeat' split
    · unfold dgW
      split
      · rename_i six A n he
        have := parseE_port he
        have := unhexW_le x2
        have := h x2 (by simp)
        exact evA_L ⟨parseE_ip he, hsm 2 (by decide) (by decide), ⟨by show (-9223372036854775808 : Int) ≤ n; omega, by show (n : Int) ≤ 9223372036854775807; omega⟩, i64_zero, by show (unhexW x2).1.length < 1000000; omega, by show (0 : Nat) < 1000000; decide⟩
      · exact hb 2 x2 (hsm _ (by decide) (by decide)) (h x2 (by simp))
    · exact ⟨act0_L.ev, hsm 3 (by decide) (by decide), whoW_i64 x1, numW_i64 x2, i64_zero, i64_zero, rfl⟩
    · exact ⟨act0_L.ev, hsm 7 (by decide) (by decide), whoW_i64 x1, numW_i64 x2, i64_zero, i64_zero, rfl⟩
    · exact act0_L
  · rename_i x0 x1 x2 x3
    repeat' split
    · unfold handW
      split
      · split
        · rename_i hh
          exact ⟨act0_L.ev, hsm 2 (by decide) (by decide), i64_zero, i64_zero, smallW_i64 x1, smallW_i64 x2, hh.2.2⟩
        · exact act0_L
      · exact act0_L
    · unfold corW
      split
      · split
        · exact ⟨act0_L.ev, hsm 6 (by decide) (by decide), whoW_i64 x1, numW_i64 x2, i64_zero, i64_zero, rfl⟩
        · exact act0_L
      · exact act0_L
    · exact act0_L
  · exact act0_L
theorem ctlT_le (s : List UInt8) : (ctlT s).length ≤ s.length := by
  have h1 : (Go.Lib.trimPrefix s sCtl).length ≤ s.length := by unfold Go.Lib.trimPrefix; split <;> simp
  unfold ctlT Go.Lib.trimSuffix
  split
  · simp; omega
  · exact h1
theorem wdsS_le {s x : List UInt8} (h : x ∈ wdsS s) : x.length ≤ s.length := by
  have h1 := splitL_mem 32 _ _ h
  have h2 : (Go.Lib.trimSuffix s [10]).length ≤ s.length := by unfold Go.Lib.trimSuffix; split <;> simp
  omega
theorem len_two {α : Type} {r : List α} (h : r.length = 2) : ∃ x1 x2, r = [x1, x2] := by
  match r, h with
  | [a, b], _ => exact ⟨a, b, rfl⟩
theorem len_three {α : Type} {r : List α} (h : r.length = 3) : ∃ x1 x2 x3, r = [x1, x2, x3] := by
  match r, h with
  | [a, b, c], _ => exact ⟨a, b, c, rfl⟩
theorem look_miss {x : List UInt8} (h : x ∉ [wPlain, wDatagram, wTick, wEntropy, wHandoff, wPick, wCut, wAbort, wKill, wCorrupt]) : lookC Tryz.prog 101 (.imap formK formX) (.str x) true = some (.tup [formZ, .bool false]) := by
  simp only [List.mem_cons, not_or, List.not_mem_nil, not_false_eq_true, and_true] at h
  obtain ⟨h1, h2, h3, h4, h5, h6, h7, h8, h9, h10⟩ := h
  have e1 : (x == wPlain) = false := by simpa using h1
  have e2 : (x == wDatagram) = false := by simpa using h2
  have e3 : (x == wTick) = false := by simpa using h3
  have e4 : (x == wEntropy) = false := by simpa using h4
  have e5 : (x == wHandoff) = false := by simpa using h5
  have e6 : (x == wPick) = false := by simpa using h6
  have e7 : (x == wCut) = false := by simpa using h7
  have e8 : (x == wAbort) = false := by simpa using h8
  have e9 : (x == wKill) = false := by simpa using h9
  have e10 : (x == wCorrupt) = false := by simpa using h10
  have hu : Tryz.prog.underlying 9 = some .string := Tryz.underlying9
  simp [lookC, Tryz.underlying101, formK, formX, findC, hu, sameC, e1, e2, e3, e4, e5, e6, e7, e8, e9, e10]
  have hz : zvalC Tryz.prog 99 = some formZ := by kernel_rfl
  exact hz
theorem readW_one {x0 : List UInt8} {r : List (List UInt8)} {n : Nat} (hx : (x0 ∈ [wPlain, wTick, wEntropy, wAbort, wKill] ∧ n = 2) ∨ (x0 ∈ [wDatagram, wPick, wCut] ∧ n = 3) ∨ (x0 ∈ [wHandoff, wCorrupt] ∧ n = 4)) (hn : r.length + 1 ≠ n) : readW (x0 :: r) = (act0, false) := by
  match r, hn with
  | [], _ => rfl
  | [x1], hn =>
    rcases hx with ⟨_, rfl⟩ | ⟨hx, rfl⟩ | ⟨hx, rfl⟩
    · simp at hn
    · simp only [List.mem_cons, List.not_mem_nil, or_false] at hx
      rcases hx with rfl | rfl | rfl <;> rfl
    · simp only [List.mem_cons, List.not_mem_nil, or_false] at hx
      rcases hx with rfl | rfl <;> rfl
  | [x1, x2], hn =>
    rcases hx with ⟨hx, rfl⟩ | ⟨_, rfl⟩ | ⟨hx, rfl⟩
    · simp only [List.mem_cons, List.not_mem_nil, or_false] at hx
      rcases hx with rfl | rfl | rfl | rfl | rfl <;> rfl
    · simp at hn
    · simp only [List.mem_cons, List.not_mem_nil, or_false] at hx
      rcases hx with rfl | rfl <;> rfl
  | [x1, x2, x3], hn =>
    rcases hx with ⟨hx, rfl⟩ | ⟨hx, rfl⟩ | ⟨_, rfl⟩
    · simp only [List.mem_cons, List.not_mem_nil, or_false] at hx
      rcases hx with rfl | rfl | rfl | rfl | rfl <;> rfl
    · simp only [List.mem_cons, List.not_mem_nil, or_false] at hx
      rcases hx with rfl | rfl | rfl <;> rfl
    · simp at hn
  | _ :: _ :: _ :: _ :: _, _ => rfl
theorem readW_not {x0 : List UInt8} {r : List (List UInt8)} (h : x0 ∉ [wPlain, wDatagram, wTick, wEntropy, wHandoff, wPick, wCut, wAbort, wKill, wCorrupt]) : readW (x0 :: r) = (act0, false) := by
  simp only [List.mem_cons, not_or, List.not_mem_nil, not_false_eq_true, and_true] at h
  obtain ⟨h1, h2, h3, h4, h5, h6, h7, h8, h9, h10⟩ := h
  unfold readW
  split
  · rename_i he; simp at he; obtain ⟨rfl, _⟩ := he; simp [*]
  · rename_i he; simp at he; obtain ⟨rfl, _⟩ := he; simp [*]
  · rename_i he; simp at he; obtain ⟨rfl, _⟩ := he; simp [*]
  · rfl
theorem sparse_in (s : List UInt8) (hs : s.length < 1000000) : PC Tryz.prog false 23 [.str s] (.tup [.agg (acC (parseS s).1), .bool (parseS s).2]) := by
  unfold parseS
  by_cases hp : Go.Lib.hasPrefix s sCtl = true
  · rw [if_pos hp]
    have := ctlT_le s
    exact parse_ctl s hs hp (by omega) (ctlW_L (by omega))
  rw [if_neg hp]
  have hp : Go.Lib.hasPrefix s sCtl = false := by simpa using hp
  have hL : AcL (readW (wdsS s)).1 := readW_L fun x hx => by have := wdsS_le hx; omega
  have hwl : ∀ x ∈ wdsS s, x.length ≤ s.length := fun x hx => wdsS_le hx
  obtain ⟨x0, r, hw⟩ : ∃ x0 r, wdsS s = x0 :: r := by
    cases h : wdsS s with
    | nil => exact absurd h (splitL_ne 32 _)
    | cons x r => exact ⟨x, r, rfl⟩
  rw [hw] at hL hwl ⊢
  by_cases hx : x0 ∈ [wPlain, wDatagram, wTick, wEntropy, wHandoff, wPick, wCut, wAbort, wKill, wCorrupt]
  rotate_left
  · rw [readW_not hx]
    exact parse_miss s hs hp hw (look_miss hx)
  simp only [List.mem_cons, List.not_mem_nil, or_false] at hx
  rcases hx with hx | hx | hx | hx | hx | hx | hx | hx | hx | hx
  · subst hx
    have hk : lookC Tryz.prog 101 (.imap formK formX) (.str wPlain) true = some (.tup [.agg [.int .i64 (2 : Nat), fnC 68, .fn (.func 70) [] []], .bool true]) := by kernel_rfl
    by_cases hn : r.length + 1 = 2
    · obtain ⟨x1, rfl⟩ : ∃ x1, r = [x1] := List.length_eq_one_iff.1 (by omega)
      exact parse_read s hs hp hw hk hn (fun {B args} hz => acall_imm (nz := true) (by have hz : args = _ := hz; subst hz; rfl) (rd1_in  wPlain x1 (by have := hwl x1 (by simp); omega))) hL
    · rw [readW_one (n := 2) (.inl ⟨by decide, rfl⟩) hn]
      exact parse_cnt s hs hp hw hk hn
  · subst hx
    have hk : lookC Tryz.prog 101 (.imap formK formX) (.str wDatagram) true = some (.tup [.agg [.int .i64 (3 : Nat), fnC 72, .fn (.func 74) [] []], .bool true]) := by kernel_rfl
    by_cases hn : r.length + 1 = 3
    · obtain ⟨x1, x2, rfl⟩ : ∃ x1 x2, r = [x1, x2] := len_two (by omega)
      exact parse_read s hs hp hw hk hn (fun {B args} hz => acall_imm (nz := true) (by have hz : args = _ := hz; subst hz; rfl) (rd3_in  wDatagram x1 x2 (by have := hwl x1 (by simp); omega) (by have := hwl x2 (by simp); omega))) hL
    · rw [readW_one (n := 3) (.inr (.inl ⟨by decide, rfl⟩)) hn]
      exact parse_cnt s hs hp hw hk hn
  · subst hx
    have hk : lookC Tryz.prog 101 (.imap formK formX) (.str wTick) true = some (.tup [.agg [.int .i64 (2 : Nat), fnC 76, .fn (.func 78) [] []], .bool true]) := by kernel_rfl
    by_cases hn : r.length + 1 = 2
    · obtain ⟨x1, rfl⟩ : ∃ x1, r = [x1] := List.length_eq_one_iff.1 (by omega)
      exact parse_read s hs hp hw hk hn (fun {B args} hz => acall_imm (nz := true) (by have hz : args = _ := hz; subst hz; rfl) (rd5_in  wTick x1 (by have := hwl x1 (by simp); omega))) hL
    · rw [readW_one (n := 2) (.inl ⟨by decide, rfl⟩) hn]
      exact parse_cnt s hs hp hw hk hn
  · subst hx
    have hk : lookC Tryz.prog 101 (.imap formK formX) (.str wEntropy) true = some (.tup [.agg [.int .i64 (2 : Nat), fnC 80, .fn (.func 81) [] []], .bool true]) := by kernel_rfl
    by_cases hn : r.length + 1 = 2
    · obtain ⟨x1, rfl⟩ : ∃ x1, r = [x1] := List.length_eq_one_iff.1 (by omega)
      exact parse_read s hs hp hw hk hn (fun {B args} hz => acall_imm (nz := true) (by have hz : args = _ := hz; subst hz; rfl) (rd7_in  wEntropy x1 (by have := hwl x1 (by simp); omega))) hL
    · rw [readW_one (n := 2) (.inl ⟨by decide, rfl⟩) hn]
      exact parse_cnt s hs hp hw hk hn
  · subst hx
    have hk : lookC Tryz.prog 101 (.imap formK formX) (.str wHandoff) true = some (.tup [.agg [.int .i64 (4 : Nat), fnC 82, .fn (.func 85) [] []], .bool true]) := by kernel_rfl
    by_cases hn : r.length + 1 = 4
    · obtain ⟨x1, x2, x3, rfl⟩ : ∃ x1 x2 x3, r = [x1, x2, x3] := len_three (by omega)
      exact parse_read s hs hp hw hk hn (fun {B args} hz => acall_imm (nz := true) (by have hz : args = _ := hz; subst hz; rfl) (handW_in  wHandoff x1 x2 x3 (by have := hwl x1 (by simp); omega) (by have := hwl x2 (by simp); omega) (by have := hwl x3 (by simp); omega))) hL
    · rw [readW_one (n := 4) (.inr (.inr ⟨by decide, rfl⟩)) hn]
      exact parse_cnt s hs hp hw hk hn
  · subst hx
    have hk : lookC Tryz.prog 101 (.imap formK formX) (.str wPick) true = some (.tup [.agg [.int .i64 (3 : Nat), fnC 89, .fn (.func 118) [] [.iptr [.int .i64 3]]], .bool true]) := by kernel_rfl
    by_cases hn : r.length + 1 = 3
    · obtain ⟨x1, x2, rfl⟩ : ∃ x1 x2, r = [x1, x2] := len_two (by omega)
      exact parse_read s hs hp hw hk hn (fun {B args} hz => acall_imm (nz := true) (by have hz : args = _ := hz; subst hz; rfl) (nmbW_in 3 wPick x1 x2 (by have := hwl x1 (by simp); omega) (by have := hwl x2 (by simp); omega))) hL
    · rw [readW_one (n := 3) (.inr (.inl ⟨by decide, rfl⟩)) hn]
      exact parse_cnt s hs hp hw hk hn
  · subst hx
    have hk : lookC Tryz.prog 101 (.imap formK formX) (.str wCut) true = some (.tup [.agg [.int .i64 (3 : Nat), fnC 89, .fn (.func 118) [] [.iptr [.int .i64 7]]], .bool true]) := by kernel_rfl
    by_cases hn : r.length + 1 = 3
    · obtain ⟨x1, x2, rfl⟩ : ∃ x1 x2, r = [x1, x2] := len_two (by omega)
      exact parse_read s hs hp hw hk hn (fun {B args} hz => acall_imm (nz := true) (by have hz : args = _ := hz; subst hz; rfl) (nmbW_in 7 wCut x1 x2 (by have := hwl x1 (by simp); omega) (by have := hwl x2 (by simp); omega))) hL
    · rw [readW_one (n := 3) (.inr (.inl ⟨by decide, rfl⟩)) hn]
      exact parse_cnt s hs hp hw hk hn
  · subst hx
    have hk : lookC Tryz.prog 101 (.imap formK formX) (.str wAbort) true = some (.tup [.agg [.int .i64 (2 : Nat), fnC 120, .fn (.func 121) [] [.iptr [.int .i64 4]]], .bool true]) := by kernel_rfl
    by_cases hn : r.length + 1 = 2
    · obtain ⟨x1, rfl⟩ : ∃ x1, r = [x1] := List.length_eq_one_iff.1 (by omega)
      exact parse_read s hs hp hw hk hn (fun {B args} hz => acall_imm (nz := true) (by have hz : args = _ := hz; subst hz; rfl) (barW_in 4 wAbort x1 (by have := hwl x1 (by simp); omega))) hL
    · rw [readW_one (n := 2) (.inl ⟨by decide, rfl⟩) hn]
      exact parse_cnt s hs hp hw hk hn
  · subst hx
    have hk : lookC Tryz.prog 101 (.imap formK formX) (.str wKill) true = some (.tup [.agg [.int .i64 (2 : Nat), fnC 120, .fn (.func 121) [] [.iptr [.int .i64 5]]], .bool true]) := by kernel_rfl
    by_cases hn : r.length + 1 = 2
    · obtain ⟨x1, rfl⟩ : ∃ x1, r = [x1] := List.length_eq_one_iff.1 (by omega)
      exact parse_read s hs hp hw hk hn (fun {B args} hz => acall_imm (nz := true) (by have hz : args = _ := hz; subst hz; rfl) (barW_in 5 wKill x1 (by have := hwl x1 (by simp); omega))) hL
    · rw [readW_one (n := 2) (.inl ⟨by decide, rfl⟩) hn]
      exact parse_cnt s hs hp hw hk hn
  · subst hx
    have hk : lookC Tryz.prog 101 (.imap formK formX) (.str wCorrupt) true = some (.tup [.agg [.int .i64 (4 : Nat), fnC 88, .fn (.func 90) [] []], .bool true]) := by kernel_rfl
    by_cases hn : r.length + 1 = 4
    · obtain ⟨x1, x2, x3, rfl⟩ : ∃ x1 x2 x3, r = [x1, x2, x3] := len_three (by omega)
      exact parse_read s hs hp hw hk hn (fun {B args} hz => acall_imm (nz := true) (by have hz : args = _ := hz; subst hz; rfl) (corW_in  wCorrupt x1 x2 x3 (by have := hwl x1 (by simp); omega) (by have := hwl x2 (by simp); omega) (by have := hwl x3 (by simp); omega))) hL
    · rw [readW_one (n := 4) (.inr (.inr ⟨by decide, rfl⟩)) hn]
      exact parse_cnt s hs hp hw hk hn
theorem parseS_L {s : List UInt8} (hs : s.length < 1000000) : AcL (parseS s).1 := by
  unfold parseS
  split
  · exact ctlW_L (by have := ctlT_le s; omega)
  · exact readW_L fun x hx => by have := wdsS_le hx; omega
theorem parseS_at {B : List Box} {args : List CV} {s : List UInt8} (hz : Is args [.str s]) (hs : s.length < 1000000) : ACall Tryz.prog 23 args B fun c B' => c = .tup [.agg (acC (parseS s).1), .bool (parseS s).2] ∧ B' = B := by
  have hz : args = _ := hz
  subst hz
  exact acall_imm (nz := false) rfl (sparse_in s hs)
end Go.Proofs.YtcbdghgogmcllaaGreatDoor
end
section
namespace Go.Proofs.YtcbdghgogmcllaaGreatDoor
open Go Go.Sy
def zE : List CV := [.int .i64 0, .bool false, .int .u8 0, .int .u8 0, .int .u8 0, .int .u8 0, .int .u8 0, .int .u8 0, .int .u8 0, .int .u8 0, .int .u8 0, .int .u8 0, .int .u8 0, .int .u8 0, .int .u8 0, .int .u8 0, .int .u8 0, .int .u8 0, .int .i64 0, .nilS, .int .i64 0, .str []]
def sameE (a b : Ev) : Bool := a.kind == b.kind && (a.six == b.six && a.ip == b.ip && a.port == b.port) && a.time == b.time && a.text == b.text && a.bytes == b.bytes
def sameA (a b : Ac) : Bool := a.kind == b.kind && a.who == b.who && a.n == b.n && a.xor == b.xor && a.lo == b.lo && a.hi == b.hi && a.key == b.key && sameE a.ev b.ev
theorem ev_parts {e : Ev} (h : e.ip.length = 16) : (evC e).length = 22 ∧ (evC e).head? = some (.int .i64 e.kind) ∧ (evC e).tail.take 18 = .bool e.six :: (e.ip.map byteC ++ [.int .i64 e.port]) ∧ (evC e).drop 19 = [.lst e.bytes.length (e.bytes.map byteC) false, .int .i64 e.time, .str e.text] ∧ (evC e).drop 20 = [.int .i64 e.time, .str e.text] ∧ (evC e).drop 21 = [.str e.text] := by
  have l1 : (e.ip.map byteC).length = 16 := by simp [h]
  have d19 : (evC e).drop 19 = [.lst e.bytes.length (e.bytes.map byteC) false, .int .i64 e.time, .str e.text] := by
    rw [evC, List.drop_succ_cons, List.drop_succ_cons, show (17 : Nat) = 16 + 1 from rfl, ← List.drop_drop, List.drop_left' l1]
    rfl
  refine ⟨evC_len h, rfl, ?_, d19, ?_, ?_⟩
  · rw [evC, List.tail_cons, List.take_succ_cons, List.take_append, l1, List.take_of_length_le (by omega)]
    rfl
  · rw [show (20 : Nat) = 19 + 1 from rfl, ← List.drop_drop, d19]; rfl
  · rw [show (21 : Nat) = 19 + 2 from rfl, ← List.drop_drop, d19]; rfl
theorem sameA_iff {a b : Ac} : sameA a b = true ↔ a = b := by
  obtain ⟨k, ⟨ek, s, i, p, by_, t, x⟩, w, n, xr, lo, hi, ky⟩ := a
  obtain ⟨k', ⟨ek', s', i', p', by_', t', x'⟩, w', n', xr', lo', hi', ky'⟩ := b
  simp only [sameA, sameE, Bool.and_eq_true, beq_iff_eq, Ac.mk.injEq, Ev.mk.injEq]
  constructor
  · rintro ⟨⟨⟨⟨⟨⟨⟨h1, h2⟩, h3⟩, h4⟩, h5⟩, h6⟩, h7⟩, ⟨⟨⟨g1, ⟨g2, g3⟩, g4⟩, g5⟩, g6⟩, g7⟩
    exact ⟨h1, ⟨g1, g2, g3, g4, g7, g5, g6⟩, h2, h3, h4, h5, h6, h7⟩
  · rintro ⟨h1, ⟨g1, g2, g3, g4, g7, g5, g6⟩, h2, h3, h4, h5, h6, h7⟩
    exact ⟨⟨⟨⟨⟨⟨⟨h1, h2⟩, h3⟩, h4⟩, h5⟩, h6⟩, h7⟩, ⟨⟨⟨g1, ⟨g2, g3⟩, g4⟩, g5⟩, g6⟩, g7⟩
end Go.Proofs.YtcbdghgogmcllaaGreatDoor
end
section
namespace Go.Proofs.YtcbdghgogmcllaaGreatDoor
open Go Go.Sy
theorem pu_snoc : ∀ (l : List UInt8) (acc u : Nat) (c : UInt8), Go.Lib.parseUint10 acc l = .ok u → 48 ≤ c.toNat → c.toNat ≤ 57 → u * 10 + (c.toNat - 48) < 18446744073709551616 → Go.Lib.parseUint10 acc (l ++ [c]) = .ok (u * 10 + (c.toNat - 48))
  | [], acc, u, c, h, h1, h2, h3 => by
    simp only [Go.Lib.parseUint10] at h
    injection h with h
    subst h
    simp only [List.nil_append, Go.Lib.parseUint10]
    rw [if_pos ⟨h1, h2⟩, if_neg (by omega), if_neg (by omega)]
  | d :: l, acc, u, c, h, h1, h2, h3 => by
    simp only [Go.Lib.parseUint10] at h
    simp only [List.cons_append, Go.Lib.parseUint10]
    split at h
    · rename_i hd
      rw [if_pos hd]
      split at h
      · cases h
      · rename_i g1
        rw [if_neg g1]
        split at h
        · cases h
        · rename_i g2
          rw [if_neg g2]
          exact pu_snoc l _ u c h h1 h2 h3
    · cases h
theorem pu_dec (n : Nat) (h : n < 9223372036854775808) : Go.Lib.parseUint10 0 (Go.Lib.decDigits n) = .ok n := by
  induction n using Nat.strongRecOn with
  | ind n ih =>
    rw [Go.Lib.decDigits]
    split
    · have e : (UInt8.ofNat (48 + n)).toNat = 48 + n := by simp; omega
      simp only [Go.Lib.parseUint10, e]
      rw [if_pos (by omega), if_neg (by omega), if_neg (by omega)]
      congr 1; omega
    · have e : (UInt8.ofNat (48 + n % 10)).toNat = 48 + n % 10 := by simp; omega
      have := pu_snoc _ 0 (n / 10) (UInt8.ofNat (48 + n % 10)) (ih (n / 10) (by omega) (by omega)) (by omega) (by omega) (by omega)
      rw [this, e]
      congr 1; omega
theorem dec_ne (n : Nat) : Go.Lib.decDigits n ≠ [] := by
  rw [Go.Lib.decDigits]
  split <;> simp
theorem dec_dig : ∀ (n : Nat), ∀ c ∈ Go.Lib.decDigits n, 48 ≤ c.toNat ∧ c.toNat ≤ 57 := fun n => by
  induction n using Nat.strongRecOn with
  | ind n ih =>
    rw [Go.Lib.decDigits]
    split
    · intro c hc
      simp only [List.mem_singleton] at hc
      subst hc
      simp
      omega
    · intro c hc
      rw [List.mem_append] at hc
      rcases hc with hc | hc
      · exact ih (n / 10) (by omega) c hc
      · simp only [List.mem_singleton] at hc
        subst hc
        simp
        omega
theorem atoi_dec (n : Nat) (h : n < 9223372036854775808) : Go.Lib.atoiAll (Go.Lib.decDigits n) = .ok (n : Int) := by
  have h1 := pu_dec n h
  have h2 := dec_dig n
  have h3 := dec_ne n
  generalize Go.Lib.decDigits n = l at *
  cases l with
  | nil => exact absurd rfl h3
  | cons c r =>
    have := h2 c (by simp)
    rw [Go.Lib.atoiAll_plain c r (by omega) (by omega), Go.Lib.parseMag, if_neg (by simp), h1]
    simp only [Go.Lib.signless]
    rw [if_neg (by omega)]
theorem itoa_nn {n : Int} (h : 0 ≤ n) : Go.Lib.itoa n = Go.Lib.decDigits n.toNat := by rw [Go.Lib.itoa, if_neg (by omega)]
theorem numW_back {n : Int} (h0 : 0 ≤ n) (h1 : n ≤ 4611686018427387904) : numW (Go.Lib.itoa n) = (n, true) := by
  rw [itoa_nn h0, numW, Go.Lib.parseIntB_64, atoi_dec _ (by omega)]
  have e : ((n.toNat : Nat) : Int) = n := by omega
  simp only [e, h0, h1, decide_true, Bool.and_self]
theorem dec_small {n : Nat} (h : n < 10) : Go.Lib.decDigits n = [UInt8.ofNat (48 + n)] := by rw [Go.Lib.decDigits, dif_pos h]
theorem smallW_back {n : Int} (h0 : 0 ≤ n) (h1 : n ≤ 9) : smallW (Go.Lib.itoa n) = (n, true) := by
  rw [itoa_nn h0, smallW, atoi_dec _ (by omega), dec_small (by omega)]
  have e : ((n.toNat : Nat) : Int) = n := by omega
  simp only [e, List.length_cons, List.length_nil, Nat.zero_add, decide_true]
theorem whoW_back {n : Int} (h0 : 0 ≤ n) (h1 : n ≤ 1) : whoW (Go.Lib.itoa n) = (n, true) := by
  rw [whoW, smallW_back h0 (by omega)]
  simp only [h1, decide_true, Bool.and_self]
theorem numW_ok {s : List UInt8} {n : Int} (h : numW s = (n, true)) : 0 ≤ n ∧ n ≤ 4611686018427387904 := by
  unfold numW at h
  split at h
  · simp only [Prod.mk.injEq, Bool.and_eq_true, decide_eq_true_eq] at h
    obtain ⟨rfl, h⟩ := h
    exact h
  · cases h
  · cases h
theorem smallW_ok {s : List UInt8} {n : Int} (h : smallW s = (n, true)) : 0 ≤ n ∧ n ≤ 9 := by
  unfold smallW at h
  split at h
  · rename_i m hm
    simp only [Prod.mk.injEq, decide_eq_true_eq] at h
    obtain ⟨rfl, h⟩ := h
    match s, h with
    | [c], _ =>
    by_cases e1 : c = 43
    · subst e1; rw [Go.Lib.atoiAll_plus] at hm; cases hm
    by_cases e2 : c = 45
    · subst e2; rw [Go.Lib.atoiAll_minus] at hm; cases hm
    rw [Go.Lib.atoiAll_plain c [] (fun e => e1 (UInt8.toNat_inj.1 e)) (fun e => e2 (UInt8.toNat_inj.1 e)), Go.Lib.parseMag, if_neg (by simp)] at hm
    simp only [Go.Lib.parseUint10] at hm
    have hc := c.toNat_lt
    split at hm
    · rename_i hd
      rw [if_neg (by omega), if_neg (by omega)] at hm
      simp only [Go.Lib.signless] at hm
      rw [if_neg (by omega)] at hm
      injection hm with hm
      omega
    · cases hm
  · cases h
  · cases h
theorem whoW_ok {s : List UInt8} {n : Int} (h : whoW s = (n, true)) : 0 ≤ n ∧ n ≤ 1 := by
  unfold whoW at h
  simp only [Prod.mk.injEq, Bool.and_eq_true, decide_eq_true_eq] at h
  obtain ⟨rfl, h1, h2⟩ := h
  exact ⟨(smallW_ok (s := s) (Prod.ext rfl h1)).1, h2⟩
end Go.Proofs.YtcbdghgogmcllaaGreatDoor
end
section
namespace Go.Proofs.YtcbdghgogmcllaaGreatDoor
open Go Go.Sy
theorem kE_RA0 {α : Type} {x y : α} (h : Is x y := by first | ((try simp (disch := first | omega | (simp only [yZ, yB] <;> omega) | fail) [go_sem, yY, *, lb, if_pos, if_neg, -List.map_take, -List.map_drop, -List.map_append, -List.map_reverse]); exact rfl) | fail) : Is x y := h
theorem kD_RA0 {p : Prop} (h : p := by (first | omega | assumption | exact rfl | ((simp (disch := first | omega | (simp only [yZ, yB] <;> omega) | fail) [go_sem, yY, *, lb, -List.map_take, -List.map_drop, -List.map_append, -List.map_reverse]) <;> (first | done | omega | exact rfl)) | fail)) : p := h
theorem wB_RA0 {p q : Prop} (k : q) (h : Hq q → p := by (intro k; (repeat' (first | (with_reducible first | apply jA | apply jB | apply jC | apply jD | apply jE | apply jF | apply jG | apply jH | apply jI | apply jJ | apply jK | apply jL | apply jM | apply jN | apply jO) | ((with_reducible first | apply jP | apply jQ); rfl) | ((first | ((with_reducible first | apply jR | apply jS | apply jT); rfl; rfl) | (with_reducible first | apply jU | apply jV | apply jW) | ((with_reducible first | apply jX | apply jY | apply jZ); rfl) | ((with_reducible first | apply kA | apply kB | apply kC); rfl)); all_goals (first | ((with_reducible show Is _ _); exact kE_RA0) | ((with_reducible refine fun (hc : (_ : Bool) = _) => ?_); (try simp only [xZ, xY, xP, reduceCtorEq] at hc); (try (have hx : True := hc; clear hx hc)); (try exact kX)) | ((with_reducible show ACall _ _ _ _ _); (first | ((with_reducible apply c0) <;> exact kD_RA0) | ((with_reducible apply c1) <;> exact kD_RA0) | ((with_reducible apply c2) <;> exact kD_RA0) | ((with_reducible apply c3) <;> exact kD_RA0) | ((with_reducible apply c4) <;> exact kD_RA0) | ((with_reducible apply c5) <;> exact kD_RA0) | ((with_reducible apply c6) <;> exact kD_RA0) | ((with_reducible apply c7) <;> exact kD_RA0))) | ((fail_if_success (with_reducible first | show Is _ _ | show ACall _ _ _ _ _)); (try ((with_reducible show _ ∨ _); exact kT))))) | (((with_reducible first | apply o_callQ | apply q_callQ); rfl); (iterate 2 exact kE_RA0); (first | ((with_reducible apply q0) <;> exact kD_RA0))))); exact hq k)) : p := h ⟨k⟩
theorem w_RA00 {p q : Prop}  (k : q) (h : Hq q → p := by (intro  k; exact wB_RA0 (hq k))) : p := h  ⟨k⟩
theorem w_RA01 {A0 p q : Prop} (c0 : A0) (k : q) (h : A0 → Hq q → p := by (intro c0 k; exact wB_RA0 (hq k))) : p := h c0 ⟨k⟩
theorem rdecM_at {n : Nat} (hn : n < 9223372036854775808) {B : List Box} : ACall Tryz.prog 29 [.int .i64 n] B fun c B' => c = .str (Go.Lib.decDigits n) ∧ B' = B := by
  by_cases h10 : n < 10
  · exact rdec_at n (by omega)
  · rw [Go.Lib.decDigits, dif_neg h10]
    have hr : ∀ {B : List Box} {args : List CV}, Is args [.int .i64 ((n : Int) / 10)] → ACall Tryz.prog 29 args B fun c B' => c = .str (Go.Lib.decDigits (n / 10)) ∧ B' = B := fun {B args} h => by
      have h : _ = _ := h
      subst h
      rw [show ((n : Int) / 10) = ((n / 10 : Nat) : Int) by omega]
      exact rdec_at (n / 10) (by omega)
    have hb := byte_nat (48 + n % 10) (by omega)
    have hlen := decDigits_len 18 (n / 10) (by omega)
    generalize UInt8.ofNat (48 + n % 10) = x at *
    have hb' : CV.int .u8 (48 + (n : Int) % 10) = byteC x := by rw [hb]; congr 1
    generalize Go.Lib.decDigits (n / 10) = D at *
    clear hb
    refine acall_intro mixed Tryz.func29 rfl ca29 (by kernel_rfl) (by rw [Tryz.ntmps29]; simp) ?_
    refine w1 @hr ?_ 
    exact ⟨rfl, rfl⟩
def decM (n : Int) : List UInt8 := Go.Lib.decDigits (max n 0).toNat
theorem decM_at {n : Int} (h : i64 n) {B : List Box} {args : List CV} (hz : Is args [.int .i64 (max n 0)]) : ACall Tryz.prog 29 args B fun c B' => c = .str (decM n) ∧ B' = B := by
  have hz : args = _ := hz
  subst hz
  have e : (max n 0) = (((max n 0).toNat : Nat) : Int) := by omega
  have := @rdecM_at (max n 0).toNat (by have := h.2; omega) B
  rw [← e] at this
  exact this
theorem decM_len {n : Int} (h : i64 n) : (decM n).length ≤ 19 := decDigits_len 18 _ (by have := h.2; omega)
def textE (e : Ev) : List UInt8 := if e.kind = 1 then wPlain ++ [32] ++ hexW e.bytes else if e.kind = 2 then wDatagram ++ [32] ++ fmtE e.six e.ip e.port ++ [32] ++ hexW e.bytes else if e.kind = 3 then wTick ++ [32] ++ decM e.time else if e.kind = 4 then wEntropy ++ [32] ++ hexW e.bytes else if e.kind = 5 then wControl ++ [32] ++ e.text else []
def textR (a : Ac) : List UInt8 := if a.kind = 1 then textE a.ev else if a.kind = 2 then wHandoff ++ [32] ++ decM a.lo ++ [32] ++ decM a.hi ++ [32] ++ hexS a.key else if a.kind = 3 then wPick ++ [32] ++ decM a.who ++ [32] ++ decM a.n else if a.kind = 4 then wAbort ++ [32] ++ decM a.who
  else if a.kind = 5 then wKill ++ [32] ++ decM a.who else if a.kind = 6 then wCorrupt ++ [32] ++ decM a.who ++ [32] ++ decM a.n ++ [32] ++ hexS [a.xor] else if a.kind = 7 then wCut ++ [32] ++ decM a.who ++ [32] ++ decM a.n else []
theorem rhexW_in (l : List UInt8) (hl : l.length < 1073741823) : PC Tryz.prog true 51 [lb l] (.str (hexW l)) := by
  have hh : ∀ {B : List Box} {args : List CV}, Is (omap (fz true false B 6) args) (some [.lst l.length (l.map byteC) false]) → ACall Tryz.prog 31 args B fun c B' => c = .str (hexS l) ∧ B' = B := fun h => rhex_at h hl
  refine acall_intro mixed Tryz.func51 rfl ca51 (by kernel_rfl) (by rw [Tryz.ntmps51]; simp) ?_
  by_cases h : l = []
  · subst h
    rw [hexW, if_pos rfl]
    refine w_RA00 ?_ 
    rfl
  · rw [hexW, if_neg h]
    have h0 : l.length ≠ 0 := fun e => h (List.eq_nil_of_length_eq_zero e)
    have hm : (l.map byteC).length = l.length := List.length_map _
    generalize hexS l = s at *
    refine w_RA01 @hh ?_ 
    rfl
theorem rhexW_at {B : List Box} {args : List CV} {l : List UInt8} {n : Nat} (hz : Is (omap (fz true false B 6) args) (some [.lst n (l.map byteC) false])) (hn : n = l.length) (hl : l.length < 1073741823) : ACall Tryz.prog 51 args B fun c B' => c = .str (hexW l) ∧ B' = B := by
  subst hn
  exact acall_fresh hz (rhexW_in l hl)
theorem textE_in (e : Ev) (h : EvL e) : PC Tryz.prog true 30 [.agg (evC e)] (.str (textE e)) := by
  obtain ⟨le, e0, e1, e19, e20, e21⟩ := ev_parts h.ip
  have hx : ∀ {B : List Box} {args : List CV}, Is (omap (fz true false B 6) args) (some [.lst e.bytes.length (e.bytes.map byteC) false]) → ACall Tryz.prog 51 args B fun c B' => c = .str (hexW e.bytes) ∧ B' = B := fun hz => rhexW_at hz rfl (by have := h.bytes; omega)
  have hf : ∀ {B : List Box} {args : List CV}, Is (omap (fz true false B 6) args) (some [.agg (.bool e.six :: (e.ip.map byteC ++ [.int .i64 e.port]))]) → ACall Tryz.prog 52 args B fun c B' => c = .str (fmtE e.six e.ip e.port) ∧ B' = B := fun hz => rfmtE_at hz h.ip h.port
  have hd : ∀ {B : List Box} {args : List CV}, Is args [.int .i64 (max e.time 0)] → ACall Tryz.prog 29 args B fun c B' => c = .str (decM e.time) ∧ B' = B := fun hz => decM_at h.time hz
  have hb : e.bytes.length < 1000000 := h.bytes
  have ht : e.text.length < 1000000 := h.text
  have hxl := hexW_len h.bytes
  have hfl := fmtE_len e.six e.ip e.port
  have hdl : (decM e.time).length ≤ 19 := decM_len h.time
  have hl18 : 18 ≤ (evC e).length - 1 := by omega
  clear le
  unfold textE
  generalize evC e = E at *
  generalize hexW e.bytes = s1 at *
  generalize fmtE e.six e.ip e.port = s2 at *
  generalize decM e.time = s3 at *
  generalize e.kind = k at *
  by_cases k1 : k = 1
  · subst k1
    rw [if_pos rfl]
    refine acall_intro mixed Tryz.func30 rfl ca30 (by kernel_rfl) (by rw [Tryz.ntmps30]; simp) ?_
    refine w1 @hx ?_ 
    all_goals rfl
  rw [if_neg k1]
  have b1 : (k == 1) = false := by simpa using k1
  by_cases k2 : k = 2
  · subst k2
    rw [if_pos rfl]
    refine acall_intro mixed Tryz.func30 rfl ca30 (by kernel_rfl) (by rw [Tryz.ntmps30]; simp) ?_
    repeat' (first | (with_reducible first | apply jA | apply jB | apply jC | apply jD | apply jE | apply jF | apply jG | apply jH | apply jI | apply jJ | apply jK | apply jL | apply jM | apply jN | apply jO) | ((with_reducible first | apply jP | apply jQ); rfl) | ((with_reducible apply w_drawA); (conv => lhs; reduce); exact kE; exact kE) | ((first | ((with_reducible first | apply d_made | apply q_made); rfl; rfl)); (iterate 6 exact kE)) | ((first | ((with_reducible first | apply d_fop | apply q_fop); rfl; rfl)); (intro Bx hJ; (first | (obtain ⟨_, hJ1, hJ2⟩ := hJ) | (try simp only at hJ)); exact kE)) | ((with_reducible first | apply d_free | apply q_free); rfl; (iterate 2 exact kE); (intro Bx hJ); (first | ((with_reducible apply hx) <;> exact kD) | ((with_reducible apply hf) <;> exact kD))) | ((first | ((with_reducible first | apply jR | apply jS | apply jT); rfl; rfl) | (with_reducible first | apply jU | apply jV | apply jW) | ((with_reducible first | apply jX | apply jY | apply jZ); rfl) | ((with_reducible first | apply kA | apply kB | apply kC); rfl)); all_goals (first | ((with_reducible show Is _ _); exact kE) | ((with_reducible refine fun (hc : (_ : Bool) = _) => ?_); (try simp only [xZ, xY, xP, reduceCtorEq] at hc); (try (have hx : True := hc; clear hx hc)); (try exact kX)) | ((with_reducible show ACall _ _ _ _ _); (first | ((with_reducible apply hx) <;> exact kD) | ((with_reducible apply hf) <;> exact kD))) | ((fail_if_success (with_reducible first | show Is _ _ | show ACall _ _ _ _ _)); (try ((with_reducible show _ ∨ _); first | exact .inl rfl | (refine .inr ⟨rfl, ?_, ?_⟩; (focus (repeat (first | exact trivial | refine ⟨.inl rfl, ?_⟩ | refine ⟨.inr rfl, ?_⟩ | refine ⟨.inr (by (simp (disch := first | omega | (simp only [yZ, yB] <;> omega) | fail) [go_sem, yY, *, -List.map_take, -List.map_drop, -List.map_append, -List.map_reverse])), ?_⟩))); (first | exact trivial | exact rfl | (refine ⟨_, ?_, ?_⟩; (focus (simp (disch := first | omega | (simp only [yZ, yB] <;> omega) | fail) [go_sem, yY, *, -List.map_take, -List.map_drop, -List.map_append, -List.map_reverse]; (try exact rfl))); (simp (disch := first | omega | (simp only [yZ, yB] <;> omega) | fail) [go_sem, yY, *, -List.map_take, -List.map_drop, -List.map_append, -List.map_reverse])) | (simp (disch := first | omega | (simp only [yZ, yB] <;> omega) | fail) [go_sem, yY, *, -List.map_take, -List.map_drop, -List.map_append, -List.map_reverse]))) | exact .inl (by (simp (disch := first | omega | (simp only [yZ, yB] <;> omega) | fail) [go_sem, yY, *, -List.map_take, -List.map_drop, -List.map_append, -List.map_reverse]))))))))
    all_goals simp [go_sem, wDatagram]
  rw [if_neg k2]
  have b2 : (k == 2) = false := by simpa using k2
  by_cases k3 : k = 3
  · subst k3
    rw [if_pos rfl]
    refine acall_intro mixed Tryz.func30 rfl ca30 (by kernel_rfl) (by rw [Tryz.ntmps30]; simp) ?_
    refine w1 @hd ?_ 
    all_goals rfl
  rw [if_neg k3]
  have b3 : (k == 3) = false := by simpa using k3
  by_cases k4 : k = 4
  · subst k4
    rw [if_pos rfl]
    refine acall_intro mixed Tryz.func30 rfl ca30 (by kernel_rfl) (by rw [Tryz.ntmps30]; simp) ?_
    refine w1 @hx ?_ 
    all_goals rfl
  rw [if_neg k4]
  have b4 : (k == 4) = false := by simpa using k4
  by_cases k5 : k = 5
  · subst k5
    rw [if_pos rfl]
    refine acall_intro mixed Tryz.func30 rfl ca30 (by kernel_rfl) (by rw [Tryz.ntmps30]; simp) ?_
    refine w0 ?_ 
    all_goals rfl
  rw [if_neg k5]
  have b5 : (k == 5) = false := by simpa using k5
  refine acall_intro mixed Tryz.func30 rfl ca30 (by kernel_rfl) (by rw [Tryz.ntmps30]; simp) ?_
  refine w0 ?_ 
  all_goals rfl
end Go.Proofs.YtcbdghgogmcllaaGreatDoor
end
section
namespace Go.Proofs.YtcbdghgogmcllaaGreatDoor
open Go Go.Sy
theorem textE_at {B : List Box} {args : List CV} {e : Ev} (hz : Is (omap (fz true false B 6) args) (some [.agg (evC e)])) (h : EvL e) : ACall Tryz.prog 30 args B fun c B' => c = .str (textE e) ∧ B' = B := acall_fresh hz (textE_in e h)
theorem textR_in (a : Ac) (h : AcL a) : PC Tryz.prog true 16 [.agg (acC a)] (.str (textR a)) := by
  have p := ac_parts h
  have q0 := p.d0
  have q1 : (acC a).tail.take 22 = evC a.ev := by rw [← List.drop_one]; exact p.d1
  have q23 := p.d23
  have q24 := p.d24
  have q25 := p.d25
  have q26 := p.d26
  have q27 := p.d27
  have q28 := p.d28
  have hl := p.len
  have le := evC_len h.ev.ip
  have hkk : a.key.take 32 = a.key := List.take_of_length_le (by have := h.key; omega)
  have he : ∀ {B : List Box} {args : List CV}, Is (omap (fz true false B 6) args) (some [.agg (evC a.ev)]) → ACall Tryz.prog 30 args B fun c B' => c = .str (textE a.ev) ∧ B' = B := fun hz => textE_at hz h.ev
  have ho : ∀ {nz : Bool} {B : List Box} {k : Nat}, omap (Go.Sy.fz nz false B (k + 3)) (evC a.ev) = some (evC a.ev) := evC_om
  have hw : ∀ {B : List Box} {args : List CV}, Is args [.int .i64 (max a.who 0)] → ACall Tryz.prog 29 args B fun c B' => c = .str (decM a.who) ∧ B' = B := fun hz => decM_at h.who hz
  have hn : ∀ {B : List Box} {args : List CV}, Is args [.int .i64 (max a.n 0)] → ACall Tryz.prog 29 args B fun c B' => c = .str (decM a.n) ∧ B' = B := fun hz => decM_at h.n hz
  have hlo : ∀ {B : List Box} {args : List CV}, Is args [.int .i64 (max a.lo 0)] → ACall Tryz.prog 29 args B fun c B' => c = .str (decM a.lo) ∧ B' = B := fun hz => decM_at h.lo hz
  have hhi : ∀ {B : List Box} {args : List CV}, Is args [.int .i64 (max a.hi 0)] → ACall Tryz.prog 29 args B fun c B' => c = .str (decM a.hi) ∧ B' = B := fun hz => decM_at h.hi hz
  have hk : ∀ {B : List Box} {args : List CV}, Is (omap (fz true false B 6) args) (some [.lst 32 (a.key.map byteC) false]) → ACall Tryz.prog 31 args B fun c B' => c = .str (hexS a.key) ∧ B' = B := fun {B args} hz => by
    have e : (32 : Nat) = a.key.length := h.key.symm
    rw [e] at hz
    exact rhex_at hz (by have := h.key; omega)
  have hx : ∀ {B : List Box} {args : List CV}, Is (omap (fz true false B 6) args) (some [.lst 1 [byteC a.xor] false]) → ACall Tryz.prog 31 args B fun c B' => c = .str (hexS [a.xor]) ∧ B' = B := fun {B args} hz => rhex_at (l := [a.xor]) hz (by simp)
  have h1 := decM_len h.who
  have h2 := decM_len h.n
  have h3 := decM_len h.lo
  have h4 := decM_len h.hi
  have h5 : (hexS a.key).length = 64 := by rw [hexS_len, h.key]
  have h6 : (hexS [a.xor]).length = 2 := by rw [hexS_len]; rfl
  clear p h
  unfold textR
  generalize acC a = X at *
  generalize evC a.ev = E at *
  generalize textE a.ev = s0 at *
  generalize decM a.who = s1 at *
  generalize decM a.n = s2 at *
  generalize decM a.lo = s3 at *
  generalize decM a.hi = s4 at *
  generalize hexS a.key = s5 at *
  generalize hexS [a.xor] = s6 at *
  generalize a.kind = k at *
  by_cases k1 : k = 1
  · subst k1
    rw [if_pos rfl]
    refine acall_intro mixed Tryz.func16 rfl ca16 (by kernel_rfl) (by rw [Tryz.ntmps16]; simp) ?_
    clear hlo hhi hk hx
    repeat' (first | (with_reducible first | apply jA | apply jB | apply jC | apply jD | apply jE | apply jF | apply jG | apply jH | apply jI | apply jJ | apply jK | apply jL | apply jM | apply jN | apply jO) | ((with_reducible first | apply jP | apply jQ); rfl) | ((with_reducible apply w_drawA); (conv => lhs; reduce); exact kE; exact kE) | ((first | ((with_reducible first | apply d_made | apply q_made); rfl; rfl)); (iterate 6 exact kE)) | ((first | ((with_reducible first | apply d_fop | apply q_fop); rfl; rfl)); (intro Bx hJ; (first | (obtain ⟨_, hJ1, hJ2⟩ := hJ) | (try simp only at hJ)); exact kE)) | ((with_reducible first | apply d_free | apply q_free); rfl; (iterate 2 exact kE); (intro Bx hJ); (first | ((with_reducible apply hw) <;> exact kD) | ((with_reducible apply hn) <;> exact kD) | ((with_reducible apply he) <;> exact kD))) | ((first | ((with_reducible first | apply jR | apply jS | apply jT); rfl; rfl) | (with_reducible first | apply jU | apply jV | apply jW) | ((with_reducible first | apply jX | apply jY | apply jZ); rfl) | ((with_reducible first | apply kA | apply kB | apply kC); rfl)); all_goals (first | ((with_reducible show Is _ _); exact kE) | ((with_reducible refine fun (hc : (_ : Bool) = _) => ?_); (try simp only [xZ, xY, xP, reduceCtorEq] at hc); (try (have hx : True := hc; clear hx hc)); (try exact kX)) | ((with_reducible show ACall _ _ _ _ _); (first | ((with_reducible apply hw) <;> exact kD) | ((with_reducible apply hn) <;> exact kD) | ((with_reducible apply he) <;> exact kD))) | ((fail_if_success (with_reducible first | show Is _ _ | show ACall _ _ _ _ _)); (try ((with_reducible show _ ∨ _); first | exact .inl rfl | (refine .inr ⟨rfl, ?_, ?_⟩; (focus (repeat (first | exact trivial | refine ⟨.inl rfl, ?_⟩ | refine ⟨.inr rfl, ?_⟩ | refine ⟨.inr (by (simp (disch := first | omega | (simp only [yZ, yB] <;> omega) | fail) [go_sem, yY, *, -List.map_take, -List.map_drop, -List.map_append, -List.map_reverse])), ?_⟩))); (first | exact trivial | exact rfl | (refine ⟨_, ?_, ?_⟩; (focus (simp (disch := first | omega | (simp only [yZ, yB] <;> omega) | fail) [go_sem, yY, *, -List.map_take, -List.map_drop, -List.map_append, -List.map_reverse]; (try exact rfl))); (simp (disch := first | omega | (simp only [yZ, yB] <;> omega) | fail) [go_sem, yY, *, -List.map_take, -List.map_drop, -List.map_append, -List.map_reverse])) | (simp (disch := first | omega | (simp only [yZ, yB] <;> omega) | fail) [go_sem, yY, *, -List.map_take, -List.map_drop, -List.map_append, -List.map_reverse]))) | exact .inl (by (simp (disch := first | omega | (simp only [yZ, yB] <;> omega) | fail) [go_sem, yY, *, -List.map_take, -List.map_drop, -List.map_append, -List.map_reverse]))))))))
    all_goals simp [go_sem, wHandoff, wPick, wAbort, wKill, wCorrupt, wCut]
  rw [if_neg k1]
  have b1 : (k == 1) = false := by simpa using k1
  clear he
  by_cases k2 : k = 2
  · subst k2
    rw [if_pos rfl]
    refine acall_intro mixed Tryz.func16 rfl ca16 (by kernel_rfl) (by rw [Tryz.ntmps16]; simp) ?_
    clear hx
    repeat' (first | (with_reducible first | apply jA | apply jB | apply jC | apply jD | apply jE | apply jF | apply jG | apply jH | apply jI | apply jJ | apply jK | apply jL | apply jM | apply jN | apply jO) | ((with_reducible first | apply jP | apply jQ); rfl) | ((with_reducible apply w_drawA); (conv => lhs; reduce); exact kE; exact kE) | ((first | ((with_reducible first | apply d_made | apply q_made); rfl; rfl)); (iterate 6 exact kE)) | ((first | ((with_reducible first | apply d_fop | apply q_fop); rfl; rfl)); (intro Bx hJ; (first | (obtain ⟨_, hJ1, hJ2⟩ := hJ) | (try simp only at hJ)); exact kE)) | ((with_reducible first | apply d_free | apply q_free); rfl; (iterate 2 exact kE); (intro Bx hJ); (first | ((with_reducible apply hw) <;> exact kD) | ((with_reducible apply hn) <;> exact kD) | ((with_reducible apply hlo) <;> exact kD) | ((with_reducible apply hhi) <;> exact kD) | ((with_reducible apply hk) <;> exact kD))) | ((first | ((with_reducible first | apply jR | apply jS | apply jT); rfl; rfl) | (with_reducible first | apply jU | apply jV | apply jW) | ((with_reducible first | apply jX | apply jY | apply jZ); rfl) | ((with_reducible first | apply kA | apply kB | apply kC); rfl)); all_goals (first | ((with_reducible show Is _ _); exact kE) | ((with_reducible refine fun (hc : (_ : Bool) = _) => ?_); (try simp only [xZ, xY, xP, reduceCtorEq] at hc); (try (have hx : True := hc; clear hx hc)); (try exact kX)) | ((with_reducible show ACall _ _ _ _ _); (first | ((with_reducible apply hw) <;> exact kD) | ((with_reducible apply hn) <;> exact kD) | ((with_reducible apply hlo) <;> exact kD) | ((with_reducible apply hhi) <;> exact kD) | ((with_reducible apply hk) <;> exact kD))) | ((fail_if_success (with_reducible first | show Is _ _ | show ACall _ _ _ _ _)); (try ((with_reducible show _ ∨ _); first | exact .inl rfl | (refine .inr ⟨rfl, ?_, ?_⟩; (focus (repeat (first | exact trivial | refine ⟨.inl rfl, ?_⟩ | refine ⟨.inr rfl, ?_⟩ | refine ⟨.inr (by (simp (disch := first | omega | (simp only [yZ, yB] <;> omega) | fail) [go_sem, yY, *, -List.map_take, -List.map_drop, -List.map_append, -List.map_reverse])), ?_⟩))); (first | exact trivial | exact rfl | (refine ⟨_, ?_, ?_⟩; (focus (simp (disch := first | omega | (simp only [yZ, yB] <;> omega) | fail) [go_sem, yY, *, -List.map_take, -List.map_drop, -List.map_append, -List.map_reverse]; (try exact rfl))); (simp (disch := first | omega | (simp only [yZ, yB] <;> omega) | fail) [go_sem, yY, *, -List.map_take, -List.map_drop, -List.map_append, -List.map_reverse])) | (simp (disch := first | omega | (simp only [yZ, yB] <;> omega) | fail) [go_sem, yY, *, -List.map_take, -List.map_drop, -List.map_append, -List.map_reverse]))) | exact .inl (by (simp (disch := first | omega | (simp only [yZ, yB] <;> omega) | fail) [go_sem, yY, *, -List.map_take, -List.map_drop, -List.map_append, -List.map_reverse]))))))))
    all_goals simp [go_sem, wHandoff, wPick, wAbort, wKill, wCorrupt, wCut]
  rw [if_neg k2]
  have b2 : (k == 2) = false := by simpa using k2
  clear hlo hhi hk q1 hkk q28
  by_cases k3 : k = 3
  · subst k3
    rw [if_pos rfl]
    refine acall_intro mixed Tryz.func16 rfl ca16 (by kernel_rfl) (by rw [Tryz.ntmps16]; simp) ?_
    clear hx
    repeat' (first | (with_reducible first | apply jA | apply jB | apply jC | apply jD | apply jE | apply jF | apply jG | apply jH | apply jI | apply jJ | apply jK | apply jL | apply jM | apply jN | apply jO) | ((with_reducible first | apply jP | apply jQ); rfl) | ((with_reducible apply w_drawA); (conv => lhs; reduce); exact kE; exact kE) | ((first | ((with_reducible first | apply d_made | apply q_made); rfl; rfl)); (iterate 6 exact kE)) | ((first | ((with_reducible first | apply d_fop | apply q_fop); rfl; rfl)); (intro Bx hJ; (first | (obtain ⟨_, hJ1, hJ2⟩ := hJ) | (try simp only at hJ)); exact kE)) | ((with_reducible first | apply d_free | apply q_free); rfl; (iterate 2 exact kE); (intro Bx hJ); (first | ((with_reducible apply hw) <;> exact kD) | ((with_reducible apply hn) <;> exact kD))) | ((first | ((with_reducible first | apply jR | apply jS | apply jT); rfl; rfl) | (with_reducible first | apply jU | apply jV | apply jW) | ((with_reducible first | apply jX | apply jY | apply jZ); rfl) | ((with_reducible first | apply kA | apply kB | apply kC); rfl)); all_goals (first | ((with_reducible show Is _ _); exact kE) | ((with_reducible refine fun (hc : (_ : Bool) = _) => ?_); (try simp only [xZ, xY, xP, reduceCtorEq] at hc); (try (have hx : True := hc; clear hx hc)); (try exact kX)) | ((with_reducible show ACall _ _ _ _ _); (first | ((with_reducible apply hw) <;> exact kD) | ((with_reducible apply hn) <;> exact kD))) | ((fail_if_success (with_reducible first | show Is _ _ | show ACall _ _ _ _ _)); (try ((with_reducible show _ ∨ _); first | exact .inl rfl | (refine .inr ⟨rfl, ?_, ?_⟩; (focus (repeat (first | exact trivial | refine ⟨.inl rfl, ?_⟩ | refine ⟨.inr rfl, ?_⟩ | refine ⟨.inr (by (simp (disch := first | omega | (simp only [yZ, yB] <;> omega) | fail) [go_sem, yY, *, -List.map_take, -List.map_drop, -List.map_append, -List.map_reverse])), ?_⟩))); (first | exact trivial | exact rfl | (refine ⟨_, ?_, ?_⟩; (focus (simp (disch := first | omega | (simp only [yZ, yB] <;> omega) | fail) [go_sem, yY, *, -List.map_take, -List.map_drop, -List.map_append, -List.map_reverse]; (try exact rfl))); (simp (disch := first | omega | (simp only [yZ, yB] <;> omega) | fail) [go_sem, yY, *, -List.map_take, -List.map_drop, -List.map_append, -List.map_reverse])) | (simp (disch := first | omega | (simp only [yZ, yB] <;> omega) | fail) [go_sem, yY, *, -List.map_take, -List.map_drop, -List.map_append, -List.map_reverse]))) | exact .inl (by (simp (disch := first | omega | (simp only [yZ, yB] <;> omega) | fail) [go_sem, yY, *, -List.map_take, -List.map_drop, -List.map_append, -List.map_reverse]))))))))
    all_goals simp [go_sem, wHandoff, wPick, wAbort, wKill, wCorrupt, wCut]
  rw [if_neg k3]
  have b3 : (k == 3) = false := by simpa using k3
  by_cases k4 : k = 4
  · subst k4
    rw [if_pos rfl]
    refine acall_intro mixed Tryz.func16 rfl ca16 (by kernel_rfl) (by rw [Tryz.ntmps16]; simp) ?_
    clear hx
    repeat' (first | (with_reducible first | apply jA | apply jB | apply jC | apply jD | apply jE | apply jF | apply jG | apply jH | apply jI | apply jJ | apply jK | apply jL | apply jM | apply jN | apply jO) | ((with_reducible first | apply jP | apply jQ); rfl) | ((with_reducible apply w_drawA); (conv => lhs; reduce); exact kE; exact kE) | ((first | ((with_reducible first | apply d_made | apply q_made); rfl; rfl)); (iterate 6 exact kE)) | ((first | ((with_reducible first | apply d_fop | apply q_fop); rfl; rfl)); (intro Bx hJ; (first | (obtain ⟨_, hJ1, hJ2⟩ := hJ) | (try simp only at hJ)); exact kE)) | ((with_reducible first | apply d_free | apply q_free); rfl; (iterate 2 exact kE); (intro Bx hJ); (first | ((with_reducible apply hw) <;> exact kD) | ((with_reducible apply hn) <;> exact kD))) | ((first | ((with_reducible first | apply jR | apply jS | apply jT); rfl; rfl) | (with_reducible first | apply jU | apply jV | apply jW) | ((with_reducible first | apply jX | apply jY | apply jZ); rfl) | ((with_reducible first | apply kA | apply kB | apply kC); rfl)); all_goals (first | ((with_reducible show Is _ _); exact kE) | ((with_reducible refine fun (hc : (_ : Bool) = _) => ?_); (try simp only [xZ, xY, xP, reduceCtorEq] at hc); (try (have hx : True := hc; clear hx hc)); (try exact kX)) | ((with_reducible show ACall _ _ _ _ _); (first | ((with_reducible apply hw) <;> exact kD) | ((with_reducible apply hn) <;> exact kD))) | ((fail_if_success (with_reducible first | show Is _ _ | show ACall _ _ _ _ _)); (try ((with_reducible show _ ∨ _); first | exact .inl rfl | (refine .inr ⟨rfl, ?_, ?_⟩; (focus (repeat (first | exact trivial | refine ⟨.inl rfl, ?_⟩ | refine ⟨.inr rfl, ?_⟩ | refine ⟨.inr (by (simp (disch := first | omega | (simp only [yZ, yB] <;> omega) | fail) [go_sem, yY, *, -List.map_take, -List.map_drop, -List.map_append, -List.map_reverse])), ?_⟩))); (first | exact trivial | exact rfl | (refine ⟨_, ?_, ?_⟩; (focus (simp (disch := first | omega | (simp only [yZ, yB] <;> omega) | fail) [go_sem, yY, *, -List.map_take, -List.map_drop, -List.map_append, -List.map_reverse]; (try exact rfl))); (simp (disch := first | omega | (simp only [yZ, yB] <;> omega) | fail) [go_sem, yY, *, -List.map_take, -List.map_drop, -List.map_append, -List.map_reverse])) | (simp (disch := first | omega | (simp only [yZ, yB] <;> omega) | fail) [go_sem, yY, *, -List.map_take, -List.map_drop, -List.map_append, -List.map_reverse]))) | exact .inl (by (simp (disch := first | omega | (simp only [yZ, yB] <;> omega) | fail) [go_sem, yY, *, -List.map_take, -List.map_drop, -List.map_append, -List.map_reverse]))))))))
    all_goals simp [go_sem, wHandoff, wPick, wAbort, wKill, wCorrupt, wCut]
  rw [if_neg k4]
  have b4 : (k == 4) = false := by simpa using k4
  by_cases k5 : k = 5
  · subst k5
    rw [if_pos rfl]
    refine acall_intro mixed Tryz.func16 rfl ca16 (by kernel_rfl) (by rw [Tryz.ntmps16]; simp) ?_
    clear hx
    repeat' (first | (with_reducible first | apply jA | apply jB | apply jC | apply jD | apply jE | apply jF | apply jG | apply jH | apply jI | apply jJ | apply jK | apply jL | apply jM | apply jN | apply jO) | ((with_reducible first | apply jP | apply jQ); rfl) | ((with_reducible apply w_drawA); (conv => lhs; reduce); exact kE; exact kE) | ((first | ((with_reducible first | apply d_made | apply q_made); rfl; rfl)); (iterate 6 exact kE)) | ((first | ((with_reducible first | apply d_fop | apply q_fop); rfl; rfl)); (intro Bx hJ; (first | (obtain ⟨_, hJ1, hJ2⟩ := hJ) | (try simp only at hJ)); exact kE)) | ((with_reducible first | apply d_free | apply q_free); rfl; (iterate 2 exact kE); (intro Bx hJ); (first | ((with_reducible apply hw) <;> exact kD) | ((with_reducible apply hn) <;> exact kD))) | ((first | ((with_reducible first | apply jR | apply jS | apply jT); rfl; rfl) | (with_reducible first | apply jU | apply jV | apply jW) | ((with_reducible first | apply jX | apply jY | apply jZ); rfl) | ((with_reducible first | apply kA | apply kB | apply kC); rfl)); all_goals (first | ((with_reducible show Is _ _); exact kE) | ((with_reducible refine fun (hc : (_ : Bool) = _) => ?_); (try simp only [xZ, xY, xP, reduceCtorEq] at hc); (try (have hx : True := hc; clear hx hc)); (try exact kX)) | ((with_reducible show ACall _ _ _ _ _); (first | ((with_reducible apply hw) <;> exact kD) | ((with_reducible apply hn) <;> exact kD))) | ((fail_if_success (with_reducible first | show Is _ _ | show ACall _ _ _ _ _)); (try ((with_reducible show _ ∨ _); first | exact .inl rfl | (refine .inr ⟨rfl, ?_, ?_⟩; (focus (repeat (first | exact trivial | refine ⟨.inl rfl, ?_⟩ | refine ⟨.inr rfl, ?_⟩ | refine ⟨.inr (by (simp (disch := first | omega | (simp only [yZ, yB] <;> omega) | fail) [go_sem, yY, *, -List.map_take, -List.map_drop, -List.map_append, -List.map_reverse])), ?_⟩))); (first | exact trivial | exact rfl | (refine ⟨_, ?_, ?_⟩; (focus (simp (disch := first | omega | (simp only [yZ, yB] <;> omega) | fail) [go_sem, yY, *, -List.map_take, -List.map_drop, -List.map_append, -List.map_reverse]; (try exact rfl))); (simp (disch := first | omega | (simp only [yZ, yB] <;> omega) | fail) [go_sem, yY, *, -List.map_take, -List.map_drop, -List.map_append, -List.map_reverse])) | (simp (disch := first | omega | (simp only [yZ, yB] <;> omega) | fail) [go_sem, yY, *, -List.map_take, -List.map_drop, -List.map_append, -List.map_reverse]))) | exact .inl (by (simp (disch := first | omega | (simp only [yZ, yB] <;> omega) | fail) [go_sem, yY, *, -List.map_take, -List.map_drop, -List.map_append, -List.map_reverse]))))))))
    all_goals simp [go_sem, wHandoff, wPick, wAbort, wKill, wCorrupt, wCut]
  rw [if_neg k5]
  have b5 : (k == 5) = false := by simpa using k5
  by_cases k6 : k = 6
  · subst k6
    rw [if_pos rfl]
    refine acall_intro mixed Tryz.func16 rfl ca16 (by kernel_rfl) (by rw [Tryz.ntmps16]; simp) ?_
    clear k5
    repeat' (first | (with_reducible first | apply jA | apply jB | apply jC | apply jD | apply jE | apply jF | apply jG | apply jH | apply jI | apply jJ | apply jK | apply jL | apply jM | apply jN | apply jO) | ((with_reducible first | apply jP | apply jQ); rfl) | ((with_reducible apply w_drawA); (conv => lhs; reduce); exact kE; exact kE) | ((first | ((with_reducible first | apply d_made | apply q_made); rfl; rfl)); (iterate 6 exact kE)) | ((first | ((with_reducible first | apply d_fop | apply q_fop); rfl; rfl)); (intro Bx hJ; (first | (obtain ⟨_, hJ1, hJ2⟩ := hJ) | (try simp only at hJ)); exact kE)) | ((with_reducible first | apply d_free | apply q_free); rfl; (iterate 2 exact kE); (intro Bx hJ); (first | ((with_reducible apply hw) <;> exact kD) | ((with_reducible apply hn) <;> exact kD) | ((with_reducible apply hx) <;> exact kD))) | ((first | ((with_reducible first | apply jR | apply jS | apply jT); rfl; rfl) | (with_reducible first | apply jU | apply jV | apply jW) | ((with_reducible first | apply jX | apply jY | apply jZ); rfl) | ((with_reducible first | apply kA | apply kB | apply kC); rfl)); all_goals (first | ((with_reducible show Is _ _); exact kE) | ((with_reducible refine fun (hc : (_ : Bool) = _) => ?_); (try simp only [xZ, xY, xP, reduceCtorEq] at hc); (try (have hx : True := hc; clear hx hc)); (try exact kX)) | ((with_reducible show ACall _ _ _ _ _); (first | ((with_reducible apply hw) <;> exact kD) | ((with_reducible apply hn) <;> exact kD) | ((with_reducible apply hx) <;> exact kD))) | ((fail_if_success (with_reducible first | show Is _ _ | show ACall _ _ _ _ _)); (try ((with_reducible show _ ∨ _); first | exact .inl rfl | (refine .inr ⟨rfl, ?_, ?_⟩; (focus (repeat (first | exact trivial | refine ⟨.inl rfl, ?_⟩ | refine ⟨.inr rfl, ?_⟩ | refine ⟨.inr (by (simp (disch := first | omega | (simp only [yZ, yB] <;> omega) | fail) [go_sem, yY, *, -List.map_take, -List.map_drop, -List.map_append, -List.map_reverse])), ?_⟩))); (first | exact trivial | exact rfl | (refine ⟨_, ?_, ?_⟩; (focus (simp (disch := first | omega | (simp only [yZ, yB] <;> omega) | fail) [go_sem, yY, *, -List.map_take, -List.map_drop, -List.map_append, -List.map_reverse]; (try exact rfl))); (simp (disch := first | omega | (simp only [yZ, yB] <;> omega) | fail) [go_sem, yY, *, -List.map_take, -List.map_drop, -List.map_append, -List.map_reverse])) | (simp (disch := first | omega | (simp only [yZ, yB] <;> omega) | fail) [go_sem, yY, *, -List.map_take, -List.map_drop, -List.map_append, -List.map_reverse]))) | exact .inl (by (simp (disch := first | omega | (simp only [yZ, yB] <;> omega) | fail) [go_sem, yY, *, -List.map_take, -List.map_drop, -List.map_append, -List.map_reverse]))))))))
    all_goals simp [go_sem, wHandoff, wPick, wAbort, wKill, wCorrupt, wCut]
  rw [if_neg k6]
  have b6 : (k == 6) = false := by simpa using k6
  by_cases k7 : k = 7
  · subst k7
    rw [if_pos rfl]
    refine acall_intro mixed Tryz.func16 rfl ca16 (by kernel_rfl) (by rw [Tryz.ntmps16]; simp) ?_
    clear hx
    repeat' (first | (with_reducible first | apply jA | apply jB | apply jC | apply jD | apply jE | apply jF | apply jG | apply jH | apply jI | apply jJ | apply jK | apply jL | apply jM | apply jN | apply jO) | ((with_reducible first | apply jP | apply jQ); rfl) | ((with_reducible apply w_drawA); (conv => lhs; reduce); exact kE; exact kE) | ((first | ((with_reducible first | apply d_made | apply q_made); rfl; rfl)); (iterate 6 exact kE)) | ((first | ((with_reducible first | apply d_fop | apply q_fop); rfl; rfl)); (intro Bx hJ; (first | (obtain ⟨_, hJ1, hJ2⟩ := hJ) | (try simp only at hJ)); exact kE)) | ((with_reducible first | apply d_free | apply q_free); rfl; (iterate 2 exact kE); (intro Bx hJ); (first | ((with_reducible apply hw) <;> exact kD) | ((with_reducible apply hn) <;> exact kD))) | ((first | ((with_reducible first | apply jR | apply jS | apply jT); rfl; rfl) | (with_reducible first | apply jU | apply jV | apply jW) | ((with_reducible first | apply jX | apply jY | apply jZ); rfl) | ((with_reducible first | apply kA | apply kB | apply kC); rfl)); all_goals (first | ((with_reducible show Is _ _); exact kE) | ((with_reducible refine fun (hc : (_ : Bool) = _) => ?_); (try simp only [xZ, xY, xP, reduceCtorEq] at hc); (try (have hx : True := hc; clear hx hc)); (try exact kX)) | ((with_reducible show ACall _ _ _ _ _); (first | ((with_reducible apply hw) <;> exact kD) | ((with_reducible apply hn) <;> exact kD))) | ((fail_if_success (with_reducible first | show Is _ _ | show ACall _ _ _ _ _)); (try ((with_reducible show _ ∨ _); first | exact .inl rfl | (refine .inr ⟨rfl, ?_, ?_⟩; (focus (repeat (first | exact trivial | refine ⟨.inl rfl, ?_⟩ | refine ⟨.inr rfl, ?_⟩ | refine ⟨.inr (by (simp (disch := first | omega | (simp only [yZ, yB] <;> omega) | fail) [go_sem, yY, *, -List.map_take, -List.map_drop, -List.map_append, -List.map_reverse])), ?_⟩))); (first | exact trivial | exact rfl | (refine ⟨_, ?_, ?_⟩; (focus (simp (disch := first | omega | (simp only [yZ, yB] <;> omega) | fail) [go_sem, yY, *, -List.map_take, -List.map_drop, -List.map_append, -List.map_reverse]; (try exact rfl))); (simp (disch := first | omega | (simp only [yZ, yB] <;> omega) | fail) [go_sem, yY, *, -List.map_take, -List.map_drop, -List.map_append, -List.map_reverse])) | (simp (disch := first | omega | (simp only [yZ, yB] <;> omega) | fail) [go_sem, yY, *, -List.map_take, -List.map_drop, -List.map_append, -List.map_reverse]))) | exact .inl (by (simp (disch := first | omega | (simp only [yZ, yB] <;> omega) | fail) [go_sem, yY, *, -List.map_take, -List.map_drop, -List.map_append, -List.map_reverse]))))))))
    all_goals simp [go_sem, wHandoff, wPick, wAbort, wKill, wCorrupt, wCut]
  rw [if_neg k7]
  have b7 : (k == 7) = false := by simpa using k7
  refine acall_intro mixed Tryz.func16 rfl ca16 (by kernel_rfl) (by rw [Tryz.ntmps16]; simp) ?_
  clear hx
  repeat' (first | (with_reducible first | apply jA | apply jB | apply jC | apply jD | apply jE | apply jF | apply jG | apply jH | apply jI | apply jJ | apply jK | apply jL | apply jM | apply jN | apply jO) | ((with_reducible first | apply jP | apply jQ); rfl) | ((with_reducible apply w_drawA); (conv => lhs; reduce); exact kE; exact kE) | ((first | ((with_reducible first | apply d_made | apply q_made); rfl; rfl)); (iterate 6 exact kE)) | ((first | ((with_reducible first | apply d_fop | apply q_fop); rfl; rfl)); (intro Bx hJ; (first | (obtain ⟨_, hJ1, hJ2⟩ := hJ) | (try simp only at hJ)); exact kE)) | ((with_reducible first | apply d_free | apply q_free); rfl; (iterate 2 exact kE); (intro Bx hJ); (first | ((with_reducible apply hw) <;> exact kD) | ((with_reducible apply hn) <;> exact kD))) | ((first | ((with_reducible first | apply jR | apply jS | apply jT); rfl; rfl) | (with_reducible first | apply jU | apply jV | apply jW) | ((with_reducible first | apply jX | apply jY | apply jZ); rfl) | ((with_reducible first | apply kA | apply kB | apply kC); rfl)); all_goals (first | ((with_reducible show Is _ _); exact kE) | ((with_reducible refine fun (hc : (_ : Bool) = _) => ?_); (try simp only [xZ, xY, xP, reduceCtorEq] at hc); (try (have hx : True := hc; clear hx hc)); (try exact kX)) | ((with_reducible show ACall _ _ _ _ _); (first | ((with_reducible apply hw) <;> exact kD) | ((with_reducible apply hn) <;> exact kD))) | ((fail_if_success (with_reducible first | show Is _ _ | show ACall _ _ _ _ _)); (try ((with_reducible show _ ∨ _); first | exact .inl rfl | (refine .inr ⟨rfl, ?_, ?_⟩; (focus (repeat (first | exact trivial | refine ⟨.inl rfl, ?_⟩ | refine ⟨.inr rfl, ?_⟩ | refine ⟨.inr (by (simp (disch := first | omega | (simp only [yZ, yB] <;> omega) | fail) [go_sem, yY, *, -List.map_take, -List.map_drop, -List.map_append, -List.map_reverse])), ?_⟩))); (first | exact trivial | exact rfl | (refine ⟨_, ?_, ?_⟩; (focus (simp (disch := first | omega | (simp only [yZ, yB] <;> omega) | fail) [go_sem, yY, *, -List.map_take, -List.map_drop, -List.map_append, -List.map_reverse]; (try exact rfl))); (simp (disch := first | omega | (simp only [yZ, yB] <;> omega) | fail) [go_sem, yY, *, -List.map_take, -List.map_drop, -List.map_append, -List.map_reverse])) | (simp (disch := first | omega | (simp only [yZ, yB] <;> omega) | fail) [go_sem, yY, *, -List.map_take, -List.map_drop, -List.map_append, -List.map_reverse]))) | exact .inl (by (simp (disch := first | omega | (simp only [yZ, yB] <;> omega) | fail) [go_sem, yY, *, -List.map_take, -List.map_drop, -List.map_append, -List.map_reverse]))))))))
  all_goals simp [go_sem, wHandoff, wPick, wAbort, wKill, wCorrupt, wCut]
end Go.Proofs.YtcbdghgogmcllaaGreatDoor
end
section
namespace Go.Proofs.YtcbdghgogmcllaaGreatDoor
open Go Go.Sy
theorem kE_RB0 {α : Type} {x y : α} (h : Is x y := by first | ((try simp (disch := first | omega | (simp only [yZ, yB] <;> omega) | fail) [go_sem, yY, *, lb, if_pos, if_neg, -List.map_take, -List.map_drop, -List.map_append, -List.map_reverse]); exact rfl) | fail) : Is x y := h
theorem kD_RB0 {p : Prop} (h : p := by (first | omega | assumption | exact rfl | ((simp (disch := first | omega | (simp only [yZ, yB] <;> omega) | fail) [go_sem, yY, *, lb, -List.map_take, -List.map_drop, -List.map_append, -List.map_reverse]) <;> (first | done | omega | exact rfl)) | fail)) : p := h
theorem wB_RB0 {p q : Prop} (k : q) (h : Hq q → p := by (intro k; (repeat' (first | (with_reducible first | apply jA | apply jB | apply jC | apply jD | apply jE | apply jF | apply jG | apply jH | apply jI | apply jJ | apply jK | apply jL | apply jM | apply jN | apply jO) | ((with_reducible first | apply jP | apply jQ); rfl) | ((first | ((with_reducible first | apply jR | apply jS | apply jT); rfl; rfl) | (with_reducible first | apply jU | apply jV | apply jW) | ((with_reducible first | apply jX | apply jY | apply jZ); rfl) | ((with_reducible first | apply kA | apply kB | apply kC); rfl)); all_goals (first | ((with_reducible show Is _ _); exact kE_RB0) | ((with_reducible refine fun (hc : (_ : Bool) = _) => ?_); (try simp only [xZ, xY, xP, reduceCtorEq] at hc); (try (have hx : True := hc; clear hx hc)); (try exact kX)) | ((with_reducible show ACall _ _ _ _ _); (first | ((with_reducible apply c0) <;> exact kD_RB0) | ((with_reducible apply c1) <;> exact kD_RB0) | ((with_reducible apply c2) <;> exact kD_RB0) | ((with_reducible apply c3) <;> exact kD_RB0) | ((with_reducible apply c4) <;> exact kD_RB0) | ((with_reducible apply c5) <;> exact kD_RB0) | ((with_reducible apply c6) <;> exact kD_RB0) | ((with_reducible apply c7) <;> exact kD_RB0))) | ((fail_if_success (with_reducible first | show Is _ _ | show ACall _ _ _ _ _)); (try ((with_reducible show _ ∨ _); exact kT))))) | (((with_reducible first | apply o_callQ | apply q_callQ); rfl); (iterate 2 exact kE_RB0); (first | ((with_reducible apply q0) <;> exact kD_RB0))))); exact hq k)) : p := h ⟨k⟩
theorem w_RB00 {p q : Prop}  (k : q) (h : Hq q → p := by (intro  k; exact wB_RB0 (hq k))) : p := h  ⟨k⟩
theorem w_RB01 {A0 p q : Prop} (c0 : A0) (k : q) (h : A0 → Hq q → p := by (intro c0 k; exact wB_RB0 (hq k))) : p := h c0 ⟨k⟩
theorem w_RB02 {A0 A1 p q : Prop} (c0 : A0) (c1 : A1) (k : q) (h : A0 → A1 → Hq q → p := by (intro c0 c1 k; exact wB_RB0 (hq k))) : p := h c0 c1 ⟨k⟩
def nV (s : List UInt8) : Int := if decOk 19 s then IntKind.i64.wrap (decV s) else 0
theorem w64 (n : Int) : IntKind.i64.wrap n = (n + 9223372036854775808) % 18446744073709551616 - 9223372036854775808 := by
  have h : IntKind.i64.wrap n = if n % 18446744073709551616 ≥ 9223372036854775808 then n % 18446744073709551616 - 18446744073709551616 else n % 18446744073709551616 := by
    have e1 : (2 : Int) ^ IntKind.i64.bits = 18446744073709551616 := by decide
    have e2 : (2 : Int) ^ (IntKind.i64.bits - 1) = 9223372036854775808 := by decide
    simp only [IntKind.wrap, e1, e2, IntKind.signed, Bool.true_and, decide_eq_true_eq]
  rw [h]
  split <;> omega
theorem wrap_step (v : Int) (d : Int) : IntKind.i64.wrap (IntKind.i64.wrap (10 * IntKind.i64.wrap v) + d) = IntKind.i64.wrap (10 * v + d) := by
  simp only [w64]
  omega
theorem number19_in (s : List UInt8) (hs : s.length < 1000000000) : PC Tryz.prog true 97 [.str s, .int .i64 19] (.tup [.int .i64 (nV s), .bool (decOk 19 s)]) := by
  refine acall_intro mixed Tryz.func97 rfl ca97 (by kernel_rfl) (by rw [Tryz.ntmps97]; simp) ?_
  have hbad : headOk 19 s = false → nV s = 0 ∧ decOk 19 s = false := fun h => by simp [nV, decOk, h]
  by_cases h0 : s.length = 0
  · obtain ⟨e1, e2⟩ := hbad (by simp [headOk, h0])
    have : s = [] := List.eq_nil_of_length_eq_zero h0
    subst this
    rw [e1, e2]
    refine w0 ?_ 
    rfl
  have hpos : 0 < s.length := by omega
  by_cases h19 : s.length ≤ 19
  rotate_left
  · obtain ⟨e1, e2⟩ := hbad (by simp [headOk]; omega)
    rw [e1, e2]
    have h19' : (19 : Int) < s.length := by omega
    refine w0 ?_ 
    rfl
  by_cases hz : 1 < s.length ∧ s[0]'hpos = 48
  · obtain ⟨hz1, hz2⟩ := hz
    have hh : s.head? = some 48 := by rw [List.head?_eq_getElem?, List.getElem?_eq_getElem (by omega), hz2]
    obtain ⟨e1, e2⟩ := hbad (by simp [headOk, hz1, hh])
    rw [e1, e2]
    refine w0 ?_ 
    rfl
  have hh : headOk 19 s = true := by
    cases s with
    | nil => simp at h0
    | cons c s => simp [headOk] at hz ⊢; simp at h19; exact ⟨h19, by cases s with | nil => exact .inl rfl | cons d s => exact .inr (hz (by simp))⟩
  have hz' : 1 < s.length → (s[0]'hpos).toNat ≠ 48 := fun h e => hz ⟨h, UInt8.toNat_inj.1 e⟩
  clear hbad hz
  by_cases h1l : 1 < s.length
  · have hz2 := hz' h1l
    clear hz'
    have hz3 : ((s[0]'hpos).toNat : Int) ≠ 48 := by omega
    refine w0 ?_ 
    refine w_loop (fun fr B => B = [] ∧ ∃ j : Nat, j ≤ s.length ∧ (s.take j).all isDig = true ∧ fr 7 = .int .i64 j ∧ fr 0 = .str s ∧ fr 6 = .int .i64 (IntKind.i64.wrap (decV (s.take j)))) (fun fr _ => s.length - natOf (fr 7)) ?_ ?_
    · exact ⟨rfl, 0, by omega, rfl, kS, kS, by (simp (disch := omega) [go_sem, *, decV]) <;> (try omega)⟩
    rintro fr B ⟨rfl, j, hj, hd, h7, hs0, h6⟩
    by_cases hc : j < s.length
    · have hnx := decV_take hc
      have hall := all_take hc
      rw [hd, Bool.true_and] at hall
      have hlt := (s[j]).toNat_lt
      by_cases hg : isDig s[j] = true
      · rw [hg] at hall
        have hg2 : 48 ≤ s[j].toNat ∧ s[j].toNat ≤ 57 := by simpa [isDig] using hg
        have hw := wrap_step (decV (s.take j)) ((s[j].toNat : Int) - 48)
        have hnx2 : (decV (s.take (j + 1)) : Int) = 10 * decV (s.take j) + (s[j].toNat - 48) := by omega
        rw [← hnx2] at hw
        clear hnx hnx2
        obtain ⟨v, hv⟩ : ∃ v, IntKind.i64.wrap (decV (s.take j) : Int) = v := ⟨_, rfl⟩
        obtain ⟨v', hv'⟩ : ∃ v', IntKind.i64.wrap (decV (s.take (j + 1)) : Int) = v' := ⟨_, rfl⟩
        obtain ⟨u, hu⟩ : ∃ u, IntKind.i64.wrap (10 * v) = u := ⟨_, rfl⟩
        rw [hv, hu, hv'] at hw
        rw [hv] at h6
        replace hall : Hid _ := hall
        replace hv' : Hid _ := hv'
        clear hd hv
        refine w0 ?_ 
        exact ⟨⟨rfl, j + 1, by omega, hall, kS, kS, by rw [show IntKind.i64.wrap (decV (s.take (j + 1)) : Int) = v' from hv']; (simp (disch := omega) [go_sem, *]) <;> (try omega)⟩, kS⟩
      · have hna := not_all hc (by simpa using hg)
        have e1 : nV s = 0 ∧ decOk 19 s = false := by simp [nV, decOk, hna]
        have hg2 : s[j].toNat < 48 ∨ 57 < s[j].toNat := by
          have : ¬ (48 ≤ s[j].toNat ∧ s[j].toNat ≤ 57) := by simpa [isDig] using hg
          omega
        rw [e1.1, e1.2]
        clear hnx hall hd
        generalize IntKind.i64.wrap (decV (s.take j) : Int) = v at *
        rcases hg2 with hg2 | hg2
        · refine w0 ?_ 
          rfl
        · have hg3 : ¬ (s[j].toNat : Int) < 48 := by omega
          refine w0 ?_ 
          rfl
    · obtain rfl : j = s.length := by omega
      rw [List.take_length] at hd h6
      have e1 : decOk 19 s = true := by simp only [decOk, hh, hd, Bool.and_self]
      rw [nV, if_pos e1, e1]
      generalize IntKind.i64.wrap (decV s : Int) = v at *
      refine w0 ?_ 
      rfl
  · clear hz'
    refine w0 ?_ 
    refine w_loop (fun fr B => B = [] ∧ ∃ j : Nat, j ≤ s.length ∧ (s.take j).all isDig = true ∧ fr 7 = .int .i64 j ∧ fr 0 = .str s ∧ fr 6 = .int .i64 (IntKind.i64.wrap (decV (s.take j)))) (fun fr _ => s.length - natOf (fr 7)) ?_ ?_
    · exact ⟨rfl, 0, by omega, rfl, kS, kS, by (simp (disch := omega) [go_sem, *, decV]) <;> (try omega)⟩
    rintro fr B ⟨rfl, j, hj, hd, h7, hs0, h6⟩
    by_cases hc : j < s.length
    · have hnx := decV_take hc
      have hall := all_take hc
      rw [hd, Bool.true_and] at hall
      have hlt := (s[j]).toNat_lt
      by_cases hg : isDig s[j] = true
      · rw [hg] at hall
        have hg2 : 48 ≤ s[j].toNat ∧ s[j].toNat ≤ 57 := by simpa [isDig] using hg
        have hw := wrap_step (decV (s.take j)) ((s[j].toNat : Int) - 48)
        have hnx2 : (decV (s.take (j + 1)) : Int) = 10 * decV (s.take j) + (s[j].toNat - 48) := by omega
        rw [← hnx2] at hw
        clear hnx hnx2
        obtain ⟨v, hv⟩ : ∃ v, IntKind.i64.wrap (decV (s.take j) : Int) = v := ⟨_, rfl⟩
        obtain ⟨v', hv'⟩ : ∃ v', IntKind.i64.wrap (decV (s.take (j + 1)) : Int) = v' := ⟨_, rfl⟩
        obtain ⟨u, hu⟩ : ∃ u, IntKind.i64.wrap (10 * v) = u := ⟨_, rfl⟩
        rw [hv, hu, hv'] at hw
        rw [hv] at h6
        replace hall : Hid _ := hall
        replace hv' : Hid _ := hv'
        clear hd hv
        refine w0 ?_ 
        exact ⟨⟨rfl, j + 1, by omega, hall, kS, kS, by rw [show IntKind.i64.wrap (decV (s.take (j + 1)) : Int) = v' from hv']; (simp (disch := omega) [go_sem, *]) <;> (try omega)⟩, kS⟩
      · have hna := not_all hc (by simpa using hg)
        have e1 : nV s = 0 ∧ decOk 19 s = false := by simp [nV, decOk, hna]
        have hg2 : s[j].toNat < 48 ∨ 57 < s[j].toNat := by
          have : ¬ (48 ≤ s[j].toNat ∧ s[j].toNat ≤ 57) := by simpa [isDig] using hg
          omega
        rw [e1.1, e1.2]
        clear hnx hall hd
        generalize IntKind.i64.wrap (decV (s.take j) : Int) = v at *
        rcases hg2 with hg2 | hg2
        · refine w0 ?_ 
          rfl
        · have hg3 : ¬ (s[j].toNat : Int) < 48 := by omega
          refine w0 ?_ 
          rfl
    · obtain rfl : j = s.length := by omega
      rw [List.take_length] at hd h6
      have e1 : decOk 19 s = true := by simp only [decOk, hh, hd, Bool.and_self]
      rw [nV, if_pos e1, e1]
      generalize IntKind.i64.wrap (decV s : Int) = v at *
      refine w0 ?_ 
      rfl
theorem number19_at {B : List Box} {s : List UInt8} (hs : s.length < 1000000000) : ACall Tryz.prog 97 [.str s, .int .i64 19] B fun c B' => c = .tup [.int .i64 (nV s), .bool (decOk 19 s)] ∧ B' = B := acall_fresh (nz := false) rfl (number19_in s hs)
def numR (s : List UInt8) : Int × Bool := if decOk 19 s = true ∧ 0 ≤ nV s ∧ nV s ≤ 4611686018427387904 then (nV s, true) else (0, false)
theorem numR_in (s : List UInt8) (hs : s.length < 1000000000) : PC Tryz.prog true 55 [.str s] (.tup [.int .i64 (numR s).1, .bool (numR s).2]) := by
  have hp : ∀ {B : List Box}, ACall Tryz.prog 97 [.str s, .int .i64 19] B fun c B' => c = .tup [.int .i64 (nV s), .bool (decOk 19 s)] ∧ B' = B := number19_at hs
  refine acall_intro mixed Tryz.func55 rfl ca55 (by kernel_rfl) (by rw [Tryz.ntmps55]; simp) ?_
  unfold numR
  generalize nV s = n at *
  generalize decOk 19 s = b at *
  cases b
  · simp only [Bool.false_eq_true, false_and, if_false]
    refine w1 @hp ?_ 
    rfl
  · by_cases h0 : 0 ≤ n
    · by_cases h1 : n ≤ 4611686018427387904
      · have h0' : ¬ (n < 0) := by omega
        have h1' : ¬ (4611686018427387904 < n) := by omega
        simp only [h0, h1, and_self, if_true]
        refine w1 @hp ?_ 
        rfl
      · have h0' : ¬ (n < 0) := by omega
        have h1' : 4611686018427387904 < n := by omega
        simp only [h1, and_false, if_false]
        refine w1 @hp ?_ 
        rfl
    · have h0' : n < 0 := by omega
      simp only [h0, false_and, and_false, if_false]
      refine w1 @hp ?_ 
      rfl
theorem numR_at {B : List Box} {s : List UInt8} (hs : s.length < 1000000000) : ACall Tryz.prog 55 [.str s] B fun c B' => c = .tup [.int .i64 (numR s).1, .bool (numR s).2] ∧ B' = B := acall_fresh (nz := false) rfl (numR_in s hs)
def bytesR (s : List UInt8) : List UInt8 × Bool := if s = [45] then ([], true) else match unhex s with | some l => if l ≠ [] ∧ hexS l = s then (l, true) else ([], false) | none => ([], false)
theorem bytesR_in (s : List UInt8) (hs : s.length < 1000000000) : PC Tryz.prog false 53 [.str s] (.tup [lb (bytesR s).1, .bool (bytesR s).2]) := by
  have hp : ∀ {B : List Box}, ACall Tryz.prog 94 [.str s] B fun c B' => c = unhexC (unhex s) ∧ B' = B := rparseHex_at (by omega)
  refine acall_intro mixed Tryz.func53 rfl ca53 (by kernel_rfl) (by rw [Tryz.ntmps53]; simp) ?_
  unfold bytesR
  by_cases h : s = [45]
  · subst h
    rw [if_pos rfl]
    clear hp
    refine w_RB00 ?_ 
    rfl
  · rw [if_neg h]
    have h' : (s == [45]) = false := by simpa using h
    cases hu : unhex s with
    | none =>
      rw [hu] at hp
      simp only [unhexC, lb] at hp
      refine w_RB01 @hp ?_ 
      rfl
    | some l =>
      have hlen := unhex_len _ _ hu
      rw [hu] at hp
      simp only [unhexC, lb] at hp
      have hm : (l.map byteC).length = l.length := List.length_map _
      have hh : ∀ {B : List Box} {args : List CV}, Is (omap (fz true false B 6) args) (some [.lst l.length (l.map byteC) false]) → ACall Tryz.prog 31 args B fun c B' => c = .str (hexS l) ∧ B' = B := fun hz => rhex_at hz (by omega)
      by_cases h0 : l = []
      · subst h0
        simp only [ne_eq, not_true_eq_false, false_and, if_false]
        refine w_RB01 @hp ?_ 
        rfl
      · have hl0 : l.length ≠ 0 := fun e => h0 (List.eq_nil_of_length_eq_zero e)
        have hl1 : ((l.length : Int) == 0) = false := by simpa using (by omega : (l.length : Int) ≠ 0)
        clear hu hlen
        by_cases h1 : hexS l = s
        · simp only [ne_eq, h0, not_false_eq_true, h1, and_self, if_true]
          rw [h1] at hh
          refine w_RB02 @hp @hh ?_ 
          simp [go_sem, lb]
        · have h1' : (hexS l != s) = true := by simpa using h1
          have h1'' : (hexS l == s) = false := by simpa using h1
          simp only [h1, and_false, if_false]
          generalize hexS l = s2 at *
          refine w_RB02 @hp @hh ?_ 
          rfl
theorem bytesR_at {B : List Box} {s : List UInt8} (hs : s.length < 1000000000) : ACall Tryz.prog 53 [.str s] B fun c B' => c = .tup [lb (bytesR s).1, .bool (bytesR s).2] ∧ B' = B := acall_imm (nz := false) rfl (bytesR_in s hs)
end Go.Proofs.YtcbdghgogmcllaaGreatDoor
end
