import Derived.Test.YtjlfblcoghiijaaFI
namespace Go.Proofs.Ytjlfblcoghiijaa
open Go Go.Sy
set_option linter.all false
set_option maxRecDepth 100000
set_option maxHeartbeats 4000000
/-! Feeding, as a step of a reader's state. -/
def feedS (s : List UInt8 × Bool) (b : List UInt8) : (List UInt8 × Bool) × List (Int × List UInt8) :=
  if s.2 then ((s.1, true), []) else (((feedA (s.1 ++ b)).2.getD [], (feedA (s.1 ++ b)).2.isNone), (feedA (s.1 ++ b)).1)
def feedAll (s : List UInt8 × Bool) : List (List UInt8) → (List UInt8 × Bool) × List (Int × List UInt8)
  | [] => (s, [])
  | c :: cs => ((feedAll (feedS s c).1 cs).1, (feedS s c).2 ++ (feedAll (feedS s c).1 cs).2)
theorem feedAll_snoc (s : List UInt8 × Bool) (c : List UInt8) : ∀ cs : List (List UInt8), feedAll s (cs ++ [c]) = ((feedS (feedAll s cs).1 c).1, (feedAll s cs).2 ++ (feedS (feedAll s cs).1 c).2) := by
  intro cs
  induction cs generalizing s with
  | nil => simp [feedAll]
  | cons d cs ih => rw [List.cons_append, feedAll, ih]; simp [feedAll]
theorem feedL_rest : ∀ (n : Nat) (d : List UInt8), (feedL n d).1.length + ((feedL n d).2.getD []).length ≤ d.length
  | 0, d => by simp [feedL]
  | n + 1, d => by
    unfold feedL
    cases h : fstep d with
    | stop => simp
    | bad => simp
    | frame k p r => have := feedL_rest n r; have := fstep_rest h; simp only [List.length_cons]; omega
theorem feedS_len (s : List UInt8 × Bool) (b : List UInt8) : (feedS s b).2.length + (feedS s b).1.1.length ≤ s.1.length + b.length := by
  unfold feedS; split
  · simp
  · have := feedL_rest (s.1 ++ b).length (s.1 ++ b)
    show (feedA (s.1 ++ b)).1.length + ((feedA (s.1 ++ b)).2.getD []).length ≤ _
    rw [List.length_append] at this
    rw [feedA, List.length_append]
    exact this
theorem feedAll_len (s : List UInt8 × Bool) : ∀ cs : List (List UInt8), (feedAll s cs).2.length + (feedAll s cs).1.1.length ≤ s.1.length + cs.flatten.length := by
  intro cs
  induction cs generalizing s with
  | nil => simp [feedAll]
  | cons d cs ih =>
    have h1 := feedS_len s d
    have h2 := ih (feedS s d).1
    simp only [feedAll, List.flatten_cons, List.length_append]
    omega
theorem feedS_at {B : List Box} {args : List CV} {n m : Nat} {s : List UInt8 × Bool} {b : List UInt8} (hz : Is (omap (fz true false B 6) args) (some [.agg [.lst n (s.1.map byteC) false, .bool s.2], .lst m (b.map byteC) false])) (hn : n = s.1.length) (hm : m = b.length) (hl : s.1.length + b.length < 1000000000) :
    ACall Try.prog 10 args B fun c B' => c = .tup [.agg [lb (feedS s b).1.1, .bool (feedS s b).1.2], rl frC (feedS s b).2] ∧ B' = B := by
  obtain ⟨d, br⟩ := s
  cases br with
  | true => exact feedB_at hz hn hm (by show d.length < _; have : d.length + b.length < _ := hl; omega)
  | false => exact feed_at hz hn hm hl
end Go.Proofs.Ytjlfblcoghiijaa
