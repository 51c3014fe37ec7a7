import Derived.Test.YtjlfblcoghiijaaFD
namespace Go.Proofs.Ytjlfblcoghiijaa
open Go Go.Sy
set_option linter.all false
set_option maxRecDepth 100000
set_option maxHeartbeats 4000000
/-! The frames that are out, as they lie in boxes; what a round is handed and does. -/
def frC (f : Int × List UInt8) : List CV := [.int .i64 f.1, lb f.2]
def PlB (L0 b : Nat) (B : List Box) (c : CV) (p : List UInt8) : Prop := (p = [] ∧ (c = .nilS ∨ c = .lst 0 [] true)) ∨ ∃ β m f, L0 ≤ β ∧ β ≠ b ∧ c = .view β 0 p.length 1 f ∧ B[β]? = some ⟨p.map byteC, m⟩
def FrB (L0 b : Nat) (B : List Box) : List CV → List (Int × List UInt8) → Prop
  | cells, [] => cells = []
  | cells, f :: fs => ∃ c cs, cells = .int .i64 f.1 :: c :: cs ∧ PlB L0 b B c f.2 ∧ FrB L0 b B cs fs
theorem bytes_inj : ∀ {p q : List UInt8}, p.map byteC = q.map byteC → p = q
  | [], [], _ => rfl
  | [], y :: q, h => by simp at h
  | x :: p, [], h => by simp at h
  | x :: p, y :: q, h => by
    simp only [List.map_cons, List.cons.injEq] at h
    have h1 : (x.toNat : Int) = y.toNat := by have := h.1; simp only [byteC, CV.int.injEq] at this; exact this.2
    rw [bytes_inj h.2, UInt8.toNat_inj.1 (by omega : x.toNat = y.toNat)]
section
variable {L0 b : Nat} {B B' : List Box}
theorem PlB.inj {c : CV} {p q : List UInt8} (h : PlB L0 b B c p) (k : PlB L0 b B c q) : p = q := by
  rcases h with ⟨rfl, h⟩ | ⟨β, m, f, _, _, h, h'⟩ <;> rcases k with ⟨rfl, k⟩ | ⟨γ, m', f', _, _, k, k'⟩
  · rfl
  · rcases h with h | h <;> rw [h] at k <;> cases k
  · rcases k with k | k <;> rw [h] at k <;> cases k
  · rw [h] at k
    simp only [CV.view.injEq] at k
    obtain ⟨rfl, -⟩ := k
    rw [h'] at k'
    simp only [Option.some.injEq, Box.mk.injEq] at k'
    exact bytes_inj k'.1
theorem PlB.keep {c : CV} {p : List UInt8} (h : PlB L0 b B c p) (hk : ∀ β bx, L0 ≤ β → β ≠ b → B[β]? = some bx → B'[β]? = some bx) : PlB L0 b B' c p := by
  rcases h with h | ⟨β, m, f, h1, h2, h3, h4⟩
  · exact .inl h
  · exact .inr ⟨β, m, f, h1, h2, h3, hk β _ h1 h2 h4⟩
theorem FrB.keep (hk : ∀ β bx, L0 ≤ β → β ≠ b → B[β]? = some bx → B'[β]? = some bx) : ∀ {fs : List (Int × List UInt8)} {cells : List CV}, FrB L0 b B cells fs → FrB L0 b B' cells fs
  | [], _, h => h
  | _ :: _, _, ⟨c, cs, h1, h2, h3⟩ => ⟨c, cs, h1, h2.keep hk, FrB.keep hk h3⟩
theorem FrB.len : ∀ {fs : List (Int × List UInt8)} {cells : List CV}, FrB L0 b B cells fs → cells.length = fs.length * 2
  | [], _, h => by rw [FrB] at h; subst h; rfl
  | f :: fs, _, ⟨c, cs, h1, h2, h3⟩ => by rw [h1, List.length_cons, List.length_cons, FrB.len h3, List.length_cons]; omega
theorem FrB.inj : ∀ {fs gs : List (Int × List UInt8)} {cells : List CV}, FrB L0 b B cells fs → FrB L0 b B cells gs → fs = gs
  | [], [], _, _, _ => rfl
  | [], g :: gs, _, h, ⟨c, cs, h1, _⟩ => by rw [FrB] at h; subst h; cases h1
  | f :: fs, [], _, ⟨c, cs, h1, _⟩, h => by rw [FrB] at h; subst h; cases h1
  | (k, p) :: fs, (k', p') :: gs, _, ⟨c, cs, h1, h2, h3⟩, ⟨c', cs', k1, k2, k3⟩ => by
    rw [h1] at k1
    simp only [List.cons.injEq, CV.int.injEq] at k1
    obtain ⟨⟨-, rfl⟩, rfl, rfl⟩ := k1
    have e : p = p' := h2.inj k2
    rw [e, FrB.inj h3 k3]
theorem FrB.snoc {k : Int} {p : List UInt8} {c : CV} (hp : PlB L0 b B c p) : ∀ {fs : List (Int × List UInt8)} {cells : List CV}, FrB L0 b B cells fs → FrB L0 b B (cells ++ [.int .i64 k, c]) (fs ++ [(k, p)])
  | [], _, h => by rw [FrB] at h; subst h; exact ⟨c, [], rfl, hp, rfl⟩
  | f :: fs, _, ⟨c', cs, h1, h2, h3⟩ => ⟨c', cs ++ [.int .i64 k, c], by rw [h1]; rfl, h2, FrB.snoc hp h3⟩
end
/-- The frames so far: in the boxes from L0 on; box o holds the slice. -/
def Out (L0 o : Nat) (B : List Box) (fs : List (Int × List UInt8)) : Prop :=
  L0 ≤ B.length ∧ o < L0 ∧ ((fs = [] ∧ B[o]? = some ⟨[.nilS], false⟩) ∨ (fs ≠ [] ∧ ∃ b cells m, L0 ≤ b ∧ B[o]? = some ⟨[.view b 0 fs.length 2 false], false⟩ ∧ B[b]? = some ⟨cells, m⟩ ∧ FrB L0 b B cells fs))
theorem Out.inj {L0 o : Nat} {B : List Box} {fs gs : List (Int × List UInt8)} (h : Out L0 o B fs) (k : Out L0 o B gs) : fs = gs := by
  obtain ⟨_, _, ⟨rfl, h⟩ | ⟨_, b, cells, m, _, h, h', h''⟩⟩ := h <;> obtain ⟨_, _, ⟨rfl, k⟩ | ⟨_, b', cells', m', _, k, k', k''⟩⟩ := k
  · rfl
  · rw [h] at k; simp at k
  · rw [h] at k; simp at k
  · rw [h] at k
    simp only [Option.some.injEq, Box.mk.injEq, List.cons.injEq, CV.view.injEq] at k
    obtain rfl := k.1.1.1
    rw [h'] at k'
    simp only [Option.some.injEq, Box.mk.injEq] at k'
    obtain rfl := k'.1
    exact h''.inj k''
theorem Out.keep {L0 o : Nat} {B B' : List Box} {fs : List (Int × List UInt8)} (h : Out L0 o B fs) (hl : B.length ≤ B'.length) (ho : B'[o]? = B[o]?) (hk : ∀ β bx, L0 ≤ β → B[β]? = some bx → B'[β]? = some bx) : Out L0 o B' fs := by
  obtain ⟨h1, h2, h3⟩ := h
  refine ⟨by omega, h2, ?_⟩
  rcases h3 with ⟨h3, h4⟩ | ⟨h3, b, cells, m, h4, h5, h6, h7⟩
  · exact .inl ⟨h3, ho.trans h4⟩
  · exact .inr ⟨h3, b, cells, m, h4, ho.trans h5, hk _ _ h4 h6, h7.keep fun β bx g1 _ g3 => hk β bx g1 g3⟩
/-- What a round is handed. -/
def Arg (L0 o : Nat) (args : List CV) (B : List Box) (k : Int) (p : List UInt8) (B' : List Box) (fs : List (Int × List UInt8)) : Prop :=
  Out L0 o B' fs ∧ ((p = [] ∧ (args = [.agg [.int .i64 k, .nilS]] ∨ args = [.agg [.int .i64 k, .lst 0 [] true]]) ∧ B = B') ∨ (p ≠ [] ∧ args = [.agg [.int .i64 k, .view B'.length 0 p.length 1 false]] ∧ B = B' ++ [⟨p.map byteC, false⟩]))
theorem Arg.inj {L0 o : Nat} {args : List CV} {B : List Box} {k k' : Int} {p p' : List UInt8} {B' B'' : List Box} {fs fs' : List (Int × List UInt8)} (h : Arg L0 o args B k p B' fs) (g : Arg L0 o args B k' p' B'' fs') : k = k' ∧ p = p' ∧ fs = fs' := by
  obtain ⟨h0, ⟨h1, h2, h3⟩ | ⟨h1, h2, h3⟩⟩ := h <;> obtain ⟨g0, ⟨g1, g2, g3⟩ | ⟨g1, g2, g3⟩⟩ := g
  · subst h1 g1 h3 g3
    refine ⟨?_, rfl, h0.inj g0⟩
    rcases h2 with h2 | h2 <;> rcases g2 with g2 | g2 <;> rw [h2] at g2 <;> simp at g2 <;> exact g2
  · rcases h2 with h2 | h2 <;> rw [h2] at g2 <;> simp at g2
  · rcases g2 with g2 | g2 <;> rw [h2] at g2 <;> simp at g2
  · rw [h3] at g3
    have hl := congrArg List.length g3
    simp at hl
    have := List.append_inj g3 hl
    obtain ⟨e1, e2⟩ := this
    subst e1
    simp only [List.cons.injEq, Box.mk.injEq] at e2
    rw [h2] at g2
    simp at g2
    exact ⟨g2.1, bytes_inj e2.1.1, h0.inj g0⟩
def PreF (L0 o : Nat) (args : List CV) (B : List Box) : Prop := ∃ k p B' fs, Arg L0 o args B k p B' fs ∧ p.length ≤ 512 ∧ fs.length < 1099511627776
def YF (L0 o : Nat) (args : List CV) (B B2 : List Box) : Prop := ∀ k p B' fs, Arg L0 o args B k p B' fs → Out L0 o B2 (fs ++ [(k, p)]) ∧ B.length ≤ B2.length ∧ ∀ i, i < L0 → i ≠ o → B2[i]? = B[i]?
end Go.Proofs.Ytjlfblcoghiijaa
