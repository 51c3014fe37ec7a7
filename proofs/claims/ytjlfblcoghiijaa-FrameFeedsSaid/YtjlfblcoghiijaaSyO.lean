/-
  Every order of a drawn region comes to what its lexical run comes to.
-/
import Derived.Test.YtjlfblcoghiijaaSyU
namespace Go.Sy
set_option linter.all false
open Go.RowKit (Below)

section
variable {P : Program} {N n : Nat} {I0 I : Nat → Nat → Prop} {μ0 μ : List (List Place)} {B : List Box} {w0 w : World} {o : Oper} {a : Act} {fr : Fr} {ops : Array Oper} {bs hs : List Nat} {base : Nat} {J : List Box → Prop}

def dstAt (ops : Array Oper) (k : Nat) : Option Tmp := (ops[k]?).bind (·.dst)
def frS (ops : Array Oper) (S : Nat → Bool) (val : Nat → CV) (fr0 : Fr) : Nat → Fr
  | 0 => fr0
  | k + 1 => if S k then upd (frS ops S val fr0 k) (dstAt ops k) (val k) else frS ops S val fr0 k
def bxS (bar : Nat → Bool) (S : Nat → Bool) (bx : Nat → List Box) : Nat → List Box
  | 0 => bx 0
  | k + 1 => if S k && bar k then bx (k + 1) else bxS bar S bx k

theorem upd_same {fr : Fr} {d : Option Tmp} {c : CV} {t : Nat} (h : d = some t) : upd fr d c t = c := by subst h; simp [upd]
theorem upd_other {fr : Fr} {d : Option Tmp} {c : CV} {t : Nat} (h : d ≠ some t) : upd fr d c t = fr t := by
  cases d with
  | none => rfl
  | some d => simp only [upd]; rw [if_neg (fun e => h (by rw [e]))]

/-- 'k0', 'Q0': the one operation whose outcome is told by a relation (any one of those that Q0 allows is taken). -/
structure Lex (P : Program) (n : Nat) (ops : Array Oper) (bs : List Nat) (base : Nat) (hs : List Nat) (J : List Box → Prop) (k0 : Nat) (Q0 : CV → List Box → Prop) (val : Nat → CV) (fs : Nat → Fr) (bx : Nat → List Box) (k : Nat) (l : List Oper) : Prop where
  each : ∀ (i : Nat) (o : Oper), l[i]? = some o → dstOk n o = true ∧ fs (i + 1) = upd (fs i) o.dst (val i) ∧
    ((wantC ops (fs i) o = some true ∧ hs.contains (k + i) = false ∧ StepC P o (fs i) (bx i) (fun c B'' => c = val i ∧ B'' = bx (i + 1)) ∧ (bx (i + 1) = bx i ∨ (barrier P ops.toList bs hs (k + i) = true ∧ keepsH bs (k + i) (bx i) (bx (i + 1)) base hs ∧ J (bx (i + 1))))) ∨
     (wantC ops (fs i) o = some true ∧ (∃ j c x, hs[j]? = some (k + i) ∧ Made P o (fs i) c x ∧ (bx i)[base + j]? = some x ∧ mvC (base + j) c = some (val i)) ∧ bx (i + 1) = bx i) ∨
     (wantC ops (fs i) o = some true ∧ (hs.contains (k + i) = true ∧ FreeOp P J o (fs i) (val i)) ∧ bx (i + 1) = bx i) ∨
     (wantC ops (fs i) o = some false ∧ val i = .tup [] ∧ bx (i + 1) = bx i) ∨
     (wantC ops (fs i) o = some true ∧ hs.contains (k + i) = false ∧ StepC P o (fs i) (bx i) Q0 ∧ k + i = k0 ∧ still P o.op = false ∧ barrier P ops.toList bs hs (k + i) = true ∧ keepsH bs (k + i) (bx i) (bx (i + 1)) base hs ∧ J (bx (i + 1))))

theorem lex_of_WPd {Q : Fr → List Box → Prop} {k0 : Nat} {Q0 : CV → List Box → Prop} : ∀ (l : List Oper) (k : Nat) (fr : Fr) (B : List Box), WPd P n ops bs base hs J Q k l fr B →
    ∃ val fs bx, fs 0 = fr ∧ bx 0 = B ∧ Q (fs l.length) (bx l.length) ∧ Lex P n ops bs base hs J k0 Q0 val fs bx k l
  | [], k, fr, B, h => ⟨fun _ => .tup [], fun _ => fr, fun _ => B, rfl, rfl, h, ⟨fun i o ho => by simp at ho⟩⟩
  | o :: l, k, fr, B, h => by
    unfold WPd at h
    obtain ⟨hd, h⟩ := h
    have build : ∀ (c : CV) (B' : List Box), WPd P n ops bs base hs J Q (k + 1) l (upd fr o.dst c) B' →
        ((wantC ops fr o = some true ∧ hs.contains k = false ∧ StepC P o fr B (fun c' B'' => c' = c ∧ B'' = B') ∧ (B' = B ∨ (barrier P ops.toList bs hs k = true ∧ keepsH bs k B B' base hs ∧ J B'))) ∨
         (wantC ops fr o = some true ∧ (∃ j c1 x, hs[j]? = some k ∧ Made P o fr c1 x ∧ B[base + j]? = some x ∧ mvC (base + j) c1 = some c) ∧ B' = B) ∨ (wantC ops fr o = some true ∧ (hs.contains k = true ∧ FreeOp P J o fr c) ∧ B' = B) ∨ (wantC ops fr o = some false ∧ c = .tup [] ∧ B' = B) ∨
         (wantC ops fr o = some true ∧ hs.contains k = false ∧ StepC P o fr B Q0 ∧ k = k0 ∧ still P o.op = false ∧ barrier P ops.toList bs hs k = true ∧ keepsH bs k B B' base hs ∧ J B')) →
        ∃ val fs bx, fs 0 = fr ∧ bx 0 = B ∧ Q (fs (o :: l).length) (bx (o :: l).length) ∧ Lex P n ops bs base hs J k0 Q0 val fs bx k (o :: l) := by
      intro c B' hw hc
      obtain ⟨val, fs, bx, h1, h2, h3, h4⟩ := lex_of_WPd (k0 := k0) (Q0 := Q0) l (k + 1) _ _ hw
      refine ⟨fun i => match i with | 0 => c | i + 1 => val i, fun i => match i with | 0 => fr | i + 1 => fs i, fun i => match i with | 0 => B | i + 1 => bx i, rfl, rfl, h3, ⟨fun i p hp => ?_⟩⟩
      cases i with
      | zero =>
        simp at hp; subst hp
        refine ⟨hd, h1, ?_⟩
        simp only [h2, Nat.add_zero]
        exact hc
      | succ i =>
        have := h4.each i p (by simpa using hp)
        simpa [Nat.add_assoc, Nat.add_comm 1 i] using this
    split at h
    · rename_i t ht
      cases t with
      | true =>
        have h := h.1 rfl
        split at h
        · rename_i hcon
          rcases h with ⟨j, c, x, c', h1, h2, h3, h4, h5⟩ | ⟨c, h1, h2⟩
          · exact build c' B h5 (.inr (.inl ⟨ht, ⟨j, c, x, h1, h2, h3, h4⟩, rfl⟩))
          · exact build c B h2 (.inr (.inr (.inl ⟨ht, ⟨hcon, h1⟩, rfl⟩)))
        · rename_i hn
          obtain ⟨c, B', h1, h2, h3⟩ := h
          exact build c B' h3 (.inl ⟨ht, by simpa using hn, h1, h2⟩)
      | false => exact build (.tup []) B (h.2 rfl) (.inr (.inr (.inr (.inl ⟨ht, rfl, rfl⟩))))
    · cases h

theorem StepC_ev_of {v : CV} {B1 : List Box} (hn : ∀ f args ts, o.op ≠ .call { callee := .value f, args, argTypes := ts }) (hs : StepC P o fr B fun c B'' => c = v ∧ B'' = B1) : ev P o fr B = some (v, B1) := by
  unfold StepC at hs
  split at hs
  · rename_i f args ts ho
    exact absurd ho (hn f args ts)
  · rcases hs with hs | hs
    · split at hs
      · rename_i r hr
        rw [hr, ← hs.1, ← hs.2]
      · exact hs.elim
    · exfalso
      unfold StepG at hs
      split at hs
      · split at hs
        · obtain ⟨e, esz, zs, m, news, n, olds, _, _, _, _, _, _, _, _, _, _, _, _, hK⟩ := hs
          have h1 := (hK (n + m) (Nat.le_refl _)).1
          have h2 := (hK (n + m + 1) (by omega)).1
          rw [← h2] at h1
          injection h1 with _ _ _ h1 _
          omega
        · exact hs
      · obtain ⟨_, _, _, _, ⟨k1, _⟩, k2, _⟩ := hs
        rw [← k1] at k2; cases k2
      · exact hs

def isLoad : Op → Bool
  | .load .. | .nilCheck _ | .indexAddr .. => true
  | _ => false
/-- A drawn region one of whose operations has an outcome that is told by a relation; what may come up ahead of it though it stands behind it is still, or loads what no operation turns. -/
def WPq (P : Program) (n : Nat) (ops : Array Oper) (bs : List Nat) (base : Nat) (hs : List Nat) (J : List Box → Prop) (Q : Fr → List Box → Prop) : Nat → List Oper → Fr → List Box → Prop
  | _, [], _, _ => False
  | k, o :: rest, fr, B => dstOk n o = true ∧ match wantC ops fr o with
    | some t => (t = true → if hs.contains k then (∃ j c bx c', hs[j]? = some k ∧ Made P o fr c bx ∧ B[base + j]? = some bx ∧ mvC (base + j) c = some c' ∧ WPq P n ops bs base hs J Q (k + 1) rest (upd fr o.dst c') B) ∨
            ∃ c, FreeOp P J o fr c ∧ WPq P n ops bs base hs J Q (k + 1) rest (upd fr o.dst c) B
          else (∃ c B', StepC P o fr B (fun c' B'' => c' = c ∧ B'' = B') ∧ (B' = B ∨ (barrier P ops.toList bs hs k = true ∧ keepsH bs k B B' base hs ∧ J B')) ∧ WPq P n ops bs base hs J Q (k + 1) rest (upd fr o.dst c) B') ∨
            ∃ Q0 : CV → List Box → Prop, StepC P o fr B Q0 ∧ (∃ c B', Q0 c B') ∧ still P o.op = false ∧ barrier P ops.toList bs hs k = true ∧ (hs.all fun i => decide (i ≤ k) || (match ops[i]? with | some p => isLoad p.op | none => true)) = true ∧
              ∀ c B', Q0 c B' → keepsH bs k B B' base hs ∧ J B' ∧ WPd P n ops bs base hs J Q (k + 1) rest (upd fr o.dst c) B') ∧
        (t = false → WPq P n ops bs base hs J Q (k + 1) rest (upd fr o.dst (.tup [])) B)
    | none => False

/-- The runs that a region may have: one for each outcome of the one operation. -/
structure Family (P : Program) (n : Nat) (ops : Array Oper) (bs : List Nat) (base : Nat) (hs : List Nat) (J : List Box → Prop) (Q : Fr → List Box → Prop) (k0 : Nat) (Q0 : CV → List Box → Prop) (k : Nat) (l : List Oper) (fr : Fr) (B : List Box) (Fam : (Nat → CV) → (Nat → Fr) → (Nat → List Box) → Prop) : Prop where
  any : ∃ val fs bx, Fam val fs bx
  lex : ∀ val fs bx, Fam val fs bx → fs 0 = fr ∧ bx 0 = B ∧ Q (fs l.length) (bx l.length) ∧ Lex P n ops bs base hs J (k + k0) Q0 val fs bx k l
  pre : ∀ val fs bx val' fs' bx', Fam val fs bx → Fam val' fs' bx' → ∀ i, (i < k0 → val i = val' i) ∧ (i ≤ k0 → bx i = bx' i)
  all : ∀ c B', Q0 c B' → ∃ val fs bx, Fam val fs bx ∧ val k0 = c ∧ bx (k0 + 1) = B'
  rest : ∀ i p, i ∈ hs → k + k0 < i → ops[i]? = some p → isLoad p.op = true
  one : ∀ o, l[k0]? = some o → hs.contains (k + k0) = false ∧ still P o.op = false ∧ barrier P ops.toList bs hs (k + k0) = true

theorem fam_of_WPd {Q : Fr → List Box → Prop} {k : Nat} {l : List Oper} (h : WPd P n ops bs base hs J Q k l fr B) (hl : l.length = ops.size) : ∃ Fam, Family P n ops bs base hs J Q ops.size (fun _ _ => False) k l fr B Fam := by
  obtain ⟨val, fs, bx, e1, e2, hq, hlex⟩ := lex_of_WPd (k0 := k + ops.size) (Q0 := fun _ _ => False) l k fr B h
  refine ⟨fun v f b => v = val ∧ f = fs ∧ b = bx, ⟨val, fs, bx, rfl, rfl, rfl⟩, ?_, ?_, fun c B' h => h.elim, fun i p h1 h2 => ?_, fun o ho => ?_⟩
  · rintro _ _ _ ⟨rfl, rfl, rfl⟩; exact ⟨e1, e2, hq, hlex⟩
  · rintro _ _ _ _ _ _ ⟨rfl, rfl, rfl⟩ ⟨rfl, rfl, rfl⟩ i; exact ⟨fun _ => rfl, fun _ => rfl⟩
  · intro h3; have := (Array.getElem?_eq_some_iff.1 h3).1; omega
  · have := (List.getElem?_eq_some_iff.1 ho).1; omega

theorem fam_of_WPq {Q : Fr → List Box → Prop} : ∀ (l : List Oper) (k : Nat) (fr : Fr) (B : List Box), WPq P n ops bs base hs J Q k l fr B → ∃ k0 Q0 Fam, Family P n ops bs base hs J Q k0 Q0 k l fr B Fam
  | [], k, fr, B, h => by unfold WPq at h; exact h.elim
  | o :: l, k, fr, B, h => by
    unfold WPq at h
    obtain ⟨hd, h⟩ := h
    have build : ∀ (c : CV) (B' : List Box), WPq P n ops bs base hs J Q (k + 1) l (upd fr o.dst c) B' →
        ((wantC ops fr o = some true ∧ hs.contains k = false ∧ StepC P o fr B (fun c' B'' => c' = c ∧ B'' = B') ∧ (B' = B ∨ (barrier P ops.toList bs hs k = true ∧ keepsH bs k B B' base hs ∧ J B'))) ∨
         (wantC ops fr o = some true ∧ (∃ j c1 x, hs[j]? = some k ∧ Made P o fr c1 x ∧ B[base + j]? = some x ∧ mvC (base + j) c1 = some c) ∧ B' = B) ∨ (wantC ops fr o = some true ∧ (hs.contains k = true ∧ FreeOp P J o fr c) ∧ B' = B) ∨ (wantC ops fr o = some false ∧ c = .tup [] ∧ B' = B)) →
        ∃ k0 Q0 Fam, Family P n ops bs base hs J Q k0 Q0 k (o :: l) fr B Fam := by
      intro c B' hw hc
      obtain ⟨k0, Q0, Fam, hF⟩ := fam_of_WPq l (k + 1) _ _ hw
      refine ⟨k0 + 1, Q0, fun val fs bx => fs 0 = fr ∧ bx 0 = B ∧ val 0 = c ∧ Fam (fun i => val (i + 1)) (fun i => fs (i + 1)) (fun i => bx (i + 1)), ?_, ?_, ?_, ?_, ?_, ?_⟩
      · obtain ⟨val, fs, bx, h1⟩ := hF.any
        exact ⟨fun i => match i with | 0 => c | i + 1 => val i, fun i => match i with | 0 => fr | i + 1 => fs i, fun i => match i with | 0 => B | i + 1 => bx i, rfl, rfl, rfl, h1⟩
      · rintro val fs bx ⟨h1, h2, h3, h4⟩
        obtain ⟨g1, g2, g3, g4⟩ := hF.lex _ _ _ h4
        refine ⟨h1, h2, g3, ⟨fun i p hp => ?_⟩⟩
        cases i with
        | zero =>
          simp at hp; subst hp
          have g1 : fs (0 + 1) = _ := g1
          have g2 : bx (0 + 1) = _ := g2
          rw [g1, g2, h1, h2, h3, Nat.add_zero]
          refine ⟨hd, rfl, ?_⟩
          rcases hc with h | h | h | h
          · exact .inl h
          · exact .inr (.inl h)
          · exact .inr (.inr (.inl h))
          · exact .inr (.inr (.inr (.inl h)))
        | succ i =>
          have := g4.each i p (by simpa using hp)
          simpa [Nat.add_assoc, Nat.add_comm 1 i, Nat.add_comm 1 k0] using this
      · rintro val fs bx val' fs' bx' ⟨h1, h2, h3, h4⟩ ⟨g1, g2, g3, g4⟩ i
        cases i with
        | zero => exact ⟨fun _ => by rw [h3, g3], fun _ => by rw [h2, g2]⟩
        | succ i =>
          have := hF.pre _ _ _ _ _ _ h4 g4 i
          exact ⟨fun h => this.1 (by omega), fun h => this.2 (by omega)⟩
      · intro c' B'' hQ
        obtain ⟨val, fs, bx, h1, h2, h3⟩ := hF.all c' B'' hQ
        exact ⟨fun i => match i with | 0 => c | i + 1 => val i, fun i => match i with | 0 => fr | i + 1 => fs i, fun i => match i with | 0 => B | i + 1 => bx i, ⟨rfl, rfl, rfl, h1⟩, h2, h3⟩
      · intro i p h1 h2
        exact hF.rest i p h1 (by omega)
      · intro p hp
        have := hF.one p (by simpa using hp)
        rwa [show k + 1 + k0 = k + (k0 + 1) by omega] at this
    split at h
    · rename_i t ht
      cases t with
      | true =>
        have h := h.1 rfl
        split at h
        · rename_i hcon
          rcases h with ⟨j, c, x, c', h1, h2, h3, h4, h5⟩ | ⟨c, h1, h2⟩
          · exact build c' B h5 (.inr (.inl ⟨ht, ⟨j, c, x, h1, h2, h3, h4⟩, rfl⟩))
          · exact build c B h2 (.inr (.inr (.inl ⟨ht, ⟨hcon, h1⟩, rfl⟩)))
        · rename_i hn
          rcases h with ⟨c, B', h1, h2, h3⟩ | ⟨Q0, h1, ⟨c0, B0, h2⟩, hst, h3, h4, h5⟩
          · exact build c B' h3 (.inl ⟨ht, by simpa using hn, h1, h2⟩)
          · have mem : ∀ c B', Q0 c B' → ∃ val fs bx, (fs 0 = fr ∧ bx 0 = B ∧ Q (fs (o :: l).length) (bx (o :: l).length) ∧ Lex P n ops bs base hs J (k + 0) Q0 val fs bx k (o :: l)) ∧ val 0 = c ∧ bx (0 + 1) = B' := by
              intro c B' hQ
              obtain ⟨g1, g2, g3⟩ := h5 c B' hQ
              obtain ⟨val, fs, bx, e1, e2, hq, hlex⟩ := lex_of_WPd (k0 := k) (Q0 := Q0) l (k + 1) _ _ g3
              refine ⟨fun i => match i with | 0 => c | i + 1 => val i, fun i => match i with | 0 => fr | i + 1 => fs i, fun i => match i with | 0 => B | i + 1 => bx i, ⟨rfl, rfl, hq, ⟨fun i p hp => ?_⟩⟩, rfl, e2⟩
              cases i with
              | zero =>
                simp at hp; subst hp
                refine ⟨hd, e1, .inr (.inr (.inr (.inr ?_)))⟩
                simp only [e2, Nat.add_zero]
                exact ⟨ht, by simpa using hn, h1, trivial, hst, h3, g1, g2⟩
              | succ i =>
                have := hlex.each i p (by simpa using hp)
                simpa [Nat.add_assoc, Nat.add_comm 1 i] using this
            refine ⟨0, Q0, fun val fs bx => fs 0 = fr ∧ bx 0 = B ∧ Q (fs (o :: l).length) (bx (o :: l).length) ∧ Lex P n ops bs base hs J (k + 0) Q0 val fs bx k (o :: l), ?_, fun val fs bx h => h, ?_, mem, ?_, ?_⟩
            · obtain ⟨val, fs, bx, h, _⟩ := mem c0 B0 h2
              exact ⟨val, fs, bx, h⟩
            · rintro val fs bx val' fs' bx' h h' i
              exact ⟨fun h => absurd h (by omega), fun hi => by rw [show i = 0 by omega, h.2.1, h'.2.1]⟩
            · intro i p hi hki hp
              have := List.all_eq_true.1 h4 i hi
              rw [hp] at this
              simpa [show ¬ i ≤ k by omega] using this
            · intro p hp
              simp at hp; subst hp
              exact ⟨by simpa using hn, hst, h3⟩
      | false => exact build (.tup []) B (h.2 rfl) (.inr (.inr (.inr ⟨ht, rfl, rfl⟩)))
    · cases h

/-- The frame with a set of operations done, at a slot that only earlier operations of the set have written. -/
theorem frS_at {S : Nat → Bool} {val : Nat → CV} {fs : Nat → Fr} {m i t : Nat} (hfs : ∀ j, j < m → fs (j + 1) = upd (fs j) (dstAt ops j) (val j)) (hi : i ≤ m) (hS : ∀ j, j < m → dstAt ops j = some t → (S j = true ↔ j < i)) :
    ∀ k, k ≤ m → frS ops S val (fs 0) k t = fs (min k i) t
  | 0, _ => by simp [frS]
  | k + 1, hk => by
    have ih := frS_at (val := val) hfs hi hS k (by omega)
    simp only [frS]
    by_cases hd : dstAt ops k = some t
    · by_cases hki : k < i
      · rw [if_pos ((hS k (by omega) hd).2 hki), upd_same hd, Nat.min_eq_left (by omega), hfs k (by omega), upd_same hd]
      · have : ¬ S k = true := fun h => hki ((hS k (by omega) hd).1 h)
        rw [if_neg this, ih, Nat.min_eq_right (by omega), Nat.min_eq_right (by omega)]
    · have e : (if S k = true then upd (frS ops S val (fs 0) k) (dstAt ops k) (val k) else frS ops S val (fs 0) k) t = frS ops S val (fs 0) k t := by
        split
        · exact upd_other hd
        · rfl
      rw [e, ih]
      by_cases hki : k < i
      · rw [Nat.min_eq_left (by omega), Nat.min_eq_left (by omega), hfs k (by omega), upd_other hd]
      · rw [Nat.min_eq_right (by omega), Nat.min_eq_right (by omega)]

theorem frS_put {S S' : Nat → Bool} {val : Nat → CV} {fr0 : Fr} {m i : Nat} (hi : i < m) (hS : ∀ j, S' j = (S j || j == i)) (hlast : ∀ j t, i < j → j < m → dstAt ops i = some t → dstAt ops j = some t → S j = false) :
    frS ops S' val fr0 m = upd (frS ops S val fr0 m) (dstAt ops i) (val i) := by
  funext t
  by_cases hd : dstAt ops i = some t
  · rw [upd_same hd]
    have key : ∀ k, i < k → k ≤ m → frS ops S' val fr0 k t = val i := by
      intro k
      induction k with
      | zero => intro h; omega
      | succ k ih =>
        intro h1 h2
        simp only [frS]
        by_cases hk : k = i
        · subst hk
          rw [if_pos (by simp [hS]), upd_same hd]
        · by_cases hdk : dstAt ops k = some t
          · have : S' k = false := by rw [hS, hlast k t (by omega) (by omega) hd hdk]; simp [hk]
            rw [this]
            simpa using ih (by omega) (by omega)
          · have e : (if S' k = true then upd (frS ops S' val fr0 k) (dstAt ops k) (val k) else frS ops S' val fr0 k) t = frS ops S' val fr0 k t := by
              split
              · exact upd_other hdk
              · rfl
            rw [e]
            exact ih (by omega) (by omega)
    exact key m hi (Nat.le_refl _)
  · rw [upd_other hd]
    have key : ∀ k, frS ops S' val fr0 k t = frS ops S val fr0 k t := by
      intro k
      induction k with
      | zero => rfl
      | succ k ih =>
        simp only [frS]
        by_cases hk : k = i
        · subst hk
          have e1 : (if S' k = true then upd (frS ops S' val fr0 k) (dstAt ops k) (val k) else frS ops S' val fr0 k) t = frS ops S' val fr0 k t := by
            split
            · exact upd_other hd
            · rfl
          have e2 : (if S k = true then upd (frS ops S val fr0 k) (dstAt ops k) (val k) else frS ops S val fr0 k) t = frS ops S val fr0 k t := by
            split
            · exact upd_other hd
            · rfl
          rw [e1, e2, ih]
        · have : S' k = S k := by rw [hS]; simp [hk]
          rw [this]
          split
          · by_cases hdk : dstAt ops k = some t
            · rw [upd_same hdk, upd_same hdk]
            · rw [upd_other hdk, upd_other hdk, ih]
          · exact ih
    exact key m

theorem bxS_at {bar S : Nat → Bool} {bx : Nat → List Box} {m i : Nat} (hb : ∀ k, k < m → bar k = false → bx (k + 1) = bx k) (hi : i ≤ m) (hS : ∀ j, j < m → bar j = true → (S j = true ↔ j < i)) :
    ∀ k, k ≤ m → bxS bar S bx k = bx (min k i)
  | 0, _ => by simp [bxS]
  | k + 1, hk => by
    have ih := bxS_at hb hi hS k (by omega)
    simp only [bxS]
    by_cases hbk : bar k = true
    · by_cases hki : k < i
      · rw [if_pos (by rw [(hS k (by omega) hbk).2 hki, hbk]; rfl), Nat.min_eq_left (by omega)]
      · have : S k = false := by
          cases h : S k with
          | false => rfl
          | true => exact absurd ((hS k (by omega) hbk).1 h) hki
        rw [this, Bool.false_and, if_neg (by simp), ih, Nat.min_eq_right (by omega), Nat.min_eq_right (by omega)]
    · have hbk : bar k = false := by simpa using hbk
      rw [hbk, Bool.and_false, if_neg (by simp), ih]
      by_cases hki : k < i
      · rw [Nat.min_eq_left (by omega), Nat.min_eq_left (by omega), hb k (by omega) hbk]
      · rw [Nat.min_eq_right (by omega), Nat.min_eq_right (by omega)]

theorem keepsH_at {k : Nat} {B B' : List Box} : ∀ {hs : List Nat} {b j k' : Nat}, keepsH bs k B B' b hs → hs[j]? = some k' → orders bs k' k = true ∨ B'[b + j]? = B[b + j]?
  | [], _, _, _, _, h => by simp at h
  | x :: hs, b, 0, k', h, hj => by simp at hj; subst hj; exact h.1
  | x :: hs, b, j + 1, k', h, hj => by
    have := keepsH_at h.2 (j := j) (k' := k') (by simpa using hj)
    rwa [show b + 1 + j = b + (j + 1) by omega] at this
theorem bxS_look {bar S : Nat → Bool} {bx : Nat → List Box} {m i β : Nat} (hb : ∀ k, k < m → bar k = false → bx (k + 1) = bx k) (hk : ∀ k, k < m → bar k = true → (S k = true ↔ k < i) ∨ (bx (k + 1))[β]? = (bx k)[β]?)
    (hp : ∀ s k, s < k → k < m → bar s = true → bar k = true → S k = true → S s = true) :
    ∀ k, k ≤ m → (bxS bar S bx k)[β]? = (bx (min k i))[β]?
  | 0, _ => by simp [bxS]
  | k + 1, hkm => by
    have ih := bxS_look hb hk hp k (by omega)
    have back : S k = true → bar k = true → i ≤ k → ∀ d, i + d ≤ k + 1 → (bx (i + d))[β]? = (bx i)[β]? := by
      intro hS hbk hik d
      induction d with
      | zero => intro _; rfl
      | succ d ihd =>
        intro hd
        rw [← ihd (by omega), show i + (d + 1) = i + d + 1 by omega]
        cases hbd : bar (i + d) with
        | false => rw [hb (i + d) (by omega) hbd]
        | true =>
          rcases hk (i + d) (by omega) hbd with h | h
          · have hSd : S (i + d) = true := by
              rcases Nat.lt_or_ge (i + d) k with hl | hl
              · exact hp (i + d) k hl (by omega) hbd hbk hS
              · rw [show i + d = k by omega]; exact hS
            have := h.1 hSd
            omega
          · exact h
    simp only [bxS]
    cases hbk : bar k with
    | false =>
      rw [Bool.and_false, if_neg (by simp), ih]
      rcases Nat.lt_or_ge k i with hki | hki
      · rw [Nat.min_eq_left (by omega), Nat.min_eq_left (by omega), hb k (by omega) hbk]
      · rw [Nat.min_eq_right (by omega), Nat.min_eq_right (by omega)]
    | true =>
      cases hSk : S k with
      | true =>
        rw [if_pos (by rfl)]
        rcases Nat.lt_or_ge k i with hki | hki
        · rw [Nat.min_eq_left (by omega)]
        · rw [Nat.min_eq_right (by omega)]
          have := back hSk hbk hki (k + 1 - i) (by omega)
          rwa [show i + (k + 1 - i) = k + 1 by omega] at this
      | false =>
        rw [if_neg (by simp), ih]
        rcases Nat.lt_or_ge k i with hki | hki
        · rw [Nat.min_eq_left (by omega), Nat.min_eq_left (by omega)]
          rcases hk k (by omega) hbk with h | h
          · rw [hSk] at h; exact absurd (h.2 hki) (by simp)
          · exact h.symm
        · rw [Nat.min_eq_right (by omega), Nat.min_eq_right (by omega)]

theorem bxS_skip {bar S S' : Nat → Bool} {bx : Nat → List Box} {i : Nat} (hb : bar i = false) (hS : ∀ j, S' j = (S j || j == i)) : ∀ k, bxS bar S' bx k = bxS bar S bx k
  | 0 => rfl
  | k + 1 => by
    simp only [bxS]
    rw [bxS_skip hb hS k, hS]
    by_cases hk : k = i
    · subst hk; rw [hb]; simp
    · have : (k == i) = false := by simpa using hk
      rw [this, Bool.or_false]
theorem countP_lt {l : List Nat} {p q : Nat → Bool} (h : ∀ x, q x = true → p x = true) {i : Nat} (hi : i ∈ l) (h1 : p i = true) (h2 : q i = false) : l.countP q < l.countP p := by
  induction l with
  | nil => cases hi
  | cons x l ih =>
    have hle : l.countP q ≤ l.countP p := List.countP_mono_left fun x _ => h x
    rw [List.countP_cons, List.countP_cons]
    rcases List.mem_cons.1 hi with rfl | hi
    · rw [h1, h2]; simp; omega
    · have := ih hi
      have hx : (if q x = true then 1 else 0) ≤ (if p x = true then 1 else 0) := by
        by_cases hq : q x = true
        · rw [if_pos hq, if_pos (h x hq)]; exact Nat.le_refl _
        · rw [if_neg hq]; exact Nat.zero_le _
      omega

theorem St.keep {w' : World} (h : St N n I0 μ0 w0 fr B a I μ w) (hs : w.heap.size ≤ w'.heap.size) (hb : ∀ b, b < w.heap.size → w'.heap[b]? = w.heap[b]?) (hw : w'.os = w.os ∧ w'.tape = w.tape ∧ w'.output = w.output) :
    St N n I0 μ0 w0 fr B a I μ w' :=
  have e := h.box.ext_same hs hb
  ⟨h.size, h.defers.ext e.oth, fun i => (h.frame i).ext e.toKeep, h.box.keep hs hb, h.ext.trans e, h.below.trans ⟨hw.1, hw.2.1, hw.2.2, hs, fun k hk => hb k (by have := h.box.low; omega)⟩⟩

theorem fam_sound {id : Nat} {Q : Fr → List Box → Prop} {Q' : Exit → Act → World → Prop} {k0 : Nat} {Q0 : CV → List Box → Prop} {Fam : (Nat → CV) → (Nat → Fr) → (Nat → List Box) → Prop} (hm : P.follows .mixedOrders = true) (hok : drawOk ops.toList (befs ops.toList []) = true)
    (hF : Family P n ops (befs ops.toList []) base hs J Q k0 Q0 0 ops.toList fr B Fam) (hJ : J B)
    (hs0 : St N n I0 μ0 w0 fr B a I μ w) (hbase : μ0.length ≤ base) (hgone : ∀ j k, hs[j]? = some k → μ[base + j]? = some []) (hQ : ∀ fr' B' a' I' μ' w', Q fr' B' → St N n I0 μ0 w0 fr' B' a' I' μ' w' → Q' .normal a' w') : (Code.region id ops true).wp P Q' a w := by
  have hl : ops.toList.length = ops.size := Array.length_toList
  -- the checks, as statements
  simp only [drawOk, Bool.and_eq_true, List.all_eq_true] at hok
  obtain ⟨hok1, hok2⟩ := hok
  have zip : ∀ (i : Nat) (o : Oper), ops[i]? = some o → (o, i) ∈ ops.toList.zipIdx := fun i o ho => by
    rw [List.mem_zipIdx_iff_getElem?]
    simpa using ho
  have hlt : ∀ (i : Nat) (o : Oper), ops[i]? = some o → ∀ e ∈ o.after, Region.binds .any e = true → e.on < i := by
    intro i o ho e he hb
    have := hok1 (o, i) (zip i o ho) e (by simpa using he)
    simpa [hb] using this
  have hord : ∀ (i j : Nat) (o p : Oper) (d : Tmp), ops[i]? = some o → ops[j]? = some p → i ≠ j → p.dst = some d → d ∈ namesOf ops.toList o → orders (befs ops.toList []) i j = true := by
    intro i j o p d ho hp hij hd hn
    have := hok2 (o, i) (zip i o ho) (p, j) (zip j p hp)
    simp only [hd, Bool.or_eq_true, beq_iff_eq] at this
    rcases this with (this | this) | this
    · exact absurd this hij
    · exact this
    · simp [hn] at this
  let bar : Nat → Bool := fun k => barrier P ops.toList (befs ops.toList []) hs k && !hs.contains k && !(match ops[k]? with | some o => still P o.op | none => true)
  have hbar : ∀ (i k : Nat) (o : Oper), ops[i]? = some o → still P o.op = false → hs.contains i = false → bar k = true → i ≠ k → orders (befs ops.toList []) i k = true := by
    intro i k o ho hst hnh hk hik
    have : barrier P ops.toList (befs ops.toList []) hs k = true := by
      have hk : (barrier P ops.toList (befs ops.toList []) hs k && !hs.contains k && !(match ops[k]? with | some o => still P o.op | none => true)) = true := hk
      rw [Bool.and_eq_true, Bool.and_eq_true] at hk; exact hk.1.1
    simp only [barrier, List.all_eq_true, List.mem_range, Bool.or_eq_true, beq_iff_eq] at this
    rcases this i (by rw [hl]; exact (Array.getElem?_eq_some_iff.1 ho).1) with ((h | h) | h) | h
    · exact absurd h hik
    · exact h
    · rw [hnh] at h; cases h
    · have ho' : ops.toList[i]? = some o := by simpa using ho
      rw [ho'] at h
      simp [hst] at h
  have hbarN : ∀ k, bar k = true → hs.contains k = false ∧ ∀ o, ops[k]? = some o → still P o.op = false := by
    intro k hk
    have hk : (barrier P ops.toList (befs ops.toList []) hs k && !hs.contains k && !(match ops[k]? with | some o => still P o.op | none => true)) = true := hk
    rw [Bool.and_eq_true, Bool.and_eq_true] at hk
    refine ⟨by simpa using hk.1.2, fun o ho => ?_⟩
    have := hk.2
    rw [ho] at this
    simpa using this
  have hone : k0 < ops.size → bar k0 = true := by
    intro hk
    have hok : ops[k0]? = some ops[k0] := by simp [hk]
    obtain ⟨h1, h2, h3⟩ := hF.one ops[k0] (by simpa using hok)
    show (barrier P ops.toList (befs ops.toList []) hs k0 && !hs.contains k0 && !(match ops[k0]? with | some o => still P o.op | none => true)) = true
    rw [Nat.zero_add] at h1 h3
    rw [hok, h1, h3]; simp [h2]
  have facts : ∀ val fs bx, Fam val fs bx → (∀ j, j < ops.size → fs (j + 1) = upd (fs j) (dstAt ops j) (val j)) ∧ (∀ k, k < ops.size → bar k = false → bx (k + 1) = bx k) ∧
      (∀ (j k' k : Nat), hs[j]? = some k' → k < ops.size → bar k = true → orders (befs ops.toList []) k' k = true ∨ (bx (k + 1))[base + j]? = (bx k)[base + j]?) ∧ (∀ (S : Nat → Bool) k, k ≤ ops.size → J (bxS bar S bx k)) := by
    intro val fs bx hmem
    obtain ⟨e1, e2, hq, hlex⟩ := hF.lex val fs bx hmem
    have hfs : ∀ j, j < ops.size → fs (j + 1) = upd (fs j) (dstAt ops j) (val j) := by
      intro j hj
      have hoj : ops[j]? = some ops[j] := by simp [hj]
      have := (hlex.each j ops[j] (by simpa using hoj)).2.1
      rw [this]
      simp [dstAt, hoj]
    have hbx : ∀ k, k < ops.size → bar k = false → bx (k + 1) = bx k := by
      intro k hk hb
      have hok : ops[k]? = some ops[k] := by simp [hk]
      rcases (hlex.each k ops[k] (by simpa using hok)).2.2 with ⟨_, hnh, hst0, h3⟩ | ⟨_, _, h3⟩ | ⟨_, _, h3⟩ | ⟨_, _, h3⟩ | ⟨_, hnh, _, _, hst, h3, _, _⟩
      · rcases h3 with h3 | ⟨h3, _, _⟩
        · exact h3
        · cases hst : still P ops[k].op with
          | true => exact (StepC_still hst hst0).1
          | false =>
            have : bar k = true := by
              show (barrier P ops.toList (befs ops.toList []) hs k && !hs.contains k && !(match ops[k]? with | some o => still P o.op | none => true)) = true
              rw [Nat.zero_add] at h3 hnh
              rw [hok, hnh, h3]; simp [hst]
            rw [hb] at this; cases this
      · exact h3
      · exact h3
      · exact h3
      · exfalso
        have : bar k = true := by
          show (barrier P ops.toList (befs ops.toList []) hs k && !hs.contains k && !(match ops[k]? with | some o => still P o.op | none => true)) = true
          rw [Nat.zero_add] at h3 hnh
          rw [hok, hnh, h3]; simp [hst]
        rw [hb] at this; cases this
    have hkeep : ∀ (j k' k : Nat), hs[j]? = some k' → k < ops.size → bar k = true → orders (befs ops.toList []) k' k = true ∨ (bx (k + 1))[base + j]? = (bx k)[base + j]? := by
      intro j k' k hj hk hb
      have hok : ops[k]? = some ops[k] := by simp [hk]
      rcases (hlex.each k ops[k] (by simpa using hok)).2.2 with ⟨_, _, _, h3⟩ | ⟨_, _, h3⟩ | ⟨_, _, h3⟩ | ⟨_, _, h3⟩ | ⟨_, _, _, _, _, _, h3, h4⟩
      · rcases h3 with h3 | ⟨_, h3, _⟩
        · exact .inr (by rw [h3])
        · rw [Nat.zero_add] at h3
          exact keepsH_at h3 hj
      · exact .inr (by rw [h3])
      · exact .inr (by rw [h3])
      · exact .inr (by rw [h3])
      · rw [Nat.zero_add] at h3
        exact keepsH_at h3 hj
    have hinv : ∀ k, k ≤ ops.size → J (bx k) := by
      intro k
      induction k with
      | zero => intro _; rw [e2]; exact hJ
      | succ k ih =>
        intro hk
        have ih := ih (by omega)
        have hok : ops[k]? = some ops[k] := by simp [show k < ops.size by omega]
        rcases (hlex.each k ops[k] (by simpa using hok)).2.2 with ⟨_, _, _, h3⟩ | ⟨_, _, h3⟩ | ⟨_, _, h3⟩ | ⟨_, _, h3⟩ | ⟨_, _, _, _, _, _, h3, h4⟩
        · rcases h3 with h3 | ⟨_, _, h3⟩
          · rw [h3]; exact ih
          · exact h3
        · rw [h3]; exact ih
        · rw [h3]; exact ih
        · rw [h3]; exact ih
        · exact h4
    have hinvS : ∀ (S : Nat → Bool) k, k ≤ ops.size → J (bxS bar S bx k) := by
      intro S k
      induction k with
      | zero => intro _; exact hinv 0 (Nat.zero_le _)
      | succ k ih =>
        intro hk
        simp only [bxS]
        split
        · exact hinv (k + 1) hk
        · exact ih (by omega)
    exact ⟨hfs, hbx, hkeep, hinvS⟩
  -- what an operation that may come up finds
  have found : ∀ (S : Nat → Bool) (i : Nat) (o : Oper), Closed ops S → ops[i]? = some o → S i = false → (∀ e ∈ o.after, Region.binds .any e = true → S e.on = true) →
      ∀ j, j < ops.size → i ≠ j → orders (befs ops.toList []) i j = true → (S j = true ↔ j < i) := by
    intro S i o hc ho hSi hd j hj hij hor
    unfold orders at hor
    have hoj : ops[j]? = some ops[j] := by simp [hj]
    rcases Nat.lt_or_ge j i with hji | hji
    · rw [Nat.max_eq_left (by omega), Nat.min_eq_right (by omega)] at hor
      exact ⟨fun _ => hji, fun _ => anc_in hc hlt i o j ho hor hd⟩
    · rw [Nat.max_eq_right (by omega), Nat.min_eq_left (by omega)] at hor
      refine ⟨fun hSj => ?_, fun h => by omega⟩
      have := anc_in hc hlt j _ i hoj hor (hc j _ hoj hSj)
      rw [hSi] at this; cases this
  -- runs come to the same as long as the one operation has not come up
  have agree : ∀ val fs bx val' fs' bx', Fam val fs bx → Fam val' fs' bx' → ∀ (S : Nat → Bool), Closed ops S → S k0 = false → (∀ i, ops.size ≤ i → S i = false) →
      frS ops S val (fs 0) ops.size = frS ops S val' (fs' 0) ops.size ∧ bxS bar S bx ops.size = bxS bar S bx' ops.size := by
    intro val fs bx val' fs' bx' hm1 hm2 S hc hk0 hSm
    obtain ⟨e1, e2, _, hlex⟩ := hF.lex val fs bx hm1
    obtain ⟨e1', e2', _, hlex'⟩ := hF.lex val' fs' bx' hm2
    obtain ⟨hfs, hbx, _, hinvS⟩ := facts val fs bx hm1
    obtain ⟨hfs', hbx', _, _⟩ := facts val' fs' bx' hm2
    have hpre := hF.pre val fs bx val' fs' bx' hm1 hm2
    -- no operation of the set waits for the one
    have hno : ∀ i o, ops[i]? = some o → S i = true → k0 < i → orders (befs ops.toList []) i k0 = false := by
      intro i o ho hi hk
      cases hor : orders (befs ops.toList []) i k0 with
      | false => rfl
      | true =>
        unfold orders at hor
        rw [Nat.max_eq_left (by omega), Nat.min_eq_right (by omega)] at hor
        have := anc_in hc hlt i o k0 ho hor (hc i o ho hi)
        rw [hk0] at this; cases this
    have hval : ∀ i, S i = true → val i = val' i := by
      intro i
      induction i using Nat.strongRecOn with
      | _ i ih =>
        intro hi
        have him : i < ops.size := by
          rcases Nat.lt_or_ge i ops.size with h | h
          · exact h
          · rw [hSm i h] at hi; cases hi
        rcases Nat.lt_trichotomy i k0 with hik | rfl | hik
        · exact (hpre i).1 hik
        · rw [hk0] at hi; cases hi
        · have ho : ops[i]? = some ops[i] := by simp [him]
          generalize ops[i] = o at ho
          have hnor := hno i o ho hi hik
          -- the slots that it names
          have hslot : ∀ t, t ∈ namesOf ops.toList o → fs i t = fs' i t := by
            intro t ht
            have : ∀ m, m ≤ i → fs m t = fs' m t := by
              intro m
              induction m with
              | zero => intro _; rw [e1, e1']
              | succ m ihm =>
                intro hm'
                have ihm := ihm (by omega)
                rw [hfs m (by omega), hfs' m (by omega)]
                by_cases hd : dstAt ops m = some t
                · have hom : ops[m]? = some ops[m] := by simp [show m < ops.size by omega]
                  have hor := hord i m o ops[m] t ho hom (by omega) (by simpa [dstAt, hom] using hd) ht
                  unfold orders at hor
                  rw [Nat.max_eq_left (by omega), Nat.min_eq_right (by omega)] at hor
                  have hSm' := anc_in hc hlt i o m ho hor (hc i o ho hi)
                  rw [upd_same hd, upd_same hd, ih m (by omega) hSm']
                · rw [upd_other hd, upd_other hd, ihm]
            exact this i (Nat.le_refl _)
          have hops : ∀ x ∈ o.op.operands, opv (fs i) x = opv (fs' i) x := fun x hx =>
            opv_eq_of fun t ht => hslot t (by
              subst ht
              simp only [namesOf, List.mem_append, List.mem_filterMap]
              exact .inl (.inr ⟨.tmp t, by simpa using hx, rfl⟩))
          have hwant : wantC ops (fs i) o = wantC ops (fs' i) o := by
            unfold wantC
            cases hg : o.guard with
            | none => rfl
            | some g =>
              obtain ⟨j, want⟩ := g
              dsimp only
              cases hdj : (ops[j]?).bind (·.dst) with
              | none => rfl
              | some d =>
                dsimp only
                rw [hslot d (by
                  simp only [namesOf, hg, List.mem_append]
                  exact .inr (by simp [hdj]))]
          have hnc : ∀ f args ts, still P o.op = true ∨ isLoad o.op = true → o.op ≠ .call { callee := .value f, args, argTypes := ts } := by
            intro f args ts h ho'
            rw [ho'] at h
            rcases h with h | h
            · simp [still] at h
            · simp [isLoad] at h
          obtain ⟨_, _, g3⟩ := hlex.each i o (by simpa using ho)
          obtain ⟨_, _, g3'⟩ := hlex'.each i o (by simpa using ho)
          rw [Nat.zero_add, Nat.zero_add] at g3 g3'
          have hkb : bar k0 = true ∨ k0 = ops.size ∨ ops.size < k0 := by
            rcases Nat.lt_trichotomy k0 ops.size with h | h | h
            · exact .inl (hone h)
            · exact .inr (.inl h)
            · exact .inr (.inr h)
          have hkind : hs.contains i = true ∨ still P o.op = true := by
            rcases hkb with hkb | h | h
            · cases hx : still P o.op with
              | true => exact .inr rfl
              | false =>
                cases hy : hs.contains i with
                | true => exact .inl rfl
                | false =>
                  have := hbar i k0 o ho hx hy hkb (by omega)
                  rw [hnor] at this; cases this
            · omega
            · omega
          have hload : hs.contains i = true → isLoad o.op = true := fun h => hF.rest i o (List.contains_iff_mem.1 h) (by omega) ho
          have madeNo : ∀ {fr : Fr} {c : CV} {x : Box}, hs.contains i = true → Made P o fr c x → False := by
            intro fr c x hcon hmd
            have h1 := hload hcon
            have h2 := hmd.2.1
            revert h1 h2
            cases hop : o.op <;> intro h1 <;> simp [isLoad] at h1
            all_goals
              unfold ev
              rw [hop]
              dsimp only
              intro h2
              repeat' (first | (cases h2; done) | (simp at h2; done) | split at h2 | (rw [Option.bind_eq_some_iff] at h2; obtain ⟨_, _, h2⟩ := h2))
          rcases g3 with ⟨k1, kn, k2, k3⟩ | ⟨k1, ⟨jh, cm, xm, m1, m2, m3, m4⟩, k3⟩ | ⟨k1, ⟨hcon, m1⟩, k3⟩ | ⟨k1, k2, k3⟩ | ⟨_, _, _, hik0, _⟩
          · have hst : still P o.op = true := by
              rcases hkind with h | h
              · rw [kn] at h; cases h
              · exact h
            rcases g3' with ⟨k1', kn', k2', k3'⟩ | ⟨k1', ⟨jh, cm, xm, m1, m2, m3, m4⟩, k3'⟩ | ⟨k1', ⟨hcon, m1⟩, k3'⟩ | ⟨k1', k2', k3'⟩ | ⟨_, _, _, hik0, _⟩
            · have h1 := StepC_ev_of (fun f args ts => hnc f args ts (.inl hst)) ((StepC_congr hops).1 k2)
              have h2 := StepC_ev_of (fun f args ts => hnc f args ts (.inl hst)) ((StepC_still hst k2').2 (bx i))
              rw [h1] at h2
              simp at h2; exact h2.1
            · have : hs.contains i = true := List.contains_iff_mem.2 (List.mem_of_getElem? m1)
              rw [kn] at this; cases this
            · rw [kn] at hcon; cases hcon
            · rw [hwant, k1'] at k1; cases k1
            · omega
          · have hcon : hs.contains i = true := List.contains_iff_mem.2 (List.mem_of_getElem? m1)
            exact (madeNo hcon m2).elim
          · rcases g3' with ⟨k1', kn', k2', k3'⟩ | ⟨k1', ⟨jh, cm, xm, m1', m2, m3, m4⟩, k3'⟩ | ⟨k1', ⟨_, m1'⟩, k3'⟩ | ⟨k1', k2', k3'⟩ | ⟨_, _, _, hik0, _⟩
            · rw [hcon] at kn'; cases kn'
            · exact (madeNo hcon m2).elim
            · have h1 := StepC_ev_of (fun f args ts => hnc f args ts (.inr (hload hcon))) ((StepC_congr hops).1 (m1 B hJ))
              have h2 := StepC_ev_of (fun f args ts => hnc f args ts (.inr (hload hcon))) (m1' B hJ)
              rw [h1] at h2
              simp at h2; exact h2
            · rw [hwant, k1'] at k1; cases k1
            · omega
          · rcases g3' with ⟨k1', kn', k2', k3'⟩ | ⟨k1', ⟨jh, cm, xm, m1', m2, m3, m4⟩, k3'⟩ | ⟨k1', ⟨_, m1'⟩, k3'⟩ | ⟨k1', k2', k3'⟩ | ⟨_, _, _, hik0, _⟩
            · rw [hwant, k1'] at k1; cases k1
            · rw [hwant, k1'] at k1; cases k1
            · rw [hwant, k1'] at k1; cases k1
            · rw [k2, k2']
            · omega
          · omega
    constructor
    · have : ∀ k, frS ops S val (fs 0) k = frS ops S val' (fs' 0) k := by
        intro k
        induction k with
        | zero => simp only [frS]; rw [e1, e1']
        | succ k ih =>
          simp only [frS]
          cases hk : S k with
          | false => simp [ih]
          | true => simp [ih, hval k hk]
      exact this _
    · have : ∀ k, k ≤ ops.size → bxS bar S bx k = bxS bar S bx' k := by
        intro k
        induction k with
        | zero => intro _; simp only [bxS]; rw [e2, e2']
        | succ k ih =>
          intro hkm
          simp only [bxS]
          have ih := ih (by omega)
          cases hk : S k && bar k with
          | false => simp [ih]
          | true =>
            rw [Bool.and_eq_true] at hk
            simp only [if_true]
            have hkk : k < k0 := by
              rcases Nat.lt_trichotomy k k0 with h | h | h
              · exact h
              · subst h; rw [hk0] at hk; cases hk.1
              · exfalso
                have hok' : ops[k]? = some ops[k] := by simp [show k < ops.size by omega]
                have hok0 : ops[k0]? = some ops[k0] := by simp [show k0 < ops.size by omega]
                have hnor := hno k _ hok' hk.1 h
                have := hbar k0 k _ hok0 ((hbarN k0 (hone (by omega))).2 _ hok0) ((hbarN k0 (hone (by omega))).1) hk.2 (by omega)
                unfold orders at this hnor
                rw [Nat.max_comm, Nat.min_comm] at this
                rw [this] at hnor; cases hnor
            exact (hpre (k + 1)).2 hkk
      exact this _ (Nat.le_refl _)
  refine wp_region_any hm ?_
  have key : ∀ (fuel : Nat) (listed : Array Bool) (a : Act) (w : World), listed.size = ops.size → Closed ops (fun i => listed.getD i false) → (List.range ops.size).countP (fun i => !listed.getD i false) ≤ fuel →
      (∃ val fs bx, Fam val fs bx ∧ ∃ I μ, St N n I0 μ0 w0 (frS ops (fun i => listed.getD i false) val (fs 0) ops.size) (bxS bar (fun i => listed.getD i false) bx ops.size) a I μ w ∧ ∀ j k, hs[j]? = some k → listed.getD k false = false → μ[base + j]? = some []) → wpAny P .any ops Q' fuel listed a w := by
    intro fuel
    induction fuel with
    | zero =>
      intro listed a w hsz hc hcnt ⟨val, fs, bx, hmem, I, μ, hst, hgn⟩
      obtain ⟨e1, e2, hq, hlex⟩ := hF.lex val fs bx hmem
      rw [hl] at hq
      obtain ⟨hfs, hbx, hkeep, hinvS⟩ := facts val fs bx hmem
      have hall : ∀ i, i < ops.size → listed.getD i false = true := by
        intro i hi
        have : (List.range ops.size).countP (fun i => !listed.getD i false) = 0 := by omega
        rw [List.countP_eq_zero] at this
        simpa using this i (List.mem_range.2 hi)
      refine ⟨?_, ?_⟩
      · cases hr : Region.ready .any ops listed with
        | nil => rfl
        | cons j js =>
          exfalso
          obtain ⟨h1, oj, h2, _⟩ := mem_ready.1 (show j ∈ Region.ready .any ops listed by rw [hr]; simp)
          have hj := (Array.getElem?_eq_some_iff.1 h2).1
          have := hall j hj
          simp [Array.getD_eq_getD_getElem?, hsz, hj] at h1 this
          rw [h1] at this; cases this
      · have f1 : frS ops (fun i => listed.getD i false) val (fs 0) ops.size = fs ops.size := by
          funext t
          rw [frS_at hfs (Nat.le_refl _) (fun j hj _ => by simp [hall j hj, hj]) ops.size (Nat.le_refl _), Nat.min_self]
        have f2 : bxS bar (fun i => listed.getD i false) bx ops.size = bx ops.size := by
          rw [bxS_at hbx (Nat.le_refl _) (fun j hj _ => by simp [hall j hj, hj]) ops.size (Nat.le_refl _), Nat.min_self]
        rw [f1, f2] at hst
        exact hQ _ _ _ _ _ _ hq hst
    | succ fuel ih =>
      intro listed a w hsz hc hcnt ⟨val, fs, bx, hmem, I, μ, hst, hgn⟩
      obtain ⟨e1, e2, hq, hlex⟩ := hF.lex val fs bx hmem
      rw [hl] at hq
      obtain ⟨hfs, hbx, hkeep, hinvS⟩ := facts val fs bx hmem
      refine ⟨fun hr => ?_, fun i hi => ?_⟩
      · have hall : ∀ i, i < ops.size → listed.getD i false = true := by
          intro i
          induction i using Nat.strongRecOn with
          | _ i ihi =>
            intro hi
            cases hx : listed.getD i false with
            | true => rfl
            | false =>
              exfalso
              have hoi : ops[i]? = some ops[i] := by simp [hi]
              have : i ∈ Region.ready .any ops listed := mem_ready.2 ⟨by
                simp [Array.getD_eq_getD_getElem?, hsz, hi] at hx ⊢; exact hx, ops[i], hoi, fun e he hb => ihi e.on (hlt i _ hoi e he hb) (by have := hlt i _ hoi e he hb; omega)⟩
              rw [hr] at this
              cases this
        have f1 : frS ops (fun i => listed.getD i false) val (fs 0) ops.size = fs ops.size := by
          funext t
          rw [frS_at hfs (Nat.le_refl _) (fun j hj _ => by simp [hall j hj, hj]) ops.size (Nat.le_refl _), Nat.min_self]
        have f2 : bxS bar (fun i => listed.getD i false) bx ops.size = bx ops.size := by
          rw [bxS_at hbx (Nat.le_refl _) (fun j hj _ => by simp [hall j hj, hj]) ops.size (Nat.le_refl _), Nat.min_self]
        rw [f1, f2] at hst
        exact hQ _ _ _ _ _ _ hq hst
      · obtain ⟨h1, o, ho, hd⟩ := mem_ready.1 hi
        have him := (Array.getElem?_eq_some_iff.1 ho).1
        have hSi : listed.getD i false = false := by
          simp [Array.getD_eq_getD_getElem?, hsz, him] at h1 ⊢; exact h1
        have hfound := found (fun i => listed.getD i false) i o hc ho hSi hd
        obtain ⟨g1, g2, g3⟩ := hlex.each i o (by simpa using ho)
        have hdo : dstAt ops i = o.dst := by simp [dstAt, ho]
        have hd' : ∀ t, o.dst = some t → t < n := fun t ht => by simpa [dstOk, ht] using g1
        -- the slots that it names
        have hslot : ∀ t, t ∈ namesOf ops.toList o → frS ops (fun i => listed.getD i false) val (fs 0) ops.size t = fs i t := by
          intro t ht
          have := frS_at (S := fun i => listed.getD i false) (val := val) (t := t) hfs (Nat.le_of_lt him) (fun j hj hdj => by
            by_cases hij : i = j
            · subst hij; simp [hSi]
            · have hoj : ops[j]? = some ops[j] := by simp [hj]
              exact hfound j hj hij (hord i j o ops[j] t ho hoj hij (by simpa [dstAt, hoj] using hdj) ht)) ops.size (Nat.le_refl _)
          rw [this, Nat.min_eq_right (Nat.le_of_lt him)]
        have hbari : still P o.op = true → bar i = false := by
          intro hst
          cases hb : bar i with
          | false => rfl
          | true => have := (hbarN i hb).2 o ho; rw [hst] at this; cases this
        have hbarh : hs.contains i = true → bar i = false := by
          intro hst
          cases hb : bar i with
          | false => rfl
          | true => have := (hbarN i hb).1; rw [hst] at this; cases this
        have hbox : still P o.op = false → hs.contains i = false → bxS bar (fun i => listed.getD i false) bx ops.size = bx i := by
          intro hst hnh
          have := bxS_at (bar := bar) (S := fun i => listed.getD i false) hbx (Nat.le_of_lt him) (fun j hj hbj => by
            by_cases hij : i = j
            · subst hij; simp [hSi]
            · exact hfound j hj hij (hbar i j o ho hst hnh hbj hij)) ops.size (Nat.le_refl _)
          rw [this, Nat.min_eq_right (Nat.le_of_lt him)]
        have hops : ∀ x ∈ o.op.operands, opv (frS ops (fun i => listed.getD i false) val (fs 0) ops.size) x = opv (fs i) x := fun x hx =>
          opv_eq_of fun t ht => hslot t (by
            subst ht
            simp only [namesOf, List.mem_append, List.mem_filterMap]
            exact .inl (.inr ⟨.tmp t, by simpa using hx, rfl⟩))
        have hwant : wantC ops (frS ops (fun i => listed.getD i false) val (fs 0) ops.size) o = wantC ops (fs i) o := by
          unfold wantC
          cases hg : o.guard with
          | none => rfl
          | some g =>
            obtain ⟨j, want⟩ := g
            dsimp only
            cases hdj : (ops[j]?).bind (·.dst) with
            | none => rfl
            | some d =>
              dsimp only
              rw [hslot d (by
                simp only [namesOf, hg, List.mem_append]
                exact .inr (by simp [hdj]))]
        -- behind it
        have next : ∀ (val : Nat → CV) (fs : Nat → Fr) (bx : Nat → List Box), Fam val fs bx → ∀ (v : Value) (I' : Nat → Nat → Prop) (μ' : List (List Place)) (w' : World), St N n I0 μ0 w0 (upd (frS ops (fun j => listed.getD j false) val (fs 0) ops.size) o.dst (val i)) (if still P o.op || hs.contains i then bxS bar (fun i => listed.getD i false) bx ops.size else bx (i + 1)) (a.put o.dst v) I' μ' w' →
            (∀ j k, hs[j]? = some k → listed.getD k false = false → k ≠ i → μ'[base + j]? = some []) → wpAny P .any ops Q' fuel (listed.setIfInBounds i true) (a.put o.dst v) w' := by
          intro val fs bx hmem v I' μ' w' hstep hgn'
          obtain ⟨hfs, hbx, _, _⟩ := facts val fs bx hmem
          have hS' : ∀ j, (listed.setIfInBounds i true).getD j false = (listed.getD j false || j == i) := by
            intro j
            simp only [Array.getD_eq_getD_getElem?, Array.getElem?_setIfInBounds]
            by_cases hij : i = j
            · subst hij; simp [hsz, him]
            · have : (j == i) = false := by simp; omega
              simp [hij, this]
          refine ih _ _ _ (by simp [hsz]) (fun j p hp hj e he hb => ?_) ?_ ⟨val, fs, bx, hmem, I', μ', ?_, fun j k hj hk => ?_⟩
          rotate_right
          · rw [hS'] at hk
            simp only [Bool.or_eq_false_iff, beq_eq_false_iff_ne] at hk
            exact hgn' j k hj hk.1 hk.2
          · have hj : (listed.setIfInBounds i true).getD j false = true := hj
            show (listed.setIfInBounds i true).getD e.on false = true
            rw [hS'] at hj ⊢
            simp only [Bool.or_eq_true, beq_iff_eq] at hj ⊢
            rcases hj with hj | rfl
            · exact .inl (hc j p hp hj e he hb)
            · rw [ho] at hp
              simp at hp; subst hp
              exact .inl (hd e he hb)
          · have := countP_lt (l := List.range ops.size) (p := fun j => !listed.getD j false) (q := fun j => !(listed.setIfInBounds i true).getD j false) (fun x hx => by
                rw [hS'] at hx
                simp only [Bool.not_or, Bool.and_eq_true] at hx
                exact hx.1) (List.mem_range.2 him) (by simp [hSi]) (by rw [hS']; simp)
            omega
          · have f1 : frS ops (fun j => (listed.setIfInBounds i true).getD j false) val (fs 0) ops.size = upd (frS ops (fun j => listed.getD j false) val (fs 0) ops.size) (dstAt ops i) (val i) :=
              frS_put him hS' (fun j t hij hj hdi hdj => by
                have hoj : ops[j]? = some ops[j] := by simp [hj]
                have := hfound j hj (by omega) (hord i j o ops[j] t ho hoj (by omega) (by simpa [dstAt, hoj] using hdj) (by
                  rw [hdo] at hdi
                  simp only [namesOf, List.mem_append]
                  exact .inl (.inl (by simp [hdi]))))
                cases hx : listed.getD j false with
                | false => rfl
                | true => have := this.1 hx; omega)
            have f2 : bxS bar (fun j => (listed.setIfInBounds i true).getD j false) bx ops.size = if still P o.op || hs.contains i then bxS bar (fun i => listed.getD i false) bx ops.size else bx (i + 1) := by
              cases hst' : still P o.op with
              | true => rw [if_pos (by simp)]; exact bxS_skip (hbari hst') hS' _
              | false =>
              cases hnh : hs.contains i with
              | true => rw [if_pos (by simp)]; exact bxS_skip (hbarh hnh) hS' _
              | false =>
              rw [if_neg (by simp)]
              have := bxS_at (bar := bar) (S := fun j => (listed.setIfInBounds i true).getD j false) (i := i + 1) hbx (by omega) (fun j hj hbj => by
                rw [hS']
                by_cases hij : i = j
                · subst hij; simp
                · have := hfound j hj hij (hbar i j o ho hst' hnh hbj hij)
                  have h2 : (j == i) = false := by simp; omega
                  rw [h2, Bool.or_false]
                  exact ⟨fun hx => by have := this.1 hx; omega, fun hx => this.2 (by omega)⟩) ops.size (Nat.le_refl _)
              rw [this, Nat.min_eq_right (by omega)]
            rw [f1, f2, hdo]
            exact hstep
        unfold wpOp
        rw [ho]
        dsimp only
        have gn2 : ∀ {c v B' I' μ' w'}, Step N I μ w c v B' I' μ' w' → ∀ j k, hs[j]? = some k → listed.getD k false = false → k ≠ i → μ'[base + j]? = some [] :=
          fun hstep j k hj hk _ => hstep.ext.gone _ (hgn j k hj hk)
        rcases g3 with ⟨k1, kn, k2, k3⟩ | ⟨k1, ⟨jh, cm, xm, m1, m2, m3, m4⟩, k3⟩ | ⟨k1, ⟨hcon, m1⟩, k3⟩ | ⟨k1, k2, k3⟩ | ⟨k1, kn, k2, hik, hst', _⟩
        · rw [Nat.zero_add] at kn
          have hw := want_sound (ops := ops) hst.frame (hwant.trans k1)
          rw [hw, if_pos rfl]
          cases hst' : still P o.op with
          | true =>
            refine .inl (step_sound hst ((StepC_congr hops).2 ((StepC_still hst' k2).2 _)) fun c v B' I' μ' w' hK hstep => ?_)
            obtain ⟨rfl, rfl⟩ := hK
            exact next val fs bx hmem v I' μ' w' (by rw [hst', Bool.true_or, if_pos rfl]; exact hst.put hstep hd') (gn2 hstep)
          | false =>
            have hst2 := hst
            rw [hbox hst' kn] at hst2
            refine .inl (step_sound hst2 ((StepC_congr hops).2 k2) fun c v B' I' μ' w' hK hstep => ?_)
            obtain ⟨rfl, rfl⟩ := hK
            exact next val fs bx hmem v I' μ' w' (by rw [hst', kn, Bool.false_or, if_neg (by simp)]; exact hst2.put hstep hd') (gn2 hstep)
        · rw [Nat.zero_add] at m1
          have hcon : hs.contains i = true := by
            rw [List.contains_iff_mem]; exact List.mem_of_getElem? m1
          have hw := want_sound (ops := ops) hst.frame (hwant.trans k1)
          rw [hw, if_pos rfl]
          have hlook : (bxS bar (fun i => listed.getD i false) bx ops.size)[base + jh]? = some xm := by
            have := bxS_look (bar := bar) (S := fun i => listed.getD i false) (bx := bx) (m := ops.size) (i := i) (β := base + jh) hbx (fun k hk hbk => by
              rcases hkeep jh i k m1 hk hbk with h | h
              · by_cases hik : i = k
                · subst hik; rw [hbarh hcon] at hbk; cases hbk
                · exact .inl (hfound k hk hik h)
              · exact .inr h) (fun s k hsk hk hbs hbk hSk => by
                have hos : ops[s]? = some ops[s] := by simp [show s < ops.size by omega]
                have hok : ops[k]? = some ops[k] := by simp [hk]
                have hor := hbar s k _ hos ((hbarN s hbs).2 _ hos) (hbarN s hbs).1 hbk (by omega)
                unfold orders at hor
                rw [Nat.max_eq_right (by omega), Nat.min_eq_left (by omega)] at hor
                exact anc_in hc hlt k _ s hok hor (hc k _ hok hSk)) ops.size (Nat.le_refl _)
            rw [this, Nat.min_eq_right (Nat.le_of_lt him)]
            exact m3
          have hmade : Made P o (frS ops (fun i => listed.getD i false) val (fs 0) ops.size) cm xm := by
            obtain ⟨q1, q2, q3, q4⟩ := m2
            refine ⟨?_, by rw [ev_congr hops]; exact q2, q3, q4⟩
            exact List.all_eq_true.2 fun x hx => by rw [flatO_congr (hops x (by simpa using hx))]; exact List.all_eq_true.1 q1 x hx
          refine .inl (made_sound hst hmade hlook (hgn jh i m1 hSi) (by omega) m4 hd' fun v I' w' ps hst3 => ?_)
          refine next val fs bx hmem v I' _ w' (by rw [hcon, Bool.or_true, if_pos rfl]; exact hst3) (fun j k hj hk hki => ?_)
          have hne : base + jh ≠ base + j := fun h => hki (by
            have : jh = j := by omega
            subst this; rw [m1] at hj; simpa using hj.symm)
          rw [List.getElem?_set, if_neg hne]
          exact hgn j k hj hk
        · rw [Nat.zero_add] at hcon
          have hw := want_sound (ops := ops) hst.frame (hwant.trans k1)
          rw [hw, if_pos rfl]
          refine .inl (step_sound hst ((StepC_congr hops).2 (m1 _ (hinvS _ _ (Nat.le_refl _)))) fun c v B' I' μ' w' hK hstep => ?_)
          obtain ⟨rfl, rfl⟩ := hK
          exact next val fs bx hmem v I' μ' w' (by rw [hcon, Bool.or_true, if_pos rfl]; exact hst.put hstep hd') (gn2 hstep)
        · have hw := want_sound (ops := ops) hst.frame (hwant.trans k1)
          rw [hw, if_neg (by simp)]
          have hz : ∀ B', BRel N I μ B' w → Step N I μ w (val i) undef B' I μ w := fun B' hB => by rw [k2]; exact ⟨.tup (.nil _) (.nil _), hB, .refl _ _ _, Below.refl _ _⟩
          cases hx : (still P o.op || hs.contains i) with
          | true => exact next val fs bx hmem undef I μ w (by rw [hx, if_pos rfl]; exact hst.put (hz _ hst.box) hd') (fun j k hj hk _ => hgn j k hj hk)
          | false =>
            rw [Bool.or_eq_false_iff] at hx
            have hst2 := hst
            rw [hbox hx.1 hx.2] at hst2
            exact next val fs bx hmem undef I μ w (by rw [hx.1, hx.2, Bool.false_or, if_neg (by simp), k3]; exact hst2.put (hz _ hst2.box) hd') (fun j k hj hk _ => hgn j k hj hk)
        · rw [Nat.zero_add] at kn
          rw [Nat.zero_add, Nat.zero_add] at hik
          subst hik
          have hw := want_sound (ops := ops) hst.frame (hwant.trans k1)
          rw [hw, if_pos rfl]
          have hst2 := hst
          rw [hbox hst' kn] at hst2
          refine .inl (step_sound hst2 ((StepC_congr hops).2 k2) fun c v B' I' μ' w' hK hstep => ?_)
          obtain ⟨val', fs', bx', hm', rfl, rfl⟩ := hF.all c B' hK
          have hag := (agree val fs bx val' fs' bx' hmem hm' (fun i => listed.getD i false) hc hSi (fun j hj => by simp [Array.getD_eq_getD_getElem?, hsz, hj])).1
          refine next val' fs' bx' hm' v I' μ' w' ?_ (gn2 hstep)
          rw [hst', kn, Bool.false_or, if_neg (by simp), ← hag]
          exact hst2.put hstep hd'
  have hrep : ∀ i, (Array.replicate ops.size false).getD i false = false := by
    intro i
    simp only [Array.getD_eq_getD_getElem?, Array.getElem?_replicate]
    split <;> rfl
  obtain ⟨val, fs, bx, hmem⟩ := hF.any
  obtain ⟨e1, e2, _, _⟩ := hF.lex val fs bx hmem
  refine key ops.size _ a _ (by simp) (fun i o ho hx => by have hx : (Array.replicate ops.size false).getD i false = true := hx; rw [hrep] at hx; cases hx) ?_ ⟨val, fs, bx, hmem, I, μ, ?_, fun j k hj _ => hgone j k hj⟩
  · exact Nat.le_trans List.countP_le_length (by simp)
  · have f0 : ∀ k, frS ops (fun i => (Array.replicate ops.size false).getD i false) val (fs 0) k = fs 0 := by
      intro k
      induction k with
      | zero => rfl
      | succ k ih =>
        simp only [frS]
        rw [if_neg (fun hx => by have hx : (Array.replicate ops.size false).getD k false = true := hx; rw [hrep] at hx; cases hx), ih]
    have f1 : ∀ k, bxS bar (fun i => (Array.replicate ops.size false).getD i false) bx k = bx 0 := by
      intro k
      induction k with
      | zero => rfl
      | succ k ih =>
        simp only [bxS]
        rw [if_neg (fun hx => by have hx : ((Array.replicate ops.size false).getD k false && bar k) = true := hx; rw [hrep] at hx; cases hx), ih]
    rw [f0, f1, e1, e2]
    exact hs0.keep (Nat.le_refl _) (fun _ _ => rfl) ⟨rfl, rfl, rfl⟩

theorem WPd_sound {id : Nat} {Q : Fr → List Box → Prop} {Q' : Exit → Act → World → Prop} (hm : P.follows .mixedOrders = true) (hok : drawOk ops.toList (befs ops.toList []) = true) (h : WPd P n ops (befs ops.toList []) base hs J Q 0 ops.toList fr B) (hJ : J B)
    (hs0 : St N n I0 μ0 w0 fr B a I μ w) (hbase : μ0.length ≤ base) (hgone : ∀ j k, hs[j]? = some k → μ[base + j]? = some []) (hQ : ∀ fr' B' a' I' μ' w', Q fr' B' → St N n I0 μ0 w0 fr' B' a' I' μ' w' → Q' .normal a' w') : (Code.region id ops true).wp P Q' a w := by
  obtain ⟨Fam, hF⟩ := fam_of_WPd h (by simp)
  exact fam_sound hm hok hF hJ hs0 hbase hgone hQ
theorem WPq_sound {id : Nat} {Q : Fr → List Box → Prop} {Q' : Exit → Act → World → Prop} (hm : P.follows .mixedOrders = true) (hok : drawOk ops.toList (befs ops.toList []) = true) (h : WPq P n ops (befs ops.toList []) base hs J Q 0 ops.toList fr B) (hJ : J B)
    (hs0 : St N n I0 μ0 w0 fr B a I μ w) (hbase : μ0.length ≤ base) (hgone : ∀ j k, hs[j]? = some k → μ[base + j]? = some []) (hQ : ∀ fr' B' a' I' μ' w', Q fr' B' → St N n I0 μ0 w0 fr' B' a' I' μ' w' → Q' .normal a' w') : (Code.region id ops true).wp P Q' a w := by
  obtain ⟨k0, Q0, Fam, hF⟩ := fam_of_WPq _ _ _ _ h
  exact fam_sound hm hok hF hJ hs0 hbase hgone hQ

end
end Go.Sy
