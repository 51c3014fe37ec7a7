/-
  Loops that are walked round by round, and what more is asked of code that is shown once.
-/
import Derived.Test.YtjlfblcoghiijaaSyS
namespace Go.Sy
set_option linter.all false
open Go.RowKit (Below)

section
variable {P : Program} {n : Nat}

theorem StepC_mono {o : Oper} {fr : Fr} {B : List Box} {K K' : CV → List Box → Prop} (hk : ∀ c B', K c B' → K' c B') (h : StepC P o fr B K) : StepC P o fr B K' := by
  unfold StepC at h ⊢
  revert h
  split
  · split
    · rintro (h | h)
      · exact .inl (h.mono hk)
      · exact .inr (h.mono hk)
    · intro h; exact h
  · rintro (h | h)
    · left
      revert h
      split
      · intro h; exact hk _ _ h
      · intro h; exact h
    · right
      unfold StepG at h ⊢
      revert h
      split
      · split
        · rintro ⟨e, esz, zs, m, news, n, olds, a1, a2, a3, a4, a5, a6, a7, a8, a9, a10, a11, a12, a13⟩
          exact ⟨e, esz, zs, m, news, n, olds, a1, a2, a3, a4, a5, a6, a7, a8, a9, a10, a11, a12, fun cap hc => hk _ _ (a13 cap hc)⟩
        · intro h; exact h
      · rintro ⟨a1, a2, a3, a4, a5, a6⟩; exact ⟨a1, a2, a3, a4, hk _ _ a5, hk _ _ a6⟩
      · intro h; exact h
theorem WPo_mono {ops : Array Oper} {Q Q' : Fr → List Box → Prop} (hq : ∀ fr B, Q fr B → Q' fr B) : ∀ (l : List Oper) (fr : Fr) (B : List Box), WPo P n ops Q l fr B → WPo P n ops Q' l fr B
  | [], fr, B, h => hq _ _ h
  | o :: l, fr, B, h => by
    unfold WPo at h ⊢
    refine ⟨h.1, ?_⟩
    have h2 := h.2
    split at h2
    · exact ⟨fun ht => StepC_mono (fun c B' hc => WPo_mono hq l _ _ hc) (h2.1 ht), fun ht => WPo_mono hq l _ _ (h2.2 ht)⟩
    · exact h2
theorem WPd_mono {ops : Array Oper} {bs hs : List Nat} {base : Nat} {J : List Box → Prop} {Q Q' : Fr → List Box → Prop} (hq : ∀ fr B, Q fr B → Q' fr B) : ∀ (l : List Oper) (k : Nat) (fr : Fr) (B : List Box), WPd P n ops bs base hs J Q k l fr B → WPd P n ops bs base hs J Q' k l fr B
  | [], k, fr, B, h => hq _ _ h
  | o :: l, k, fr, B, h => by
    unfold WPd at h ⊢
    refine ⟨h.1, ?_⟩
    have h2 := h.2
    split at h2
    · refine ⟨fun ht => ?_, fun ht => WPd_mono hq l _ _ _ (h2.2 ht)⟩
      have h3 := h2.1 ht
      split
      · rename_i hc
        rw [if_pos hc] at h3
        rcases h3 with ⟨j, c, x, c', a1, a2, a3, a4, a5⟩ | ⟨c, a1, a2⟩
        · exact .inl ⟨j, c, x, c', a1, a2, a3, a4, WPd_mono hq l _ _ _ a5⟩
        · exact .inr ⟨c, a1, WPd_mono hq l _ _ _ a2⟩
      · rename_i hc
        rw [if_neg hc] at h3
        obtain ⟨c, B', h3, h4, h5⟩ := h3
        exact ⟨c, B', h3, h4, WPd_mono hq l _ _ _ h5⟩
    · exact h2
theorem WPq_mono {ops : Array Oper} {bs hs : List Nat} {base : Nat} {J : List Box → Prop} {Q Q' : Fr → List Box → Prop} (hq : ∀ fr B, Q fr B → Q' fr B) : ∀ (l : List Oper) (k : Nat) (fr : Fr) (B : List Box), WPq P n ops bs base hs J Q k l fr B → WPq P n ops bs base hs J Q' k l fr B
  | [], k, fr, B, h => by unfold WPq at h; exact h.elim
  | o :: l, k, fr, B, h => by
    unfold WPq at h ⊢
    refine ⟨h.1, ?_⟩
    have h2 := h.2
    split at h2
    · refine ⟨fun ht => ?_, fun ht => WPq_mono hq l _ _ _ (h2.2 ht)⟩
      have h3 := h2.1 ht
      split
      · rename_i hc
        rw [if_pos hc] at h3
        rcases h3 with ⟨j, c, x, c', a1, a2, a3, a4, a5⟩ | ⟨c, a1, a2⟩
        · exact .inl ⟨j, c, x, c', a1, a2, a3, a4, WPq_mono hq l _ _ _ a5⟩
        · exact .inr ⟨c, a1, WPq_mono hq l _ _ _ a2⟩
      · rename_i hc
        rw [if_neg hc] at h3
        rcases h3 with ⟨c, B', h3, h4, h5⟩ | ⟨Q0, a1, a2, a3, a4, a5, a6⟩
        · exact .inl ⟨c, B', h3, h4, WPq_mono hq l _ _ _ h5⟩
        · exact .inr ⟨Q0, a1, a2, a3, a4, a5, fun c B' hQ => ⟨(a6 c B' hQ).1, (a6 c B' hQ).2.1, WPd_mono hq l _ _ _ (a6 c B' hQ).2.2⟩⟩
    · exact h2
theorem WPc_mono : ∀ (c : Code) {Q Q' : Exit → Fr → List Box → Prop} (_ : ∀ e fr B, Q e fr B → Q' e fr B) (fr : Fr) (B : List Box), WPc P n c Q fr B → WPc P n c Q' fr B
  | .skip, _, _, hq, _, _, h => hq _ _ _ h
  | .region id ops draw, _, _, hq, fr, B, h => by
    unfold WPc at h ⊢
    split
    · rename_i hd; rw [if_pos hd] at h; obtain ⟨ks, H, J, hl, hJ, h⟩ := h; exact ⟨ks, H, J, hl, hJ, h.imp (WPd_mono (fun _ _ => hq _ _ _) _ _ _ _) (WPq_mono (fun _ _ => hq _ _ _) _ _ _ _)⟩
    · rename_i hd; rw [if_neg hd] at h; exact WPo_mono (fun _ _ => hq _ _ _) _ _ _ h
  | .seq a b, Q, Q', hq, fr, B, h => by
    unfold WPc at h ⊢
    refine WPc_mono a (fun e fr B hh => ?_) _ _ h
    cases e with
    | normal => exact WPc_mono b hq _ _ hh
    | exit id => exact hq _ _ _ hh
    | ret => exact hq _ _ _ hh
    | _ => exact hq _ _ _ hh
  | .cond c a b, Q, Q', hq, fr, B, h => by
    unfold WPc at h ⊢
    revert h
    split
    · intro h; exact ⟨fun x => WPc_mono a hq _ _ (h.1 x), fun x => WPc_mono b hq _ _ (h.2 x)⟩
    · intro h; exact h
  | .block id c, Q, Q', hq, fr, B, h => by
    unfold WPc at h ⊢
    refine WPc_mono c (fun e fr B hh => ?_) _ _ h
    cases e with
    | exit i =>
      simp only [inBlockC] at hh ⊢
      split
      · rename_i hi; rw [if_pos hi] at hh; exact hq _ _ _ hh
      · rename_i hi; rw [if_neg hi] at hh; exact hq _ _ _ hh
    | _ => exact hq _ _ _ hh
  | .loop c, Q, Q', hq, fr, B, h => by
    unfold WPc at h ⊢
    obtain ⟨Inv, m, h0, h1⟩ := h
    refine ⟨Inv, m, h0, fun fr B hi => WPc_mono c (fun e fr' B' hh => ?_) _ _ (h1 fr B hi)⟩
    cases e with
    | normal => exact hh
    | _ => exact hq _ _ _ hh
  | .exit id, _, _, hq, _, _, h => hq _ _ _ h
  | .ret, _, _, hq, _, _, h => hq _ _ _ h
  | .rangeFunc g ps assign body, Q, Q', hq, fr, B, h => by
    unfold WPc at h ⊢
    obtain ⟨gf, first, caps, Pre, Y, h1, h2, h3, h4, h5, h6⟩ := h
    exact ⟨gf, first, caps, Pre, Y, h1, h2, h3, h4, h5, fun l => (h6 l).mono fun _ _ hh => hq _ _ _ hh⟩
  | .scope .., _, _, _, _, _, h => by simp [WPc] at h
  | .goto .., _, _, _, _, _, h => by simp [WPc] at h
/-- k rounds at most, one after the other. -/
def T (P : Program) (n : Nat) (c : Code) (Q : Exit → Fr → List Box → Prop) : Nat → Fr → List Box → Prop
  | 0, _, _ => False
  | k + 1, fr, B => WPc P n c (thenC (T P n c Q k) Q) fr B
theorem w_unroll {c : Code} {Q : Exit → Fr → List Box → Prop} {fr : Fr} {B : List Box} (k : Nat) (h : T P n c Q k fr B) : WPc P n (.loop c) Q fr B := by
  classical
  let m : Fr → List Box → Nat := fun fr B => if h : ∃ k, T P n c Q k fr B then Classical.choose (exists_least h) else 0
  refine ⟨fun fr B => ∃ k, T P n c Q k fr B, m, ⟨k, h⟩, fun fr B hi => ?_⟩
  have hm : m fr B = Classical.choose (exists_least hi) := by simp only [m]; rw [dif_pos hi]
  obtain ⟨g1, g2⟩ := Classical.choose_spec (exists_least hi)
  rw [← hm] at g1
  cases hk : m fr B with
  | zero => rw [hk] at g1; exact g1.elim
  | succ j =>
    rw [hk] at g1
    refine WPc_mono c (fun e fr' B' hh => ?_) fr B g1
    cases e with
    | normal =>
      have hi' : ∃ k, T P n c Q k fr' B' := ⟨j, hh⟩
      refine ⟨hi', ?_⟩
      have hm' : m fr' B' = Classical.choose (exists_least hi') := by simp only [m]; rw [dif_pos hi']
      have := (Classical.choose_spec (exists_least hi')).2 j hh
      omega
    | _ => exact hh
theorem w_round {c : Code} {Q : Exit → Fr → List Box → Prop} {k : Nat} {fr : Fr} {B : List Box} (h : WPc P n c (thenC (T P n c Q k) Q) fr B) : T P n c Q (k + 1) fr B := h
end

/-! Short names for what the walks' simp calls use. -/
section
variable {α β : Type}
theorem yA {a b : List α} : (a ++ b).length = a.length + b.length := List.length_append
theorem yB {f : α → β} {l : List α} : (l.map f).length = l.length := List.length_map _
theorem yC {a : α} {l : List α} : (a :: l).length = l.length + 1 := List.length_cons
theorem yD : ([] : List α).length = 0 := List.length_nil
theorem yE {l : List α} {i : Nat} {a : α} : (l.set i a).length = l.length := List.length_set
theorem yF (l : List UInt8) (k : Nat) : (l.map byteC).take k = (l.take k).map byteC := bytes_take l k
theorem yG (l : List UInt8) (k : Nat) : (l.map byteC).drop k = (l.drop k).map byteC := bytes_drop l k
theorem yH (l l' : List UInt8) : l.map byteC ++ l'.map byteC = (l ++ l').map byteC := bytes_append l l'
theorem xA {p : Prop} [Decidable p] : (decide p = true) = p := decide_eq_true_eq
theorem xB {p : Prop} [Decidable p] : (decide p = false) ↔ ¬p := decide_eq_false_iff_not
theorem xC {b : Bool} : (¬b = true) = (b = false) := Bool.not_eq_true b
theorem xD {b : Bool} : (¬b = false) = (b = true) := Bool.not_eq_false b
theorem xE {a b : Bool} : ((!a) = b) ↔ (a = !b) := Bool.not_eq_eq_eq_not
theorem xF : (!true) = false := Bool.not_true
theorem xG : (!false) = true := Bool.not_false
theorem xH : (false = true) = False := Bool.false_eq_true
theorem xI [BEq α] [LawfulBEq α] {a b : α} : (a == b) = true ↔ a = b := beq_iff_eq
theorem xJ [BEq α] [LawfulBEq α] {a b : α} : (a == b) = false ↔ a ≠ b := beq_eq_false_iff_ne
theorem xK [BEq α] [LawfulBEq α] {a b : α} : (a != b) = true ↔ a ≠ b := bne_iff_ne
theorem xL [BEq α] [LawfulBEq α] {a b : α} : (a != b) = false ↔ a = b := bne_eq_false_iff_eq
theorem xM (a b : Bool) : ((a && b) = true) = (a = true ∧ b = true) := Bool.and_eq_true a b
theorem xN (a b : Bool) : ((a || b) = true) = (a = true ∨ b = true) := Bool.or_eq_true a b
theorem xO {a b : Bool} : (a || b) = false ↔ a = false ∧ b = false := Bool.or_eq_false_iff
theorem xP {a b : α} : (a ≠ b) = ¬a = b := ne_eq a b
theorem xQ : (¬True) = False := not_true_eq_false
theorem xR : (¬False) = True := not_false_eq_true
end
end Go.Sy
