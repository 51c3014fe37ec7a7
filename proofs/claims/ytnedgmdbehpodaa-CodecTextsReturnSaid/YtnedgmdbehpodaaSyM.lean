/-
  Code over canonical frames: what is to be shown of it, by recursion; and that this gives the model's own word on it.
-/
import Derived.Test.YtnedgmdbehpodaaSyL
namespace Go.Sy
set_option linter.all false
open Go.RowKit (Below)

def callable (P : Program) (f : FuncId) : Bool := match P.funcs[f]? with | some fn => fn.body.isSome && fn.name != "runtime.NumGoroutine" | none => false

/-- WHAT A CALL COMES TO: whatever the memory, it returns, and what it hands back and leaves is as Q says. -/
def ACall (P : Program) (f : FuncId) (args : List CV) (B : List Box) (Q : CV → List Box → Prop) : Prop :=
  callable P f = true ∧ ∀ (N : Nat) (I : Nat → Nat → Prop) (μ : List (List Place)) (w : World) (vs : List Value), BRel N I μ B w → R I μ w false args vs →
    Calls P f vs.toArray w fun e w' => ∃ c v B' I' μ', e = .returned v ∧ Q c B' ∧ Step N I μ w c v B' I' μ' w'

theorem ACall.mono {P : Program} {f : FuncId} {args : List CV} {B : List Box} {Q Q' : CV → List Box → Prop} (h : ACall P f args B Q) (hq : ∀ c B', Q c B' → Q' c B') : ACall P f args B Q' :=
  ⟨h.1, fun N I μ w vs hB hv => (h.2 N I μ w vs hB hv).mono fun _ _ ⟨c, v, B', I', μ', he, hQ, hs⟩ => ⟨c, v, B', I', μ', he, hq _ _ hQ, hs⟩⟩

/-- Is the operation carried out? 'none': that is not known. -/
def wantC (ops : Array Oper) (fr : Fr) (o : Oper) : Option Bool :=
  match o.guard with
  | none => some true
  | some (j, want) => match (ops[j]?).bind (·.dst) with
    | none => some false
    | some d => match fr d with
      | .bool b => some (b == want)
      | .tup _ => some false
      | _ => none

def StepC (P : Program) (o : Oper) (fr : Fr) (B : List Box) (K : CV → List Box → Prop) : Prop :=
  match o.op with
  | .call { callee := .value f, args, .. } => match opv fr f with
    | .fn (.func g) first caps => ACall P g (first ++ args.toList.map (opv fr) ++ caps) B K
    | _ => False
  | _ => match ev P o fr B with
    | some r => K r.1 r.2
    | none => False

def dstOk (n : Nat) (o : Oper) : Bool := match o.dst with | some d => decide (d < n) | none => true

def WPo (P : Program) (n : Nat) (ops : Array Oper) (Q : Fr → List Box → Prop) : List Oper → Fr → List Box → Prop
  | [], fr, B => Q fr B
  | o :: rest, fr, B => dstOk n o = true ∧ match wantC ops fr o with
    | some t => (t = true → StepC P o fr B fun c B' => WPo P n ops Q rest (upd fr o.dst c) B') ∧ (t = false → WPo P n ops Q rest (upd fr o.dst (.tup [])) B)
    | none => False

/-- A frame of the model and its canonical one; the boxes; what has become of memory since. -/
structure St (N n : Nat) (I : Nat → Nat → Prop) (μ : List (List Place)) (w : World) (fr : Fr) (B : List Box) (a : Act) (I' : Nat → Nat → Prop) (μ' : List (List Place)) (w' : World) : Prop where
  size : a.tmps.size = n
  defers : a.defers = []
  frame : ∀ i, V I' μ' w' (fr i) (a.tmps.getD i undef)
  box : BRel N I' μ' B w'
  ext : Ext I μ w I' μ' w'
  below : Below N w w'

def AWo (P : Program) (n : Nat) (ops : Array Oper) (Q : Fr → List Box → Prop) (l : List Oper) (fr : Fr) (B : List Box) : Prop :=
  ∀ (N : Nat) (I0 : Nat → Nat → Prop) (μ0 : List (List Place)) (w0 : World) (I : Nat → Nat → Prop) (μ : List (List Place)) (w : World) (a : Act) (Q' : Exit → Act → World → Prop), St N n I0 μ0 w0 fr B a I μ w →
    (∀ fr' B' a' I' μ' w', Q fr' B' → St N n I0 μ0 w0 fr' B' a' I' μ' w' → Q' .normal a' w') → wpList P ops Q' l a w

section
variable {P : Program} {N n : Nat} {I0 I : Nat → Nat → Prop} {μ0 μ : List (List Place)} {B : List Box} {w0 w : World} {o : Oper} {a : Act} {fr : Fr} {ops : Array Oper}

theorem put_getD (a : Act) (d : Option Tmp) (v : Value) (hd : ∀ t, d = some t → t < a.tmps.size) (i : Nat) : (a.put d v).tmps.getD i undef = if d = some i then v else a.tmps.getD i undef := by
  cases d with
  | none => simp [Act.put]
  | some t =>
    have := hd t rfl
    simp only [Act.put, Array.getD_eq_getD_getElem?, Array.getElem?_setIfInBounds]
    by_cases h : t = i
    · subst h; simp [this]
    · simp [h]

theorem St.put {c : CV} {v : Value} {B' : List Box} {I' : Nat → Nat → Prop} {μ' : List (List Place)} {w' : World} (h : St N n I0 μ0 w0 fr B a I μ w) (hs : Step N I μ w c v B' I' μ' w') {d : Option Tmp} (hd : ∀ t, d = some t → t < n) :
    St N n I0 μ0 w0 (upd fr d c) B' (a.put d v) I' μ' w' := by
  refine ⟨by cases d <;> simp [Act.put, h.size], by cases d <;> simp [Act.put, h.defers], fun i => ?_, hs.box, h.ext.trans hs.ext, h.below.trans hs.below⟩
  rw [put_getD a d v (fun t ht => by rw [h.size]; exact hd t ht)]
  unfold upd
  cases d with
  | none => simpa using (h.frame i).ext hs.ext.toKeep
  | some t =>
    by_cases ht : i = t
    · subst ht; simpa using hs.val
    · rw [if_neg (by simpa using fun h => ht h.symm)]
      simp only [if_neg ht]
      exact (h.frame i).ext hs.ext.toKeep

theorem want_sound (hfr : ∀ i, V I μ w (fr i) (a.tmps.getD i undef)) {t : Bool} (h : wantC ops fr o = some t) : Region.wanted o (yielded ops a.tmps) = t := by
  unfold wantC at h
  unfold Region.wanted yielded
  split at h
  · rename_i hg
    simp at h
    simp [hg, h]
  · rename_i j want hg
    rw [hg]
    dsimp only
    split at h
    · rename_i hd
      simp at h; subst h
      simp [hd]
    · rename_i d hd
      have hv := hfr d
      split at h
      · rename_i b e1
        rw [e1] at hv
        have hv := hv.bool_inv
        simp at h; subst h
        have : a.tmps[d]? = some (.bool b) := by
          cases hx : a.tmps[d]? with
          | none => simp [Array.getD_eq_getD_getElem?, hx, undef] at hv
          | some x => simp [Array.getD_eq_getD_getElem?, hx] at hv; rw [hv]
        simp [hd, this]
      · rename_i cs e1
        rw [e1] at hv
        obtain ⟨vs, hv, _⟩ := hv.tup_inv
        simp at h; subst h
        have : ∀ b, a.tmps[d]? ≠ some (.bool b) := by
          intro b hx
          simp [Array.getD_eq_getD_getElem?, hx] at hv
        cases hx : a.tmps[d]? with
        | none => simp [hd, hx]
        | some x =>
          cases x <;> simp [hd, hx]
          exact absurd hx (this _)
      · cases h

theorem callable_run {f : FuncId} (h : callable P f = true) (args : Array Value) (w : World) : (callFunc f args).run P w = .ok (.enter f args) w := by
  unfold callable at h
  split at h
  · rename_i fn hf
    simp only [Bool.and_eq_true, bne_iff_ne] at h
    have h3 : ¬ fn.body = none := fun hx => by rw [hx] at h; exact absurd h.1 (by simp)
    simp [callFunc, hf, h.2, h3]
  · cases h

theorem operands_rel (hfr : ∀ i, V I μ w (fr i) (a.tmps.getD i undef)) : ∀ l : List Operand, R I μ w false (l.map (opv fr)) (l.map a.eval)
  | [] => .nil _
  | x :: l => .cons (opv_rel hfr x) (by simp) (operands_rel hfr l)

/-- One operation, carried out. -/
theorem step_sound {K : CV → List Box → Prop} {K' : Act → World → Prop} {Q' : Exit → Act → World → Prop} (hs : St N n I0 μ0 w0 fr B a I μ w) (h : StepC P o fr B K)
    (hk : ∀ c v B' I' μ' w', K c B' → Step N I μ w c v B' I' μ' w' → K' (a.put o.dst v) w') : o.wp P a w K' Q' := by
  have other : ∀ r, ev P o fr B = some r → K r.1 r.2 → o.wp P a w K' Q' := by
    intro r hr hK
    obtain ⟨nx, v, I', μ', w', h1, h2, h3⟩ := ev_sound hs.box hs.frame hr
    unfold Oper.wp
    rw [h1]
    cases nx <;> simp only [nxv] at h2 <;> try cases h2
    · exact hk _ _ _ _ _ _ hK h3
    · exact hk _ _ _ _ _ _ hK h3
  unfold StepC at h
  split at h
  · rename_i f args ts ho
    split at h
    · rename_i g first caps e1
      obtain ⟨hc, h⟩ := h
      have hf := opv_rel hs.frame f
      rw [e1] at hf
      obtain ⟨fs, cps, hv, h1, h2⟩ := hf.fn_inv
      have hargs := operands_rel hs.frame args.toList
      have hall := (h1.append hargs).append h2
      have hc2 := h N I μ w _ hs.box hall
      unfold Oper.wp
      have hrun : (execOp a.eval o).run P w = .ok (.enter g (fs ++ args.toList.map a.eval ++ cps).toArray) w := by
        have e2 : (args.map a.eval) = (args.toList.map a.eval).toArray := by apply Array.ext'; simp
        simp only [execOp, ho, resolve, hv, Deferred.ofValue, Sem.run_bind, Sem.run_pure, Result.andThen_ok, invoke, e2]
        rw [callable_run hc]
        simp
      rw [hrun, Oper.upon_enter]
      exact hc2.mono fun e w' ⟨c, v, B', I', μ', he, hQ, hst⟩ => by
        subst he
        exact hk _ _ _ _ _ _ hQ hst
    · cases h
  · split at h
    · rename_i r hr
      exact other r hr h
    · cases h

theorem WPo_sound {Q : Fr → List Box → Prop} : ∀ (l : List Oper) (fr : Fr) (B : List Box), WPo P n ops Q l fr B → AWo P n ops Q l fr B
  | [], fr, B, h => fun N I0 μ0 w0 I μ w a Q' hs hQ => hQ fr B a I μ w h hs
  | o :: rest, fr, B, h => fun N I0 μ0 w0 I μ w a Q' hs hQ => by
    unfold WPo at h
    obtain ⟨hd, h⟩ := h
    have hd' : ∀ t, o.dst = some t → t < n := fun t ht => by simpa [dstOk, ht] using hd
    split at h
    · rename_i t ht
      have hw := want_sound hs.frame ht
      unfold wpList
      cases t with
      | true =>
        rw [hw, if_pos rfl]
        exact .inl (step_sound hs (h.1 rfl) fun c v B' I' μ' w' hK hst => WPo_sound rest _ _ hK N I0 μ0 w0 I' μ' w' _ Q' (hs.put hst hd') hQ)
      | false =>
        rw [hw, if_neg (by simp)]
        exact WPo_sound rest _ _ (h.2 rfl) N I0 μ0 w0 I μ w _ Q' (hs.put ⟨.tup (.nil _) (.nil _), hs.box, .refl _ _ _, Below.refl _ _⟩ hd') hQ
    · cases h

end
end Go.Sy
