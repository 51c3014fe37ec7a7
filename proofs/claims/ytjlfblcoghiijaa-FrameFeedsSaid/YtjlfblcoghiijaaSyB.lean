/-
  Canonical values that bear no reference are the model's values: to and fro. Operations that touch no memory.
-/
import Derived.Test.YtjlfblcoghiijaaSyA
namespace Go.Sy
set_option linter.all false
open Go.RowKit (Below)

mutual
def ofV : Value → CV
  | .bool b => .bool b
  | .int k n => .int k n
  | .string ⟨⟨s⟩⟩ => .str s
  | .pointer none => .nilP
  | .slice none 0 0 => .nilS
  | .nilFunc => .nilF
  | .nilIface => .nilI
  | .agg ⟨l⟩ => if l.all (·.oneCell') then .agg (ofVL l) else .raw (.agg ⟨l⟩)
  | .tuple ⟨l⟩ => .tup (ofVL l)
  | .func f ⟨a⟩ ⟨b⟩ => .fn f (ofVL a) (ofVL b)
  | .iface t v => .iface t (ofV v)
  | v => .raw v
def ofVL : List Value → List CV
  | [] => []
  | v :: l => ofV v :: ofVL l
end

mutual
def toV : CV → Option Value
  | .bool b => some (.bool b)
  | .int k n => some (.int k n)
  | .str s => some (.string ⟨s.toArray⟩)
  | .nilP => some (.pointer none)
  | .nilS => some (.slice none 0 0)
  | .nilF => some .nilFunc
  | .nilI => some .nilIface
  | .raw v => some v
  | .agg cs => (toVL cs).map fun l => .agg l.toArray
  | .tup cs => (toVL cs).map fun l => .tuple l.toArray
  | .iface t c => (toV c).map fun v => .iface t v
  | .fn f a b => match toVL a, toVL b with | some x, some y => some (.func f x.toArray y.toArray) | _, _ => none
  | .lst .. | .view .. | .cview .. | .ptr .. | .iptr _ => none
def toVL : List CV → Option (List Value)
  | [] => some []
  | c :: l => match toV c, toVL l with | some v, some vs => some (v :: vs) | _, _ => none
end

section
variable {I I' : Nat → Nat → Prop} {μ μ' : List (List Place)} {w w' : World}

theorem R.toVL {one : Bool} {cs : List CV} {vs us : List Value} (h : R I μ w one cs vs) (hu : toVL cs = some us) : us = vs := by
  induction h generalizing us with
  | nil one => simpa [Sy.toVL] using hu.symm
  | bool b _ ih | int k n _ ih | str s _ ih | nilP _ ih | nilS _ ih | nilF _ ih | nilI _ ih | raw v _ _ ih =>
    simp only [Sy.toVL, toV] at hu
    split at hu <;> simp_all
  | agg h tl ih1 ih2 | tup h tl ih1 ih2 =>
    simp only [Sy.toVL, toV] at hu
    split at hu
    · rename_i v vs' e1 e2
      simp only [Option.map_eq_some_iff] at e1
      obtain ⟨l, e1, rfl⟩ := e1
      simp only [Option.some.injEq] at hu
      rw [← hu, ih1 e1, ih2 e2]
    · cases hu
  | iface t h tl ih1 ih2 =>
    simp only [Sy.toVL, toV] at hu
    split at hu
    · rename_i v vs' e1 e2
      simp only [Option.map_eq_some_iff] at e1
      obtain ⟨l, e1, rfl⟩ := e1
      simp only [Option.some.injEq] at hu
      have := ih1 (us := [l]) (by simp [Sy.toVL, e1])
      simp at this
      rw [← hu, ih2 e2, this]
    · cases hu
  | fn f h h' tl ih1 ih2 ih3 =>
    simp only [Sy.toVL, toV] at hu
    split at hu
    · rename_i v vs' e1 e2
      split at e1
      · rename_i x y e3 e4
        simp only [Option.some.injEq] at hu e1
        rw [← hu, ← e1, ih3 e2, ih1 e3, ih2 e4]
      · cases e1
    · cases hu
  | lst | lstE | view | viewE | cview | cviewE | ptr | iptr => simp [Sy.toVL, toV] at hu

theorem V.toV {c : CV} {v u : Value} (h : V I μ w c v) (hu : toV c = some u) : u = v := by
  have := R.toVL h (us := [u]) (by simp [Sy.toVL, hu])
  simpa using this

mutual
theorem ofV_rel (I : Nat → Nat → Prop) (μ : List (List Place)) (w : World) : ∀ v : Value, V I μ w (ofV v) v
  | .bool b => .bool b (.nil _)
  | .int k n => .int k n (.nil _)
  | .string ⟨⟨s⟩⟩ => .str s (.nil _)
  | .pointer none => .nilP (.nil _)
  | .pointer (some a) => .raw _ (by simp) (.nil _)
  | .slice none 0 0 => .nilS (.nil _)
  | .slice none (n + 1) c => .raw _ (by simp) (.nil _)
  | .slice none 0 (c + 1) => .raw _ (by simp) (.nil _)
  | .slice (some a) n c => .raw _ (by simp) (.nil _)
  | .nilFunc => .nilF (.nil _)
  | .nilIface => .nilI (.nil _)
  | .agg ⟨l⟩ => by
    unfold ofV
    split
    · rename_i h
      exact .agg (bs := l) (ofVL_rel I μ w true l (fun _ => h)) (.nil _)
    · exact .raw _ (by simp) (.nil _)
  | .tuple ⟨l⟩ => .tup (bs := l) (ofVL_rel I μ w false l (by simp)) (.nil _)
  | .func f ⟨a⟩ ⟨b⟩ => .fn f (bs := a) (bs' := b) (ofVL_rel I μ w false a (by simp)) (ofVL_rel I μ w false b (by simp)) (.nil _)
  | .iface t v => .iface t (ofV_rel I μ w v) (.nil _)
  | .float k b => .raw _ (by simp) (.nil _)
  | .complex k a b => .raw _ (by simp) (.nil _)
  | .map r => .raw _ (by simp) (.nil _)
  | .chan r => .raw _ (by simp) (.nil _)
theorem ofVL_rel (I : Nat → Nat → Prop) (μ : List (List Place)) (w : World) (one : Bool) : ∀ l : List Value, (one = true → l.all (·.oneCell') = true) → R I μ w one (ofVL l) l
  | [], _ => .nil _
  | v :: l, h => .cons (ofV_rel I μ w v) (fun h1 => by have := h h1; simp at this; exact this.1) (ofVL_rel I μ w one l (fun h1 => by have := h h1; simp at this ⊢; exact this.2))
end
end

/-- What an operation that looks at nothing but the program comes to. -/
def pureRun {α : Type} (P : Program) : Sem α → Option α
  | .pure a => some a
  | .program k => pureRun P (k P)
  | .mark _ k => pureRun P k
  | _ => none

theorem pureRun_run {α : Type} (P : Program) (s : Sem α) (a : α) (h : pureRun P s = some a) (w : World) : s.run P w = .ok a w := by
  induction s with
  | pure b => simp [pureRun] at h; subst h; rfl
  | program k ih => simp only [pureRun] at h; simp only [Sem.run]; exact ih _ h
  | mark m k ih => simp only [pureRun] at h; simp only [Sem.run]; exact ih h
  | _ => simp [pureRun] at h

theorem pureRun_bind {α β : Type} (P : Program) (s : Sem α) (f : α → Sem β) : pureRun P (s >>= f) = (pureRun P s).bind fun a => pureRun P (f a) := by
  show pureRun P (s.bind f) = _
  induction s with
  | pure b => rfl
  | program k ih => simp only [Sem.bind, pureRun]; exact ih _
  | mark m k ih => simp only [Sem.bind, pureRun]; exact ih
  | _ => rfl

end Go.Sy
