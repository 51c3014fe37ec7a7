/-
  A canonical symbolic machine over the model: its values, its boxes, and how they stand to memory. Generic over the program.
-/
import Derived.WalkKit
import Derived.WalkSpells
import Derived.WalkLawsBesides
import Derived.Deep.AppendSrc
import Derived.Laws.IdiomCopy
import Derived.RangeFuncOwn
namespace Go.Sy
set_option linter.all false
open Go.RowKit (Below)

/-- A canonical value. 'lst': a slice whose elements never change; 'view': a slice over a box; 'cview': one whose capacity is known; 'ptr': a pointer into a box; 'iptr': a pointer to what never changes (its cells from there on). -/
inductive CV where
  | bool (b : Bool)
  | int (k : IntKind) (n : Int)
  | str (s : List UInt8)
  | nilP | nilS | nilF | nilI
  | raw (v : Value)
  | agg (cs : List CV)
  | tup (cs : List CV)
  | lst (n : Nat) (cs : List CV) (full : Bool)
  | view (b off n sz : Nat) (full : Bool)
  | cview (b off n cap sz : Nat)
  | ptr (b off : Nat)
  | iptr (cs : List CV)
  | fn (f : Fn) (first caps : List CV)
  | iface (t : TypeId) (v : CV)
  deriving Inhabited

/-- A box: cells of the call's own. 'multi': it was appended to: it is read and appended to, and written no more. -/
structure Box where
  cells : List CV
  multi : Bool := false
  deriving Inhabited

/-- Cells lo .. k of a box lie in block b from offset o on. -/
structure Place where
  b : Nat
  lo : Nat
  o : Nat
  k : Nat

/-- A row of at least n cells none of which is frozen. -/
def Free (w : World) (b n : Nat) : Prop := ∃ cells ty fz, w.heap[b]? = some (.cells cells ty fz) ∧ n ≤ cells.size ∧ ∀ j, j < cells.size → ¬ (fz.1 ≤ j ∧ j < fz.2)

/-- A row none of which can be frozen, nor its end. -/
def Plain (w : World) (b : Nat) : Prop := ∃ cells ty, w.heap[b]? = some (.cells cells ty (0, 0))

/-- A box that has a place. -/
abbrev Here (μ : List (List Place)) (β : Nat) : Prop := ∃ (ps : List Place) (p : Place), μ[β]? = some ps ∧ p ∈ ps
/-- Lists of canonical values and of the model's values: side by side. 'one': each takes one cell. -/
inductive R (I : Nat → Nat → Prop) (μ : List (List Place)) (w : World) : Bool → List CV → List Value → Prop
  | nil (one : Bool) : R I μ w one [] []
  | bool {one cs vs} (b : Bool) (tl : R I μ w one cs vs) : R I μ w one (.bool b :: cs) (.bool b :: vs)
  | int {one cs vs} (k : IntKind) (n : Int) (tl : R I μ w one cs vs) : R I μ w one (.int k n :: cs) (.int k n :: vs)
  | str {one cs vs} (s : List UInt8) (tl : R I μ w one cs vs) : R I μ w one (.str s :: cs) (.string ⟨s.toArray⟩ :: vs)
  | nilP {one cs vs} (tl : R I μ w one cs vs) : R I μ w one (.nilP :: cs) (.pointer none :: vs)
  | nilS {one cs vs} (tl : R I μ w one cs vs) : R I μ w one (.nilS :: cs) (.slice none 0 0 :: vs)
  | nilF {one cs vs} (tl : R I μ w one cs vs) : R I μ w one (.nilF :: cs) (.nilFunc :: vs)
  | nilI {one cs vs} (tl : R I μ w one cs vs) : R I μ w one (.nilI :: cs) (.nilIface :: vs)
  | raw {one cs vs} (v : Value) (h1 : one = true → v.oneCell' = true) (tl : R I μ w one cs vs) : R I μ w one (.raw v :: cs) (v :: vs)
  | agg {cs vs as bs} (h : R I μ w true as bs) (tl : R I μ w false cs vs) : R I μ w false (.agg as :: cs) (.agg bs.toArray :: vs)
  | tup {cs vs as bs} (h : R I μ w false as bs) (tl : R I μ w false cs vs) : R I μ w false (.tup as :: cs) (.tuple bs.toArray :: vs)
  | lst {one cs vs as bs} (n : Nat) (full : Bool) (b o cap : Nat) (h : R I μ w true as bs) (hm : ∀ j v, bs[j]? = some v → w.cell? ⟨b, o + j, none⟩ = some v ∧ I b (o + j))
      (hn : n ≤ cap) (hf : full = true → cap = n) (tl : R I μ w one cs vs) : R I μ w one (.lst n as full :: cs) (.slice (some ⟨b, o, none⟩) n cap :: vs)
  | lstE {one cs vs} (full : Bool) (A : Option Addr) (tl : R I μ w one cs vs) : R I μ w one (.lst 0 [] full :: cs) (.slice A 0 0 :: vs)
  | view {one cs vs} (β off n sz : Nat) (full : Bool) (ps : List Place) (p : Place) (cap : Nat) (hb : μ[β]? = some ps) (hp : p ∈ ps) (hlo : p.lo ≤ off) (hk : off + n * sz ≤ p.k)
      (hn : n ≤ cap) (hf : full = true → cap = n) (hr : Free w p.b (p.o + (off - p.lo) + cap * sz)) (tl : R I μ w one cs vs) : R I μ w one (.view β off n sz full :: cs) (.slice (some ⟨p.b, p.o + (off - p.lo), none⟩) n cap :: vs)
  | viewE {one cs vs} (β off sz : Nat) (full : Bool) (A : Option Addr) (hb : Here μ β) (tl : R I μ w one cs vs) : R I μ w one (.view β off 0 sz full :: cs) (.slice A 0 0 :: vs)
  | cview {one cs vs} (β off n cap sz : Nat) (ps : List Place) (p : Place) (hb : μ[β]? = some ps) (hp : p ∈ ps) (hlo : p.lo ≤ off) (hk : off + cap * sz ≤ p.k)
      (hn : n ≤ cap) (hpl : Plain w p.b) (tl : R I μ w one cs vs) : R I μ w one (.cview β off n cap sz :: cs) (.slice (some ⟨p.b, p.o + (off - p.lo), none⟩) n cap :: vs)
  | cviewE {one cs vs} (β off sz : Nat) (A : Option Addr) (hb : Here μ β) (tl : R I μ w one cs vs) : R I μ w one (.cview β off 0 0 sz :: cs) (.slice A 0 0 :: vs)
  | ptr {one cs vs} (β off : Nat) (ps : List Place) (p : Place) (hb : μ[β]? = some ps) (hp : p ∈ ps) (hlo : p.lo ≤ off) (tl : R I μ w one cs vs) :
      R I μ w one (.ptr β off :: cs) (.pointer (some ⟨p.b, p.o + (off - p.lo), none⟩) :: vs)
  | iptr {one cs vs as bs} (b o : Nat) (h : R I μ w true as bs) (hm : ∀ j v, bs[j]? = some v → w.cell? ⟨b, o + j, none⟩ = some v ∧ I b (o + j)) (tl : R I μ w one cs vs) :
      R I μ w one (.iptr as :: cs) (.pointer (some ⟨b, o, none⟩) :: vs)
  | fn {one cs vs as bs as' bs'} (f : Fn) (h : R I μ w false as bs) (h' : R I μ w false as' bs') (tl : R I μ w one cs vs) : R I μ w one (.fn f as as' :: cs) (.func f bs.toArray bs'.toArray :: vs)
  | iface {one cs vs c v} (t : TypeId) (h : R I μ w false [c] [v]) (tl : R I μ w one cs vs) : R I μ w one (.iface t c :: cs) (.iface t v :: vs)

abbrev V (I : Nat → Nat → Prop) (μ : List (List Place)) (w : World) (c : CV) (v : Value) : Prop := R I μ w false [c] [v]

section
variable {I I' : Nat → Nat → Prop} {μ μ' : List (List Place)} {w w' : World}

/-- What a later state keeps of an earlier one: so much that what fitted still fits. -/
structure Keep (I : Nat → Nat → Prop) (μ : List (List Place)) (w : World) (I' : Nat → Nat → Prop) (μ' : List (List Place)) (w' : World) : Prop where
  imm : ∀ b j, I b j → I' b j
  same : ∀ b j, I b j → w'.cell? ⟨b, j, none⟩ = w.cell? ⟨b, j, none⟩
  free : ∀ b n, Free w b n → Free w' b n
  plain : ∀ b, Plain w b → Plain w' b
  grow : ∀ (β : Nat) (ps : List Place), μ[β]? = some ps → ∃ ps', μ'[β]? = some ps' ∧ ∀ p ∈ ps, p ∈ ps'

/-- Whatever is no row of cells lies as it lay. -/
def Oth (w w' : World) : Prop := ∀ (b : Nat) (o : Obj), w.heap[b]? = some o → o.isCells = false → w'.heap[b]? = some o

/-- And: what is new lies in new blocks. -/
structure Ext (I : Nat → Nat → Prop) (μ : List (List Place)) (w : World) (I' : Nat → Nat → Prop) (μ' : List (List Place)) (w' : World) : Prop extends Keep I μ w I' μ' w' where
  size : w.heap.size ≤ w'.heap.size
  more : ∀ (β : Nat) (ps ps' : List Place), μ[β]? = some ps → μ'[β]? = some ps' → ∀ p ∈ ps', (∃ p0 ∈ ps, p0.b = p.b) ∨ w.heap.size ≤ p.b
  news : ∀ (β : Nat) (ps : List Place), μ.length ≤ β → μ'[β]? = some ps → ∀ p ∈ ps, w.heap.size ≤ p.b
  immN : ∀ b j, I' b j → I b j ∨ w.heap.size ≤ b ∨ ∃ (β : Nat) (ps : List Place) (p : Place), μ[β]? = some ps ∧ p ∈ ps ∧ p.b = b
  gone : ∀ β : Nat, μ[β]? = some [] → μ'[β]? = some []
  oth : Oth w w'

theorem more_refl (μ : List (List Place)) (w : World) (β : Nat) (ps ps' : List Place) (h : μ[β]? = some ps) (h' : μ[β]? = some ps') (p : Place) (hp : p ∈ ps') : (∃ p0 ∈ ps, p0.b = p.b) ∨ w.heap.size ≤ p.b := by
  rw [h] at h'; simp at h'; subst h'; exact .inl ⟨p, hp, rfl⟩
theorem news_refl (μ : List (List Place)) (w : World) (β : Nat) (ps : List Place) (h : μ.length ≤ β) (h' : μ[β]? = some ps) (p : Place) (_ : p ∈ ps) : w.heap.size ≤ p.b := by
  have := (List.getElem?_eq_some_iff.1 h').1; omega

theorem Keep.refl (I : Nat → Nat → Prop) (μ : List (List Place)) (w : World) : Keep I μ w I μ w := ⟨fun _ _ h => h, fun _ _ _ => rfl, fun _ _ h => h, fun _ h => h, fun _ ps h => ⟨ps, h, fun _ h => h⟩⟩
theorem Ext.refl (I : Nat → Nat → Prop) (μ : List (List Place)) (w : World) : Ext I μ w I μ w := ⟨.refl I μ w, Nat.le_refl _, more_refl μ w, news_refl μ w, fun _ _ h => .inl h, fun _ h => h, fun _ _ h _ => h⟩
theorem Keep.len (h : Keep I μ w I' μ' w') {β : Nat} (hb : β < μ.length) : β < μ'.length := by
  obtain ⟨ps', h1, _⟩ := h.grow β μ[β] (by simp [hb])
  exact (List.getElem?_eq_some_iff.1 h1).1
theorem Keep.here (h : Keep I μ w I' μ' w') {β : Nat} : Here μ β → Here μ' β := fun ⟨ps, p, h1, h2⟩ => let ⟨ps', h3, h4⟩ := h.grow β ps h1; ⟨ps', p, h3, h4 p h2⟩
theorem Keep.trans {I'' : Nat → Nat → Prop} {μ'' : List (List Place)} {w'' : World} (h : Keep I μ w I' μ' w') (k : Keep I' μ' w' I'' μ'' w'') : Keep I μ w I'' μ'' w'' :=
  ⟨fun b j x => k.imm b j (h.imm b j x), fun b j x => (k.same b j (h.imm b j x)).trans (h.same b j x), fun b n x => k.free b n (h.free b n x), fun b x => k.plain b (h.plain b x), fun β ps x =>
    let ⟨ps', a, b⟩ := h.grow β ps x; let ⟨ps'', a', b'⟩ := k.grow β ps' a; ⟨ps'', a', fun p hp => b' p (b p hp)⟩⟩
theorem Ext.trans {I'' : Nat → Nat → Prop} {μ'' : List (List Place)} {w'' : World} (h : Ext I μ w I' μ' w') (k : Ext I' μ' w' I'' μ'' w'') : Ext I μ w I'' μ'' w'' := by
  refine ⟨h.toKeep.trans k.toKeep, Nat.le_trans h.size k.size, fun β ps ps'' x x'' p hp => ?_, fun β ps hβ x p hp => ?_, fun b j hj => ?_, fun β hβ => k.gone β (h.gone β hβ), fun b o h1 h2 => k.oth b o (h.oth b o h1 h2) h2⟩
  rotate_right
  · rcases k.immN b j hj with h1 | h1 | ⟨β, ps, p, h1, h2, h3⟩
    · exact h.immN b j h1
    · exact .inr (.inl (by have := h.size; omega))
    · rcases Nat.lt_or_ge β μ.length with hl | hl
      · rcases h.more β μ[β] ps (by simp [hl]) h1 p h2 with ⟨p0, h4, h5⟩ | h4
        · exact .inr (.inr ⟨β, μ[β], p0, by simp [hl], h4, by omega⟩)
        · exact .inr (.inl (by omega))
      · have := h.news β ps hl h1 p h2
        exact .inr (.inl (by omega))
  · obtain ⟨ps', a, b⟩ := h.grow β ps x
    rcases k.more β ps' ps'' a x'' p hp with ⟨p0, h0, e0⟩ | h1
    · rcases h.more β ps ps' x a p0 h0 with ⟨p1, h1, e1⟩ | h1
      · exact .inl ⟨p1, h1, by omega⟩
      · exact .inr (by omega)
    · exact .inr (by have := h.size; omega)
  · rcases Nat.lt_or_ge β μ'.length with hl | hl
    · have hn := h.news β μ'[β] hβ (by simp [hl])
      rcases k.more β μ'[β] ps (by simp [hl]) x p hp with ⟨p0, h0, e0⟩ | h1
      · have := hn p0 h0; omega
      · have := h.size; omega
    · have := k.news β ps hl x p hp
      have := h.size; omega

theorem R.ext {one : Bool} {cs : List CV} {vs : List Value} (h : R I μ w one cs vs) (e : Keep I μ w I' μ' w') : R I' μ' w' one cs vs := by
  induction h with
  | nil one => exact .nil one
  | bool b _ ih => exact .bool b ih
  | int k n _ ih => exact .int k n ih
  | str s _ ih => exact .str s ih
  | nilP _ ih => exact .nilP ih
  | nilS _ ih => exact .nilS ih
  | nilF _ ih => exact .nilF ih
  | nilI _ ih => exact .nilI ih
  | raw v h1 _ ih => exact .raw v h1 ih
  | agg _ _ ih1 ih2 => exact .agg ih1 ih2
  | tup _ _ ih1 ih2 => exact .tup ih1 ih2
  | lst n full b o cap _ hm hn hf _ ih1 ih2 => exact .lst n full b o cap ih1 (fun j v hj => ⟨(e.same _ _ (hm j v hj).2).trans (hm j v hj).1, e.imm _ _ (hm j v hj).2⟩) hn hf ih2
  | lstE full A _ ih => exact .lstE full A ih
  | view β off n sz full ps p cap hb hp hlo hk hn hf hr _ ih =>
    obtain ⟨ps', h1, h2⟩ := e.grow β ps hb
    exact .view β off n sz full ps' p cap h1 (h2 p hp) hlo hk hn hf (e.free _ _ hr) ih
  | viewE β off sz full A hb _ ih => exact .viewE β off sz full A (e.here hb) ih
  | cview β off n cap sz ps p hb hp hlo hk hn hpl _ ih =>
    obtain ⟨ps', h1, h2⟩ := e.grow β ps hb
    exact .cview β off n cap sz ps' p h1 (h2 p hp) hlo hk hn (e.plain _ hpl) ih
  | cviewE β off sz A hb _ ih => exact .cviewE β off sz A (e.here hb) ih
  | ptr β off ps p hb hp hlo _ ih =>
    obtain ⟨ps', h1, h2⟩ := e.grow β ps hb
    exact .ptr β off ps' p h1 (h2 p hp) hlo ih
  | iptr b o _ hm _ ih1 ih2 => exact .iptr b o ih1 (fun j v hj => ⟨(e.same _ _ (hm j v hj).2).trans (hm j v hj).1, e.imm _ _ (hm j v hj).2⟩) ih2
  | fn f _ _ _ ih1 ih2 ih3 => exact .fn f ih1 ih2 ih3
  | iface t _ _ ih1 ih2 => exact .iface t ih1 ih2

theorem R.len {one : Bool} {cs : List CV} {vs : List Value} (h : R I μ w one cs vs) : cs.length = vs.length := by
  induction h <;> simp_all

theorem R.cons {one : Bool} {c : CV} {v : Value} {cs : List CV} {vs : List Value} (h : V I μ w c v) (h1 : one = true → v.oneCell' = true) (tl : R I μ w one cs vs) : R I μ w one (c :: cs) (v :: vs) := by
  cases h with
  | bool b _ => exact .bool b tl
  | int k n _ => exact .int k n tl
  | str s _ => exact .str s tl
  | nilP _ => exact .nilP tl
  | nilS _ => exact .nilS tl
  | nilF _ => exact .nilF tl
  | nilI _ => exact .nilI tl
  | raw v _ _ => exact .raw v h1 tl
  | agg h _ => cases one with
    | false => exact .agg h tl
    | true => exact absurd (h1 rfl) (by simp [Value.oneCell'])
  | tup h _ => cases one with
    | false => exact .tup h tl
    | true => exact absurd (h1 rfl) (by simp [Value.oneCell'])
  | lst n full b o cap h hm hn hf _ => exact .lst n full b o cap h hm hn hf tl
  | lstE full A _ => exact .lstE full A tl
  | view β off n sz full ps p cap hb hp hlo hk hn hf hr _ => exact .view β off n sz full ps p cap hb hp hlo hk hn hf hr tl
  | viewE β off sz full A hb _ => exact .viewE β off sz full A hb tl
  | cview β off n cap sz ps p hb hp hlo hk hn hpl _ => exact .cview β off n cap sz ps p hb hp hlo hk hn hpl tl
  | cviewE β off sz A hb _ => exact .cviewE β off sz A hb tl
  | ptr β off ps p hb hp hlo _ => exact .ptr β off ps p hb hp hlo tl
  | iptr b o h hm _ => exact .iptr b o h hm tl
  | fn f h h' _ => exact .fn f h h' tl
  | iface t h _ => exact .iface t h tl

theorem R.head {one : Bool} {c : CV} {v : Value} {cs : List CV} {vs : List Value} (h : R I μ w one (c :: cs) (v :: vs)) : V I μ w c v ∧ (one = true → v.oneCell' = true) ∧ R I μ w one cs vs := by
  cases h with
  | bool b tl => exact ⟨.bool b (.nil _), fun _ => rfl, tl⟩
  | int k n tl => exact ⟨.int k n (.nil _), fun _ => rfl, tl⟩
  | str s tl => exact ⟨.str s (.nil _), fun _ => rfl, tl⟩
  | nilP tl => exact ⟨.nilP (.nil _), fun _ => rfl, tl⟩
  | nilS tl => exact ⟨.nilS (.nil _), fun _ => rfl, tl⟩
  | nilF tl => exact ⟨.nilF (.nil _), fun _ => rfl, tl⟩
  | nilI tl => exact ⟨.nilI (.nil _), fun _ => rfl, tl⟩
  | raw v h1 tl => exact ⟨.raw v (by simp) (.nil _), h1, tl⟩
  | agg h tl => exact ⟨.agg h (.nil _), by simp, tl⟩
  | tup h tl => exact ⟨.tup h (.nil _), by simp, tl⟩
  | lst n full b o cap h hm hn hf tl => exact ⟨.lst n full b o cap h hm hn hf (.nil _), fun _ => rfl, tl⟩
  | lstE full A tl => exact ⟨.lstE full A (.nil _), fun _ => rfl, tl⟩
  | view β off n sz full ps p cap hb hp hlo hk hn hf hr tl => exact ⟨.view β off n sz full ps p cap hb hp hlo hk hn hf hr (.nil _), fun _ => rfl, tl⟩
  | viewE β off sz full A hb tl => exact ⟨.viewE β off sz full A hb (.nil _), fun _ => rfl, tl⟩
  | cview β off n cap sz ps p hb hp hlo hk hn hpl tl => exact ⟨.cview β off n cap sz ps p hb hp hlo hk hn hpl (.nil _), fun _ => rfl, tl⟩
  | cviewE β off sz A hb tl => exact ⟨.cviewE β off sz A hb (.nil _), fun _ => rfl, tl⟩
  | ptr β off ps p hb hp hlo tl => exact ⟨.ptr β off ps p hb hp hlo (.nil _), fun _ => rfl, tl⟩
  | iptr b o h hm tl => exact ⟨.iptr b o h hm (.nil _), fun _ => rfl, tl⟩
  | fn f h h' tl => exact ⟨.fn f h h' (.nil _), fun _ => rfl, tl⟩
  | iface t h tl => exact ⟨.iface t h (.nil _), fun _ => rfl, tl⟩

theorem R.nil_iff {one : Bool} {vs : List Value} : R I μ w one [] vs ↔ vs = [] :=
  ⟨fun h => by cases h; rfl, fun h => by subst h; exact .nil _⟩
theorem R.cons_iff {one : Bool} {c : CV} {cs : List CV} {vs : List Value} : R I μ w one (c :: cs) vs ↔ ∃ v vs', vs = v :: vs' ∧ V I μ w c v ∧ (one = true → v.oneCell' = true) ∧ R I μ w one cs vs' := by
  constructor
  · intro h
    cases vs with
    | nil => cases h
    | cons v vs => exact ⟨v, vs, rfl, h.head⟩
  · rintro ⟨v, vs', rfl, h1, h2, h3⟩; exact .cons h1 h2 h3

theorem R.append {one : Bool} {cs cs' : List CV} {vs vs' : List Value} (h : R I μ w one cs vs) (h' : R I μ w one cs' vs') : R I μ w one (cs ++ cs') (vs ++ vs') := by
  induction cs generalizing vs with
  | nil => rw [R.nil_iff] at h; subst h; exact h'
  | cons c cs ih =>
    obtain ⟨v, vs, rfl, h1, h2, h3⟩ := R.cons_iff.1 h
    exact .cons h1 h2 (ih h3)

theorem R.drop {one : Bool} {cs : List CV} {vs : List Value} (h : R I μ w one cs vs) (n : Nat) : R I μ w one (cs.drop n) (vs.drop n) := by
  induction n generalizing cs vs with
  | zero => exact h
  | succ n ih =>
    cases cs with
    | nil => rw [R.nil_iff] at h; subst h; exact .nil _
    | cons c cs =>
      obtain ⟨v, vs, rfl, h1, h2, h3⟩ := R.cons_iff.1 h
      exact ih h3

theorem R.take {one : Bool} {cs : List CV} {vs : List Value} (h : R I μ w one cs vs) (n : Nat) : R I μ w one (cs.take n) (vs.take n) := by
  induction n generalizing cs vs with
  | zero => exact .nil _
  | succ n ih =>
    cases cs with
    | nil => rw [R.nil_iff] at h; subst h; exact .nil _
    | cons c cs =>
      obtain ⟨v, vs, rfl, h1, h2, h3⟩ := R.cons_iff.1 h
      exact .cons h1 h2 (ih h3)

theorem R.get {one : Bool} {cs : List CV} {vs : List Value} (h : R I μ w one cs vs) {i : Nat} {c : CV} (hi : cs[i]? = some c) : ∃ v, vs[i]? = some v ∧ V I μ w c v ∧ (one = true → v.oneCell' = true) := by
  have h1 := h.drop i
  rw [List.drop_eq_getElem_cons (List.getElem?_eq_some_iff.1 hi).1] at h1
  obtain ⟨v, vs', h2, h3, h4, _⟩ := R.cons_iff.1 h1
  refine ⟨v, ?_, ?_, h4⟩
  · have := congrArg (·[0]?) h2
    simpa using this
  · rwa [(List.getElem?_eq_some_iff.1 hi).2] at h3

theorem R.weak {one : Bool} {cs : List CV} {vs : List Value} (h : R I μ w one cs vs) : R I μ w false cs vs := by
  induction cs generalizing vs with
  | nil => rw [R.nil_iff] at h; subst h; exact .nil _
  | cons c cs ih =>
    obtain ⟨v, vs, rfl, h1, h2, h3⟩ := R.cons_iff.1 h
    exact .cons h1 (by simp) (ih h3)

theorem R.oneCells {cs : List CV} {vs : List Value} (h : R I μ w true cs vs) : ∀ v ∈ vs, v.oneCell' = true := by
  induction cs generalizing vs with
  | nil => rw [R.nil_iff] at h; subst h; simp
  | cons c cs ih =>
    obtain ⟨v, vs, rfl, h1, h2, h3⟩ := R.cons_iff.1 h
    intro u hu
    rcases List.mem_cons.1 hu with rfl | hu
    · exact h2 rfl
    · exact ih h3 u hu

end
end Go.Sy
