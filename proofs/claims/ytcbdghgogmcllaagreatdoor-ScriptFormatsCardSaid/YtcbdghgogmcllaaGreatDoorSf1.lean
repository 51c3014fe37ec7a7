/- Lemmas and definitions of this claim (own texts, joined by a program; what the claim does not use is left out). -/
import Derived.WalkKit
import Derived.WalkSpells
import Derived.WalkLawsBesides
import Derived.Deep.AppendSrc
import Derived.Laws.IdiomCopy
import Derived.RangeFuncOwn
import Derived.ChangeKeysEq
set_option linter.all false
set_option maxRecDepth 100000
set_option maxHeartbeats 4000000
section
namespace Go.Sy
def tab : Nat → Option (IntKind × List Int)
  | 1 => some (.u64, [1, 10, 100, 1000, 10000, 100000, 1000000, 10000000, 100000000, 1000000000, 10000000000, 100000000000, 1000000000000, 10000000000000, 100000000000000, 1000000000000000, 10000000000000000, 100000000000000000, 1000000000000000000, 10000000000000000000])
  | 6 => some (.u8, [0, 1, 28, 2, 29, 14, 24, 3, 30, 22, 20, 15, 25, 17, 4, 8, 31, 27, 13, 23, 21, 19, 16, 7, 26, 12, 18, 6, 11, 5, 10, 9])
  | 7 => some (.u8, [0, 1, 56, 2, 57, 49, 28, 3, 61, 58, 42, 50, 38, 29, 17, 4, 62, 47, 59, 36, 45, 43, 51, 22, 53, 39, 33, 30, 24, 18, 12, 5, 63, 55, 48, 27, 60, 41, 37, 16, 46, 35, 44, 21, 52, 32, 23, 11, 54, 26, 40, 15, 34, 20, 31, 10, 25, 14, 19, 9, 13, 8, 7, 6])
  | _ => none
def tabInts : List Nat := [0]
def tabIfs : List Nat := [4, 5]
def boxedT : TypeId → Bool := fun t => t == 30
def quietD : List (FuncId × Nat) := []
end Go.Sy
end
section
namespace Go.Sy
open Go.RowKit (Below)
inductive CV where
  | bool (b : Bool)
  | int (k : IntKind) (n : Int)
  | str (s : List UInt8)
  | nilP | nilS | nilF | nilI
  | raw (v : Value)
  | agg (cs : List CV)
  | tup (cs : List CV)
  | lst (n : Nat) (cs : List CV) (full : Bool)
  | view (b off n sz : Nat) (full : Bool)
  | cview (b off n cap sz : Nat)
  | bview (b n : Nat) (ty : TypeId)
  | ptr (b off : Nat)
  | iptr (cs : List CV)
  | fn (f : Fn) (first caps : List CV)
  | iface (t : TypeId) (v : CV)
  | imap (ks vs : List CV)
  | bptr (b : Nat) (ty : TypeId) (n : Nat)
  deriving Inhabited
structure Box where
  cells : List CV
  multi : Bool := false
  deriving Inhabited
structure Place where
  b : Nat
  lo : Nat
  o : Nat
  k : Nat
def Free (w : World) (b n : Nat) : Prop := ∃ cells ty fz, w.heap[b]? = some (.cells cells ty fz) ∧ n ≤ cells.size ∧ ∀ j, j < cells.size → ¬ (fz.1 ≤ j ∧ j < fz.2)
def PlainT (w : World) (b : Nat) (ty : TypeId) : Prop := ∃ cells, w.heap[b]? = some (.cells cells ty (0, 0))
def Whole (w : World) (b : Nat) (ty : TypeId) (n : Nat) : Prop := ∃ cells, w.heap[b]? = some (.cells cells ty (0, 0)) ∧ cells.size = n
def Plain (w : World) (b : Nat) : Prop := ∃ cells ty, w.heap[b]? = some (.cells cells ty (0, 0))
abbrev Here (μ : List (List Place)) (β : Nat) : Prop := ∃ (ps : List Place) (p : Place), μ[β]? = some ps ∧ p ∈ ps
inductive R (I : Nat → Nat → Prop) (μ : List (List Place)) (w : World) : Bool → List CV → List Value → Prop
  | nil (one : Bool) : R I μ w one [] []
  | bool {one cs vs} (b : Bool) (tl : R I μ w one cs vs) : R I μ w one (.bool b :: cs) (.bool b :: vs)
  | int {one cs vs} (k : IntKind) (n : Int) (tl : R I μ w one cs vs) : R I μ w one (.int k n :: cs) (.int k n :: vs)
  | str {one cs vs} (s : List UInt8) (tl : R I μ w one cs vs) : R I μ w one (.str s :: cs) (.string ⟨s.toArray⟩ :: vs)
  | nilP {one cs vs} (tl : R I μ w one cs vs) : R I μ w one (.nilP :: cs) (.pointer none :: vs)
  | nilS {one cs vs} (tl : R I μ w one cs vs) : R I μ w one (.nilS :: cs) (.slice none 0 0 :: vs)
  | nilF {one cs vs} (tl : R I μ w one cs vs) : R I μ w one (.nilF :: cs) (.nilFunc :: vs)
  | nilI {one cs vs} (tl : R I μ w one cs vs) : R I μ w one (.nilI :: cs) (.nilIface :: vs)
  | raw {one cs vs} (v : Value) (h1 : one = true → v.oneCell' = true) (tl : R I μ w one cs vs) : R I μ w one (.raw v :: cs) (v :: vs)
  | agg {cs vs as_ bs} (h : R I μ w true as_ bs) (tl : R I μ w false cs vs) : R I μ w false (.agg as_ :: cs) (.agg bs.toArray :: vs)
  | tup {cs vs as_ bs} (h : R I μ w false as_ bs) (tl : R I μ w false cs vs) : R I μ w false (.tup as_ :: cs) (.tuple bs.toArray :: vs)
  | lst {one cs vs as_ bs} (n : Nat) (full : Bool) (b o cap : Nat) (h : R I μ w true as_ bs) (hm : ∀ j v, bs[j]? = some v → w.cell? ⟨b, o + j, none⟩ = some v ∧ I b (o + j))
      (hn : n ≤ cap) (hf : full = true → cap = n) (tl : R I μ w one cs vs) : R I μ w one (.lst n as_ full :: cs) (.slice (some ⟨b, o, none⟩) n cap :: vs)
  | lstE {one cs vs} (full : Bool) (A : Option Addr) (tl : R I μ w one cs vs) : R I μ w one (.lst 0 [] full :: cs) (.slice A 0 0 :: vs)
  | view {one cs vs} (β off n sz : Nat) (full : Bool) (ps : List Place) (p : Place) (cap : Nat) (hb : μ[β]? = some ps) (hp : p ∈ ps) (hlo : p.lo ≤ off) (hk : off + n * sz ≤ p.k)
      (hn : n ≤ cap) (hf : full = true → cap = n) (hr : Free w p.b (p.o + (off - p.lo) + cap * sz)) (tl : R I μ w one cs vs) : R I μ w one (.view β off n sz full :: cs) (.slice (some ⟨p.b, p.o + (off - p.lo), none⟩) n cap :: vs)
  | viewE {one cs vs} (β off sz : Nat) (full : Bool) (A : Option Addr) (hb : Here μ β) (tl : R I μ w one cs vs) : R I μ w one (.view β off 0 sz full :: cs) (.slice A 0 0 :: vs)
  | cview {one cs vs} (β off n cap sz : Nat) (ps : List Place) (p : Place) (hb : μ[β]? = some ps) (hp : p ∈ ps) (hlo : p.lo ≤ off) (hk : off + cap * sz ≤ p.k)
      (hn : n ≤ cap) (hpl : Plain w p.b) (tl : R I μ w one cs vs) : R I μ w one (.cview β off n cap sz :: cs) (.slice (some ⟨p.b, p.o + (off - p.lo), none⟩) n cap :: vs)
  | cviewE {one cs vs} (β off sz : Nat) (A : Option Addr) (hb : Here μ β) (tl : R I μ w one cs vs) : R I μ w one (.cview β off 0 0 sz :: cs) (.slice A 0 0 :: vs)
  | bview {one cs vs} (β n : Nat) (ty : TypeId) (ps : List Place) (p : Place) (cap : Nat) (hb : μ[β]? = some ps) (hp : p ∈ ps) (hlo : p.lo = 0) (ho : p.o = 0) (hk : n ≤ p.k) (hn : n ≤ cap) (hc : cap ≠ 0)
      (hr : Free w p.b cap) (hpl : PlainT w p.b ty) (tl : R I μ w one cs vs) : R I μ w one (.bview β n ty :: cs) (.slice (some ⟨p.b, 0, none⟩) n cap :: vs)
  | ptr {one cs vs} (β off : Nat) (ps : List Place) (p : Place) (hb : μ[β]? = some ps) (hp : p ∈ ps) (hlo : p.lo ≤ off) (tl : R I μ w one cs vs) :
      R I μ w one (.ptr β off :: cs) (.pointer (some ⟨p.b, p.o + (off - p.lo), none⟩) :: vs)
  | iptr {one cs vs as_ bs} (b o : Nat) (h : R I μ w true as_ bs) (hm : ∀ j v, bs[j]? = some v → w.cell? ⟨b, o + j, none⟩ = some v ∧ I b (o + j)) (tl : R I μ w one cs vs) :
      R I μ w one (.iptr as_ :: cs) (.pointer (some ⟨b, o, none⟩) :: vs)
  | fn {one cs vs as_ bs as_' bs'} (f : Fn) (h : R I μ w false as_ bs) (h' : R I μ w false as_' bs') (tl : R I μ w one cs vs) : R I μ w one (.fn f as_ as_' :: cs) (.func f bs.toArray bs'.toArray :: vs)
  | iface {one cs vs c v} (t : TypeId) (h : R I μ w false [c] [v]) (tl : R I μ w one cs vs) : R I μ w one (.iface t c :: cs) (.iface t v :: vs)
  | imap {one cs vs ks xs} (r : Nat) (es : Array MapEntry) (clock : Nat) (h : R I μ w false ks (es.toList.map (·.key))) (h' : R I μ w false xs (es.toList.map (·.val))) (hm : w.heap[r]? = some (.map es clock)) (hi : I r 0) (tl : R I μ w one cs vs) :
      R I μ w one (.imap ks xs :: cs) (.map (some r) :: vs)
  | bptr {one cs vs} (β : Nat) (ty : TypeId) (n : Nat) (ps : List Place) (p : Place) (hb : μ[β]? = some ps) (hp : p ∈ ps) (hlo : p.lo = 0) (ho : p.o = 0) (hw : Whole w p.b ty n) (tl : R I μ w one cs vs) : R I μ w one (.bptr β ty n :: cs) (.pointer (some ⟨p.b, 0, none⟩) :: vs)
abbrev V (I : Nat → Nat → Prop) (μ : List (List Place)) (w : World) (c : CV) (v : Value) : Prop := R I μ w false [c] [v]
section
variable {I I' : Nat → Nat → Prop} {μ μ' : List (List Place)} {w w' : World}
structure Keep (I : Nat → Nat → Prop) (μ : List (List Place)) (w : World) (I' : Nat → Nat → Prop) (μ' : List (List Place)) (w' : World) : Prop where
  imm : ∀ b j, I b j → I' b j
  same : ∀ b j, I b j → w'.cell? ⟨b, j, none⟩ = w.cell? ⟨b, j, none⟩
  free : ∀ b n, Free w b n → Free w' b n
  plain : ∀ {ty : TypeId} {n : Nat} (b : Nat), Whole w b ty n → Whole w' b ty n
  grow : ∀ (β : Nat) (ps : List Place), μ[β]? = some ps → ∃ ps', μ'[β]? = some ps' ∧ ∀ p ∈ ps, p ∈ ps'
  maps : ∀ (r : Nat) (es : Array MapEntry) (clock : Nat), I r 0 → w.heap[r]? = some (.map es clock) → w'.heap[r]? = some (.map es clock)
def Oth (w w' : World) : Prop := ∀ (b : Nat) (o : Obj), w.heap[b]? = some o → o.isCells = false → w'.heap[b]? = some o
structure Ext (I : Nat → Nat → Prop) (μ : List (List Place)) (w : World) (I' : Nat → Nat → Prop) (μ' : List (List Place)) (w' : World) : Prop extends Keep I μ w I' μ' w' where
  size : w.heap.size ≤ w'.heap.size
  more : ∀ (β : Nat) (ps ps' : List Place), μ[β]? = some ps → μ'[β]? = some ps' → ∀ p ∈ ps', (∃ p0 ∈ ps, p0.b = p.b) ∨ w.heap.size ≤ p.b
  news : ∀ (β : Nat) (ps : List Place), μ.length ≤ β → μ'[β]? = some ps → ∀ p ∈ ps, w.heap.size ≤ p.b
  immN : ∀ b j, I' b j → I b j ∨ w.heap.size ≤ b ∨ ∃ (β : Nat) (ps : List Place) (p : Place), μ[β]? = some ps ∧ p ∈ ps ∧ p.b = b
  gone : ∀ β : Nat, μ[β]? = some [] → μ'[β]? = some []
  oth : Oth w w'
theorem Keep.plainT (h : Keep I μ w I' μ' w') {b : Nat} {ty : TypeId} : PlainT w b ty → PlainT w' b ty := fun ⟨c, h1⟩ => let ⟨c', h2, _⟩ := h.plain b ⟨c, h1, rfl⟩; ⟨c', h2⟩
theorem Keep.plain' (h : Keep I μ w I' μ' w') {b : Nat} : Plain w b → Plain w' b := fun ⟨c, t, h1⟩ => let ⟨c', h2⟩ := h.plainT ⟨c, h1⟩; ⟨c', t, h2⟩
theorem more_refl (μ : List (List Place)) (w : World) (β : Nat) (ps ps' : List Place) (h : μ[β]? = some ps) (h' : μ[β]? = some ps') (p : Place) (hp : p ∈ ps') : (∃ p0 ∈ ps, p0.b = p.b) ∨ w.heap.size ≤ p.b := by
  rw [h] at h'; simp at h'; subst h'; exact .inl ⟨p, hp, rfl⟩
theorem news_refl (μ : List (List Place)) (w : World) (β : Nat) (ps : List Place) (h : μ.length ≤ β) (h' : μ[β]? = some ps) (p : Place) (_ : p ∈ ps) : w.heap.size ≤ p.b := by
  have := (List.getElem?_eq_some_iff.1 h').1; omega
theorem Keep.refl (I : Nat → Nat → Prop) (μ : List (List Place)) (w : World) : Keep I μ w I μ w := ⟨fun _ _ h => h, fun _ _ _ => rfl, fun _ _ h => h, fun _ h => h, fun _ ps h => ⟨ps, h, fun _ h => h⟩, fun _ _ _ _ h => h⟩
theorem Ext.refl (I : Nat → Nat → Prop) (μ : List (List Place)) (w : World) : Ext I μ w I μ w := ⟨.refl I μ w, Nat.le_refl _, more_refl μ w, news_refl μ w, fun _ _ h => .inl h, fun _ h => h, fun _ _ h _ => h⟩
theorem Keep.len (h : Keep I μ w I' μ' w') {β : Nat} (hb : β < μ.length) : β < μ'.length := by
  obtain ⟨ps', h1, _⟩ := h.grow β μ[β] (by simp [hb])
  exact (List.getElem?_eq_some_iff.1 h1).1
theorem Keep.here (h : Keep I μ w I' μ' w') {β : Nat} : Here μ β → Here μ' β := fun ⟨ps, p, h1, h2⟩ => let ⟨ps', h3, h4⟩ := h.grow β ps h1; ⟨ps', p, h3, h4 p h2⟩
theorem Keep.trans {I'' : Nat → Nat → Prop} {μ'' : List (List Place)} {w'' : World} (h : Keep I μ w I' μ' w') (k : Keep I' μ' w' I'' μ'' w'') : Keep I μ w I'' μ'' w'' :=
  ⟨fun b j x => k.imm b j (h.imm b j x), fun b j x => (k.same b j (h.imm b j x)).trans (h.same b j x), fun b n x => k.free b n (h.free b n x), fun b x => k.plain b (h.plain b x), fun β ps x =>
    let ⟨ps', a, b⟩ := h.grow β ps x; let ⟨ps'', a', b'⟩ := k.grow β ps' a; ⟨ps'', a', fun p hp => b' p (b p hp)⟩, fun r es c hi x => k.maps r es c (h.imm r 0 hi) (h.maps r es c hi x)⟩
theorem Ext.trans {I'' : Nat → Nat → Prop} {μ'' : List (List Place)} {w'' : World} (h : Ext I μ w I' μ' w') (k : Ext I' μ' w' I'' μ'' w'') : Ext I μ w I'' μ'' w'' := by
  refine ⟨h.toKeep.trans k.toKeep, Nat.le_trans h.size k.size, fun β ps ps'' x x'' p hp => ?_, fun β ps hβ x p hp => ?_, fun b j hj => ?_, fun β hβ => k.gone β (h.gone β hβ), fun b o h1 h2 => k.oth b o (h.oth b o h1 h2) h2⟩
  rotate_right
  · rcases k.immN b j hj with h1 | h1 | ⟨β, ps, p, h1, h2, h3⟩
    · exact h.immN b j h1
    · exact .inr (.inl (by have := h.size; omega))
    · rcases Nat.lt_or_ge β μ.length with hl | hl
      · rcases h.more β μ[β] ps (by simp [hl]) h1 p h2 with ⟨p0, h4, h5⟩ | h4
        · exact .inr (.inr ⟨β, μ[β], p0, by simp [hl], h4, by omega⟩)
        · exact .inr (.inl (by omega))
      · have := h.news β ps hl h1 p h2
        exact .inr (.inl (by omega))
  · obtain ⟨ps', a, b⟩ := h.grow β ps x
    rcases k.more β ps' ps'' a x'' p hp with ⟨p0, h0, e0⟩ | h1
    · rcases h.more β ps ps' x a p0 h0 with ⟨p1, h1, e1⟩ | h1
      · exact .inl ⟨p1, h1, by omega⟩
      · exact .inr (by omega)
    · exact .inr (by have := h.size; omega)
  · rcases Nat.lt_or_ge β μ'.length with hl | hl
    · have hn := h.news β μ'[β] hβ (by simp [hl])
      rcases k.more β μ'[β] ps (by simp [hl]) x p hp with ⟨p0, h0, e0⟩ | h1
      · have := hn p0 h0; omega
      · have := h.size; omega
    · have := k.news β ps hl x p hp
      have := h.size; omega
theorem R.ext {one : Bool} {cs : List CV} {vs : List Value} (h : R I μ w one cs vs) (e : Keep I μ w I' μ' w') : R I' μ' w' one cs vs := by
  induction h with
  | nil one => exact .nil one
  | bool b _ ih => exact .bool b ih
  | int k n _ ih => exact .int k n ih
  | str s _ ih => exact .str s ih
  | nilP _ ih => exact .nilP ih
  | nilS _ ih => exact .nilS ih
  | nilF _ ih => exact .nilF ih
  | nilI _ ih => exact .nilI ih
  | raw v h1 _ ih => exact .raw v h1 ih
  | agg _ _ ih1 ih2 => exact .agg ih1 ih2
  | tup _ _ ih1 ih2 => exact .tup ih1 ih2
  | lst n full b o cap _ hm hn hf _ ih1 ih2 => exact .lst n full b o cap ih1 (fun j v hj => ⟨(e.same _ _ (hm j v hj).2).trans (hm j v hj).1, e.imm _ _ (hm j v hj).2⟩) hn hf ih2
  | lstE full A _ ih => exact .lstE full A ih
  | view β off n sz full ps p cap hb hp hlo hk hn hf hr _ ih =>
    obtain ⟨ps', h1, h2⟩ := e.grow β ps hb
    exact .view β off n sz full ps' p cap h1 (h2 p hp) hlo hk hn hf (e.free _ _ hr) ih
  | viewE β off sz full A hb _ ih => exact .viewE β off sz full A (e.here hb) ih
  | cview β off n cap sz ps p hb hp hlo hk hn hpl _ ih =>
    obtain ⟨ps', h1, h2⟩ := e.grow β ps hb
    exact .cview β off n cap sz ps' p h1 (h2 p hp) hlo hk hn (e.plain' hpl) ih
  | cviewE β off sz A hb _ ih => exact .cviewE β off sz A (e.here hb) ih
  | bview β n ty ps p cap hb hp hlo ho hk hn hc hr hpl _ ih =>
    obtain ⟨ps', h1, h2⟩ := e.grow β ps hb
    exact .bview β n ty ps' p cap h1 (h2 p hp) hlo ho hk hn hc (e.free _ _ hr) (e.plainT hpl) ih
  | ptr β off ps p hb hp hlo _ ih =>
    obtain ⟨ps', h1, h2⟩ := e.grow β ps hb
    exact .ptr β off ps' p h1 (h2 p hp) hlo ih
  | iptr b o _ hm _ ih1 ih2 => exact .iptr b o ih1 (fun j v hj => ⟨(e.same _ _ (hm j v hj).2).trans (hm j v hj).1, e.imm _ _ (hm j v hj).2⟩) ih2
  | fn f _ _ _ ih1 ih2 ih3 => exact .fn f ih1 ih2 ih3
  | iface t _ _ ih1 ih2 => exact .iface t ih1 ih2
  | imap r es clock _ _ hm hi _ ih1 ih2 ih3 => exact .imap r es clock ih1 ih2 (e.maps r es clock hi hm) (e.imm r 0 hi) ih3
  | bptr β ty n ps p hb hp hlo ho hw _ ih =>
    obtain ⟨ps', h1, h2⟩ := e.grow β ps hb
    exact .bptr β ty n ps' p h1 (h2 p hp) hlo ho (e.plain _ hw) ih
theorem R.len {one : Bool} {cs : List CV} {vs : List Value} (h : R I μ w one cs vs) : cs.length = vs.length := by
  induction h <;> simp_all
theorem R.cons {one : Bool} {c : CV} {v : Value} {cs : List CV} {vs : List Value} (h : V I μ w c v) (h1 : one = true → v.oneCell' = true) (tl : R I μ w one cs vs) : R I μ w one (c :: cs) (v :: vs) := by
  cases h with
  | bool b _ => exact .bool b tl
  | int k n _ => exact .int k n tl
  | str s _ => exact .str s tl
  | nilP _ => exact .nilP tl
  | nilS _ => exact .nilS tl
  | nilF _ => exact .nilF tl
  | nilI _ => exact .nilI tl
  | raw v _ _ => exact .raw v h1 tl
  | agg h _ => cases one with
    | false => exact .agg h tl
    | true => exact absurd (h1 rfl) (by simp [Value.oneCell'])
  | tup h _ => cases one with
    | false => exact .tup h tl
    | true => exact absurd (h1 rfl) (by simp [Value.oneCell'])
  | lst n full b o cap h hm hn hf _ => exact .lst n full b o cap h hm hn hf tl
  | lstE full A _ => exact .lstE full A tl
  | view β off n sz full ps p cap hb hp hlo hk hn hf hr _ => exact .view β off n sz full ps p cap hb hp hlo hk hn hf hr tl
  | viewE β off sz full A hb _ => exact .viewE β off sz full A hb tl
  | cview β off n cap sz ps p hb hp hlo hk hn hpl _ => exact .cview β off n cap sz ps p hb hp hlo hk hn hpl tl
  | cviewE β off sz A hb _ => exact .cviewE β off sz A hb tl
  | bview β n ty ps p cap hb hp hlo ho hk hn hc hr hpl _ => exact .bview β n ty ps p cap hb hp hlo ho hk hn hc hr hpl tl
  | ptr β off ps p hb hp hlo _ => exact .ptr β off ps p hb hp hlo tl
  | iptr b o h hm _ => exact .iptr b o h hm tl
  | fn f h h' _ => exact .fn f h h' tl
  | iface t h _ => exact .iface t h tl
  | imap r es clock h h' hm hi _ => exact .imap r es clock h h' hm hi tl
  | bptr β ty n ps p hb hp hlo ho hw _ => exact .bptr β ty n ps p hb hp hlo ho hw tl
theorem R.head {one : Bool} {c : CV} {v : Value} {cs : List CV} {vs : List Value} (h : R I μ w one (c :: cs) (v :: vs)) : V I μ w c v ∧ (one = true → v.oneCell' = true) ∧ R I μ w one cs vs := by
  cases h with
  | bool b tl => exact ⟨.bool b (.nil _), fun _ => rfl, tl⟩
  | int k n tl => exact ⟨.int k n (.nil _), fun _ => rfl, tl⟩
  | str s tl => exact ⟨.str s (.nil _), fun _ => rfl, tl⟩
  | nilP tl => exact ⟨.nilP (.nil _), fun _ => rfl, tl⟩
  | nilS tl => exact ⟨.nilS (.nil _), fun _ => rfl, tl⟩
  | nilF tl => exact ⟨.nilF (.nil _), fun _ => rfl, tl⟩
  | nilI tl => exact ⟨.nilI (.nil _), fun _ => rfl, tl⟩
  | raw v h1 tl => exact ⟨.raw v (by simp) (.nil _), h1, tl⟩
  | agg h tl => exact ⟨.agg h (.nil _), by simp, tl⟩
  | tup h tl => exact ⟨.tup h (.nil _), by simp, tl⟩
  | lst n full b o cap h hm hn hf tl => exact ⟨.lst n full b o cap h hm hn hf (.nil _), fun _ => rfl, tl⟩
  | lstE full A tl => exact ⟨.lstE full A (.nil _), fun _ => rfl, tl⟩
  | view β off n sz full ps p cap hb hp hlo hk hn hf hr tl => exact ⟨.view β off n sz full ps p cap hb hp hlo hk hn hf hr (.nil _), fun _ => rfl, tl⟩
  | viewE β off sz full A hb tl => exact ⟨.viewE β off sz full A hb (.nil _), fun _ => rfl, tl⟩
  | cview β off n cap sz ps p hb hp hlo hk hn hpl tl => exact ⟨.cview β off n cap sz ps p hb hp hlo hk hn hpl (.nil _), fun _ => rfl, tl⟩
  | cviewE β off sz A hb tl => exact ⟨.cviewE β off sz A hb (.nil _), fun _ => rfl, tl⟩
  | bview β n ty ps p cap hb hp hlo ho hk hn hc hr hpl tl => exact ⟨.bview β n ty ps p cap hb hp hlo ho hk hn hc hr hpl (.nil _), fun _ => rfl, tl⟩
  | ptr β off ps p hb hp hlo tl => exact ⟨.ptr β off ps p hb hp hlo (.nil _), fun _ => rfl, tl⟩
  | iptr b o h hm tl => exact ⟨.iptr b o h hm (.nil _), fun _ => rfl, tl⟩
  | fn f h h' tl => exact ⟨.fn f h h' (.nil _), fun _ => rfl, tl⟩
  | iface t h tl => exact ⟨.iface t h (.nil _), fun _ => rfl, tl⟩
  | imap r es clock h h' hm hi tl => exact ⟨.imap r es clock h h' hm hi (.nil _), fun _ => rfl, tl⟩
  | bptr β ty n ps p hb hp hlo ho hw tl => exact ⟨.bptr β ty n ps p hb hp hlo ho hw (.nil _), fun _ => rfl, tl⟩
theorem R.nil_iff {one : Bool} {vs : List Value} : R I μ w one [] vs ↔ vs = [] :=
  ⟨fun h => by cases h; rfl, fun h => by subst h; exact .nil _⟩
theorem R.cons_iff {one : Bool} {c : CV} {cs : List CV} {vs : List Value} : R I μ w one (c :: cs) vs ↔ ∃ v vs', vs = v :: vs' ∧ V I μ w c v ∧ (one = true → v.oneCell' = true) ∧ R I μ w one cs vs' := by
  constructor
  · intro h
    cases vs with
    | nil => cases h
    | cons v vs => exact ⟨v, vs, rfl, h.head⟩
  · rintro ⟨v, vs', rfl, h1, h2, h3⟩; exact .cons h1 h2 h3
theorem R.append {one : Bool} {cs cs' : List CV} {vs vs' : List Value} (h : R I μ w one cs vs) (h' : R I μ w one cs' vs') : R I μ w one (cs ++ cs') (vs ++ vs') := by
  induction cs generalizing vs with
  | nil => rw [R.nil_iff] at h; subst h; exact h'
  | cons c cs ih =>
    obtain ⟨v, vs, rfl, h1, h2, h3⟩ := R.cons_iff.1 h
    exact .cons h1 h2 (ih h3)
theorem R.drop {one : Bool} {cs : List CV} {vs : List Value} (h : R I μ w one cs vs) (n : Nat) : R I μ w one (cs.drop n) (vs.drop n) := by
  induction n generalizing cs vs with
  | zero => exact h
  | succ n ih =>
    cases cs with
    | nil => rw [R.nil_iff] at h; subst h; exact .nil _
    | cons c cs =>
      obtain ⟨v, vs, rfl, h1, h2, h3⟩ := R.cons_iff.1 h
      exact ih h3
theorem R.take {one : Bool} {cs : List CV} {vs : List Value} (h : R I μ w one cs vs) (n : Nat) : R I μ w one (cs.take n) (vs.take n) := by
  induction n generalizing cs vs with
  | zero => exact .nil _
  | succ n ih =>
    cases cs with
    | nil => rw [R.nil_iff] at h; subst h; exact .nil _
    | cons c cs =>
      obtain ⟨v, vs, rfl, h1, h2, h3⟩ := R.cons_iff.1 h
      exact .cons h1 h2 (ih h3)
theorem R.get {one : Bool} {cs : List CV} {vs : List Value} (h : R I μ w one cs vs) {i : Nat} {c : CV} (hi : cs[i]? = some c) : ∃ v, vs[i]? = some v ∧ V I μ w c v ∧ (one = true → v.oneCell' = true) := by
  have h1 := h.drop i
  rw [List.drop_eq_getElem_cons (List.getElem?_eq_some_iff.1 hi).1] at h1
  obtain ⟨v, vs', h2, h3, h4, _⟩ := R.cons_iff.1 h1
  refine ⟨v, ?_, ?_, h4⟩
  · have := congrArg (·[0]?) h2
    simpa using this
  · rwa [(List.getElem?_eq_some_iff.1 hi).2] at h3
theorem R.weak {one : Bool} {cs : List CV} {vs : List Value} (h : R I μ w one cs vs) : R I μ w false cs vs := by
  induction cs generalizing vs with
  | nil => rw [R.nil_iff] at h; subst h; exact .nil _
  | cons c cs ih =>
    obtain ⟨v, vs, rfl, h1, h2, h3⟩ := R.cons_iff.1 h
    exact .cons h1 (by simp) (ih h3)
theorem R.oneCells {cs : List CV} {vs : List Value} (h : R I μ w true cs vs) : ∀ v ∈ vs, v.oneCell' = true := by
  induction cs generalizing vs with
  | nil => rw [R.nil_iff] at h; subst h; simp
  | cons c cs ih =>
    obtain ⟨v, vs, rfl, h1, h2, h3⟩ := R.cons_iff.1 h
    intro u hu
    rcases List.mem_cons.1 hu with rfl | hu
    · exact h2 rfl
    · exact ih h3 u hu
end
end Go.Sy
end
section
namespace Go.Sy
open Go.RowKit (Below)
mutual
def ofV : Value → CV
  | .bool b => .bool b
  | .int k n => .int k n
  | .string ⟨⟨s⟩⟩ => .str s
  | .pointer none => .nilP
  | .slice none 0 0 => .nilS
  | .nilFunc => .nilF
  | .nilIface => .nilI
  | .agg ⟨l⟩ => if l.all (·.oneCell') then .agg (ofVL l) else .raw (.agg ⟨l⟩)
  | .tuple ⟨l⟩ => .tup (ofVL l)
  | .func f ⟨a⟩ ⟨b⟩ => .fn f (ofVL a) (ofVL b)
  | .iface t v => .iface t (ofV v)
  | v => .raw v
def ofVL : List Value → List CV
  | [] => []
  | v :: l => ofV v :: ofVL l
end
mutual
def toV : CV → Option Value
  | .bool b => some (.bool b)
  | .int k n => some (.int k n)
  | .str s => some (.string ⟨s.toArray⟩)
  | .nilP => some (.pointer none)
  | .nilS => some (.slice none 0 0)
  | .nilF => some .nilFunc
  | .nilI => some .nilIface
  | .raw v => some v
  | .agg cs => (toVL cs).map fun l => .agg l.toArray
  | .tup cs => (toVL cs).map fun l => .tuple l.toArray
  | .iface t c => (toV c).map fun v => .iface t v
  | .fn f a b => match toVL a, toVL b with | some x, some y => some (.func f x.toArray y.toArray) | _, _ => none
  | .lst .. | .view .. | .cview .. | .bview .. | .ptr .. | .iptr _ | .imap .. | .bptr .. => none
def toVL : List CV → Option (List Value)
  | [] => some []
  | c :: l => match toV c, toVL l with | some v, some vs => some (v :: vs) | _, _ => none
end
section
variable {I I' : Nat → Nat → Prop} {μ μ' : List (List Place)} {w w' : World}
theorem R.toVL {one : Bool} {cs : List CV} {vs us : List Value} (h : R I μ w one cs vs) (hu : toVL cs = some us) : us = vs := by
  induction h generalizing us with
  | nil one => simpa [Sy.toVL] using hu.symm
  | bool b _ ih | int k n _ ih | str s _ ih | nilP _ ih | nilS _ ih | nilF _ ih | nilI _ ih | raw v _ _ ih =>
    simp only [Sy.toVL, toV] at hu
    split at hu <;> simp_all
  | agg h tl ih1 ih2 | tup h tl ih1 ih2 =>
    simp only [Sy.toVL, toV] at hu
    split at hu
    · rename_i v vs' e1 e2
      simp only [Option.map_eq_some_iff] at e1
      obtain ⟨l, e1, rfl⟩ := e1
      simp only [Option.some.injEq] at hu
      rw [← hu, ih1 e1, ih2 e2]
    · cases hu
  | iface t h tl ih1 ih2 =>
    simp only [Sy.toVL, toV] at hu
    split at hu
    · rename_i v vs' e1 e2
      simp only [Option.map_eq_some_iff] at e1
      obtain ⟨l, e1, rfl⟩ := e1
      simp only [Option.some.injEq] at hu
      have := ih1 (us := [l]) (by simp [Sy.toVL, e1])
      simp at this
      rw [← hu, ih2 e2, this]
    · cases hu
  | fn f h h' tl ih1 ih2 ih3 =>
    simp only [Sy.toVL, toV] at hu
    split at hu
    · rename_i v vs' e1 e2
      split at e1
      · rename_i x y e3 e4
        simp only [Option.some.injEq] at hu e1
        rw [← hu, ← e1, ih3 e2, ih1 e3, ih2 e4]
      · cases e1
    · cases hu
  | lst | lstE | view | viewE | cview | cviewE | bview | ptr | iptr | imap | bptr => simp [Sy.toVL, toV] at hu
theorem V.toV {c : CV} {v u : Value} (h : V I μ w c v) (hu : toV c = some u) : u = v := by
  have := R.toVL h (us := [u]) (by simp [Sy.toVL, hu])
  simpa using this
mutual
theorem ofV_rel (I : Nat → Nat → Prop) (μ : List (List Place)) (w : World) : ∀ v : Value, V I μ w (ofV v) v
  | .bool b => .bool b (.nil _)
  | .int k n => .int k n (.nil _)
  | .string ⟨⟨s⟩⟩ => .str s (.nil _)
  | .pointer none => .nilP (.nil _)
  | .pointer (some a) => .raw _ (by simp) (.nil _)
  | .slice none 0 0 => .nilS (.nil _)
  | .slice none (n + 1) c => .raw _ (by simp) (.nil _)
  | .slice none 0 (c + 1) => .raw _ (by simp) (.nil _)
  | .slice (some a) n c => .raw _ (by simp) (.nil _)
  | .nilFunc => .nilF (.nil _)
  | .nilIface => .nilI (.nil _)
  | .agg ⟨l⟩ => by
    unfold ofV
    split
    · rename_i h
      exact .agg (bs := l) (ofVL_rel I μ w true l (fun _ => h)) (.nil _)
    · exact .raw _ (by simp) (.nil _)
  | .tuple ⟨l⟩ => .tup (bs := l) (ofVL_rel I μ w false l (by simp)) (.nil _)
  | .func f ⟨a⟩ ⟨b⟩ => .fn f (bs := a) (bs' := b) (ofVL_rel I μ w false a (by simp)) (ofVL_rel I μ w false b (by simp)) (.nil _)
  | .iface t v => .iface t (ofV_rel I μ w v) (.nil _)
  | .float k b => .raw _ (by simp) (.nil _)
  | .complex k a b => .raw _ (by simp) (.nil _)
  | .map r => .raw _ (by simp) (.nil _)
  | .chan r => .raw _ (by simp) (.nil _)
theorem ofVL_rel (I : Nat → Nat → Prop) (μ : List (List Place)) (w : World) (one : Bool) : ∀ l : List Value, (one = true → l.all (·.oneCell') = true) → R I μ w one (ofVL l) l
  | [], _ => .nil _
  | v :: l, h => .cons (ofV_rel I μ w v) (fun h1 => by have := h h1; simp at this; exact this.1) (ofVL_rel I μ w one l (fun h1 => by have := h h1; simp at this ⊢; exact this.2))
end
end
def pureRun {α : Type} (P : Program) : Sem α → Option α
  | .pure a => some a
  | .program k => pureRun P (k P)
  | .mark _ k => pureRun P k
  | _ => none
theorem pureRun_run {α : Type} (P : Program) (s : Sem α) (a : α) (h : pureRun P s = some a) (w : World) : s.run P w = .ok a w := by
  induction s with
  | pure b => simp [pureRun] at h; subst h; rfl
  | program k ih => simp only [pureRun] at h; simp only [Sem.run]; exact ih _ h
  | mark m k ih => simp only [pureRun] at h; simp only [Sem.run]; exact ih h
  | _ => simp [pureRun] at h
theorem pureRun_bind {α β : Type} (P : Program) (s : Sem α) (f : α → Sem β) : pureRun P (s >>= f) = (pureRun P s).bind fun a => pureRun P (f a) := by
  show pureRun P (s.bind f) = _
  induction s with
  | pure b => rfl
  | program k ih => simp only [Sem.bind, pureRun]; exact ih _
  | mark m k ih => simp only [Sem.bind, pureRun]; exact ih
  | _ => rfl
end Go.Sy
end
section
namespace Go.Sy
open Go.RowKit (Below)
abbrev Fr := Nat → CV
def upd (fr : Fr) (d : Option Tmp) (c : CV) : Fr := match d with | some d => fun i => if i = d then c else fr i | none => fr
@[simp] theorem ofV_string (l : List UInt8) : ofV (.string ⟨l.toArray⟩) = .str l := by simp [ofV]
@[simp] theorem ofV_bool (b : Bool) : ofV (.bool b) = .bool b := by simp [ofV]
@[simp] theorem ofV_int (k : IntKind) (n : Int) : ofV (.int k n) = .int k n := by simp [ofV]
@[simp] theorem ofV_nilS : ofV (.slice none 0 0) = .nilS := by simp [ofV]
@[simp] theorem ofV_nilP : ofV (.pointer none) = .nilP := by simp [ofV]
@[simp] theorem ofV_tuple (l : List Value) : ofV (.tuple l.toArray) = .tup (ofVL l) := by simp [ofV]
def opv (fr : Fr) : Operand → CV
  | .tmp t => fr t
  | .const v => ofV v
  | .global g => .raw (.pointer (some ⟨g, 0, none⟩))
  | .func f => .fn (.func f) [] []
def tabC : CV → Option (List CV)
  | .raw (.pointer (some ⟨g, 0, none⟩)) => (tab g).map fun t => t.2.map (.int t.1)
  | _ => none
def evPure (P : Program) (o : Oper) (fr : Fr) : Option CV :=
  if o.op.operands.all fun x => (toV (opv fr x)).isSome then
    match pureRun P (execOp (fun x => (toV (opv fr x)).getD undef) o) with
    | some (.value v) => some (ofV v)
    | _ => none
  else none
def splice (cells : List CV) (off : Nat) (vs : List CV) : List CV := cells.take off ++ vs ++ cells.drop (off + vs.length)
def aggT (P : Program) (t : TypeId) : Bool := match P.underlying t with | some (.struct _) | some (.array _ _) => true | _ => false
def szOf (P : Program) (t : TypeId) : Option Nat := (P.info? t).map (·.size)
def partC (P : Program) (t : TypeId) (cs : List CV) (off : Nat) : Option CV :=
  if (P.underlying t).isNone then none else
  if aggT P t then (szOf P t).map fun n => .agg ((cs.drop off).take n) else cs[off]?
def cellsC : CV → Option (List CV)
  | .agg cs => some cs
  | .tup _ => none
  | .raw v => if v.oneCell' then some [.raw v] else none
  | c => some [c]
def loadC (P : Program) (t : TypeId) (cs : List CV) : Option CV :=
  if (P.underlying t).isNone then none else
  if aggT P t then (szOf P t).bind fun n => if n ≤ cs.length then some (.agg (cs.take n)) else none else cs.head?
def elemT (P : Program) (t : TypeId) : Option TypeId := match P.underlying t with | some (.slice e) => some e | _ => none
def fillC (place : Nat → Option (Nat × Nat)) (cells : List CV) : List (Nat × CV) → Option (List CV)
  | [] => some cells
  | (i, c) :: rest =>
    match place i, cellsC c with
    | some (off, size), some vs => if vs.length ≠ size ∨ off + vs.length > cells.length then none else fillC place (splice cells off vs) rest
    | _, _ => none
def binInt (op : BinOp) (k : IntKind) (a b : Int) : Option CV :=
  match op with
  | .add => some (.int k (k.wrap (a + b)))
  | .sub => some (.int k (k.wrap (a - b)))
  | .mul => some (.int k (k.wrap (a * b)))
  | .quo => if b = 0 then none else some (.int k (k.wrap (a.tdiv b)))
  | .rem => if b = 0 then none else some (.int k (a.tmod b))
  | .and | .or | .xor | .andNot => some (.int k (bits op k a b))
  | .eql => some (.bool (a == b))
  | .neq => some (.bool (a != b))
  | .lss => some (.bool (decide (a < b)))
  | .leq => some (.bool (decide (a ≤ b)))
  | .gtr => some (.bool (decide (b < a)))
  | .geq => some (.bool (decide (b ≤ a)))
  | _ => none
def shiftC (op : BinOp) (k : IntKind) (a b : Int) : Option CV :=
  if b < 0 then none else
  match op with
  | .shl => some (.int k (k.wrap (a * 2 ^ (min b.toNat k.bits))))
  | .shr => some (.int k (a.fdiv (2 ^ (min b.toNat k.bits))))
  | _ => none
def strC (op : BinOp) (a b : List UInt8) : Option CV :=
  match op with
  | .add => if a.length + b.length ≤ 2147483647 then some (.str (a ++ b)) else none
  | .eql => some (.bool (a == b))
  | .neq => some (.bool (!(a == b)))
  | .lss => some (.bool (Op.bytesLess a b))
  | .leq => some (.bool (Op.bytesLess a b || a == b))
  | .gtr => some (.bool (!(Op.bytesLess a b || a == b)))
  | .geq => some (.bool (!Op.bytesLess a b))
  | _ => none
def binC (P : Program) (op : BinOp) (t : TypeId) (x y : CV) : Option (Option CV) :=
  match x, y with
  | .int k a, .int k' b =>
    match op with
    | .shl | .shr => some (shiftC op k a b)
    | _ => if k = k' then some (binInt op k a b) else some none
  | .str a, .str b => some (strC op a b)
  | .bool a, .bool b =>
    match P.underlying t with
    | some .bool => match op with | .eql => some (some (.bool (a == b))) | .neq => some (some (.bool (!(a == b)))) | _ => some none
    | _ => some none
  | .ptr .., .nilP | .iptr .., .nilP =>
    match P.underlying t with
    | some (.pointer _) => match op with | .eql => some (some (.bool false)) | .neq => some (some (.bool true)) | _ => some none
    | _ => some none
  | .lst n _ _, .nilS | .view _ _ n _ _, .nilS | .cview _ _ n _ _, .nilS =>
    match P.underlying t with
    | some (.slice _) => if n = 0 then none else match op with | .eql => some (some (.bool false)) | .neq => some (some (.bool true)) | _ => some none
    | _ => some none
  | .fn .., .nilF =>
    match P.underlying t with
    | some (.func ..) => match op with | .eql => some (some (.bool false)) | .neq => some (some (.bool true)) | _ => some none
    | _ => some none
  | .iface .., .nilI =>
    match P.underlying t with
    | some (.interface _) => match op with | .eql => some (some (.bool false)) | .neq => some (some (.bool true)) | _ => some none
    | _ => some none
  | _, _ => none
def eqV (P : Program) : Nat → TypeId → CV → CV → Option Bool
  | 0, _, _, _ => none
  | d + 1, t, x, y =>
    match P.underlying t, x, y with
    | some .bool, .bool a, .bool b => some (a == b)
    | some (.int _), .int k a, .int k' b => if k = k' then some (a == b) else none
    | some .string, .str a, .str b => some (a == b)
    | some (.array n e), .agg xs, .agg ys => (szOf P e).bind fun sz => (List.range n).foldr (fun i acc => acc.bind fun r => (partC P e xs (i * sz)).bind fun p => (partC P e ys (i * sz)).bind fun q => (eqV P d e p q).map (· && r)) (some true)
    | some (.struct fs), .agg xs, .agg ys => if P.stoodInHeld t then none else fs.toList.foldr (fun f acc => if f.name = "_" then none else acc.bind fun r => (partC P f.type xs f.offset).bind fun p => (partC P f.type ys f.offset).bind fun q => (eqV P d f.type p q).map (· && r)) (some true)
    | _, _, _ => none
def aggEq (P : Program) (op : BinOp) (t : TypeId) (x y : CV) : Option CV :=
  match op, x, y with
  | .eql, .agg _, .agg _ => if P.eqGuardType P.depth t then none else (eqV P 20 t x y).map .bool
  | .neq, .agg _, .agg _ => if P.eqGuardType P.depth t then none else (eqV P 20 t x y).map fun b => .bool (!b)
  | _, _, _ => none
def unC (op : UnOp) (x : CV) : Option (Option CV) :=
  match op, x with
  | .not, .bool b => some (some (.bool (!b)))
  | .neg, .int k n => some (some (.int k (k.wrap (0 - n))))
  | .xor, .int k n => some (some (.int k (bits .xor k (if k.signed then -1 else k.max) n)))
  | _, _ => none
def boundC (x : CV) (y : Nat) : Option Nat := match x with | .int _ i => if 0 ≤ i ∧ i ≤ y then some i.toNat else none | _ => none
def boundsC (n : Nat) (lo hi mx : Option CV) : Option (Nat × Nat × Option Nat) :=
  (match mx with | some m => (boundC m n).map some | none => some none).bind fun m =>
  (match hi with | some h => boundC h (m.getD n) | none => if mx.isSome then none else some n).bind fun h =>
  (match lo with | some l => boundC l h | none => some 0).bind fun l => some (l, h, m)
def boundsK (n cap : Nat) (lo hi : Option CV) : Option (Nat × Nat) :=
  (match hi with | some h => boundC h cap | none => some n).bind fun h =>
  (match lo with | some l => boundC l h | none => some 0).map fun l => (l, h)
def fullC (m : Option Nat) (full : Bool) (h n : Nat) : Bool := match m with | some m => decide (m = h) | none => full && decide (h = n)
def byteC (b : UInt8) : CV := .int .u8 (b.toNat : Int)
def bytesC : List CV → Option (List UInt8)
  | [] => some []
  | .int .u8 n :: l => (bytesC l).map (UInt8.ofNat n.toNat :: ·)
  | _ :: _ => none
def readC (B : List Box) (esz : Nat) : CV → Option (Nat × List CV)
  | .nilS => some (0, [])
  | .lst n cs _ => if n * esz ≤ cs.length then some (n, cs.take (n * esz)) else none
  | .view b off n sz _ => match B[b]? with | some box => if sz = esz then some (n, (box.cells.drop off).take (n * esz)) else none | none => none
  | .cview b off n _ sz => match B[b]? with | some box => if sz = esz then some (n, (box.cells.drop off).take (n * esz)) else none | none => none
  | _ => none
def srcC (B : List Box) (esz : Nat) : CV → Option (Nat × List CV)
  | .str s => if esz = 1 then some (s.length, s.map byteC) else none
  | c => readC B esz c
def zerosOf (P : Program) (t : TypeId) : Option (List CV) := ((P.info? t).bind (·.zero)).bind fun z => cellsC (ofV z)
def repC (zs : List CV) : Nat → List CV
  | 0 => []
  | n + 1 => zs ++ repC zs n
def appendM (P : Program) (e : TypeId) (esz : Nat) (B : List Box) (s : CV) (m : Nat) (news : List CV) : Option (CV × List Box) :=
  if m = 0 then (match s with | .nilS | .lst .. | .view .. | .cview .. => some (s, B) | _ => none) else
  match s with
  | .nilS => if m * P.bytesOf e ≤ 140737488355328 ∧ m ≤ 140737488355328 then some (.view B.length 0 m esz false, B ++ [{ cells := news }]) else none
  | .lst n cs true => if (n + m) * P.bytesOf e ≤ 140737488355328 ∧ n + m ≤ 140737488355328 ∧ cs.length = n * esz then some (.view B.length 0 (n + m) esz false, B ++ [{ cells := cs ++ news }]) else none
  | .view b off n sz full => match B[b]? with
    | none => none
    | some box =>
      if sz = esz ∧ (n + m) * P.bytesOf e ≤ 140737488355328 ∧ n + m ≤ 140737488355328 then
        if full then some (.view B.length 0 (n + m) esz false, B ++ [{ cells := (box.cells.drop off).take (n * esz) ++ news }])
        else if off + n * esz = box.cells.length then some (.view b off (n + m) esz false, B.set b { cells := box.cells ++ news, multi := true }) else none
      else none
  | .cview b off n cap sz => match B[b]? with
    | none => none
    | some box =>
      if sz = esz ∧ (n + m) * P.bytesOf e ≤ 140737488355328 ∧ n + m ≤ 140737488355328 ∧ box.multi = false ∧ off + cap * esz ≤ box.cells.length then
        if n + m ≤ cap then some (.cview b off (n + m) cap esz, B.set b { cells := splice box.cells (off + n * esz) news })
        else some (.view B.length 0 (n + m) esz false, B ++ [{ cells := (box.cells.drop off).take (n * esz) ++ news }])
      else none
  | _ => none
def appendC (P : Program) (ts : TypeId) (B : List Box) (s x : CV) : Option (CV × List Box) :=
  (elemT P ts).bind fun e => (szOf P e).bind fun esz => (srcC B esz x).bind fun (m, news) =>
  match (P.info? e).bind (·.zero) with
  | none => none
  | some z => if z.cells.size ≠ esz ∨ esz = 0 then none else appendM P e esz B s m news
def appendZ (P : Program) (ts : TypeId) (B : List Box) (s : CV) (m : Nat) : Option (CV × List Box) :=
  (elemT P ts).bind fun e => (szOf P e).bind fun esz => (zerosOf P e).bind fun zs =>
  if zs.length ≠ esz ∨ esz = 0 then none else appendM P e esz B s m (repC zs m)
def writeC (B : List Box) (d : CV) (n : Nat) (vs : List CV) : Option (List Box) :=
  if n = 0 then (match d with | .nilS | .lst .. | .view .. | .cview .. => some B | _ => none) else
  match d with
  | .cview b off _ _ _ => match B[b]? with
    | some box => if box.multi = false ∧ off + vs.length ≤ box.cells.length then some (B.set b { cells := splice box.cells off vs }) else none
    | none => none
  | .view b off _ _ _ => match B[b]? with
    | some box => if box.multi = false ∧ off + vs.length ≤ box.cells.length then some (B.set b { cells := splice box.cells off vs }) else none
    | none => none
  | _ => none
def builtinC (P : Program) (o : Oper) (fr : Fr) (B : List Box) (b : Builtin) (ts : List TypeId) (args : List CV) : Option (CV × List Box) :=
  match b, ts, args with
  | .len, [t], [x] =>
    match x with
    | .nilS => if (elemT P t).isSome then some (.int .i64 0, B) else none
    | .lst n _ _ => if (elemT P t).isSome then some (.int .i64 n, B) else none
    | .view _ _ n _ _ => if (elemT P t).isSome then some (.int .i64 n, B) else none
    | .cview _ _ n _ _ => if (elemT P t).isSome then some (.int .i64 n, B) else none
    | .str s => match P.underlying t with | some .string => some (.int .i64 s.length, B) | _ => none
    | _ => match P.underlying t with | some (.array n _) => some (.int .i64 n, B) | _ => none
  | .cap, [t], [x] => match x with
    | .cview _ _ _ c _ => if (elemT P t).isSome then some (.int .i64 c, B) else none
    | _ => (evPure P o fr).map (·, B)
  | .append, [t, tx], [s, x] => match P.underlying tx with | some (.int _) => (match x with | .int _ k => if 0 ≤ k then appendZ P t B s k.toNat else none | _ => none) | some (.slice _) => (match x with | .str _ => none | _ => appendC P t B s x) | some .string => appendC P t B s x | _ => none
  | .copy, [t, _], [d, x] =>
    (elemT P t).bind fun e => (szOf P e).bind fun esz => (srcC B esz x).bind fun (m, news) => (match d with | .nilS => some 0 | .lst n _ _ => some n | .view _ _ n _ _ => some n | .cview _ _ n _ _ => some n | _ => none).bind fun dn =>
    (writeC B d (min m dn) (news.take (min m dn * esz))).map fun B' => (.int .i64 (min m dn : Nat), B')
  | .clear, [t], [d] =>
    (elemT P t).bind fun e => (zerosOf P e).bind fun zs => (szOf P e).bind fun esz => if zs.length ≠ esz then none else (match d with | .nilS => some 0 | .lst n _ _ => some n | .view _ _ n _ _ => some n | .cview _ _ n _ _ => some n | _ => none).bind fun dn =>
    (writeC B d dn (repC zs dn)).map fun B' => (.tup [], B')
  | .min, [_, _], [.int k a, .int _ b] => some (.int k (min a b), B)
  | .max, [_, _], [.int k a, .int _ b] => some (.int k (max a b), B)
  | _, _, _ => (evPure P o fr).map (·, B)
def sameC : TypeDesc → CV → CV → Option Bool
  | .int _, .int k a, .int k' b => if k = k' then some (a == b) else none
  | .string, .str a, .str b => some (a == b)
  | _, _, _ => none
def findC (d : TypeDesc) (k : CV) : List CV → List CV → Option (Option CV)
  | [], [] => some none
  | k' :: ks, x :: xs => match sameC d k k' with | some true => some (some x) | some false => findC d k ks xs | none => none
  | _, _ => none
def zvalC (P : Program) (t : TypeId) : Option CV := ((P.info? t).bind (·.zero)).map ofV
def lookC (P : Program) (t : TypeId) (x i : CV) (ok : Bool) : Option CV :=
  match P.underlying t, x with
  | some (.map kt e), .imap ks xs => if ks.isEmpty then none else (P.underlying kt).bind fun d => match findC d i ks xs with
    | some (some c) => some (if ok then .tup [c, .bool true] else c)
    | some none => (zvalC P e).map fun z => if ok then .tup [z, .bool false] else z
    | none => none
  | _, _ => none
def ev (P : Program) (o : Oper) (fr : Fr) (B : List Box) : Option (CV × List Box) :=
  match o.op with
  | .move x | .assign x => some (opv fr x, B)
  | .pick c a b => match opv fr c with | .bool t => some (if t then opv fr a else opv fr b, B) | _ => none
  | .binOp op t x y _ => match binC P op t (opv fr x) (opv fr y) with | some r => r.map (·, B) | none => match aggEq P op t (opv fr x) (opv fr y) with | some c => some (c, B) | none => (evPure P o fr).map (·, B)
  | .unOp op _ x => match unC op (opv fr x) with | some r => r.map (·, B) | none => (evPure P o fr).map (·, B)
  | .convert src dst x =>
    match opv fr x, P.underlying src, P.underlying dst with
    | .int _ n, some _, some (.int k) => some (.int k (k.wrap n), B)
    | .str s, some _, some .string => some (.str s, B)
    | .str s, some _, some (.slice e) => match P.underlying e with | some (.int .u8) => some (.view B.length 0 s.length 1 false, B ++ [{ cells := s.map byteC }]) | _ => none
    | c, some (.slice e), some .string => match P.underlying e with | some (.int .u8) => (readC B 1 c).bind fun (_, cs) => (bytesC cs).map fun l => (.str l, B) | _ => none
    | _, _, _ => (evPure P o fr).map (·, B)
  | .extract x i => match opv fr x with | .tup cs => cs[i]?.map (·, B) | _ => none
  | .field t x i => match opv fr x, P.underlying t with | .agg cs, some (.struct fs) => (fs[i]?).bind fun f => (partC P f.type cs f.offset).map (·, B) | _, _ => none
  | .index t x i =>
    match opv fr x, opv fr i, P.underlying t with
    | .str s, .int _ i, some .string => if 0 ≤ i then (s[i.toNat]?).map fun b => (byteC b, B) else none
    | .agg cs, .int _ i, some (.array n e) => if 0 ≤ i ∧ i < n then (szOf P e).bind fun esz => (partC P e cs (i.toNat * esz)).map (·, B) else none
    | _, _, _ => none
  | .build t parts =>
    (zerosOf P t).bind fun zs =>
    match P.underlying t with
    | some (.struct fs) => if fs.toList.all (fun f => (szOf P f.type).isSome) = false then none else (fillC (fun i => (fs[i]?).bind fun f => (szOf P f.type).map (f.offset, ·)) zs (parts.toList.map fun p => (p.1, opv fr p.2))).map fun cs => (.agg cs, B)
    | some (.array _ e) => (szOf P e).bind fun esz => (fillC (fun i => some (i * esz, esz)) zs (parts.toList.map fun p => (p.1, opv fr p.2))).map fun cs => (.agg cs, B)
    | _ => none
  | .buildSlice t n parts =>
    (elemT P t).bind fun e => (szOf P e).bind fun esz => if n * esz > 65536 ∨ esz = 0 then none else (zerosOf P e).bind fun zs => if zs.length ≠ esz then none else
    (fillC (fun i => some (i * esz, esz)) (repC zs n) (parts.toList.map fun p => (p.1, opv fr p.2))).map fun cs => if boxedT t then (.cview B.length 0 n n esz, B ++ [{ cells := cs }]) else (.lst n cs true, B)
  | .makeInterface t x => match P.underlying t with | some (.interface _) | none => none | _ => some (.iface t (opv fr x), B)
  | .makeFunc f first caps => some (.fn f (first.toList.map (opv fr)) (caps.toList.map (opv fr)), B)
  | .nilCheck x => match opv fr x with | .ptr b off => some (.ptr b off, B) | .iptr cs => some (.iptr cs, B) | .fn (.func f) a b => some (.fn (.func f) a b, B) | _ => none
  | .alloc t => (zerosOf P t).map fun zs => (.ptr B.length 0, B ++ [{ cells := zs }])
  | .box _ x => (cellsC (opv fr x)).map fun cs => (.ptr B.length 0, B ++ [{ cells := cs }])
  | .load t x =>
    match opv fr x with
    | .ptr b off => match B[b]? with | some box => if box.multi then none else (loadC P t (box.cells.drop off)).map (·, B) | none => none
    | .iptr cs => (loadC P t cs).map (·, B)
    | _ => none
  | .store t x y =>
    match opv fr x with
    | .ptr b off => match B[b]?, cellsC (opv fr y) with
      | some box, some vs => if box.multi = false ∧ szOf P t = some vs.length ∧ off + vs.length ≤ box.cells.length then some (.tup [], B.set b { cells := splice box.cells off vs }) else none
      | _, _ => none
    | _ => none
  | .fieldAddr t x i =>
    match P.underlying t with
    | some (.struct fs) => (fs[i]?).bind fun f => match szOf P f.type with
      | some (_ + 1) => match opv fr x with | .ptr b off => some (.ptr b (off + f.offset), B) | .iptr cs => some (.iptr (cs.drop f.offset), B) | _ => none
      | _ => none
    | _ => none
  | .indexAddr t x i =>
    match opv fr i, P.underlying t with
    | .int _ i, some (.array n e) => if 0 ≤ i ∧ i < n then (szOf P e).bind fun esz => match opv fr x with | .ptr b off => some (.ptr b (off + i.toNat * esz), B) | .iptr cs => some (.iptr (cs.drop (i.toNat * esz)), B) | c => (tabC c).map fun cs => (.iptr (cs.drop (i.toNat * esz)), B) else none
    | .int _ i, some (.slice e) => (szOf P e).bind fun esz =>
      match opv fr x with
      | .lst n cs _ => if 0 ≤ i ∧ i < n then some (.iptr (cs.drop (i.toNat * esz)), B) else none
      | .cview b off n _ sz => if 0 ≤ i ∧ i < n ∧ sz = esz then (match B[b]? with | some box => if box.multi then some (.iptr ((box.cells.drop (off + i.toNat * esz)).take esz), B) else some (.ptr b (off + i.toNat * esz), B) | none => none) else none
      | .view b off n sz _ => if 0 ≤ i ∧ i < n ∧ sz = esz then (match B[b]? with | some box => if box.multi then some (.iptr ((box.cells.drop (off + i.toNat * esz)).take esz), B) else some (.ptr b (off + i.toNat * esz), B) | none => none) else none
      | _ => none
    | _, _ => none
  | .slice t x lo hi mx =>
    match P.underlying t with
    | some .string => match opv fr x, mx with | .str s, none => (boundsC s.length (lo.map (opv fr)) (hi.map (opv fr)) none).map fun (l, h, _) => (.str ((s.drop l).take (h - l)), B) | _, _ => none
    | some (.array n e) => (szOf P e).bind fun esz => (boundsC n (lo.map (opv fr)) (hi.map (opv fr)) (mx.map (opv fr))).bind fun (l, h, m) =>
      match opv fr x with
      | .ptr b off => match B[b]? with | some box => if box.multi = false ∧ off + n * esz ≤ box.cells.length then some (.view b (off + l * esz) (h - l) esz (decide (m.getD n = h)), B) else none | none => none
      | .iptr cs => some (.lst (h - l) ((cs.drop (l * esz)).take ((h - l) * esz)) (decide (m.getD n = h)), B)
      | _ => none
    | some (.slice e) => (szOf P e).bind fun esz =>
      match opv fr x with
      | .nilS => (boundsC 0 (lo.map (opv fr)) (hi.map (opv fr)) (mx.map (opv fr))).map fun _ => (.nilS, B)
      | .lst n cs full => (boundsC n (lo.map (opv fr)) (hi.map (opv fr)) (mx.map (opv fr))).map fun (l, h, m) => (.lst (h - l) ((cs.drop (l * esz)).take ((h - l) * esz)) (fullC m full h n), B)
      | .cview b off n cap sz => if sz = esz ∧ mx.isNone then (boundsK n cap (lo.map (opv fr)) (hi.map (opv fr))).map fun (l, h) => (.cview b (off + l * sz) (h - l) (cap - l) sz, B) else if sz = esz then (boundsC n (lo.map (opv fr)) (hi.map (opv fr)) (mx.map (opv fr))).map fun (l, h, m) => (.cview b (off + l * esz) (h - l) (m.getD cap - l) esz, B) else none
      | .view b off n sz full => if sz = esz then (boundsC n (lo.map (opv fr)) (hi.map (opv fr)) (mx.map (opv fr))).map fun (l, h, m) => (.view b (off + l * esz) (h - l) esz (fullC m full h n), B) else none
      | _ => none
    | _ => none
  | .sliceToArrayPointer t x =>
    match P.underlying t with
    | some (.array n e) => (szOf P e).bind fun esz => if n = 0 then none else match opv fr x with
      | .lst m cs _ => if n ≤ m then some (.iptr cs, B) else none
      | .view b off m sz _ => if n ≤ m ∧ sz = esz then (match B[b]? with | some box => if box.multi then some (.iptr ((box.cells.drop off).take (m * esz)), B) else some (.ptr b off, B) | none => none) else none
      | _ => none
    | _ => none
  | .makeSlice t l c =>
    (elemT P t).bind fun e => (szOf P e).bind fun esz => (zerosOf P e).bind fun zs => if zs.length ≠ esz then none else
    match opv fr l, opv fr c with
    | .int _ l, .int _ c => if 0 ≤ l ∧ l ≤ c ∧ c ≤ 1099511627776 ∧ P.bytesOf e * c ≤ 140737488355328 then some (.view B.length 0 l.toNat esz (decide (l = c)), B ++ [{ cells := repC zs l.toNat }]) else none
    | _, _ => none
  | .call { callee := .builtin b, args, argTypes } => builtinC P o fr B b argTypes.toList (args.toList.map (opv fr))
  | .lookup t x i ok => (lookC P t (opv fr x) (opv fr i) ok).map (·, B)
  | _ => none
end Go.Sy
end
section
namespace Go.Sy
open Go.RowKit (Below)
def TabsOk (I : Nat → Nat → Prop) (w : World) : Prop := (∀ (g : Nat) (k : IntKind) (zs : List Int), tab g = some (k, zs) → ∀ j : Nat, w.cell? ⟨g, j, none⟩ = (zs[j]?).map (.int k) ∧ I g j) ∧
  (∀ g ∈ tabInts, I g 0 ∧ ∃ m, w.cell? ⟨g, 0, none⟩ = some (.int .i64 m)) ∧ ∀ g ∈ tabIfs, I g 0 ∧ ∃ t p, w.cell? ⟨g, 0, none⟩ = some (.iface t p)
theorem TabsOk.keep {I I' : Nat → Nat → Prop} {μ μ' : List (List Place)} {w w' : World} (h : TabsOk I w) (k : Keep I μ w I' μ' w') : TabsOk I' w' :=
  ⟨fun g kk zs hg j => let ⟨h1, h2⟩ := h.1 g kk zs hg j; ⟨(k.same g j h2).trans h1, k.imm g j h2⟩,
    fun g hg => let ⟨h1, m, h2⟩ := h.2.1 g hg; ⟨k.imm g 0 h1, m, (k.same g 0 h1).trans h2⟩, fun g hg => let ⟨h1, t, p, h2⟩ := h.2.2 g hg; ⟨k.imm g 0 h1, t, p, (k.same g 0 h1).trans h2⟩⟩
theorem TabsOk.mono {I I' : Nat → Nat → Prop} {w : World} (h : TabsOk I w) (hi : ∀ b j, I b j → I' b j) : TabsOk I' w :=
  ⟨fun g kk zs hg j => let ⟨h1, h2⟩ := h.1 g kk zs hg j; ⟨h1, hi g j h2⟩, fun g hg => let ⟨h1, h2⟩ := h.2.1 g hg; ⟨hi g 0 h1, h2⟩, fun g hg => let ⟨h1, h2⟩ := h.2.2 g hg; ⟨hi g 0 h1, h2⟩⟩
structure BRel (N : Nat) (I : Nat → Nat → Prop) (μ : List (List Place)) (B : List Box) (w : World) : Prop where
  len : μ.length = B.length
  low : N ≤ w.heap.size
  imm : ∀ b j, I b j → b < w.heap.size
  places : ∀ (β : Nat) (ps : List Place) (p : Place), μ[β]? = some ps → p ∈ ps → N ≤ p.b ∧ p.lo ≤ p.k ∧ Free w p.b (p.o + (p.k - p.lo))
  disj : ∀ (β β' : Nat) (ps ps' : List Place) (p p' : Place), μ[β]? = some ps → μ[β']? = some ps' → p ∈ ps → p' ∈ ps' → p.b = p'.b → β = β'
  one : ∀ (β : Nat) (box : Box), B[β]? = some box → box.multi = false → μ[β]? = some [] ∨ ∃ p : Place, μ[β]? = some [p] ∧ p.lo = 0 ∧ p.k = box.cells.length ∧
    (∃ vs, R I μ w true box.cells vs ∧ ∀ j v, vs[j]? = some v → w.cell? ⟨p.b, p.o + j, none⟩ = some v) ∧ ∀ j, ¬ I p.b j
  many : ∀ (β : Nat) (box : Box) (ps : List Place) (p : Place), B[β]? = some box → box.multi = true → μ[β]? = some ps → p ∈ ps → p.k ≤ box.cells.length ∧
    (∃ vs, R I μ w true ((box.cells.take p.k).drop p.lo) vs ∧ ∀ j v, vs[j]? = some v → w.cell? ⟨p.b, p.o + j, none⟩ = some v ∧ I p.b (p.o + j)) ∧
    (p.k = box.cells.length → ∀ j, p.o + (p.k - p.lo) ≤ j → ¬ I p.b j)
  tabs : TabsOk I w
structure Step (N : Nat) (I : Nat → Nat → Prop) (μ : List (List Place)) (w : World) (c : CV) (v : Value) (B' : List Box) (I' : Nat → Nat → Prop) (μ' : List (List Place)) (w' : World) : Prop where
  val : V I' μ' w' c v
  box : BRel N I' μ' B' w'
  ext : Ext I μ w I' μ' w'
  below : Below N w w'
section
variable {N : Nat} {I I' : Nat → Nat → Prop} {μ μ' : List (List Place)} {B : List Box} {w w' : World}
theorem Free.lt {b n : Nat} (h : Free w b n) : b < w.heap.size := by
  obtain ⟨_, _, _, h, _⟩ := h
  exact (Array.getElem?_eq_some_iff.1 h).1
theorem Free.cell {b n j : Nat} (h : Free w b n) (hj : j < n) : (w.cell? ⟨b, j, none⟩).isSome = true ∧ w.frozen? ⟨b, j, none⟩ = false := by
  obtain ⟨cells, ty, fz, h, h1, h2⟩ := h
  have := h2 j (by omega)
  refine ⟨?_, ?_⟩
  · simp [World.cell?, h]; omega
  · simp [World.frozen?, h]; omega
theorem Free.of_same {b n : Nat} (h : Free w b n) (hb : w'.heap[b]? = w.heap[b]?) : Free w' b n := by
  unfold Free at *; rwa [hb]
theorem Whole.of_same {b : Nat} {ty : TypeId} {n : Nat} (h : Whole w b ty n) (hb : w'.heap[b]? = w.heap[b]?) : Whole w' b ty n := by
  unfold Whole at *; rwa [hb]
theorem Whole.lt {b : Nat} {ty : TypeId} {n : Nat} (h : Whole w b ty n) : b < w.heap.size := by
  obtain ⟨_, h, _⟩ := h
  exact (Array.getElem?_eq_some_iff.1 h).1
theorem Free.less {b n m : Nat} (h : Free w b n) (hm : m ≤ n) : Free w b m := by
  obtain ⟨cells, ty, fz, h, h1, h2⟩ := h
  exact ⟨cells, ty, fz, h, by omega, h2⟩
theorem cell_same {b j : Nat} (hb : w'.heap[b]? = w.heap[b]?) : w'.cell? ⟨b, j, none⟩ = w.cell? ⟨b, j, none⟩ := by simp [World.cell?, hb]
theorem BRel.ext_same (h : BRel N I μ B w) (hs : w.heap.size ≤ w'.heap.size) (hb : ∀ b, b < w.heap.size → w'.heap[b]? = w.heap[b]?) : Ext I μ w I μ w' :=
  ⟨⟨fun _ _ h => h, fun b j hj => cell_same (hb b (h.imm b j hj)), fun _ _ hf => hf.of_same (hb _ hf.lt), fun _ hf => hf.of_same (hb _ hf.lt), fun _ ps h => ⟨ps, h, fun _ h => h⟩, fun r es c _ hx => (hb r (Array.getElem?_eq_some_iff.1 hx).1).trans hx⟩, hs, more_refl μ w, news_refl μ w, fun _ _ h => .inl h, fun _ h => h, fun b _ h _ => (hb b (Array.getElem?_eq_some_iff.1 h).1).trans h⟩
theorem BRel.keep (h : BRel N I μ B w) (hs : w.heap.size ≤ w'.heap.size) (hb : ∀ b, b < w.heap.size → w'.heap[b]? = w.heap[b]?) : BRel N I μ B w' := by
  have e := (h.ext_same hs hb).toKeep
  refine ⟨h.len, by have := h.low; omega, fun b j hj => by have := h.imm b j hj; omega, fun β ps p h1 h2 => ?_, h.disj, fun β box h1 h2 => ?_, fun β box ps p h1 h2 h3 h4 => ?_, h.tabs.keep e⟩
  · obtain ⟨a1, a3, a4⟩ := h.places β ps p h1 h2
    exact ⟨a1, a3, a4.of_same (hb _ a4.lt)⟩
  · rcases h.one β box h1 h2 with a0 | ⟨p, a1, a2, a3, ⟨vs, a4, a5⟩, a6⟩
    · exact .inl a0
    have hl := (h.places β [p] p a1 (by simp)).2.2.lt
    exact .inr ⟨p, a1, a2, a3, ⟨vs, a4.ext e, fun j v hj => (cell_same (hb _ hl)).trans (a5 j v hj)⟩, a6⟩
  · obtain ⟨a1, ⟨vs, a2, a3⟩, a4⟩ := h.many β box ps p h1 h2 h3 h4
    have hl := (h.places β ps p h3 h4).2.2.lt
    exact ⟨a1, ⟨vs, a2.ext e, fun j v hj => ⟨(cell_same (hb _ hl)).trans (a3 j v hj).1, (a3 j v hj).2⟩⟩, a4⟩
theorem drew_heap (w : World) : w.drew.heap = w.heap := rfl
theorem alloc_heap (w : World) (o : Obj) : (w.alloc o).heap = w.heap.push o := rfl
theorem push_old {o : Obj} (hp : w'.heap = w.heap.push o) {b : Nat} (hb : b < w.heap.size) : w'.heap[b]? = w.heap[b]? := by
  rw [hp, Array.getElem?_push, if_neg (by omega)]
theorem push_new {o : Obj} (hp : w'.heap = w.heap.push o) : w'.heap[w.heap.size]? = some o := by
  rw [hp, Array.getElem?_push, if_pos rfl]
theorem Below.of_heap {o : Obj} (hN : N ≤ w.heap.size) (hp : w'.heap = w.heap.push o) (h1 : w'.os = w.os) (h2 : w'.tape = w.tape) (h3 : w'.output = w.output) : Below N w w' :=
  ⟨h1, h2, h3, by rw [hp]; simp, fun k hk => push_old hp (by omega)⟩
theorem BRel.push (h : BRel N I μ B w) {cells : Array Value} {ty : TypeId} {fz : Nat × Nat} (hp : w'.heap = w.heap.push (.cells cells ty fz)) (hfz : ∀ j, j < cells.size → ¬ (fz.1 ≤ j ∧ j < fz.2))
    {cs : List CV} {vs rest : List Value} (hr : R I μ w true cs vs) (hc : cells.toList = vs ++ rest) :
    BRel N I (μ ++ [[⟨w.heap.size, 0, 0, cs.length⟩]]) (B ++ [{ cells := cs }]) w' ∧ Ext I μ w I (μ ++ [[⟨w.heap.size, 0, 0, cs.length⟩]]) w' := by
  have hk := h.keep (w' := w') (by rw [hp]; simp) (fun b hb => push_old hp hb)
  have e0 := h.ext_same (w' := w') (by rw [hp]; simp) (fun b hb => push_old hp hb)
  have grow : ∀ (β : Nat) (ps : List Place), μ[β]? = some ps → ∃ ps', (μ ++ [[(⟨w.heap.size, 0, 0, cs.length⟩ : Place)]])[β]? = some ps' ∧ ∀ p ∈ ps, p ∈ ps' := fun β ps hβ =>
    ⟨ps, by rw [List.getElem?_append_left (List.getElem?_eq_some_iff.1 hβ).1]; exact hβ, fun _ h => h⟩
  have e : Ext I μ w I (μ ++ [[⟨w.heap.size, 0, 0, cs.length⟩]]) w' := by
    refine ⟨⟨e0.imm, e0.same, e0.free, e0.plain, grow, e0.maps⟩, e0.size, fun β ps ps' hβ hβ' p hpp => ?_, fun β ps hβ hps p hpp => ?_, fun _ _ h => .inl h, fun β hβ => by rw [List.getElem?_append_left (List.getElem?_eq_some_iff.1 hβ).1]; exact hβ, e0.oth⟩
    · rw [List.getElem?_append_left (List.getElem?_eq_some_iff.1 hβ).1, hβ] at hβ'
      simp at hβ'
      subst hβ'
      exact .inl ⟨p, hpp, rfl⟩
    · rw [List.getElem?_append_right hβ] at hps
      rcases Nat.eq_zero_or_pos (β - μ.length) with h0 | h0
      · rw [h0] at hps
        simp at hps
        subst hps
        have : p = ⟨w.heap.size, 0, 0, cs.length⟩ := by simpa using hpp
        subst this
        exact Nat.le_refl _
      · rw [List.getElem?_eq_none (by simp; omega)] at hps
        cases hps
  have e1 : Keep I μ w' I (μ ++ [[⟨w.heap.size, 0, 0, cs.length⟩]]) w' := ⟨fun _ _ h => h, fun _ _ _ => rfl, fun _ _ h => h, fun _ h => h, grow, fun _ _ _ _ h => h⟩
  have hlen := hr.len
  have hcs : cells.size = vs.length + rest.length := by rw [← Array.length_toList, hc, List.length_append]
  have hnew : Free w' w.heap.size cs.length := ⟨cells, ty, fz, push_new hp, by omega, hfz⟩
  have pl : ∀ (β : Nat) (ps : List Place) (p : Place), (μ ++ [[(⟨w.heap.size, 0, 0, cs.length⟩ : Place)]])[β]? = some ps → p ∈ ps →
      (μ[β]? = some ps ∧ p.b < w.heap.size) ∨ (β = μ.length ∧ p = ⟨w.heap.size, 0, 0, cs.length⟩) := by
    intro β ps p h1 h2
    rcases Nat.lt_or_ge β μ.length with hl | hl
    · rw [List.getElem?_append_left hl] at h1
      exact .inl ⟨h1, (h.places β ps p h1 h2).2.2.lt⟩
    · rw [List.getElem?_append_right hl] at h1
      rcases Nat.eq_zero_or_pos (β - μ.length) with h0 | h0
      · rw [h0] at h1
        simp at h1
        subst h1
        exact .inr ⟨by omega, by simpa using h2⟩
      · rw [List.getElem?_eq_none (by simp; omega)] at h1
        cases h1
  refine ⟨⟨by simp [h.len], hk.low, hk.imm, fun β ps p h1 h2 => ?_, fun β β' ps ps' p p' h1 h1' h2 h2' he => ?_, fun β box h1 h2 => ?_, fun β box ps p h1 h2 h3 h4 => ?_, h.tabs.keep e.toKeep⟩, e⟩
  · rcases pl β ps p h1 h2 with ⟨h1, _⟩ | ⟨rfl, rfl⟩
    · exact hk.places β ps p h1 h2
    · exact ⟨h.low, Nat.zero_le _, by simpa using hnew⟩
  · rcases pl β ps p h1 h2 with ⟨h1, hl⟩ | ⟨rfl, rfl⟩ <;> rcases pl β' ps' p' h1' h2' with ⟨h1', hl'⟩ | ⟨rfl, rfl⟩
    · exact h.disj β β' ps ps' p p' h1 h1' h2 h2' he
    · simp at he; omega
    · simp at he; omega
    · rfl
  · rcases Nat.lt_or_ge β B.length with hl | hl
    · rw [List.getElem?_append_left hl] at h1
      rcases hk.one β box h1 h2 with a0 | ⟨p, a1, a2, a3, ⟨vs, a4, a5⟩, a6⟩
      · exact .inl (by rw [List.getElem?_append_left (by rw [h.len]; exact hl)]; exact a0)
      exact .inr ⟨p, by rw [List.getElem?_append_left (by rw [h.len]; exact hl)]; exact a1, a2, a3, ⟨vs, a4.ext e1, a5⟩, a6⟩
    · rw [List.getElem?_append_right hl] at h1
      rcases Nat.eq_zero_or_pos (β - B.length) with h0 | h0
      · rw [h0] at h1
        simp at h1
        subst h1
        refine .inr ⟨⟨w.heap.size, 0, 0, cs.length⟩, ?_, rfl, rfl, ⟨vs, hr.ext e.toKeep, fun j v hj => ?_⟩, fun j hj => by have := h.imm _ _ hj; simp at this⟩
        · rw [List.getElem?_append_right (by rw [h.len]; exact hl), h.len, h0]; rfl
        · simp only [World.cell?, push_new hp, Nat.zero_add]
          simp
          rw [← Array.getElem?_toList, hc, List.getElem?_append_left (List.getElem?_eq_some_iff.1 hj).1]
          exact hj
      · rw [List.getElem?_eq_none (by simp; omega)] at h1
        cases h1
  · rcases Nat.lt_or_ge β B.length with hl | hl
    · rw [List.getElem?_append_left hl] at h1
      rw [List.getElem?_append_left (by rw [h.len]; exact hl)] at h3
      obtain ⟨a1, ⟨vs, a2, a3⟩, a4⟩ := hk.many β box ps p h1 h2 h3 h4
      exact ⟨a1, ⟨vs, a2.ext e1, a3⟩, a4⟩
    · rw [List.getElem?_append_right hl] at h1
      rcases Nat.eq_zero_or_pos (β - B.length) with h0 | h0
      · rw [h0] at h1
        simp at h1
        subst h1
        cases h2
      · rw [List.getElem?_eq_none (by simp; omega)] at h1
        cases h1
theorem BRel.fresh (h : BRel N I μ B w) {cells : Array Value} {ty : TypeId} {fz : Nat × Nat} (hp : w'.heap = w.heap.push (.cells cells ty fz)) :
    BRel N (fun b j => I b j ∨ b = w.heap.size) μ B w' ∧ Ext I μ w (fun b j => I b j ∨ b = w.heap.size) μ w' := by
  have hk := h.keep (w' := w') (by rw [hp]; simp) (fun b hb => push_old hp hb)
  have e : Ext I μ w (fun b j => I b j ∨ b = w.heap.size) μ w' := by
    have e0 := h.ext_same (w' := w') (by rw [hp]; simp) (fun b hb => push_old hp hb)
    exact ⟨⟨fun b j h => .inl h, e0.same, e0.free, e0.plain, e0.grow, e0.maps⟩, e0.size, e0.more, e0.news, fun b j hj => by rcases hj with hj | hj; exact .inl hj; exact .inr (.inl (by omega)), fun _ h => h, e0.oth⟩
  have e1 : Keep I μ w' (fun b j => I b j ∨ b = w.heap.size) μ w' := ⟨fun b j h => .inl h, fun _ _ _ => rfl, fun _ _ h => h, fun _ h => h, fun β ps h => ⟨ps, h, fun _ h => h⟩, fun _ _ _ _ h => h⟩
  refine ⟨⟨h.len, hk.low, fun b j hj => ?_, hk.places, h.disj, fun β box h1 h2 => ?_, fun β box ps p h1 h2 h3 h4 => ?_, h.tabs.keep e.toKeep⟩, e⟩
  · rcases hj with hj | rfl
    · exact hk.imm b j hj
    · rw [hp]; simp
  · rcases hk.one β box h1 h2 with a0 | ⟨p, a1, a2, a3, ⟨vs, a4, a5⟩, a6⟩
    · exact .inl a0
    have hl := (h.places β [p] p a1 (by simp)).2.2.lt
    exact .inr ⟨p, a1, a2, a3, ⟨vs, a4.ext e1, a5⟩, fun j hj => by rcases hj with hj | hj; exact a6 j hj; omega⟩
  · obtain ⟨a1, ⟨vs, a2, a3⟩, a4⟩ := hk.many β box ps p h1 h2 h3 h4
    have hl := (h.places β ps p h3 h4).2.2.lt
    exact ⟨a1, ⟨vs, a2.ext e1, fun j v hj => ⟨(a3 j v hj).1, .inl (a3 j v hj).2⟩⟩, fun hk j hj hi => by rcases hi with hi | hi; exact a4 hk j hj hi; omega⟩
end
end Go.Sy
end
section
namespace Go.Sy
open Go.RowKit (Below)
section
variable {N : Nat} {I I' : Nat → Nat → Prop} {μ μ' : List (List Place)} {B : List Box} {w w' : World}
theorem setCell_free {w : World} {a : Addr} {v : Value} {b n : Nat} (h : Free w b n) : Free (w.setCell a v) b n := by
  obtain ⟨cells, ty, fz, h, h1, h2⟩ := h
  by_cases hb : a.block = b
  · subst hb
    by_cases hs : a.spot.isSome = true
    · exact ⟨cells, ty, fz, by simp [World.setCell, Array.getElem?_modify, h, hs], h1, h2⟩
    · exact ⟨cells.setIfInBounds a.off v, ty, fz, by simp [World.setCell, Array.getElem?_modify, h, hs], by simpa using h1, by simpa using h2⟩
  · exact ⟨cells, ty, fz, by rw [Below.heap_setCell _ _ _ _ (fun e => hb e.symm)]; exact h, h1, h2⟩
theorem setCells_free {b' n : Nat} : ∀ (vs : List Value) (b o : Nat) (w : World), Free w b' n → Free (w.setCells b o vs) b' n
  | [], _, _, _, h => h
  | _ :: vs, b, o, _, h => setCells_free vs b (o + 1) _ (setCell_free h)
theorem setCell_whole {w : World} {a : Addr} {v : Value} {b : Nat} {ty : TypeId} {n : Nat} (h : Whole w b ty n) : Whole (w.setCell a v) b ty n := by
  obtain ⟨cells, h, hn⟩ := h
  by_cases hb : a.block = b
  · subst hb
    by_cases hs : a.spot.isSome = true
    · exact ⟨cells, by simp [World.setCell, Array.getElem?_modify, h, hs], hn⟩
    · exact ⟨cells.setIfInBounds a.off v, by simp [World.setCell, Array.getElem?_modify, h, hs], by simpa using hn⟩
  · exact ⟨cells, by rw [Below.heap_setCell _ _ _ _ (fun e => hb e.symm)]; exact h, hn⟩
theorem setCells_whole {b' : Nat} {ty : TypeId} {n : Nat} : ∀ (vs : List Value) (b o : Nat) (w : World), Whole w b' ty n → Whole (w.setCells b o vs) b' ty n
  | [], _, _, _, h => h
  | _ :: vs, b, o, _, h => setCells_whole vs b (o + 1) _ (setCell_whole h)
theorem setCells_plain {b' : Nat} {ty : TypeId} (vs : List Value) (b o : Nat) (w : World) (h : PlainT w b' ty) : PlainT (w.setCells b o vs) b' ty := let ⟨c, h1⟩ := h; let ⟨c', h2, _⟩ := setCells_whole vs b o w ⟨c, h1, rfl⟩; ⟨c', h2⟩
theorem setCells_plain' {b' : Nat} (vs : List Value) (b o : Nat) (w : World) (h : Plain w b') : Plain (w.setCells b o vs) b' := let ⟨c, t, h1⟩ := h; let ⟨c', h2⟩ := setCells_plain vs b o w ⟨c, h1⟩; ⟨c', t, h2⟩
theorem setCells_other {k : Nat} : ∀ (vs : List Value) (b o : Nat) (w : World), k ≠ b → (w.setCells b o vs).heap[k]? = w.heap[k]?
  | [], _, _, _, _ => rfl
  | _ :: vs, b, o, w, h => (setCells_other vs b (o + 1) _ h).trans (Below.heap_setCell _ _ _ _ (by simpa using h))
theorem setCells_size : ∀ (vs : List Value) (b o : Nat) (w : World), (w.setCells b o vs).heap.size = w.heap.size
  | [], _, _, _ => rfl
  | _ :: vs, b, o, w => (setCells_size vs b (o + 1) _).trans (by simp [World.setCell])
theorem setCells_rest : ∀ (vs : List Value) (b o : Nat) (w : World), (w.setCells b o vs).os = w.os ∧ (w.setCells b o vs).tape = w.tape ∧ (w.setCells b o vs).output = w.output
  | [], _, _, _ => ⟨rfl, rfl, rfl⟩
  | _ :: vs, b, o, w => setCells_rest vs b (o + 1) _
theorem setCells_below {b o : Nat} (vs : List Value) (hb : N ≤ b) (w : World) : Below N w (w.setCells b o vs) := by
  obtain ⟨h1, h2, h3⟩ := setCells_rest vs b o w
  exact ⟨h1, h2, h3, by rw [setCells_size]; exact Nat.le_refl _, fun k hk => setCells_other vs b o w (by omega)⟩
theorem setCells_out {b o b' j : Nat} (vs : List Value) (w : World) (h : b' = b → j < o ∨ o + vs.length ≤ j) : (w.setCells b o vs).cell? ⟨b', j, none⟩ = w.cell? ⟨b', j, none⟩ :=
  World.cell?_setCells_out b vs o w ⟨b', j, none⟩ (fun h1 _ => h h1)
theorem setCells_in {b o : Nat} (vs : List Value) (w : World) (hf : Free w b (o + vs.length)) {j : Nat} {v : Value} (hj : vs[j]? = some v) : (w.setCells b o vs).cell? ⟨b, o + j, none⟩ = some v := by
  have hl := (List.getElem?_eq_some_iff.1 hj)
  obtain ⟨hl, he⟩ := hl
  have := World.cell?_setCells_in b vs o w (fun j hj => (hf.cell (by omega)).1) j hl
  rw [this, ← he]
theorem splice_length (cells vs : List CV) (off : Nat) (h : off + vs.length ≤ cells.length) : (splice cells off vs).length = cells.length := by
  simp [splice]; omega
theorem one_place (h : BRel N I μ B w) {β : Nat} {box : Box} (hb : B[β]? = some box) (hm : box.multi = false) {ps : List Place} {q : Place} (hps : μ[β]? = some ps) (hq : q ∈ ps) : ∃ p : Place, μ[β]? = some [p] ∧ p.lo = 0 ∧ p.k = box.cells.length ∧
    (∃ vs, R I μ w true box.cells vs ∧ ∀ j v, vs[j]? = some v → w.cell? ⟨p.b, p.o + j, none⟩ = some v) ∧ (∀ j, ¬ I p.b j) ∧ N ≤ p.b ∧ Free w p.b (p.o + box.cells.length) := by
  rcases h.one β box hb hm with a0 | ⟨p, a1, a2, a3, a4, a5⟩
  · rw [hps] at a0; simp at a0; subst a0; cases hq
  obtain ⟨b1, b3, b4⟩ := h.places β [p] p a1 (by simp)
  exact ⟨p, a1, a2, a3, a4, a5, b1, by rw [a2, a3] at b4; simpa using b4⟩
theorem Free.cells {w : World} {b n : Nat} (h : Free w b n) : ∃ cells ty fz, w.heap[b]? = some (.cells cells ty fz) := by
  obtain ⟨cells, ty, fz, h, _⟩ := h; exact ⟨cells, ty, fz, h⟩
theorem setCells_oth (vs : List Value) (b o : Nat) (w : World) (h : ∃ cells ty fz, w.heap[b]? = some (.cells cells ty fz)) : Oth w (w.setCells b o vs) := fun k ob hk hc => by
  have hkb : k ≠ b := fun e => by
    obtain ⟨cells, ty, fz, h⟩ := h
    subst e; rw [h] at hk; simp at hk; subst hk; simp [Obj.isCells] at hc
  rw [setCells_other vs b o w hkb]; exact hk
theorem BRel.write (h : BRel N I μ B w) {β off : Nat} {box : Box} {p : Place} (hb : B[β]? = some box) (hm : box.multi = false) (hp : μ[β]? = some [p]) {cs : List CV} {vs : List Value} (hr : R I μ w true cs vs) (hl : off + cs.length ≤ box.cells.length) :
    BRel N I μ (B.set β { cells := splice box.cells off cs }) (w.setCells p.b (p.o + off) vs) ∧ Ext I μ w I μ (w.setCells p.b (p.o + off) vs) ∧ Below N w (w.setCells p.b (p.o + off) vs) := by
  obtain ⟨p', a1, a2, a3, ⟨us, a4, a5⟩, a6, a7, a9⟩ := one_place h hb hm hp (List.mem_singleton.2 rfl)
  have : p' = p := by rw [hp] at a1; simpa using a1.symm
  subst this
  have hlen := hr.len
  have hus := a4.len
  have hβ : β < B.length := (List.getElem?_eq_some_iff.1 hb).1
  have e : Ext I μ w I μ (w.setCells p'.b (p'.o + off) vs) :=
    ⟨⟨fun _ _ h => h, fun b j hj => setCells_out vs w (fun hbb => by subst hbb; exact absurd hj (a6 j)), fun b n hf => setCells_free vs _ _ w hf, fun b hf => setCells_whole vs _ _ w hf, fun _ ps h => ⟨ps, h, fun _ h => h⟩, fun r es c _ hx => setCells_oth vs _ _ w a9.cells r _ hx rfl⟩, by rw [setCells_size]; exact Nat.le_refl _, more_refl μ w, news_refl μ w, fun _ _ h => .inl h, fun _ h => h, setCells_oth vs _ _ w a9.cells⟩
  refine ⟨⟨by simp [h.len], by rw [setCells_size]; exact h.low, fun b j hj => by rw [setCells_size]; exact h.imm b j hj, fun β' ps q h1 h2 => ?_, h.disj, fun β' box' h1 h2 => ?_, fun β' box' ps q h1 h2 h3 h4 => ?_, h.tabs.keep e.toKeep⟩, e, setCells_below vs a7 w⟩
  · obtain ⟨b1, b3, b4⟩ := h.places β' ps q h1 h2
    exact ⟨b1, b3, setCells_free vs _ _ w b4⟩
  · rw [List.getElem?_set] at h1
    by_cases hbb : β = β'
    · subst hbb
      rw [if_pos rfl, if_pos hβ] at h1
      simp at h1
      subst h1
      refine .inr ⟨p', hp, a2, by rw [a3]; exact (splice_length _ _ _ hl).symm, ⟨us.take off ++ vs ++ us.drop (off + vs.length), ?_, fun j v hj => ?_⟩, a6⟩
      · rw [← hlen]
        exact (((a4.take off).append hr).append (a4.drop (off + cs.length))).ext e.toKeep
      · rcases Nat.lt_or_ge j off with h3 | h3
        · rw [List.append_assoc, List.getElem?_append_left (by simp; omega), List.getElem?_take, if_pos h3] at hj
          rw [setCells_out vs w (fun _ => by omega)]
          exact a5 j v hj
        · rcases Nat.lt_or_ge j (off + vs.length) with h4 | h4
          · rw [List.append_assoc, List.getElem?_append_right (by simp; omega), List.getElem?_append_left (by simp; omega)] at hj
            have hx := setCells_in vs w (o := p'.o + off) (b := p'.b) (a9.less (by omega)) hj
            have e1 : (List.take off us).length = off := by simp; omega
            rw [e1] at hx
            rwa [show p'.o + off + (j - off) = p'.o + j by omega] at hx
          · rw [List.append_assoc, List.getElem?_append_right (by simp; omega), List.getElem?_append_right (by simp; omega), List.getElem?_drop] at hj
            have e1 : (List.take off us).length = off := by simp; omega
            rw [e1, show off + vs.length + (j - off - vs.length) = j by omega] at hj
            rw [setCells_out vs w (fun _ => by omega)]
            exact a5 j v hj
    · rw [if_neg hbb] at h1
      rcases h.one β' box' h1 h2 with b0 | ⟨q, b1, b2, b3, ⟨us', b4, b5⟩, b6⟩
      · exact .inl b0
      have hd : q.b ≠ p'.b := fun he => hbb (h.disj β β' _ _ p' q hp b1 (by simp) (by simp) he.symm)
      exact .inr ⟨q, b1, b2, b3, ⟨us', b4.ext e.toKeep, fun j v hj => (setCells_out vs w (fun h => absurd h hd)).trans (b5 j v hj)⟩, b6⟩
  · rw [List.getElem?_set] at h1
    by_cases hbb : β = β'
    · subst hbb
      rw [if_pos rfl, if_pos hβ] at h1
      simp at h1
      subst h1
      cases h2
    · rw [if_neg hbb] at h1
      obtain ⟨b1, ⟨us', b2, b3⟩, b4⟩ := h.many β' box' ps q h1 h2 h3 h4
      have hd : q.b ≠ p'.b := fun he => hbb (h.disj β β' _ _ p' q hp h3 (by simp) h4 he.symm)
      exact ⟨b1, ⟨us', b2.ext e.toKeep, fun j v hj => ⟨(setCells_out vs w (fun h => absurd h hd)).trans (b3 j v hj).1, (b3 j v hj).2⟩⟩, b4⟩
theorem place_cells (h : BRel N I μ B w) {β : Nat} {box : Box} {ps : List Place} {p : Place} (hb : B[β]? = some box) (hp : μ[β]? = some ps) (hm : p ∈ ps) : p.lo ≤ p.k ∧ p.k ≤ box.cells.length ∧
    (∃ vs, R I μ w true ((box.cells.take p.k).drop p.lo) vs ∧ (∀ j v, vs[j]? = some v → w.cell? ⟨p.b, p.o + j, none⟩ = some v)) ∧
    (p.k = box.cells.length → ∀ j, p.o + (p.k - p.lo) ≤ j → ¬ I p.b j) := by
  have h0 := (h.places β ps p hp hm).2.1
  cases hx : box.multi with
  | false =>
    rcases h.one β box hb hx with a0 | ⟨q, a1, a2, a3, ⟨vs, a4, a5⟩, a6⟩
    · rw [hp] at a0; simp at a0; subst a0; cases hm
    have hq : ps = [q] := by rw [hp] at a1; simpa using a1
    subst hq
    have : p = q := by simpa using hm
    subst this
    refine ⟨h0, by omega, ⟨vs, ?_, a5⟩, fun _ j _ => a6 j⟩
    rw [a3, a2]; simpa using a4
  | true =>
    obtain ⟨a1, ⟨vs, a2, a3⟩, a4⟩ := h.many β box ps p hb hx hp hm
    exact ⟨h0, a1, ⟨vs, a2, fun j v hj => (a3 j v hj).1⟩, a4⟩
def pub (I : Nat → Nat → Prop) (ps : List Place) : Nat → Nat → Prop := fun b j => I b j ∨ ∃ p ∈ ps, b = p.b ∧ p.o ≤ j ∧ j < p.o + (p.k - p.lo)
theorem BRel.grown (h : BRel N I μ B w) {β : Nat} {box : Box} {ps : List Place} {q : Place} (hb : B[β]? = some box) (hps : μ[β]? = some ps) (hne : ps ≠ []) {news : List CV} (hn : 0 < news.length)
    (hbel : Below N w w') (hoth : Oth w w') (hfree : ∀ b n, Free w b n → Free w' b n) (hplain : ∀ {ty : TypeId} {n : Nat} (b : Nat), Whole w b ty n → Whole w' b ty n)
    (hsame : ∀ b j, (b < w.heap.size) → (b ≠ q.b ∨ j < q.o + (box.cells.length - q.lo)) → w'.cell? ⟨b, j, none⟩ = w.cell? ⟨b, j, none⟩)
    (hq : (q.b = w.heap.size ∧ q.o = 0) ∨ (∃ p ∈ ps, p.b = q.b ∧ p.k = box.cells.length ∧ p.o + (p.k - p.lo) = q.o + (box.cells.length - q.lo)))
    (hqlo : q.lo ≤ box.cells.length) (hqk : q.k = box.cells.length + news.length) (hqf : Free w' q.b (q.o + (q.k - q.lo)))
    {vs us : List Value} (hr : R I μ w true (box.cells.drop q.lo) us) (hr' : R I μ w true news vs) (hc : ∀ j v, (us ++ vs)[j]? = some v → w'.cell? ⟨q.b, q.o + j, none⟩ = some v) :
    BRel N (pub I (q :: ps)) (μ.set β (q :: ps)) (B.set β { cells := box.cells ++ news, multi := true }) w' ∧ Ext I μ w (pub I (q :: ps)) (μ.set β (q :: ps)) w' := by
  have hβ : β < B.length := (List.getElem?_eq_some_iff.1 hb).1
  have hβ' : β < μ.length := by rw [h.len]; exact hβ
  have hu := hr.len
  have hv := hr'.len
  have hI : ∀ b j, I b j → w'.cell? ⟨b, j, none⟩ = w.cell? ⟨b, j, none⟩ := fun b j hj => by
    refine hsame b j (h.imm b j hj) ?_
    by_cases hbq : b = q.b
    · rcases hq with ⟨hq, _⟩ | ⟨p, hp, hpb, hpk, hpo⟩
      · have := h.imm b j hj; omega
      · right
        rcases Nat.lt_or_ge j (p.o + (p.k - p.lo)) with hl | hl
        · omega
        · have := (place_cells h hb hps hp).2.2.2 hpk j hl
          rw [hpb, ← hbq] at this
          exact absurd hj this
    · exact .inl hbq
  have e : Ext I μ w (pub I (q :: ps)) (μ.set β (q :: ps)) w' := by
    refine ⟨⟨fun b j hj => .inl hj, hI, hfree, hplain, fun γ qs hγ => ?_, fun r es c _ hx => hoth r _ hx rfl⟩, hbel.size, fun γ qs qs' hγ hγ' p hp => ?_, fun γ qs hγ hγ' => ?_, fun b j hj => ?_, fun γ hγ => by
      by_cases hγβ : β = γ
      · subst hγβ; rw [hps] at hγ; simp at hγ; exact absurd hγ hne
      · rw [List.getElem?_set, if_neg hγβ]; exact hγ, hoth⟩
    rotate_left
    · by_cases hγβ : β = γ
      · subst hγβ
        rw [hps] at hγ
        simp at hγ
        subst hγ
        rw [List.getElem?_set, if_pos rfl, if_pos hβ'] at hγ'
        simp at hγ'
        subst hγ'
        rcases List.mem_cons.1 hp with rfl | hp
        · rcases hq with ⟨hq, _⟩ | ⟨r, hr1, hr2, _⟩
          · exact .inr (by omega)
          · exact .inl ⟨r, hr1, hr2⟩
        · exact .inl ⟨p, hp, rfl⟩
      · rw [List.getElem?_set, if_neg hγβ, hγ] at hγ'
        simp at hγ'
        subst hγ'
        exact .inl ⟨p, hp, rfl⟩
    · have := (List.getElem?_eq_some_iff.1 hγ').1
      simp at this
      omega
    · rcases hj with hj | ⟨p, hp, rfl, _⟩
      · exact .inl hj
      · rcases List.mem_cons.1 hp with rfl | hp
        · rcases hq with ⟨hq, _⟩ | ⟨r, hr1, hr2, _⟩
          · exact .inr (.inl (by omega))
          · exact .inr (.inr ⟨β, ps, r, hps, hr1, hr2⟩)
        · exact .inr (.inr ⟨β, ps, p, hps, hp, rfl⟩)
    by_cases hγβ : β = γ
    · subst hγβ
      rw [hps] at hγ
      simp at hγ
      subst hγ
      exact ⟨q :: ps, by simp [hβ'], fun p hp => by simp [hp]⟩
    · exact ⟨qs, by rw [List.getElem?_set, if_neg hγβ]; exact hγ, fun _ h => h⟩
  have hmul : ∀ (p : Place), p ∈ ps → p.b < w.heap.size := fun p hp => (h.places β ps p hps hp).2.2.lt
  have hold : ∀ (γ : Nat) (qs : List Place) (p : Place), μ[γ]? = some qs → p ∈ qs → ∀ (bx : Box), B[γ]? = some bx → ∀ j, p.lo + j < p.k → w'.cell? ⟨p.b, p.o + j, none⟩ = w.cell? ⟨p.b, p.o + j, none⟩ := by
    intro γ qs p hγ hp bx hbx j hj
    refine hsame _ _ (h.places γ qs p hγ hp).2.2.lt ?_
    by_cases hpq : p.b = q.b
    · rcases hq with ⟨hq, _⟩ | ⟨p', hp', hpb, hpk, hpo⟩
      · have := (h.places γ qs p hγ hp).2.2.lt; omega
      · right
        have hγβ : γ = β := h.disj γ β qs ps p p' hγ hps hp hp' (by omega)
        subst hγβ
        rw [hps] at hγ
        simp at hγ
        subst hγ
        rw [hb] at hbx
        simp at hbx
        subst hbx
        rcases Nat.lt_or_ge (p.o + j) (p'.o + (p'.k - p'.lo)) with hl | hl
        · omega
        · exfalso
          cases hmm : box.multi with
          | false =>
            rcases h.one γ box hb hmm with a0 | ⟨r, a1, a2, a3, _⟩
            · rw [hps] at a0; simp at a0; subst a0; cases hp
            have : ps = [r] := by rw [hps] at a1; simpa using a1
            subst this
            have h1 : p = r := by simpa using hp
            have h2 : p' = r := by simpa using hp'
            subst h1
            subst h2
            omega
          | true =>
            obtain ⟨a1, ⟨vs', a2, a3⟩, _⟩ := h.many γ box ps p hb hmm hps hp
            have hl2 := a2.len
            have hll : j < vs'.length := by
              rw [← hl2]; simp; omega
            have := (a3 j vs'[j] (by simp [hll])).2
            rw [hpq, ← hpb] at this
            exact (place_cells h hb hps hp').2.2.2 hpk _ hl this
    · exact .inl hpq
  have hplaces : ∀ (γ : Nat) (qs : List Place) (p : Place), (μ.set β (q :: ps))[γ]? = some qs → p ∈ qs → (∃ qs', μ[γ]? = some qs' ∧ p ∈ qs' ∧ (γ ≠ β → qs' = qs)) ∨ (γ = β ∧ p = q) := by
    intro γ qs p h1 h2
    rw [List.getElem?_set] at h1
    by_cases hγβ : β = γ
    · subst hγβ
      rw [if_pos rfl, if_pos hβ'] at h1
      simp at h1
      subst h1
      rcases List.mem_cons.1 h2 with rfl | h2
      · exact .inr ⟨rfl, rfl⟩
      · exact .inl ⟨ps, hps, h2, fun h => absurd rfl h⟩
    · rw [if_neg hγβ] at h1
      exact .inl ⟨qs, h1, h2, fun _ => rfl⟩
  have hqb : ∀ (γ : Nat) (qs : List Place) (p : Place), μ[γ]? = some qs → p ∈ qs → p.b = q.b → γ = β := by
    intro γ qs p h1 h2 he
    rcases hq with ⟨hq, _⟩ | ⟨p', hp', hpb, _, _⟩
    · have := (h.places γ qs p h1 h2).2.2.lt; omega
    · exact h.disj γ β qs ps p p' h1 hps h2 hp' (by omega)
  have hqN : N ≤ q.b := by
    rcases hq with ⟨hq, _⟩ | ⟨p', hp', hpb, _, _⟩
    · rw [hq]; exact h.low
    · have := h.places β ps p' hps hp'
      rw [← hpb]; exact this.1
  refine ⟨⟨by simp [h.len], by have := h.low; have := hbel.size; omega, fun b j hj => ?_, fun γ qs p h1 h2 => ?_, fun γ γ' qs qs' p p' h1 h1' h2 h2' he => ?_, fun γ bx h1 h2 => ?_, fun γ bx qs p h1 h2 h3 h4 => ?_, h.tabs.keep e.toKeep⟩, e⟩
  · rcases hj with hj | ⟨p, hp, rfl, _⟩
    · have := h.imm b j hj; have := hbel.size; omega
    · rcases List.mem_cons.1 hp with rfl | hp
      · exact hqf.lt
      · have := hmul p hp; have := hbel.size; omega
  · rcases hplaces γ qs p h1 h2 with ⟨qs', a1, a2, _⟩ | ⟨rfl, rfl⟩
    · obtain ⟨b1, b3, b4⟩ := h.places γ qs' p a1 a2
      exact ⟨b1, b3, hfree _ _ b4⟩
    · exact ⟨hqN, by omega, hqf⟩
  · rcases hplaces γ qs p h1 h2 with ⟨r, a1, a2, _⟩ | ⟨rfl, rfl⟩ <;> rcases hplaces γ' qs' p' h1' h2' with ⟨r', a1', a2', _⟩ | ⟨rfl, rfl⟩
    · exact h.disj γ γ' r r' p p' a1 a1' a2 a2' he
    · exact hqb γ r p a1 a2 he
    · exact (hqb γ' r' p' a1' a2' he.symm).symm
    · rfl
  · rw [List.getElem?_set] at h1
    by_cases hγβ : β = γ
    · subst hγβ
      rw [if_pos rfl, if_pos hβ] at h1
      simp at h1
      subst h1
      cases h2
    · rw [if_neg hγβ] at h1
      rcases h.one γ bx h1 h2 with b0 | ⟨p, b1, b2, b3, ⟨us', b4, b5⟩, b6⟩
      · exact .inl (by rw [List.getElem?_set, if_neg hγβ]; exact b0)
      have hlen' := b4.len
      refine .inr ⟨p, by rw [List.getElem?_set, if_neg hγβ]; exact b1, b2, b3, ⟨us', b4.ext e.toKeep, fun j v hj => ?_⟩, fun j hj => ?_⟩
      · rw [hold γ [p] p b1 (by simp) bx h1 j (by have := (List.getElem?_eq_some_iff.1 hj).1; omega)]
        exact b5 j v hj
      · rcases hj with hj | ⟨p', hp', hpp, _⟩
        · exact b6 j hj
        · rcases List.mem_cons.1 hp' with rfl | hp'
          · exact hγβ (hqb γ [p] p b1 (by simp) hpp).symm
          · exact hγβ (h.disj β γ ps [p] p' p hps b1 hp' (by simp) hpp.symm)
  · rw [List.getElem?_set] at h1
    by_cases hγβ : β = γ
    · subst hγβ
      rw [if_pos rfl, if_pos hβ] at h1
      simp at h1
      subst h1
      rw [List.getElem?_set, if_pos rfl, if_pos hβ'] at h3
      simp at h3
      subst h3
      rcases List.mem_cons.1 h4 with rfl | h4'
      · refine ⟨by simp [hqk], ⟨us ++ vs, ?_, fun j v hj => ⟨hc j v hj, ?_⟩⟩, fun _ j hj hi => ?_⟩
        · have e1 : ((box.cells ++ news).take p.k).drop p.lo = box.cells.drop p.lo ++ news := by
            rw [List.take_of_length_le (by simp; omega), List.drop_append_of_le_length hqlo]
          rw [e1]
          exact (hr.append hr').ext e.toKeep
        · right
          refine ⟨p, by simp, rfl, by omega, ?_⟩
          have := (List.getElem?_eq_some_iff.1 hj).1
          simp at this hu
          omega
        · rcases hi with hi | ⟨p', hp', hb', h5, h6⟩
          · rcases hq with ⟨hq, _⟩ | ⟨r, hr1, hr2, hr3, hr4⟩
            · have := h.imm _ _ hi; omega
            · have := (place_cells h hb hps hr1).2.2.2 hr3 j (by omega)
              rw [hr2] at this
              exact this hi
          · rcases List.mem_cons.1 hp' with rfl | hp'
            · omega
            · rcases hq with ⟨hq, _⟩ | ⟨r, hr1, hr2, hr3, hr4⟩
              · have := hmul p' hp'; omega
              · 
                cases hmm : box.multi with
                | false =>
                  rcases h.one β box hb hmm with a0 | ⟨s, a1, a2, a3, _⟩
                  · rw [hps] at a0; simp at a0; subst a0; cases hp'
                  have : ps = [s] := by rw [hps] at a1; simpa using a1
                  subst this
                  have h1 : p' = s := by simpa using hp'
                  have h2 : r = s := by simpa using hr1
                  subst h1
                  subst h2
                  omega
                | true =>
                  obtain ⟨a1, ⟨vs', a2, a3⟩, _⟩ := h.many β box ps p' hb hmm hps hp'
                  have hl2 := a2.len
                  have hk := (h.places β ps p' hps hp').2.1
                  have hll : j - p'.o < vs'.length := by rw [← hl2]; simp; omega
                  have := (a3 (j - p'.o) vs'[j - p'.o] (by simp [hll])).2
                  rw [show p'.o + (j - p'.o) = j by omega, ← hb', ← hr2] at this
                  exact (place_cells h hb hps hr1).2.2.2 hr3 j (by omega) this
      · obtain ⟨c0, c1, ⟨vs', c2, c3⟩, _⟩ := place_cells h hb hps h4'
        have hl2 := c2.len
        refine ⟨by simp; omega, ⟨vs', ?_, fun j v hj => ?_⟩, fun hk => by simp at hk; omega⟩
        · have e1 : ((box.cells ++ news).take p.k).drop p.lo = (box.cells.take p.k).drop p.lo := by
            rw [List.take_append_of_le_length c1]
          rw [e1]
          exact c2.ext e.toKeep
        · have hj' := (List.getElem?_eq_some_iff.1 hj).1
          have hj2 : p.lo + j < p.k := by simp at hl2; omega
          exact ⟨(hold β ps p hps h4' box hb j hj2).trans (c3 j v hj), .inr ⟨p, h4, rfl, by omega, by omega⟩⟩
    · rw [if_neg hγβ] at h1
      rw [List.getElem?_set, if_neg hγβ] at h3
      obtain ⟨b1, ⟨us', b2, b3⟩, b4⟩ := h.many γ bx qs p h1 h2 h3 h4
      have hl2 := b2.len
      refine ⟨b1, ⟨us', b2.ext e.toKeep, fun j v hj => ⟨?_, .inl (b3 j v hj).2⟩⟩, fun hk j hj hi => ?_⟩
      · rw [hold γ qs p h3 h4 bx h1 j (by have := (List.getElem?_eq_some_iff.1 hj).1; simp at hl2; omega)]
        exact (b3 j v hj).1
      · rcases hi with hi | ⟨p', hp', hpp, _⟩
        · exact b4 hk j hj hi
        · rcases List.mem_cons.1 hp' with rfl | hp'
          · exact hγβ (hqb γ qs p h3 h4 hpp).symm
          · exact hγβ (h.disj β γ ps qs p' p hps h3 hp' h4 hpp.symm)
end
end Go.Sy
end
section
namespace Go.Sy
open Go.RowKit (Below)
def nxv : Next → Option Value
  | .value v => some v
  | .skip => some undef
  | _ => none
def Fits (P : Program) (N : Nat) (I : Nat → Nat → Prop) (μ : List (List Place)) (w : World) (o : Oper) (a : Act) (c : CV) (B' : List Box) : Prop :=
  ∃ nx v I' μ' w', (execOp a.eval o).run P w = .ok nx w' ∧ nxv nx = some v ∧ Step N I μ w c v B' I' μ' w'
section
variable {P : Program} {N : Nat} {I : Nat → Nat → Prop} {μ : List (List Place)} {B : List Box} {w : World} {o : Oper} {a : Act} {fr : Fr} {c : CV}
theorem opv_rel (hfr : ∀ i, V I μ w (fr i) (a.tmps.getD i undef)) : ∀ x : Operand, V I μ w (opv fr x) (a.eval x)
  | .tmp t => hfr t
  | .const v => ofV_rel I μ w v
  | .global _ => .raw _ (by simp) (.nil _)
  | .func _ => .fn _ (.nil _) (.nil _) (.nil _)
theorem fits_value {v : Value} (hB : BRel N I μ B w) (hr : (execOp a.eval o).run P w = .ok (.value v) w) (hv : V I μ w c v) : Fits P N I μ w o a c B :=
  ⟨_, v, I, μ, w, hr, rfl, hv, hB, .refl _ _ _, Below.refl _ _⟩
theorem V.int_inv {k : IntKind} {n : Int} {v : Value} (h : V I μ w (.int k n) v) : v = .int k n := by cases h; rfl
theorem V.bool_inv {b : Bool} {v : Value} (h : V I μ w (.bool b) v) : v = .bool b := by cases h; rfl
theorem V.str_inv {s : List UInt8} {v : Value} (h : V I μ w (.str s) v) : v = .string ⟨s.toArray⟩ := by cases h; rfl
theorem V.nilP_inv {v : Value} (h : V I μ w .nilP v) : v = .pointer none := by cases h; rfl
theorem V.nilS_inv {v : Value} (h : V I μ w .nilS v) : v = .slice none 0 0 := by cases h; rfl
theorem V.nilF_inv {v : Value} (h : V I μ w .nilF v) : v = .nilFunc := by cases h; rfl
theorem V.agg_inv {cs : List CV} {v : Value} (h : V I μ w (.agg cs) v) : ∃ vs, v = .agg vs.toArray ∧ R I μ w true cs vs := by cases h with | agg h _ => exact ⟨_, rfl, h⟩
theorem V.tup_inv {cs : List CV} {v : Value} (h : V I μ w (.tup cs) v) : ∃ vs, v = .tuple vs.toArray ∧ R I μ w false cs vs := by cases h with | tup h _ => exact ⟨_, rfl, h⟩
theorem V.fn_inv {f : Fn} {x y : List CV} {v : Value} (h : V I μ w (.fn f x y) v) : ∃ vs us, v = .func f vs.toArray us.toArray ∧ R I μ w false x vs ∧ R I μ w false y us := by cases h with | fn _ h h' _ => exact ⟨_, _, rfl, h, h'⟩
theorem V.nilI_inv {v : Value} (h : V I μ w .nilI v) : v = .nilIface := by cases h; rfl
theorem V.iface_inv {t : TypeId} {c : CV} {v : Value} (h : V I μ w (.iface t c) v) : ∃ t' u, v = .iface t' u := by cases h; exact ⟨_, _, rfl⟩
theorem V.ptr_inv {b off : Nat} {v : Value} (h : V I μ w (.ptr b off) v) : ∃ ps p, v = .pointer (some ⟨p.b, p.o + (off - p.lo), none⟩) ∧ μ[b]? = some ps ∧ p ∈ ps ∧ p.lo ≤ off := by cases h with | ptr _ _ ps p h1 h2 h3 _ => exact ⟨ps, p, rfl, h1, h2, h3⟩
theorem V.iptr_inv {cs : List CV} {v : Value} (h : V I μ w (.iptr cs) v) : ∃ b o vs, v = .pointer (some ⟨b, o, none⟩) ∧ R I μ w true cs vs ∧ ∀ j u, vs[j]? = some u → w.cell? ⟨b, o + j, none⟩ = some u ∧ I b (o + j) := by cases h with | iptr b o h hm _ => exact ⟨b, o, _, rfl, h, hm⟩
theorem fits_pure {x : CV} (hB : BRel N I μ B w) (hfr : ∀ i, V I μ w (fr i) (a.tmps.getD i undef)) (h : evPure P o fr = some x) : Fits P N I μ w o a x B := by
  unfold evPure at h
  split at h
  · rename_i hall
    split at h
    · rename_i v hv
      simp only [Option.some.injEq] at h
      subst h
      by_cases hsel : ∃ cs b, o.op = .select cs b
      · obtain ⟨cs, b, hs⟩ := hsel
        exfalso
        have hv' := pureRun_run P _ _ hv default
        unfold execOp at hv'
        simp only [hs, Sem.run_bind] at hv'
        revert hv'
        generalize Sem.run P (Array.mapM _ cs) default = r
        cases r <;> simp
      · have hc : execOp (fun x => (toV (opv fr x)).getD undef) o = execOp a.eval o := by
          refine execOp_congr o (fun cs b hs => hsel ⟨cs, b, hs⟩) fun x hx => ?_
          simp only [Array.all_eq_true_iff_forall_mem] at hall
          obtain ⟨u, hu⟩ := Option.isSome_iff_exists.1 (hall x hx)
          rw [hu]
          exact (opv_rel hfr x).toV hu
        rw [hc] at hv
        exact fits_value hB (pureRun_run P _ _ hv w) (ofV_rel I μ w v)
    · cases h
  · cases h
theorem run_equal {t : TypeId} {x y : Value} {b : Bool} (h : ∀ d, (Op.equalIn (d + 1) t x y).run P w = .ok b w) : (Op.equal t x y).run P w = .ok b w := h 9999
theorem equal_bool {t : TypeId} (ht : P.underlying t = some .bool) (x y : Bool) : (Op.equal t (.bool x) (.bool y)).run P w = .ok (x == y) w := run_equal fun d => by simp [Op.equalIn, run_underlying ht]
theorem equal_ptr_nil {t e : TypeId} (ht : P.underlying t = some (.pointer e)) (x : Addr) : (Op.equal t (.pointer (some x)) (.pointer none)).run P w = .ok false w := run_equal fun d => by simp [Op.equalIn, run_underlying ht]
theorem equal_fn_nil {t : TypeId} {ps rs : Array TypeId} {vr : Bool} (ht : P.underlying t = some (.func ps rs vr)) (f : Fn) (x y : Array Value) : (Op.equal t (.func f x y) .nilFunc).run P w = .ok false w := run_equal fun d => by simp [Op.equalIn, run_underlying ht]
theorem equal_iface_nil {t : TypeId} {ms : Array (String × TypeId)} (ht : P.underlying t = some (.interface ms)) (d : TypeId) (x : Value) : (Op.equal t (.iface d x) .nilIface).run P w = .ok false w := run_equal fun d => by simp [Op.equalIn, run_underlying ht]
theorem equal_slice_nil {t e : TypeId} (ht : P.underlying t = some (.slice e)) (A : Option Addr) (k cap : Nat) : (Op.equal t (.slice A k cap) (.slice none 0 0)).run P w = .ok A.isNone w := run_equal fun d => by cases A <;> simp [Op.equalIn, run_underlying ht]
theorem V.lst_some {n : Nat} {cs : List CV} {full : Bool} {v : Value} (h : V I μ w (.lst n cs full) v) (hn : n ≠ 0) : ∃ A cap, v = .slice (some A) n cap := by
  cases h with
  | lst _ _ b o cap h hm hn hf _ => exact ⟨_, cap, rfl⟩
  | lstE => exact absurd rfl hn
theorem V.view_some {b off n sz : Nat} {full : Bool} {v : Value} (h : V I μ w (.view b off n sz full) v) (hn : n ≠ 0) : ∃ A cap, v = .slice (some A) n cap := by
  cases h with
  | view _ _ _ _ _ ps p cap => exact ⟨_, cap, rfl⟩
  | viewE => exact absurd rfl hn
theorem V.cview_some {b off n c sz : Nat} {v : Value} (h : V I μ w (.cview b off n c sz) v) (hn : n ≠ 0) : ∃ A cap, v = .slice (some A) n cap := by
  cases h with
  | cview _ _ _ _ _ ps p => exact ⟨_, c, rfl⟩
  | cviewE => exact absurd rfl hn
theorem fits_bin {op : BinOp} {t yt : TypeId} {x y : Operand} {r : CV} (ho : o.op = .binOp op t x y yt) (hB : BRel N I μ B w) (hfr : ∀ i, V I μ w (fr i) (a.tmps.getD i undef))
    (h : binC P op t (opv fr x) (opv fr y) = some (some r)) : Fits P N I μ w o a r B := by
  have hx := opv_rel hfr x
  have hy := opv_rel hfr y
  unfold binC at h
  split at h
  · rename_i k n k' m e1 e2
    rw [e1] at hx
    rw [e2] at hy
    have hx := hx.int_inv
    have hy := hy.int_inv
    cases op <;> simp only at h
    case shl =>
      unfold shiftC at h
      split at h
      · cases h
      · rename_i hneg
        simp at h; subst h
        exact fits_value hB (by simp [execOp, ho, hx, hy, eqGuard, binOp, Op.shift, hneg]) (.int _ _ (.nil _))
    case shr =>
      unfold shiftC at h
      split at h
      · cases h
      · rename_i hneg
        simp at h; subst h
        exact fits_value hB (by simp [execOp, ho, hx, hy, eqGuard, binOp, Op.shift, hneg]) (.int _ _ (.nil _))
    all_goals
      by_cases hk : k = k'
      rotate_left
      · rw [if_neg hk] at h; cases h
      rw [if_pos hk] at h
      subst hk
      simp only [binInt, Option.some.injEq] at h
      first
        | (split at h
           · cases h
           · rename_i hz
             simp at h; subst h
             exact fits_value hB (by simp [execOp, ho, hx, hy, eqGuard, binOp, Op.intDiv, hz]) (.int _ _ (.nil _)))
        | (subst h; refine fits_value hB ?_ (.bool _ (.nil _)); simp [execOp, ho, hx, hy, eqGuard, binOp, Op.intCmp]; done)
        | (subst h; refine fits_value hB ?_ (.int _ _ (.nil _)); simp [execOp, ho, hx, hy, eqGuard, binOp, Op.intArith]; done)
        | (subst h; refine fits_value hB ?_ (.int _ _ (.nil _)); simp [execOp, ho, hx, hy, eqGuard, binOp]; rfl)
  · rename_i s s' e1 e2
    rw [e1] at hx
    rw [e2] at hy
    have hx := hx.str_inv
    have hy := hy.str_inv
    cases op <;> simp only [strC, Option.some.injEq] at h
    case add =>
      split at h
      · rename_i hl
        simp at h; subst h
        have h2 : ¬ (9223372036854775807 < (s.length : Int) + (s'.length : Int)) := by omega
        refine fits_value hB (v := .string ⟨(s ++ s').toArray⟩) ?_ (.str _ (.nil _))
        simp [execOp, ho, hx, hy, eqGuard, binOp, Op.stringOp, ByteArray.size, h2]
        apply ByteArray.ext
        simp
      · cases h
    all_goals
      first
        | (subst h
           exact fits_value hB (by simp [execOp, ho, hx, hy, eqGuard, binOp, Op.stringOp]) (.bool _ (.nil _)))
        | (simp at h; done)
  · rename_i b b' e1 e2
    rw [e1] at hx
    rw [e2] at hy
    have hx := hx.bool_inv
    have hy := hy.bool_inv
    split at h
    rotate_left
    · cases h
    rename_i ht
    split at h <;> simp at h
    · subst h
      exact fits_value hB (by simp [execOp, ho, hx, hy, eqGuard, binOp, equal_bool ht]) (.bool _ (.nil _))
    · subst h
      exact fits_value hB (by simp [execOp, ho, hx, hy, eqGuard, binOp, equal_bool ht]) (.bool _ (.nil _))
  · rename_i e1 e2
    rw [e1] at hx
    rw [e2] at hy
    obtain ⟨ps, p, hx, _⟩ := hx.ptr_inv
    have hy := hy.nilP_inv
    split at h
    rotate_left
    · cases h
    rename_i ht
    split at h <;> simp at h
    · subst h
      exact fits_value hB (by simp [execOp, ho, hx, hy, eqGuard, binOp, equal_ptr_nil ht]) (.bool _ (.nil _))
    · subst h
      exact fits_value hB (by simp [execOp, ho, hx, hy, eqGuard, binOp, equal_ptr_nil ht]) (.bool _ (.nil _))
  · rename_i e1 e2
    rw [e1] at hx
    rw [e2] at hy
    obtain ⟨_, _, _, hx, _⟩ := hx.iptr_inv
    have hy := hy.nilP_inv
    split at h
    rotate_left
    · cases h
    rename_i ht
    split at h <;> simp at h
    · subst h
      exact fits_value hB (by simp [execOp, ho, hx, hy, eqGuard, binOp, equal_ptr_nil ht]) (.bool _ (.nil _))
    · subst h
      exact fits_value hB (by simp [execOp, ho, hx, hy, eqGuard, binOp, equal_ptr_nil ht]) (.bool _ (.nil _))
  · rename_i n A1 A2 e1 e2
    rw [e1] at hx
    rw [e2] at hy
    have hy := hy.nilS_inv
    split at h
    rotate_left
    · cases h
    rename_i ht
    split at h
    · cases h
    rename_i hn
    obtain ⟨A, cap, hx⟩ := hx.lst_some hn
    split at h <;> simp at h
    · subst h
      exact fits_value hB (by simp [execOp, ho, hx, hy, eqGuard, binOp, equal_slice_nil ht]) (.bool _ (.nil _))
    · subst h
      exact fits_value hB (by simp [execOp, ho, hx, hy, eqGuard, binOp, equal_slice_nil ht]) (.bool _ (.nil _))
  · rename_i A0 A1 n A2 A3 e1 e2
    rw [e1] at hx
    rw [e2] at hy
    have hy := hy.nilS_inv
    split at h
    rotate_left
    · cases h
    rename_i ht
    split at h
    · cases h
    rename_i hn
    obtain ⟨A, cap, hx⟩ := hx.view_some hn
    split at h <;> simp at h
    · subst h
      exact fits_value hB (by simp [execOp, ho, hx, hy, eqGuard, binOp, equal_slice_nil ht]) (.bool _ (.nil _))
    · subst h
      exact fits_value hB (by simp [execOp, ho, hx, hy, eqGuard, binOp, equal_slice_nil ht]) (.bool _ (.nil _))
  · rename_i A0 A1 n A2 A3 e1 e2
    rw [e1] at hx
    rw [e2] at hy
    have hy := hy.nilS_inv
    split at h
    rotate_left
    · cases h
    rename_i ht
    split at h
    · cases h
    rename_i hn
    obtain ⟨A, cap, hx⟩ := hx.cview_some hn
    split at h <;> simp at h
    · subst h
      exact fits_value hB (by simp [execOp, ho, hx, hy, eqGuard, binOp, equal_slice_nil ht]) (.bool _ (.nil _))
    · subst h
      exact fits_value hB (by simp [execOp, ho, hx, hy, eqGuard, binOp, equal_slice_nil ht]) (.bool _ (.nil _))
  · rename_i e1 e2
    rw [e1] at hx
    rw [e2] at hy
    obtain ⟨_, _, hx, _⟩ := hx.fn_inv
    have hy := hy.nilF_inv
    split at h
    rotate_left
    · cases h
    rename_i ht
    split at h <;> simp at h
    · subst h
      exact fits_value hB (by simp [execOp, ho, hx, hy, eqGuard, binOp, equal_fn_nil ht]) (.bool _ (.nil _))
    · subst h
      exact fits_value hB (by simp [execOp, ho, hx, hy, eqGuard, binOp, equal_fn_nil ht]) (.bool _ (.nil _))
  · rename_i e1 e2
    rw [e1] at hx
    rw [e2] at hy
    obtain ⟨_, _, hx⟩ := hx.iface_inv
    have hy := hy.nilI_inv
    split at h
    rotate_left
    · cases h
    rename_i ht
    split at h <;> simp at h
    · subst h
      exact fits_value hB (by simp [execOp, ho, hx, hy, eqGuard, binOp, equal_iface_nil ht]) (.bool _ (.nil _))
    · subst h
      exact fits_value hB (by simp [execOp, ho, hx, hy, eqGuard, binOp, equal_iface_nil ht]) (.bool _ (.nil _))
  · cases h
theorem fits_un {op : UnOp} {t : TypeId} {x : Operand} {r : CV} (ho : o.op = .unOp op t x) (hB : BRel N I μ B w) (hfr : ∀ i, V I μ w (fr i) (a.tmps.getD i undef))
    (h : unC op (opv fr x) = some (some r)) : Fits P N I μ w o a r B := by
  have hx := opv_rel hfr x
  unfold unC at h
  split at h
  · rename_i e1; rw [e1] at hx; have hx := hx.bool_inv; simp at h; subst h
    exact fits_value hB (by simp [execOp, ho, hx, Op.unary]) (.bool _ (.nil _))
  · rename_i e1; rw [e1] at hx; have hx := hx.int_inv; simp at h; subst h
    exact fits_value hB (by simp [execOp, ho, hx, Op.unary, Op.intArith]) (.int _ _ (.nil _))
  · rename_i e1; rw [e1] at hx; have hx := hx.int_inv; simp at h; subst h
    exact fits_value hB (by simp [execOp, ho, hx, Op.unary, Op.intBits, bits]) (.int _ _ (.nil _))
  · cases h
end
end Go.Sy
end
section
namespace Go.Sy
open Go.RowKit (Below)
section
variable {P : Program} {N : Nat} {I : Nat → Nat → Prop} {μ : List (List Place)} {B : List Box} {w : World} {o : Oper} {a : Act} {fr : Fr} {c : CV}
theorem run_sizeOf' {t : TypeId} {n : Nat} (h : szOf P t = some n) (w : World) : (sizeOf t).run P w = .ok n w := by
  unfold szOf at h
  simp only [Option.map_eq_some_iff] at h
  obtain ⟨i, h1, h2⟩ := h
  simp [sizeOf, typeInfo, h1, h2]
theorem run_isAgg {t : TypeId} {d : TypeDesc} (h : P.underlying t = some d) (w : World) : (isAgg t).run P w = .ok (aggT P t) w := by
  unfold isAgg aggT
  simp only [Sem.run_bind, run_underlying h, Result.andThen_ok, h]
  cases d <;> simp
theorem elemT_some {t e : TypeId} (h : elemT P t = some e) : P.underlying t = some (.slice e) := by
  unfold elemT at h
  split at h
  · rename_i e' h'; simp at h; subst h; exact h'
  · cases h
theorem cells_rel {c : CV} {v : Value} {cs : List CV} (h : V I μ w c v) (hc : cellsC c = some cs) : R I μ w true cs v.cells.toList := by
  cases h with
  | agg h _ => simp [cellsC] at hc; subst hc; simpa [Value.cells] using h
  | tup h _ => simp [cellsC] at hc
  | raw v _ _ =>
    simp [cellsC] at hc
    obtain ⟨h1, rfl⟩ := hc
    cases v <;> first | (simp [Value.oneCell'] at h1; done) | exact .raw _ (fun _ => rfl) (.nil _)
  | bool b _ => simp [cellsC] at hc; subst hc; exact .bool _ (.nil _)
  | int k n _ => simp [cellsC] at hc; subst hc; exact .int _ _ (.nil _)
  | str s _ => simp [cellsC] at hc; subst hc; exact .str _ (.nil _)
  | nilP _ => simp [cellsC] at hc; subst hc; exact .nilP (.nil _)
  | nilS _ => simp [cellsC] at hc; subst hc; exact .nilS (.nil _)
  | nilF _ => simp [cellsC] at hc; subst hc; exact .nilF (.nil _)
  | nilI _ => simp [cellsC] at hc; subst hc; exact .nilI (.nil _)
  | lst n full b o cap h hm hn hf _ => simp [cellsC] at hc; subst hc; exact .lst n full b o cap h hm hn hf (.nil _)
  | lstE full A _ => simp [cellsC] at hc; subst hc; exact .lstE full A (.nil _)
  | view β off n sz full ps p cap hb hp hlo hk hn hf hr _ => simp [cellsC] at hc; subst hc; exact .view β off n sz full ps p cap hb hp hlo hk hn hf hr (.nil _)
  | viewE β off sz full A hb _ => simp [cellsC] at hc; subst hc; exact .viewE β off sz full A hb (.nil _)
  | cview β off n cap sz ps p hb hp hlo hk hn hpl _ => simp [cellsC] at hc; subst hc; exact .cview β off n cap sz ps p hb hp hlo hk hn hpl (.nil _)
  | cviewE β off sz A hb _ => simp [cellsC] at hc; subst hc; exact .cviewE β off sz A hb (.nil _)
  | bview β n ty ps p cap hb hp hlo ho hk hn hc' hr hpl _ => simp [cellsC] at hc; subst hc; exact .bview β n ty ps p cap hb hp hlo ho hk hn hc' hr hpl (.nil _)
  | ptr β off ps p hb hp hlo _ => simp [cellsC] at hc; subst hc; exact .ptr β off ps p hb hp hlo (.nil _)
  | iptr b o h hm _ => simp [cellsC] at hc; subst hc; exact .iptr b o h hm (.nil _)
  | fn f h h' _ => simp [cellsC] at hc; subst hc; exact .fn f h h' (.nil _)
  | iface t h _ => simp [cellsC] at hc; subst hc; exact .iface t h (.nil _)
  | imap r es clock h h' hm hi _ => simp [cellsC] at hc; subst hc; exact .imap r es clock h h' hm hi (.nil _)
  | bptr β ty n ps p hb hp hlo ho hw _ => simp [cellsC] at hc; subst hc; exact .bptr β ty n ps p hb hp hlo ho hw (.nil _)
theorem part_rel {t : TypeId} {cs : List CV} {vs : List Value} {off : Nat} (h : R I μ w true cs vs) (hc : partC P t cs off = some c) : ∃ v, (part t vs.toArray off).run P w = .ok v w ∧ V I μ w c v := by
  unfold partC at hc
  cases hu : P.underlying t with
  | none => simp [hu] at hc
  | some d =>
    have hagg := run_isAgg hu w
    simp only [hu, Option.isNone_some, Bool.false_eq_true, if_false] at hc
    cases ha : aggT P t with
    | true =>
      simp only [ha, if_true, Option.map_eq_some_iff] at hc
      obtain ⟨n, hn, rfl⟩ := hc
      refine ⟨.agg (vs.toArray.extract off (off + n)), by simp [part, hagg, ha, run_sizeOf' hn], ?_⟩
      have : vs.toArray.extract off (off + n) = ((vs.drop off).take n).toArray := by
        apply Array.ext'
        simp [List.extract]
      rw [this]
      exact .agg ((h.drop off).take n) (.nil _)
    | false =>
      simp only [ha, Bool.false_eq_true, if_false] at hc
      obtain ⟨v, h1, h2, _⟩ := h.get hc
      exact ⟨v, by simp [part, hagg, ha, h1], h2⟩
theorem load_rel {t : TypeId} {cs : List CV} {vs : List Value} {b off : Nat} (h : R I μ w true cs vs) (hm : ∀ j v, vs[j]? = some v → w.cell? ⟨b, off + j, none⟩ = some v) (hc : loadC P t cs = some c) :
    ∃ v, (loadVar t ⟨b, off, none⟩).run P w = .ok v w ∧ V I μ w c v := by
  unfold loadC at hc
  cases hu : P.underlying t with
  | none => simp [hu] at hc
  | some d =>
    have hagg := run_isAgg hu w
    simp only [hu, Option.isNone_some, Bool.false_eq_true, if_false] at hc
    cases ha : aggT P t with
    | true =>
      simp only [ha, if_true, Option.bind_eq_some_iff] at hc
      obtain ⟨n, hn, hc⟩ := hc
      split at hc
      · rename_i hle
        simp at hc; subst hc
        have hl := h.len
        have hlen : (vs.take n).length = n := by simp; omega
        have hr := run_loadCells_list (P := P) w ⟨b, off, none⟩ (vs.take n) (fun j v hj => by
          rw [Addr.add_lit]
          rw [List.getElem?_take] at hj
          split at hj
          · exact hm j v hj
          · cases hj)
        rw [hlen] at hr
        refine ⟨.agg (vs.take n).toArray, by simp [loadVar, hagg, ha, run_sizeOf' hn, hr], .agg (h.take n) (.nil _)⟩
      · cases hc
    | false =>
      simp only [ha, Bool.false_eq_true, if_false] at hc
      have hc' : cs[0]? = some c := by rw [← List.head?_eq_getElem?]; exact hc
      obtain ⟨v, h1, h2, _⟩ := h.get hc'
      have := hm 0 v h1
      simp only [Nat.add_zero] at this
      exact ⟨v, by simp [loadVar, hagg, ha, this], h2⟩
theorem box_ptr (hB : BRel N I μ B w) {b off : Nat} {box : Box} {v : Value} (h : V I μ w (.ptr b off) v) (hb : B[b]? = some box) (hm : box.multi = false) :
    ∃ (p : Place) (vs : List Value), μ[b]? = some [p] ∧ v = .pointer (some ⟨p.b, p.o + off, none⟩) ∧ R I μ w true box.cells vs ∧ (∀ j u, vs[j]? = some u → w.cell? ⟨p.b, p.o + j, none⟩ = some u) := by
  obtain ⟨ps, q, rfl, h1, h2, h3⟩ := h.ptr_inv
  obtain ⟨p, a1, a2, a3, ⟨vs, a4, a5⟩, _⟩ := one_place hB hb hm h1 h2
  have : ps = [p] := by rw [h1] at a1; simpa using a1
  subst this
  have : q = p := by simpa using h2
  subst this
  exact ⟨q, vs, a1, by rw [a2]; rfl, a4, a5⟩
theorem fits_load {t : TypeId} {x : Operand} {r : CV × List Box} (ho : o.op = .load t x) (hB : BRel N I μ B w) (hfr : ∀ i, V I μ w (fr i) (a.tmps.getD i undef))
    (h : ev P o fr B = some r) : Fits P N I μ w o a r.1 r.2 := by
  have hx := opv_rel hfr x
  simp only [ev, ho] at h
  split at h
  · rename_i b off e1
    rw [e1] at hx
    split at h
    · rename_i box hb
      split at h
      · cases h
      · rename_i hm
        simp only [Option.map_eq_some_iff] at h
        obtain ⟨c, hc, rfl⟩ := h
        obtain ⟨p, vs, h1, h2, h3, h4⟩ := box_ptr hB hx hb (by simpa using hm)
        obtain ⟨v, h5, h6⟩ := load_rel (P := P) (b := p.b) (off := p.o + off) (h3.drop off) (fun j u hj => by
          rw [List.getElem?_drop] at hj
          rw [Nat.add_assoc]
          exact h4 _ u hj) hc
        exact fits_value hB (by simp [execOp, ho, Instr.loadAt, Instr.sureAddr, h2, h5]) h6
    · cases h
  · rename_i cs e1
    rw [e1] at hx
    simp only [Option.map_eq_some_iff] at h
    obtain ⟨c, hc, rfl⟩ := h
    obtain ⟨b, o', vs, h1, h2, h3⟩ := hx.iptr_inv
    obtain ⟨v, h5, h6⟩ := load_rel (P := P) h2 (fun j u hj => (h3 j u hj).1) hc
    exact fits_value hB (by simp [execOp, ho, Instr.loadAt, Instr.sureAddr, h1, h5]) h6
  · cases h
theorem fits_field {t : TypeId} {x : Operand} {i : Nat} {r : CV × List Box} (ho : o.op = .field t x i) (hB : BRel N I μ B w) (hfr : ∀ i, V I μ w (fr i) (a.tmps.getD i undef))
    (h : ev P o fr B = some r) : Fits P N I μ w o a r.1 r.2 := by
  have hx := opv_rel hfr x
  simp only [ev, ho] at h
  split at h
  · rename_i cs fs e1 hu
    rw [e1] at hx
    simp only [Option.bind_eq_some_iff, Option.map_eq_some_iff] at h
    obtain ⟨f, hf, c, hc, rfl⟩ := h
    obtain ⟨vs, h1, h2⟩ := hx.agg_inv
    obtain ⟨v, h3, h4⟩ := part_rel h2 hc
    exact fits_value hB (by simp [execOp, ho, Instr.field, run_underlying hu, hf, h1, asAgg, h3]) h4
  · cases h
theorem fits_extract {x : Operand} {i : Nat} {r : CV × List Box} (ho : o.op = .extract x i) (hB : BRel N I μ B w) (hfr : ∀ i, V I μ w (fr i) (a.tmps.getD i undef))
    (h : ev P o fr B = some r) : Fits P N I μ w o a r.1 r.2 := by
  have hx := opv_rel hfr x
  simp only [ev, ho] at h
  split at h
  · rename_i cs e1
    rw [e1] at hx
    simp only [Option.map_eq_some_iff] at h
    obtain ⟨c, hc, rfl⟩ := h
    obtain ⟨vs, h1, h2⟩ := hx.tup_inv
    obtain ⟨v, h3, h4, _⟩ := h2.get hc
    exact fits_value hB (by simp [execOp, ho, Instr.extract, h1, h3]) h4
  · cases h
theorem fits_index {t : TypeId} {x i : Operand} {r : CV × List Box} (ho : o.op = .index t x i) (hB : BRel N I μ B w) (hfr : ∀ i, V I μ w (fr i) (a.tmps.getD i undef))
    (h : ev P o fr B = some r) : Fits P N I μ w o a r.1 r.2 := by
  have hx := opv_rel hfr x
  have hi := opv_rel hfr i
  simp only [ev, ho] at h
  split at h
  · rename_i s k n e1 e2 hu
    rw [e1] at hx
    rw [e2] at hi
    have hx := hx.str_inv
    have hi := hi.int_inv
    split at h
    · rename_i hn
      simp only [Option.map_eq_some_iff] at h
      obtain ⟨b, hb, rfl⟩ := h
      have hb' : (⟨s.toArray⟩ : ByteArray)[n.toNat]? = some b := by
        rw [← hb]
        have hl := (List.getElem?_eq_some_iff.1 hb).1
        rw [getElem?_pos (⟨s.toArray⟩ : ByteArray) n.toNat hl, List.getElem?_eq_getElem hl]
        rfl
      refine fits_value hB (v := .int .u8 b.toNat) ?_ (.int _ _ (.nil _))
      simp only [execOp, ho, Instr.index, hx, hi, asIntOf, Sem.run_bind, Sem.run_pure, Result.andThen_ok, run_underlying hu, hn, if_true, hb']
    · cases h
  · rename_i cs k n m e e1 e2 hu
    rw [e1] at hx
    rw [e2] at hi
    obtain ⟨vs, h1, h2⟩ := hx.agg_inv
    have hi := hi.int_inv
    split at h
    · rename_i hn
      simp only [Option.bind_eq_some_iff, Option.map_eq_some_iff] at h
      obtain ⟨esz, hs, c, hc, rfl⟩ := h
      obtain ⟨v, h3, h4⟩ := part_rel h2 hc
      refine fits_value hB (v := v) ?_ h4
      simp only [execOp, ho, Instr.index, h1, hi, asIntOf, Sem.run_bind, Sem.run_pure, Result.andThen_ok, run_underlying hu, hn, and_self, if_true, run_sizeOf' hs, h3]
    · cases h
  · cases h
theorem fits_nilCheck {x : Operand} {r : CV × List Box} (ho : o.op = .nilCheck x) (hB : BRel N I μ B w) (hfr : ∀ i, V I μ w (fr i) (a.tmps.getD i undef))
    (h : ev P o fr B = some r) : Fits P N I μ w o a r.1 r.2 := by
  have hx := opv_rel hfr x
  simp only [ev, ho] at h
  split at h
  · rename_i e1
    rw [e1] at hx
    simp at h; subst h
    obtain ⟨ps, p, h1, _⟩ := hx.ptr_inv
    exact fits_value hB (v := a.eval x) (by rw [h1]; simp [execOp, ho, h1]) hx
  · rename_i e1
    rw [e1] at hx
    simp at h; subst h
    obtain ⟨_, _, _, h1, _⟩ := hx.iptr_inv
    exact fits_value hB (v := a.eval x) (by rw [h1]; simp [execOp, ho, h1]) hx
  · rename_i e1
    rw [e1] at hx
    simp at h; subst h
    obtain ⟨_, _, h1, _⟩ := hx.fn_inv
    exact fits_value hB (v := a.eval x) (by rw [h1]; simp [execOp, ho, h1]) hx
  · cases h
theorem fits_makeFunc {f : Fn} {first caps : Array Operand} {r : CV × List Box} (ho : o.op = .makeFunc f first caps) (hB : BRel N I μ B w) (hfr : ∀ i, V I μ w (fr i) (a.tmps.getD i undef))
    (h : ev P o fr B = some r) : Fits P N I μ w o a r.1 r.2 := by
  simp only [ev, ho, Option.some.injEq] at h
  subst h
  have hl : ∀ l : List Operand, R I μ w false (l.map (opv fr)) (l.map a.eval) := fun l => by
    induction l with
    | nil => exact .nil _
    | cons x l ih => exact .cons (opv_rel hfr x) (by simp) ih
  refine fits_value hB (v := .func f (first.toList.map a.eval).toArray (caps.toList.map a.eval).toArray) ?_ (.fn f (hl _) (hl _) (.nil _))
  have e : ∀ l : Array Operand, l.map a.eval = (l.toList.map a.eval).toArray := fun l => by apply Array.ext'; simp
  simp only [execOp, ho, Instr.makeFunc, e]
  rfl
theorem fits_makeInterface {t : TypeId} {x : Operand} {r : CV × List Box} (ho : o.op = .makeInterface t x) (hB : BRel N I μ B w) (hfr : ∀ i, V I μ w (fr i) (a.tmps.getD i undef))
    (h : ev P o fr B = some r) : Fits P N I μ w o a r.1 r.2 := by
  have hx := opv_rel hfr x
  simp only [ev, ho] at h
  split at h
  · cases h
  · cases h
  · rename_i hn hs
    simp at h; subst h
    cases hu : P.underlying t with
    | none => exact absurd hu hs
    | some d =>
      refine fits_value hB (v := .iface t (a.eval x)) ?_ (.iface t hx (.nil _))
      cases d with
      | interface ms => exact absurd hu (hn ms)
      | _ => simp [execOp, ho, Instr.makeInterface, run_underlying hu]
theorem V.imap_inv {ks xs : List CV} {v : Value} (h : V I μ w (.imap ks xs) v) : ∃ r es clock, v = .map (some r) ∧ w.heap[r]? = some (.map es clock) ∧ I r 0 ∧ R I μ w false ks (es.toList.map (·.key)) ∧ R I μ w false xs (es.toList.map (·.val)) := by
  cases h with | imap r es clock h h' hm hi _ => exact ⟨r, es, clock, rfl, hm, hi, h, h'⟩
theorem same_rel {d : TypeDesc} {c c' : CV} {v v' : Value} {b : Bool} (h : V I μ w c v) (h' : V I μ w c' v') (hb : sameC d c c' = some b) : Instr.sameNow d v v' = some b := by
  unfold sameC at hb
  split at hb
  · rename_i k a k' b'
    rw [h.int_inv, h'.int_inv]
    simpa [Instr.sameNow] using hb
  · rename_i a b'
    rw [h.str_inv, h'.str_inv]
    simp only [Instr.sameNow, ← hb]
    congr 1
    show (a.toArray == b'.toArray) = (a == b')
    simp
  · cases hb
theorem find_rel {d : TypeDesc} {c : CV} {v : Value} (h : V I μ w c v) : ∀ (ks xs : List CV) (es : List MapEntry) (i : Nat) (r : Option CV), R I μ w false ks (es.map (·.key)) → R I μ w false xs (es.map (·.val)) → findC d c ks xs = some r →
    ∃ q : Option (Nat × Value), Instr.findNow d v es i = some q ∧ match r, q with | some x, some (_, u) => V I μ w x u | none, none => True | _, _ => False := by
  intro ks
  induction ks with
  | nil =>
    intro xs es i r hk hx hf
    rw [R.nil_iff] at hk
    have : es = [] := by simpa using hk
    subst this
    simp only [List.map_nil] at hx
    cases xs with
    | nil => simp [findC] at hf; subst hf; exact ⟨none, rfl, trivial⟩
    | cons x xs => cases hx
  | cons k ks ih =>
    intro xs es i r hk hx hf
    obtain ⟨kv, kvs, hkv, h1, _, h2⟩ := R.cons_iff.1 hk
    cases es with
    | nil => simp at hkv
    | cons e es =>
      simp at hkv
      obtain ⟨rfl, rfl⟩ := hkv
      cases xs with
      | nil => simp [findC] at hf
      | cons x xs =>
        obtain ⟨xv, xvs, hxv, g1, _, g2⟩ := R.cons_iff.1 hx
        simp at hxv
        obtain ⟨rfl, rfl⟩ := hxv
        simp only [findC] at hf
        split at hf
        · rename_i hs
          simp at hf; subst hf
          exact ⟨some (i, e.val), by simp [Instr.findNow, same_rel h h1 hs], g1⟩
        · rename_i hs
          obtain ⟨q, q1, q2⟩ := ih xs es (i + 1) r h2 g2 hf
          exact ⟨q, by simp [Instr.findNow, same_rel h h1 hs, q1], q2⟩
        · cases hf
theorem run_getObj' {r : Nat} {es : Array MapEntry} {clock : Nat} (h : w.heap[r]? = some (.map es clock)) : (getObj r).run P w = .ok (.map es clock) w := by simp [getObj, Sem.run, h]
theorem sameC_key {d : TypeDesc} {c k : CV} {b : Bool} (h : sameC d c k = some b) : (∃ k0 k1 n, d = .int k0 ∧ c = .int k1 n) ∨ (d = .string ∧ ∃ l, c = .str l) := by
  unfold sameC at h
  split at h
  · exact .inl ⟨_, _, _, rfl, rfl⟩
  · exact .inr ⟨rfl, _, rfl⟩
  · cases h
theorem check_int {kt : TypeId} {k0 : IntKind} (hd : P.underlying kt = some (.int k0)) (em : Bool) (n : Nat) (k : IntKind) (m : Int) : (Instr.checkKey em (n + 1) kt (.int k m)).run P w = .ok () w := by simp [Instr.checkKey, run_underlying hd]
theorem check_str {kt : TypeId} (hd : P.underlying kt = some .string) (em : Bool) (n : Nat) (l : ByteArray) : (Instr.checkKey em (n + 1) kt (.string l)).run P w = .ok () w := by simp [Instr.checkKey, run_underlying hd]
theorem fits_lookup {t : TypeId} {x i : Operand} {ok : Bool} {r : CV × List Box} (ho : o.op = .lookup t x i ok) (hB : BRel N I μ B w) (hfr : ∀ i, V I μ w (fr i) (a.tmps.getD i undef))
    (h : ev P o fr B = some r) : Fits P N I μ w o a r.1 r.2 := by
  have hx := opv_rel hfr x
  have hi := opv_rel hfr i
  simp only [ev, ho, Option.map_eq_some_iff] at h
  obtain ⟨c, hc, rfl⟩ := h
  unfold lookC at hc
  split at hc
  · rename_i kt e ks xs hu hxe
    rw [hxe] at hx
    obtain ⟨m, es, clock, hv, hm, hI, h1, h2⟩ := hx.imap_inv
    split at hc
    · cases hc
    rename_i hne
    have hne : ks ≠ [] := by simpa using hne
    simp only [Option.bind_eq_some_iff] at hc
    obtain ⟨d, hd, hc⟩ := hc
    have hck : ∀ (rc : Option CV) (em : Bool), findC d (opv fr i) ks xs = some rc → ks ≠ [] → (Instr.checkKey em 10000 kt (a.eval i)).run P w = .ok () w := by
      intro rc em hf hne
      cases ks with
      | nil => exact absurd rfl hne
      | cons k ks =>
        cases xs with
        | nil => simp [findC] at hf
        | cons x xs =>
          simp only [findC] at hf
          have hs : ∃ b, sameC d (opv fr i) k = some b := by
            cases hb : sameC d (opv fr i) k with
            | none => rw [hb] at hf; cases hf
            | some b => exact ⟨b, rfl⟩
          obtain ⟨b, hs⟩ := hs
          rcases sameC_key hs with ⟨k0, k1, n, rfl, e1⟩ | ⟨rfl, l, e1⟩
          · rw [e1] at hi
            rw [hi.int_inv]
            exact check_int hd _ 9999 _ _
          · rw [e1] at hi
            rw [hi.str_inv]
            exact check_str hd _ 9999 _
    split at hc
    · rename_i x' hf
      obtain ⟨q, q1, q2⟩ := find_rel hi ks xs es.toList 0 _ h1 h2 hf
      cases q with
      | none => exact q2.elim
      | some q =>
        obtain ⟨j, u⟩ := q
        have hrun : (execOp a.eval o).run P w = .ok (.value (if ok then .tuple #[u, .bool true] else u)) w := by
          simp [execOp, ho, Instr.lookup, hv, run_underlying hu, run_getObj' hm, hck _ _ hf hne, Instr.findKey, run_underlying hd, q1]
        simp at hc; subst hc
        refine fits_value hB hrun ?_
        cases ok
        · exact q2
        · exact .tup (bs := [u, .bool true]) (.cons q2 (by simp) (.bool _ (.nil _))) (.nil _)
    · rename_i hf
      simp only [zvalC, Option.map_eq_some_iff, Option.bind_eq_some_iff] at hc
      obtain ⟨_, ⟨z, ⟨ti, hti, hz⟩, rfl⟩, rfl⟩ := hc
      obtain ⟨q, q1, q2⟩ := find_rel hi ks xs es.toList 0 _ h1 h2 hf
      cases q with
      | some q => exact q2.elim
      | none =>
        have hrun : (execOp a.eval o).run P w = .ok (.value (if ok then .tuple #[z, .bool false] else z)) w := by
          simp [execOp, ho, Instr.lookup, hv, run_underlying hu, run_getObj' hm, hck _ _ hf hne, Instr.findKey, run_underlying hd, q1, zeroValue, typeInfo, hti, hz]
        refine fits_value hB hrun ?_
        cases ok
        · exact ofV_rel I μ w z
        · exact .tup (bs := [z, .bool false]) (.cons (ofV_rel I μ w z) (by simp) (.bool _ (.nil _))) (.nil _)
    · cases hc
  · cases hc
theorem fits_fieldAddr {t : TypeId} {x : Operand} {i : Nat} {r : CV × List Box} (ho : o.op = .fieldAddr t x i) (hB : BRel N I μ B w) (hfr : ∀ i, V I μ w (fr i) (a.tmps.getD i undef))
    (h : ev P o fr B = some r) : Fits P N I μ w o a r.1 r.2 := by
  have hx := opv_rel hfr x
  simp only [ev, ho] at h
  split at h
  · rename_i fs hu
    simp only [Option.bind_eq_some_iff] at h
    obtain ⟨f, hf, h⟩ := h
    split at h
    · rename_i n hs
      split at h
      · rename_i b off e1
        rw [e1] at hx
        simp at h; subst h
        obtain ⟨ps, p, h1, h2, h3, h4⟩ := hx.ptr_inv
        have hv := R.ptr (I := I) (w := w) (one := false) b (off + f.offset) ps p h2 h3 (by omega) (.nil _)
        rw [show p.o + (off + f.offset - p.lo) = p.o + (off - p.lo) + f.offset by omega] at hv
        exact fits_value hB (by simp [execOp, ho, Instr.fieldAt, run_underlying hu, hf, h1, Instr.sureAddr, fieldPlace, run_sizeOf' hs, Addr.add_lit]) hv
      · rename_i cs e1
        rw [e1] at hx
        simp at h; subst h
        obtain ⟨b, o', vs, h1, h2, h3⟩ := hx.iptr_inv
        refine fits_value hB (v := .pointer (some ⟨b, o' + f.offset, none⟩)) (by simp [execOp, ho, Instr.fieldAt, run_underlying hu, hf, h1, Instr.sureAddr, fieldPlace, run_sizeOf' hs, Addr.add_lit])
          (.iptr b (o' + f.offset) (h2.drop f.offset) (fun j u hj => ?_) (.nil _))
        rw [List.getElem?_drop] at hj
        rw [Nat.add_assoc]
        exact h3 _ u hj
      · cases h
    · cases h
  · cases h
end
end Go.Sy
end
section
namespace Go.Sy
open Go.RowKit (Below)
section
variable {P : Program} {N : Nat} {I : Nat → Nat → Prop} {μ : List (List Place)} {B : List Box} {w : World} {o : Oper} {a : Act} {fr : Fr} {c : CV}
theorem eqV_rel (k : Nat) : ∀ (d : Nat) (t : TypeId) (x y : CV) (b : Bool) (v u : Value), eqV P d t x y = some b → V I μ w x v → V I μ w y u → (Op.equalIn (k + d) t v u).run P w = .ok b w := by
  intro d
  induction d with
  | zero => intro t x y b v u h; simp [eqV] at h
  | succ d ih =>
    intro t x y b v u h hx hy
    unfold eqV at h
    split at h
    · rename_i a b' hu
      have hx := hx.bool_inv; have hy := hy.bool_inv
      subst hx; subst hy; simp at h; subst h
      simp [← Nat.add_assoc, Op.equalIn, run_underlying hu]
    · rename_i q k1 n1 k2 n2 hu
      have hx := hx.int_inv; have hy := hy.int_inv
      subst hx; subst hy
      split at h
      · rename_i hk; subst hk; simp at h; subst h
        simp [← Nat.add_assoc, Op.equalIn, run_underlying hu]
      · cases h
    · rename_i s1 s2 hu
      have hx := hx.str_inv; have hy := hy.str_inv
      subst hx; subst hy; simp at h; subst h
      simp [← Nat.add_assoc, Op.equalIn, run_underlying hu, beq_toListBytes]
    · rename_i n e xs ys hu
      cases hs : szOf P e with
      | none => simp [hs] at h
      | some sz =>
        simp only [hs, Option.bind_some] at h
        obtain ⟨vs, rfl, hvs⟩ := hx.agg_inv
        obtain ⟨us, rfl, hus⟩ := hy.agg_inv
        obtain ⟨i, hi, hisz⟩ : ∃ i, P.info? e = some i ∧ i.size = sz := by
          simpa [szOf, Option.map_eq_some_iff] using hs
        have hc : P.cellsOf e = sz := by simp [Program.cellsOf, hi, hisz]
        rw [← Nat.add_assoc, run_equalIn_array w (k + d) _ _ hu hi, hc]
        clear hu hi hisz hc hs
        generalize List.range n = is at h ⊢
        induction is generalizing b with
        | nil => simp at h; subst h; simp [Op.eqItems]
        | cons i is ih2 =>
          simp only [List.foldr_cons, Option.bind_eq_some_iff, Option.map_eq_some_iff] at h
          obtain ⟨r, hr, p, hp, q, hq, b1, hb1, rfl⟩ := h
          obtain ⟨v1, h1, h2⟩ := part_rel hvs hp
          obtain ⟨u1, h3, h4⟩ := part_rel hus hq
          have h5 := ih _ _ _ _ _ _ hb1 h2 h4
          simp only [Op.eqItems, Sem.run_bind, h1, h3, h5, Result.andThen_ok]
          cases b1
          · simp
          · simpa using ih2 _ hr
    · rename_i fs xs ys hu
      split at h
      · cases h
      · rename_i hst
        obtain ⟨vs, rfl, hvs⟩ := hx.agg_inv
        obtain ⟨us, rfl, hus⟩ := hy.agg_inv
        have hfo : P.fieldsOf t = fs := by simp [Program.fieldsOf, hu]
        rw [← Nat.add_assoc, run_equalIn_struct w (k + d) t _ _ (by rw [hfo]; exact hu) (by simpa using hst), hfo]
        clear hu hfo hst
        generalize fs.toList = fl at h ⊢
        induction fl generalizing b with
        | nil => simp at h; subst h; simp [Op.eqFields]
        | cons f fl ih2 =>
          simp only [List.foldr_cons] at h
          split at h
          · cases h
          · rename_i hn
            simp only [Option.bind_eq_some_iff, Option.map_eq_some_iff] at h
            obtain ⟨r, hr, p, hp, q, hq, b1, hb1, rfl⟩ := h
            obtain ⟨v1, h1, h2⟩ := part_rel hvs hp
            obtain ⟨u1, h3, h4⟩ := part_rel hus hq
            have h5 := ih _ _ _ _ _ _ hb1 h2 h4
            simp only [Op.eqFields, ne_eq, hn, not_false_eq_true, if_true, Sem.run_bind, h1, h3, h5, Result.andThen_ok]
            cases b1
            · simp
            · simpa using ih2 _ hr
    · cases h
theorem fits_aggEq {op : BinOp} {t yt : TypeId} {x y : Operand} {r : CV} (ho : o.op = .binOp op t x y yt) (hB : BRel N I μ B w) (hfr : ∀ i, V I μ w (fr i) (a.tmps.getD i undef))
    (h : aggEq P op t (opv fr x) (opv fr y) = some r) : Fits P N I μ w o a r B := by
  have hx := opv_rel hfr x
  have hy := opv_rel hfr y
  unfold aggEq at h
  split at h
  · rename_i xs ys e1 e2
    rw [e1] at hx; rw [e2] at hy
    split at h
    · cases h
    · rename_i hg
      simp only [Option.map_eq_some_iff] at h
      obtain ⟨b, hb, rfl⟩ := h
      rw [e1, e2] at hb
      have he := eqV_rel 9980 20 _ _ _ _ _ _ hb hx hy
      obtain ⟨vs, hv1, _⟩ := hx.agg_inv
      obtain ⟨us, hv2, _⟩ := hy.agg_inv
      rw [hv1, hv2] at he
      refine fits_value hB ?_ (.bool b (.nil _))
      simp [execOp, ho, hv1, hv2, run_eqGuard_agg w .eql t x y _ _ (by simpa using hg), binOp, Op.equal, Op.maxDepth, he]
  · rename_i xs ys e1 e2
    rw [e1] at hx; rw [e2] at hy
    split at h
    · cases h
    · rename_i hg
      simp only [Option.map_eq_some_iff] at h
      obtain ⟨b, hb, rfl⟩ := h
      rw [e1, e2] at hb
      have he := eqV_rel 9980 20 _ _ _ _ _ _ hb hx hy
      obtain ⟨vs, hv1, _⟩ := hx.agg_inv
      obtain ⟨us, hv2, _⟩ := hy.agg_inv
      rw [hv1, hv2] at he
      refine fits_value hB ?_ (.bool (!b) (.nil _))
      simp [execOp, ho, hv1, hv2, run_eqGuard_agg w .neq t x y _ _ (by simpa using hg), binOp, Op.equal, Op.maxDepth, he]
  · cases h
end
end Go.Sy
end
