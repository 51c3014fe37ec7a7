/-
  Ranges over a function: a block that holds no cells may turn; the iterator's call; the statement.
-/
import Derived.Test.YtjlfblcoghiijaaSyM
import Derived.RangeFuncRecord
import Derived.RangeFuncSeq
import Derived.TacticsIn
namespace Go.Sy
set_option linter.all false
open Go.RowKit (Below)

/-- The rows of cells are the same. -/
structure Turn (w w' : World) : Prop where
  size : w'.heap.size = w.heap.size
  cells : ∀ (b : Nat) (c : Array Value) (t : TypeId) (fz : Nat × Nat), w'.heap[b]? = some (.cells c t fz) ↔ w.heap[b]? = some (.cells c t fz)

section
variable {N : Nat} {I I' : Nat → Nat → Prop} {μ μ' : List (List Place)} {B : List Box} {w w' : World}

theorem turn_putObj {l : Nat} {o o' : Obj} (hl : w.heap[l]? = some o) (ho : o.isCells = false) (ho' : o'.isCells = false) : Turn w (w.putObj l o') := by
  have hlt : l < w.heap.size := (Array.getElem?_eq_some_iff.1 hl).1
  refine ⟨World.putObj_size, fun b c t fz => ?_⟩
  by_cases e : b = l
  · subst e
    rw [World.putObj_heap_same hlt, hl]
    constructor <;> intro h <;> simp at h <;> subst h <;> simp [Obj.isCells] at ho ho'
  · rw [World.putObj_heap_other e]

theorem Turn.cell (h : Turn w w') (a : Addr) : w'.cell? a = w.cell? a := by
  unfold World.cell?
  cases hw : w.heap[a.block]? with
  | some o =>
    cases o with
    | cells c t fz => rw [(h.cells _ _ _ _).2 hw]
    | _ =>
      cases hw' : w'.heap[a.block]? with
      | none => rfl
      | some o' =>
        cases o' with
        | cells c t fz => rw [(h.cells _ _ _ _).1 hw'] at hw; cases hw
        | _ => rfl
  | none =>
    cases hw' : w'.heap[a.block]? with
    | none => rfl
    | some o' =>
      cases o' with
      | cells c t fz => rw [(h.cells _ _ _ _).1 hw'] at hw; cases hw
      | _ => rfl
theorem Turn.free (h : Turn w w') {b n : Nat} (hf : Free w b n) : Free w' b n := let ⟨c, t, fz, h1, h2⟩ := hf; ⟨c, t, fz, (h.cells _ _ _ _).2 h1, h2⟩
theorem Turn.plain (h : Turn w w') {b : Nat} (hf : Plain w b) : Plain w' b := let ⟨c, t, h1⟩ := hf; ⟨c, t, (h.cells _ _ _ _).2 h1⟩
theorem Turn.keep (h : Turn w w') : Keep I μ w I μ w' := ⟨fun _ _ h => h, fun _ _ _ => h.cell _, fun _ _ hf => h.free hf, fun _ hf => h.plain hf, fun _ ps h => ⟨ps, h, fun _ h => h⟩⟩
theorem Turn.box (t : Turn w w') (h : BRel N I μ B w) : BRel N I μ B w' := by
  have e := t.keep (I := I) (μ := μ)
  refine ⟨h.len, by rw [t.size]; exact h.low, fun b j hj => by rw [t.size]; exact h.imm b j hj, fun β ps p h1 h2 => ?_, h.disj, fun β box h1 h2 => ?_, fun β box ps p h1 h2 h3 h4 => ?_⟩
  · obtain ⟨a1, a3, a4⟩ := h.places β ps p h1 h2
    exact ⟨a1, a3, t.free a4⟩
  · rcases h.one β box h1 h2 with a0 | ⟨p, a1, a2, a3, ⟨vs, a4, a5⟩, a6⟩
    · exact .inl a0
    exact .inr ⟨p, a1, a2, a3, ⟨vs, a4.ext e, fun j v hj => (t.cell _).trans (a5 j v hj)⟩, a6⟩
  · obtain ⟨a1, ⟨vs, a2, a3⟩, a4⟩ := h.many β box ps p h1 h2 h3 h4
    exact ⟨a1, ⟨vs, a2.ext e, fun j v hj => ⟨(t.cell _).trans (a3 j v hj).1, (a3 j v hj).2⟩⟩, a4⟩

/-- A block of the call's own turns that holds no cells. -/
theorem Ext.turn {D : Nat} {o o' : Obj} (h : Ext I μ w I' μ' w') (hD : w.heap.size ≤ D) (hl : w'.heap[D]? = some o) (ho : o.isCells = false) (ho' : o'.isCells = false) : Ext I μ w I' μ' (w'.putObj D o') := by
  have t := turn_putObj (o' := o') hl ho ho'
  refine ⟨h.toKeep.trans t.keep, by rw [t.size]; exact h.size, h.more, h.news, h.immN, h.gone, fun b ob hb hc => ?_⟩
  have hb' := (Array.getElem?_eq_some_iff.1 hb).1
  rw [World.putObj_heap_other (by omega)]
  exact h.oth b ob hb hc
/-- A block that holds no cells turns, and turns back. -/
theorem Ext.turned {l : Nat} {o o1 : Obj} (hl : w.heap[l]? = some o) (ho : o.isCells = false) (ho1 : o1.isCells = false) (h : Ext I μ (w.putObj l o1) I' μ' w') : Ext I μ w I' μ' (w'.putObj l o) := by
  have t := turn_putObj (o' := o1) hl ho ho1
  have hlt : l < w.heap.size := (Array.getElem?_eq_some_iff.1 hl).1
  have h1 := h.oth l o1 (World.putObj_heap_same hlt) ho1
  have t' := turn_putObj (o' := o) h1 ho1 ho
  have hlt' : l < w'.heap.size := (Array.getElem?_eq_some_iff.1 h1).1
  have hs := t.size
  refine ⟨(t.keep.trans h.toKeep).trans t'.keep, by rw [t'.size, ← hs]; exact h.size, fun β ps ps' a b p hp => by rw [← hs]; exact h.more β ps ps' a b p hp, fun β ps a b p hp => by rw [← hs]; exact h.news β ps a b p hp,
    fun b j hj => by rw [← hs]; exact h.immN b j hj, h.gone, fun b ob hb hc => ?_⟩
  by_cases e : b = l
  · subst e
    rw [hl] at hb; cases hb
    exact World.putObj_heap_same hlt'
  · rw [World.putObj_heap_other e]
    exact h.oth b ob ((World.putObj_heap_other e).trans hb) hc
theorem Turn.symm (h : Turn w w') : Turn w' w := ⟨h.size.symm, fun b c t fz => (h.cells b c t fz).symm⟩
/-- The same turn at both ends. -/
theorem Ext.both {l : Nat} {o o1 : Obj} (hl : w.heap[l]? = some o) (ho : o.isCells = false) (ho1 : o1.isCells = false) (h : Ext I μ w I' μ' w') : Ext I μ (w.putObj l o1) I' μ' (w'.putObj l o1) := by
  have t := turn_putObj (o' := o1) hl ho ho1
  have hl' := h.oth l o hl ho
  have t' := turn_putObj (o' := o1) hl' ho ho1
  have hlt : l < w.heap.size := (Array.getElem?_eq_some_iff.1 hl).1
  have hlt' : l < w'.heap.size := (Array.getElem?_eq_some_iff.1 hl').1
  have hs := t.size
  refine ⟨(t.symm.keep.trans h.toKeep).trans t'.keep, by rw [t'.size, hs]; exact h.size, fun β ps ps' a b p hp => by rw [hs]; exact h.more β ps ps' a b p hp, fun β ps a b p hp => by rw [hs]; exact h.news β ps a b p hp,
    fun b j hj => by rw [hs]; exact h.immN b j hj, h.gone, fun b ob hb hc => ?_⟩
  by_cases e : b = l
  · subst e
    rw [World.putObj_heap_same hlt] at hb; cases hb
    exact World.putObj_heap_same hlt'
  · rw [World.putObj_heap_other e] at hb ⊢
    exact h.oth b ob hb hc
theorem below_putObj {l : Nat} {o : Obj} (hN : N ≤ l) : Below N w (w.putObj l o) := ⟨rfl, rfl, rfl, by rw [World.putObj_size]; exact Nat.le_refl _, fun k hk => World.putObj_heap_other (by omega)⟩
end

/-! ### An operation in a round's frame. -/
def freeF (r : Option Nat) : Fence := { Fence.wide with round := r }
theorem freeF_in (l : Nat) : Fence.wide.inRound l = freeF (some l) := rfl
theorem freeF_room (r : Option Nat) (n : Nat) : (freeF r).room n := fun _ h => by simp [freeF, Fence.wide] at h
theorem freeF_fn (r : Option Nat) (f : FuncId) : (freeF r).fn f := trivial
theorem freeF_deep {r : Option Nat} {p : Prop} : (freeF r).depth.isSome = true → p := fun h => by simp [freeF, Fence.wide] at h

theorem calls_free {P : Program} {r : Option Nat} {n : Nat} {f : FuncId} {args : Array Value} {w : World} {R : Ending → World → Prop} (h : Calls P f args w R) : CallsIn (freeF r) n P f args w R := callsIn_wide.2 h
theorem rows_free {P : Program} {r : Option Nat} {n : Nat} {row : String} {args : Array Value} {w : World} {R : Value → World → Prop} (h : Rows P row args w R) : RowsIn (freeF r) n P row args w R :=
  fun c cs _ => let ⟨v, w', hr, hs⟩ := h c cs; ⟨v, w', hr, stepsIn_wide.2 hs⟩

def noDefer (o : Oper) : Bool := match o.op with | .defer _ => false | _ => true

theorem wp_free {P : Program} {r : Option Nat} {n : Nat} {o : Oper} {a : Act} {w : World} {K : Act → World → Prop} {Q : Exit → Act → World → Prop} (hd : noDefer o = true) (h : o.wp P a w K Q) : o.wpIn (freeF r) n P a w K Q := by
  refine ⟨fun _ _ => trivial, ?_⟩
  rw [Oper.semAt_eq _ _ _ (fun c hc => by simp [noDefer, hc] at hd)]
  unfold Oper.wp at h
  generalize (execOp a.eval o).run P w = x at h
  cases x with
  | ok nx w' =>
    cases nx with
    | enter f args => exact ⟨freeF_deep, calls_free h⟩
    | row row args => exact ⟨freeF_deep, rows_free h⟩
    | round => exact h.elim
    | _ => exact h
  | halt x w' => cases x <;> exact h

/-! ### Code that is walked in a round's frame, or where yield is called. -/
def AWi (P : Program) (r : Option Nat) (n : Nat) (c : Code) (Q : Exit → Fr → List Box → Prop) (fr : Fr) (B : List Box) : Prop :=
  ∀ (N : Nat) (I0 : Nat → Nat → Prop) (μ0 : List (List Place)) (w0 : World) (I : Nat → Nat → Prop) (μ : List (List Place)) (w : World) (a : Act) (Q' : Exit → Act → World → Prop), St N n I0 μ0 w0 fr B a I μ w →
    (∀ ex fr' B' a' I' μ' w', Q ex fr' B' → St N n I0 μ0 w0 fr' B' a' I' μ' w' → Q' ex a' w') → c.wpIn (freeF r) 0 P Q' a w

/-- A loop's record that asks for rounds: what they come to, at whatever later state. -/
def YEnv (P : Program) (N : Nat) (I : Nat → Nat → Prop) (μ : List (List Place)) (w : World) (l : Nat) (Pre : List CV → List Box → Prop) (Y : List CV → List Box → List Box → Prop) : Prop :=
  ∀ (I' : Nat → Nat → Prop) (μ' : List (List Place)) (w' : World) (args : List CV) (B : List Box) (vs : List Value), Ext I μ w I' μ' w' → Below N w w' → BRel N I' μ' B w' → R I' μ' w' false args vs → Pre args B →
    YieldAt Fence.wide 0 P l vs.toArray w' fun e w'' => ∃ v B'' I'' μ'', e = .returned v ∧ Y args B B'' ∧ Step N I' μ' w' (.bool true) v B'' I'' μ'' w''
theorem YEnv.ext {P : Program} {N : Nat} {I I' : Nat → Nat → Prop} {μ μ' : List (List Place)} {w w' : World} {l : Nat} {Pre : List CV → List Box → Prop} {Y : List CV → List Box → List Box → Prop} (h : YEnv P N I μ w l Pre Y) (e : Ext I μ w I' μ' w') (b : Below N w w') : YEnv P N I' μ' w' l Pre Y :=
  fun I'' μ'' w'' args B vs e' b' => h I'' μ'' w'' args B vs (e.trans e') (b.trans b')

/-- WHAT A CALL OF AN ITERATOR COMES TO: if yield's rounds do what Y says wherever Pre holds. -/
def ItCall (P : Program) (l : Nat) (Pre : List CV → List Box → Prop) (Y : List CV → List Box → List Box → Prop) (f : FuncId) (args : List CV) (B : List Box) (Q : CV → List Box → Prop) : Prop :=
  callable P f = true ∧ ∀ (N : Nat) (I : Nat → Nat → Prop) (μ : List (List Place)) (w : World) (vs : List Value), BRel N I μ B w → YEnv P N I μ w l Pre Y → R I μ w false args vs →
    Calls P f vs.toArray w fun e w' => ∃ c v B' I' μ', e = .returned v ∧ Q c B' ∧ Step N I μ w c v B' I' μ' w'
theorem ItCall.mono {P : Program} {l : Nat} {Pre : List CV → List Box → Prop} {Y : List CV → List Box → List Box → Prop} {f : FuncId} {args : List CV} {B : List Box} {Q Q' : CV → List Box → Prop} (h : ItCall P l Pre Y f args B Q) (hq : ∀ c B', Q c B' → Q' c B') : ItCall P l Pre Y f args B Q' :=
  ⟨h.1, fun N I μ w vs hB hy hv => (h.2 N I μ w vs hB hy hv).mono fun _ _ ⟨c, v, B', I', μ', he, hQ, hs⟩ => ⟨c, v, B', I', μ', he, hq _ _ hQ, hs⟩⟩

def bindC (fr : Fr) : List Tmp → List CV → Fr
  | p :: ps, c :: cs => bindC (upd fr (some p) c) ps cs
  | _, _ => fr

section
variable {P : Program} {N n : Nat} {I0 I : Nat → Nat → Prop} {μ0 μ : List (List Place)} {B : List Box} {w0 w : World} {a : Act} {fr : Fr}

theorem bind_rel : ∀ (ps : List Tmp) (args : List CV) (vs : List Value) (fr : Fr) (tmps : Array Value), (∀ p ∈ ps, p < tmps.size) → R I μ w false args vs → (∀ i, V I μ w (fr i) (tmps.getD i undef)) →
    ((ps.zip vs).foldl (fun t (p, v) => t.setIfInBounds p v) tmps).size = tmps.size ∧ ∀ i, V I μ w (bindC fr ps args i) (((ps.zip vs).foldl (fun t (p, v) => t.setIfInBounds p v) tmps).getD i undef)
  | [], args, vs, fr, tmps, _, _, hf => ⟨by simp, by simpa [bindC] using hf⟩
  | p :: ps, [], vs, fr, tmps, hp, hr, hf => by
    rw [R.nil_iff] at hr; subst hr
    exact ⟨by simp, by simpa [bindC] using hf⟩
  | p :: ps, c :: args, vs, fr, tmps, hp, hr, hf => by
    obtain ⟨v, vs', rfl, h1, _, h2⟩ := R.cons_iff.1 hr
    have hpt := hp p (by simp)
    have := bind_rel ps args vs' (upd fr (some p) c) (tmps.setIfInBounds p v) (fun q hq => by rw [Array.size_setIfInBounds]; exact hp q (by simp [hq])) h2 (fun i => by
      unfold upd
      dsimp only
      by_cases h : i = p
      · subst h; rw [if_pos rfl]; simpa [hpt] using h1
      · rw [if_neg h]
        have : (tmps.setIfInBounds p v).getD i undef = tmps.getD i undef := by
          simp only [Array.getD_eq_getD_getElem?, Array.getElem?_setIfInBounds]
          rw [if_neg (fun e => h e.symm)]
        rw [this]; exact hf i)
    exact ⟨this.1.trans (Array.size_setIfInBounds ..), this.2⟩

/-- A record turns at both ends. -/
theorem St.both {l : Nat} {r : Loop} {o1 : Obj} (h : St N n I0 μ0 w0 fr B a I μ w) (hl : w0.heap[l]? = some (.loop r)) (ho1 : o1.isCells = false) (hN : N ≤ l) : St N n I0 μ0 (w0.putObj l o1) fr B a I μ (w.putObj l o1) := by
  have hl' := h.ext.oth l _ hl rfl
  have t := turn_putObj (o' := o1) hl' rfl ho1
  refine ⟨h.size, ?_, fun i => (h.frame i).ext t.keep, t.box h.box, h.ext.both hl rfl ho1, ?_⟩
  · obtain ⟨Ds, h1, h2, h3⟩ := h.defers
    refine ⟨Ds, h1, h2, fun D hD => ⟨?_, by rw [World.putObj_size]; exact (h3 D hD).2⟩⟩
    have hne : D ≠ l := fun e => by subst e; have := (h3 _ hD).1; rw [hl'] at this; cases this
    rw [World.putObj_heap_other hne]
    exact (h3 D hD).1
  · exact ⟨h.below.os, h.below.tape, h.below.output, by simpa using h.below.size, fun k hk => by rw [World.putObj_heap_other (by omega), World.putObj_heap_other (by omega)]; exact h.below.block k hk⟩

/-- 'for .. := range g { .. }'. -/
theorem range_sound {g : Operand} {ps : Array Tmp} {assign body : Code} {gf : FuncId} {first caps : List CV} {Pre : List CV → List Box → Prop} {Y : List CV → List Box → List Box → Prop} {Q : Exit → Fr → List Box → Prop} {Q' : Exit → Act → World → Prop}
    (hs : St N n I0 μ0 w0 fr B a I μ w) (hg : opv fr g = .fn (.func gf) first caps) (hps : ∀ p ∈ ps.toList, p < n)
    (hround : ∀ (l : Nat) (args : List CV) (B1 : List Box), Pre args B1 → args.length = ps.size ∧ AWi P (some l) n assign (fun ex fr2 B2 => ex = .normal ∧ AWi P (some l) n body (fun ex _ B3 => ex = .normal ∧ Y args B1 B3) fr2 B2) (bindC fr ps.toList args) B1)
    (hit : ∀ l : Nat, ItCall P l Pre Y gf (first ++ [.fn (.yield l) [] []] ++ caps) B (fun _ B' => Q .normal fr B'))
    (hq : ∀ ex fr' B' a' I' μ' w', Q ex fr' B' → St N n I0 μ0 w0 fr' B' a' I' μ' w' → Q' ex a' w') : (Code.rangeFunc g ps assign body).wp P Q' a w := by
  refine (wpIn_wide (n := 0)).1 (wpIn_rangeFunc fun fn _ => ?_)
  have hgv := opv_rel hs.frame g
  rw [hg] at hgv
  obtain ⟨fs, cps, hv, h1, h2⟩ := hgv.fn_inv
  obtain ⟨rec, hrec⟩ : ∃ rec : LoopState → Option Code → Loop, rec = fun st pe => { state := st, pending := pe, fn, tmps := a.tmps, params := ps, assign, body, defers := w.heap.size } := ⟨_, rfl⟩
  obtain ⟨W1, hW1⟩ : ∃ W1, (w.alloc (.deferred (some []))).alloc (.loop (rec .ready none)) = W1 := ⟨_, rfl⟩
  have hL1 : W1.heap[w.heap.size + 1]? = some (.loop (rec .ready none)) := by
    rw [← hW1]; have := World.alloc_heap_new (w.alloc (.deferred (some []))) (.loop (rec .ready none)); rwa [World.size_alloc] at this
  have hK1 : W1.heap[w.heap.size]? = some (.deferred (some [])) := by
    rw [← hW1]; exact (Below.heap_alloc _ _ _ (by simp)).trans (World.alloc_heap_new w _)
  have hsz1 : w.heap.size + 2 ≤ W1.heap.size := by have := (Array.getElem?_eq_some_iff.1 hL1).1; omega
  have hold : ∀ b, b < w.heap.size → W1.heap[b]? = w.heap[b]? := fun b hb => by
    rw [← hW1]; exact (Below.heap_alloc _ _ _ (by simp; omega)).trans (Below.heap_alloc _ _ _ hb)
  have hB1 := hs.box.keep (w' := W1) (by omega) hold
  have hE1 := hs.box.ext_same (w' := W1) (by omega) hold
  have hlow := hs.box.low
  have hbel1 : Below N w W1 := by rw [← hW1]; exact ((Below.refl _ w).alloc hlow _).alloc (by simp; omega) _
  have hall : R I μ W1 false (first ++ [.fn (.yield (w.heap.size + 1)) [] []] ++ caps) (fs ++ [Value.func (.yield (w.heap.size + 1)) #[] #[]] ++ cps) :=
    ((h1.ext hE1.toKeep).append (.fn _ (.nil _) (.nil _) (.nil _))).append (h2.ext hE1.toKeep)
  refine ⟨w.heap.size + 1, [{ target := .collected w.heap.size, args := #[] }], W1, { target := .fn (.func gf) cps.toArray, args := (fs ++ [Value.func (.yield (w.heap.size + 1)) #[] #[]]).toArray }, W1, gf,
    (fs ++ [Value.func (.yield (w.heap.size + 1)) #[] #[]] ++ cps).toArray, W1, ?_, ?_, fun _ _ => trivial, ?_, freeF_deep (r := none), ?_⟩
  · rw [← hW1, hrec]; exact run_enterLoop_outer _ _ _ _ _
  · simp only [resolve, hv]
    simp [Deferred.ofValue, go_sem]
  · simp only [invoke]
    have := callable_run (hit (w.heap.size + 1)).1 (fs ++ [Value.func (.yield (w.heap.size + 1)) #[] #[]] ++ cps).toArray W1
    simpa using this
  -- THE ROUNDS
  have hy : YEnv P N I μ W1 (w.heap.size + 1) Pre Y := by
    intro I' μ' w' args B' vs hE' hbel' hB' hvs hpre
    obtain ⟨hlen, hassign⟩ := hround (w.heap.size + 1) args B' hpre
    have hl' : w'.heap[w.heap.size + 1]? = some (.loop (rec .ready none)) := hE'.oth _ _ hL1 rfl
    have hvl := hvs.len
    have hy := run_yield (P := P) (args := vs.toArray) hl' (by rw [hrec]; simp; omega)
    rw [hrec] at hy
    have hfold : (ps.zip vs.toArray).foldl (fun tmps (t, a) => tmps.setIfInBounds t a) a.tmps = (ps.toList.zip vs).foldl (fun t (p, v) => t.setIfInBounds p v) a.tmps := by
      rw [← Array.foldl_toList]; simp
    obtain ⟨b1, b2⟩ := bind_rel (w := w') ps.toList args vs fr a.tmps (fun p hp => by rw [hs.size]; exact hps p hp) hvs (fun i => ((hs.frame i).ext hE1.toKeep).ext hE'.toKeep)
    refine ⟨fn, _, assign, body, hy, roundIn_of_wpIn (F := Fence.wide) trivial ?_⟩
    dsimp only
    rw [hfold]
    have hst : St N n I' μ' w' (bindC fr ps.toList args) B' { tmps := (ps.toList.zip vs).foldl (fun t (p, v) => t.setIfInBounds p v) a.tmps, defers := [] } I' μ' w' :=
      ⟨b1.trans hs.size, .none _ _, b2, hB', .refl _ _ _, Below.refl _ _⟩
    refine hassign N I' μ' w' I' μ' w' _ _ hst fun ex fr2 B2 a2 I2 μ2 w2 hQ2 hst2 => ?_
    obtain ⟨rfl, hbody⟩ := hQ2
    have hl2 : w2.heap[w.heap.size + 1]? = some (.loop (rec .ready none)) := hst2.ext.oth _ _ hl' rfl
    have hlt2 : w.heap.size + 1 < w2.heap.size := (Array.getElem?_eq_some_iff.1 hl2).1
    refine ⟨w2.putObj (w.heap.size + 1) (.loop { rec .ready none with state := .busy }), run_beginRound hl2 (by rw [hrec]), ?_⟩
    have hst3 := hst2.both (o1 := .loop { rec .ready none with state := .busy }) hl' rfl (by omega)
    refine hbody _ _ _ _ _ _ _ _ _ hst3 fun ex fr3 B3 a3 I3 μ3 w3 hQ3 hst4 => ?_
    obtain ⟨rfl, hY⟩ := hQ3
    have hlt' : w.heap.size + 1 < w'.heap.size := (Array.getElem?_eq_some_iff.1 hl').1
    have hl3 : w3.heap[w.heap.size + 1]? = some (.loop { rec .ready none with state := .busy }) := hst4.ext.oth _ _ (World.putObj_heap_same hlt') rfl
    have hend := run_endRound (P := P) none hl3
    have hrr : ({ { rec .ready none with state := .busy } with state := if (Option.isNone (none : Option Code)) then .ready else .done, pending := none } : Loop) = rec .ready none := by rw [hrec]; rfl
    have t3 := turn_putObj (o' := .loop (rec .ready none)) hl3 rfl rfl
    refine ⟨.bool true, w3.putObj (w.heap.size + 1) (.loop (rec .ready none)), ?_, .bool true, B3, I3, μ3, rfl, hY, .bool _ (.nil _), t3.box hst4.box, hst4.ext.turned hl' rfl rfl, ?_⟩
    · have := hend
      rw [hrr] at this
      exact this
    · have hb := hst4.below
      exact ⟨hb.os, hb.tape, hb.output, by simpa using hb.size, fun k hk => by
        rw [World.putObj_heap_other (by omega)]
        exact (hb.block k hk).trans (World.putObj_heap_other (by omega))⟩
  -- BEHIND THE ITERATOR
  refine calls_free (r := none) (((hit (w.heap.size + 1)).2 N I μ W1 _ hB1 hy hall).mono fun e w2 ⟨c, v, B', I', μ', he, hQ, hstep⟩ => ?_)
  subst he
  have hl2 := hstep.ext.oth _ _ hL1 rfl
  have hk2 := hstep.ext.oth _ _ hK1 rfl
  have t2 := turn_putObj (o' := .loop (rec .exhausted none)) hl2 rfl rfl
  have hend := run_endLoop (P := P) hl2 (by rw [hrec]; simp)
  rw [hrec] at hend
  refine ⟨none, w2.putObj (w.heap.size + 1) (.loop (rec .exhausted none)), by rw [hrec]; exact hend, ?_⟩
  have hE := (hs.ext.trans hE1).trans hstep.ext
  have hbel := (hs.below.trans hbel1).trans hstep.below
  refine hq .normal fr B' _ I' μ' _ hQ ⟨hs.size, ?_, fun i => (((hs.frame i).ext hE1.toKeep).ext hstep.ext.toKeep).ext t2.keep, t2.box hstep.box, hE.turn (by have := hs.ext.size; omega) hl2 rfl rfl, hbel.trans (below_putObj (by omega))⟩
  obtain ⟨Ds, d1, d2, d3⟩ := hs.defers
  refine ⟨w.heap.size :: Ds, by simp [d1], List.nodup_cons.2 ⟨fun hm => ?_, d2⟩, fun D hD => ?_⟩
  · have := (Array.getElem?_eq_some_iff.1 (d3 _ hm).1).1; omega
  · rcases List.mem_cons.1 hD with rfl | hD
    · exact ⟨(World.putObj_heap_other (by omega)).trans hk2, hs.ext.size⟩
    · have hlt := (Array.getElem?_eq_some_iff.1 (d3 _ hD).1).1
      exact ⟨(World.putObj_heap_other (by omega)).trans (hstep.ext.oth _ _ ((hold D hlt).trans (d3 _ hD).1) rfl), (d3 _ hD).2⟩
end
end Go.Sy
