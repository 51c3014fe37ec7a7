/- Lemmas and definitions of this claim (own texts, joined by a program; what the claim does not use is left out). -/
import Derived.Test.YtcbdghgogmcllaaGreatDoorSf3
import Derived.RangeFuncRecord
import Derived.RangeFuncSeq
import Derived.TacticsIn
import Derived.Laws.Externs
set_option linter.all false
set_option maxRecDepth 100000
set_option maxHeartbeats 4000000
section
namespace Go.Sy
open Go.RowKit (Below)
def dull : Obj → Bool
  | .cells .. | .map .. => false
  | _ => true
theorem dull_cells {o : Obj} (h : dull o = true) : o.isCells = false := by cases o <;> simp_all [dull, Obj.isCells]
structure Turn (w w' : World) : Prop where
  size : w'.heap.size = w.heap.size
  cells : ∀ (b : Nat) (c : Array Value) (t : TypeId) (fz : Nat × Nat), w'.heap[b]? = some (.cells c t fz) ↔ w.heap[b]? = some (.cells c t fz)
  maps : ∀ (r : Nat) (es : Array MapEntry) (c : Nat), w'.heap[r]? = some (.map es c) ↔ w.heap[r]? = some (.map es c)
section
variable {N : Nat} {I I' : Nat → Nat → Prop} {μ μ' : List (List Place)} {B : List Box} {w w' : World}
theorem turn_putObj {l : Nat} {o o' : Obj} (hl : w.heap[l]? = some o) (ho : dull o = true) (ho' : dull o' = true) : Turn w (w.putObj l o') := by
  have hlt : l < w.heap.size := (Array.getElem?_eq_some_iff.1 hl).1
  refine ⟨World.putObj_size, fun b c t fz => ?_, fun b es c => ?_⟩ <;> by_cases e : b = l
  · subst e
    rw [World.putObj_heap_same hlt, hl]
    constructor <;> intro h <;> simp at h <;> subst h <;> simp [dull] at ho ho'
  · rw [World.putObj_heap_other e]
  · subst e
    rw [World.putObj_heap_same hlt, hl]
    constructor <;> intro h <;> simp at h <;> subst h <;> simp [dull] at ho ho'
  · rw [World.putObj_heap_other e]
theorem Turn.cell (h : Turn w w') (a : Addr) : w'.cell? a = w.cell? a := by
  unfold World.cell?
  cases hw : w.heap[a.block]? with
  | some o =>
    cases o with
    | cells c t fz => rw [(h.cells _ _ _ _).2 hw]
    | _ =>
      cases hw' : w'.heap[a.block]? with
      | none => rfl
      | some o' =>
        cases o' with
        | cells c t fz => rw [(h.cells _ _ _ _).1 hw'] at hw; cases hw
        | _ => rfl
  | none =>
    cases hw' : w'.heap[a.block]? with
    | none => rfl
    | some o' =>
      cases o' with
      | cells c t fz => rw [(h.cells _ _ _ _).1 hw'] at hw; cases hw
      | _ => rfl
theorem Turn.free (h : Turn w w') {b n : Nat} (hf : Free w b n) : Free w' b n := let ⟨c, t, fz, h1, h2⟩ := hf; ⟨c, t, fz, (h.cells _ _ _ _).2 h1, h2⟩
theorem Turn.plain (h : Turn w w') {b : Nat} {ty : TypeId} {n : Nat} (hf : Whole w b ty n) : Whole w' b ty n := let ⟨c, h1, h2⟩ := hf; ⟨c, (h.cells _ _ _ _).2 h1, h2⟩
theorem Turn.keep (h : Turn w w') : Keep I μ w I μ w' := ⟨fun _ _ h => h, fun _ _ _ => h.cell _, fun _ _ hf => h.free hf, fun _ hf => h.plain hf, fun _ ps h => ⟨ps, h, fun _ h => h⟩, fun r es c _ hx => (h.maps r es c).2 hx⟩
theorem Turn.box (t : Turn w w') (h : BRel N I μ B w) : BRel N I μ B w' := by
  have e := t.keep (I := I) (μ := μ)
  refine ⟨h.len, by rw [t.size]; exact h.low, fun b j hj => by rw [t.size]; exact h.imm b j hj, fun β ps p h1 h2 => ?_, h.disj, fun β box h1 h2 => ?_, fun β box ps p h1 h2 h3 h4 => ?_, h.tabs.keep e⟩
  · obtain ⟨a1, a3, a4⟩ := h.places β ps p h1 h2
    exact ⟨a1, a3, t.free a4⟩
  · rcases h.one β box h1 h2 with a0 | ⟨p, a1, a2, a3, ⟨vs, a4, a5⟩, a6⟩
    · exact .inl a0
    exact .inr ⟨p, a1, a2, a3, ⟨vs, a4.ext e, fun j v hj => (t.cell _).trans (a5 j v hj)⟩, a6⟩
  · obtain ⟨a1, ⟨vs, a2, a3⟩, a4⟩ := h.many β box ps p h1 h2 h3 h4
    exact ⟨a1, ⟨vs, a2.ext e, fun j v hj => ⟨(t.cell _).trans (a3 j v hj).1, (a3 j v hj).2⟩⟩, a4⟩
theorem Ext.turn {D : Nat} {o o' : Obj} (h : Ext I μ w I' μ' w') (hD : w.heap.size ≤ D) (hl : w'.heap[D]? = some o) (ho : dull o = true) (ho' : dull o' = true) : Ext I μ w I' μ' (w'.putObj D o') := by
  have t := turn_putObj (o' := o') hl ho ho'
  refine ⟨h.toKeep.trans t.keep, by rw [t.size]; exact h.size, h.more, h.news, h.immN, h.gone, fun b ob hb hc => ?_⟩
  have hb' := (Array.getElem?_eq_some_iff.1 hb).1
  rw [World.putObj_heap_other (by omega)]
  exact h.oth b ob hb hc
theorem Ext.turned {l : Nat} {o o1 : Obj} (hl : w.heap[l]? = some o) (ho : dull o = true) (ho1 : dull o1 = true) (h : Ext I μ (w.putObj l o1) I' μ' w') : Ext I μ w I' μ' (w'.putObj l o) := by
  have t := turn_putObj (o' := o1) hl ho ho1
  have hlt : l < w.heap.size := (Array.getElem?_eq_some_iff.1 hl).1
  have h1 := h.oth l o1 (World.putObj_heap_same hlt) (dull_cells ho1)
  have t' := turn_putObj (o' := o) h1 ho1 ho
  have hlt' : l < w'.heap.size := (Array.getElem?_eq_some_iff.1 h1).1
  have hs := t.size
  refine ⟨(t.keep.trans h.toKeep).trans t'.keep, by rw [t'.size, ← hs]; exact h.size, fun β ps ps' a b p hp => by rw [← hs]; exact h.more β ps ps' a b p hp, fun β ps a b p hp => by rw [← hs]; exact h.news β ps a b p hp,
    fun b j hj => by rw [← hs]; exact h.immN b j hj, h.gone, fun b ob hb hc => ?_⟩
  by_cases e : b = l
  · subst e
    rw [hl] at hb; cases hb
    exact World.putObj_heap_same hlt'
  · rw [World.putObj_heap_other e]
    exact h.oth b ob ((World.putObj_heap_other e).trans hb) hc
theorem Turn.symm (h : Turn w w') : Turn w' w := ⟨h.size.symm, fun b c t fz => (h.cells b c t fz).symm, fun r es c => (h.maps r es c).symm⟩
theorem Ext.both {l : Nat} {o o1 : Obj} (hl : w.heap[l]? = some o) (ho : dull o = true) (ho1 : dull o1 = true) (h : Ext I μ w I' μ' w') : Ext I μ (w.putObj l o1) I' μ' (w'.putObj l o1) := by
  have t := turn_putObj (o' := o1) hl ho ho1
  have hl' := h.oth l o hl (dull_cells ho)
  have t' := turn_putObj (o' := o1) hl' ho ho1
  have hlt : l < w.heap.size := (Array.getElem?_eq_some_iff.1 hl).1
  have hlt' : l < w'.heap.size := (Array.getElem?_eq_some_iff.1 hl').1
  have hs := t.size
  refine ⟨(t.symm.keep.trans h.toKeep).trans t'.keep, by rw [t'.size, hs]; exact h.size, fun β ps ps' a b p hp => by rw [hs]; exact h.more β ps ps' a b p hp, fun β ps a b p hp => by rw [hs]; exact h.news β ps a b p hp,
    fun b j hj => by rw [hs]; exact h.immN b j hj, h.gone, fun b ob hb hc => ?_⟩
  by_cases e : b = l
  · subst e
    rw [World.putObj_heap_same hlt] at hb; cases hb
    exact World.putObj_heap_same hlt'
  · rw [World.putObj_heap_other e] at hb ⊢
    exact h.oth b ob hb hc
theorem below_putObj {l : Nat} {o : Obj} (hN : N ≤ l) : Below N w (w.putObj l o) := ⟨rfl, rfl, rfl, by rw [World.putObj_size]; exact Nat.le_refl _, fun k hk => World.putObj_heap_other (by omega)⟩
end
def freeF (r : Option Nat) : Fence := { Fence.wide with round := r }
theorem freeF_deep {r : Option Nat} {p : Prop} : (freeF r).depth.isSome = true → p := fun h => by simp [freeF, Fence.wide] at h
theorem calls_free {P : Program} {r : Option Nat} {n : Nat} {f : FuncId} {args : Array Value} {w : World} {R : Ending → World → Prop} (h : Calls P f args w R) : CallsIn (freeF r) n P f args w R := callsIn_wide.2 h
theorem rows_free {P : Program} {r : Option Nat} {n : Nat} {row : String} {args : Array Value} {w : World} {R : Value → World → Prop} (h : Rows P row args w R) : RowsIn (freeF r) n P row args w R :=
  fun c cs _ => let ⟨v, w', hr, hs⟩ := h c cs; ⟨v, w', hr, stepsIn_wide.2 hs⟩
def noDefer (o : Oper) : Bool := match o.op with | .defer _ => false | _ => true
theorem wp_free {P : Program} {r : Option Nat} {n : Nat} {o : Oper} {a : Act} {w : World} {K : Act → World → Prop} {Q : Exit → Act → World → Prop} (hd : noDefer o = true) (h : o.wp P a w K Q) : o.wpIn (freeF r) n P a w K Q := by
  refine ⟨fun _ _ => trivial, ?_⟩
  rw [Oper.semAt_eq _ _ _ (fun c hc => by simp [noDefer, hc] at hd)]
  unfold Oper.wp at h
  generalize (execOp a.eval o).run P w = x at h
  cases x with
  | ok nx w' =>
    cases nx with
    | enter f args => exact ⟨freeF_deep, calls_free h⟩
    | row row args => exact ⟨freeF_deep, rows_free h⟩
    | round => exact h.elim
    | _ => exact h
  | halt x w' => cases x <;> exact h
def AWi (P : Program) (r : Option Nat) (n : Nat) (c : Code) (Q : Exit → Fr → List Box → Prop) (fr : Fr) (B : List Box) : Prop :=
  ∀ (N : Nat) (I0 : Nat → Nat → Prop) (μ0 : List (List Place)) (w0 : World) (I : Nat → Nat → Prop) (μ : List (List Place)) (w : World) (a : Act) (Q' : Exit → Act → World → Prop), St N n I0 μ0 w0 fr B a I μ w →
    (∀ ex fr' B' a' I' μ' w', Q ex fr' B' → St N n I0 μ0 w0 fr' B' a' I' μ' w' → Q' ex a' w') → c.wpIn (freeF r) 0 P Q' a w
def YEnv (P : Program) (N : Nat) (I : Nat → Nat → Prop) (μ : List (List Place)) (w : World) (l : Nat) (Pre : List CV → List Box → Prop) (Y : List CV → List Box → List Box → Prop) : Prop :=
  ∀ (I' : Nat → Nat → Prop) (μ' : List (List Place)) (w' : World) (args : List CV) (B : List Box) (vs : List Value), Ext I μ w I' μ' w' → Below N w w' → BRel N I' μ' B w' → R I' μ' w' false args vs → Pre args B →
    YieldAt Fence.wide 0 P l vs.toArray w' fun e w'' => ∃ v B'' I'' μ'', e = .returned v ∧ Y args B B'' ∧ Step N I' μ' w' (.bool true) v B'' I'' μ'' w''
def ItCall (P : Program) (l : Nat) (Pre : List CV → List Box → Prop) (Y : List CV → List Box → List Box → Prop) (f : FuncId) (args : List CV) (B : List Box) (Q : CV → List Box → Prop) : Prop :=
  callable P f = true ∧ ∀ (N : Nat) (I : Nat → Nat → Prop) (μ : List (List Place)) (w : World) (vs : List Value), BRel N I μ B w → YEnv P N I μ w l Pre Y → R I μ w false args vs →
    Calls P f vs.toArray w fun e w' => ∃ c v B' I' μ', e = .returned v ∧ Q c B' ∧ Step N I μ w c v B' I' μ' w'
theorem ItCall.mono {P : Program} {l : Nat} {Pre : List CV → List Box → Prop} {Y : List CV → List Box → List Box → Prop} {f : FuncId} {args : List CV} {B : List Box} {Q Q' : CV → List Box → Prop} (h : ItCall P l Pre Y f args B Q) (hq : ∀ c B', Q c B' → Q' c B') : ItCall P l Pre Y f args B Q' :=
  ⟨h.1, fun N I μ w vs hB hy hv => (h.2 N I μ w vs hB hy hv).mono fun _ _ ⟨c, v, B', I', μ', he, hQ, hs⟩ => ⟨c, v, B', I', μ', he, hq _ _ hQ, hs⟩⟩
def bindC (fr : Fr) : List Tmp → List CV → Fr
  | p :: ps, c :: cs => bindC (upd fr (some p) c) ps cs
  | _, _ => fr
section
variable {P : Program} {N n : Nat} {I0 I : Nat → Nat → Prop} {μ0 μ : List (List Place)} {B : List Box} {w0 w : World} {a : Act} {fr : Fr}
theorem bind_rel : ∀ (ps : List Tmp) (args : List CV) (vs : List Value) (fr : Fr) (tmps : Array Value), (∀ p ∈ ps, p < tmps.size) → R I μ w false args vs → (∀ i, V I μ w (fr i) (tmps.getD i undef)) →
    ((ps.zip vs).foldl (fun t (p, v) => t.setIfInBounds p v) tmps).size = tmps.size ∧ ∀ i, V I μ w (bindC fr ps args i) (((ps.zip vs).foldl (fun t (p, v) => t.setIfInBounds p v) tmps).getD i undef)
  | [], args, vs, fr, tmps, _, _, hf => ⟨by simp, by simpa [bindC] using hf⟩
  | p :: ps, [], vs, fr, tmps, hp, hr, hf => by
    rw [R.nil_iff] at hr; subst hr
    exact ⟨by simp, by simpa [bindC] using hf⟩
  | p :: ps, c :: args, vs, fr, tmps, hp, hr, hf => by
    obtain ⟨v, vs', rfl, h1, _, h2⟩ := R.cons_iff.1 hr
    have hpt := hp p (by simp)
    have := bind_rel ps args vs' (upd fr (some p) c) (tmps.setIfInBounds p v) (fun q hq => by rw [Array.size_setIfInBounds]; exact hp q (by simp [hq])) h2 (fun i => by
      unfold upd
      dsimp only
      by_cases h : i = p
      · subst h; rw [if_pos rfl]; simpa [hpt] using h1
      · rw [if_neg h]
        have : (tmps.setIfInBounds p v).getD i undef = tmps.getD i undef := by
          simp only [Array.getD_eq_getD_getElem?, Array.getElem?_setIfInBounds]
          rw [if_neg (fun e => h e.symm)]
        rw [this]; exact hf i)
    exact ⟨this.1.trans (Array.size_setIfInBounds ..), this.2⟩
theorem St.both {l : Nat} {r : Loop} {o1 : Obj} (h : St N n I0 μ0 w0 fr B a I μ w) (hl : w0.heap[l]? = some (.loop r)) (ho1 : dull o1 = true) (hN : N ≤ l) : St N n I0 μ0 (w0.putObj l o1) fr B a I μ (w.putObj l o1) := by
  have hl' := h.ext.oth l _ hl rfl
  have t := turn_putObj (o' := o1) hl' rfl ho1
  refine ⟨h.size, ?_, fun i => (h.frame i).ext t.keep, t.box h.box, h.ext.both hl rfl ho1, ?_⟩
  · obtain ⟨Ds, h1, h2, h3, h4⟩ := h.defers
    refine ⟨Ds, h1, h2, fun D hD => ⟨?_, by rw [World.putObj_size]; exact (h3 D hD).2⟩, h4⟩
    have hne : D ≠ l := fun e => by subst e; have := (h3 _ hD).1; rw [hl'] at this; cases this
    rw [World.putObj_heap_other hne]
    exact (h3 D hD).1
  · exact ⟨h.below.os, h.below.tape, h.below.output, by simpa using h.below.size, fun k hk => by rw [World.putObj_heap_other (by omega), World.putObj_heap_other (by omega)]; exact h.below.block k hk⟩
theorem range_sound {g : Operand} {ps : Array Tmp} {assign body : Code} {gf : FuncId} {first caps : List CV} {Pre : List CV → List Box → Prop} {Y : List CV → List Box → List Box → Prop} {Q : Exit → Fr → List Box → Prop} {Q' : Exit → Act → World → Prop}
    (hs : St N n I0 μ0 w0 fr B a I μ w) (hg : opv fr g = .fn (.func gf) first caps) (hps : ∀ p ∈ ps.toList, p < n)
    (hround : ∀ (l : Nat) (args : List CV) (B1 : List Box), Pre args B1 → args.length = ps.size ∧ AWi P (some l) n assign (fun ex fr2 B2 => ex = .normal ∧ AWi P (some l) n body (fun ex _ B3 => ex = .normal ∧ Y args B1 B3) fr2 B2) (bindC fr ps.toList args) B1)
    (hit : ∀ l : Nat, ItCall P l Pre Y gf (first ++ [.fn (.yield l) [] []] ++ caps) B (fun _ B' => Q .normal fr B'))
    (hq : ∀ ex fr' B' a' I' μ' w', Q ex fr' B' → St N n I0 μ0 w0 fr' B' a' I' μ' w' → Q' ex a' w') : (Code.rangeFunc g ps assign body).wp P Q' a w := by
  refine (wpIn_wide (n := 0)).1 (wpIn_rangeFunc fun fn _ => ?_)
  have hgv := opv_rel hs.frame g
  rw [hg] at hgv
  obtain ⟨fs, cps, hv, h1, h2⟩ := hgv.fn_inv
  obtain ⟨rec, hrec⟩ : ∃ rec : LoopState → Option Code → Loop, rec = fun st pe => { state := st, pending := pe, fn, tmps := a.tmps, params := ps, assign, body, defers := w.heap.size } := ⟨_, rfl⟩
  obtain ⟨W1, hW1⟩ : ∃ W1, (w.alloc (.deferred (some []))).alloc (.loop (rec .ready none)) = W1 := ⟨_, rfl⟩
  have hL1 : W1.heap[w.heap.size + 1]? = some (.loop (rec .ready none)) := by
    rw [← hW1]; have := World.alloc_heap_new (w.alloc (.deferred (some []))) (.loop (rec .ready none)); rwa [World.size_alloc] at this
  have hK1 : W1.heap[w.heap.size]? = some (.deferred (some [])) := by
    rw [← hW1]; exact (Below.heap_alloc _ _ _ (by simp)).trans (World.alloc_heap_new w _)
  have hsz1 : w.heap.size + 2 ≤ W1.heap.size := by have := (Array.getElem?_eq_some_iff.1 hL1).1; omega
  have hold : ∀ b, b < w.heap.size → W1.heap[b]? = w.heap[b]? := fun b hb => by
    rw [← hW1]; exact (Below.heap_alloc _ _ _ (by simp; omega)).trans (Below.heap_alloc _ _ _ hb)
  have hB1 := hs.box.keep (w' := W1) (by omega) hold
  have hE1 := hs.box.ext_same (w' := W1) (by omega) hold
  have hlow := hs.box.low
  have hbel1 : Below N w W1 := by rw [← hW1]; exact ((Below.refl _ w).alloc hlow _).alloc (by simp; omega) _
  have hall : R I μ W1 false (first ++ [.fn (.yield (w.heap.size + 1)) [] []] ++ caps) (fs ++ [Value.func (.yield (w.heap.size + 1)) #[] #[]] ++ cps) :=
    ((h1.ext hE1.toKeep).append (.fn _ (.nil _) (.nil _) (.nil _))).append (h2.ext hE1.toKeep)
  refine ⟨w.heap.size + 1, [{ target := .collected w.heap.size, args := #[] }], W1, { target := .fn (.func gf) cps.toArray, args := (fs ++ [Value.func (.yield (w.heap.size + 1)) #[] #[]]).toArray }, W1, gf,
    (fs ++ [Value.func (.yield (w.heap.size + 1)) #[] #[]] ++ cps).toArray, W1, ?_, ?_, fun _ _ => trivial, ?_, freeF_deep (r := none), ?_⟩
  · rw [← hW1, hrec]; exact run_enterLoop_outer _ _ _ _ _
  · simp only [resolve, hv]
    simp [Deferred.ofValue, go_sem]
  · simp only [invoke]
    have := callable_run (hit (w.heap.size + 1)).1 (fs ++ [Value.func (.yield (w.heap.size + 1)) #[] #[]] ++ cps).toArray W1
    simpa using this
  have hy : YEnv P N I μ W1 (w.heap.size + 1) Pre Y := by
    intro I' μ' w' args B' vs hE' hbel' hB' hvs hpre
    obtain ⟨hlen, hassign⟩ := hround (w.heap.size + 1) args B' hpre
    have hl' : w'.heap[w.heap.size + 1]? = some (.loop (rec .ready none)) := hE'.oth _ _ hL1 rfl
    have hvl := hvs.len
    have hy := run_yield (P := P) (args := vs.toArray) hl' (by rw [hrec]; simp; omega)
    rw [hrec] at hy
    have hfold : (ps.zip vs.toArray).foldl (fun tmps (t, a) => tmps.setIfInBounds t a) a.tmps = (ps.toList.zip vs).foldl (fun t (p, v) => t.setIfInBounds p v) a.tmps := by
      rw [← Array.foldl_toList]; simp
    obtain ⟨b1, b2⟩ := bind_rel (w := w') ps.toList args vs fr a.tmps (fun p hp => by rw [hs.size]; exact hps p hp) hvs (fun i => ((hs.frame i).ext hE1.toKeep).ext hE'.toKeep)
    refine ⟨fn, _, assign, body, hy, roundIn_of_wpIn (F := Fence.wide) trivial ?_⟩
    dsimp only
    rw [hfold]
    have hst : St N n I' μ' w' (bindC fr ps.toList args) B' { tmps := (ps.toList.zip vs).foldl (fun t (p, v) => t.setIfInBounds p v) a.tmps, defers := [] } I' μ' w' :=
      ⟨b1.trans hs.size, .none _ _, b2, hB', .refl _ _ _, Below.refl _ _⟩
    refine hassign N I' μ' w' I' μ' w' _ _ hst fun ex fr2 B2 a2 I2 μ2 w2 hQ2 hst2 => ?_
    obtain ⟨rfl, hbody⟩ := hQ2
    have hl2 : w2.heap[w.heap.size + 1]? = some (.loop (rec .ready none)) := hst2.ext.oth _ _ hl' rfl
    have hlt2 : w.heap.size + 1 < w2.heap.size := (Array.getElem?_eq_some_iff.1 hl2).1
    refine ⟨w2.putObj (w.heap.size + 1) (.loop { rec .ready none with state := .busy }), run_beginRound hl2 (by rw [hrec]), ?_⟩
    have hst3 := hst2.both (o1 := .loop { rec .ready none with state := .busy }) hl' rfl (by omega)
    refine hbody _ _ _ _ _ _ _ _ _ hst3 fun ex fr3 B3 a3 I3 μ3 w3 hQ3 hst4 => ?_
    obtain ⟨rfl, hY⟩ := hQ3
    have hlt' : w.heap.size + 1 < w'.heap.size := (Array.getElem?_eq_some_iff.1 hl').1
    have hl3 : w3.heap[w.heap.size + 1]? = some (.loop { rec .ready none with state := .busy }) := hst4.ext.oth _ _ (World.putObj_heap_same hlt') rfl
    have hend := run_endRound (P := P) none hl3
    have hrr : ({ { rec .ready none with state := .busy } with state := if (Option.isNone (none : Option Code)) then .ready else .done, pending := none } : Loop) = rec .ready none := by rw [hrec]; rfl
    have t3 := turn_putObj (o' := .loop (rec .ready none)) hl3 rfl rfl
    refine ⟨.bool true, w3.putObj (w.heap.size + 1) (.loop (rec .ready none)), ?_, .bool true, B3, I3, μ3, rfl, hY, .bool _ (.nil _), t3.box hst4.box, hst4.ext.turned hl' rfl rfl, ?_⟩
    · have := hend
      rw [hrr] at this
      exact this
    · have hb := hst4.below
      exact ⟨hb.os, hb.tape, hb.output, by simpa using hb.size, fun k hk => by
        rw [World.putObj_heap_other (by omega)]
        exact (hb.block k hk).trans (World.putObj_heap_other (by omega))⟩
  refine calls_free (r := none) (((hit (w.heap.size + 1)).2 N I μ W1 _ hB1 hy hall).mono fun e w2 ⟨c, v, B', I', μ', he, hQ, hstep⟩ => ?_)
  subst he
  have hl2 := hstep.ext.oth _ _ hL1 rfl
  have hk2 := hstep.ext.oth _ _ hK1 rfl
  have t2 := turn_putObj (o' := .loop (rec .exhausted none)) hl2 rfl rfl
  have hend := run_endLoop (P := P) hl2 (by rw [hrec]; simp)
  rw [hrec] at hend
  refine ⟨none, w2.putObj (w.heap.size + 1) (.loop (rec .exhausted none)), by rw [hrec]; exact hend, ?_⟩
  have hE := (hs.ext.trans hE1).trans hstep.ext
  have hbel := (hs.below.trans hbel1).trans hstep.below
  refine hq .normal fr B' _ I' μ' _ hQ ⟨hs.size, ?_, fun i => (((hs.frame i).ext hE1.toKeep).ext hstep.ext.toKeep).ext t2.keep, t2.box hstep.box, hE.turn (by have := hs.ext.size; omega) hl2 rfl rfl, hbel.trans (below_putObj (by omega))⟩
  obtain ⟨Ds, d1, d2, d3, d4⟩ := hs.defers
  refine ⟨.inl w.heap.size :: Ds, by simp [d1, defOf], by rw [marks_cons]; exact List.nodup_cons.2 ⟨fun hm => by
    have hm : Sum.inl w.heap.size ∈ Ds := by
      obtain ⟨x, hx1, hx2⟩ := List.mem_filterMap.1 hm
      cases x with
      | inl y => simp at hx2; subst hx2; exact hx1
      | inr y => simp at hx2
    have := (Array.getElem?_eq_some_iff.1 (d3 _ hm).1).1; omega, d2⟩, fun D hD => ?_, fun d hd => d4 d (by simpa using hd)⟩
  · rcases List.mem_cons.1 hD with hD | hD
    · obtain rfl : D = w.heap.size := Sum.inl.inj hD
      exact ⟨(World.putObj_heap_other (by omega)).trans hk2, hs.ext.size⟩
    · have hlt := (Array.getElem?_eq_some_iff.1 (d3 _ hD).1).1
      exact ⟨(World.putObj_heap_other (by omega)).trans (hstep.ext.oth _ _ ((hold D hlt).trans (d3 _ hD).1) rfl), (d3 _ hD).2⟩
end
end Go.Sy
end
section
namespace Go.Sy
open Go.RowKit (Below)
def thenC (K : Fr → List Box → Prop) (Q : Exit → Fr → List Box → Prop) : Exit → Fr → List Box → Prop
  | .normal, fr, B => K fr B
  | e, fr, B => Q e fr B
def inBlockC (id : Nat) (Q : Exit → Fr → List Box → Prop) : Exit → Fr → List Box → Prop
  | .exit i, fr, B => if i = id then Q .normal fr B else Q (.exit i) fr B
  | e, fr, B => Q e fr B
def drawsOk : Code → Bool
  | .region _ ops draw => !draw || drawOk ops.toList (befs ops.toList [])
  | .seq a b => drawsOk a && drawsOk b
  | .cond _ a b => drawsOk a && drawsOk b
  | .block _ c => drawsOk c
  | .loop c => drawsOk c
  | _ => true
def onlyN (K : Fr → List Box → Prop) : Exit → Fr → List Box → Prop
  | .normal, fr, B => K fr B
  | _, _, _ => False
def roundOk : Code → Bool
  | .skip => true
  | .region _ ops draw => !draw && ops.toList.all noDefer
  | .seq a b => roundOk a && roundOk b
  | .cond _ a b => roundOk a && roundOk b
  | .block _ c => roundOk c
  | .exit _ => true
  | _ => false
def WPc (P : Program) (n : Nat) : Code → (Exit → Fr → List Box → Prop) → Fr → List Box → Prop
  | .skip, Q, fr, B => Q .normal fr B
  | .region _ ops draw, Q, fr, B => if draw then ∃ (hs : List Nat) (H : List Box) (J : List Box → Prop), hs.length = H.length ∧ J (B ++ H) ∧ (WPd P n ops (befs ops.toList []) B.length hs J (fun fr B => Q .normal fr B) 0 ops.toList fr (B ++ H) ∨ WPq P n ops (befs ops.toList []) B.length hs J (fun fr B => Q .normal fr B) 0 ops.toList fr (B ++ H)) else WPo P n ops (fun fr B => Q .normal fr B) ops.toList fr B
  | .seq a b, Q, fr, B => WPc P n a (thenC (fun fr B => WPc P n b Q fr B) Q) fr B
  | .cond c a b, Q, fr, B => match opv fr c with | .bool t => (t = true → WPc P n a Q fr B) ∧ (t = false → WPc P n b Q fr B) | _ => False
  | .block id c, Q, fr, B => WPc P n c (inBlockC id Q) fr B
  | .loop c, Q, fr, B => ∃ (Inv : Fr → List Box → Prop) (m : Fr → List Box → Nat), Inv fr B ∧ ∀ fr B, Inv fr B → WPc P n c (thenC (fun fr' B' => Inv fr' B' ∧ m fr' B' < m fr B) Q) fr B
  | .exit id, Q, fr, B => Q (.exit id) fr B
  | .ret, Q, fr, B => Q .ret fr B
  | .rangeFunc g ps assign body, Q, fr, B => ∃ (gf : FuncId) (first caps : List CV) (Pre : List CV → List Box → Prop) (Y : List CV → List Box → List Box → Prop), opv fr g = .fn (.func gf) first caps ∧ (∀ p ∈ ps.toList, p < n) ∧ roundOk assign = true ∧ roundOk body = true ∧
      (∀ args B1, Pre args B1 → args.length = ps.size ∧ WPc P n assign (onlyN fun fr2 B2 => WPc P n body (onlyN fun _ B3 => Y args B1 B3) fr2 B2) (bindC fr ps.toList args) B1) ∧
      ∀ l : Nat, ItCall P l Pre Y gf (first ++ [.fn (.yield l) [] []] ++ caps) B (fun _ B' => Q .normal fr B')
  | _, _, _, _ => False
def AWc (P : Program) (n : Nat) (c : Code) (Q : Exit → Fr → List Box → Prop) (fr : Fr) (B : List Box) : Prop :=
  ∀ (N : Nat) (I0 : Nat → Nat → Prop) (μ0 : List (List Place)) (w0 : World) (I : Nat → Nat → Prop) (μ : List (List Place)) (w : World) (a : Act) (Q' : Exit → Act → World → Prop), St N n I0 μ0 w0 fr B a I μ w →
    (∀ ex fr' B' a' I' μ' w', Q ex fr' B' → St N n I0 μ0 w0 fr' B' a' I' μ' w' → Q' ex a' w') → c.wp P Q' a w
theorem exists_least {p : Nat → Prop} (h : ∃ k, p k) : ∃ k, p k ∧ ∀ j, p j → k ≤ j := by
  obtain ⟨k, hk⟩ := h
  induction k using Nat.strongRecOn with
  | _ k ih =>
    by_cases hx : ∃ j, j < k ∧ p j
    · obtain ⟨j, hj, hp⟩ := hx
      exact ih j hj hp
    · exact ⟨k, hk, fun j hj => Nat.le_of_not_lt fun hlt => hx ⟨j, hlt, hj⟩⟩
section
variable {P : Program}
theorem WPo_in {n : Nat} {ops : Array Oper} {Q : Fr → List Box → Prop} {r : Option Nat} {N : Nat} {I0 : Nat → Nat → Prop} {μ0 : List (List Place)} {w0 : World} {Q' : Exit → Act → World → Prop} (more : List Oper) : ∀ (l : List Oper) (fr : Fr) (B : List Box), l.all noDefer = true → WPo P n ops Q l fr B →
    ∀ (I : Nat → Nat → Prop) (μ : List (List Place)) (w : World) (a : Act), St N n I0 μ0 w0 fr B a I μ w → (∀ fr' B' a' I' μ' w', Q fr' B' → St N n I0 μ0 w0 fr' B' a' I' μ' w' → wpListIn (freeF r) 0 P ops Q' more a' w') → wpListIn (freeF r) 0 P ops Q' (l ++ more) a w
  | [], fr, B, _, h => fun I μ w a hs hQ => hQ fr B a I μ w h hs
  | o :: rest, fr, B, ho, h => fun I μ w a hs hQ => by
    simp only [List.all_cons, Bool.and_eq_true] at ho
    unfold WPo at h
    obtain ⟨hd, h⟩ := h
    have hd' : ∀ t, o.dst = some t → t < n := fun t ht => by simpa [dstOk, ht] using hd
    rw [List.cons_append]
    split at h
    · rename_i t ht
      have hw := want_sound hs.frame ht
      unfold wpListIn
      cases t with
      | true =>
        rw [hw, if_pos rfl]
        exact wp_free ho.1 (step_sound hs (h.1 rfl) fun c v B' I' μ' w' hK hst => WPo_in more rest _ _ ho.2 hK I' μ' w' _ (hs.put hst hd') hQ)
      | false =>
        rw [hw, if_neg (by simp)]
        exact ⟨fun _ _ => trivial, WPo_in more rest _ _ ho.2 (h.2 rfl) I μ w _ (hs.put ⟨.tup (.nil _) (.nil _), hs.box, .refl _ _ _, Below.refl _ _⟩ hd') hQ⟩
    · cases h
theorem WPc_in {n : Nat} {r : Option Nat} : ∀ (c : Code) (Q : Exit → Fr → List Box → Prop) (fr : Fr) (B : List Box), roundOk c = true → WPc P n c Q fr B → AWi P r n c Q fr B
  | .skip, Q, fr, B, _, h => fun N I0 μ0 w0 I μ w a Q' hs hq => wpIn_skip (hq _ _ _ _ _ _ _ h hs)
  | .region id ops draw, Q, fr, B, hd, h => fun N I0 μ0 w0 I μ w a Q' hs hq => by
    simp only [roundOk, Bool.and_eq_true, Bool.not_eq_true'] at hd
    obtain ⟨rfl, hd⟩ := hd
    simp only [WPc] at h
    rw [if_neg (by simp)] at h
    have := WPo_in (r := r) (Q' := Q') [] ops.toList fr B hd h I μ w a hs fun fr' B' a' I' μ' w' hQ hst => hq _ _ _ _ _ _ _ hQ hst
    rw [List.append_nil] at this
    exact wpIn_region_list this
  | .seq x y, Q, fr, B, hd, h => fun N I0 μ0 w0 I μ w a Q' hs hq => by
    simp only [roundOk, Bool.and_eq_true] at hd
    refine wpIn_seq (WPc_in x _ fr B hd.1 h N I0 μ0 w0 I μ w a _ hs fun ex fr' B' a' I' μ' w' hQ hst => ?_)
    cases ex with
    | normal => exact WPc_in y Q fr' B' hd.2 hQ N I0 μ0 w0 I' μ' w' a' Q' hst hq
    | _ => exact hq _ _ _ _ _ _ _ hQ hst
  | .cond c x y, Q, fr, B, hd, h => fun N I0 μ0 w0 I μ w a Q' hs hq => by
    simp only [roundOk, Bool.and_eq_true] at hd
    simp only [WPc] at h
    split at h
    · rename_i t e1
      have hc := opv_rel hs.frame c
      rw [e1] at hc
      exact wpIn_cond_split hc.bool_inv (fun ht => WPc_in x Q fr B hd.1 (h.1 ht) N I0 μ0 w0 I μ w a Q' hs hq) (fun ht => WPc_in y Q fr B hd.2 (h.2 ht) N I0 μ0 w0 I μ w a Q' hs hq)
    · cases h
  | .block id c, Q, fr, B, hd, h => fun N I0 μ0 w0 I μ w a Q' hs hq => by
    simp only [roundOk] at hd
    refine wpIn_block (WPc_in c _ fr B hd h N I0 μ0 w0 I μ w a _ hs fun ex fr' B' a' I' μ' w' hQ hst => ?_)
    cases ex with
    | exit i =>
      simp only [inBlockC] at hQ
      simp only [Exit.inBlock]
      split
      · rename_i hi; rw [if_pos hi] at hQ; exact hq _ _ _ _ _ _ _ hQ hst
      · rename_i hi; rw [if_neg hi] at hQ; exact hq _ _ _ _ _ _ _ hQ hst
    | _ => exact hq _ _ _ _ _ _ _ hQ hst
  | .loop .., _, _, _, h, _ => by simp [roundOk] at h
  | .exit id, Q, fr, B, _, h => fun N I0 μ0 w0 I μ w a Q' hs hq => wpIn_exit (hq _ _ _ _ _ _ _ h hs)
  | .ret, _, _, _, h, _ => by simp [roundOk] at h
  | .rangeFunc .., _, _, _, h, _ => by simp [roundOk] at h
  | .scope .., _, _, _, h, _ => by simp [roundOk] at h
  | .label .., _, _, _, h, _ => by simp [roundOk] at h
  | .goto .., _, _, _, h, _ => by simp [roundOk] at h
  | .refuse .., _, _, _, h, _ => by simp [roundOk] at h
theorem AWi.mono {n : Nat} {r : Option Nat} {c : Code} {Q Q' : Exit → Fr → List Box → Prop} {fr : Fr} {B : List Box} (h : AWi P r n c Q fr B) (hq : ∀ ex fr B, Q ex fr B → Q' ex fr B) : AWi P r n c Q' fr B :=
  fun N I0 μ0 w0 I μ w a Q'' hs hk => h N I0 μ0 w0 I μ w a Q'' hs fun ex fr' B' a' I' μ' w' hQ => hk ex fr' B' a' I' μ' w' (hq _ _ _ hQ)
theorem WPc_sound (hm : P.follows .mixedOrders = true) {n : Nat} : ∀ (c : Code) (Q : Exit → Fr → List Box → Prop) (fr : Fr) (B : List Box), drawsOk c = true → WPc P n c Q fr B → AWc P n c Q fr B
  | .skip, Q, fr, B, _, h => fun N I0 μ0 w0 I μ w a Q' hs hq => wp_skip (hq _ _ _ _ _ _ _ h hs)
  | .region id ops draw, Q, fr, B, hd, h => fun N I0 μ0 w0 I μ w a Q' hs hq => by
    simp only [WPc] at h
    cases draw with
    | true =>
      rw [if_pos rfl] at h
      simp only [drawsOk, Bool.not_true, Bool.false_or] at hd
      obtain ⟨ks, H, J, hlen, hJ, h⟩ := h
      rcases h with h | h
      · exact WPd_sound hm hd h hJ (hs.ahead H) (by rw [← hs.box.len]; exact hs.ext.len) (fun j k hj => ahead_new (by rw [hs.box.len]; omega) (by
          have := (List.getElem?_eq_some_iff.1 hj).1; rw [hs.box.len]; omega)) fun fr' B' a' I' μ' w' hQ hst => hq _ _ _ _ _ _ _ hQ hst
      · exact WPq_sound hm hd h hJ (hs.ahead H) (by rw [← hs.box.len]; exact hs.ext.len) (fun j k hj => ahead_new (by rw [hs.box.len]; omega) (by
          have := (List.getElem?_eq_some_iff.1 hj).1; rw [hs.box.len]; omega)) fun fr' B' a' I' μ' w' hQ hst => hq _ _ _ _ _ _ _ hQ hst
    | false =>
      rw [if_neg (by simp)] at h
      exact wp_region_list (WPo_sound ops.toList fr B h N I0 μ0 w0 I μ w a Q' hs fun fr' B' a' I' μ' w' hQ hst => hq _ _ _ _ _ _ _ hQ hst)
  | .seq x y, Q, fr, B, hd, h => fun N I0 μ0 w0 I μ w a Q' hs hq => by
    simp only [drawsOk, Bool.and_eq_true] at hd
    refine wp_seq (WPc_sound hm x _ fr B hd.1 h N I0 μ0 w0 I μ w a _ hs fun ex fr' B' a' I' μ' w' hQ hst => ?_)
    cases ex with
    | normal => exact WPc_sound hm y Q fr' B' hd.2 hQ N I0 μ0 w0 I' μ' w' a' Q' hst hq
    | _ => exact hq _ _ _ _ _ _ _ hQ hst
  | .cond c x y, Q, fr, B, hd, h => fun N I0 μ0 w0 I μ w a Q' hs hq => by
    simp only [drawsOk, Bool.and_eq_true] at hd
    simp only [WPc] at h
    split at h
    · rename_i t e1
      have hc := opv_rel hs.frame c
      rw [e1] at hc
      exact wp_cond_split hc.bool_inv (fun ht => WPc_sound hm x Q fr B hd.1 (h.1 ht) N I0 μ0 w0 I μ w a Q' hs hq) (fun ht => WPc_sound hm y Q fr B hd.2 (h.2 ht) N I0 μ0 w0 I μ w a Q' hs hq)
    · cases h
  | .block id c, Q, fr, B, hd, h => fun N I0 μ0 w0 I μ w a Q' hs hq => by
    simp only [drawsOk] at hd
    refine wp_block (WPc_sound hm c _ fr B hd h N I0 μ0 w0 I μ w a _ hs fun ex fr' B' a' I' μ' w' hQ hst => ?_)
    cases ex with
    | exit i =>
      simp only [inBlockC] at hQ
      simp only [Exit.inBlock]
      split
      · rename_i hi; rw [if_pos hi] at hQ; exact hq _ _ _ _ _ _ _ hQ hst
      · rename_i hi; rw [if_neg hi] at hQ; exact hq _ _ _ _ _ _ _ hQ hst
    | _ => exact hq _ _ _ _ _ _ _ hQ hst
  | .loop c, Q, fr, B, hd, h => fun N I0 μ0 w0 I μ w a Q' hs hq => by
    simp only [drawsOk] at hd
    simp only [WPc] at h
    obtain ⟨Inv, m, hi, hround⟩ := h
    let X : Act → World → Nat → Prop := fun a w k => ∃ fr B I μ, Inv fr B ∧ St N n I0 μ0 w0 fr B a I μ w ∧ m fr B = k
    have least : ∀ a w, (∃ k, X a w k) → ∃ k, X a w k ∧ ∀ j, X a w j → k ≤ j := fun a w h => exists_least h
    have ⟨f, hf⟩ : ∃ f : Act → World → Nat, ∀ a w, (∃ k, X a w k) → X a w (f a w) ∧ ∀ j, X a w j → f a w ≤ j := by
      have := fun (x : Act × World) => Classical.em (∃ k, X x.1 x.2 k)
      refine ⟨fun a w => Classical.epsilon fun k => X a w k ∧ ∀ j, X a w j → k ≤ j, fun a w h => ?_⟩
      exact Classical.epsilon_spec (least a w h)
    refine wp_loop (fun a w => ∃ k, X a w k) f ⟨_, fr, B, I, μ, hi, hs, rfl⟩ fun a w hX => ?_
    obtain ⟨⟨fr1, B1, I1, μ1, hi1, hs1, hm1⟩, hmin⟩ := hf a w hX
    refine WPc_sound hm c _ fr1 B1 hd (hround fr1 B1 hi1) N I0 μ0 w0 I1 μ1 w a _ hs1 fun ex fr' B' a' I' μ' w' hQ hst => ?_
    cases ex with
    | normal =>
      obtain ⟨h1, h2⟩ := hQ
      have hX' : ∃ k, X a' w' k := ⟨_, fr', B', I', μ', h1, hst, rfl⟩
      refine ⟨hX', ?_⟩
      have := (hf a' w' hX').2 (m fr' B') ⟨fr', B', I', μ', h1, hst, rfl⟩
      omega
    | _ => exact hq _ _ _ _ _ _ _ hQ hst
  | .exit id, Q, fr, B, _, h => fun N I0 μ0 w0 I μ w a Q' hs hq => wp_exit (hq _ _ _ _ _ _ _ h hs)
  | .ret, Q, fr, B, _, h => fun N I0 μ0 w0 I μ w a Q' hs hq => wp_ret (hq _ _ _ _ _ _ _ h hs)
  | .rangeFunc g ps assign body, Q, fr, B, _, h => fun N I0 μ0 w0 I μ w a Q' hs hq => by
    simp only [WPc] at h
    obtain ⟨gf, first, caps, Pre, Y, h1, h2, h3, h4, h5, h6⟩ := h
    refine range_sound hs h1 h2 (fun l args B1 hp => ?_) h6 hq
    obtain ⟨h7, h8⟩ := h5 args B1 hp
    refine ⟨h7, (WPc_in assign _ _ _ h3 h8).mono fun ex fr2 B2 hh => ?_⟩
    cases ex with
    | normal =>
      refine ⟨rfl, (WPc_in body _ _ _ h4 hh).mono fun ex fr3 B3 hh3 => ?_⟩
      cases ex with
      | normal => exact ⟨rfl, hh3⟩
      | _ => exact hh3.elim
    | _ => exact hh.elim
  | .scope _, _, _, _, _, h => h.elim
  | .label _, _, _, _, _, h => h.elim
  | .goto _, _, _, _, _, h => h.elim
  | .refuse _, _, _, _, _, h => h.elim
def resOne (P : Program) (fr : Fr) (B : List Box) : ResultVar → Option CV
  | .tmp t => some (fr t)
  | .cell ad t => match fr ad with
    | .ptr b off => match B[b]? with | some box => if box.multi then none else loadC P t (box.cells.drop off) | none => none
    | .iptr cs => loadC P t cs
    | _ => none
def resAll (P : Program) (fr : Fr) (B : List Box) : List ResultVar → Option (List CV)
  | [] => some []
  | r :: rs => match resOne P fr B r, resAll P fr B rs with | some c, some cs => some (c :: cs) | _, _ => none
def resC (P : Program) (rs : List ResultVar) (fr : Fr) (B : List Box) : Option CV :=
  match resAll P fr B rs with | some [c] => some c | some cs => some (.tup cs) | none => none
def retC (P : Program) (rs : List ResultVar) (Q : CV → List Box → Prop) : Exit → Fr → List Box → Prop
  | .normal, fr, B | .ret, fr, B => match resC P rs fr B with | some c => Q c B | none => False
  | _, _, _ => False
def frOf (args : List CV) : Fr := fun i => args.getD i (.tup [])
section
variable {N n : Nat} {I0 I : Nat → Nat → Prop} {μ0 μ : List (List Place)} {B : List Box} {w0 w : World} {a : Act} {fr : Fr}
theorem resOne_rel (hB : BRel N I μ B w) (hfr : ∀ i, V I μ w (fr i) (a.tmps.getD i undef)) {r : ResultVar} {c : CV} (h : resOne P fr B r = some c) :
    ∃ v, (match r with | .tmp t => pure (a.tmps.getD t undef) | .cell ad t => do loadVar t (← asAddr (a.tmps.getD ad undef)) : Sem Value).run P w = .ok v w ∧ V I μ w c v := by
  cases r with
  | tmp t => simp [resOne] at h; subst h; exact ⟨_, rfl, hfr t⟩
  | cell ad t =>
    have hx := hfr ad
    simp only [resOne] at h
    split at h
    · rename_i b off e1
      rw [e1] at hx
      split at h
      · rename_i box hb
        split at h
        · cases h
        · rename_i hm
          obtain ⟨p, vs, h1, h2, h3, h4⟩ := box_ptr hB hx hb (by simpa using hm)
          obtain ⟨v, h5, h6⟩ := load_rel (P := P) (b := p.b) (off := p.o + off) (h3.drop off) (fun j u hj => by
            rw [List.getElem?_drop] at hj
            rw [Nat.add_assoc]
            exact h4 _ u hj) h
          exact ⟨v, by simp [h2, asAddr, h5], h6⟩
      · cases h
    · rename_i cs e1
      rw [e1] at hx
      obtain ⟨b, o', vs, h1, h2, h3⟩ := hx.iptr_inv
      obtain ⟨v, h5, h6⟩ := load_rel (P := P) h2 (fun j u hj => (h3 j u hj).1) h
      exact ⟨v, by simp [h1, asAddr, h5], h6⟩
    · cases h
theorem resAll_rel (hB : BRel N I μ B w) (hfr : ∀ i, V I μ w (fr i) (a.tmps.getD i undef)) : ∀ (rs : List ResultVar) (cs : List CV), resAll P fr B rs = some cs →
    ∃ vs, (rs.mapM fun r => (match r with | .tmp t => pure (a.tmps.getD t undef) | .cell ad t => do loadVar t (← asAddr (a.tmps.getD ad undef)) : Sem Value) : Sem (List Value)).run P w = .ok vs w ∧ R I μ w false cs vs
  | [], cs, h => by
    simp [resAll] at h; subst h
    exact ⟨[], rfl, .nil _⟩
  | r :: rs, cs, h => by
    simp only [resAll] at h
    split at h
    · rename_i c cs' e1 e2
      simp at h; subst h
      obtain ⟨v, h1, h2⟩ := resOne_rel hB hfr e1
      obtain ⟨vs, h3, h4⟩ := resAll_rel hB hfr rs cs' e2
      refine ⟨v :: vs, ?_, .cons h2 (by simp) h4⟩
      rw [List.mapM_cons]
      simp only [Sem.run_bind, h1, Result.andThen_ok, h3, Sem.run_pure]
    · cases h
theorem resC_rel (hB : BRel N I μ B w) (hfr : ∀ i, V I μ w (fr i) (a.tmps.getD i undef)) {fn : Func} {c : CV} (h : resC P fn.results.toList fr B = some c) : ∃ v, (results fn a.tmps).run P w = .ok v w ∧ V I μ w c v := by
  unfold resC at h
  have key : ∀ cs, resAll P fr B fn.results.toList = some cs → ∃ vs : List Value, R I μ w false cs vs ∧ (results fn a.tmps).run P w = .ok (if h : vs.toArray.size = 1 then vs.toArray[0] else .tuple vs.toArray) w := by
    intro cs hcs
    obtain ⟨vs, h1, h2⟩ := resAll_rel (P := P) hB hfr fn.results.toList cs hcs
    refine ⟨vs, h2, ?_⟩
    unfold results
    rw [Array.mapM_eq_mapM_toList]
    simp only [Sem.run_bind, Sem.run_map, Sem.run_pure]
    exact congrArg (fun (r : Result (List Value)) => (r.andThen fun a w' => Result.ok a.toArray w').andThen fun a w' => Result.ok (if h : a.size = 1 then a[0] else Value.tuple a) w') h1
  split at h
  · rename_i c' hc
    simp at h; subst h
    obtain ⟨vs, h1, h2⟩ := key _ hc
    obtain ⟨v, vs', rfl, h3, _, h4⟩ := R.cons_iff.1 h1
    rw [R.nil_iff] at h4
    subst h4
    exact ⟨v, by simpa using h2, h3⟩
  · rename_i cs hne hc
    simp at h; subst h
    obtain ⟨vs, h1, h2⟩ := key _ hc
    have hl := h1.len
    have : ¬ vs.toArray.size = 1 := by
      intro h
      simp at h
      rw [h] at hl
      match cs, hl with
      | [c], _ => exact hne c rfl
    rw [dif_neg this] at h2
    exact ⟨_, h2, .tup h1 (.nil _)⟩
  · cases h
end
def Harmless (P : Program) (g : FuncId × Nat) : Prop := ∀ (caps : Array Value) (w : World), caps.size = g.2 → (invoke (.fn (.func g.1) caps) #[]).run P w = .ok (.enter g.1 caps) w ∧ CallsDIn Fence.wide 0 P g.1 caps .returning w fun e u' w' => e = .returned (.tuple #[]) ∧ u' = .returning ∧ w' = w
structure Fit (P : Program) : Prop where
  mixed : P.follows .mixedOrders = true
  quiet : ∀ g ∈ quietD, Harmless P g
theorem leave_marks {P : Program} {fn : Func} {tmps : Array Value} {Rr : Ending → World → Prop} {n0 : Nat} (hq : ∀ g ∈ quietD, Harmless P g) (J : World → Prop) (hJ : ∀ (w : World) (D : Nat), J w → n0 ≤ D → w.heap[D]? = some (.deferred (some [])) → J (w.putObj D (.deferred none)))
    (hend : ∀ w, J w → LeavesIn Fence.wide 0 P fn tmps Rr [] .returning w) : ∀ (L : List (Nat ⊕ Deferred)) (w : World), (L.filterMap Sum.getLeft?).Nodup → (∀ D, Sum.inl D ∈ L → w.heap[D]? = some (.deferred (some [])) ∧ n0 ≤ D) → (∀ d, Sum.inr d ∈ L → quietOk d) → J w →
    LeavesInM Fence.wide 0 P fn tmps Rr (L.map defOf) .returning w
  | [], w, _, _, _, h => hend w h
  | .inl D :: L, w, hn, hD, hd, h => by
    obtain ⟨h1, h2⟩ := hD D (by simp)
    rw [marks_cons] at hn
    obtain ⟨n1, n2⟩ := List.nodup_cons.1 hn
    refine ⟨by simp, .inl ⟨D, _, rfl, run_takeDeferred h1, leave_marks hq J hJ hend L _ n2 (fun D' hD' => ?_) (fun d hd' => hd d (by simp [hd'])) (hJ w D h h2 h1)⟩⟩
    refine ⟨(World.putObj_heap_other fun e => ?_).trans (hD D' (by simp [hD'])).1, (hD D' (by simp [hD'])).2⟩
    subst e; exact n1 (List.mem_filterMap.2 ⟨_, hD', rfl⟩)
  | .inr d :: L, w, hn, hD, hd, h => by
    obtain ⟨g, caps, rfl, hg⟩ := hd d (by simp)
    obtain ⟨h1, h2⟩ := hq _ hg caps w rfl
    refine ⟨by simp, .inr ⟨(fun h => by simp [Fence.wide] at h), Fn.func g, caps, g, caps, rfl, h1, fun _ _ => trivial, ?_⟩⟩
    have h3 := h2
    refine ⟨h3.1, fun c cs hc hr => ?_⟩
    obtain ⟨e, u', w', fr, ⟨rfl, rfl, rfl⟩, hs⟩ := h3.2 c cs hc hr
    exact ⟨_, _, _, fr, leave_marks hq J hJ hend L _ (by rwa [marks_skip] at hn) (fun D' hD' => hD D' (by simp [hD'])) (fun d hd' => hd d (by simp [hd'])) h, hs⟩
theorem call_intro {f : FuncId} {fn : Func} {c : Code} {args : List CV} {B : List Box} {Q : CV → List Box → Prop} {N : Nat} {I : Nat → Nat → Prop} {μ : List (List Place)} {w : World} {vs : List Value} (hqd : ∀ g ∈ quietD, Harmless P g) (hf : P.funcs[f]? = some fn) (hb : fn.body = some c)
    (hB : BRel N I μ B w) (hv : R I μ w false args vs) (hn : args.length ≤ fn.ntmps)
    (h : ∀ (a : Act) (Q' : Exit → Act → World → Prop), St N fn.ntmps I μ w (frOf args) B a I μ w → (∀ ex fr' B' a' I' μ' w', retC P fn.results.toList Q ex fr' B' → St N fn.ntmps I μ w fr' B' a' I' μ' w' → Q' ex a' w') → c.wp P Q' a w) :
    Calls P f vs.toArray w fun e w' => ∃ c v B' I' μ', e = .returned v ∧ Q c B' ∧ Step N I μ w c v B' I' μ' w' := by
  refine callsIn_wide.1 (callsIn_of_wp_marks (F := Fence.wide) (n := 0) hf hb trivial (wpIn_wide.2 ?_))
  have hl := hv.len
  have hst : St N fn.ntmps I μ w (frOf args) B { tmps := vs.toArray ++ Array.replicate (fn.ntmps - vs.toArray.size) undef, defers := [] } I μ w := by
    refine ⟨by simp; omega, .none _ _, fun i => ?_, hB, .refl _ _ _, Below.refl _ _⟩
    unfold frOf
    rcases Nat.lt_or_ge i args.length with hi | hi
    · have hx : args[i]? = some args[i] := by simp [hi]
      obtain ⟨v, h1, h2, _⟩ := hv.get hx
      have : (vs.toArray ++ Array.replicate (fn.ntmps - vs.toArray.size) undef).getD i undef = v := by
        rw [Array.getD_eq_getD_getElem?, Array.getElem?_append, if_pos (by simp; omega)]
        simp [h1]
      rw [this, List.getD_eq_getElem?_getD, hx]
      exact h2
    · have : (vs.toArray ++ Array.replicate (fn.ntmps - vs.toArray.size) undef).getD i undef = undef := by
        rw [Array.getD_eq_getD_getElem?, Array.getElem?_append, if_neg (by simp; omega)]
        rw [Array.getElem?_replicate]
        split <;> rfl
      rw [this, List.getD_eq_getElem?_getD, List.getElem?_eq_none hi]
      exact .tup (.nil _) (.nil _)
  refine h _ _ hst fun ex fr' B' a' I' μ' w' hQ hs => ?_
  have key : (match resC P fn.results.toList fr' B' with | some c => Q c B' | none => False) →
      LeavesInM Fence.wide 0 P fn a'.tmps (fun e w' => ∃ c v B'' I'' μ'', e = .returned v ∧ Q c B'' ∧ Step N I μ w c v B'' I'' μ'' w') a'.defers .returning w' := by
    intro hx
    obtain ⟨Ds, d1, d2, d3, d4⟩ := hs.defers
    rw [d1]
    refine leave_marks hqd (n0 := w.heap.size) (fun W => (∀ i, V I' μ' W (fr' i) (a'.tmps.getD i undef)) ∧ BRel N I' μ' B' W ∧ Ext I μ w I' μ' W ∧ Below N w W) (fun W D ⟨j1, j2, j3, j4⟩ hD hW => ?_) (fun W ⟨j1, j2, j3, j4⟩ => ?_) Ds w' d2 d3 d4 ⟨hs.frame, hs.box, hs.ext, hs.below⟩
    · have t := turn_putObj (o' := .deferred none) hW rfl rfl
      have := hB.low
      exact ⟨fun i => (j1 i).ext t.keep, t.box j2, j3.turn hD hW rfl rfl, j4.trans (below_putObj (by omega))⟩
    · split at hx
      · rename_i c hc
        obtain ⟨v, h1, h2⟩ := resC_rel j2 j1 hc
        exact ⟨v, h1, c, v, B', I', μ', rfl, hx, h2, j2, j3, j4⟩
      · cases hx
  cases ex with
  | normal => exact key hQ
  | ret => exact key hQ
  | _ => exact hQ.elim
theorem acall_intro {f : FuncId} {fn : Func} {c : Code} {args : List CV} {B : List Box} {Q : CV → List Box → Prop} (hm : Fit P) (hf : P.funcs[f]? = some fn) (hb : fn.body = some c) (hc : callable P f = true) (hd : drawsOk c = true)
    (hn : args.length ≤ fn.ntmps) (h : WPc P fn.ntmps c (retC P fn.results.toList Q) (frOf args) B) : ACall P f args B Q :=
  ⟨hc, fun N I μ w vs hB hv => call_intro hm.quiet hf hb hB hv hn fun a Q' hst hq => WPc_sound hm.mixed c _ _ B hd h N I μ w I μ w a Q' hst hq⟩
end
end Go.Sy
end
section
namespace Go.Sy
open Go.RowKit (Below)
def omap (f : CV → Option CV) : List CV → Option (List CV)
  | [] => some []
  | c :: l => match f c, omap f l with | some c', some l' => some (c' :: l') | _, _ => none
def fz (nz fr : Bool) (B : List Box) : Nat → CV → Option CV
  | 0, _ => none
  | k + 1, c => match c with
    | .view b off n sz full => match B[b]? with | some box => (omap (fz nz fr B k) ((box.cells.drop off).take (n * sz))).map fun cs => .lst n cs (full && !nz) | none => none
    | .cview b off n _ sz => match B[b]? with | some box => (omap (fz nz fr B k) ((box.cells.drop off).take (n * sz))).map fun cs => .lst n cs false | none => none
    | .ptr b off => match B[b]? with | some box => if box.multi then none else (omap (fz nz fr B k) (box.cells.drop off)).map .iptr | none => none
    | .agg cs => (omap (fz nz fr B k) cs).map .agg
    | .tup cs => (omap (fz nz fr B k) cs).map .tup
    | .nilS => some (if nz then .lst 0 [] false else .nilS)
    | .lst n cs full => if fr && !cs.isEmpty then none else (omap (fz nz fr B k) cs).map fun cs => .lst n cs (full && !nz)
    | .iptr cs => if fr && !cs.isEmpty then none else (omap (fz nz fr B k) cs).map .iptr
    | .fn f x y => match omap (fz nz fr B k) x, omap (fz nz fr B k) y with | some x, some y => some (.fn f x y) | _, _ => none
    | .iface t v => (fz nz fr B k v).map (.iface t)
    | .imap x y => if fr then none else match omap (fz nz fr B k) x, omap (fz nz fr B k) y with | some x, some y => some (.imap x y) | _, _ => none
    | .bview .. | .bptr .. => none
    | c => some c
section
variable {P : Program} {N : Nat} {I : Nat → Nat → Prop} {μ : List (List Place)} {B : List Box} {w : World}
theorem omap_cons {f : CV → Option CV} {c : CV} {l r : List CV} (h : omap f (c :: l) = some r) : ∃ c' l', r = c' :: l' ∧ f c = some c' ∧ omap f l = some l' := by
  simp only [omap] at h
  split at h
  · rename_i c' l' h1 h2; simp at h; exact ⟨c', l', h.symm, h1, h2⟩
  · cases h
theorem fz_keep {fr one : Bool} {J : Nat → Nat → Prop} {as_ : List CV} {bs : List Value} (hfe : ¬ (fr && !as_.isEmpty) = true) (h : R I μ w one as_ bs) (hI : fr = false → ∀ b j, I b j → J b j) {b j i : Nat} {v : Value} (hi : I b j) (hv : bs[i]? = some v) : J b j := by
  cases fr with
  | false => exact hI rfl _ _ hi
  | true =>
    cases as_ with
    | nil => rw [R.nil_iff] at h; subst h; simp at hv
    | cons a as_ => simp at hfe
theorem fz_rel {nz fr : Bool} {J : Nat → Nat → Prop} (hB : BRel N I μ B w) (hI : fr = false → ∀ b j, I b j → J b j) (hP : ∀ (β : Nat) (ps : List Place) (p : Place) (j : Nat), μ[β]? = some ps → p ∈ ps → J p.b j) : ∀ (k : Nat) (one : Bool) (cs : List CV) (vs : List Value) (cs' : List CV), R I μ w one cs vs → omap (fz nz fr B k) cs = some cs' → R J [] w one cs' vs := by
  intro k
  induction k with
  | zero =>
    intro one cs vs cs' h hc
    cases cs with
    | nil => simp [omap] at hc; subst hc; rw [R.nil_iff] at h; subst h; exact .nil _
    | cons c cs => simp [omap, fz] at hc
  | succ k ih =>
    intro one cs
    induction cs with
    | nil => intro vs cs' h hc; simp [omap] at hc; subst hc; rw [R.nil_iff] at h; subst h; exact .nil _
    | cons c cs ihl =>
      intro vs cs' h hc
      obtain ⟨v, vs, rfl, h1, h2, h3⟩ := R.cons_iff.1 h
      obtain ⟨c', l', rfl, hf, hl⟩ := omap_cons hc
      refine .cons ?_ h2 (ihl vs l' h3 hl)
      clear ihl h hc h3 hl
      cases h1 with
      | bool b _ => simp [fz] at hf; subst hf; exact .bool _ (.nil _)
      | int k n _ => simp [fz] at hf; subst hf; exact .int _ _ (.nil _)
      | str s _ => simp [fz] at hf; subst hf; exact .str _ (.nil _)
      | nilP _ => simp [fz] at hf; subst hf; exact .nilP (.nil _)
      | nilS _ =>
        simp [fz] at hf; subst hf
        cases nz
        · exact .nilS (.nil _)
        · exact .lstE _ _ (.nil _)
      | nilF _ => simp [fz] at hf; subst hf; exact .nilF (.nil _)
      | nilI _ => simp [fz] at hf; subst hf; exact .nilI (.nil _)
      | raw v h _ => simp [fz] at hf; subst hf; exact .raw v h (.nil _)
      | agg h _ => simp only [fz, Option.map_eq_some_iff] at hf; obtain ⟨cs, hf, rfl⟩ := hf; exact .agg (ih _ _ _ _ h hf) (.nil _)
      | tup h _ => simp only [fz, Option.map_eq_some_iff] at hf; obtain ⟨cs, hf, rfl⟩ := hf; exact .tup (ih _ _ _ _ h hf) (.nil _)
      | lst n full b o cap h hm hn hfu _ =>
        simp only [fz] at hf
        split at hf
        · cases hf
        · rename_i hfe
          simp only [Option.map_eq_some_iff] at hf; obtain ⟨cs, hf, rfl⟩ := hf
          refine .lst n _ b o cap (ih _ _ _ _ h hf) (fun j v hj => ⟨(hm j v hj).1, ?_⟩) hn (fun hx => hfu (by simp at hx; exact hx.1)) (.nil _)
          exact fz_keep hfe h hI (hm j v hj).2 hj
      | lstE full A _ => simp [fz, omap] at hf; subst hf; exact .lstE _ A (.nil _)
      | view β off n sz full ps p cap hb hp hlo hk hn hfu hr _ =>
        simp only [fz] at hf
        split at hf
        · rename_i box hbx
          simp only [Option.map_eq_some_iff] at hf
          obtain ⟨cs, hf, rfl⟩ := hf
          obtain ⟨_, us, g1, g2, g3, _⟩ := view_cells hB hbx hb hp hlo hk (s := off) (e := n * sz) (Nat.le_refl _) (Nat.le_refl _)
          exact .lst n _ _ _ cap (ih _ _ _ _ g1 hf) (fun j v hj => ⟨g3 j v hj, hP β ps p _ hb hp⟩) hn (fun hx => hfu (by simp at hx; exact hx.1)) (.nil _)
        · cases hf
      | viewE β off sz full A hb _ =>
        simp only [fz] at hf
        split at hf
        · simp [omap] at hf; subst hf; exact .lstE _ A (.nil _)
        · cases hf
      | cview β off n cap sz ps p hb hp hlo hk hn hpl _ =>
        simp only [fz] at hf
        split at hf
        · rename_i box hbx
          simp only [Option.map_eq_some_iff] at hf
          obtain ⟨cs, hf, rfl⟩ := hf
          have hmul : n * sz ≤ cap * sz := Nat.mul_le_mul_right _ hn
          obtain ⟨_, us, g1, g2, g3, _⟩ := view_cells hB hbx hb hp hlo (n := n) (sz := sz) (by omega) (s := off) (e := n * sz) (Nat.le_refl _) (Nat.le_refl _)
          exact .lst n _ _ _ cap (ih _ _ _ _ g1 hf) (fun j v hj => ⟨g3 j v hj, hP β ps p _ hb hp⟩) hn (by simp) (.nil _)
        · cases hf
      | cviewE β off sz A hb _ =>
        simp only [fz] at hf
        split at hf
        · simp [omap] at hf; subst hf; exact .lstE _ A (.nil _)
        · cases hf
      | bview => simp [fz] at hf
      | ptr β off ps p hb hp hlo _ =>
        simp only [fz] at hf
        split at hf
        · rename_i box hbx
          split at hf
          · cases hf
          · rename_i hm
            simp only [Option.map_eq_some_iff] at hf
            obtain ⟨cs, hf, rfl⟩ := hf
            obtain ⟨p', us, q1, q2, q3, q4⟩ := box_ptr hB (.ptr β off ps p hb hp hlo (.nil _)) hbx (by simpa using hm)
            rw [q2]
            refine .iptr _ _ (ih _ _ _ _ (q3.drop off) hf) (fun j v hj => ⟨?_, hP β [p'] p' _ q1 (by simp)⟩) (.nil _)
            rw [List.getElem?_drop] at hj
            rw [Nat.add_assoc]
            exact q4 _ v hj
        · cases hf
      | iptr b o h hm _ =>
        simp only [fz] at hf
        split at hf
        · cases hf
        · rename_i hfe
          simp only [Option.map_eq_some_iff] at hf; obtain ⟨cs, hf, rfl⟩ := hf
          exact .iptr b o (ih _ _ _ _ h hf) (fun j v hj => ⟨(hm j v hj).1, fz_keep hfe h hI (hm j v hj).2 hj⟩) (.nil _)
      | fn f h h' _ =>
        simp only [fz] at hf
        split at hf
        · rename_i x y e1 e2
          simp at hf; subst hf
          exact .fn f (ih _ _ _ _ h e1) (ih _ _ _ _ h' e2) (.nil _)
        · cases hf
      | iface t h _ =>
        simp only [fz, Option.map_eq_some_iff] at hf
        obtain ⟨v', hf, rfl⟩ := hf
        exact .iface t (ih _ _ _ _ h (by simp [omap, hf])) (.nil _)
      | bptr => simp [fz] at hf
      | imap r es clock h h' hm hi _ =>
        simp only [fz] at hf
        split at hf
        · cases hf
        · rename_i hfe
          split at hf
          · rename_i x y e1 e2
            simp at hf; subst hf
            exact .imap r es clock (ih _ _ _ _ h e1) (ih _ _ _ _ h' e2) hm (hI (by simpa using hfe) r 0 hi) (.nil _)
          · cases hf
abbrev Scalar (c : CV) : Prop := (toV c).isSome = true
theorem toVL_cons (c : CV) (l : List CV) : (toVL (c :: l)).isSome = ((toV c).isSome && (toVL l).isSome) := by
  simp only [toVL]
  cases toV c <;> cases toVL l <;> rfl
theorem scalars_any {J J' : Nat → Nat → Prop} {μ' : List (List Place)} {w' : World} {one : Bool} {cs : List CV} {vs : List Value} (h : R J μ w one cs vs) : (toVL cs).isSome = true → R J' μ' w' one cs vs := by
  induction h with
  | nil one => intro _; exact .nil one
  | bool b _ ih => intro h; rw [toVL_cons, Bool.and_eq_true] at h; exact .bool b (ih h.2)
  | int k n _ ih => intro h; rw [toVL_cons, Bool.and_eq_true] at h; exact .int k n (ih h.2)
  | str s _ ih => intro h; rw [toVL_cons, Bool.and_eq_true] at h; exact .str s (ih h.2)
  | nilP _ ih => intro h; rw [toVL_cons, Bool.and_eq_true] at h; exact .nilP (ih h.2)
  | nilS _ ih => intro h; rw [toVL_cons, Bool.and_eq_true] at h; exact .nilS (ih h.2)
  | nilF _ ih => intro h; rw [toVL_cons, Bool.and_eq_true] at h; exact .nilF (ih h.2)
  | nilI _ ih => intro h; rw [toVL_cons, Bool.and_eq_true] at h; exact .nilI (ih h.2)
  | raw v h1 _ ih => intro h; rw [toVL_cons, Bool.and_eq_true] at h; exact .raw v h1 (ih h.2)
  | agg _ _ ih1 ih2 =>
    intro h; rw [toVL_cons, Bool.and_eq_true] at h
    exact .agg (ih1 (by have := h.1; simpa [toV] using this)) (ih2 h.2)
  | tup _ _ ih1 ih2 =>
    intro h; rw [toVL_cons, Bool.and_eq_true] at h
    exact .tup (ih1 (by have := h.1; simpa [toV] using this)) (ih2 h.2)
  | lst | lstE | view | viewE | cview | cviewE | bview | ptr | iptr | imap | bptr => intro h; rw [toVL_cons, Bool.and_eq_true] at h; have := h.1; simp [toV] at this
  | fn f _ _ _ ih1 ih2 ih3 =>
    intro h; rw [toVL_cons, Bool.and_eq_true] at h
    have h1 := h.1
    simp only [toV] at h1
    split at h1
    · rename_i x y e1 e2
      exact .fn f (ih1 (by rw [e1]; rfl)) (ih2 (by rw [e2]; rfl)) (ih3 h.2)
    · cases h1
  | iface t _ _ ih1 ih2 =>
    intro h; rw [toVL_cons, Bool.and_eq_true] at h
    exact .iface t (ih1 (by rw [toVL_cons]; have := h.1; simpa [toV, toVL] using this)) (ih2 h.2)
theorem scalar_any {J J' : Nat → Nat → Prop} {μ' : List (List Place)} {w' : World} {c : CV} {v : Value} (hs : Scalar c) (h : V J μ w c v) : V J' μ' w' c v :=
  scalars_any h (by rw [toVL_cons]; simpa [toVL] using hs)
theorem BRel.adopt {w0 : World} (h : BRel N I μ B w) (h0 : Ext I μ w0 I μ w) {b o len : Nat} {cs : List CV} {vs : List Value} (hN : N ≤ b) (hb : w0.heap.size ≤ b) (hold : ∀ (β : Nat) (ps : List Place) (p : Place), μ[β]? = some ps → p ∈ ps → p.b ≠ b)
    (hI : ∀ j, ¬ I b j) (hf : Free w b (o + len)) (hl : cs.length = len) (hr : R I μ w true cs vs) (hc : ∀ j v, vs[j]? = some v → w.cell? ⟨b, o + j, none⟩ = some v) :
    BRel N I (μ ++ [[⟨b, 0, o, len⟩]]) (B ++ [{ cells := cs }]) w ∧ Ext I μ w0 I (μ ++ [[⟨b, 0, o, len⟩]]) w := by
  subst hl
  have grow : ∀ (β : Nat) (ps : List Place), μ[β]? = some ps → ∃ ps', (μ ++ [[(⟨b, 0, o, cs.length⟩ : Place)]])[β]? = some ps' ∧ ∀ p ∈ ps, p ∈ ps' := fun β ps hβ =>
    ⟨ps, by rw [List.getElem?_append_left (List.getElem?_eq_some_iff.1 hβ).1]; exact hβ, fun _ h => h⟩
  have k : Keep I μ w I (μ ++ [[⟨b, 0, o, cs.length⟩]]) w := ⟨fun _ _ h => h, fun _ _ _ => rfl, fun _ _ h => h, fun _ h => h, grow, fun _ _ _ _ h => h⟩
  have pl : ∀ (β : Nat) (ps : List Place) (p : Place), (μ ++ [[(⟨b, 0, o, cs.length⟩ : Place)]])[β]? = some ps → p ∈ ps → (μ[β]? = some ps) ∨ (β = μ.length ∧ p = ⟨b, 0, o, cs.length⟩) := by
    intro β ps p h1 h2
    rcases Nat.lt_or_ge β μ.length with hl | hl
    · rw [List.getElem?_append_left hl] at h1; exact .inl h1
    · rw [List.getElem?_append_right hl] at h1
      rcases Nat.eq_zero_or_pos (β - μ.length) with h0 | h0
      · rw [h0] at h1; simp at h1; subst h1
        exact .inr ⟨by omega, by simpa using h2⟩
      · rw [List.getElem?_eq_none (by simp; omega)] at h1; cases h1
  refine ⟨⟨by simp [h.len], h.low, h.imm, fun β ps p h1 h2 => ?_, fun β β' ps ps' p p' h1 h1' h2 h2' he => ?_, fun β box h1 h2 => ?_, fun β box ps p h1 h2 h3 h4 => ?_, h.tabs⟩, ⟨⟨h0.imm, h0.same, h0.free, h0.plain, grow, h0.maps⟩, h0.size, fun β ps ps' hβ hβ' p hp => ?_, fun β ps hβ hβ' p hp => ?_, h0.immN, fun β hβ => by rw [List.getElem?_append_left (List.getElem?_eq_some_iff.1 hβ).1]; exact hβ, h0.oth⟩⟩
  · rcases pl β ps p h1 h2 with h1 | ⟨rfl, rfl⟩
    · exact h.places β ps p h1 h2
    · exact ⟨hN, Nat.zero_le _, by simpa using hf⟩
  · rcases pl β ps p h1 h2 with h1 | ⟨rfl, rfl⟩ <;> rcases pl β' ps' p' h1' h2' with h1' | ⟨rfl, rfl⟩
    · exact h.disj β β' ps ps' p p' h1 h1' h2 h2' he
    · exact absurd he (hold _ _ _ h1 h2)
    · exact absurd he.symm (hold _ _ _ h1' h2')
    · rfl
  · rcases Nat.lt_or_ge β B.length with hl | hl
    · rw [List.getElem?_append_left hl] at h1
      rcases h.one β box h1 h2 with a0 | ⟨p, a1, a2, a3, ⟨us, a4, a5⟩, a6⟩
      · exact .inl (by rw [List.getElem?_append_left (by rw [h.len]; exact hl)]; exact a0)
      exact .inr ⟨p, by rw [List.getElem?_append_left (by rw [h.len]; exact hl)]; exact a1, a2, a3, ⟨us, a4.ext k, a5⟩, a6⟩
    · rw [List.getElem?_append_right hl] at h1
      rcases Nat.eq_zero_or_pos (β - B.length) with h0 | h0
      · rw [h0] at h1; simp at h1; subst h1
        refine .inr ⟨⟨b, 0, o, cs.length⟩, ?_, rfl, rfl, ⟨vs, hr.ext k, hc⟩, hI⟩
        rw [List.getElem?_append_right (by rw [h.len]; exact hl), h.len, h0]; rfl
      · rw [List.getElem?_eq_none (by simp; omega)] at h1; cases h1
  · rcases Nat.lt_or_ge β B.length with hl | hl
    · rw [List.getElem?_append_left hl] at h1
      rw [List.getElem?_append_left (by rw [h.len]; exact hl)] at h3
      obtain ⟨a1, ⟨us, a2, a3⟩, a4⟩ := h.many β box ps p h1 h2 h3 h4
      exact ⟨a1, ⟨us, a2.ext k, a3⟩, a4⟩
    · rw [List.getElem?_append_right hl] at h1
      rcases Nat.eq_zero_or_pos (β - B.length) with h0 | h0
      · rw [h0] at h1; simp at h1; subst h1; cases h2
      · rw [List.getElem?_eq_none (by simp; omega)] at h1; cases h1
  · rw [List.getElem?_append_left (List.getElem?_eq_some_iff.1 hβ).1, hβ] at hβ'
    simp at hβ'; subst hβ'
    exact .inl ⟨p, hp, rfl⟩
  · rcases pl β ps p hβ' hp with h1 | ⟨_, rfl⟩
    · have := (List.getElem?_eq_some_iff.1 h1).1; omega
    · exact hb
theorem acall_pure_core {f : FuncId} {args args' : List CV} {Q : CV → List Box → Prop} {nz : Bool} (hz : omap (fz nz false B 6) args = some args') (h : ACall P f args' [] Q) {Q' : CV → List Box → Prop}
    (hq : ∀ (N : Nat) (I : Nat → Nat → Prop) (μ : List (List Place)) (w w' : World) (c : CV) (v : Value) (B1 : List Box) (J J1 : Nat → Nat → Prop) (μ1 : List (List Place)), BRel N I μ B w → Q c B1 → Step w.heap.size J [] w c v B1 J1 μ1 w' → BRel N I μ B w' → Ext I μ w I μ w' → Below N w w' →
      ∃ c' B' I' μ', Q' c' B' ∧ Step N I μ w c' v B' I' μ' w') : ACall P f args B Q' := by
  refine ⟨h.1, fun N I μ w vs hB hv => ?_⟩
  have hv' := fz_rel (J := fun b _ => b < w.heap.size) hB (fun _ b j h => hB.imm b j h) (fun β ps p _ h1 h2 => (hB.places β ps p h1 h2).2.2.lt) 6 false args vs args' hv hz
  refine (h.2 w.heap.size (fun b _ => b < w.heap.size) [] w vs (BRel.none_ w _ (fun _ _ h => h) (hB.tabs.mono hB.imm)) hv').mono fun e w' ⟨c, v, B1, J1, μ1, he, hQ, hs⟩ => ?_
  obtain ⟨g1, g2, g3⟩ := hB.behind (I2 := I) hs.below (fun _ _ h => h) (fun _ _ h => .inl h)
  obtain ⟨c', B', I', μ', h1, h2⟩ := hq N I μ w w' c v B1 _ J1 μ1 hB hQ hs g1 g2 g3
  exact ⟨c', v, B', I', μ', he, h1, h2⟩
def ownC (B : List Box) (n sz : Nat) (full : Bool) (cells : List CV) : CV × List Box := if n = 0 then (.lst 0 [] full, B) else (.view B.length 0 n sz full, B ++ [{ cells := cells }])
theorem adopt_view {N1 : Nat} {J1 : Nat → Nat → Prop} {μ1 : List (List Place)} {B1 : List Box} {w0 : World} {b off n sz : Nat} {full : Bool} {box : Box} {v : Value} (hst : BRel N1 J1 μ1 B1 w) (hv : V J1 μ1 w (.view b off n sz full) v) (hbx : B1[b]? = some box)
    (hsc : (toVL ((box.cells.drop off).take (n * sz))).isSome = true) (hN1 : N1 = w0.heap.size) (g1 : BRel N I μ B w) (g2 : Ext I μ w0 I μ w) (hB0 : BRel N I μ B w0) :
    ∃ μ', V I μ' w (ownC B n sz full ((box.cells.drop off).take (n * sz))).1 v ∧ BRel N I μ' (ownC B n sz full ((box.cells.drop off).take (n * sz))).2 w ∧ Ext I μ w0 I μ' w ∧ (∀ J μx, ∀ c v, V J μx w c v → Scalar c → V I μ' w c v) := by
  rcases hv.view_inv with ⟨ps, p, cap, rfl, h2, h3, h4, h5, h6, h7, h8⟩ | ⟨A, rfl, rfl, _⟩
  · by_cases hn : n = 0
    · subst hn
      refine ⟨μ, ?_, ?_, g2, fun J μx c v h hs => scalar_any hs h⟩
      · simp only [ownC, if_pos]
        exact .lst 0 full _ _ cap (.nil _) (fun j v hj => by simp at hj) (Nat.zero_le _) h7 (.nil _)
      · simpa [ownC] using g1
    · obtain ⟨c1, vs, e1, e2, e3, _⟩ := view_cells hst hbx h2 h3 h4 h5 (s := off) (e := n * sz) (Nat.le_refl _) (Nat.le_refl _)
      have hpb : w0.heap.size ≤ p.b := by have := (hst.places b ps p h2 h3).1; omega
      have hlen : ((box.cells.drop off).take (n * sz)).length = n * sz := by rw [e1.len, e2]
      obtain ⟨k1, k2⟩ := g1.adopt g2 (b := p.b) (o := p.o + (off - p.lo)) (len := n * sz) (by have := hB0.low; omega) hpb (fun β qs q hq hm => by
        have := (hB0.places β qs q hq hm).2.2.lt; omega) (fun j hj => by have := hB0.imm _ _ hj; omega) (h8.less (by have : n * sz ≤ cap * sz := Nat.mul_le_mul_right _ h6; omega)) hlen (scalars_any e1 hsc) e3
      refine ⟨_, ?_, ?_, k2, fun J μx c v h hs => scalar_any hs h⟩
      · simp only [ownC, if_neg hn]
        have := R.view (I := I) (w := w) (one := false) B.length 0 n sz full [⟨p.b, 0, p.o + (off - p.lo), n * sz⟩] ⟨p.b, 0, p.o + (off - p.lo), n * sz⟩ cap (last_place g1 _) (List.mem_singleton.2 rfl) (Nat.le_refl _) (by simp) h6 h7 (by simpa using h8) (.nil _)
        simpa using this
      · simp only [ownC, if_neg hn]; exact k1
  · refine ⟨μ, ?_, ?_, g2, fun J μx c v h hs => scalar_any hs h⟩
    · simp only [ownC, if_pos]; exact .lstE full A (.nil _)
    · simpa [ownC] using g1
theorem acall_own {f : FuncId} {args args' : List CV} {Q : CV → List Box → Prop} {nz : Bool} (hz : omap (fz nz false B 6) args = some args') (h : ACall P f args' [] Q) {Q' : CV → List Box → Prop}
    (hq : ∀ c B1, Q c B1 → ∃ b off n sz full box, c = .view b off n sz full ∧ B1[b]? = some box ∧ (toVL ((box.cells.drop off).take (n * sz))).isSome = true ∧ Q' (ownC B n sz full ((box.cells.drop off).take (n * sz))).1 (ownC B n sz full ((box.cells.drop off).take (n * sz))).2) :
    ACall P f args B Q' :=
  acall_pure_core hz h fun N I μ w w' c v B1 J J1 μ1 hB0 hQ hst g1 g2 g3 => by
    obtain ⟨b, off, n, sz, full, box, rfl, h1, h2, h3⟩ := hq c B1 hQ
    obtain ⟨μ', k1, k2, k3, _⟩ := adopt_view hst.box hst.val h1 h2 rfl g1 g2 hB0
    exact ⟨_, _, I, μ', h3, k1, k2, k3, g3⟩
end
end Go.Sy
end
section
namespace Go.Sy
open Go.RowKit (Below)
section
def Is {α : Type} (x y : α) : Prop := x = y
variable {P : Program} {n : Nat} {ops : Array Oper} {Q : Exit → Fr → List Box → Prop} {K : Fr → List Box → Prop} {fr : Fr} {B : List Box} {J : List Box → Prop}
theorem w_seq {a b : Code} (h : WPc P n a (thenC (fun fr B => WPc P n b Q fr B) Q) fr B) : WPc P n (.seq a b) Q fr B := h
theorem w_region {id : Nat} {l : List Oper} (h : WPo P n l.toArray (fun fr B => Q .normal fr B) l fr B) : WPc P n (.region id l.toArray false) Q fr B := by
  simpa [WPc] using h
def hoistsOf (P : Program) (l : List Oper) (bs : List Nat) : List Nat := (List.range l.length).filter fun k => (match l[k]? with | some o => (match o.op with | .alloc _ => true | _ => false) | none => false) && !barrier P l bs [] k
def boxesOf (P : Program) (l : List Oper) : List Nat → Option (List Box)
  | [] => some []
  | k :: ks => match l[k]? with
    | some o => match o.op with
      | .alloc t => (zerosOf P t).bind fun zs => (boxesOf P l ks).map ({ cells := zs } :: ·)
      | _ => none
    | none => none
theorem boxesOf_length {l : List Oper} : ∀ {hs : List Nat} {H : List Box}, boxesOf P l hs = some H → hs.length = H.length
  | [], H, h => by simp [boxesOf] at h; subst h; rfl
  | k :: ks, H, h => by
    simp only [boxesOf] at h
    split at h
    · split at h
      · rename_i t _
        cases hz : zerosOf P t with
        | none => rw [hz] at h; cases h
        | some zs =>
          rw [hz] at h
          simp only [Option.bind_some, Option.map_eq_some_iff] at h
          obtain ⟨H', h1, rfl⟩ := h
          simp [boxesOf_length h1]
      · cases h
    · cases h
theorem w_drawJ {id : Nat} {l : List Oper} (hs : List Nat) (H : List Box) (J : List Box → Prop) {B1 : List Box} (hl : hs.length = H.length) (hB : Is (B ++ H) B1) (hJ : J B1) (h : WPd P n l.toArray (befs l []) B.length hs J (fun fr B => Q .normal fr B) 0 l fr B1) : WPc P n (.region id l.toArray true) Q fr B := by
  have hB : B ++ H = B1 := hB
  subst hB
  simp only [WPc, if_true]
  exact ⟨hs, H, J, hl, hJ, .inl h⟩
theorem w_drawH {id : Nat} {l : List Oper} (hs : List Nat) (H : List Box) {B1 : List Box} (hl : hs.length = H.length) (hB : Is (B ++ H) B1) (h : WPd P n l.toArray (befs l []) B.length hs (fun _ => True) (fun fr B => Q .normal fr B) 0 l fr B1) : WPc P n (.region id l.toArray true) Q fr B :=
  w_drawJ hs H _ hl hB trivial h
theorem w_draw {id : Nat} {l : List Oper} (h0 : (hoistsOf P l (befs l [])).isEmpty = true) (h : WPd P n l.toArray (befs l []) B.length [] (fun _ => True) (fun fr B => Q .normal fr B) 0 l fr B) : WPc P n (.region id l.toArray true) Q fr B :=
  w_drawH [] [] rfl (List.append_nil B) h
theorem w_drawA {id : Nat} {l : List Oper} {hs : List Nat} {H B1 : List Box} (h0 : hoistsOf P l (befs l []) = hs) (hH : Is (boxesOf P l hs) (some H)) (hB : Is (B ++ H) B1)
    (h : WPd P n l.toArray (befs l []) B.length hs (fun _ => True) (fun fr B => Q .normal fr B) 0 l fr B1) : WPc P n (.region id l.toArray true) Q fr B :=
  w_drawH hs H (boxesOf_length hH) hB h
theorem w_block {id : Nat} {c : Code} (h : WPc P n c (inBlockC id Q) fr B) : WPc P n (.block id c) Q fr B := h
theorem w_cond {c : Operand} {x y : Code} {t : Bool} (hc : Is (opv fr c) (.bool t)) (h1 : t = true → WPc P n x Q fr B) (h2 : t = false → WPc P n y Q fr B) : WPc P n (.cond c x y) Q fr B := by
  have hc : opv fr c = .bool t := hc
  simp only [WPc, hc]; exact ⟨h1, h2⟩
theorem w_loop {c : Code} (Inv : Fr → List Box → Prop) (m : Fr → List Box → Nat) (h0 : Inv fr B) (h : ∀ fr B, Inv fr B → WPc P n c (thenC (fun fr' B' => Inv fr' B' ∧ m fr' B' < m fr B) Q) fr B) : WPc P n (.loop c) Q fr B := ⟨Inv, m, h0, h⟩
theorem w_skip (h : Q .normal fr B) : WPc P n .skip Q fr B := h
theorem w_exit {id : Nat} (h : Q (.exit id) fr B) : WPc P n (.exit id) Q fr B := h
theorem w_ret (h : Q .ret fr B) : WPc P n .ret Q fr B := h
theorem w_then (h : K fr B) : thenC K Q .normal fr B := h
theorem w_then_exit {id : Nat} (h : Q (.exit id) fr B) : thenC K Q (.exit id) fr B := h
theorem w_then_ret (h : Q .ret fr B) : thenC K Q .ret fr B := h
theorem w_in {id : Nat} (h : Q .normal fr B) : inBlockC id Q .normal fr B := h
theorem w_in_here {id : Nat} (h : Q .normal fr B) : inBlockC id Q (.exit id) fr B := by simpa [inBlockC] using h
theorem w_in_exit {id i : Nat} (hne : (i == id) = false) (h : Q (.exit i) fr B) : inBlockC id Q (.exit i) fr B := by
  simp only [inBlockC]; rw [if_neg (by simpa using hne)]; exact h
theorem w_in_ret {id : Nat} (h : Q .ret fr B) : inBlockC id Q .ret fr B := h
theorem w_end {rs : List ResultVar} {q : CV → List Box → Prop} {c : CV} (hc : Is (resC P rs fr B) (some c)) (h : q c B) : retC P rs q .normal fr B := by
  have hc : resC P rs fr B = some c := hc
  simp only [retC, hc]; exact h
theorem w_return {rs : List ResultVar} {q : CV → List Box → Prop} {c : CV} (hc : Is (resC P rs fr B) (some c)) (h : q c B) : retC P rs q .ret fr B := by
  have hc : resC P rs fr B = some c := hc
  simp only [retC, hc]; exact h
def isCall : Op → Bool
  | .call { callee := .value _, .. } => true
  | _ => false
theorem StepC_ev {o : Oper} {k : CV → List Box → Prop} (hn : isCall o.op = false) (r : CV × List Box) (he : ev P o fr B = some r) (h : k r.1 r.2) : StepC P o fr B k := by
  unfold StepC
  split
  · rename_i f args ts ho; rw [ho] at hn; simp [isCall] at hn
  · rw [he]; exact .inl h
theorem o_nil {q : Fr → List Box → Prop} (h : q fr B) : WPo P n ops q [] fr B := h
theorem o_op {q : Fr → List Box → Prop} {rest : List Oper} {dst : Option Tmp} {op : Op} {ty : TypeId} {pos : String} {after : Array Edge} {c : CV} {B' : List Box}
    (hd : dstOk n ⟨dst, op, ty, pos, after, none⟩ = true) (hn : isCall op = false) (he : Is (ev P ⟨dst, op, ty, pos, after, none⟩ fr B) (some (c, B'))) (h : WPo P n ops q rest (upd fr dst c) B') : WPo P n ops q (⟨dst, op, ty, pos, after, none⟩ :: rest) fr B := by
  unfold WPo
  exact ⟨hd, fun _ => StepC_ev hn _ he h, fun h => by cases h⟩
theorem o_guard {q : Fr → List Box → Prop} {rest : List Oper} {dst : Option Tmp} {op : Op} {ty : TypeId} {pos : String} {after : Array Edge} {g : Nat × Bool} {t : Bool}
    (hd : dstOk n ⟨dst, op, ty, pos, after, some g⟩ = true) (hw : Is (wantC ops fr ⟨dst, op, ty, pos, after, some g⟩) (some t))
    (h1 : t = true → WPo P n ops q (⟨dst, op, ty, pos, after, none⟩ :: rest) fr B) (h2 : t = false → WPo P n ops q rest (upd fr dst (.tup [])) B) : WPo P n ops q (⟨dst, op, ty, pos, after, some g⟩ :: rest) fr B := by
  have hw : wantC ops fr ⟨dst, op, ty, pos, after, some g⟩ = some t := hw
  unfold WPo
  rw [hw]
  refine ⟨hd, fun ht => ?_, h2⟩
  have := h1 ht
  unfold WPo at this
  exact this.2.1 rfl
theorem o_call {q : Fr → List Box → Prop} {rest : List Oper} {dst : Option Tmp} {f : Operand} {args : Array Operand} {ts : Array TypeId} {ty : TypeId} {pos : String} {after : Array Edge} {g : FuncId} {first caps all : List CV}
    (hd : dstOk n ⟨dst, .call { callee := .value f, args, argTypes := ts }, ty, pos, after, none⟩ = true) (hf : Is (opv fr f) (.fn (.func g) first caps)) (ha : Is (first ++ args.toList.map (opv fr) ++ caps) all)
    (h : ACall P g all B fun c B' => WPo P n ops q rest (upd fr dst c) B') : WPo P n ops q (⟨dst, .call { callee := .value f, args, argTypes := ts }, ty, pos, after, none⟩ :: rest) fr B := by
  have hf : opv fr f = .fn (.func g) first caps := hf
  have ha : first ++ args.toList.map (opv fr) ++ caps = all := ha
  unfold WPo
  refine ⟨hd, fun _ => ?_, fun h => by cases h⟩
  simp only [StepC, hf]
  rw [ha]
  exact .inl h
theorem d_nil {bs hs : List Nat} {base k : Nat} {q : Fr → List Box → Prop} (h : q fr B) : WPd P n ops bs base hs J q k [] fr B := h
theorem d_op {bs hs : List Nat} {base k : Nat} {q : Fr → List Box → Prop} {rest : List Oper} {dst : Option Tmp} {op : Op} {ty : TypeId} {pos : String} {after : Array Edge} {c : CV} {B' : List Box}
    (hd : dstOk n ⟨dst, op, ty, pos, after, none⟩ = true) (hn : (isCall op || hs.contains k) = false) (he : Is (ev P ⟨dst, op, ty, pos, after, none⟩ fr B) (some (c, B'))) (hb : B' = B ∨ (barrier P ops.toList bs hs k = true ∧ keepsH bs k B B' base hs ∧ J B'))
    (h : WPd P n ops bs base hs J q (k + 1) rest (upd fr dst c) B') : WPd P n ops bs base hs J q k (⟨dst, op, ty, pos, after, none⟩ :: rest) fr B := by
  rw [Bool.or_eq_false_iff] at hn
  unfold WPd
  refine ⟨hd, fun _ => ?_, fun h => by cases h⟩
  rw [if_neg (by rw [hn.2]; simp)]
  exact ⟨c, B', StepC_ev hn.1 _ he ⟨rfl, rfl⟩, hb, h⟩
def idx : List Nat → Nat → Nat
  | [], _ => 0
  | x :: hs, k => if x = k then 0 else idx hs k + 1
theorem idx_nil {k : Nat} : idx [] k = 0 := rfl
theorem idx_cons {x k : Nat} {hs : List Nat} : idx (x :: hs) k = if x = k then 0 else idx hs k + 1 := rfl
theorem idx_get {k : Nat} : ∀ {hs : List Nat}, hs.contains k = true → hs[idx hs k]? = some k
  | [], h => by simp at h
  | x :: hs, h => by
    rw [idx_cons]
    split
    · rename_i hx; simp [hx]
    · rename_i hx
      rw [List.getElem?_cons_succ]
      refine idx_get ?_
      simp only [List.contains_cons, Bool.or_eq_true, beq_iff_eq] at h
      rcases h with h | h
      · exact absurd h.symm hx
      · exact h
theorem d_made {bs hs : List Nat} {base k β : Nat} {q : Fr → List Box → Prop} {rest : List Oper} {dst : Option Tmp} {op : Op} {ty : TypeId} {pos : String} {after : Array Edge} {c c' : CV} {bx : Box}
    (hd : dstOk n ⟨dst, op, ty, pos, after, none⟩ = true) (hn : hs.contains k = true) (hf : Is (op.operands.toList.all (flatO fr)) true) (he : Is (ev P ⟨dst, op, ty, pos, after, none⟩ fr []) (some (c, [bx]))) (hm : Is (bx.multi, bx.cells.all flat) (false, true))
    (hβ : Is (base + idx hs k) β) (hB : Is B[β]? (some bx)) (hc : Is (mvC β c) (some c'))
    (h : WPd P n ops bs base hs J q (k + 1) rest (upd fr dst c') B) : WPd P n ops bs base hs J q k (⟨dst, op, ty, pos, after, none⟩ :: rest) fr B := by
  have hβ : base + idx hs k = β := hβ
  subst hβ
  unfold WPd
  refine ⟨hd, fun _ => ?_, fun h => by cases h⟩
  rw [if_pos hn]
  have hm1 : (bx.multi, bx.cells.all flat) = (false, true) := hm
  rw [Prod.mk.injEq] at hm1
  exact .inl ⟨idx hs k, c, bx, c', idx_get hn, ⟨hf, he, hm1.1, hm1.2⟩, hB, hc, h⟩
theorem d_free {bs hs : List Nat} {base k : Nat} {q : Fr → List Box → Prop} {rest : List Oper} {dst : Option Tmp} {f : Operand} {args : Array Operand} {ts : Array TypeId} {ty : TypeId} {pos : String} {after : Array Edge} {g : FuncId} {first caps all : List CV} {c : CV}
    (hd : (dstOk n ⟨dst, .call { callee := .value f, args, argTypes := ts }, ty, pos, after, none⟩ && hs.contains k) = true) (hf : Is (opv fr f) (.fn (.func g) first caps)) (ha : Is (first ++ args.toList.map (opv fr) ++ caps) all)
    (hc : ∀ B, J B → ACall P g all B fun c' B' => c' = c ∧ B' = B) (h : WPd P n ops bs base hs J q (k + 1) rest (upd fr dst c) B) : WPd P n ops bs base hs J q k (⟨dst, .call { callee := .value f, args, argTypes := ts }, ty, pos, after, none⟩ :: rest) fr B := by
  have hf : opv fr f = .fn (.func g) first caps := hf
  have ha : first ++ args.toList.map (opv fr) ++ caps = all := ha
  unfold WPd
  rw [Bool.and_eq_true] at hd
  refine ⟨hd.1, fun _ => ?_, fun h => by cases h⟩
  rw [if_pos hd.2]
  refine .inr ⟨c, fun B hJ => ?_, h⟩
  simp only [StepC, hf]
  rw [ha]
  exact .inl (hc B hJ)
theorem d_fop {bs hs : List Nat} {base k : Nat} {q : Fr → List Box → Prop} {rest : List Oper} {dst : Option Tmp} {op : Op} {ty : TypeId} {pos : String} {after : Array Edge} {c : CV}
    (hd : dstOk n ⟨dst, op, ty, pos, after, none⟩ = true) (hn : (!isCall op && hs.contains k) = true) (he : ∀ B, J B → Is (ev P ⟨dst, op, ty, pos, after, none⟩ fr B) (some (c, B)))
    (h : WPd P n ops bs base hs J q (k + 1) rest (upd fr dst c) B) : WPd P n ops bs base hs J q k (⟨dst, op, ty, pos, after, none⟩ :: rest) fr B := by
  rw [Bool.and_eq_true] at hn
  unfold WPd
  refine ⟨hd, fun _ => ?_, fun h => by cases h⟩
  rw [if_pos hn.2]
  exact .inr ⟨c, fun B hJ => StepC_ev (by simpa using hn.1) _ (he B hJ) ⟨rfl, rfl⟩, h⟩
theorem d_guard {bs hs : List Nat} {base k : Nat} {q : Fr → List Box → Prop} {rest : List Oper} {dst : Option Tmp} {op : Op} {ty : TypeId} {pos : String} {after : Array Edge} {g : Nat × Bool} {t : Bool}
    (hd : dstOk n ⟨dst, op, ty, pos, after, some g⟩ = true) (hw : Is (wantC ops fr ⟨dst, op, ty, pos, after, some g⟩) (some t))
    (h1 : t = true → WPd P n ops bs base hs J q k (⟨dst, op, ty, pos, after, none⟩ :: rest) fr B) (h2 : t = false → WPd P n ops bs base hs J q (k + 1) rest (upd fr dst (.tup [])) B) : WPd P n ops bs base hs J q k (⟨dst, op, ty, pos, after, some g⟩ :: rest) fr B := by
  have hw : wantC ops fr ⟨dst, op, ty, pos, after, some g⟩ = some t := hw
  unfold WPd
  rw [hw]
  refine ⟨hd, fun ht => ?_, h2⟩
  have := h1 ht
  unfold WPd at this
  exact this.2.1 rfl
theorem d_call {bs hs : List Nat} {base k : Nat} {q : Fr → List Box → Prop} {rest : List Oper} {dst : Option Tmp} {f : Operand} {args : Array Operand} {ts : Array TypeId} {ty : TypeId} {pos : String} {after : Array Edge} {g : FuncId} {first caps all : List CV} {c : CV} {B' : List Box}
    (hd : (dstOk n ⟨dst, .call { callee := .value f, args, argTypes := ts }, ty, pos, after, none⟩ && !hs.contains k) = true) (hf : Is (opv fr f) (.fn (.func g) first caps)) (ha : Is (first ++ args.toList.map (opv fr) ++ caps) all)
    (hc : ACall P g all B fun c' B'' => c' = c ∧ B'' = B') (hb : B' = B ∨ (barrier P ops.toList bs hs k = true ∧ keepsH bs k B B' base hs ∧ J B')) (h : WPd P n ops bs base hs J q (k + 1) rest (upd fr dst c) B') : WPd P n ops bs base hs J q k (⟨dst, .call { callee := .value f, args, argTypes := ts }, ty, pos, after, none⟩ :: rest) fr B := by
  have hf : opv fr f = .fn (.func g) first caps := hf
  have ha : first ++ args.toList.map (opv fr) ++ caps = all := ha
  unfold WPd
  rw [Bool.and_eq_true] at hd
  refine ⟨hd.1, fun _ => ?_, fun h => by cases h⟩
  rw [if_neg (by simpa using hd.2)]
  refine ⟨c, B', ?_, hb, h⟩
  simp only [StepC, hf]
  rw [ha]
  exact .inl hc
theorem opv_tmp {fr : Fr} {t : Tmp} : opv fr (.tmp t) = fr t := rfl
theorem opv_const {fr : Fr} {v : Value} : opv fr (.const v) = ofV v := rfl
theorem tabC_raw {g : Nat} : tabC (.raw (.pointer (some ⟨g, 0, none⟩))) = (tab g).map fun t => t.2.map (.int t.1) := rfl
theorem opv_global {fr : Fr} {g : Nat} : opv fr (.global g) = .raw (.pointer (some ⟨g, 0, none⟩)) := rfl
theorem opv_func {fr : Fr} {f : FuncId} : opv fr (.func f) = .fn (.func f) [] [] := rfl
theorem upd_get (fr : Fr) (d : Tmp) (c : CV) (t : Nat) : upd fr (some d) c t = if t = d then c else fr t := rfl
theorem upd_none (fr : Fr) (c : CV) : upd fr none c = fr := rfl
theorem frOf_get (args : List CV) (i : Nat) : frOf args i = args.getD i (.tup []) := rfl
theorem fdiv_pow (v m : Nat) : (v : Int).fdiv (2 ^ m) = ((v / 2 ^ m : Nat) : Int) := by
  rw [Int.fdiv_eq_ediv_of_nonneg _ (by exact_mod_cast Nat.zero_le _)]; norm_cast
theorem tmod_pos {a b : Int} (h : 0 ≤ a) : a.tmod b = a % b := Int.tmod_eq_emod_of_nonneg h
theorem tdiv_pos {a b : Int} (h : 0 ≤ a) : a.tdiv b = a / b := Int.tdiv_eq_ediv_of_nonneg h
def appOk (P : Program) (e : TypeId) (esz : Nat) : Bool := match (P.info? e).bind (·.zero) with | some z => z.cells.size == esz && esz != 0 | none => false
def appendK (P : Program) (e : TypeId) (esz : Nat) (B : List Box) (s x : CV) : Option (CV × List Box) :=
  (srcC B esz x).bind fun (m, news) => appendM P e esz B s m news
theorem appendC_eq {ts e : TypeId} {esz : Nat} (h1 : elemT P ts = some e) (h2 : szOf P e = some esz) (h3 : appOk P e esz = true) (B : List Box) (s x : CV) : appendC P ts B s x = appendK P e esz B s x := by
  unfold appendC appendK
  unfold appOk at h3
  rw [h1]; simp only [Option.bind_some]; rw [h2]; simp only [Option.bind_some]
  cases hz : (P.info? e).bind (·.zero) with
  | none => simp [hz] at h3
  | some z =>
    simp only [hz, Bool.and_eq_true, beq_iff_eq, bne_iff_ne] at h3
    congr 1
    funext p
    simp only [h3.1, ne_eq, not_true_eq_false, false_or, if_neg h3.2]
section
variable {P : Program} {e : TypeId} {esz : Nat} {B : List Box} {x : CV}
theorem appendK_nilS : appendK P e esz B .nilS x = (srcC B esz x).bind fun (m, news) => if m = 0 then some (.nilS, B) else if m * P.bytesOf e ≤ 140737488355328 ∧ m ≤ 140737488355328 then some (.view B.length 0 m esz false, B ++ [{ cells := news }]) else none := rfl
theorem appendK_lst {n : Nat} {cs : List CV} : appendK P e esz B (.lst n cs true) x = (srcC B esz x).bind fun (m, news) => if m = 0 then some (.lst n cs true, B) else if (n + m) * P.bytesOf e ≤ 140737488355328 ∧ n + m ≤ 140737488355328 ∧ cs.length = n * esz then some (.view B.length 0 (n + m) esz false, B ++ [{ cells := cs ++ news }]) else none := rfl
theorem appendK_view {b off n sz : Nat} {full : Bool} : appendK P e esz B (.view b off n sz full) x = (srcC B esz x).bind fun (m, news) => if m = 0 then some (.view b off n sz full, B) else match B[b]? with
    | none => none
    | some box =>
      if sz = esz ∧ (n + m) * P.bytesOf e ≤ 140737488355328 ∧ n + m ≤ 140737488355328 then
        if full then some (.view B.length 0 (n + m) esz false, B ++ [{ cells := (box.cells.drop off).take (n * esz) ++ news }])
        else if off + n * esz = box.cells.length then some (.view b off (n + m) esz false, B.set b { cells := box.cells ++ news, multi := true }) else none
      else none := rfl
theorem appendK_cview {b off n cap sz : Nat} : appendK P e esz B (.cview b off n cap sz) x = (srcC B esz x).bind fun (m, news) => if m = 0 then some (.cview b off n cap sz, B) else match B[b]? with
    | none => none
    | some box =>
      if sz = esz ∧ (n + m) * P.bytesOf e ≤ 140737488355328 ∧ n + m ≤ 140737488355328 ∧ box.multi = false ∧ off + cap * esz ≤ box.cells.length then
        if n + m ≤ cap then some (.cview b off (n + m) cap esz, B.set b { cells := splice box.cells (off + n * esz) news })
        else some (.view B.length 0 (n + m) esz false, B ++ [{ cells := (box.cells.drop off).take (n * esz) ++ news }])
      else none := rfl
variable {m : Nat} {news : List CV}
theorem appendM_nilS : appendM P e esz B .nilS m news = if m = 0 then some (.nilS, B) else if m * P.bytesOf e ≤ 140737488355328 ∧ m ≤ 140737488355328 then some (.view B.length 0 m esz false, B ++ [{ cells := news }]) else none := rfl
theorem appendM_lst {n : Nat} {cs : List CV} : appendM P e esz B (.lst n cs true) m news = if m = 0 then some (.lst n cs true, B) else if (n + m) * P.bytesOf e ≤ 140737488355328 ∧ n + m ≤ 140737488355328 ∧ cs.length = n * esz then some (.view B.length 0 (n + m) esz false, B ++ [{ cells := cs ++ news }]) else none := rfl
theorem appendM_view {b off n sz : Nat} {full : Bool} : appendM P e esz B (.view b off n sz full) m news = if m = 0 then some (.view b off n sz full, B) else match B[b]? with
    | none => none
    | some box =>
      if sz = esz ∧ (n + m) * P.bytesOf e ≤ 140737488355328 ∧ n + m ≤ 140737488355328 then
        if full then some (.view B.length 0 (n + m) esz false, B ++ [{ cells := (box.cells.drop off).take (n * esz) ++ news }])
        else if off + n * esz = box.cells.length then some (.view b off (n + m) esz false, B.set b { cells := box.cells ++ news, multi := true }) else none
      else none := rfl
theorem appendM_cview {b off n cap sz : Nat} : appendM P e esz B (.cview b off n cap sz) m news = if m = 0 then some (.cview b off n cap sz, B) else match B[b]? with
    | none => none
    | some box =>
      if sz = esz ∧ (n + m) * P.bytesOf e ≤ 140737488355328 ∧ n + m ≤ 140737488355328 ∧ box.multi = false ∧ off + cap * esz ≤ box.cells.length then
        if n + m ≤ cap then some (.cview b off (n + m) cap esz, B.set b { cells := splice box.cells (off + n * esz) news })
        else some (.view B.length 0 (n + m) esz false, B ++ [{ cells := (box.cells.drop off).take (n * esz) ++ news }])
      else none := rfl
end
def putC (place : Nat → Option (Nat × Nat)) (cells : List CV) (i : Nat) (c : CV) (rest : List (Nat × CV)) : Option (List CV) :=
  match place i with | some (off, size) => if size = 1 ∧ off < cells.length then fillC place (cells.set off c) rest else none | none => none
theorem fillC_c {place : Nat → Option (Nat × Nat)} {cells : List CV} {i : Nat} {c : CV} {rest : List (Nat × CV)} (h : cellsC c = some [c]) : fillC place cells ((i, c) :: rest) = putC place cells i c rest := by
  rw [fillC, putC, h]
  cases place i with
  | none => rfl
  | some p =>
    obtain ⟨off, size⟩ := p
    simp only [List.length_cons, List.length_nil]
    by_cases h1 : size = 1
    · by_cases h2 : off < cells.length
      · rw [if_neg (by omega), if_pos ⟨h1, h2⟩]
        congr 1
        rw [splice, List.set_eq_take_append_cons_drop, if_pos h2]
        simp
      · rw [if_pos (by omega), if_neg (by omega)]
    · rw [if_pos (by omega), if_neg (by omega)]
section
variable {place : Nat → Option (Nat × Nat)} {cells : List CV} {i : Nat} {rest : List (Nat × CV)}
theorem fillC_nil : fillC place cells [] = some cells := rfl
theorem fillC_int {k : IntKind} {n : Int} : fillC place cells ((i, .int k n) :: rest) = putC place cells i (.int k n) rest := fillC_c rfl
theorem fillC_byte {b : UInt8} : fillC place cells ((i, byteC b) :: rest) = putC place cells i (byteC b) rest := fillC_c rfl
theorem fillC_bool {b : Bool} : fillC place cells ((i, .bool b) :: rest) = putC place cells i (.bool b) rest := fillC_c rfl
theorem fillC_str {b : List UInt8} : fillC place cells ((i, .str b) :: rest) = putC place cells i (.str b) rest := fillC_c rfl
theorem fillC_nilS : fillC place cells ((i, .nilS) :: rest) = putC place cells i .nilS rest := fillC_c rfl
theorem fillC_nilP : fillC place cells ((i, .nilP) :: rest) = putC place cells i .nilP rest := fillC_c rfl
theorem fillC_nilF : fillC place cells ((i, .nilF) :: rest) = putC place cells i .nilF rest := fillC_c rfl
theorem fillC_nilI : fillC place cells ((i, .nilI) :: rest) = putC place cells i .nilI rest := fillC_c rfl
theorem fillC_lst {n : Nat} {cs : List CV} {f : Bool} : fillC place cells ((i, .lst n cs f) :: rest) = putC place cells i (.lst n cs f) rest := fillC_c rfl
theorem fillC_view {b o n z : Nat} {f : Bool} : fillC place cells ((i, .view b o n z f) :: rest) = putC place cells i (.view b o n z f) rest := fillC_c rfl
theorem fillC_cview {b o n c z : Nat} : fillC place cells ((i, .cview b o n c z) :: rest) = putC place cells i (.cview b o n c z) rest := fillC_c rfl
theorem fillC_ptr {b o : Nat} : fillC place cells ((i, .ptr b o) :: rest) = putC place cells i (.ptr b o) rest := fillC_c rfl
theorem fillC_iptr {cs : List CV} : fillC place cells ((i, .iptr cs) :: rest) = putC place cells i (.iptr cs) rest := fillC_c rfl
theorem fillC_fn {f : Fn} {x y : List CV} : fillC place cells ((i, .fn f x y) :: rest) = putC place cells i (.fn f x y) rest := fillC_c rfl
theorem fillC_iface {t : TypeId} {v : CV} : fillC place cells ((i, .iface t v) :: rest) = putC place cells i (.iface t v) rest := fillC_c rfl
theorem fillC_agg {as_ : List CV} : fillC place cells ((i, .agg as_) :: rest) = match place i with | some (off, size) => (if as_.length ≠ size ∨ off + as_.length > cells.length then none else fillC place (splice cells off as_) rest) | none => none := by
  rw [fillC]; cases place i <;> rfl
end
theorem fillC_all {n : Nat} : ∀ (ps : List (List CV)) (k : Nat) (pre suf : List CV), pre.length = k * n → (∀ p ∈ ps, p.length = n) → suf.length = ps.length * n →
    fillC (fun i => some (i * n, n)) (pre ++ suf) (ps.zipIdx k |>.map fun p => (p.2, CV.agg p.1)) = some (pre ++ ps.flatten)
  | [], k, pre, suf, _, _, hs => by
    have : suf = [] := List.eq_nil_of_length_eq_zero (by simpa using hs)
    subst this; rfl
  | p :: ps, k, pre, suf, hp, hn, hs => by
    have hpl := hn p (by simp)
    have hs' : suf.length = ps.length * n + n := by rw [hs, List.length_cons, Nat.succ_mul]
    rw [List.zipIdx_cons, List.map_cons, fillC_agg]
    dsimp only
    rw [if_neg (by rw [List.length_append]; omega)]
    have e : splice (pre ++ suf) (k * n) p = (pre ++ p) ++ suf.drop n := by
      rw [splice, List.take_left' hp, ← List.drop_drop, List.drop_left' hp, hpl]
    rw [e, fillC_all ps (k + 1) (pre ++ p) (suf.drop n) (by rw [List.length_append, hp, hpl, Nat.succ_mul]) (fun q hq => hn q (by simp [hq])) (by rw [List.length_drop]; omega)]
    rw [List.flatten_cons, List.append_assoc]
section
variable {n : Nat} {a b c d e : List CV} {Z : List CV}
theorem fill_agg1 (ha : a.length = n) (hz : Z.length = 1 * n) : fillC (fun i => some (i * n, n)) Z [(0, .agg a)] = some a := by
  have := fillC_all (n := n) [a] 0 [] Z (by simp) (by simp [ha]) (by simpa using hz)
  simpa using this
theorem fill_agg2 (ha : a.length = n) (hb : b.length = n) (hz : Z.length = 2 * n) : fillC (fun i => some (i * n, n)) Z [(0, .agg a), (1, .agg b)] = some (a ++ b) := by
  have := fillC_all (n := n) [a, b] 0 [] Z (by simp) (by simp [ha, hb]) (by simpa using hz)
  simpa using this
theorem fill_agg3 (ha : a.length = n) (hb : b.length = n) (hc : c.length = n) (hz : Z.length = 3 * n) : fillC (fun i => some (i * n, n)) Z [(0, .agg a), (1, .agg b), (2, .agg c)] = some (a ++ (b ++ c)) := by
  have := fillC_all (n := n) [a, b, c] 0 [] Z (by simp) (by simp [ha, hb, hc]) (by simpa using hz)
  simpa using this
theorem fill_agg4 (ha : a.length = n) (hb : b.length = n) (hc : c.length = n) (hd : d.length = n) (hz : Z.length = 4 * n) : fillC (fun i => some (i * n, n)) Z [(0, .agg a), (1, .agg b), (2, .agg c), (3, .agg d)] = some (a ++ (b ++ (c ++ d))) := by
  have := fillC_all (n := n) [a, b, c, d] 0 [] Z (by simp) (by simp [ha, hb, hc, hd]) (by simpa using hz)
  simpa using this
theorem fill_agg5 (ha : a.length = n) (hb : b.length = n) (hc : c.length = n) (hd : d.length = n) (he : e.length = n) (hz : Z.length = 5 * n) : fillC (fun i => some (i * n, n)) Z [(0, .agg a), (1, .agg b), (2, .agg c), (3, .agg d), (4, .agg e)] = some (a ++ (b ++ (c ++ (d ++ e)))) := by
  have := fillC_all (n := n) [a, b, c, d, e] 0 [] Z (by simp) (by simp [ha, hb, hc, hd, he]) (by simpa using hz)
  simpa using this
end
section
theorem cellsC_int {k : IntKind} {n : Int} : cellsC (.int k n) = some [.int k n] := rfl
theorem cellsC_byte {b : UInt8} : cellsC (byteC b) = some [byteC b] := rfl
theorem cellsC_bool {b : Bool} : cellsC (.bool b) = some [.bool b] := rfl
theorem cellsC_str {b : List UInt8} : cellsC (.str b) = some [.str b] := rfl
theorem cellsC_nilS : cellsC .nilS = some [.nilS] := rfl
theorem cellsC_nilP : cellsC .nilP = some [.nilP] := rfl
theorem cellsC_nilF : cellsC .nilF = some [.nilF] := rfl
theorem cellsC_nilI : cellsC .nilI = some [.nilI] := rfl
theorem cellsC_lst {n : Nat} {cs : List CV} {f : Bool} : cellsC (.lst n cs f) = some [.lst n cs f] := rfl
theorem cellsC_view {b o n z : Nat} {f : Bool} : cellsC (.view b o n z f) = some [.view b o n z f] := rfl
theorem cellsC_cview {b o n c z : Nat} : cellsC (.cview b o n c z) = some [.cview b o n c z] := rfl
theorem cellsC_ptr {b o : Nat} : cellsC (.ptr b o) = some [.ptr b o] := rfl
theorem cellsC_iptr {cs : List CV} : cellsC (.iptr cs) = some [.iptr cs] := rfl
theorem cellsC_fn {f : Fn} {x y : List CV} : cellsC (.fn f x y) = some [.fn f x y] := rfl
theorem cellsC_iface {t : TypeId} {v : CV} : cellsC (.iface t v) = some [.iface t v] := rfl
theorem cellsC_imap {x y : List CV} : cellsC (.imap x y) = some [.imap x y] := rfl
theorem cellsC_agg {cs : List CV} : cellsC (.agg cs) = some cs := rfl
end
def natOf : CV → Nat | .int _ n => n.toNat | _ => 0
theorem natOf_int (k : IntKind) (n : Int) : natOf (.int k n) = n.toNat := rfl
theorem wi64 {x : Int} (h : -9223372036854775808 ≤ x ∧ x < 9223372036854775808) : IntKind.i64.wrap x = x := IntWalk.i64_in _ (by omega)
theorem wu64 {x : Int} (h : 0 ≤ x ∧ x < 18446744073709551616) : IntKind.u64.wrap x = x := IntWalk.u64_in _ (by omega)
theorem wu8 {x : Int} (h : 0 ≤ x ∧ x < 256) : IntKind.u8.wrap x = x := by simp [IntKind.wrap, IntKind.bits, IntKind.signed]; omega
theorem wu16 {x : Int} (h : 0 ≤ x ∧ x < 65536) : IntKind.u16.wrap x = x := by simp [IntKind.wrap, IntKind.bits, IntKind.signed]; omega
theorem wu32 {x : Int} (h : 0 ≤ x ∧ x < 4294967296) : IntKind.u32.wrap x = x := by simp [IntKind.wrap, IntKind.bits, IntKind.signed]; omega
theorem u8lt (b : UInt8) : (b.toNat : Int) < 256 := by have := b.toNat_lt; omega
theorem wbyte64 (b : UInt8) : IntKind.i64.wrap (b.toNat : Int) = b.toNat := wi64 ⟨by omega, by have := u8lt b; omega⟩
theorem wbyteu64 (b : UInt8) : IntKind.u64.wrap (b.toNat : Int) = b.toNat := wu64 ⟨by omega, by have := u8lt b; omega⟩
theorem wbyte8 (b : UInt8) : IntKind.u8.wrap (b.toNat : Int) = b.toNat := wu8 ⟨by omega, by have := u8lt b; omega⟩
end
attribute [go_sem] tmod_pos tdiv_pos fdiv_pow natOf_int wi64 wu64 wu8 wu16 wu32 wbyte64 wbyteu64 wbyte8
attribute [go_sem] findC sameC List.isEmpty_cons List.isEmpty_nil
attribute [go_sem] boxedT tabC_raw opv_tmp opv_const opv_global opv_func repC ev builtinC aggEq binC unC binInt shiftC strC ofV_int ofV_bool ofV_nilS ofV_nilP ofV_string upd_get upd_none frOf_get srcC readC loadC partC writeC boundC boundsC boundsK appendZ fullC splice bytesC wantC putC fillC_nil fillC_int fillC_byte fillC_bool fillC_str fillC_nilS fillC_nilP fillC_nilF fillC_nilI fillC_lst fillC_view fillC_cview fillC_ptr fillC_iptr fillC_fn fillC_iface fillC_agg resC resAll resOne
attribute [go_sem high] fill_agg1 fill_agg2 fill_agg3 fill_agg4 fill_agg5
attribute [go_sem] idx_nil idx_cons boxesOf mvC flat flat1 flatO Op.operands Call.operands appendK_nilS appendK_lst appendK_view appendK_cview appendM_nilS appendM_lst appendM_view appendM_cview
attribute [go_sem] cellsC_int cellsC_byte cellsC_bool cellsC_str cellsC_nilS cellsC_nilP cellsC_nilF cellsC_nilI cellsC_lst cellsC_view cellsC_cview cellsC_ptr cellsC_iptr cellsC_fn cellsC_iface cellsC_imap cellsC_agg
attribute [go_sem] Option.bind_some Option.map_some Option.bind_none Option.map_none Option.getD_some Option.getD_none List.getD_cons_zero List.getD_cons_succ List.getD_nil List.map_cons List.map_nil List.toList_toArray
attribute [go_sem] List.cons_append List.nil_append List.length_cons List.length_nil List.getElem?_cons_zero List.getElem?_cons_succ
end Go.Sy
end
section
namespace Go.Sy
open Go.RowKit (Below)
def PC (P : Program) (fr : Bool) (f : FuncId) (args : List CV) (c : CV) : Prop := ACall P f args [] fun c1 B1 => fz true fr B1 6 c1 = some c
section
variable {P : Program} {N : Nat} {I : Nat → Nat → Prop} {μ : List (List Place)} {B : List Box} {w : World}
theorem omap_one {nz fr : Bool} {k : Nat} {c c' : CV} (h : fz nz fr B k c = some c') : omap (fz nz fr B k) [c] = some [c'] := by simp [omap, h]
theorem acall_fresh {f : FuncId} {args args' : List CV} {c' : CV} {nz : Bool} (hz : omap (fz nz false B 6) args = some args') (h : PC P true f args' c') : ACall P f args B fun c B' => c = c' ∧ B' = B := by
  refine ⟨h.1, fun N I μ w vs hB hv => ?_⟩
  have hv' := fz_rel (J := fun b _ => b < w.heap.size) hB (fun _ b j h => hB.imm b j h) (fun β ps p _ h1 h2 => (hB.places β ps p h1 h2).2.2.lt) 6 false args vs args' hv hz
  refine (h.2 w.heap.size (fun b _ => b < w.heap.size) [] w vs (BRel.none_ w _ (fun _ _ h => h) (hB.tabs.mono hB.imm)) hv').mono fun e w' ⟨c, v, B1, J1, μ1, he, hQ, hs⟩ => ?_
  have hv2 := fz_rel (J := fun b _ => I b 0 ∨ (w.heap.size ≤ b ∧ b < w'.heap.size)) hs.box (fun h => by cases h) (fun β ps p _ h1 h2 => .inr ⟨(hs.box.places β ps p h1 h2).1, (hs.box.places β ps p h1 h2).2.2.lt⟩) 6 false [c] [v] [c'] hs.val (omap_one hQ)
  obtain ⟨g1, g2, g3⟩ := hB.behind (I2 := fun b j => I b j ∨ (w.heap.size ≤ b ∧ b < w'.heap.size)) hs.below (fun _ _ h => .inl h) (fun _ _ h => h)
  have hv3 := fz_rel (J := fun b j => I b j ∨ (w.heap.size ≤ b ∧ b < w'.heap.size)) hs.box (fun h => by cases h) (fun β ps p _ h1 h2 => .inr ⟨(hs.box.places β ps p h1 h2).1, (hs.box.places β ps p h1 h2).2.2.lt⟩) 6 false [c] [v] [c'] hs.val (omap_one hQ)
  exact ⟨c', v, B, _, μ, he, ⟨rfl, rfl⟩, hv3.ext ⟨fun _ _ h => h, fun _ _ _ => rfl, fun _ _ h => h, fun _ h => h, fun _ _ h => by simp at h, fun _ _ _ _ h => h⟩, g1, g2, g3⟩
theorem rel_free {nz fr : Bool} : ∀ (k : Nat) (one : Bool) (cs : List CV) (vs : List Value) (cs' : List CV), R I μ w one cs vs → omap (fz nz fr [] k) cs = some cs' → R I [] w one cs' vs := by
  intro k
  induction k with
  | zero =>
    intro one cs vs cs' h hc
    cases cs with
    | nil => simp [omap] at hc; subst hc; rw [R.nil_iff] at h; subst h; exact .nil _
    | cons c cs => simp [omap, fz] at hc
  | succ k ih =>
    intro one cs
    induction cs with
    | nil => intro vs cs' h hc; simp [omap] at hc; subst hc; rw [R.nil_iff] at h; subst h; exact .nil _
    | cons c cs ihl =>
      intro vs cs' h hc
      obtain ⟨v, vs, rfl, h1, h2, h3⟩ := R.cons_iff.1 h
      obtain ⟨c', l', rfl, hf, hl⟩ := omap_cons hc
      refine .cons ?_ h2 (ihl vs l' h3 hl)
      clear ihl h hc h3 hl
      cases h1 with
      | bool b _ => simp [fz] at hf; subst hf; exact .bool _ (.nil _)
      | int k n _ => simp [fz] at hf; subst hf; exact .int _ _ (.nil _)
      | str s _ => simp [fz] at hf; subst hf; exact .str _ (.nil _)
      | nilP _ => simp [fz] at hf; subst hf; exact .nilP (.nil _)
      | nilS _ =>
        simp [fz] at hf; subst hf
        cases nz
        · exact .nilS (.nil _)
        · exact .lstE _ _ (.nil _)
      | nilF _ => simp [fz] at hf; subst hf; exact .nilF (.nil _)
      | nilI _ => simp [fz] at hf; subst hf; exact .nilI (.nil _)
      | raw v h _ => simp [fz] at hf; subst hf; exact .raw v h (.nil _)
      | agg h _ => simp only [fz, Option.map_eq_some_iff] at hf; obtain ⟨cs, hf, rfl⟩ := hf; exact .agg (ih _ _ _ _ h hf) (.nil _)
      | tup h _ => simp only [fz, Option.map_eq_some_iff] at hf; obtain ⟨cs, hf, rfl⟩ := hf; exact .tup (ih _ _ _ _ h hf) (.nil _)
      | lst n full b o cap h hm hn hfu _ =>
        simp only [fz] at hf
        split at hf
        · cases hf
        · rename_i hfe
          simp only [Option.map_eq_some_iff] at hf; obtain ⟨cs, hf, rfl⟩ := hf
          exact .lst n _ b o cap (ih _ _ _ _ h hf) hm hn (fun hx => hfu (by simp at hx; exact hx.1)) (.nil _)
      | lstE full A _ => simp [fz, omap] at hf; subst hf; exact .lstE _ A (.nil _)
      | view β off n sz full ps p cap hb hp hlo hk hn hfu hr _ => simp [fz] at hf
      | viewE β off sz full A hb _ => simp [fz] at hf
      | cview β off n cap sz ps p hb hp hlo hk hn hpl _ => simp [fz] at hf
      | bview => simp [fz] at hf
      | cviewE β off sz A hb _ => simp [fz] at hf
      | ptr β off ps p hb hp hlo _ => simp [fz] at hf
      | iptr b o h hm _ =>
        simp only [fz] at hf
        split at hf
        · cases hf
        · rename_i hfe
          simp only [Option.map_eq_some_iff] at hf; obtain ⟨cs, hf, rfl⟩ := hf
          exact .iptr b o (ih _ _ _ _ h hf) hm (.nil _)
      | fn f h h' _ =>
        simp only [fz] at hf
        split at hf
        · rename_i x y e1 e2
          simp at hf; subst hf
          exact .fn f (ih _ _ _ _ h e1) (ih _ _ _ _ h' e2) (.nil _)
        · cases hf
      | iface t h _ =>
        simp only [fz, Option.map_eq_some_iff] at hf
        obtain ⟨v', hf, rfl⟩ := hf
        exact .iface t (ih _ _ _ _ h (by simp [omap, hf])) (.nil _)
      | bptr => simp [fz] at hf
      | imap r es clock h h' hm hi _ =>
        simp only [fz] at hf
        split at hf
        · cases hf
        · rename_i hfe
          split at hf
          · rename_i x y e1 e2
            simp at hf; subst hf
            exact .imap r es clock (ih _ _ _ _ h e1) (ih _ _ _ _ h' e2) hm hi (.nil _)
          · cases hf
theorem acall_imm {f : FuncId} {args args' : List CV} {c' : CV} {nz fr : Bool} (hz : omap (fz nz false [] 6) args = some args') (h : PC P fr f args' c') : ACall P f args B fun c B' => c = c' ∧ B' = B := by
  refine ⟨h.1, fun N I μ w vs hB hv => ?_⟩
  have hv' := rel_free 6 false args vs args' hv hz
  refine (h.2 w.heap.size I [] w vs (BRel.none_ w _ hB.imm hB.tabs) hv').mono fun e w' ⟨c, v, B1, J1, μ1, he, hQ, hs⟩ => ?_
  have hJ : ∀ b j, J1 b j → I b j ∨ (w.heap.size ≤ b ∧ b < w'.heap.size) := fun b j hj => by
    rcases hs.ext.immN b j hj with h1 | h1 | ⟨β, ps, p, h1, _⟩
    · exact .inl h1
    · exact .inr ⟨h1, hs.box.imm _ _ hj⟩
    · simp at h1
  have hv2 := fz_rel (J := fun b j => I b j ∨ (w.heap.size ≤ b ∧ b < w'.heap.size)) hs.box (fun _ => hJ) (fun β ps p _ h1 h2 => .inr ⟨(hs.box.places β ps p h1 h2).1, (hs.box.places β ps p h1 h2).2.2.lt⟩) 6 false [c] [v] [c'] hs.val (omap_one hQ)
  obtain ⟨g1, g2, g3⟩ := hB.behind (I2 := fun b j => I b j ∨ (w.heap.size ≤ b ∧ b < w'.heap.size)) hs.below (fun _ _ h => .inl h) (fun _ _ h => h)
  exact ⟨c', v, B, _, μ, he, ⟨rfl, rfl⟩, hv2.ext ⟨fun _ _ h => h, fun _ _ _ => rfl, fun _ _ h => h, fun _ h => h, fun _ _ h => by simp at h, fun _ _ _ _ h => h⟩, g1, g2, g3⟩
theorem o_call_eq {n : Nat} {ops : Array Oper} {fr : Fr} {q : Fr → List Box → Prop} {rest : List Oper} {dst : Option Tmp} {f : Operand} {args : Array Operand} {ts : Array TypeId} {ty : TypeId} {pos : String} {after : Array Edge} {g : FuncId} {first caps all : List CV} {c : CV} {B' : List Box}
    (hd : dstOk n ⟨dst, .call { callee := .value f, args, argTypes := ts }, ty, pos, after, none⟩ = true) (hf : Is (opv fr f) (.fn (.func g) first caps)) (ha : Is (first ++ args.toList.map (opv fr) ++ caps) all)
    (hc : ACall P g all B fun c' B'' => c' = c ∧ B'' = B') (h : WPo P n ops q rest (upd fr dst c) B') : WPo P n ops q (⟨dst, .call { callee := .value f, args, argTypes := ts }, ty, pos, after, none⟩ :: rest) fr B :=
  o_call hd hf ha (hc.mono fun _ _ ⟨h1, h2⟩ => by rw [h1, h2]; exact h)
def lb (l : List UInt8) : CV := .lst l.length (l.map byteC) false
theorem fz_int {nz fr : Bool} {k : Nat} {κ : IntKind} {n : Int} : fz nz fr B (k + 1) (.int κ n) = some (.int κ n) := rfl
theorem fz_byte {nz fr : Bool} {k : Nat} {b : UInt8} : fz nz fr B (k + 1) (byteC b) = some (byteC b) := rfl
theorem fz_bool {nz fr : Bool} {k : Nat} {n : Bool} : fz nz fr B (k + 1) (.bool n) = some (.bool n) := rfl
theorem fz_str {nz fr : Bool} {k : Nat} {n : List UInt8} : fz nz fr B (k + 1) (.str n) = some (.str n) := rfl
theorem fz_nilP {nz fr : Bool} {k : Nat} : fz nz fr B (k + 1) .nilP = some .nilP := rfl
theorem fz_nilF {nz fr : Bool} {k : Nat} : fz nz fr B (k + 1) .nilF = some .nilF := rfl
theorem fz_nilI {nz fr : Bool} {k : Nat} : fz nz fr B (k + 1) .nilI = some .nilI := rfl
theorem fz_raw {nz fr : Bool} {k : Nat} {v : Value} : fz nz fr B (k + 1) (.raw v) = some (.raw v) := rfl
theorem fz_nilS {nz fr : Bool} {k : Nat} : fz nz fr B (k + 1) .nilS = some (if nz then .lst 0 [] false else .nilS) := rfl
theorem fz_agg {nz fr : Bool} {k : Nat} {cs : List CV} : fz nz fr B (k + 1) (.agg cs) = (omap (fz nz fr B k) cs).map .agg := rfl
theorem fz_tup {nz fr : Bool} {k : Nat} {cs : List CV} : fz nz fr B (k + 1) (.tup cs) = (omap (fz nz fr B k) cs).map .tup := rfl
theorem fz_lst {nz fr : Bool} {k n : Nat} {full : Bool} {cs : List CV} : fz nz fr B (k + 1) (.lst n cs full) = if fr && !cs.isEmpty then none else (omap (fz nz fr B k) cs).map fun cs => .lst n cs (full && !nz) := rfl
theorem fz_iptr {nz fr : Bool} {k : Nat} {cs : List CV} : fz nz fr B (k + 1) (.iptr cs) = if fr && !cs.isEmpty then none else (omap (fz nz fr B k) cs).map .iptr := rfl
theorem fz_view {nz fr : Bool} {k b off n sz : Nat} {full : Bool} : fz nz fr B (k + 1) (.view b off n sz full) = match B[b]? with | some box => (omap (fz nz fr B k) ((box.cells.drop off).take (n * sz))).map fun cs => .lst n cs (full && !nz) | none => none := rfl
theorem fz_cview {nz fr : Bool} {k b off n cap sz : Nat} : fz nz fr B (k + 1) (.cview b off n cap sz) = match B[b]? with | some box => (omap (fz nz fr B k) ((box.cells.drop off).take (n * sz))).map fun cs => .lst n cs false | none => none := rfl
theorem fz_ptr {nz fr : Bool} {k b off : Nat} : fz nz fr B (k + 1) (.ptr b off) = match B[b]? with | some box => if box.multi then none else (omap (fz nz fr B k) (box.cells.drop off)).map .iptr | none => none := rfl
theorem fz_iface {nz fr : Bool} {k : Nat} {t : TypeId} {v : CV} : fz nz fr B (k + 1) (.iface t v) = (fz nz fr B k v).map (.iface t) := rfl
theorem fz_imap {nz fr : Bool} {k : Nat} {x y : List CV} : fz nz fr B (k + 1) (.imap x y) = if fr then none else match omap (fz nz fr B k) x, omap (fz nz fr B k) y with | some x, some y => some (.imap x y) | _, _ => none := rfl
theorem omap_nil {f : CV → Option CV} : omap f [] = some [] := rfl
theorem omap_two {f : CV → Option CV} {c : CV} {l : List CV} : omap f (c :: l) = (f c).bind fun c' => (omap f l).map (c' :: ·) := by
  rw [omap]; cases f c <;> cases omap f l <;> rfl
theorem omap_map {α : Type} {f : CV → Option CV} {g h : α → CV} (l : List α) (hf : ∀ x ∈ l, f (g x) = some (h x)) : omap f (l.map g) = some (l.map h) := by
  induction l with
  | nil => rfl
  | cons a l ih => simp [omap, hf a (by simp), ih fun x hx => hf x (by simp [hx])]
theorem omap_bytes {nz fr : Bool} {k : Nat} (l : List UInt8) : omap (fz nz fr B (k + 1)) (l.map byteC) = some (l.map byteC) := omap_map l fun _ _ => rfl
theorem omap_ints {nz fr : Bool} {k : Nat} {κ : IntKind} (l : List Int) : omap (fz nz fr B (k + 1)) (l.map (CV.int κ)) = some (l.map (CV.int κ)) := omap_map l fun _ _ => rfl
theorem fz_lb {nz : Bool} {k : Nat} (l : List UInt8) : fz nz false B (k + 2) (lb l) = some (lb l) := by rw [lb, fz_lst]; simp [omap_bytes]
theorem scal_bytes (l : List UInt8) : (toVL (l.map byteC)).isSome = true := by
  induction l with
  | nil => simp [toVL]
  | cons a l ih => rw [List.map_cons, toVL_cons, ih]; simp [byteC, toV]
theorem bytes_take (l : List UInt8) (k : Nat) : (l.map byteC).take k = (l.take k).map byteC := List.map_take.symm
theorem bytes_drop (l : List UInt8) (k : Nat) : (l.map byteC).drop k = (l.drop k).map byteC := List.map_drop.symm
theorem bytes_append (l l' : List UInt8) : l.map byteC ++ l'.map byteC = (l ++ l').map byteC := List.map_append.symm
theorem byte_of (n : Nat) : byteC (UInt8.ofNat n) = .int .u8 (IntKind.u8.wrap n) := by
  simp [byteC, IntKind.wrap_u8]
theorem byte_eq {a b : UInt8} : ((a.toNat : Int) = (b.toNat : Int)) ↔ a = b := by
  constructor
  · intro h; exact UInt8.toNat_inj.1 (by omega)
  · rintro rfl; rfl
theorem eqV_bytes_aux {t e : TypeId} {d : Nat} (he : P.underlying e = some (.int .u8)) (ha : aggT P e = false) (is : List Nat) (l1 l2 : List UInt8) (h1 : ∀ i ∈ is, i < l1.length) (h2 : ∀ i ∈ is, i < l2.length) :
    is.foldr (fun i acc => acc.bind fun r => (partC P e (l1.map byteC) (i * 1)).bind fun p => (partC P e (l2.map byteC) (i * 1)).bind fun q => (eqV P (d + 1) e p q).map (· && r)) (some true) = some (is.all fun i => l1[i]? == l2[i]?) := by
  induction is with
  | nil => rfl
  | cons i is ih =>
    have g1 := h1 i (by simp)
    have g2 := h2 i (by simp)
    rw [List.foldr_cons, ih (fun j hj => h1 j (by simp [hj])) (fun j hj => h2 j (by simp [hj]))]
    simp only [Option.bind_some, partC, he, Option.isNone_some, Bool.false_eq_true, if_false, ha, Nat.mul_one, List.getElem?_map, List.getElem?_eq_getElem g1, List.getElem?_eq_getElem g2, Option.map_some, byteC, eqV, if_true, List.all_cons]
    have e : ((l1[i].toNat : Int) == (l2[i].toNat : Int)) = (some l1[i] == some l2[i]) := by rw [Bool.eq_iff_iff]; simp [byte_eq]
    rw [e]
theorem eqV_bytes {t e : TypeId} {n d : Nat} (hu : P.underlying t = some (.array n e)) (he : P.underlying e = some (.int .u8)) (hs : szOf P e = some 1) (ha : aggT P e = false) (l1 l2 : List UInt8) (h1 : l1.length = n) (h2 : l2.length = n) :
    eqV P (d + 2) t (.agg (l1.map byteC)) (.agg (l2.map byteC)) = some (l1 == l2) := by
  unfold eqV; simp only [hu, hs, Option.bind_some]
  rw [eqV_bytes_aux (t := t) he ha _ _ _ (fun i hi => by simpa [h1] using hi) (fun i hi => by simpa [h2] using hi)]
  congr 1
  rw [Bool.eq_iff_iff, List.all_eq_true, beq_iff_eq]
  constructor
  · intro h
    apply List.ext_getElem?
    intro i
    by_cases hi : i < n
    · simpa using h i (by simpa using hi)
    · rw [List.getElem?_eq_none (by omega), List.getElem?_eq_none (by omega)]
  · rintro rfl i _; simp
theorem eqV_int {t : TypeId} {q : IntKind} (hu : P.underlying t = some (.int q)) (d : Nat) (k : IntKind) (a b : Int) : eqV P (d + 1) t (.int k a) (.int k b) = some (a == b) := by
  unfold eqV; simp [hu]
theorem eqV_bool {t : TypeId} (hu : P.underlying t = some .bool) (d : Nat) (a b : Bool) : eqV P (d + 1) t (.bool a) (.bool b) = some (a == b) := by
  unfold eqV; simp [hu]
def eqF (P : Program) (d : Nat) (xs ys : List CV) : List Field → Option Bool
  | [] => some true
  | f :: fl => if f.name = "_" then none else (eqF P d xs ys fl).bind fun r => (partC P f.type xs f.offset).bind fun p => (partC P f.type ys f.offset).bind fun q => (eqV P d f.type p q).map (· && r)
theorem eqV_struct {t : TypeId} {fs : Array Field} (hu : P.underlying t = some (.struct fs)) (hs : P.stoodInHeld t = false) (d : Nat) (xs ys : List CV) : eqV P (d + 1) t (.agg xs) (.agg ys) = eqF P d xs ys fs.toList := by
  unfold eqV; simp only [hu, hs, Bool.false_eq_true, if_false]
  generalize fs.toList = fl
  induction fl with
  | nil => rfl
  | cons f fl ih => rw [List.foldr_cons, ih, eqF]
theorem bytesC_map (l : List UInt8) : bytesC (l.map byteC) = some l := by
  induction l with
  | nil => rfl
  | cons a l ih => rw [List.map_cons]; simp only [byteC, bytesC] at ih ⊢; rw [ih]; simp
end
attribute [go_sem] eqF bytesC_map
attribute [go_sem] fz_lb fz_int fz_byte fz_bool fz_str fz_nilP fz_nilF fz_nilI fz_raw fz_nilS fz_agg fz_tup fz_lst fz_iptr fz_view fz_cview fz_ptr fz_iface fz_imap omap_nil omap_two omap_bytes omap_ints
end Go.Sy
end
section
namespace Go.Sy
open Go.RowKit (Below)
section
variable {P : Program} {n : Nat}
theorem StepC_mono {o : Oper} {fr : Fr} {B : List Box} {K K' : CV → List Box → Prop} (hk : ∀ c B', K c B' → K' c B') (h : StepC P o fr B K) : StepC P o fr B K' := by
  unfold StepC at h ⊢
  revert h
  split
  · split
    · rintro (h | h)
      · exact .inl (h.mono hk)
      · exact .inr (h.mono hk)
    · intro h; exact h
  · rintro (h | h)
    · left
      revert h
      split
      · intro h; exact hk _ _ h
      · intro h; exact h
    · right
      unfold StepG at h ⊢
      revert h
      split
      · split
        · rintro ⟨e, esz, zs, m, news, n, olds, a1, a2, a3, a4, a5, a6, a7, a8, a9, a10, a11, a12, a13⟩
          exact ⟨e, esz, zs, m, news, n, olds, a1, a2, a3, a4, a5, a6, a7, a8, a9, a10, a11, a12, fun cap hc => hk _ _ (a13 cap hc)⟩
        · intro h; exact h
      · rintro ⟨a1, a2, a3, a4, a5, a6⟩; exact ⟨a1, a2, a3, a4, hk _ _ a5, hk _ _ a6⟩
      · intro h; exact h
theorem WPo_mono {ops : Array Oper} {Q Q' : Fr → List Box → Prop} (hq : ∀ fr B, Q fr B → Q' fr B) : ∀ (l : List Oper) (fr : Fr) (B : List Box), WPo P n ops Q l fr B → WPo P n ops Q' l fr B
  | [], fr, B, h => hq _ _ h
  | o :: l, fr, B, h => by
    unfold WPo at h ⊢
    refine ⟨h.1, ?_⟩
    have h2 := h.2
    split at h2
    · exact ⟨fun ht => StepC_mono (fun c B' hc => WPo_mono hq l _ _ hc) (h2.1 ht), fun ht => WPo_mono hq l _ _ (h2.2 ht)⟩
    · exact h2
theorem WPd_mono {ops : Array Oper} {bs hs : List Nat} {base : Nat} {J : List Box → Prop} {Q Q' : Fr → List Box → Prop} (hq : ∀ fr B, Q fr B → Q' fr B) : ∀ (l : List Oper) (k : Nat) (fr : Fr) (B : List Box), WPd P n ops bs base hs J Q k l fr B → WPd P n ops bs base hs J Q' k l fr B
  | [], k, fr, B, h => hq _ _ h
  | o :: l, k, fr, B, h => by
    unfold WPd at h ⊢
    refine ⟨h.1, ?_⟩
    have h2 := h.2
    split at h2
    · refine ⟨fun ht => ?_, fun ht => WPd_mono hq l _ _ _ (h2.2 ht)⟩
      have h3 := h2.1 ht
      split
      · rename_i hc
        rw [if_pos hc] at h3
        rcases h3 with ⟨j, c, x, c', a1, a2, a3, a4, a5⟩ | ⟨c, a1, a2⟩
        · exact .inl ⟨j, c, x, c', a1, a2, a3, a4, WPd_mono hq l _ _ _ a5⟩
        · exact .inr ⟨c, a1, WPd_mono hq l _ _ _ a2⟩
      · rename_i hc
        rw [if_neg hc] at h3
        obtain ⟨c, B', h3, h4, h5⟩ := h3
        exact ⟨c, B', h3, h4, WPd_mono hq l _ _ _ h5⟩
    · exact h2
theorem WPq_mono {ops : Array Oper} {bs hs : List Nat} {base : Nat} {J : List Box → Prop} {Q Q' : Fr → List Box → Prop} (hq : ∀ fr B, Q fr B → Q' fr B) : ∀ (l : List Oper) (k : Nat) (fr : Fr) (B : List Box), WPq P n ops bs base hs J Q k l fr B → WPq P n ops bs base hs J Q' k l fr B
  | [], k, fr, B, h => by unfold WPq at h; exact h.elim
  | o :: l, k, fr, B, h => by
    unfold WPq at h ⊢
    refine ⟨h.1, ?_⟩
    have h2 := h.2
    split at h2
    · refine ⟨fun ht => ?_, fun ht => WPq_mono hq l _ _ _ (h2.2 ht)⟩
      have h3 := h2.1 ht
      split
      · rename_i hc
        rw [if_pos hc] at h3
        rcases h3 with ⟨j, c, x, c', a1, a2, a3, a4, a5⟩ | ⟨c, a1, a2⟩
        · exact .inl ⟨j, c, x, c', a1, a2, a3, a4, WPq_mono hq l _ _ _ a5⟩
        · exact .inr ⟨c, a1, WPq_mono hq l _ _ _ a2⟩
      · rename_i hc
        rw [if_neg hc] at h3
        rcases h3 with ⟨c, B', h3, h4, h5⟩ | ⟨Q0, a1, a2, a3, a4, a5, a6⟩
        · exact .inl ⟨c, B', h3, h4, WPq_mono hq l _ _ _ h5⟩
        · exact .inr ⟨Q0, a1, a2, a3, a4, a5, fun c B' hQ => ⟨(a6 c B' hQ).1, (a6 c B' hQ).2.1, WPd_mono hq l _ _ _ (a6 c B' hQ).2.2⟩⟩
    · exact h2
theorem WPc_mono : ∀ (c : Code) {Q Q' : Exit → Fr → List Box → Prop} (_ : ∀ e fr B, Q e fr B → Q' e fr B) (fr : Fr) (B : List Box), WPc P n c Q fr B → WPc P n c Q' fr B
  | .skip, _, _, hq, _, _, h => hq _ _ _ h
  | .region id ops draw, _, _, hq, fr, B, h => by
    unfold WPc at h ⊢
    split
    · rename_i hd; rw [if_pos hd] at h; obtain ⟨ks, H, J, hl, hJ, h⟩ := h; exact ⟨ks, H, J, hl, hJ, h.imp (WPd_mono (fun _ _ => hq _ _ _) _ _ _ _) (WPq_mono (fun _ _ => hq _ _ _) _ _ _ _)⟩
    · rename_i hd; rw [if_neg hd] at h; exact WPo_mono (fun _ _ => hq _ _ _) _ _ _ h
  | .seq a b, Q, Q', hq, fr, B, h => by
    unfold WPc at h ⊢
    refine WPc_mono a (fun e fr B hh => ?_) _ _ h
    cases e with
    | normal => exact WPc_mono b hq _ _ hh
    | exit id => exact hq _ _ _ hh
    | ret => exact hq _ _ _ hh
    | _ => exact hq _ _ _ hh
  | .cond c a b, Q, Q', hq, fr, B, h => by
    unfold WPc at h ⊢
    revert h
    split
    · intro h; exact ⟨fun x => WPc_mono a hq _ _ (h.1 x), fun x => WPc_mono b hq _ _ (h.2 x)⟩
    · intro h; exact h
  | .block id c, Q, Q', hq, fr, B, h => by
    unfold WPc at h ⊢
    refine WPc_mono c (fun e fr B hh => ?_) _ _ h
    cases e with
    | exit i =>
      simp only [inBlockC] at hh ⊢
      split
      · rename_i hi; rw [if_pos hi] at hh; exact hq _ _ _ hh
      · rename_i hi; rw [if_neg hi] at hh; exact hq _ _ _ hh
    | _ => exact hq _ _ _ hh
  | .loop c, Q, Q', hq, fr, B, h => by
    unfold WPc at h ⊢
    obtain ⟨Inv, m, h0, h1⟩ := h
    refine ⟨Inv, m, h0, fun fr B hi => WPc_mono c (fun e fr' B' hh => ?_) _ _ (h1 fr B hi)⟩
    cases e with
    | normal => exact hh
    | _ => exact hq _ _ _ hh
  | .exit id, _, _, hq, _, _, h => hq _ _ _ h
  | .ret, _, _, hq, _, _, h => hq _ _ _ h
  | .rangeFunc g ps assign body, Q, Q', hq, fr, B, h => by
    unfold WPc at h ⊢
    obtain ⟨gf, first, caps, Pre, Y, h1, h2, h3, h4, h5, h6⟩ := h
    exact ⟨gf, first, caps, Pre, Y, h1, h2, h3, h4, h5, fun l => (h6 l).mono fun _ _ hh => hq _ _ _ hh⟩
  | .scope .., _, _, _, _, _, h => by simp [WPc] at h
  | .goto .., _, _, _, _, _, h => by simp [WPc] at h
def T (P : Program) (n : Nat) (c : Code) (Q : Exit → Fr → List Box → Prop) : Nat → Fr → List Box → Prop
  | 0, _, _ => False
  | k + 1, fr, B => WPc P n c (thenC (T P n c Q k) Q) fr B
theorem w_round {c : Code} {Q : Exit → Fr → List Box → Prop} {k : Nat} {fr : Fr} {B : List Box} (h : WPc P n c (thenC (T P n c Q k) Q) fr B) : T P n c Q (k + 1) fr B := h
end
section
variable {α β : Type}
theorem yA {a b : List α} : (a ++ b).length = a.length + b.length := List.length_append
theorem yB {f : α → β} {l : List α} : (l.map f).length = l.length := List.length_map _
theorem yC {a : α} {l : List α} : (a :: l).length = l.length + 1 := List.length_cons
theorem yD : ([] : List α).length = 0 := List.length_nil
theorem yE {l : List α} {i : Nat} {a : α} : (l.set i a).length = l.length := List.length_set
theorem yF (l : List UInt8) (k : Nat) : (l.map byteC).take k = (l.take k).map byteC := bytes_take l k
theorem yG (l : List UInt8) (k : Nat) : (l.map byteC).drop k = (l.drop k).map byteC := bytes_drop l k
theorem yH (l l' : List UInt8) : l.map byteC ++ l'.map byteC = (l ++ l').map byteC := bytes_append l l'
theorem xA {p : Prop} [Decidable p] : (decide p = true) = p := decide_eq_true_eq
theorem xB {p : Prop} [Decidable p] : (decide p = false) ↔ ¬p := decide_eq_false_iff_not
theorem xC {b : Bool} : (¬b = true) = (b = false) := Bool.not_eq_true b
theorem xD {b : Bool} : (¬b = false) = (b = true) := Bool.not_eq_false b
theorem xE {a b : Bool} : ((!a) = b) ↔ (a = !b) := Bool.not_eq_eq_eq_not
theorem xF : (!true) = false := Bool.not_true
theorem xG : (!false) = true := Bool.not_false
theorem xH : (false = true) = False := Bool.false_eq_true
theorem xI [BEq α] [LawfulBEq α] {a b : α} : (a == b) = true ↔ a = b := beq_iff_eq
theorem xJ [BEq α] [LawfulBEq α] {a b : α} : (a == b) = false ↔ a ≠ b := beq_eq_false_iff_ne
theorem xK [BEq α] [LawfulBEq α] {a b : α} : (a != b) = true ↔ a ≠ b := bne_iff_ne
theorem xL [BEq α] [LawfulBEq α] {a b : α} : (a != b) = false ↔ a = b := bne_eq_false_iff_eq
theorem xM (a b : Bool) : ((a && b) = true) = (a = true ∧ b = true) := Bool.and_eq_true a b
theorem xN (a b : Bool) : ((a || b) = true) = (a = true ∨ b = true) := Bool.or_eq_true a b
theorem xO {a b : Bool} : (a || b) = false ↔ a = false ∧ b = false := Bool.or_eq_false_iff
theorem xP {a b : α} : (a ≠ b) = ¬a = b := ne_eq a b
theorem xQ : (¬True) = False := not_true_eq_false
theorem xR : (¬False) = True := not_false_eq_true
theorem yZ : (∀ a b : List α, (a ++ b).length = a.length + b.length) ∧ (∀ (a : α) (l : List α), (a :: l).length = l.length + 1) ∧ (([] : List α).length = 0) ∧ ∀ (l : List α) (i : Nat) (a : α), (l.set i a).length = l.length :=
  ⟨fun _ _ => yA, fun _ _ => yC, yD, fun _ _ _ => yE⟩
theorem yY : (∀ (l : List UInt8) (k : Nat), (l.map byteC).take k = (l.take k).map byteC) ∧ (∀ (l : List UInt8) (k : Nat), (l.map byteC).drop k = (l.drop k).map byteC) ∧ ∀ l l' : List UInt8, l.map byteC ++ l'.map byteC = (l ++ l').map byteC := ⟨yF, yG, yH⟩
theorem xZ : (∀ (p : Prop) [Decidable p], (decide p = true) = p) ∧ (∀ (p : Prop) [Decidable p], (decide p = false) ↔ ¬p) ∧ (∀ b : Bool, (¬b = true) = (b = false)) ∧ (∀ b : Bool, (¬b = false) = (b = true)) ∧ (∀ a b : Bool, ((!a) = b) ↔ (a = !b)) ∧ ((!true) = false) ∧ ((!false) = true) ∧ ((false = true) = False) ∧
    (∀ a b : Bool, ((a && b) = true) = (a = true ∧ b = true)) ∧ (∀ a b : Bool, ((a || b) = true) = (a = true ∨ b = true)) ∧ (∀ a b : Bool, (a || b) = false ↔ a = false ∧ b = false) ∧ ((¬True) = False) ∧ ((¬False) = True) :=
  ⟨fun _ _ => xA, fun _ _ => xB, fun _ => xC, fun _ => xD, fun _ _ => xE, xF, xG, xH, xM, xN, fun _ _ => xO, xQ, xR⟩
theorem xY [BEq α] [LawfulBEq α] : (∀ a b : α, (a == b) = true ↔ a = b) ∧ (∀ a b : α, (a == b) = false ↔ a ≠ b) ∧ (∀ a b : α, (a != b) = true ↔ a ≠ b) ∧ ∀ a b : α, (a != b) = false ↔ a = b := ⟨fun _ _ => xI, fun _ _ => xJ, fun _ _ => xK, fun _ _ => xL⟩
end
def jA := @w_seq
def jB := @w_region
def jC := @w_block
def jD := @w_skip
def jE := @w_exit
def jF := @w_ret
def jG := @w_then
def jH := @w_then_exit
def jI := @w_then_ret
def jJ := @w_in
def jK := @w_in_here
def jL := @w_in_ret
def jM := @w_round
def jN := @o_nil
def jO := @d_nil
def jP := @w_in_exit
def jQ := @w_draw
def jR := @o_op
def jS := @d_op
def jU := @w_cond
def jV := @w_end
def jW := @w_return
def jX := @o_guard
def jY := @d_guard
def kA := @o_call_eq
def kB := @d_call
theorem kE {α : Type} {x y : α} (h : Is x y := by first | ((try simp (disch := first | omega | (simp only [yZ, yB] <;> omega) | fail) [go_sem, yY, *, if_pos, if_neg, -List.map_take, -List.map_drop, -List.map_append, -List.map_reverse]); exact rfl) | fail) : Is x y := h
theorem kD {p : Prop} (h : p := by (first | omega | assumption | exact rfl | ((simp (disch := first | omega | (simp only [yZ, yB] <;> omega) | fail) [go_sem, yY, *, -List.map_take, -List.map_drop, -List.map_append, -List.map_reverse]) <;> (first | done | omega | exact rfl)) | fail)) : p := h
theorem kT {p : Prop} (h : p := by (first | exact .inl rfl | (refine .inr ⟨rfl, ?_, ?_⟩; (focus (repeat (first | exact trivial | refine ⟨.inl rfl, ?_⟩ | refine ⟨.inr rfl, ?_⟩))); (first | exact trivial | exact rfl)) | fail)) : p := h
theorem kX {p : Prop} (h : p := by (first | (exfalso; omega) | (with_reducible (exact absurd hc (by assumption))) | (with_reducible (exact absurd (by assumption) hc)) | fail)) : p := h
end Go.Sy
end
section
namespace Go.Sy
open Go.RowKit (Below)
section
variable {P : Program} {n : Nat} {B : List Box}
theorem o_appendG {n : Nat} {ops : Array Oper} {fr : Fr} {q : Fr → List Box → Prop} {rest : List Oper} {dst : Option Tmp} {y z : Operand} {t tx : TypeId} {ty : TypeId} {pos : String} {after : Array Edge} {e esz m k : Nat} {zs news olds : List CV} {s x : CV}
    (hd : dstOk n ⟨dst, .call { callee := .builtin .append, args := #[y, z], argTypes := #[t, tx] }, ty, pos, after, none⟩ = true) (hs : Is (opv fr y) s) (hx : Is (opv fr z) x)
    (he : elemT P t = some e) (hsz : szOf P e = some esz) (hzs : zerosOf P e = some zs) (hzl : zs.length = esz) (hz0 : esz ≠ 0) (hk : ∃ e', P.underlying tx = some (.slice e')) (hsrc : srcC B esz x = some (m, news)) (hns : ∀ l, x ≠ .str l) (hm : m ≠ 0)
    (hold : s = .nilS ∧ k = 0 ∧ olds = [] ∨ s = .lst k olds true ∧ olds.length = k * esz ∨ ∃ b off c0 box, s = .cview b off k c0 esz ∧ B[b]? = some box ∧ c0 < k + m ∧ olds = (box.cells.drop off).take (k * esz)) (hb1 : (k + m) * P.bytesOf e ≤ 140737488355328) (hb2 : k + m ≤ 140737488355328)
    (h : ∀ cap, k + m ≤ cap → WPo P n ops q rest (upd fr dst (.cview B.length 0 (k + m) cap esz)) (B ++ [{ cells := olds ++ news ++ repC zs (cap - (k + m)) }])) :
    WPo P n ops q (⟨dst, .call { callee := .builtin .append, args := #[y, z], argTypes := #[t, tx] }, ty, pos, after, none⟩ :: rest) fr B := by
  have hs : opv fr y = s := hs
  have hx : opv fr z = x := hx
  unfold WPo
  refine ⟨hd, fun _ => .inr ?_, fun h => by cases h⟩
  show StepG P _ fr B _
  unfold StepG
  simp only [List.map_cons, List.map_nil, hs, hx]
  exact ⟨e, esz, zs, m, news, k, olds, he, hsz, hzs, hzl, hz0, hk, hsrc, hns, hm, hold, hb1, hb2, h⟩
end
end Go.Sy
end
section
namespace Go.Sy
open Go.RowKit (Below)
section
variable {P : Program} {N : Nat} {I : Nat → Nat → Prop} {μ : List (List Place)} {B : List Box} {w : World}
theorem adopt_cview {N1 : Nat} {J1 : Nat → Nat → Prop} {μ1 : List (List Place)} {B1 : List Box} {w0 : World} {b off n cap sz : Nat} {box : Box} {v : Value} (hst : BRel N1 J1 μ1 B1 w) (hv : V J1 μ1 w (.cview b off n cap sz) v) (hbx : B1[b]? = some box) (hmu : box.multi = false) (hcap : 0 < cap)
    (hsc : (toVL ((box.cells.drop off).take (cap * sz))).isSome = true) (hN1 : N1 = w0.heap.size) (g1 : BRel N I μ B w) (g2 : Ext I μ w0 I μ w) (hB0 : BRel N I μ B w0) :
    ∃ μ', V I μ' w (.cview B.length 0 n cap sz) v ∧ BRel N I μ' (B ++ [{ cells := (box.cells.drop off).take (cap * sz) }]) w ∧ Ext I μ w0 I μ' w := by
  rcases hv.cview_inv with ⟨ps, p, rfl, h2, h3, h4, h5, h6, h7⟩ | ⟨A, rfl, _, rfl, _⟩
  · obtain ⟨c1, vs, e1, e2, e3, _⟩ := view_cells hst hbx h2 h3 h4 h5 (s := off) (e := cap * sz) (Nat.le_refl _) (Nat.le_refl _)
    have hpb : w0.heap.size ≤ p.b := by have := (hst.places b ps p h2 h3).1; omega
    have hlen : ((box.cells.drop off).take (cap * sz)).length = cap * sz := by rw [e1.len, e2]
    have hfr := (hst.places b ps p h2 h3).2.2
    have hlk := (hst.places b ps p h2 h3).2.1
    obtain ⟨k1, k2⟩ := g1.adopt g2 (b := p.b) (o := p.o + (off - p.lo)) (len := cap * sz) (by have := hB0.low; omega) hpb (fun β qs q hq hm => by
      have := (hB0.places β qs q hq hm).2.2.lt; omega) (fun j hj => by have := hB0.imm _ _ hj; omega) (hfr.less (by omega)) hlen (scalars_any e1 hsc) e3
    refine ⟨_, ?_, k1, k2⟩
    have := R.cview (I := I) (w := w) (one := false) B.length 0 n cap sz [⟨p.b, 0, p.o + (off - p.lo), cap * sz⟩] ⟨p.b, 0, p.o + (off - p.lo), cap * sz⟩ (last_place g1 _) (List.mem_singleton.2 rfl) (Nat.le_refl _) (by simp) h6 h7 (.nil _)
    simpa using this
  · omega
theorem acall_ownK {f : FuncId} {args args' : List CV} {Q : CV → List Box → Prop} {nz : Bool} (hz : omap (fz nz false B 6) args = some args') (h : ACall P f args' [] Q) {Q' : CV → List Box → Prop}
    (hq : ∀ c B1, Q c B1 → (Scalar c ∧ Q' c B) ∨ (∃ fl, c = .lst 0 [] fl ∧ Q' c B) ∨ ∃ b off n cap sz box, c = .cview b off n cap sz ∧ B1[b]? = some box ∧ box.multi = false ∧ 0 < cap ∧ (toVL ((box.cells.drop off).take (cap * sz))).isSome = true ∧ Q' (.cview B.length 0 n cap sz) (B ++ [{ cells := (box.cells.drop off).take (cap * sz) }])) :
    ACall P f args B Q' :=
  acall_pure_core hz h fun N I μ w w' c v B1 J J1 μ1 hB0 hQ hst g1 g2 g3 => by
    rcases hq c B1 hQ with ⟨hs, h1⟩ | ⟨fl, rfl, h1⟩ | ⟨b, off, n, cap, sz, box, rfl, h1, h2, h3, h4, h5⟩
    · exact ⟨c, B, I, μ, h1, scalar_any hs hst.val, g1, g2, g3⟩
    · refine ⟨_, B, I, μ, h1, ?_, g1, g2, g3⟩
      have hv := hst.val
      cases hv with
      | lst n full b o cap h hm hn hf _ => cases h; exact .lst 0 fl b o cap (.nil _) (fun j v hj => by simp at hj) hn hf (.nil _)
      | lstE full A _ => exact .lstE fl A (.nil _)
    · obtain ⟨μ', k1, k2, k3⟩ := adopt_cview hst.box hst.val h1 h2 h3 h4 rfl g1 g2 hB0
      exact ⟨_, _, I, μ', h5, k1, k2, k3, g3⟩
end
section
variable {P : Program} {n : Nat} {B : List Box} {fr : Fr} {ops : Array Oper}
theorem o_callQ {q : Fr → List Box → Prop} {rest : List Oper} {dst : Option Tmp} {f : Operand} {args : Array Operand} {ts : Array TypeId} {ty : TypeId} {pos : String} {after : Array Edge} {g : FuncId} {first caps all : List CV} {Q : CV → List Box → Prop}
    (hd : dstOk n ⟨dst, .call { callee := .value f, args, argTypes := ts }, ty, pos, after, none⟩ = true) (hf : Is (opv fr f) (.fn (.func g) first caps)) (ha : Is (first ++ args.toList.map (opv fr) ++ caps) all)
    (hc : ACall P g all B Q) (h : ∀ c B', Q c B' → WPo P n ops q rest (upd fr dst c) B') : WPo P n ops q (⟨dst, .call { callee := .value f, args, argTypes := ts }, ty, pos, after, none⟩ :: rest) fr B :=
  o_call hd hf ha (hc.mono h)
theorem ACall.eq {f : FuncId} {args args' : List CV} {Q : CV → List Box → Prop} (h : ACall P f args' B Q) (ha : Is args args') : ACall P f args B Q := by
  have ha : args = args' := ha
  rw [ha]; exact h
end
end Go.Sy
end
section
namespace Go.Sy
theorem kS {p : Prop} (h : p := by ((simp (disch := omega) [go_sem, *]) <;> (try omega))) : p := h
structure Hq (p : Prop) : Prop where
  out : p
theorem hq {q : Prop} (k : Hq q) : q := k.out
theorem wB {p q : Prop} (k : q) (h : Hq q → p := by (intro k; (repeat' (first | (with_reducible first | apply jA | apply jB | apply jC | apply jD | apply jE | apply jF | apply jG | apply jH | apply jI | apply jJ | apply jK | apply jL | apply jM | apply jN | apply jO) | ((with_reducible first | apply jP | apply jQ); rfl) | ((first | ((with_reducible first | apply jR | apply jS | apply jT); rfl; rfl) | (with_reducible first | apply jU | apply jV | apply jW) | ((with_reducible first | apply jX | apply jY | apply jZ); rfl) | ((with_reducible first | apply kA | apply kB | apply kC); rfl)); all_goals (first | ((with_reducible show Is _ _); exact kE) | ((with_reducible refine fun (hc : (_ : Bool) = _) => ?_); (try simp only [xZ, xY, xP, reduceCtorEq] at hc); (try (have hx : True := hc; clear hx hc)); (try exact kX)) | ((with_reducible show ACall _ _ _ _ _); (first | ((with_reducible apply c0) <;> exact kD) | ((with_reducible apply c1) <;> exact kD) | ((with_reducible apply c2) <;> exact kD) | ((with_reducible apply c3) <;> exact kD) | ((with_reducible apply c4) <;> exact kD) | ((with_reducible apply c5) <;> exact kD) | ((with_reducible apply c6) <;> exact kD) | ((with_reducible apply c7) <;> exact kD))) | ((fail_if_success (with_reducible first | show Is _ _ | show ACall _ _ _ _ _)); (try ((with_reducible show _ ∨ _); exact kT))))) | (((with_reducible first | apply o_callQ | apply q_callQ); rfl); (iterate 2 exact kE); (first | ((with_reducible apply q0) <;> exact kD))))); exact hq k)) : p := h ⟨k⟩
theorem w0 {p q : Prop}  (k : q) (h : Hq q → p := by (intro  k; exact wB (hq k))) : p := h  ⟨k⟩
theorem w1 {A0 p q : Prop} (c0 : A0) (k : q) (h : A0 → Hq q → p := by (intro c0 k; exact wB (hq k))) : p := h c0 ⟨k⟩
theorem w2 {A0 A1 p q : Prop} (c0 : A0) (c1 : A1) (k : q) (h : A0 → A1 → Hq q → p := by (intro c0 c1 k; exact wB (hq k))) : p := h c0 c1 ⟨k⟩
theorem w3 {A0 A1 A2 p q : Prop} (c0 : A0) (c1 : A1) (c2 : A2) (k : q) (h : A0 → A1 → A2 → Hq q → p := by (intro c0 c1 c2 k; exact wB (hq k))) : p := h c0 c1 c2 ⟨k⟩
theorem w4 {A0 A1 A2 A3 p q : Prop} (c0 : A0) (c1 : A1) (c2 : A2) (c3 : A3) (k : q) (h : A0 → A1 → A2 → A3 → Hq q → p := by (intro c0 c1 c2 c3 k; exact wB (hq k))) : p := h c0 c1 c2 c3 ⟨k⟩
theorem w5 {A0 A1 A2 A3 A4 p q : Prop} (c0 : A0) (c1 : A1) (c2 : A2) (c3 : A3) (c4 : A4) (k : q) (h : A0 → A1 → A2 → A3 → A4 → Hq q → p := by (intro c0 c1 c2 c3 c4 k; exact wB (hq k))) : p := h c0 c1 c2 c3 c4 ⟨k⟩
theorem w0q {A0 p q : Prop} (q0 : A0) (k : q) (h : A0 → Hq q → p := by (intro q0 k; exact wB (hq k))) : p := h q0 ⟨k⟩
end Go.Sy
end
