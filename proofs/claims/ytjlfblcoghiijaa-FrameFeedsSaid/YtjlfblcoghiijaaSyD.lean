/-
  How boxes stand to memory; what a step keeps.
-/
import Derived.Test.YtjlfblcoghiijaaSyC
namespace Go.Sy
set_option linter.all false
open Go.RowKit (Below)

structure BRel (N : Nat) (I : Nat → Nat → Prop) (μ : List (List Place)) (B : List Box) (w : World) : Prop where
  len : μ.length = B.length
  low : N ≤ w.heap.size
  imm : ∀ b j, I b j → b < w.heap.size
  places : ∀ (β : Nat) (ps : List Place) (p : Place), μ[β]? = some ps → p ∈ ps → N ≤ p.b ∧ p.lo ≤ p.k ∧ Free w p.b (p.o + (p.k - p.lo))
  disj : ∀ (β β' : Nat) (ps ps' : List Place) (p p' : Place), μ[β]? = some ps → μ[β']? = some ps' → p ∈ ps → p' ∈ ps' → p.b = p'.b → β = β'
  one : ∀ (β : Nat) (box : Box), B[β]? = some box → box.multi = false → μ[β]? = some [] ∨ ∃ p : Place, μ[β]? = some [p] ∧ p.lo = 0 ∧ p.k = box.cells.length ∧
    (∃ vs, R I μ w true box.cells vs ∧ ∀ j v, vs[j]? = some v → w.cell? ⟨p.b, p.o + j, none⟩ = some v) ∧ ∀ j, ¬ I p.b j
  many : ∀ (β : Nat) (box : Box) (ps : List Place) (p : Place), B[β]? = some box → box.multi = true → μ[β]? = some ps → p ∈ ps → p.k ≤ box.cells.length ∧
    (∃ vs, R I μ w true ((box.cells.take p.k).drop p.lo) vs ∧ ∀ j v, vs[j]? = some v → w.cell? ⟨p.b, p.o + j, none⟩ = some v ∧ I p.b (p.o + j)) ∧
    (p.k = box.cells.length → ∀ j, p.o + (p.k - p.lo) ≤ j → ¬ I p.b j)

structure Step (N : Nat) (I : Nat → Nat → Prop) (μ : List (List Place)) (w : World) (c : CV) (v : Value) (B' : List Box) (I' : Nat → Nat → Prop) (μ' : List (List Place)) (w' : World) : Prop where
  val : V I' μ' w' c v
  box : BRel N I' μ' B' w'
  ext : Ext I μ w I' μ' w'
  below : Below N w w'

section
variable {N : Nat} {I I' : Nat → Nat → Prop} {μ μ' : List (List Place)} {B : List Box} {w w' : World}

theorem Free.lt {b n : Nat} (h : Free w b n) : b < w.heap.size := by
  obtain ⟨_, _, _, h, _⟩ := h
  exact (Array.getElem?_eq_some_iff.1 h).1
theorem Free.cell {b n j : Nat} (h : Free w b n) (hj : j < n) : (w.cell? ⟨b, j, none⟩).isSome = true ∧ w.frozen? ⟨b, j, none⟩ = false := by
  obtain ⟨cells, ty, fz, h, h1, h2⟩ := h
  have := h2 j (by omega)
  refine ⟨?_, ?_⟩
  · simp [World.cell?, h]; omega
  · simp [World.frozen?, h]; omega
theorem Free.frozen {b n j : Nat} (h : Free w b n) (hc : (w.cell? ⟨b, j, none⟩).isSome = true) : w.frozen? ⟨b, j, none⟩ = false := by
  obtain ⟨cells, ty, fz, h, h1, h2⟩ := h
  simp [World.cell?, h] at hc
  have := h2 j (by omega)
  simp [World.frozen?, h]; omega
theorem Free.of_same {b n : Nat} (h : Free w b n) (hb : w'.heap[b]? = w.heap[b]?) : Free w' b n := by
  unfold Free at *; rwa [hb]
theorem Plain.of_same {b : Nat} (h : Plain w b) (hb : w'.heap[b]? = w.heap[b]?) : Plain w' b := by
  unfold Plain at *; rwa [hb]
theorem Plain.lt {b : Nat} (h : Plain w b) : b < w.heap.size := by
  obtain ⟨_, _, h⟩ := h
  exact (Array.getElem?_eq_some_iff.1 h).1
theorem Free.less {b n m : Nat} (h : Free w b n) (hm : m ≤ n) : Free w b m := by
  obtain ⟨cells, ty, fz, h, h1, h2⟩ := h
  exact ⟨cells, ty, fz, h, by omega, h2⟩

theorem cell_same {b j : Nat} (hb : w'.heap[b]? = w.heap[b]?) : w'.cell? ⟨b, j, none⟩ = w.cell? ⟨b, j, none⟩ := by simp [World.cell?, hb]

/-- NOTHING THAT WAS THERE HAS TURNED. -/
theorem BRel.ext_same (h : BRel N I μ B w) (hs : w.heap.size ≤ w'.heap.size) (hb : ∀ b, b < w.heap.size → w'.heap[b]? = w.heap[b]?) : Ext I μ w I μ w' :=
  ⟨⟨fun _ _ h => h, fun b j hj => cell_same (hb b (h.imm b j hj)), fun _ _ hf => hf.of_same (hb _ hf.lt), fun _ hf => hf.of_same (hb _ hf.lt), fun _ ps h => ⟨ps, h, fun _ h => h⟩⟩, hs, more_refl μ w, news_refl μ w, fun _ _ h => .inl h, fun _ h => h, fun b _ h _ => (hb b (Array.getElem?_eq_some_iff.1 h).1).trans h⟩

theorem BRel.keep (h : BRel N I μ B w) (hs : w.heap.size ≤ w'.heap.size) (hb : ∀ b, b < w.heap.size → w'.heap[b]? = w.heap[b]?) : BRel N I μ B w' := by
  have e := (h.ext_same hs hb).toKeep
  refine ⟨h.len, by have := h.low; omega, fun b j hj => by have := h.imm b j hj; omega, fun β ps p h1 h2 => ?_, h.disj, fun β box h1 h2 => ?_, fun β box ps p h1 h2 h3 h4 => ?_⟩
  · obtain ⟨a1, a3, a4⟩ := h.places β ps p h1 h2
    exact ⟨a1, a3, a4.of_same (hb _ a4.lt)⟩
  · rcases h.one β box h1 h2 with a0 | ⟨p, a1, a2, a3, ⟨vs, a4, a5⟩, a6⟩
    · exact .inl a0
    have hl := (h.places β [p] p a1 (by simp)).2.2.lt
    exact .inr ⟨p, a1, a2, a3, ⟨vs, a4.ext e, fun j v hj => (cell_same (hb _ hl)).trans (a5 j v hj)⟩, a6⟩
  · obtain ⟨a1, ⟨vs, a2, a3⟩, a4⟩ := h.many β box ps p h1 h2 h3 h4
    have hl := (h.places β ps p h3 h4).2.2.lt
    exact ⟨a1, ⟨vs, a2.ext e, fun j v hj => ⟨(cell_same (hb _ hl)).trans (a3 j v hj).1, (a3 j v hj).2⟩⟩, a4⟩

theorem drew_heap (w : World) : w.drew.heap = w.heap := rfl
theorem alloc_heap (w : World) (o : Obj) : (w.alloc o).heap = w.heap.push o := rfl
theorem push_old {o : Obj} (hp : w'.heap = w.heap.push o) {b : Nat} (hb : b < w.heap.size) : w'.heap[b]? = w.heap[b]? := by
  rw [hp, Array.getElem?_push, if_neg (by omega)]
theorem push_new {o : Obj} (hp : w'.heap = w.heap.push o) : w'.heap[w.heap.size]? = some o := by
  rw [hp, Array.getElem?_push, if_pos rfl]

theorem Below.of_heap {o : Obj} (hN : N ≤ w.heap.size) (hp : w'.heap = w.heap.push o) (h1 : w'.os = w.os) (h2 : w'.tape = w.tape) (h3 : w'.output = w.output) : Below N w w' :=
  ⟨h1, h2, h3, by rw [hp]; simp, fun k hk => push_old hp (by omega)⟩

/-- A new block for a new box. -/
theorem BRel.push (h : BRel N I μ B w) {cells : Array Value} {ty : TypeId} {fz : Nat × Nat} (hp : w'.heap = w.heap.push (.cells cells ty fz)) (hfz : ∀ j, j < cells.size → ¬ (fz.1 ≤ j ∧ j < fz.2))
    {cs : List CV} {vs rest : List Value} (hr : R I μ w true cs vs) (hc : cells.toList = vs ++ rest) :
    BRel N I (μ ++ [[⟨w.heap.size, 0, 0, cs.length⟩]]) (B ++ [{ cells := cs }]) w' ∧ Ext I μ w I (μ ++ [[⟨w.heap.size, 0, 0, cs.length⟩]]) w' := by
  have hk := h.keep (w' := w') (by rw [hp]; simp) (fun b hb => push_old hp hb)
  have e0 := h.ext_same (w' := w') (by rw [hp]; simp) (fun b hb => push_old hp hb)
  have grow : ∀ (β : Nat) (ps : List Place), μ[β]? = some ps → ∃ ps', (μ ++ [[(⟨w.heap.size, 0, 0, cs.length⟩ : Place)]])[β]? = some ps' ∧ ∀ p ∈ ps, p ∈ ps' := fun β ps hβ =>
    ⟨ps, by rw [List.getElem?_append_left (List.getElem?_eq_some_iff.1 hβ).1]; exact hβ, fun _ h => h⟩
  have e : Ext I μ w I (μ ++ [[⟨w.heap.size, 0, 0, cs.length⟩]]) w' := by
    refine ⟨⟨e0.imm, e0.same, e0.free, e0.plain, grow⟩, e0.size, fun β ps ps' hβ hβ' p hpp => ?_, fun β ps hβ hps p hpp => ?_, fun _ _ h => .inl h, fun β hβ => by rw [List.getElem?_append_left (List.getElem?_eq_some_iff.1 hβ).1]; exact hβ, e0.oth⟩
    · rw [List.getElem?_append_left (List.getElem?_eq_some_iff.1 hβ).1, hβ] at hβ'
      simp at hβ'
      subst hβ'
      exact .inl ⟨p, hpp, rfl⟩
    · rw [List.getElem?_append_right hβ] at hps
      rcases Nat.eq_zero_or_pos (β - μ.length) with h0 | h0
      · rw [h0] at hps
        simp at hps
        subst hps
        have : p = ⟨w.heap.size, 0, 0, cs.length⟩ := by simpa using hpp
        subst this
        exact Nat.le_refl _
      · rw [List.getElem?_eq_none (by simp; omega)] at hps
        cases hps
  have e1 : Keep I μ w' I (μ ++ [[⟨w.heap.size, 0, 0, cs.length⟩]]) w' := ⟨fun _ _ h => h, fun _ _ _ => rfl, fun _ _ h => h, fun _ h => h, grow⟩
  have hlen := hr.len
  have hcs : cells.size = vs.length + rest.length := by rw [← Array.length_toList, hc, List.length_append]
  have hnew : Free w' w.heap.size cs.length := ⟨cells, ty, fz, push_new hp, by omega, hfz⟩
  -- places of the old boxes, and of the new one
  have pl : ∀ (β : Nat) (ps : List Place) (p : Place), (μ ++ [[(⟨w.heap.size, 0, 0, cs.length⟩ : Place)]])[β]? = some ps → p ∈ ps →
      (μ[β]? = some ps ∧ p.b < w.heap.size) ∨ (β = μ.length ∧ p = ⟨w.heap.size, 0, 0, cs.length⟩) := by
    intro β ps p h1 h2
    rcases Nat.lt_or_ge β μ.length with hl | hl
    · rw [List.getElem?_append_left hl] at h1
      exact .inl ⟨h1, (h.places β ps p h1 h2).2.2.lt⟩
    · rw [List.getElem?_append_right hl] at h1
      rcases Nat.eq_zero_or_pos (β - μ.length) with h0 | h0
      · rw [h0] at h1
        simp at h1
        subst h1
        exact .inr ⟨by omega, by simpa using h2⟩
      · rw [List.getElem?_eq_none (by simp; omega)] at h1
        cases h1
  refine ⟨⟨by simp [h.len], hk.low, hk.imm, fun β ps p h1 h2 => ?_, fun β β' ps ps' p p' h1 h1' h2 h2' he => ?_, fun β box h1 h2 => ?_, fun β box ps p h1 h2 h3 h4 => ?_⟩, e⟩
  · rcases pl β ps p h1 h2 with ⟨h1, _⟩ | ⟨rfl, rfl⟩
    · exact hk.places β ps p h1 h2
    · exact ⟨h.low, Nat.zero_le _, by simpa using hnew⟩
  · rcases pl β ps p h1 h2 with ⟨h1, hl⟩ | ⟨rfl, rfl⟩ <;> rcases pl β' ps' p' h1' h2' with ⟨h1', hl'⟩ | ⟨rfl, rfl⟩
    · exact h.disj β β' ps ps' p p' h1 h1' h2 h2' he
    · simp at he; omega
    · simp at he; omega
    · rfl
  · rcases Nat.lt_or_ge β B.length with hl | hl
    · rw [List.getElem?_append_left hl] at h1
      rcases hk.one β box h1 h2 with a0 | ⟨p, a1, a2, a3, ⟨vs, a4, a5⟩, a6⟩
      · exact .inl (by rw [List.getElem?_append_left (by rw [h.len]; exact hl)]; exact a0)
      exact .inr ⟨p, by rw [List.getElem?_append_left (by rw [h.len]; exact hl)]; exact a1, a2, a3, ⟨vs, a4.ext e1, a5⟩, a6⟩
    · rw [List.getElem?_append_right hl] at h1
      rcases Nat.eq_zero_or_pos (β - B.length) with h0 | h0
      · rw [h0] at h1
        simp at h1
        subst h1
        refine .inr ⟨⟨w.heap.size, 0, 0, cs.length⟩, ?_, rfl, rfl, ⟨vs, hr.ext e.toKeep, fun j v hj => ?_⟩, fun j hj => by have := h.imm _ _ hj; simp at this⟩
        · rw [List.getElem?_append_right (by rw [h.len]; exact hl), h.len, h0]; rfl
        · simp only [World.cell?, push_new hp, Nat.zero_add]
          simp
          rw [← Array.getElem?_toList, hc, List.getElem?_append_left (List.getElem?_eq_some_iff.1 hj).1]
          exact hj
      · rw [List.getElem?_eq_none (by simp; omega)] at h1
        cases h1
  · rcases Nat.lt_or_ge β B.length with hl | hl
    · rw [List.getElem?_append_left hl] at h1
      rw [List.getElem?_append_left (by rw [h.len]; exact hl)] at h3
      obtain ⟨a1, ⟨vs, a2, a3⟩, a4⟩ := hk.many β box ps p h1 h2 h3 h4
      exact ⟨a1, ⟨vs, a2.ext e1, a3⟩, a4⟩
    · rw [List.getElem?_append_right hl] at h1
      rcases Nat.eq_zero_or_pos (β - B.length) with h0 | h0
      · rw [h0] at h1
        simp at h1
        subst h1
        cases h2
      · rw [List.getElem?_eq_none (by simp; omega)] at h1
        cases h1

/-- A new block that never changes. -/
theorem BRel.fresh (h : BRel N I μ B w) {cells : Array Value} {ty : TypeId} {fz : Nat × Nat} (hp : w'.heap = w.heap.push (.cells cells ty fz)) :
    BRel N (fun b j => I b j ∨ b = w.heap.size) μ B w' ∧ Ext I μ w (fun b j => I b j ∨ b = w.heap.size) μ w' := by
  have hk := h.keep (w' := w') (by rw [hp]; simp) (fun b hb => push_old hp hb)
  have e : Ext I μ w (fun b j => I b j ∨ b = w.heap.size) μ w' := by
    have e0 := h.ext_same (w' := w') (by rw [hp]; simp) (fun b hb => push_old hp hb)
    exact ⟨⟨fun b j h => .inl h, e0.same, e0.free, e0.plain, e0.grow⟩, e0.size, e0.more, e0.news, fun b j hj => by rcases hj with hj | hj; exact .inl hj; exact .inr (.inl (by omega)), fun _ h => h, e0.oth⟩
  have e1 : Keep I μ w' (fun b j => I b j ∨ b = w.heap.size) μ w' := ⟨fun b j h => .inl h, fun _ _ _ => rfl, fun _ _ h => h, fun _ h => h, fun β ps h => ⟨ps, h, fun _ h => h⟩⟩
  refine ⟨⟨h.len, hk.low, fun b j hj => ?_, hk.places, h.disj, fun β box h1 h2 => ?_, fun β box ps p h1 h2 h3 h4 => ?_⟩, e⟩
  · rcases hj with hj | rfl
    · exact hk.imm b j hj
    · rw [hp]; simp
  · rcases hk.one β box h1 h2 with a0 | ⟨p, a1, a2, a3, ⟨vs, a4, a5⟩, a6⟩
    · exact .inl a0
    have hl := (h.places β [p] p a1 (by simp)).2.2.lt
    exact .inr ⟨p, a1, a2, a3, ⟨vs, a4.ext e1, a5⟩, fun j hj => by rcases hj with hj | hj; exact a6 j hj; omega⟩
  · obtain ⟨a1, ⟨vs, a2, a3⟩, a4⟩ := hk.many β box ps p h1 h2 h3 h4
    have hl := (h.places β ps p h3 h4).2.2.lt
    exact ⟨a1, ⟨vs, a2.ext e1, fun j v hj => ⟨(a3 j v hj).1, .inl (a3 j v hj).2⟩⟩, fun hk j hj hi => by rcases hi with hi | hi; exact a4 hk j hj hi; omega⟩

end
end Go.Sy
