/-
  A row of a known capacity that a callee made, as it stands in the caller; a call whose result is told by a relation.
-/
import Derived.Test.YtjlfblcoghiijaaSyY
namespace Go.Sy
set_option linter.all false
open Go.RowKit (Below)

section
variable {P : Program} {N : Nat} {I : Nat → Nat → Prop} {μ : List (List Place)} {B : List Box} {w : World}

theorem adopt_cview {N1 : Nat} {J1 : Nat → Nat → Prop} {μ1 : List (List Place)} {B1 : List Box} {w0 : World} {b off n cap sz : Nat} {box : Box} {v : Value} (hst : BRel N1 J1 μ1 B1 w) (hv : V J1 μ1 w (.cview b off n cap sz) v) (hbx : B1[b]? = some box) (hmu : box.multi = false) (hcap : 0 < cap)
    (hsc : (toVL ((box.cells.drop off).take (cap * sz))).isSome = true) (hN1 : N1 = w0.heap.size) (g1 : BRel N I μ B w) (g2 : Ext I μ w0 I μ w) (hB0 : BRel N I μ B w0) :
    ∃ μ', V I μ' w (.cview B.length 0 n cap sz) v ∧ BRel N I μ' (B ++ [{ cells := (box.cells.drop off).take (cap * sz) }]) w ∧ Ext I μ w0 I μ' w := by
  rcases hv.cview_inv with ⟨ps, p, rfl, h2, h3, h4, h5, h6, h7⟩ | ⟨A, rfl, _, rfl, _⟩
  · obtain ⟨c1, vs, e1, e2, e3, _⟩ := view_cells hst hbx h2 h3 h4 h5 (s := off) (e := cap * sz) (Nat.le_refl _) (Nat.le_refl _)
    have hpb : w0.heap.size ≤ p.b := by have := (hst.places b ps p h2 h3).1; omega
    have hlen : ((box.cells.drop off).take (cap * sz)).length = cap * sz := by rw [e1.len, e2]
    have hfr := (hst.places b ps p h2 h3).2.2
    have hlk := (hst.places b ps p h2 h3).2.1
    obtain ⟨k1, k2⟩ := g1.adopt g2 (b := p.b) (o := p.o + (off - p.lo)) (len := cap * sz) (by have := hB0.low; omega) hpb (fun β qs q hq hm => by
      have := (hB0.places β qs q hq hm).2.2.lt; omega) (fun j hj => by have := hB0.imm _ _ hj; omega) (hfr.less (by omega)) hlen (scalars_any e1 hsc) e3
    refine ⟨_, ?_, k1, k2⟩
    have := R.cview (I := I) (w := w) (one := false) B.length 0 n cap sz [⟨p.b, 0, p.o + (off - p.lo), cap * sz⟩] ⟨p.b, 0, p.o + (off - p.lo), cap * sz⟩ (last_place g1 _) (List.mem_singleton.2 rfl) (Nat.le_refl _) (by simp) h6 h7 (.nil _)
    simpa using this
  · omega

/-- What is handed back is a row of scalars whose capacity is known, that the callee made, or a row of none. -/
theorem acall_ownK {f : FuncId} {args args' : List CV} {Q : CV → List Box → Prop} {nz : Bool} (hz : omap (fz nz false B 6) args = some args') (h : ACall P f args' [] Q) {Q' : CV → List Box → Prop}
    (hq : ∀ c B1, Q c B1 → (Scalar c ∧ Q' c B) ∨ (∃ fl, c = .lst 0 [] fl ∧ Q' c B) ∨ ∃ b off n cap sz box, c = .cview b off n cap sz ∧ B1[b]? = some box ∧ box.multi = false ∧ 0 < cap ∧ (toVL ((box.cells.drop off).take (cap * sz))).isSome = true ∧ Q' (.cview B.length 0 n cap sz) (B ++ [{ cells := (box.cells.drop off).take (cap * sz) }])) :
    ACall P f args B Q' :=
  acall_pure_core hz h fun N I μ w w' c v B1 J J1 μ1 hB0 hQ hst g1 g2 g3 => by
    rcases hq c B1 hQ with ⟨hs, h1⟩ | ⟨fl, rfl, h1⟩ | ⟨b, off, n, cap, sz, box, rfl, h1, h2, h3, h4, h5⟩
    · exact ⟨c, B, I, μ, h1, scalar_any hs hst.val, g1, g2, g3⟩
    · refine ⟨_, B, I, μ, h1, ?_, g1, g2, g3⟩
      have hv := hst.val
      cases hv with
      | lst n full b o cap h hm hn hf _ => cases h; exact .lst 0 fl b o cap (.nil _) (fun j v hj => by simp at hj) hn hf (.nil _)
      | lstE full A _ => exact .lstE fl A (.nil _)
    · obtain ⟨μ', k1, k2, k3⟩ := adopt_cview hst.box hst.val h1 h2 h3 h4 rfl g1 g2 hB0
      exact ⟨_, _, I, μ', h5, k1, k2, k3, g3⟩
/-- The same as 'acall_fresh', with any fuel: what is handed in, and what comes back, may lie as deep as one likes (trees). -/
theorem acall_freshK {f : FuncId} {args args' : List CV} {c' : CV} {nz : Bool} {k1 k2 : Nat} (hz : omap (fz nz false B k1) args = some args') (h : ACall P f args' [] fun c1 B1 => fz true true B1 k2 c1 = some c') : ACall P f args B fun c B' => c = c' ∧ B' = B := by
  refine ⟨h.1, fun N I μ w vs hB hv => ?_⟩
  have hv' := fz_rel (J := fun b _ => b < w.heap.size) hB (fun _ b j h => hB.imm b j h) (fun β ps p _ h1 h2 => (hB.places β ps p h1 h2).2.2.lt) k1 false args vs args' hv hz
  refine (h.2 w.heap.size (fun b _ => b < w.heap.size) [] w vs (BRel.none_ w _ fun _ _ h => h) hv').mono fun e w' ⟨c, v, B1, J1, μ1, he, hQ, hs⟩ => ?_
  obtain ⟨g1, g2, g3⟩ := hB.behind (I2 := fun b j => I b j ∨ (w.heap.size ≤ b ∧ b < w'.heap.size)) hs.below (fun _ _ h => .inl h) (fun _ _ h => h)
  have hv3 := fz_rel (J := fun b j => I b j ∨ (w.heap.size ≤ b ∧ b < w'.heap.size)) hs.box (fun h => by cases h) (fun β ps p _ h1 h2 => .inr ⟨(hs.box.places β ps p h1 h2).1, (hs.box.places β ps p h1 h2).2.2.lt⟩) k2 false [c] [v] [c'] hs.val (omap_one hQ)
  exact ⟨c', v, B, _, μ, he, ⟨rfl, rfl⟩, hv3.ext ⟨fun _ _ h => h, fun _ _ _ => rfl, fun _ _ h => h, fun _ h => h, fun _ _ h => by simp at h⟩, g1, g2, g3⟩
/-- The same as 'acall_fresh', its result told by a relation. -/
theorem acall_freshQ {f : FuncId} {args args' : List CV} {nz : Bool} {Q : CV → Prop} (hz : omap (fz nz false B 6) args = some args') (h : ACall P f args' [] fun c1 B1 => ∃ c', Q c' ∧ fz true true B1 6 c1 = some c') : ACall P f args B fun c B' => Q c ∧ B' = B := by
  refine ⟨h.1, fun N I μ w vs hB hv => ?_⟩
  have hv' := fz_rel (J := fun b _ => b < w.heap.size) hB (fun _ b j h => hB.imm b j h) (fun β ps p _ h1 h2 => (hB.places β ps p h1 h2).2.2.lt) 6 false args vs args' hv hz
  refine (h.2 w.heap.size (fun b _ => b < w.heap.size) [] w vs (BRel.none_ w _ fun _ _ h => h) hv').mono fun e w' ⟨c, v, B1, J1, μ1, he, ⟨c', hq, hQ⟩, hs⟩ => ?_
  obtain ⟨g1, g2, g3⟩ := hB.behind (I2 := fun b j => I b j ∨ (w.heap.size ≤ b ∧ b < w'.heap.size)) hs.below (fun _ _ h => .inl h) (fun _ _ h => h)
  have hv3 := fz_rel (J := fun b j => I b j ∨ (w.heap.size ≤ b ∧ b < w'.heap.size)) hs.box (fun h => by cases h) (fun β ps p _ h1 h2 => .inr ⟨(hs.box.places β ps p h1 h2).1, (hs.box.places β ps p h1 h2).2.2.lt⟩) 6 false [c] [v] [c'] hs.val (omap_one hQ)
  exact ⟨c', v, B, _, μ, he, ⟨hq, rfl⟩, hv3.ext ⟨fun _ _ h => h, fun _ _ _ => rfl, fun _ _ h => h, fun _ h => h, fun _ _ h => by simp at h⟩, g1, g2, g3⟩
end
section
variable {P : Program} {n : Nat} {B : List Box} {fr : Fr} {ops : Array Oper}
/-- A call whose result is told by a relation. -/
theorem o_callQ {q : Fr → List Box → Prop} {rest : List Oper} {dst : Option Tmp} {f : Operand} {args : Array Operand} {ts : Array TypeId} {ty : TypeId} {pos : String} {after : Array Edge} {g : FuncId} {first caps all : List CV} {Q : CV → List Box → Prop}
    (hd : dstOk n ⟨dst, .call { callee := .value f, args, argTypes := ts }, ty, pos, after, none⟩ = true) (hf : Is (opv fr f) (.fn (.func g) first caps)) (ha : Is (first ++ args.toList.map (opv fr) ++ caps) all)
    (hc : ACall P g all B Q) (h : ∀ c B', Q c B' → WPo P n ops q rest (upd fr dst c) B') : WPo P n ops q (⟨dst, .call { callee := .value f, args, argTypes := ts }, ty, pos, after, none⟩ :: rest) fr B :=
  o_call hd hf ha (hc.mono h)
theorem ACall.eq {f : FuncId} {args args' : List CV} {Q : CV → List Box → Prop} (h : ACall P f args' B Q) (ha : Is args args') : ACall P f args B Q := by
  have ha : args = args' := ha
  rw [ha]; exact h
end
end Go.Sy
