import Derived.Test.YtmcnajknmoldpaaSyV
namespace Go.Proofs.Ytmcnajknmoldpaa
open Go Go.Sy
set_option linter.all false
set_option maxRecDepth 100000
set_option maxHeartbeats 4000000
/-- 'acall_imm', its result told by a relation. -/
theorem acall_immQ {P : Program} {B : List Box} {f : FuncId} {args args' : List CV} {nz fr : Bool} {Q : CV → Prop} (hz : omap (fz nz false [] 6) args = some args') (h : ACall P f args' [] fun c1 B1 => ∃ c', Q c' ∧ fz true fr B1 6 c1 = some c') : ACall P f args B fun c B' => Q c ∧ B' = B := by
  refine ⟨h.1, fun N I μ w vs hB hv => ?_⟩
  have hv' := rel_free 6 false args vs args' hv hz
  refine (h.2 w.heap.size I [] w vs (BRel.none_ w _ hB.imm) hv').mono fun e w' ⟨c, v, B1, J1, μ1, he, ⟨c', hq, hQ⟩, hs⟩ => ?_
  have hJ : ∀ b j, J1 b j → I b j ∨ (w.heap.size ≤ b ∧ b < w'.heap.size) := fun b j hj => by
    rcases hs.ext.immN b j hj with h1 | h1 | ⟨β, ps, p, h1, _⟩
    · exact .inl h1
    · exact .inr ⟨h1, hs.box.imm _ _ hj⟩
    · simp at h1
  have hv2 := fz_rel (J := fun b j => I b j ∨ (w.heap.size ≤ b ∧ b < w'.heap.size)) hs.box (fun _ => hJ) (fun β ps p _ h1 h2 => .inr ⟨(hs.box.places β ps p h1 h2).1, (hs.box.places β ps p h1 h2).2.2.lt⟩) 6 false [c] [v] [c'] hs.val (omap_one hQ)
  obtain ⟨g1, g2, g3⟩ := hB.behind (I2 := fun b j => I b j ∨ (w.heap.size ≤ b ∧ b < w'.heap.size)) hs.below (fun _ _ h => .inl h) (fun _ _ h => h)
  exact ⟨c', v, B, _, μ, he, ⟨hq, rfl⟩, hv2.ext ⟨fun _ _ h => h, fun _ _ _ => rfl, fun _ _ h => h, fun _ h => h, fun _ _ h => by simp at h⟩, g1, g2, g3⟩
end Go.Proofs.Ytmcnajknmoldpaa
