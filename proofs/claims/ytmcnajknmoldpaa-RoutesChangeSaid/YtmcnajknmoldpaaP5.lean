/- The law RoutesChange: from its walk (a contract on values) to the row that is given. The frame is printed by law.py after the guide's own shell. -/
import Derived.Test.YtmcnajknmoldpaaL5
import Derived.Test.YtmcnajknmoldpaaSyT
import Derived.Test.YtmcnajknmoldpaaRows
namespace Go.Proofs.Ytmcnajknmoldpaa.RoutesChangeClaim
open Go Go.Sy Go.ChangeShapes Go.WideShapes Go.ChangeAt Go.RowKit
set_option linter.all false

theorem own : ownKnob Try.prog.godebug = none := by kernel_rfl
theorem laidOut : laidOutB Try.prog = true := by kernel_rfl

set_option maxRecDepth 100000 in
theorem lifted (os : Os) (started : os.Started) (H : Type) (enc : TypeId × Value → H) :
    ReturnsInHanded {} Try.checked os 7 .any (Rows.routesChangeSpec.pre6 enc Try.prog Try.f7 Rows.routesChangeRow.domain false) (Rows.routesChangeSpec.post enc Try.prog Try.f7 false true false false) := by
  refine returnsInHanded_of_change (C := Try.checked) own started (by kernel_rfl) Try.func7
    (ChangeSpec.witness6 (enc := enc) (C := Try.checked) false ⟨#[], #[.slice none 0 0, .slice none 0 0, .slice none 0 0, .agg #[.bool false, .int .u8 0, .int .u8 0, .int .u8 0, .int .u8 0, .int .u8 0, .int .u8 0, .int .u8 0, .int .u8 0, .int .u8 0, .int .u8 0, .int .u8 0, .int .u8 0, .int .u8 0, .int .u8 0, .int .u8 0, .int .u8 0, .int .i64 0], .agg #[.int .u8 0, .int .u8 0, .int .u8 0, .int .u8 0, .int .u8 0, .int .u8 0, .int .u8 0, .int .u8 0, .int .u8 0, .int .u8 0, .int .u8 0, .int .u8 0, .int .u8 0, .int .u8 0, .int .u8 0, .int .u8 0, .int .u8 0, .int .u8 0, .int .u8 0, .int .u8 0, .int .u8 0, .int .u8 0, .int .u8 0, .int .u8 0, .int .u8 0, .int .u8 0, .int .u8 0, .int .u8 0, .int .u8 0, .int .u8 0, .int .u8 0, .int .u8 0]], []⟩ 8 (by kernel_rfl) (by kernel_rfl) (by kernel_rfl) (by kernel_rfl)) ?_
  intro W base args ds gs before hval0 hW hcnd _
  have hval : ∀ (j : Nat) t v, Try.f7.params[j]? = some t → args[j]? = some v → Value.okWide Try.prog W .any base t v := hval0
  have hW' := hW
  obtain ⟨p, q, hA0, hV, rfl, hfz, hnd⟩ := hW
  have hA : DataW.TrodAll enc Try.prog W 0 (fun _ => true) true Try.f7.params.toList args.toList ds p := hA0
  rw [Try.params7] at hA hval
  obtain ⟨v0, vs0, d0, ds0, p0, q0, hargs, rfl, rfl, h0, r0⟩ := trodAll_cons hA
  obtain ⟨v1, vs1, d1, ds1, p1, q1, rfl, rfl, rfl, h1, r1⟩ := trodAll_cons r0
  obtain ⟨v2, vs2, d2, ds2, p2, q2, rfl, rfl, rfl, h2, r2⟩ := trodAll_cons r1
  obtain ⟨v3, vs3, d3, ds3, p3, q3, rfl, rfl, rfl, h3, r3⟩ := trodAll_cons r2
  obtain ⟨v4, vs4, d4, ds4, p4, q4, rfl, rfl, rfl, h4, r4⟩ := trodAll_cons r3
  obtain ⟨rfl, rfl, rfl⟩ := trodAll_nil r4
  obtain rfl : args = #[v0, v1, v2, v3, v4] := by cases args; simp_all
  obtain ⟨rfl, rfl⟩ := trodVars_none hV
  have k0 := h0
  have lt0 : ∀ x ∈ p0, x.block < W.heap.size := by obtain ⟨m, hm⟩ := k0; exact DataW.trod_lt m _ _ _ hm
  have k1 := h1
  have lt1 : ∀ x ∈ p1, x.block < W.heap.size := by obtain ⟨m, hm⟩ := k1; exact DataW.trod_lt m _ _ _ hm
  have k2 := h2
  have lt2 : ∀ x ∈ p2, x.block < W.heap.size := by obtain ⟨m, hm⟩ := k2; exact DataW.trod_lt m _ _ _ hm
  have k3 := h3
  have lt3 : ∀ x ∈ p3, x.block < W.heap.size := by obtain ⟨m, hm⟩ := k3; exact DataW.trod_lt m _ _ _ hm
  have k4 := h4
  have lt4 : ∀ x ∈ p4, x.block < W.heap.size := by obtain ⟨m, hm⟩ := k4; exact DataW.trod_lt m _ _ _ hm
  obtain ⟨a0, w0, c0⟩ := open_bytes Try.underlying22 Try.underlying5 (by kernel_rfl) (hval 0 22 v0 rfl rfl) h0
  obtain ⟨a1, w1, c1⟩ := open_bytes Try.underlying22 Try.underlying5 (by kernel_rfl) (hval 1 22 v1 rfl rfl) h1
  obtain ⟨a2, w2, c2⟩ := open_row Try.underlying23 (opn_slice (z := 50) Try.underlying23 (by kernel_rfl) (by decide) (opn_struct Try.underlying37 rfl rfl (by kernel_rfl) (.cons (n := 18) rfl (by kernel_rfl) (opn_struct Try.underlying33 rfl rfl (by kernel_rfl) (.cons (n := 17) rfl (by kernel_rfl) (opn_struct Try.underlying26 rfl rfl (by kernel_rfl) (.cons (n := 1) rfl (by kernel_rfl) (opn_bool Try.underlying4) (.one rfl (opn_byteArray Try.underlying24 Try.underlying5 (by kernel_rfl) (by kernel_rfl))))) (.one rfl (opn_i64 Try.underlying3)))) (.one rfl (opn_byteArray Try.underlying35 Try.underlying5 (by kernel_rfl) (by kernel_rfl)))))) (hval 2 23 v2 rfl rfl) h2
  obtain ⟨a3, w3, c3⟩ := open_agg Try.underlying33 (opn_struct Try.underlying33 rfl rfl (by kernel_rfl) (.cons (n := 17) rfl (by kernel_rfl) (opn_struct Try.underlying26 rfl rfl (by kernel_rfl) (.cons (n := 1) rfl (by kernel_rfl) (opn_bool Try.underlying4) (.one rfl (opn_byteArray Try.underlying24 Try.underlying5 (by kernel_rfl) (by kernel_rfl))))) (.one rfl (opn_i64 Try.underlying3)))) (hval 3 33 v3 rfl rfl) h3
  obtain ⟨a4, w4, e4⟩ := open_byteArray Try.underlying35 Try.underlying5 (by kernel_rfl) (by kernel_rfl) (hval 4 35 v4 rfl rfl) h4
  have c4 : V (Old W) [] W (.agg (a4.map byteC)) v4 := by rw [e4]; exact V_byteArray a4
  clear hA0 hval0
  refine (PC.calls (RoutesChange_in a0 a1 a2 a3 a4 w0 w1 w2 w3 w4) (V_cons c0 (V_cons c1 (V_cons c2 (V_cons c3 (V_cons c4 (.nil _))))))).mono fun e W' ⟨he, bel⟩ => ?_
  subst he
  exact ⟨_, rfl, _, _, _, [], _, [], hW', trodAll_mk1 (shut_bool Try.underlying4 _), (trodAll_cons_mk (Below.trod laidOut (by kernel_rfl) (of_decide_eq_true (by kernel_rfl)) k0 bel lt0) (trodAll_cons_mk (Below.trod laidOut (by kernel_rfl) (of_decide_eq_true (by kernel_rfl)) k1 bel lt1) (trodAll_cons_mk (Below.trod laidOut (by kernel_rfl) (of_decide_eq_true (by kernel_rfl)) k2 bel lt2) (trodAll_cons_mk (Below.trod laidOut (by kernel_rfl) (of_decide_eq_true (by kernel_rfl)) k3 bel lt3) (trodAll_cons_mk (Below.trod laidOut (by kernel_rfl) (of_decide_eq_true (by kernel_rfl)) k4 bel lt4) (trodAll_mk0)))))), rfl, bel.frame _, fun h => by cases h⟩

theorem over : Rows.routesChangeRow.holds Try.pinned (OpenSpec.ofChange Rows.routesChangeSpec) :=
  OpenClaim.holds_of_wide 7 Try.f7 rfl rfl rfl rfl rfl rfl rfl ⟨rfl, rfl, rfl, rfl, rfl⟩ rfl rfl rfl rfl rfl (by kernel_rfl) Try.func7 (by kernel_rfl)
    (of_decide_eq_true (by kernel_rfl)) (by unfold Func.isWrapper; first | (rw [if_pos (by decide +kernel)]; kernel_rfl) | (rw [if_neg (by decide +kernel)]; exact ⟨rfl, rfl⟩))
    (fun os started H enc _ => lifted os started H enc)

/-- THE STATEMENT -/
theorem proved : Rows.RoutesChangeSaid := over
end Go.Proofs.Ytmcnajknmoldpaa.RoutesChangeClaim
