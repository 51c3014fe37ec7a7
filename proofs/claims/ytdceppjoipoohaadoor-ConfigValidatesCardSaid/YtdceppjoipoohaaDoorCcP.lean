/- The law ConfigValidates: from its walk (a contract on values) to the row that is given. The frame is printed by law.py after the guide's own shell. -/
import Derived.Test.YtdceppjoipoohaaDoorCc13
import Derived.Test.YtdceppjoipoohaaDoorRows
import Derived.Test.YtdceppjoipoohaaDoorCards
import Derived.Test.YtdceppjoipoohaaDoorTie
import Derived.SevenTiedAt
namespace Go.Proofs.YtdceppjoipoohaaDoor.ConfigValidatesClaim
open Go Go.Sy Go.ChangeShapes Go.WideShapes Go.ChangeAt Go.RowKit
set_option linter.all false

theorem own : ownKnob Tryd.prog.godebug = none := by kernel_rfl
theorem laidOut : laidOutB Tryd.prog = true := by kernel_rfl

set_option maxRecDepth 100000 in
theorem lifted (os : Os) (started : os.Started) (H : Type) (enc : TypeId × Value → H) :
    ReturnsInHanded {} Tryd.checked os 5 .any (fun w args => (Rows.configValidatesSpec.pre enc Tryd.prog Tryd.f5 Rows.configValidatesRow.domain false w args ∧ laidMetH Tryd.prog Rows.configValidatesRow.laid w) ∧ sizedMet enc Tryd.prog Tryd.f5 (OpenSpec.ofChange Rows.configValidatesSpec) false w args) (Rows.configValidatesSpec.post enc Tryd.prog Tryd.f5 false true false false) := by
  refine handed_laid (C := Tryd.checked) (X := fun w _ => laidMetH Tryd.prog Rows.configValidatesRow.laid w) (fun _ _ _ hh h => h.of_heap hh) own started (by kernel_rfl) Tryd.func5
    (ChangeSpec.witness_shaped (enc := enc) (C := Tryd.checked) (os := os) (X := fun w _ => laidMetH Tryd.prog Rows.configValidatesRow.laid w) false (World.laidAll Tryd.prog os Rows.configValidatesRow.laid) #[.slice none 0 0, .int .u8 0, .int .u8 0, .int .i64 0, .agg #[.int .u8 0, .int .u8 0, .int .u8 0, .int .u8 0, .int .u8 0, .int .u8 0, .int .u8 0, .int .u8 0, .int .u8 0, .int .u8 0, .int .u8 0, .int .u8 0, .int .u8 0, .int .u8 0, .int .u8 0, .int .u8 0, .int .u8 0, .int .u8 0, .int .u8 0, .int .u8 0, .int .u8 0, .int .u8 0, .int .u8 0, .int .u8 0, .int .u8 0, .int .u8 0, .int .u8 0, .int .u8 0, .int .u8 0, .int .u8 0, .int .u8 0, .int .u8 0, .int .i64 0, .slice none 0 0]] 8 (World.laidAll_os _ _ _)
      (World.shaped_of_ZipB (by kernel_rfl) (by kernel_rfl)) (by kernel_rfl) (by kernel_rfl) (by kernel_rfl)
      (by rw [MakeChecks.laidMetH_plain _ _ _ (by kernel_rfl)]; exact laidMet_laidAll _ (by kernel_rfl) (by kernel_rfl))) ?_
  intro W base args ds gs before hval0 hW hS hL0
  rw [MakeChecks.laidMetH_plain _ _ _ (by kernel_rfl)] at hL0
  have hT : TabsOk (Old W) W := tabs_of hS hL0
  have hval : ∀ (j : Nat) t v, Tryd.f5.params[j]? = some t → args[j]? = some v → Value.okWide Tryd.prog W .any base t v := hval0
  have hW' := hW
  obtain ⟨p, q, hA0, hV, rfl, hfz, hnd⟩ := hW
  have hA : DataW.TrodAll enc Tryd.prog W 0 (fun _ => true) true Tryd.f5.params.toList args.toList ds p := hA0
  rw [Tryd.params5] at hA hval
  obtain ⟨v0, vs0, d0, ds0, p0, q0, hargs, rfl, rfl, h0, r0⟩ := trodAll_cons hA
  obtain ⟨v1, vs1, d1, ds1, p1, q1, rfl, rfl, rfl, h1, r1⟩ := trodAll_cons r0
  obtain ⟨v2, vs2, d2, ds2, p2, q2, rfl, rfl, rfl, h2, r2⟩ := trodAll_cons r1
  obtain ⟨v3, vs3, d3, ds3, p3, q3, rfl, rfl, rfl, h3, r3⟩ := trodAll_cons r2
  obtain ⟨v4, vs4, d4, ds4, p4, q4, rfl, rfl, rfl, h4, r4⟩ := trodAll_cons r3
  obtain ⟨rfl, rfl, rfl⟩ := trodAll_nil r4
  obtain rfl : args = #[v0, v1, v2, v3, v4] := by cases args; simp_all
  obtain ⟨rfl, rfl⟩ := trodVars_none hV
  have k0 := h0
  have lt0 : ∀ x ∈ p0, x.block < W.heap.size := by obtain ⟨m, hm⟩ := k0; exact DataW.trod_lt m _ _ _ hm
  have k1 := h1
  have lt1 : ∀ x ∈ p1, x.block < W.heap.size := by obtain ⟨m, hm⟩ := k1; exact DataW.trod_lt m _ _ _ hm
  have k2 := h2
  have lt2 : ∀ x ∈ p2, x.block < W.heap.size := by obtain ⟨m, hm⟩ := k2; exact DataW.trod_lt m _ _ _ hm
  have k3 := h3
  have lt3 : ∀ x ∈ p3, x.block < W.heap.size := by obtain ⟨m, hm⟩ := k3; exact DataW.trod_lt m _ _ _ hm
  have k4 := h4
  have lt4 : ∀ x ∈ p4, x.block < W.heap.size := by obtain ⟨m, hm⟩ := k4; exact DataW.trod_lt m _ _ _ hm
  obtain ⟨a0, w0, c0⟩ := open_bytes Tryd.underlying22 Tryd.underlying5 (by kernel_rfl) (hval 0 22 v0 rfl rfl) h0
  obtain ⟨a1, c1⟩ := open_byte Tryd.underlying5 (hval 1 5 v1 rfl rfl) h1
  obtain ⟨a2, c2⟩ := open_byte Tryd.underlying5 (hval 2 5 v2 rfl rfl) h2
  obtain ⟨a3, w3, c3⟩ := open_i Tryd.underlying3 (hval 3 3 v3 rfl rfl) h3
  obtain ⟨a4, w4, c4⟩ := open_agg Tryd.underlying55 (opn_struct Tryd.underlying55 rfl rfl (by kernel_rfl) (.cons (n := 32) rfl (by kernel_rfl) (opn_byteArray Tryd.underlying52 Tryd.underlying5 (by kernel_rfl) (by kernel_rfl)) (.cons (n := 1) rfl (by kernel_rfl) (opn_i64 Tryd.underlying3) (.one rfl (opn_slice (z := 85) Tryd.underlying53 (by kernel_rfl) (by decide) (opn_struct Tryd.underlying90 rfl rfl (by kernel_rfl) (.cons (n := 32) rfl (by kernel_rfl) (opn_byteArray Tryd.underlying52 Tryd.underlying5 (by kernel_rfl) (by kernel_rfl)) (.cons (n := 32) rfl (by kernel_rfl) (opn_byteArray Tryd.underlying52 Tryd.underlying5 (by kernel_rfl) (by kernel_rfl)) (.cons (n := 1) rfl (by kernel_rfl) (opn_bool Tryd.underlying4) (.cons (n := 18) rfl (by kernel_rfl) (opn_struct Tryd.underlying27 rfl rfl (by kernel_rfl) (.cons (n := 17) rfl (by kernel_rfl) (opn_struct Tryd.underlying25 rfl rfl (by kernel_rfl) (.cons (n := 1) rfl (by kernel_rfl) (opn_bool Tryd.underlying4) (.one rfl (opn_byteArray Tryd.underlying23 Tryd.underlying5 (by kernel_rfl) (by kernel_rfl))))) (.one rfl (opn_i64 Tryd.underlying3)))) (.cons (n := 1) rfl (by kernel_rfl) (opn_i64 Tryd.underlying2) (.one rfl (opn_slice (z := 18) Tryd.underlying87 (by kernel_rfl) (by decide) (opn_struct Tryd.underlying29 rfl rfl (by kernel_rfl) (.cons (n := 17) rfl (by kernel_rfl) (opn_struct Tryd.underlying25 rfl rfl (by kernel_rfl) (.cons (n := 1) rfl (by kernel_rfl) (opn_bool Tryd.underlying4) (.one rfl (opn_byteArray Tryd.underlying23 Tryd.underlying5 (by kernel_rfl) (by kernel_rfl))))) (.one rfl (opn_i64 Tryd.underlying3))))))))))))))))) (hval 4 55 v4 rfl rfl) h4
  clear hA0 hval0
  refine (PC.calls (ConfigValidates_in a0 a1 a2 a3 a4 w0 (bounds_i64 w3) w4) (V_cons c0 (V_cons c1 (V_cons c2 (V_cons c3 (V_cons c4 (.nil _)))))) hT).mono fun e W' ⟨he, bel⟩ => ?_
  subst he
  exact ⟨_, rfl, _, _, _, [], _, [], hW', trodAll_mk1 (shut_bool Tryd.underlying4 _), (trodAll_cons_mk (Below.trod laidOut (by kernel_rfl) (of_decide_eq_true (by kernel_rfl)) k0 bel lt0) (trodAll_cons_mk (Below.trod laidOut (by kernel_rfl) (of_decide_eq_true (by kernel_rfl)) k1 bel lt1) (trodAll_cons_mk (Below.trod laidOut (by kernel_rfl) (of_decide_eq_true (by kernel_rfl)) k2 bel lt2) (trodAll_cons_mk (Below.trod laidOut (by kernel_rfl) (of_decide_eq_true (by kernel_rfl)) k3 bel lt3) (trodAll_cons_mk (Below.trod laidOut (by kernel_rfl) (of_decide_eq_true (by kernel_rfl)) k4 bel lt4) (trodAll_mk0)))))), rfl, bel.frame _, fun h => by cases h⟩

theorem over : Rows.configValidatesRow.holds Tryd.pinned (OpenSpec.ofChange Rows.configValidatesSpec) :=
  OpenClaim.holds_of_wide 5 Tryd.f5 rfl rfl rfl rfl rfl rfl rfl ⟨rfl, rfl, rfl, rfl, rfl⟩ rfl rfl rfl rfl rfl (by kernel_rfl) Tryd.func5 (by kernel_rfl)
    (of_decide_eq_true (by kernel_rfl)) (by unfold Func.isWrapper; first | (rw [if_pos (by decide +kernel)]; kernel_rfl) | (rw [if_neg (by decide +kernel)]; exact ⟨rfl, rfl⟩))
    (fun os started H enc _ => lifted os started H enc)


/-- THE STATEMENT -/
theorem proved : Rows.ConfigValidatesCardSaid :=
  Claim7.holds_tied_plain_at .later [] [.data, .data, .data, .data, .pinned] true (true, "85cc27b41c328b2ecffe75decd26d14b5e3ca141174d8c43e84bb759d64e7993") false over (fun _ h => by cases h) (by kernel_rfl) (fun _ h => by cases h) configValidates_row_tie rfl ⟨rfl, rfl⟩ (by kernel_rfl) rfl
    (fun f fn hf hfn => by
      obtain rfl : f = 5 := Option.some.inj ((show Tryd.prog.funcNamed "burrow/burrowlaw13.ConfigValidates" = some 5 by kernel_rfl).symm.trans hf) |>.symm
      obtain rfl : fn = Tryd.f5 := (Option.some.inj (Tryd.func5.symm.trans hfn)).symm
      exact ⟨by kernel_rfl, fun j t ht => by
        rw [Tryd.params5] at ht
        have hm : t ∈ [22, 5, 5, 3, 55] := by simpa using Array.mem_of_getElem? ht
        have hall : ([22, 5, 5, 3, 55].all fun u => !Tryd.prog.wantsStandIn u) = true := by kernel_rfl
        exact (show Tryd.prog.wantsStandIn t = false by simpa using List.all_eq_true.1 hall t hm)⟩)
    (by kernel_rfl)
end Go.Proofs.YtdceppjoipoohaaDoor.ConfigValidatesClaim
