/- The law ScriptFormats: from its walk (a contract on values) to the row that is given. The frame is printed by law.py after the guide's own shell. -/
import Derived.Test.YtcbdghgogmcllaaGreatDoorSf12
import Derived.Test.YtcbdghgogmcllaaGreatDoorRows
import Derived.Test.YtcbdghgogmcllaaGreatDoorCards
import Derived.Test.YtcbdghgogmcllaaGreatDoorTie
import Derived.SevenTiedAt
namespace Go.Proofs.YtcbdghgogmcllaaGreatDoor.ScriptFormatsClaim
open Go Go.Sy Go.ChangeShapes Go.WideShapes Go.ChangeAt Go.RowKit
set_option linter.all false

theorem own : ownKnob Tryz.prog.godebug = none := by kernel_rfl
theorem laidOut : laidOutB Tryz.prog = true := by kernel_rfl

set_option maxRecDepth 100000 in
theorem lifted (os : Os) (started : os.Started) (H : Type) (enc : TypeId × Value → H) :
    ReturnsInHanded {} Tryz.checked os 4 .any (fun w args => (Rows.scriptFormatsSpec.pre enc Tryz.prog Tryz.f4 Rows.scriptFormatsRow.domain false w args ∧ laidMetH Tryz.prog Rows.scriptFormatsRow.laid w) ∧ sizedMet enc Tryz.prog Tryz.f4 (OpenSpec.ofChange Rows.scriptFormatsSpec) false w args) (Rows.scriptFormatsSpec.post enc Tryz.prog Tryz.f4 false true false false) := by
  refine handed_laid (C := Tryz.checked) (X := fun w _ => laidMetH Tryz.prog Rows.scriptFormatsRow.laid w) (fun _ _ _ hh h => h.of_heap hh) own started (by kernel_rfl) Tryz.func4
    (ChangeSpec.witness_shaped (enc := enc) (C := Tryz.checked) (os := os) (X := fun w _ => laidMetH Tryz.prog Rows.scriptFormatsRow.laid w) false (World.laidAll Tryz.prog os Rows.scriptFormatsRow.laid) #[.slice none 0 0, .int .u8 0, .int .u8 0, .int .i64 0, .slice none 0 0] 8 (World.laidAll_os _ _ _)
      (World.shaped_of_ZipB (by kernel_rfl) (by kernel_rfl)) (by kernel_rfl) (by kernel_rfl) (by kernel_rfl)
      (by rw [MakeChecks.laidMetH_plain _ _ _ (by kernel_rfl)]; exact laidMet_laidAll _ (by kernel_rfl) (by kernel_rfl))) ?_
  intro W base args ds gs before hval0 hW hS hL0
  rw [MakeChecks.laidMetH_plain _ _ _ (by kernel_rfl)] at hL0
  have hT : TabsOk (Old W) W := tabs_of hS hL0
  have hval : ∀ (j : Nat) t v, Tryz.f4.params[j]? = some t → args[j]? = some v → Value.okWide Tryz.prog W .any base t v := hval0
  have hW' := hW
  obtain ⟨p, q, hA0, hV, rfl, hfz, hnd⟩ := hW
  have hA : DataW.TrodAll enc Tryz.prog W 0 (fun _ => true) true Tryz.f4.params.toList args.toList ds p := hA0
  rw [Tryz.params4] at hA hval
  obtain ⟨v0, vs0, d0, ds0, p0, q0, hargs, rfl, rfl, h0, r0⟩ := trodAll_cons hA
  obtain ⟨v1, vs1, d1, ds1, p1, q1, rfl, rfl, rfl, h1, r1⟩ := trodAll_cons r0
  obtain ⟨v2, vs2, d2, ds2, p2, q2, rfl, rfl, rfl, h2, r2⟩ := trodAll_cons r1
  obtain ⟨v3, vs3, d3, ds3, p3, q3, rfl, rfl, rfl, h3, r3⟩ := trodAll_cons r2
  obtain ⟨v4, vs4, d4, ds4, p4, q4, rfl, rfl, rfl, h4, r4⟩ := trodAll_cons r3
  obtain ⟨rfl, rfl, rfl⟩ := trodAll_nil r4
  obtain rfl : args = #[v0, v1, v2, v3, v4] := by cases args; simp_all
  obtain ⟨rfl, rfl⟩ := trodVars_none hV
  have k0 := h0
  have lt0 : ∀ x ∈ p0, x.block < W.heap.size := by obtain ⟨m, hm⟩ := k0; exact DataW.trod_lt m _ _ _ hm
  have k1 := h1
  have lt1 : ∀ x ∈ p1, x.block < W.heap.size := by obtain ⟨m, hm⟩ := k1; exact DataW.trod_lt m _ _ _ hm
  have k2 := h2
  have lt2 : ∀ x ∈ p2, x.block < W.heap.size := by obtain ⟨m, hm⟩ := k2; exact DataW.trod_lt m _ _ _ hm
  have k3 := h3
  have lt3 : ∀ x ∈ p3, x.block < W.heap.size := by obtain ⟨m, hm⟩ := k3; exact DataW.trod_lt m _ _ _ hm
  have k4 := h4
  have lt4 : ∀ x ∈ p4, x.block < W.heap.size := by obtain ⟨m, hm⟩ := k4; exact DataW.trod_lt m _ _ _ hm
  obtain ⟨a0, w0, c0⟩ := open_bytes Tryz.underlying22 Tryz.underlying5 (by kernel_rfl) (hval 0 22 v0 rfl rfl) h0
  obtain ⟨a1, c1⟩ := open_byte Tryz.underlying5 (hval 1 5 v1 rfl rfl) h1
  obtain ⟨a2, c2⟩ := open_byte Tryz.underlying5 (hval 2 5 v2 rfl rfl) h2
  obtain ⟨a3, w3, c3⟩ := open_i Tryz.underlying3 (hval 3 3 v3 rfl rfl) h3
  obtain ⟨a4, w4, c4⟩ := open_row Tryz.underlying27 (opn_slice (z := 60) Tryz.underlying27 (by kernel_rfl) (by decide) (opn_struct Tryz.underlying47 rfl rfl (by kernel_rfl) (.cons (n := 1) rfl (by kernel_rfl) (opn_i64 Tryz.underlying3) (.cons (n := 22) rfl (by kernel_rfl) (opn_struct Tryz.underlying43 rfl rfl (by kernel_rfl) (.cons (n := 1) rfl (by kernel_rfl) (opn_i64 Tryz.underlying3) (.cons (n := 18) rfl (by kernel_rfl) (opn_struct Tryz.underlying41 rfl rfl (by kernel_rfl) (.cons (n := 17) rfl (by kernel_rfl) (opn_struct Tryz.underlying39 rfl rfl (by kernel_rfl) (.cons (n := 1) rfl (by kernel_rfl) (opn_bool Tryz.underlying4) (.one rfl (opn_byteArray Tryz.underlying37 Tryz.underlying5 (by kernel_rfl) (by kernel_rfl))))) (.one rfl (opn_i64 Tryz.underlying3)))) (.cons (n := 1) rfl (by kernel_rfl) (opn_bytes Tryz.underlying22 Tryz.underlying5 (by kernel_rfl)) (.cons (n := 1) rfl (by kernel_rfl) (opn_i64 Tryz.underlying2) (.one rfl (opn_str Tryz.underlying9))))))) (.cons (n := 1) rfl (by kernel_rfl) (opn_i64 Tryz.underlying3) (.cons (n := 1) rfl (by kernel_rfl) (opn_i64 Tryz.underlying3) (.cons (n := 1) rfl (by kernel_rfl) (opn_byte Tryz.underlying5) (.cons (n := 1) rfl (by kernel_rfl) (opn_i64 Tryz.underlying3) (.cons (n := 1) rfl (by kernel_rfl) (opn_i64 Tryz.underlying3) (.one rfl (opn_byteArray Tryz.underlying45 Tryz.underlying5 (by kernel_rfl) (by kernel_rfl)))))))))))) (hval 4 27 v4 rfl rfl) h4
  clear hA0 hval0
  refine (PC.calls (ScriptFormats_in a0 a1 a2 a3 a4 w0 (bounds_i64 w3) w4) (V_cons c0 (V_cons c1 (V_cons c2 (V_cons c3 (V_cons c4 (.nil _)))))) hT).mono fun e W' ⟨he, bel⟩ => ?_
  subst he
  exact ⟨_, rfl, _, _, _, [], _, [], hW', trodAll_mk1 (shut_bool Tryz.underlying4 _), (trodAll_cons_mk (Below.trod laidOut (by kernel_rfl) (of_decide_eq_true (by kernel_rfl)) k0 bel lt0) (trodAll_cons_mk (Below.trod laidOut (by kernel_rfl) (of_decide_eq_true (by kernel_rfl)) k1 bel lt1) (trodAll_cons_mk (Below.trod laidOut (by kernel_rfl) (of_decide_eq_true (by kernel_rfl)) k2 bel lt2) (trodAll_cons_mk (Below.trod laidOut (by kernel_rfl) (of_decide_eq_true (by kernel_rfl)) k3 bel lt3) (trodAll_cons_mk (Below.trod laidOut (by kernel_rfl) (of_decide_eq_true (by kernel_rfl)) k4 bel lt4) (trodAll_mk0)))))), rfl, bel.frame _, fun h => by cases h⟩

theorem over : Rows.scriptFormatsRow.holds Tryz.pinned (OpenSpec.ofChange Rows.scriptFormatsSpec) :=
  OpenClaim.holds_of_wide 4 Tryz.f4 rfl rfl rfl rfl rfl rfl rfl ⟨rfl, rfl, rfl, rfl, rfl⟩ rfl rfl rfl rfl rfl (by kernel_rfl) Tryz.func4 (by kernel_rfl)
    (of_decide_eq_true (by kernel_rfl)) (by unfold Func.isWrapper; first | (rw [if_pos (by decide +kernel)]; kernel_rfl) | (rw [if_neg (by decide +kernel)]; exact ⟨rfl, rfl⟩))
    (fun os started H enc _ => lifted os started H enc)


/-- THE STATEMENT -/
theorem proved : Rows.ScriptFormatsCardSaid :=
  Claim7.holds_tied_plain_at .later [] [.data, .data, .data, .data, .sentinel, .sentinel, .pinned] true (true, "df1ea88f696da8b7d6b48e66d0e898f09ddb9145154868de66c1275de2da044c") true over (fun _ h => by cases h) (by kernel_rfl) (fun _ h => by cases h) scriptFormats_row_tie rfl ⟨rfl, rfl⟩ (by kernel_rfl) rfl
    (fun f fn hf hfn => by
      obtain rfl : f = 4 := Option.some.inj ((show Tryz.prog.funcNamed "burrow/burrowlaw35.ScriptFormats" = some 4 by kernel_rfl).symm.trans hf) |>.symm
      obtain rfl : fn = Tryz.f4 := (Option.some.inj (Tryz.func4.symm.trans hfn)).symm
      exact ⟨by kernel_rfl, fun j t ht => by
        rw [Tryz.params4] at ht
        have hm : t ∈ [22, 5, 5, 3, 27] := by simpa using Array.mem_of_getElem? ht
        have hall : ([22, 5, 5, 3, 27].all fun u => !Tryz.prog.wantsStandIn u) = true := by kernel_rfl
        exact (show Tryz.prog.wantsStandIn t = false by simpa using List.all_eq_true.1 hall t hm)⟩)
    (by kernel_rfl)
end Go.Proofs.YtcbdghgogmcllaaGreatDoor.ScriptFormatsClaim
