/- Lemmas and definitions of this claim (own texts, joined by a program; what the claim does not use is left out). -/
import Derived.Test.YtdceppjoipoohaaDoorCc11
import Derived.Tactics
import Derived.Tactics2
import Derived.StillTactics
import Derived.Laws.Pointers
import Derived.RegionTactic
import Derived.Lib.Builder
import Derived.Lib.UnsafeStr
import Derived.Laws.Externs
section
namespace Go.Proofs.YtdceppjoipoohaaDoor
open Go Go.Sy
set_option linter.all false
set_option maxRecDepth 100000
set_option maxHeartbeats 4000000
open Go.RowKit (Below)
theorem tBp : Tryd.prog.underlying 92 = some (.pointer 94) := by kernel_rfl
theorem tUp : Tryd.prog.underlying 131 = some .unsafePointer := by kernel_rfl
theorem tSb : Tryd.prog.underlying 22 = some (.slice 5) := by kernel_rfl
theorem tSt : Tryd.prog.underlying 9 = some .string := by kernel_rfl
theorem u8_info : ∃ i z, Tryd.prog.info? 5 = some i ∧ i.size = 1 ∧ i.bytes = 1 ∧ i.zero = some z ∧ z.cells.size = 1 := by
  obtain ⟨i, h1, h2⟩ := Option.map_eq_some_iff.1 (show (Tryd.prog.info? 5).map (fun i => (i.zero, i.size, i.bytes)) = some (some (.int .u8 0), 1, 1) by kernel_rfl)
  simp only [Prod.mk.injEq] at h2
  exact ⟨i, _, h1, h2.2.1, h2.2.2, h2.1, rfl⟩
theorem tBi : ∃ j, Tryd.prog.info? 94 = some j ∧ j.size = 2 := by
  obtain ⟨j, h1, h2⟩ := Option.map_eq_some_iff.1 (show (Tryd.prog.info? 94).map (·.size) = some 2 by kernel_rfl)
  exact ⟨j, h1, h2⟩
theorem tBl : liesAt Tryd.prog Tryd.prog.depth 94 (2 / Tryd.prog.cellsOf 94) 0 94 1 = true := by kernel_rfl
theorem copyCheck_used (b o : Nat) (w : World) (h0 : w.cell? ⟨b, o, none⟩ = some (.pointer (some ⟨b, o, none⟩))) :
    Calls Tryd.prog 86 #[.pointer (some ⟨b, o, none⟩)] w fun e w' => e = .returned (.tuple #[]) ∧ w' = w := by
  obtain ⟨j, hj, _⟩ := tBi
  go_enter Tryd.func86, Tryd.ntmps86
  go_wp2
  rw [Lib.run_neq_ptr_same w _ tBp hj]
  go_wp2
  go_end0
  exact ⟨rfl, rfl⟩
theorem copyCheck_fresh (b : Nat) (w : World) (h0 : w.cell? ⟨b, 0, none⟩ = some (.pointer none)) (hsh : w.shape? b = some (94, 2)) (hfz : w.frozen? ⟨b, 0, none⟩ = false) :
    Calls Tryd.prog 86 #[.pointer (some ⟨b, 0, none⟩)] w fun e w' => e = .returned (.tuple #[]) ∧ w' = w.setCell ⟨b, 0, none⟩ (.pointer (some ⟨b, 0, none⟩)) := by
  obtain ⟨j, hj, hjs⟩ := tBi
  go_enter Tryd.func86, Tryd.ntmps86
  go_wp2
  rw [Lib.run_to_unsafe w ⟨b, 0, none⟩ tBp tUp hj (by rw [hjs]; decide) hsh (Nat.zero_lt_succ 1)]
  simp only [Result.andThen]
  rw [Oper.upon_value]
  go_wp2
  rw [run_callFunc_extern Tryd.func103 (by kernel_rfl) (by kernel_rfl) (by kernel_rfl) (e := Extern.AbiNoEscape.same) (by kernel_rfl)]
  rw [Lib.run_noEscape]
  simp only [Result.andThen]
  rw [Oper.upon_value]
  go_wp2
  rw [Lib.run_from_unsafe w ⟨b, 0, none⟩ tUp tBp hj hsh tBl]
  simp only [Result.andThen]
  rw [Oper.upon_value]
  go_wp2
  go_end0
  exact ⟨rfl, rfl⟩
section
variable {N n : Nat} {I0 I : Nat → Nat → Prop} {μ0 μ : List (List Sy.Place)} {B : List Box} {w0 w : World} {a : Act} {fr : Fr} {ops : Array Oper}
theorem cc_used {β : Nat} {bc : CV} {args : List CV} (ha : Is args [.ptr β 0]) (hB : B[β]? = some ⟨[.ptr β 0, bc], false⟩) : ACall Tryd.prog 86 args B fun c B' => c = .tup [] ∧ B' = B := by
  have ha : args = _ := ha
  subst ha
  refine ⟨by kernel_rfl, fun N I μ w vs hBR hv => ?_⟩
  obtain ⟨v, vs', rfl, h1, _, h3⟩ := R.cons_iff.1 hv
  rw [R.nil_iff] at h3
  subst h3
  obtain ⟨p, us, p1, rfl, p3, p4⟩ := box_ptr hBR h1 hB rfl
  obtain ⟨u, us', rfl, h4, _, _⟩ := R.cons_iff.1 p3
  obtain ⟨p', us2, q1, rfl, _, _⟩ := box_ptr hBR h4 hB rfl
  have he : p' = p := by rw [p1] at q1; simpa using q1.symm
  subst he
  have h0 := p4 0 _ rfl
  refine (copyCheck_used p'.b (p'.o + 0) w h0).mono fun e w' ⟨he, hw⟩ => ⟨.tup [], .tuple #[], B, I, μ, he, ⟨rfl, rfl⟩, ?_⟩
  subst hw
  exact ⟨.tup (.nil _) (.nil _), hBR, .refl _ _ _, Below.refl _ _⟩
theorem cc_fresh {β : Nat} {bc : CV} {v : Value} (hBR : BRel N I μ B w) (hv : V I μ w (.ptr β 0) v) (hB : B[β]? = some ⟨[.nilP, bc], false⟩) (hsh : ∃ b, v = .pointer (some ⟨b, 0, none⟩) ∧ w.shape? b = some (94, 2)) :
    Calls Tryd.prog 86 #[v] w fun e w' => e = .returned (.tuple #[]) ∧ Step N I μ w (.tup []) (.tuple #[]) (B.set β ⟨[.ptr β 0, bc], false⟩) I μ w' := by
  obtain ⟨p, us, p1, hve, p3, p4⟩ := box_ptr hBR hv hB rfl
  obtain ⟨b, hb, hs⟩ := hsh
  subst hve
  have hb0 := hb
  simp at hb
  obtain ⟨rfl, ho⟩ := hb
  obtain ⟨u, us', rfl, h4, _, _⟩ := R.cons_iff.1 p3
  have h0 := p4 0 _ rfl
  rw [h4.nilP_inv, ho] at h0
  obtain ⟨p', q1, q2, q3, q4, q5, q6, q8⟩ := one_place hBR hB rfl p1 (List.mem_singleton.2 rfl)
  have he : p' = p := by rw [p1] at q1; simpa using q1.symm
  subst he
  have hf := (q8.cell (j := 0) (by simp)).2
  rw [hb0]
  refine (copyCheck_fresh p'.b w h0 hs hf).mono fun e w' ⟨he, hw⟩ => ⟨he, ?_⟩
  have hr : R I μ w true [.ptr β 0] [.pointer (some ⟨p'.b, 0, none⟩)] := R.cons (by rw [← hb0]; exact hv) (fun _ => rfl) (.nil _)
  obtain ⟨w1, w2, w3⟩ := hBR.write (off := 0) hB rfl p1 hr (by simp)
  rw [ho] at w1 w2 w3
  subst hw
  exact ⟨.tup (.nil _) (.nil _), w1, w2, w3⟩
theorem still_step {o : Oper} {c : CV} {rest : List Oper} {Q' : Exit → Act → World → Prop} {v : Value} (hs : St N n I0 μ0 w0 fr B a I μ w) (hg : o.guard = none) (hd : dstOk n o = true) (hnd : noDefer o = true) (hr : (execOp a.eval o).run Tryd.prog w = .ok (.value v) w) (hv : V I μ w c v)
    (k : ∀ a', (∀ i, a'.tmps.getD i undef = if o.dst = some i then v else a.tmps.getD i undef) → St N n I0 μ0 w0 (upd fr o.dst c) B a' I μ w → wpListIn (freeF none) 0 Tryd.prog ops Q' rest a' w) : wpListIn (freeF none) 0 Tryd.prog ops Q' (o :: rest) a w := by
  have hd' : ∀ t, o.dst = some t → t < n := fun t ht => by simpa [dstOk, ht] using hd
  unfold wpListIn
  rw [show Region.wanted o (yielded ops a.tmps) = true by unfold Region.wanted; rw [hg], if_pos rfl]
  refine wp_free hnd ?_
  unfold Oper.wp
  rw [hr, Oper.upon_value]
  exact k _ (put_getD a o.dst v (fun t ht => by rw [hs.size]; exact hd' t ht)) (hs.put ⟨hv, hs.box, .refl _ _ _, Below.refl _ _⟩ hd')
theorem run_region {id : Nat} {l : List Oper} {Q' : Exit → Act → World → Prop} (h : wpListIn (freeF none) 0 Tryd.prog l.toArray Q' l a w) : (Code.region id l.toArray false).wp Tryd.prog Q' a w :=
  (wpIn_wide (n := 0)).1 (wpIn_region_list (F := freeF none) (by simpa using h))
theorem ws_first {β : Nat} {v : Value} {s : List UInt8} (hBR : BRel N I μ B w) (hv : V I μ w (.ptr β 0) v) (hB : B[β]? = some ⟨[.nilP, .nilS], false⟩) (hsh : ∃ b, v = .pointer (some ⟨b, 0, none⟩) ∧ w.shape? b = some (94, 2)) (hs0 : s ≠ []) (hsl : s.length < 1000000000) :
    Calls Tryd.prog 56 #[v, .string ⟨s.toArray⟩] w fun e w' => ∃ c v' B' I' μ', e = .returned v' ∧ (c = .tup [.int .i64 s.length, .nilI] ∧ B' = B.set β ⟨[.ptr β 0, .bview B.length s.length 5], false⟩ ++ [⟨s.map byteC, false⟩]) ∧ Step N I μ w c v' B' I' μ' w' := by
  have hβ := (List.getElem?_eq_some_iff.1 hB).1
  have hargs : R I μ w false [.ptr β 0, .str s] [v, .string ⟨s.toArray⟩] := .cons hv (by simp) (.str s (.nil _))
  refine call_intro mixed.quiet Tryd.func56 rfl hBR hargs (by rw [Tryd.ntmps56]; simp) fun a Q' hst hq => ?_
  have h0t := hst.frame 0
  refine wp_seq (run_region ?_)
  refine still_step (c := .int .i64 0) (v := .int .i64 0) hst rfl rfl rfl (by simp [execOp]; rfl) (.int _ _ (.nil _)) fun a1 e1 s1 => ?_
  refine still_step (c := .nilI) (v := .nilIface) s1 rfl rfl rfl (by simp [execOp]; rfl) (.nilI (.nil _)) fun a2 e2 s2 => ?_
  have hu : ∀ {u : Value}, V I μ w (.ptr β 0) u → u = v := fun {u} h => by
    obtain ⟨p, _, p1, p2, _, _⟩ := box_ptr hBR h hB rfl
    obtain ⟨p', _, q1, q2, _, _⟩ := box_ptr hBR hv hB rfl
    have he : p' = p := by rw [p1] at q1; simpa using q1.symm
    rw [p2, q2, he]
  have hv0 := hu h0t
  unfold wpListIn
  refine wp_seq (run_region ?_)
  have t2 : a2.tmps.getD 0 undef = v := by rw [e2, if_neg (by simp), e1, if_neg (by simp), hv0]
  refine still_step (c := .ptr β 0) (v := v) s2 rfl rfl rfl (by simp [execOp]; exact t2) hv fun a3 e3 s3 => ?_
  have t3 : a3.tmps.getD 6 undef = v := by rw [e3, if_pos rfl]
  unfold wpListIn
  rw [show Region.wanted _ (yielded _ a3.tmps) = true from rfl, if_pos rfl]
  refine wp_free rfl ?_
  unfold Oper.wp
  have hrun : ∀ (o : Oper) (ts : Array TypeId), o.op = .call { callee := .value (.func 86), args := #[.tmp 6], argTypes := ts } → (execOp a3.eval o).run Tryd.prog w = .ok (.enter 86 #[v]) w := fun o ts ho => by
    simp only [execOp, ho, resolve, Act.eval, Deferred.ofValue, Sem.run_bind, Sem.run_pure, Result.andThen_ok, invoke]
    rw [callable_run (by kernel_rfl)]
    simp [Act.eval, t3]
  rw [hrun _ _ rfl, Oper.upon_enter]
  refine (cc_fresh hBR hv hB hsh).mono fun e w' ⟨he, hstep⟩ => ?_
  subst he
  have s4 := s3.put hstep (d := some 7) (fun t ht => by cases ht; decide)
  have hx := bx_pack hB
  obtain ⟨p1, p2, p3, p4, p5, p6, p7, p8, p9, p10, p11, p12, p13⟩ := hx
  have hl0 : s.length ≠ 0 := by simpa using hs0
  obtain ⟨i, z, hi, hi1, hib, hiz, hz1⟩ := u8_info
  refine (?_ : AWc Tryd.prog Tryd.f56.ntmps _ (retC Tryd.prog Tryd.f56.results.toList _) _ _) N I μ w I μ w' _ Q' s4 hq
  refine AWc_seq ?_
  refine AWc_bld (l1 := [_, _, _, _, _, _]) (l2 := [_, _, _]) rfl (by rfl) (by rfl) ?_
  repeat' (first | (with_reducible first | apply jA | apply jB | apply jC | apply jD | apply jE | apply jF | apply jG | apply jH | apply jI | apply jJ | apply jK | apply jL | apply jM | apply jN | apply jO) | ((with_reducible first | apply jP | apply jQ); rfl) | ((first | ((with_reducible first | apply jR | apply jS | apply jT); rfl; rfl) | (with_reducible first | apply jU | apply jV | apply jW) | ((with_reducible first | apply jX | apply jY | apply jZ); rfl)); all_goals (first | ((with_reducible show Is _ _); exact kE) | ((with_reducible refine fun (hc : (_ : Bool) = _) => ?_); (try simp only [xZ, xY, xP, reduceCtorEq] at hc); (try (have hx : True := hc; clear hx hc)); (try exact kX)) | ((fail_if_success (with_reducible first | show Is _ _ | show ACall _ _ _ _ _)); (try ((with_reducible show _ ∨ _); exact kT))))))
  refine ⟨_, _, _, _, _, i, z, [], s, (B.set β ⟨[.ptr β 0, .nilS], false⟩).length, _, rfl, rfl, rfl, tSb, tSt, hi, hi1, hib, hiz, hz1, hs0, by simp; omega, by (simp (disch := omega) [go_sem, *]) <;> (try omega), .inl ⟨by (simp (disch := omega) [go_sem, *]) <;> (try omega), rfl, rfl, rfl⟩, ?_⟩
  repeat' (first | (with_reducible first | apply jA | apply jB | apply jC | apply jD | apply jE | apply jF | apply jG | apply jH | apply jI | apply jJ | apply jK | apply jL | apply jM | apply jN | apply jO) | ((with_reducible first | apply jP | apply jQ); rfl) | ((first | ((with_reducible first | apply jR | apply jS | apply jT); rfl; rfl) | (with_reducible first | apply jU | apply jV | apply jW) | ((with_reducible first | apply jX | apply jY | apply jZ); rfl)); all_goals (first | ((with_reducible show Is _ _); exact kE) | ((with_reducible refine fun (hc : (_ : Bool) = _) => ?_); (try simp only [xZ, xY, xP, reduceCtorEq] at hc); (try (have hx : True := hc; clear hx hc)); (try exact kX)) | ((fail_if_success (with_reducible first | show Is _ _ | show ACall _ _ _ _ _)); (try ((with_reducible show _ ∨ _); exact kT))))))
  refine WPc_sound mixed.mixed _ _ _ _ (by kernel_rfl) ?_
  repeat' (first | (with_reducible first | apply jA | apply jB | apply jC | apply jD | apply jE | apply jF | apply jG | apply jH | apply jI | apply jJ | apply jK | apply jL | apply jM | apply jN | apply jO) | ((with_reducible first | apply jP | apply jQ); rfl) | ((first | ((with_reducible first | apply jR | apply jS | apply jT); rfl; rfl) | (with_reducible first | apply jU | apply jV | apply jW) | ((with_reducible first | apply jX | apply jY | apply jZ); rfl)); all_goals (first | ((with_reducible show Is _ _); exact kE) | ((with_reducible refine fun (hc : (_ : Bool) = _) => ?_); (try simp only [xZ, xY, xP, reduceCtorEq] at hc); (try (have hx : True := hc; clear hx hc)); (try exact kX)) | ((fail_if_success (with_reducible first | show Is _ _ | show ACall _ _ _ _ _)); (try ((with_reducible show _ ∨ _); exact kT))))))
  exact ⟨rfl, rfl⟩
theorem ws_at {β γ : Nat} {m : Bool} {l s : List UInt8} {args : List CV} (ha : Is args [.ptr β 0, .str s]) (hB : B[β]? = some ⟨[.ptr β 0, .bview γ l.length 5], false⟩) (hG : B[γ]? = some ⟨l.map byteC, m⟩) (hne : β ≠ γ) (hs0 : s ≠ []) (hl : l.length + s.length < 1000000000) :
    ACall Tryd.prog 56 args B fun c B' => c = .tup [.int .i64 s.length, .nilI] ∧ B' = (B.set γ ⟨(l ++ s).map byteC, true⟩).set β ⟨[.ptr β 0, .bview γ (l.length + s.length) 5], false⟩ := by
  have ha : args = _ := ha
  subst ha
  obtain ⟨i, z, hi, hi1, hib, hiz, hz1⟩ := u8_info
  have hcc : ∀ {args : List CV}, Is args [.ptr β 0] → ACall Tryd.prog 86 args B fun c B' => c = .tup [] ∧ B' = B := fun h => cc_used h hB
  have hβ : (B.set γ ⟨(l ++ s).map byteC, true⟩)[β]? = some ⟨[.ptr β 0, .bview γ l.length 5], false⟩ := by rw [List.getElem?_set_ne (Ne.symm hne), hB]
  refine acall_AWc mixed Tryd.func56 rfl (by kernel_rfl) (by rw [Tryd.ntmps56]; simp) ?_
  refine AWc_w mixed (by kernel_rfl) (fun fr2 B2 => fr2 0 = .ptr β 0 ∧ fr2 1 = .str s ∧ B2 = B) ?_ ?_
  · repeat' (first | (with_reducible first | apply jA | apply jB | apply jC | apply jD | apply jE | apply jF | apply jG | apply jH | apply jI | apply jJ | apply jK | apply jL | apply jM | apply jN | apply jO) | ((with_reducible first | apply jP | apply jQ); rfl) | ((first | ((with_reducible first | apply jR | apply jS | apply jT); rfl; rfl) | (with_reducible first | apply jU | apply jV | apply jW) | ((with_reducible first | apply jX | apply jY | apply jZ); rfl)); all_goals (first | ((with_reducible show Is _ _); exact kE) | ((with_reducible refine fun (hc : (_ : Bool) = _) => ?_); (try simp only [xZ, xY, xP, reduceCtorEq] at hc); (try (have hx : True := hc; clear hx hc)); (try exact kX)) | ((fail_if_success (with_reducible first | show Is _ _ | show ACall _ _ _ _ _)); (try ((with_reducible show _ ∨ _); exact kT))))))
    exact ⟨by (simp (disch := omega) [go_sem, *]) <;> (try omega), by (simp (disch := omega) [go_sem, *]) <;> (try omega), rfl⟩
  rintro fr B2 ⟨f0, f1, rfl⟩
  refine AWc_w mixed (by kernel_rfl) (fun fr2 B3 => fr2 0 = .ptr β 0 ∧ fr2 1 = .str s ∧ B3 = B2) ?_ ?_
  · repeat' (first | (with_reducible first | apply jA | apply jB | apply jC | apply jD | apply jE | apply jF | apply jG | apply jH | apply jI | apply jJ | apply jK | apply jL | apply jM | apply jN | apply jO) | ((with_reducible first | apply jP | apply jQ); rfl) | ((first | ((with_reducible first | apply jR | apply jS | apply jT); rfl; rfl) | (with_reducible first | apply jU | apply jV | apply jW) | ((with_reducible first | apply jX | apply jY | apply jZ); rfl) | ((with_reducible first | apply kA | apply kB | apply kC); rfl)); all_goals (first | ((with_reducible show Is _ _); exact kE) | ((with_reducible refine fun (hc : (_ : Bool) = _) => ?_); (try simp only [xZ, xY, xP, reduceCtorEq] at hc); (try (have hx : True := hc; clear hx hc)); (try exact kX)) | ((with_reducible show ACall _ _ _ _ _); (first | ((with_reducible apply hcc) <;> exact kD))) | ((fail_if_success (with_reducible first | show Is _ _ | show ACall _ _ _ _ _)); (try ((with_reducible show _ ∨ _); exact kT))))))
    exact ⟨by (simp (disch := omega) [go_sem, *]) <;> (try omega), by (simp (disch := omega) [go_sem, *]) <;> (try omega), rfl⟩
  clear f0 f1 fr
  rintro fr B ⟨f0, f1, rfl⟩
  refine AWc_seq ?_
  refine AWc_bld (l1 := [_, _, _, _, _, _]) (l2 := [_, _, _]) rfl (by rfl) (by rfl) ?_
  repeat' (first | (with_reducible first | apply jA | apply jB | apply jC | apply jD | apply jE | apply jF | apply jG | apply jH | apply jI | apply jJ | apply jK | apply jL | apply jM | apply jN | apply jO) | ((with_reducible first | apply jP | apply jQ); rfl) | ((first | ((with_reducible first | apply jR | apply jS | apply jT); rfl; rfl) | (with_reducible first | apply jU | apply jV | apply jW) | ((with_reducible first | apply jX | apply jY | apply jZ); rfl)); all_goals (first | ((with_reducible show Is _ _); exact kE) | ((with_reducible refine fun (hc : (_ : Bool) = _) => ?_); (try simp only [xZ, xY, xP, reduceCtorEq] at hc); (try (have hx : True := hc; clear hx hc)); (try exact kX)) | ((fail_if_success (with_reducible first | show Is _ _ | show ACall _ _ _ _ _)); (try ((with_reducible show _ ∨ _); exact kT))))))
  refine ⟨_, _, _, _, _, i, z, l, s, γ, _, rfl, rfl, rfl, tSb, tSt, hi, hi1, hib, hiz, hz1, hs0, by omega, by (simp (disch := omega) [go_sem, *]) <;> (try omega), .inr ⟨m, by (simp (disch := omega) [go_sem, *]) <;> (try omega), hG, rfl⟩, ?_⟩
  repeat' (first | (with_reducible first | apply jA | apply jB | apply jC | apply jD | apply jE | apply jF | apply jG | apply jH | apply jI | apply jJ | apply jK | apply jL | apply jM | apply jN | apply jO) | ((with_reducible first | apply jP | apply jQ); rfl) | ((first | ((with_reducible first | apply jR | apply jS | apply jT); rfl; rfl) | (with_reducible first | apply jU | apply jV | apply jW) | ((with_reducible first | apply jX | apply jY | apply jZ); rfl)); all_goals (first | ((with_reducible show Is _ _); exact kE) | ((with_reducible refine fun (hc : (_ : Bool) = _) => ?_); (try simp only [xZ, xY, xP, reduceCtorEq] at hc); (try (have hx : True := hc; clear hx hc)); (try exact kX)) | ((fail_if_success (with_reducible first | show Is _ _ | show ACall _ _ _ _ _)); (try ((with_reducible show _ ∨ _); exact kT))))))
  refine WPc_sound mixed.mixed _ _ _ _ (by kernel_rfl) ?_
  repeat' (first | (with_reducible first | apply jA | apply jB | apply jC | apply jD | apply jE | apply jF | apply jG | apply jH | apply jI | apply jJ | apply jK | apply jL | apply jM | apply jN | apply jO) | ((with_reducible first | apply jP | apply jQ); rfl) | ((first | ((with_reducible first | apply jR | apply jS | apply jT); rfl; rfl) | (with_reducible first | apply jU | apply jV | apply jW) | ((with_reducible first | apply jX | apply jY | apply jZ); rfl)); all_goals (first | ((with_reducible show Is _ _); exact kE) | ((with_reducible refine fun (hc : (_ : Bool) = _) => ?_); (try simp only [xZ, xY, xP, reduceCtorEq] at hc); (try (have hx : True := hc; clear hx hc)); (try exact kX)) | ((fail_if_success (with_reducible first | show Is _ _ | show ACall _ _ _ _ _)); (try ((with_reducible show _ ∨ _); exact kT))))))
  exact ⟨rfl, rfl⟩
end
end Go.Proofs.YtdceppjoipoohaaDoor
end
section
namespace Go.Proofs.YtdceppjoipoohaaDoor
open Go Go.Sy
set_option linter.all false
set_option maxRecDepth 100000
set_option maxHeartbeats 4000000
open Go.RowKit (Below)
section
variable {N n : Nat} {I0 I : Nat → Nat → Prop} {μ0 μ : List (List Sy.Place)} {B : List Box} {w0 w : World} {a : Act} {fr : Fr} {ops : Array Oper}
theorem want_none {o : Oper} (h : o.guard = none) : Region.wanted o (yielded ops a.tmps) = true := by unfold Region.wanted; rw [h]
theorem AWz_new {id1 id2 : Nat} {d d2 : Tmp} {o1 o2 : Oper} {ts : Array TypeId} {rest : Code} {Q : Exit → Fr → List Box → Prop} {s : List UInt8} (h1 : o1.op = .alloc 94) (e1 : o1.dst = some d) (g1 : o1.guard = none) (k1 : d < n)
    (h2 : o2.op = .call { callee := .value (.func 56), args := #[.tmp d, .const (.string ⟨s.toArray⟩)], argTypes := ts }) (e2 : o2.dst = some d2) (g2 : o2.guard = none) (k2 : d2 < n) (hs0 : s ≠ []) (hsl : s.length < 1000000000)
    (h : AWz Tryd.prog n rest Q (upd (upd fr (some d) (.ptr B.length 0)) (some d2) (.tup [.int .i64 s.length, .nilI])) (B ++ [⟨[.ptr B.length 0, .bview (B.length + 1) s.length 5], false⟩, ⟨s.map byteC, false⟩])) :
    AWz Tryd.prog n (.seq (.region id1 [o1].toArray false) (.seq (.region id2 [o2].toArray false) rest)) Q fr B := by
  intro N I0 w0 I μ w a Q' h0 hs hq
  refine wp_seq (run_region ?_)
  obtain ⟨z, hz1, hz2, hz3⟩ := zeros_rel (I := I) (μ := μ) (w := w) (show zerosOf Tryd.prog 94 = some [.nilP, .nilS] by kernel_rfl)
  have hzs : z.cells.size = 2 := by have := hz3.len; simp at this; omega
  obtain ⟨b1, b2⟩ := hs.box.push (alloc_heap w (.cells z.cells 94 (0, 0))) (fun j _ hj => by omega) hz3 (rest := []) (by simp)
  have hv : V I (μ ++ [[⟨w.heap.size, 0, 0, 2⟩]]) (w.alloc (.cells z.cells 94)) (.ptr B.length 0) (.pointer (some ⟨w.heap.size, 0, none⟩)) := .ptr B.length 0 _ ⟨w.heap.size, 0, 0, 2⟩ (last_place hs.box _) (by simp) (Nat.le_refl _) (.nil _)
  have st : Step N I μ w (.ptr B.length 0) (.pointer (some ⟨w.heap.size, 0, none⟩)) _ I _ (w.alloc (.cells z.cells 94)) := ⟨hv, b1, b2, Below.of_heap hs.box.low (alloc_heap w _) rfl rfl rfl⟩
  have s1 := hs.put st (d := some d) (fun t ht => by cases ht; exact k1)
  unfold wpListIn
  rw [want_none g1, if_pos rfl]
  refine wp_free (by simp [noDefer, h1]) ?_
  unfold Oper.wp
  rw [show (execOp a.eval o1).run Tryd.prog w = .ok (.value (.pointer (some ⟨w.heap.size, 0, none⟩))) (w.alloc (.cells z.cells 94)) by simp [execOp, h1, Instr.alloc, hz1, newVar, newRow], Oper.upon_value, e1]
  unfold wpListIn
  refine wp_seq (run_region ?_)
  unfold wpListIn
  rw [want_none g2, if_pos rfl]
  refine wp_free (by simp [noDefer, h2]) ?_
  unfold Oper.wp
  have t1 : (a.put (some d) (.pointer (some ⟨w.heap.size, 0, none⟩))).tmps.getD d undef = .pointer (some ⟨w.heap.size, 0, none⟩) := by
    rw [put_getD a (some d) _ (fun t ht => by cases ht; rw [hs.size]; exact k1), if_pos rfl]
  have hrun : ∀ (a2 : Act) (w2 : World), a2.tmps.getD d undef = .pointer (some ⟨w.heap.size, 0, none⟩) → (execOp a2.eval o2).run Tryd.prog w2 = .ok (.enter 56 #[.pointer (some ⟨w.heap.size, 0, none⟩), .string ⟨s.toArray⟩]) w2 := fun a2 w2 ht => by
    simp only [execOp, h2, resolve, Act.eval, Deferred.ofValue, Sem.run_bind, Sem.run_pure, Result.andThen_ok, invoke]
    rw [callable_run (by kernel_rfl)]
    simp [Act.eval, ht]
  rw [hrun _ _ t1, Oper.upon_enter]
  refine (ws_first s1.box hv (by rw [List.getElem?_append_right (Nat.le_refl _), Nat.sub_self]; rfl) ⟨w.heap.size, rfl, by rw [World.shape?, push_new (alloc_heap w _)]; simp only [hzs]⟩ hs0 hsl).mono fun e w' ⟨c, v', B', I', μ', he, ⟨hc, hB'⟩, hst⟩ => ?_
  subst he hc hB'
  have s2 := s1.put hst (d := some d2) (fun t ht => by cases ht; exact k2)
  rw [e2]
  unfold wpListIn
  refine h N I0 w0 I' μ' w' _ Q' h0 ?_ hq
  have hb : (B ++ [({ cells := [.nilP, .nilS] } : Box)]).set B.length ⟨[.ptr B.length 0, .bview (B ++ [({ cells := [.nilP, .nilS] } : Box)]).length s.length 5], false⟩ ++ [⟨s.map byteC, false⟩] = B ++ [⟨[.ptr B.length 0, .bview (B.length + 1) s.length 5], false⟩, ⟨s.map byteC, false⟩] := by
    rw [bx_set0 rfl]; simp
  rw [← hb]
  exact s2
theorem string_run (b o g cap : Nat) (l : List UInt8) (w : World) (hg : N ≤ g) (c1 : w.cell? ⟨b, o + 1, none⟩ = some (.slice (some ⟨g, 0, none⟩) l.length cap)) (hcap : cap ≠ 0) (hl : l ≠ []) (hlen : l.length < 1000000000) (hsh : ∃ c, w.shape? g = some (5, c) ∧ l.length ≤ c) (hcells : ∀ (j : Nat) (x : UInt8), l[j]? = some x → w.cell? ⟨g, j, none⟩ = some (.int .u8 x.toNat)) :
    Calls Tryd.prog 59 #[.pointer (some ⟨b, o, none⟩)] w fun e w' => e = .returned (.string ⟨l.toArray⟩) ∧ Below N w w' ∧ ∀ k, k ≠ g → w'.heap[k]? = w.heap[k]? := by
  have hl0 : l.length ≠ 0 := by simpa using hl
  obtain ⟨c, hs1, hs2⟩ := hsh
  have c1' : w.drew.cell? ⟨b, o + 1, none⟩ = some (.slice (some ⟨g, 0, none⟩) l.length cap) := c1
  have tP : Tryd.prog.underlying 115 = some (.pointer 5) := by kernel_rfl
  have hSD : (Builtin.unsafeSliceData_ #[22] 115 #[.slice (some ⟨g, 0, none⟩) l.length cap]).run Tryd.prog w.drew = .ok (.pointer (some ⟨g, 0, none⟩)) w.drew := Lib.run_unsafeSliceData_row _ _ _ _ _ _ hcap
  have hUS : (Builtin.unsafeString_ #[115, 3] 9 #[.pointer (some ⟨g, 0, none⟩), .int .i64 l.length]).run Tryd.prog w.drew = .ok (.string ⟨l.toArray⟩) (w.drew.freeze ⟨g, 0, none⟩ l.length) :=
    Lib.run_unsafeString_row w.drew 115 3 9 5 tP (by kernel_rfl) g c hs1 l hl hs2 (by omega) (fun j x hx => by rw [Addr.add_lit, Nat.zero_add]; exact hcells j x hx)
  go_enter Tryd.func59, Tryd.ntmps59
  go_wp2
  go_region
  all_goals (go_wp2; go_ret)
  all_goals
    refine ⟨rfl, Lib.below_freeze (Below.drew (Below.refl N w)) (p := ⟨g, 0, none⟩) hg _, fun k hk => ?_⟩
    simp only [World.freeze]
    split
    · rfl
    · rw [Array.getElem?_modify, if_neg (Ne.symm hk)]; rfl
theorem AWz_string {id : Nat} {d d1 : Tmp} {β γ : Nat} {mm : Bool} {l : List UInt8} {o : Oper} {ts : Array TypeId} {l2 : List Oper} {Q : Exit → Fr → List Box → Prop} (h1 : o.op = .call { callee := .value (.func 59), args := #[.tmp d], argTypes := ts }) (e1 : o.dst = some d1) (g1 : o.guard = none) (k1 : d1 < n) (n2 : l2.all noDefer = true)
    (hd : fr d = .ptr β 0) (hβ : B[β]? = some ⟨[.ptr β 0, .bview γ l.length 5], false⟩) (hγ : B[γ]? = some ⟨l.map byteC, mm⟩) (hl : l ≠ []) (hlen : l.length < 1000000000)
    (h : ∀ vs : Nat → Value, WPo Tryd.prog n (o :: l2).toArray (fun fr B => Q .normal fr B) l2 (upd (fun i => .raw (vs i)) (some d1) (.str l)) []) : AWz Tryd.prog n (.region id (o :: l2).toArray false) Q fr B := by
  intro N I0 w0 I μ w a Q' h0 hs hq
  refine (wpIn_wide (n := 0)).1 (wpIn_region_list (F := freeF none) ?_)
  rw [show (o :: l2).toArray.toList = o :: l2 by simp]
  have hB := hs.box
  have hv := hs.frame d
  rw [hd] at hv
  obtain ⟨p, us, p1, p2, p3, p4⟩ := box_ptr hB hv hβ rfl
  obtain ⟨u0, us0, rfl, _, _, r3⟩ := R.cons_iff.1 p3
  obtain ⟨u1, us1, rfl, r4, _, _⟩ := R.cons_iff.1 r3
  have c1 := p4 1 _ rfl
  obtain ⟨ps, q, cap, rfl, q1, q2, q3, q4, q5, q6, q7, q8, q9⟩ := r4.bview_inv
  obtain ⟨_, vs, g1', g2', g3', _⟩ := view_cells hB hγ q1 q2 (off := 0) (n := l.length) (sz := 1) (by omega) (by omega) (s := 0) (e := l.length) (Nat.le_refl _) (by omega)
  have hnew : w0.heap.size ≤ q.b := hs.ext.news γ ps (Nat.zero_le _) q1 q q2
  have hNq : N ≤ q.b := (hB.places γ ps q q1 q2).1
  have hcells : ∀ (j : Nat) (x : UInt8), l[j]? = some x → w.cell? ⟨q.b, j, none⟩ = some (.int .u8 x.toNat) := fun j x hx => by
    have hjl := (List.getElem?_eq_some_iff.1 hx).1
    obtain ⟨v, k1, k2, _⟩ := g1'.get (i := j) (c := byteC x) (by rw [List.getElem?_take, if_pos hjl, List.drop_zero, List.getElem?_map, hx]; rfl)
    have k3 := g3' j v k1
    rw [q3, q4, k2.int_inv] at k3
    simpa using k3
  obtain ⟨cs, hqc⟩ := q9
  have hfc : l.length ≤ cs.size := by
    obtain ⟨cells, ty, fz, f1, f2, _⟩ := q8
    rw [hqc] at f1; cases f1; omega
  unfold wpListIn
  rw [want_none g1, if_pos rfl]
  refine wp_free (by simp [noDefer, h1]) ?_
  unfold Oper.wp
  have hrun : (execOp a.eval o).run Tryd.prog w = .ok (.enter 59 #[.pointer (some ⟨p.b, p.o + 0, none⟩)]) w := by
    simp only [execOp, h1, resolve, Act.eval, Deferred.ofValue, Sem.run_bind, Sem.run_pure, Result.andThen_ok, invoke]
    rw [callable_run (by kernel_rfl)]
    simp only [← p2]
    simp [Act.eval]
  rw [hrun, Oper.upon_enter]
  refine (string_run (N := N) p.b (p.o + 0) q.b cap l w hNq c1 q7 hl hlen ⟨_, by rw [World.shape?, hqc], hfc⟩ hcells).mono fun e w' ⟨he, hbel, hsame⟩ => ?_
  subst he
  have hold : ∀ b, b < w0.heap.size → w'.heap[b]? = w.heap[b]? := fun b hb => hsame b (by omega)
  have hext : Ext I0 [] w0 I0 [] w' := ⟨⟨fun _ _ h => h, fun b j hj => (cell_same (hold b (h0.imm b j hj))).trans (hs.ext.same b j hj), fun b n hf => (hs.ext.free b n hf).of_same (hold b hf.lt), fun b hf => (hs.ext.plain b hf).of_same (hold b hf.lt), fun β ps h => by simp at h⟩,
    Nat.le_trans hs.ext.size hbel.size, fun β ps ps' h => by simp at h, fun β ps _ h => by simp at h, fun _ _ h => .inl h, fun β h => by simp at h, fun b ob k1 k2 => (hold b (Array.getElem?_eq_some_iff.1 k1).1).trans (hs.ext.oth b ob k1 k2)⟩
  have hbr : BRel N I0 [] [] w' := ⟨rfl, Nat.le_trans h0.low hext.size, fun b j hj => Nat.lt_of_lt_of_le (h0.imm b j hj) hext.size, fun β ps p h => by simp at h, fun β β' ps ps' p p' h => by simp at h, fun β box h => by simp at h, fun β box ps p h => by simp at h, h0.tabs.keep hext.toKeep⟩
  have hoth : Oth w w' := fun b ob k1 k2 => (hsame b (by rintro rfl; rw [hqc] at k1; cases k1; simp [Obj.isCells] at k2)).trans k1
  have hst : St N n I0 [] w0 (upd (fun i => .raw (a.tmps.getD i undef)) (some d1) (.str l)) [] (a.put o.dst (.string ⟨l.toArray⟩)) I0 [] w' := by
    refine ⟨by rw [e1]; simp [Act.put, hs.size], by rw [e1]; exact hs.defers.ext hoth, fun i => ?_, hbr, hext, hs.below.trans hbel⟩
    rw [e1, put_getD a (some d1) _ (fun t ht => by cases ht; rw [hs.size]; exact k1)]
    unfold upd
    by_cases hi : i = d1
    · subst hi; simp; exact .str l (.nil _)
    · rw [if_neg (by simpa using fun h => hi h.symm)]
      simp only [if_neg hi]
      exact .raw _ (by simp) (.nil _)
  have := WPo_in (r := none) (Q' := Q') [] l2 _ _ n2 (h _) I0 [] w' _ hst fun fr' B' a' I' μ' w' hQ hst => hq _ _ _ _ _ _ _ hQ hst
  rw [List.append_nil] at this
  exact this
end
end Go.Proofs.YtdceppjoipoohaaDoor
end
section
namespace Go.Proofs.YtdceppjoipoohaaDoor
open Go Go.Sy
set_option linter.all false
set_option maxRecDepth 100000
set_option maxHeartbeats 4000000
def lnT (a b : List UInt8) : List UInt8 := a ++ ([32, 61, 32] ++ (b ++ [10]))
theorem lnT_len (a b : List UInt8) : (lnT a b).length = a.length + b.length + 4 := by simp [lnT]; omega
theorem lnT_ne (a b : List UInt8) : lnT a b ≠ [] := fun h => by have := congrArg List.length h; rw [lnT_len] at this; simp at this
theorem line_at {B : List Box} {a b : List UInt8} (h : a.length + b.length < 2147480000) : ACall Tryd.prog 57 [.str a, .str b] B fun c B' => c = .str (lnT a b) ∧ B' = B := by
  refine acall_intro mixed Tryd.func57 rfl ca57 (by kernel_rfl) (by rw [Tryd.ntmps57]; simp) ?_
  repeat' (first | (with_reducible first | apply jA | apply jB | apply jC | apply jD | apply jE | apply jF | apply jG | apply jH | apply jI | apply jJ | apply jK | apply jL | apply jM | apply jN | apply jO) | ((with_reducible first | apply jP | apply jQ); rfl) | ((first | ((with_reducible first | apply jR | apply jS | apply jT); rfl; rfl) | (with_reducible first | apply jU | apply jV | apply jW) | ((with_reducible first | apply jX | apply jY | apply jZ); rfl)); all_goals (first | ((with_reducible show Is _ _); exact kE) | ((with_reducible refine fun (hc : (_ : Bool) = _) => ?_); (try simp only [xZ, xY, xP, reduceCtorEq] at hc); (try (have hx : True := hc; clear hx hc)); (try exact kX)) | ((fail_if_success (with_reducible first | show Is _ _ | show ACall _ _ _ _ _)); (try ((with_reducible show _ ∨ _); exact kT))))))
  exact ⟨by simp [lnT], rfl⟩
def zK : List UInt8 := List.replicate 32 0
def peT1 (p : Pe) : List UInt8 := [10, 91, 80, 101, 101, 114, 93, 10] ++ lnT [80, 117, 98, 108, 105, 99, 75, 101, 121] (textS p.1)
def peT2 (p : Pe) : List UInt8 := if p.2.1 = zK then [] else lnT [80, 114, 101, 115, 104, 97, 114, 101, 100, 75, 101, 121] (textS p.2.1)
def peT3 (p : Pe) : List UInt8 := if p.2.2.1 = true then lnT [69, 110, 100, 112, 111, 105, 110, 116] (fmtE p.2.2.2.1.1.1 p.2.2.2.1.1.2 p.2.2.2.1.2) else []
def peT4 (p : Pe) : List UInt8 := if p.2.2.2.2.1 = 0 then [] else lnT [80, 101, 114, 115, 105, 115, 116, 101, 110, 116, 75, 101, 101, 112, 97, 108, 105, 118, 101] (Go.Lib.itoa p.2.2.2.2.1)
def fmtPs (al : List Pf) : List (List UInt8) := al.map fun q => fmtP q.1.1 q.1.2 q.2
def peT5 (p : Pe) : List UInt8 := if p.2.2.2.2.2 = [] then [] else lnT [65, 108, 108, 111, 119, 101, 100, 73, 80, 115] (Go.Lib.join (fmtPs p.2.2.2.2.2) [44, 32])
def peT (p : Pe) : List UInt8 := peT1 p ++ (peT2 p ++ (peT3 p ++ (peT4 p ++ peT5 p)))
def cfH (K : List UInt8) (port : Int) : List UInt8 := [91, 73, 110, 116, 101, 114, 102, 97, 99, 101, 93, 10] ++ (lnT [80, 114, 105, 118, 97, 116, 101, 75, 101, 121] (textS K) ++ lnT [76, 105, 115, 116, 101, 110, 80, 111, 114, 116] (Go.Lib.itoa port))
def cfT (K : List UInt8) (port : Int) (ps : List Pe) : List UInt8 := cfH K port ++ ps.flatMap peT
def fmtR (K : List UInt8) (port : Int) (ps : List Pe) : CV := .tup [.str (if valC port ps = 0 then cfT K port ps else []), .int .i64 (valC port ps)]
theorem textS_len (k : List UInt8) : (textS k).length = 44 := by simp [textS, textP_len]
theorem dd_len : ∀ (k n : Nat), n < 10 ^ k → (Go.Lib.decDigits n).length ≤ k + 1
  | 0, n, h => by rw [Go.Lib.decDigits, dif_pos (by omega)]; simp
  | k + 1, n, h => by
    rw [Go.Lib.decDigits]
    split
    · simp
    · have := dd_len k (n / 10) (by rw [Nat.pow_succ] at h; omega)
      simp; omega
theorem itoa_len {n : Int} (h : -9223372036854775808 ≤ n ∧ n ≤ 9223372036854775807) : (Go.Lib.itoa n).length ≤ 30 := by
  unfold Go.Lib.itoa
  split
  · have := dd_len 20 n.natAbs (by omega)
    simp; omega
  · have := dd_len 20 n.toNat (by omega)
    omega
theorem join_len (t : List UInt8) : ∀ (L : List (List UInt8)) (k : Nat), (∀ x ∈ L, x.length ≤ k) → (Go.Lib.join L t).length ≤ L.length * (k + t.length)
  | [], k, _ => by simp [Go.Lib.join_nil]
  | x :: r, k, h => by
    have hr : ∀ (r : List (List UInt8)), (∀ y ∈ r, y.length ≤ k) → (Go.Lib.joinTail t r).length ≤ r.length * (k + t.length) := fun r hr => by
      induction r with
      | nil => simp [Go.Lib.joinTail]
      | cons y r ih =>
        have h1 := hr y (by simp)
        have h2 := ih fun z hz => hr z (by simp [hz])
        simp only [Go.Lib.joinTail, List.map_cons, List.flatten_cons, List.length_append, List.length_cons] at h2 ⊢
        rw [Nat.succ_mul]
        omega
    rw [Go.Lib.join_cons, List.length_append, List.length_cons, Nat.succ_mul]
    have := hr r fun y hy => h y (by simp [hy])
    have := h x (by simp)
    omega
theorem fmtPs_len (al : List Pf) : (fmtPs al).length = al.length := List.length_map _
theorem fmtJ_len (al : List Pf) : (Go.Lib.join (fmtPs al) [44, 32]).length ≤ al.length * 1002 := by
  have := join_len [44, 32] (fmtPs al) 1000 fun x hx => by
    obtain ⟨q, _, rfl⟩ := List.mem_map.1 hx
    exact Nat.le_of_lt (fmtP_len _ _ _)
  rwa [fmtPs_len] at this
theorem peT_len {p : Pe} (h : PeL p) (ha : p.2.2.2.2.2.length ≤ 100) : (peT p).length ≤ 200000 := by
  have h1 : (peT1 p).length ≤ 100 := by simp [peT1, lnT_len, textS_len]
  have h2 : (peT2 p).length ≤ 100 := by unfold peT2; split <;> simp [lnT_len, textS_len]
  have h3 : (peT3 p).length ≤ 1100 := by
    have := fmtE_len p.2.2.2.1.1.1 p.2.2.2.1.1.2 p.2.2.2.1.2
    unfold peT3; split <;> simp [lnT_len]; omega
  have h4 : (peT4 p).length ≤ 100 := by
    have := itoa_len h.2.2.2.1
    unfold peT4; split <;> simp [lnT_len]; omega
  have h5 : (peT5 p).length ≤ 110000 := by
    have := fmtJ_len p.2.2.2.2.2
    unfold peT5; split <;> simp [lnT_len]; omega
  simp only [peT, List.length_append]
  omega
theorem cfH_len (K : List UInt8) {port : Int} (h : -9223372036854775808 ≤ port ∧ port ≤ 9223372036854775807) : (cfH K port).length ≤ 200 := by
  have := itoa_len h
  simp [cfH, lnT_len, textS_len]; omega
theorem peTs_len : ∀ {ps : List Pe}, (∀ p ∈ ps, PeL p) → (∀ p ∈ ps, p.2.2.2.2.2.length ≤ 100) → (ps.flatMap peT).length ≤ ps.length * 200000
  | [], _, _ => by simp
  | p :: ps, h1, h2 => by
    have := peT_len (h1 p (by simp)) (h2 p (by simp))
    have := peTs_len (ps := ps) (fun q hq => h1 q (by simp [hq])) (fun q hq => h2 q (by simp [hq]))
    rw [List.flatMap_cons, List.length_append, List.length_cons, Nat.succ_mul]
    omega
theorem valC_zero {port : Int} {ps : List Pe} (h : valC port ps = 0) : (ps.length ≤ 8 ∧ (alls ps).length ≤ 16) ∧ (0 ≤ port ∧ port ≤ 65535) ∧ ps.all okPe = true := by
  unfold valC at h
  split at h
  · cases h
  · rename_i h1
    split at h
    · cases h
    · rename_i h2
      rw [not_or, not_or] at h2
      exact ⟨by omega, by omega, by simpa using h2.2.2⟩
theorem al_le_alls {p : Pe} : ∀ {ps : List Pe}, p ∈ ps → p.2.2.2.2.2.length ≤ (alls ps).length
  | q :: ps, h => by
    rw [alls, List.flatMap_cons, List.length_append]
    rcases List.mem_cons.1 h with rfl | h
    · omega
    · have := al_le_alls h
      rw [alls] at this
      omega
end Go.Proofs.YtdceppjoipoohaaDoor
end
section
namespace Go.Proofs.YtdceppjoipoohaaDoor
open Go Go.Sy
set_option linter.all false
set_option maxRecDepth 100000
set_option maxHeartbeats 4000000
theorem kE_VR0 {α : Type} {x y : α} (h : Is x y := by first | ((try simp (disch := first | omega | (simp only [yZ, yB] <;> omega) | fail) [go_sem, yY, *, lnT_len, if_pos, if_neg, -List.map_take, -List.map_drop, -List.map_append, -List.map_reverse]); exact rfl) | fail) : Is x y := h
theorem kD_VR0 {p : Prop} (h : p := by (first | omega | assumption | exact rfl | ((simp (disch := first | omega | (simp only [yZ, yB] <;> omega) | fail) [go_sem, yY, *, lnT_len, -List.map_take, -List.map_drop, -List.map_append, -List.map_reverse]) <;> (first | done | omega | exact rfl)) | fail)) : p := h
theorem key_eqV {p q : List UInt8} (hp : p.length = 32) (hq : q.length = 32) : eqV Tryd.prog 20 52 (.agg (p.map byteC)) (.agg (q.map byteC)) = some (p == q) := eqV_bytes (e := 5) (n := 32) (by kernel_rfl) (by kernel_rfl) (by kernel_rfl) (by kernel_rfl) p q hp hq
def SL (c : CV) (G : List Box) (L : List (List UInt8)) : Prop := (L = [] ∧ c = .nilS) ∨ ∃ b m, L ≠ [] ∧ c = .view (b + 1 + 1 + 1) 0 L.length 1 false ∧ G[b]? = some ⟨L.map .str, m⟩
def FmI (C : List CV) (n : Nat) (Y : List CV) (i : Nat) (X : List CV) (t : List UInt8) (fr : Fr) (B : List Box) : Prop :=
  ∃ m G b, fr 28 = .lst n Y false ∧ fr 29 = .int .i64 n ∧ fr 30 = .int .i64 i ∧ fr 5 = .ptr 1 0 ∧ fr 7 = .ptr (b + 1 + 1 + 1) 0 ∧
    B = ⟨C, false⟩ :: ⟨[.ptr 1 0, .bview 2 t.length 5], false⟩ :: ⟨t.map byteC, m⟩ :: G ∧ G[b]? = some ⟨X, false⟩
def hdI : List UInt8 := [91, 73, 110, 116, 101, 114, 102, 97, 99, 101, 93, 10]
def hdP : List UInt8 := [10, 91, 80, 101, 101, 114, 93, 10]
theorem format_in (K : List UInt8) (port : Int) (ps : List Pe) (hK : K.length = 32) (hpo : -9223372036854775808 ≤ port ∧ port ≤ 9223372036854775807) (hps : ∀ p ∈ ps, PeL p) (hl : ps.length < 1000000) (hal : ∀ p ∈ ps, p.2.2.2.2.2.length < 1000000) :
    PC Tryd.prog true 25 [.agg (cfC (K, port, ps))] (fmtR K port ps) := by
  obtain ⟨c32, c33, c0, cl⟩ := cf_parts (c := (K, port, ps)) hK
  dsimp only at c32 c33 c0
  have hvd : ∀ {B : List Box} {args : List CV}, Is (omap (Go.Sy.fz true false B 6) args) (some [.agg (cfC (K, port, ps))]) → ACall Tryd.prog 27 args B fun c B' => c = .int .i64 (valC port ps) ∧ B' = B := fun hz => acall_fresh hz (validate_in K port ps hK hpo hps hl hal)
  have hom : ∀ {nz : Bool} {B : List Box} {k : Nat}, omap (Go.Sy.fz nz false B (k + 3)) (cfC (K, port, ps)) = some (cfC (K, port, ps)) := cf_om _
  have hct : (cfC (K, port, ps)).take 34 = cfC (K, port, ps) := List.take_of_length_le (by omega)
  obtain ⟨C, hC⟩ : ∃ C, cfC (K, port, ps) = C := ⟨_, rfl⟩
  have hgoal : PC Tryd.prog true 25 [.agg C] (fmtR K port ps) := by
    rw [hC] at c32 c33 c0 cl hvd hom hct
    replace hC : Hid _ := hC
    refine acall_AWz mixed Tryd.func25 rfl (by kernel_rfl) (by rw [Tryd.ntmps25]; simp) ?_
    refine AWz_w mixed (by kernel_rfl) (fun fr B => fr 1 = .ptr 0 0 ∧ B = [⟨C, false⟩]) ?_ ?_
    · repeat' (first | (with_reducible first | apply jA | apply jB | apply jC | apply jD | apply jE | apply jF | apply jG | apply jH | apply jI | apply jJ | apply jK | apply jL | apply jM | apply jN | apply jO) | ((with_reducible first | apply jP | apply jQ); rfl) | ((first | ((with_reducible first | apply jR | apply jS | apply jT); rfl; rfl) | (with_reducible first | apply jU | apply jV | apply jW) | ((with_reducible first | apply jX | apply jY | apply jZ); rfl)); all_goals (first | ((with_reducible show Is _ _); exact kE) | ((with_reducible refine fun (hc : (_ : Bool) = _) => ?_); (try simp only [xZ, xY, xP, reduceCtorEq] at hc); (try (have hx : True := hc; clear hx hc)); (try exact kX)) | ((fail_if_success (with_reducible first | show Is _ _ | show ACall _ _ _ _ _)); (try ((with_reducible show _ ∨ _); exact kT))))))
      exact ⟨by (simp (disch := omega) [go_sem, *]) <;> (try omega), by (simp (disch := omega) [go_sem, *]) <;> (try omega)⟩
    rintro fr B ⟨f1, rfl⟩
    refine AWz_w mixed (by kernel_rfl) (fun fr B => valC port ps = 0 ∧ fr 1 = .ptr 0 0 ∧ B = [⟨C, false⟩]) ?_ ?_
    · by_cases hv : valC port ps = 0
      · rw [hv] at hvd
        repeat' (first | (with_reducible first | apply jA | apply jB | apply jC | apply jD | apply jE | apply jF | apply jG | apply jH | apply jI | apply jJ | apply jK | apply jL | apply jM | apply jN | apply jO) | ((with_reducible first | apply jP | apply jQ); rfl) | ((first | ((with_reducible first | apply jR | apply jS | apply jT); rfl; rfl) | (with_reducible first | apply jU | apply jV | apply jW) | ((with_reducible first | apply jX | apply jY | apply jZ); rfl) | ((with_reducible first | apply kA | apply kB | apply kC); rfl)); all_goals (first | ((with_reducible show Is _ _); exact kE) | ((with_reducible refine fun (hc : (_ : Bool) = _) => ?_); (try simp only [xZ, xY, xP, reduceCtorEq] at hc); (try (have hx : True := hc; clear hx hc)); (try exact kX)) | ((with_reducible show ACall _ _ _ _ _); (first | ((with_reducible apply hvd) <;> exact kD))) | ((fail_if_success (with_reducible first | show Is _ _ | show ACall _ _ _ _ _)); (try ((with_reducible show _ ∨ _); exact kT))))))
        exact ⟨hv, by (simp (disch := omega) [go_sem, *]) <;> (try omega), rfl⟩
      · repeat' (first | (with_reducible first | apply jA | apply jB | apply jC | apply jD | apply jE | apply jF | apply jG | apply jH | apply jI | apply jJ | apply jK | apply jL | apply jM | apply jN | apply jO) | ((with_reducible first | apply jP | apply jQ); rfl) | ((first | ((with_reducible first | apply jR | apply jS | apply jT); rfl; rfl) | (with_reducible first | apply jU | apply jV | apply jW) | ((with_reducible first | apply jX | apply jY | apply jZ); rfl) | ((with_reducible first | apply kA | apply kB | apply kC); rfl)); all_goals (first | ((with_reducible show Is _ _); exact kE) | ((with_reducible refine fun (hc : (_ : Bool) = _) => ?_); (try simp only [xZ, xY, xP, reduceCtorEq] at hc); (try (have hx : True := hc; clear hx hc)); (try exact kX)) | ((with_reducible show ACall _ _ _ _ _); (first | ((with_reducible apply hvd) <;> exact kD))) | ((fail_if_success (with_reducible first | show Is _ _ | show ACall _ _ _ _ _)); (try ((with_reducible show _ ∨ _); exact kT))))))
        rw [fmtR, if_neg hv]
        rfl
    clear f1 fr hvd
    rintro fr B ⟨hv, f1, rfl⟩
    have hfl := peTs_len hps (fun p hp => Nat.le_trans (al_le_alls hp) (by have := (valC_zero hv).1; omega))
    obtain ⟨⟨hp8, hal16⟩, ⟨hpo1, hpo2⟩, hok⟩ := valC_zero hv
    have hH := cfH_len K hpo
    have hws : ∀ {n : Nat} {t s : List UInt8} {m : Bool} {G : List Box} {args : List CV}, Is args [.ptr 1 0, .str s] → n = t.length → s ≠ [] → n + s.length < 1000000000 → ACall Tryd.prog 56 args (⟨C, false⟩ :: ⟨[.ptr 1 0, .bview 2 n 5], false⟩ :: ⟨t.map byteC, m⟩ :: G) fun c B' => c = .tup [.int .i64 s.length, .nilI] ∧ B' = ⟨C, false⟩ :: ⟨[.ptr 1 0, .bview 2 (n + s.length) 5], false⟩ :: ⟨(t ++ s).map byteC, true⟩ :: G := fun h hn h0 hl => by
      subst hn
      exact ws_at (β := 1) (γ := 2) h rfl rfl (by decide) h0 hl
    have hln : ∀ {B : List Box} {a b : List UInt8}, a.length + b.length < 2147480000 → ACall Tryd.prog 57 [.str a, .str b] B fun c B' => c = .str (lnT a b) ∧ B' = B := fun h => line_at h
    have htx : ∀ {B : List Box} {args : List CV} {k : List UInt8}, Is (omap (Go.Sy.fz true false B 6) args) (some [.agg (k.map byteC)]) → k.length = 32 → ACall Tryd.prog 58 args B fun c B' => c = .str (textS k) ∧ B' = B := fun hz hk => acall_fresh hz (text_in _ hk)
    have hit : ∀ {B : List Box} {n : Int}, -9223372036854775808 ≤ n ∧ n ≤ 9223372036854775807 → ACall Tryd.prog 43 [.int .i64 n] B fun c B' => c = .str (Go.Lib.itoa n) ∧ B' = B := fun h => itoa_at h
    have hil := itoa_len hpo
    have hkl := textS_len K
    have hlne := lnT_ne
    have hI12 : hdI.length = 12 := rfl
    refine AWz_new (d := 5) (d2 := 16) (s := hdI) rfl rfl rfl (by decide) rfl rfl rfl (by decide) (by simp [hdI]) (by simp [hdI]) ?_
    refine AWz_w mixed (by kernel_rfl) (fun fr B => fr 1 = .ptr 0 0 ∧ fr 5 = .ptr 1 0 ∧ ∃ t, t = hdI ++ lnT [80, 114, 105, 118, 97, 116, 101, 75, 101, 121] (textS K) ∧ B = [⟨C, false⟩, ⟨[.ptr 1 0, .bview 2 t.length 5], false⟩, ⟨t.map byteC, true⟩]) ?_ ?_
    · repeat' (first | (with_reducible first | apply jA | apply jB | apply jC | apply jD | apply jE | apply jF | apply jG | apply jH | apply jI | apply jJ | apply jK | apply jL | apply jM | apply jN | apply jO) | ((with_reducible first | apply jP | apply jQ); rfl) | ((first | ((with_reducible first | apply jR | apply jS | apply jT); rfl; rfl) | (with_reducible first | apply jU | apply jV | apply jW) | ((with_reducible first | apply jX | apply jY | apply jZ); rfl) | ((with_reducible first | apply kA | apply kB | apply kC); rfl)); all_goals (first | ((with_reducible show Is _ _); exact kE_VR0) | ((with_reducible refine fun (hc : (_ : Bool) = _) => ?_); (try simp only [xZ, xY, xP, reduceCtorEq] at hc); (try (have hx : True := hc; clear hx hc)); (try exact kX)) | ((with_reducible show ACall _ _ _ _ _); (first | ((with_reducible apply htx) <;> exact kD_VR0) | ((with_reducible apply hln) <;> exact kD_VR0) | ((with_reducible apply hws) <;> exact kD_VR0))) | ((fail_if_success (with_reducible first | show Is _ _ | show ACall _ _ _ _ _)); (try ((with_reducible show _ ∨ _); exact kT))))))
      exact ⟨by (simp (disch := omega) [go_sem, *]) <;> (try omega), by (simp (disch := omega) [go_sem, *]) <;> (try omega), _, rfl, by (simp (disch := omega) [go_sem, *, lnT_len]) <;> (try omega)⟩
    clear f1 fr
    rintro fr B ⟨f1, f5, t, ht, rfl⟩
    have htl : t.length = 70 := by rw [ht, List.length_append, hI12, lnT_len, hkl]; rfl
    refine AWz_w mixed (by kernel_rfl) (fun fr B => fr 1 = .ptr 0 0 ∧ fr 5 = .ptr 1 0 ∧ ∃ t, t = cfH K port ∧ B = [⟨C, false⟩, ⟨[.ptr 1 0, .bview 2 t.length 5], false⟩, ⟨t.map byteC, true⟩]) ?_ ?_
    · have ht2 : cfH K port = t ++ lnT [76, 105, 115, 116, 101, 110, 80, 111, 114, 116] (Go.Lib.itoa port) := by rw [ht]; simp [cfH, hdI]
      replace ht : Hid _ := ht
      replace ht2 : Hid _ := ht2
      repeat' (first | (with_reducible first | apply jA | apply jB | apply jC | apply jD | apply jE | apply jF | apply jG | apply jH | apply jI | apply jJ | apply jK | apply jL | apply jM | apply jN | apply jO) | ((with_reducible first | apply jP | apply jQ); rfl) | ((first | ((with_reducible first | apply jR | apply jS | apply jT); rfl; rfl) | (with_reducible first | apply jU | apply jV | apply jW) | ((with_reducible first | apply jX | apply jY | apply jZ); rfl) | ((with_reducible first | apply kA | apply kB | apply kC); rfl)); all_goals (first | ((with_reducible show Is _ _); exact kE_VR0) | ((with_reducible refine fun (hc : (_ : Bool) = _) => ?_); (try simp only [xZ, xY, xP, reduceCtorEq] at hc); (try (have hx : True := hc; clear hx hc)); (try exact kX)) | ((with_reducible show ACall _ _ _ _ _); (first | ((with_reducible apply hit) <;> exact kD_VR0) | ((with_reducible apply hln) <;> exact kD_VR0) | ((with_reducible apply hws) <;> exact kD_VR0))) | ((fail_if_success (with_reducible first | show Is _ _ | show ACall _ _ _ _ _)); (try ((with_reducible show _ ∨ _); exact kT))))))
      refine ⟨by (simp (disch := omega) [go_sem, *]) <;> (try omega), by (simp (disch := omega) [go_sem, *]) <;> (try omega), _, (show cfH K port = _ from ht2).symm, by (simp (disch := omega) [go_sem, *, lnT_len]) <;> (try omega)⟩
    clear f1 f5 fr ht htl t
    rintro fr B ⟨f1, f5, t, rfl, rfl⟩
    have hpc := cells_all (f := peC) (z := 85) (L := ps) fun p hp => peC_len (hps p hp)
    refine AWz_w mixed (by kernel_rfl) (fun fr B => fr 5 = .ptr 1 0 ∧ ∃ m G, B = ⟨C, false⟩ :: ⟨[.ptr 1 0, .bview 2 (cfT K port ps).length 5], false⟩ :: ⟨(cfT K port ps).map byteC, m⟩ :: G) ?_ ?_
    rotate_left
    · rintro fr B ⟨f5, m, G, rfl⟩
      have hT : (cfT K port ps).length ≤ 2000000 := by
        rw [cfT, List.length_append]
        have h8 : ps.length * 200000 ≤ 8 * 200000 := Nat.mul_le_mul_right _ hp8
        omega
      have hTne : cfT K port ps ≠ [] := by simp [cfT, cfH]
      refine AWz_seq (AWz_string (d := 5) (d1 := 85) (β := 1) (γ := 2) (l := cfT K port ps) rfl rfl rfl (by decide) (by rfl) f5 rfl rfl hTne (by omega) ?_)
      intro vs
      repeat' (first | (with_reducible first | apply jA | apply jB | apply jC | apply jD | apply jE | apply jF | apply jG | apply jH | apply jI | apply jJ | apply jK | apply jL | apply jM | apply jN | apply jO) | ((with_reducible first | apply jP | apply jQ); rfl) | ((first | ((with_reducible first | apply jR | apply jS | apply jT); rfl; rfl) | (with_reducible first | apply jU | apply jV | apply jW) | ((with_reducible first | apply jX | apply jY | apply jZ); rfl)); all_goals (first | ((with_reducible show Is _ _); exact kE) | ((with_reducible refine fun (hc : (_ : Bool) = _) => ?_); (try simp only [xZ, xY, xP, reduceCtorEq] at hc); (try (have hx : True := hc; clear hx hc)); (try exact kX)) | ((fail_if_success (with_reducible first | show Is _ _ | show ACall _ _ _ _ _)); (try ((with_reducible show _ ∨ _); exact kT))))))
      refine AWz.of (WPc_sound mixed.mixed _ _ _ _ (by kernel_rfl) ?_)
      repeat' (first | (with_reducible first | apply jA | apply jB | apply jC | apply jD | apply jE | apply jF | apply jG | apply jH | apply jI | apply jJ | apply jK | apply jL | apply jM | apply jN | apply jO) | ((with_reducible first | apply jP | apply jQ); rfl) | ((first | ((with_reducible first | apply jR | apply jS | apply jT); rfl; rfl) | (with_reducible first | apply jU | apply jV | apply jW) | ((with_reducible first | apply jX | apply jY | apply jZ); rfl)); all_goals (first | ((with_reducible show Is _ _); exact kE) | ((with_reducible refine fun (hc : (_ : Bool) = _) => ?_); (try simp only [xZ, xY, xP, reduceCtorEq] at hc); (try (have hx : True := hc; clear hx hc)); (try exact kX)) | ((fail_if_success (with_reducible first | show Is _ _ | show ACall _ _ _ _ _)); (try ((with_reducible show _ ∨ _); exact kT))))))
      rw [fmtR, hv, if_pos rfl]
      rfl
    have hpl1 : ∀ p ∈ ps, (peT p).length ≤ 200000 := fun p hp => peT_len (hps p hp) (Nat.le_trans (al_le_alls hp) (by omega))
    have hpfx : ∀ k, (cfT K port (ps.take k)).length ≤ 2000000 := fun k => by
      have := peTs_len (ps := ps.take k) (fun p hp => hps p (List.mem_of_mem_take hp)) (fun p hp => Nat.le_trans (al_le_alls (List.mem_of_mem_take hp)) (by omega))
      rw [List.length_take] at this
      have h8 : min k ps.length * 200000 ≤ 8 * 200000 := Nat.mul_le_mul_right _ (by omega)
      rw [cfT, List.length_append]
      omega
    obtain ⟨t0, ht0⟩ : ∃ t0, cfH K port = t0 := ⟨_, rfl⟩
    rw [ht0]
    have hT0 : t0 = cfT K port (ps.take 0) := by rw [← ht0]; simp [cfT]
    obtain ⟨Y, hY⟩ : ∃ Y, ps.flatMap peC = Y := ⟨_, rfl⟩
    rw [hY] at hpc c33
    replace hY : Hid _ := hY
    replace hpc : Hid _ := hpc
    replace hps : Hid _ := hps
    replace hT0 : Hid _ := hT0
    clear hH ht0 c32 hom hct
    repeat' (first | (with_reducible first | apply jA | apply jB | apply jC | apply jD | apply jE | apply jF | apply jG | apply jH | apply jI | apply jJ | apply jK | apply jL | apply jM | apply jN | apply jO) | ((with_reducible first | apply jP | apply jQ); rfl) | ((first | ((with_reducible first | apply jR | apply jS | apply jT); rfl; rfl) | (with_reducible first | apply jU | apply jV | apply jW) | ((with_reducible first | apply jX | apply jY | apply jZ); rfl)); all_goals (first | ((with_reducible show Is _ _); exact kE) | ((with_reducible refine fun (hc : (_ : Bool) = _) => ?_); (try simp only [xZ, xY, xP, reduceCtorEq] at hc); (try (have hx : True := hc; clear hx hc)); (try exact kX)) | ((fail_if_success (with_reducible first | show Is _ _ | show ACall _ _ _ _ _)); (try ((with_reducible show _ ∨ _); exact kT))))))
    refine w_loop (fun fr B => ∃ (i : Nat) (m : Bool) (G : List Box) (t : List UInt8), i ≤ ps.length ∧ t = cfT K port (ps.take i) ∧ fr 28 = .lst ps.length Y false ∧ fr 29 = .int .i64 ps.length ∧ fr 30 = .int .i64 i ∧ fr 5 = .ptr 1 0 ∧ B = ⟨C, false⟩ :: ⟨[.ptr 1 0, .bview 2 t.length 5], false⟩ :: ⟨t.map byteC, m⟩ :: G) (fun fr _ => ps.length - natOf (fr 30)) ?_ ?_
    · exact ⟨0, true, [], t0, by omega, hT0, by (simp (disch := omega) [go_sem, *]) <;> (try omega), by (simp (disch := omega) [go_sem, *]) <;> (try omega), by (simp (disch := omega) [go_sem, *]) <;> (try omega), by (simp (disch := omega) [go_sem, *]) <;> (try omega), rfl⟩
    clear f1 f5 fr hT0 t0
    rintro fr B ⟨i, m, G, t, hi, ht, f28, f29, f30, f5, rfl⟩
    have hm0 : natOf (fr 30) = i := by rw [f30]; rfl
    have htl : t.length ≤ 2000000 := by rw [ht]; exact hpfx i
    by_cases hci : i < ps.length
    rotate_left
    · obtain rfl : i = ps.length := by omega
      rw [List.take_length] at ht
      replace ht : Hid _ := ht
      repeat' (first | (with_reducible first | apply jA | apply jB | apply jC | apply jD | apply jE | apply jF | apply jG | apply jH | apply jI | apply jJ | apply jK | apply jL | apply jM | apply jN | apply jO) | ((with_reducible first | apply jP | apply jQ); rfl) | ((first | ((with_reducible first | apply jR | apply jS | apply jT); rfl; rfl) | (with_reducible first | apply jU | apply jV | apply jW) | ((with_reducible first | apply jX | apply jY | apply jZ); rfl)); all_goals (first | ((with_reducible show Is _ _); exact kE) | ((with_reducible refine fun (hc : (_ : Bool) = _) => ?_); (try simp only [xZ, xY, xP, reduceCtorEq] at hc); (try (have hx : True := hc; clear hx hc)); (try exact kX)) | ((fail_if_success (with_reducible first | show Is _ _ | show ACall _ _ _ _ _)); (try ((with_reducible show _ ∨ _); exact kT))))))
      exact ⟨by (simp (disch := omega) [go_sem, *]) <;> (try omega), m, G, by rw [← (show t = cfT K port ps from ht)]⟩
    have hp := (show ∀ p ∈ ps, PeL p from hps) ps[i] (List.getElem_mem hci)
    have hpal : ps[i].2.2.2.2.2.length ≤ 16 := Nat.le_trans (al_le_alls (List.getElem_mem hci)) hal16
    obtain ⟨y1, y2⟩ := (show Cells peC 85 Y ps from hpc) i hci
    obtain ⟨e64, e65, e83, e84, e0, e32⟩ := pe_parts hp
    have hXl := peC_len hp
    have hnext : cfT K port (ps.take (i + 1)) = t ++ peT ps[i] := by
      rw [ht, List.take_succ_eq_append_getElem hci, cfT, cfT, List.flatMap_append, List.flatMap_singleton, List.append_assoc]
    have hPl := peT_len hp (Nat.le_trans hpal (by omega))
    rw [hm0]
    clear hm0 hpl1 hpfx hit hil
    replace ht : Hid _ := ht
    replace hnext : Hid _ := hnext
    generalize ps[i] = p at *
    obtain ⟨X, hX⟩ : ∃ X, peC p = X := ⟨_, rfl⟩
    rw [hX] at y2 e64 e65 e83 e84 e0 e32 hXl
    have hXt : X.take 85 = X := List.take_of_length_le (by omega)
    replace hX : Hid _ := hX
    refine w_cut (fun fr B => fr 28 = .lst ps.length Y false ∧ fr 29 = .int .i64 ps.length ∧ fr 30 = .int .i64 i ∧ fr 5 = .ptr 1 0 ∧ fr 31 = .bool true ∧ B = ⟨C, false⟩ :: ⟨[.ptr 1 0, .bview 2 t.length 5], false⟩ :: ⟨t.map byteC, m⟩ :: G) ?_ ?_
    · repeat' (first | (with_reducible first | apply jA | apply jB | apply jC | apply jD | apply jE | apply jF | apply jG | apply jH | apply jI | apply jJ | apply jK | apply jL | apply jM | apply jN | apply jO) | ((with_reducible first | apply jP | apply jQ); rfl) | ((first | ((with_reducible first | apply jR | apply jS | apply jT); rfl; rfl) | (with_reducible first | apply jU | apply jV | apply jW) | ((with_reducible first | apply jX | apply jY | apply jZ); rfl)); all_goals (first | ((with_reducible show Is _ _); exact kE) | ((with_reducible refine fun (hc : (_ : Bool) = _) => ?_); (try simp only [xZ, xY, xP, reduceCtorEq] at hc); (try (have hx : True := hc; clear hx hc)); (try exact kX)) | ((fail_if_success (with_reducible first | show Is _ _ | show ACall _ _ _ _ _)); (try ((with_reducible show _ ∨ _); exact kT))))))
      exact ⟨by (simp (disch := omega) [go_sem, *]) <;> (try omega), by (simp (disch := omega) [go_sem, *]) <;> (try omega), by (simp (disch := omega) [go_sem, *]) <;> (try omega), by (simp (disch := omega) [go_sem, *]) <;> (try omega), by (simp (disch := omega) [go_sem, *]) <;> (try omega), rfl⟩
    clear f28 f29 f30 f5 fr
    rintro fr B ⟨f28, f29, f30, f5, f31, rfl⟩
    refine w_cut (fun fr B => fr 28 = .lst ps.length Y false ∧ fr 29 = .int .i64 ps.length ∧ fr 30 = .int .i64 i ∧ fr 5 = .ptr 1 0 ∧ B = ⟨C, false⟩ :: ⟨[.ptr 1 0, .bview 2 t.length 5], false⟩ :: ⟨t.map byteC, m⟩ :: G) ?_ ?_
    · repeat' (first | (with_reducible first | apply jA | apply jB | apply jC | apply jD | apply jE | apply jF | apply jG | apply jH | apply jI | apply jJ | apply jK | apply jL | apply jM | apply jN | apply jO) | ((with_reducible first | apply jP | apply jQ); rfl) | ((first | ((with_reducible first | apply jR | apply jS | apply jT); rfl; rfl) | (with_reducible first | apply jU | apply jV | apply jW) | ((with_reducible first | apply jX | apply jY | apply jZ); rfl)); all_goals (first | ((with_reducible show Is _ _); exact kE) | ((with_reducible refine fun (hc : (_ : Bool) = _) => ?_); (try simp only [xZ, xY, xP, reduceCtorEq] at hc); (try (have hx : True := hc; clear hx hc)); (try exact kX)) | ((fail_if_success (with_reducible first | show Is _ _ | show ACall _ _ _ _ _)); (try ((with_reducible show _ ∨ _); exact kT))))))
      exact ⟨by (simp (disch := omega) [go_sem, *]) <;> (try omega), by (simp (disch := omega) [go_sem, *]) <;> (try omega), by (simp (disch := omega) [go_sem, *]) <;> (try omega), by (simp (disch := omega) [go_sem, *]) <;> (try omega), rfl⟩
    clear f28 f29 f30 f5 f31 fr
    rintro fr B ⟨f28, f29, f30, f5, rfl⟩
    refine w_seq (w_block ?_)
    refine w_cut (FmI C ps.length Y i X t) ?_ ?_
    · repeat' (first | (with_reducible first | apply jA | apply jB | apply jC | apply jD | apply jE | apply jF | apply jG | apply jH | apply jI | apply jJ | apply jK | apply jL | apply jM | apply jN | apply jO) | ((with_reducible first | apply jP | apply jQ); rfl) | ((first | ((with_reducible first | apply jR | apply jS | apply jT); rfl; rfl) | (with_reducible first | apply jU | apply jV | apply jW) | ((with_reducible first | apply jX | apply jY | apply jZ); rfl)); all_goals (first | ((with_reducible show Is _ _); exact kE) | ((with_reducible refine fun (hc : (_ : Bool) = _) => ?_); (try simp only [xZ, xY, xP, reduceCtorEq] at hc); (try (have hx : True := hc; clear hx hc)); (try exact kX)) | ((fail_if_success (with_reducible first | show Is _ _ | show ACall _ _ _ _ _)); (try ((with_reducible show _ ∨ _); exact kT))))))
      exact ⟨m, G ++ [⟨X, false⟩], G.length, by (simp (disch := omega) [go_sem, *]) <;> (try omega), by (simp (disch := omega) [go_sem, *]) <;> (try omega), by (simp (disch := omega) [go_sem, *]) <;> (try omega), by (simp (disch := omega) [go_sem, *]) <;> (try omega), by (simp (disch := omega) [go_sem, *]) <;> (try omega), by (simp (disch := omega) [go_sem, *]) <;> (try omega), by simp⟩
    clear f28 f29 f30 f5 y1 y2 fr
    have h1l : (peT1 p).length = 65 := by simp [peT1, lnT_len, textS_len]
    have hPl2 : (peT p).length = (peT1 p).length + ((peT2 p).length + ((peT3 p).length + ((peT4 p).length + (peT5 p).length))) := by simp [peT]
    refine fun fr B h => w_cut (FmI C ps.length Y i X (t ++ hdP)) ?_ ?_ (fr := fr) (B := B)
    · revert fr B h
      rintro fr B ⟨m, G, b, f28, f29, f30, f5, f7, rfl, hG⟩
      have xG := bx_pack hG
      repeat' (first | (with_reducible first | apply jA | apply jB | apply jC | apply jD | apply jE | apply jF | apply jG | apply jH | apply jI | apply jJ | apply jK | apply jL | apply jM | apply jN | apply jO) | ((with_reducible first | apply jP | apply jQ); rfl) | ((first | ((with_reducible first | apply jR | apply jS | apply jT); rfl; rfl) | (with_reducible first | apply jU | apply jV | apply jW) | ((with_reducible first | apply jX | apply jY | apply jZ); rfl) | ((with_reducible first | apply kA | apply kB | apply kC); rfl)); all_goals (first | ((with_reducible show Is _ _); exact kE) | ((with_reducible refine fun (hc : (_ : Bool) = _) => ?_); (try simp only [xZ, xY, xP, reduceCtorEq] at hc); (try (have hx : True := hc; clear hx hc)); (try exact kX)) | ((with_reducible show ACall _ _ _ _ _); (first | ((with_reducible apply hws) <;> exact kD))) | ((fail_if_success (with_reducible first | show Is _ _ | show ACall _ _ _ _ _)); (try ((with_reducible show _ ∨ _); exact kT))))))
      exact ⟨true, G, b, by (simp (disch := omega) [go_sem, *]) <;> (try omega), by (simp (disch := omega) [go_sem, *]) <;> (try omega), by (simp (disch := omega) [go_sem, *]) <;> (try omega), by (simp (disch := omega) [go_sem, *]) <;> (try omega), by (simp (disch := omega) [go_sem, *]) <;> (try omega), by simp [lnT_len, hdP], hG⟩
    clear h fr B
    refine fun fr B h => w_cut (FmI C ps.length Y i X (t ++ peT1 p)) ?_ ?_ (fr := fr) (B := B)
    · revert fr B h
      rw [show t ++ peT1 p = (t ++ hdP) ++ lnT [80, 117, 98, 108, 105, 99, 75, 101, 121] (textS p.1) by rw [peT1, List.append_assoc]; rfl]
      have h8 : hdP.length = 8 := rfl
      obtain ⟨t1, ht1⟩ : ∃ t1, t ++ hdP = t1 := ⟨_, rfl⟩
      have htl1 : t1.length ≤ 2300000 := by rw [← ht1]; simp only [List.length_append] at hPl2 ⊢; omega
      rw [ht1]
      clear ht1
      rintro fr B ⟨m, G, b, f28, f29, f30, f5, f7, rfl, hG⟩
      have xG := bx_pack hG
      have hkl := textS_len p.1
      have hp32 := hp.1
      repeat' (first | (with_reducible first | apply jA | apply jB | apply jC | apply jD | apply jE | apply jF | apply jG | apply jH | apply jI | apply jJ | apply jK | apply jL | apply jM | apply jN | apply jO) | ((with_reducible first | apply jP | apply jQ); rfl) | ((first | ((with_reducible first | apply jR | apply jS | apply jT); rfl; rfl) | (with_reducible first | apply jU | apply jV | apply jW) | ((with_reducible first | apply jX | apply jY | apply jZ); rfl) | ((with_reducible first | apply kA | apply kB | apply kC); rfl)); all_goals (first | ((with_reducible show Is _ _); exact kE_VR0) | ((with_reducible refine fun (hc : (_ : Bool) = _) => ?_); (try simp only [xZ, xY, xP, reduceCtorEq] at hc); (try (have hx : True := hc; clear hx hc)); (try exact kX)) | ((with_reducible show ACall _ _ _ _ _); (first | ((with_reducible apply htx) <;> exact kD_VR0) | ((with_reducible apply hln) <;> exact kD_VR0) | ((with_reducible apply hws) <;> exact kD_VR0))) | ((fail_if_success (with_reducible first | show Is _ _ | show ACall _ _ _ _ _)); (try ((with_reducible show _ ∨ _); exact kT))))))
      exact ⟨true, G, b, by (simp (disch := omega) [go_sem, *]) <;> (try omega), by (simp (disch := omega) [go_sem, *]) <;> (try omega), by (simp (disch := omega) [go_sem, *]) <;> (try omega), by (simp (disch := omega) [go_sem, *]) <;> (try omega), by (simp (disch := omega) [go_sem, *]) <;> (try omega), by simp [lnT_len], hG⟩
    clear h fr B
    refine fun fr B h => w_cut (FmI C ps.length Y i X ((t ++ peT1 p) ++ peT2 p)) ?_ ?_ (fr := fr) (B := B)
    · revert fr B h
      rw [peT2]
      rw [peT2] at hPl2
      obtain ⟨t1, ht1⟩ : ∃ t1, t ++ peT1 p = t1 := ⟨_, rfl⟩
      have htl1 : t1.length ≤ 2300000 := by rw [← ht1]; simp only [List.length_append] at hPl2 ⊢; omega
      rw [ht1]
      clear ht1
      rintro fr B ⟨m, G, b, f28, f29, f30, f5, f7, rfl, hG⟩
      have xG := bx_pack hG
      have hkl := textS_len p.2.1
      have hp32 := hp.2.1
      have hke : eqV Tryd.prog 20 52 (.agg (p.2.1.map byteC)) (.agg [.int .u8 0, .int .u8 0, .int .u8 0, .int .u8 0, .int .u8 0, .int .u8 0, .int .u8 0, .int .u8 0, .int .u8 0, .int .u8 0, .int .u8 0, .int .u8 0, .int .u8 0, .int .u8 0, .int .u8 0, .int .u8 0, .int .u8 0, .int .u8 0, .int .u8 0, .int .u8 0, .int .u8 0, .int .u8 0, .int .u8 0, .int .u8 0, .int .u8 0, .int .u8 0, .int .u8 0, .int .u8 0, .int .u8 0, .int .u8 0, .int .u8 0, .int .u8 0]) = some (p.2.1 == zK) := key_eqV (q := zK) hp.2.1 rfl
      by_cases hz : p.2.1 = zK
      · have hzb : (p.2.1 == zK) = true := by simpa using hz
        rw [if_pos hz, List.append_nil]
        rw [hzb] at hke
        replace hz : Hid _ := hz
        repeat' (first | (with_reducible first | apply jA | apply jB | apply jC | apply jD | apply jE | apply jF | apply jG | apply jH | apply jI | apply jJ | apply jK | apply jL | apply jM | apply jN | apply jO) | ((with_reducible first | apply jP | apply jQ); rfl) | ((first | ((with_reducible first | apply jR | apply jS | apply jT); rfl; rfl) | (with_reducible first | apply jU | apply jV | apply jW) | ((with_reducible first | apply jX | apply jY | apply jZ); rfl)); all_goals (first | ((with_reducible show Is _ _); exact kE) | ((with_reducible refine fun (hc : (_ : Bool) = _) => ?_); (try simp only [xZ, xY, xP, reduceCtorEq] at hc); (try (have hx : True := hc; clear hx hc)); (try exact kX)) | ((fail_if_success (with_reducible first | show Is _ _ | show ACall _ _ _ _ _)); (try ((with_reducible show _ ∨ _); exact kT))))))
        exact ⟨m, G, b, by (simp (disch := omega) [go_sem, *]) <;> (try omega), by (simp (disch := omega) [go_sem, *]) <;> (try omega), by (simp (disch := omega) [go_sem, *]) <;> (try omega), by (simp (disch := omega) [go_sem, *]) <;> (try omega), by (simp (disch := omega) [go_sem, *]) <;> (try omega), rfl, hG⟩
      · have hzb : (p.2.1 == zK) = false := by simpa using hz
        rw [if_neg hz]
        rw [hzb] at hke
        replace hz : Hid _ := hz
        repeat' (first | (with_reducible first | apply jA | apply jB | apply jC | apply jD | apply jE | apply jF | apply jG | apply jH | apply jI | apply jJ | apply jK | apply jL | apply jM | apply jN | apply jO) | ((with_reducible first | apply jP | apply jQ); rfl) | ((first | ((with_reducible first | apply jR | apply jS | apply jT); rfl; rfl) | (with_reducible first | apply jU | apply jV | apply jW) | ((with_reducible first | apply jX | apply jY | apply jZ); rfl) | ((with_reducible first | apply kA | apply kB | apply kC); rfl)); all_goals (first | ((with_reducible show Is _ _); exact kE_VR0) | ((with_reducible refine fun (hc : (_ : Bool) = _) => ?_); (try simp only [xZ, xY, xP, reduceCtorEq] at hc); (try (have hx : True := hc; clear hx hc)); (try exact kX)) | ((with_reducible show ACall _ _ _ _ _); (first | ((with_reducible apply htx) <;> exact kD_VR0) | ((with_reducible apply hln) <;> exact kD_VR0) | ((with_reducible apply hws) <;> exact kD_VR0))) | ((fail_if_success (with_reducible first | show Is _ _ | show ACall _ _ _ _ _)); (try ((with_reducible show _ ∨ _); exact kT))))))
        exact ⟨true, G, b, by (simp (disch := omega) [go_sem, *]) <;> (try omega), by (simp (disch := omega) [go_sem, *]) <;> (try omega), by (simp (disch := omega) [go_sem, *]) <;> (try omega), by (simp (disch := omega) [go_sem, *]) <;> (try omega), by (simp (disch := omega) [go_sem, *]) <;> (try omega), by simp [lnT_len], hG⟩
    clear h fr B
    refine fun fr B h => w_cut (FmI C ps.length Y i X (((t ++ peT1 p) ++ peT2 p) ++ peT3 p)) ?_ ?_ (fr := fr) (B := B)
    · revert fr B h
      rw [peT3]
      rw [peT3] at hPl2
      obtain ⟨t1, ht1⟩ : ∃ t1, (t ++ peT1 p) ++ peT2 p = t1 := ⟨_, rfl⟩
      have htl1 : t1.length ≤ 2300000 := by rw [← ht1]; simp only [List.length_append] at hPl2 ⊢; omega
      rw [ht1]
      clear ht1
      rintro fr B ⟨m, G, b, f28, f29, f30, f5, f7, rfl, hG⟩
      have xG := bx_pack hG
      have hfe : ∀ {B : List Box} {args : List CV}, Is (omap (Go.Sy.fz true false B 6) args) (some [.agg (pfC p.2.2.2.1)]) → ACall Tryd.prog 16 args B fun c B' => c = .str (fmtE p.2.2.2.1.1.1 p.2.2.2.1.1.2 p.2.2.2.1.2) ∧ B' = B := fun hz => fmtE_at (by exact hz) hp.2.2.1.1 hp.2.2.1.2
      have hel := fmtE_len p.2.2.2.1.1.1 p.2.2.2.1.1.2 p.2.2.2.1.2
      generalize fmtE p.2.2.2.1.1.1 p.2.2.2.1.1.2 p.2.2.2.1.2 = E at *
      have hom : ∀ {nz fr : Bool} {B : List Box} {k : Nat}, omap (Go.Sy.fz nz fr B (k + 1)) (pfC p.2.2.2.1) = some (pfC p.2.2.2.1) := pf_om1 _
      have hql := pfC_len hp.2.2.1
      generalize pfC p.2.2.2.1 = Q at *
      cases hz : p.2.2.1 with
      | false =>
        rw [hz] at e64
        rw [if_neg (by simp), List.append_nil]
        replace hz : Hid _ := hz
        repeat' (first | (with_reducible first | apply jA | apply jB | apply jC | apply jD | apply jE | apply jF | apply jG | apply jH | apply jI | apply jJ | apply jK | apply jL | apply jM | apply jN | apply jO) | ((with_reducible first | apply jP | apply jQ); rfl) | ((first | ((with_reducible first | apply jR | apply jS | apply jT); rfl; rfl) | (with_reducible first | apply jU | apply jV | apply jW) | ((with_reducible first | apply jX | apply jY | apply jZ); rfl)); all_goals (first | ((with_reducible show Is _ _); exact kE) | ((with_reducible refine fun (hc : (_ : Bool) = _) => ?_); (try simp only [xZ, xY, xP, reduceCtorEq] at hc); (try (have hx : True := hc; clear hx hc)); (try exact kX)) | ((fail_if_success (with_reducible first | show Is _ _ | show ACall _ _ _ _ _)); (try ((with_reducible show _ ∨ _); exact kT))))))
        exact ⟨m, G, b, by (simp (disch := omega) [go_sem, *]) <;> (try omega), by (simp (disch := omega) [go_sem, *]) <;> (try omega), by (simp (disch := omega) [go_sem, *]) <;> (try omega), by (simp (disch := omega) [go_sem, *]) <;> (try omega), by (simp (disch := omega) [go_sem, *]) <;> (try omega), rfl, hG⟩
      | true =>
        rw [hz] at e64
        rw [if_pos rfl]
        replace hz : Hid _ := hz
        repeat' (first | (with_reducible first | apply jA | apply jB | apply jC | apply jD | apply jE | apply jF | apply jG | apply jH | apply jI | apply jJ | apply jK | apply jL | apply jM | apply jN | apply jO) | ((with_reducible first | apply jP | apply jQ); rfl) | ((first | ((with_reducible first | apply jR | apply jS | apply jT); rfl; rfl) | (with_reducible first | apply jU | apply jV | apply jW) | ((with_reducible first | apply jX | apply jY | apply jZ); rfl) | ((with_reducible first | apply kA | apply kB | apply kC); rfl)); all_goals (first | ((with_reducible show Is _ _); exact kE_VR0) | ((with_reducible refine fun (hc : (_ : Bool) = _) => ?_); (try simp only [xZ, xY, xP, reduceCtorEq] at hc); (try (have hx : True := hc; clear hx hc)); (try exact kX)) | ((with_reducible show ACall _ _ _ _ _); (first | ((with_reducible apply hfe) <;> exact kD_VR0) | ((with_reducible apply hln) <;> exact kD_VR0) | ((with_reducible apply hws) <;> exact kD_VR0))) | ((fail_if_success (with_reducible first | show Is _ _ | show ACall _ _ _ _ _)); (try ((with_reducible show _ ∨ _); exact kT))))))
        exact ⟨true, G, b, by (simp (disch := omega) [go_sem, *]) <;> (try omega), by (simp (disch := omega) [go_sem, *]) <;> (try omega), by (simp (disch := omega) [go_sem, *]) <;> (try omega), by (simp (disch := omega) [go_sem, *]) <;> (try omega), by (simp (disch := omega) [go_sem, *]) <;> (try omega), by simp [lnT_len], hG⟩
    clear h fr B
    refine fun fr B h => w_cut (FmI C ps.length Y i X ((((t ++ peT1 p) ++ peT2 p) ++ peT3 p) ++ peT4 p)) ?_ ?_ (fr := fr) (B := B)
    · revert fr B h
      rw [peT4]
      rw [peT4] at hPl2
      obtain ⟨t1, ht1⟩ : ∃ t1, ((t ++ peT1 p) ++ peT2 p) ++ peT3 p = t1 := ⟨_, rfl⟩
      have htl1 : t1.length ≤ 2300000 := by rw [← ht1]; simp only [List.length_append] at hPl2 ⊢; omega
      rw [ht1]
      clear ht1
      rintro fr B ⟨m, G, b, f28, f29, f30, f5, f7, rfl, hG⟩
      have xG := bx_pack hG
      have hkr := hp.2.2.2.1
      have hfi : ∀ {B : List Box} {n : Int}, -9223372036854775808 ≤ n ∧ n ≤ 9223372036854775807 → ACall Tryd.prog 41 [.int .i64 n, .int .i64 10] B fun c B' => c = .str (Go.Lib.itoa n) ∧ B' = B := fun h => fmt10_at h
      have hil := itoa_len hkr
      generalize p.2.2.2.2.1 = kp at *
      by_cases hz : kp = 0
      · subst hz
        rw [if_pos rfl, List.append_nil]
        repeat' (first | (with_reducible first | apply jA | apply jB | apply jC | apply jD | apply jE | apply jF | apply jG | apply jH | apply jI | apply jJ | apply jK | apply jL | apply jM | apply jN | apply jO) | ((with_reducible first | apply jP | apply jQ); rfl) | ((first | ((with_reducible first | apply jR | apply jS | apply jT); rfl; rfl) | (with_reducible first | apply jU | apply jV | apply jW) | ((with_reducible first | apply jX | apply jY | apply jZ); rfl)); all_goals (first | ((with_reducible show Is _ _); exact kE) | ((with_reducible refine fun (hc : (_ : Bool) = _) => ?_); (try simp only [xZ, xY, xP, reduceCtorEq] at hc); (try (have hx : True := hc; clear hx hc)); (try exact kX)) | ((fail_if_success (with_reducible first | show Is _ _ | show ACall _ _ _ _ _)); (try ((with_reducible show _ ∨ _); exact kT))))))
        exact ⟨m, G, b, by (simp (disch := omega) [go_sem, *]) <;> (try omega), by (simp (disch := omega) [go_sem, *]) <;> (try omega), by (simp (disch := omega) [go_sem, *]) <;> (try omega), by (simp (disch := omega) [go_sem, *]) <;> (try omega), by (simp (disch := omega) [go_sem, *]) <;> (try omega), rfl, hG⟩
      · rw [if_neg hz]
        have hzb : (kp != 0) = true := by simpa using hz
        repeat' (first | (with_reducible first | apply jA | apply jB | apply jC | apply jD | apply jE | apply jF | apply jG | apply jH | apply jI | apply jJ | apply jK | apply jL | apply jM | apply jN | apply jO) | ((with_reducible first | apply jP | apply jQ); rfl) | ((first | ((with_reducible first | apply jR | apply jS | apply jT); rfl; rfl) | (with_reducible first | apply jU | apply jV | apply jW) | ((with_reducible first | apply jX | apply jY | apply jZ); rfl) | ((with_reducible first | apply kA | apply kB | apply kC); rfl)); all_goals (first | ((with_reducible show Is _ _); exact kE_VR0) | ((with_reducible refine fun (hc : (_ : Bool) = _) => ?_); (try simp only [xZ, xY, xP, reduceCtorEq] at hc); (try (have hx : True := hc; clear hx hc)); (try exact kX)) | ((with_reducible show ACall _ _ _ _ _); (first | ((with_reducible apply hfi) <;> exact kD_VR0) | ((with_reducible apply hln) <;> exact kD_VR0) | ((with_reducible apply hws) <;> exact kD_VR0))) | ((fail_if_success (with_reducible first | show Is _ _ | show ACall _ _ _ _ _)); (try ((with_reducible show _ ∨ _); exact kT))))))
        exact ⟨true, G, b, by (simp (disch := omega) [go_sem, *]) <;> (try omega), by (simp (disch := omega) [go_sem, *]) <;> (try omega), by (simp (disch := omega) [go_sem, *]) <;> (try omega), by (simp (disch := omega) [go_sem, *]) <;> (try omega), by (simp (disch := omega) [go_sem, *]) <;> (try omega), by simp [lnT_len], hG⟩
    clear h fr B
    have hfin : cfT K port (ps.take (i + 1)) = (((((t ++ peT1 p) ++ peT2 p) ++ peT3 p) ++ peT4 p) ++ peT5 p) := by rw [show cfT K port (ps.take (i + 1)) = _ from hnext, peT]; simp
    rw [peT5] at hPl2 hfin
    obtain ⟨t1, ht1⟩ : ∃ t1, (((t ++ peT1 p) ++ peT2 p) ++ peT3 p) ++ peT4 p = t1 := ⟨_, rfl⟩
    have htl1 : t1.length ≤ 2300000 := by rw [← ht1]; simp only [List.length_append] at hPl2 ⊢; omega
    rw [ht1] at hfin ⊢
    clear ht1 hPl2 hPl h1l htl hnext
    rintro fr B ⟨m, G, b, f28, f29, f30, f5, f7, rfl, hG⟩
    have xG := bx_pack hG
    have hjl := fmtJ_len p.2.2.2.2.2
    have hqs := hp.2.2.2.2
    generalize p.2.2.2.2.2 = al at *
    replace hfin : Hid _ := hfin
    have hac := cells_all (f := pfC) (z := 18) (L := al) fun q hq => pfC_len (hqs q hq)
    obtain ⟨A, hA⟩ : ∃ A, al.flatMap pfC = A := ⟨_, rfl⟩
    rw [hA] at hac e64 e83 e84
    replace hA : Hid _ := hA
    replace hac : Hid _ := hac
    replace hqs : Hid _ := hqs
    replace hjl : Hid _ := hjl
    repeat' (first | (with_reducible first | apply jA | apply jB | apply jC | apply jD | apply jE | apply jF | apply jG | apply jH | apply jI | apply jJ | apply jK | apply jL | apply jM | apply jN | apply jO) | ((with_reducible first | apply jP | apply jQ); rfl) | ((first | ((with_reducible first | apply jR | apply jS | apply jT); rfl; rfl) | (with_reducible first | apply jU | apply jV | apply jW) | ((with_reducible first | apply jX | apply jY | apply jZ); rfl)); all_goals (first | ((with_reducible show Is _ _); exact kE) | ((with_reducible refine fun (hc : (_ : Bool) = _) => ?_); (try simp only [xZ, xY, xP, reduceCtorEq] at hc); (try (have hx : True := hc; clear hx hc)); (try exact kX)) | ((fail_if_success (with_reducible first | show Is _ _ | show ACall _ _ _ _ _)); (try ((with_reducible show _ ∨ _); exact kT))))))
    refine w_loop (fun fr B => ∃ (k : Nat) (G : List Box) (lc : CV), k ≤ al.length ∧ fr 28 = .lst ps.length Y false ∧ fr 29 = .int .i64 ps.length ∧ fr 30 = .int .i64 i ∧ fr 5 = .ptr 1 0 ∧ fr 8 = lc ∧ fr 65 = .lst al.length A false ∧ fr 66 = .int .i64 al.length ∧ fr 67 = .int .i64 k ∧
      B = ⟨C, false⟩ :: ⟨[.ptr 1 0, .bview 2 t1.length 5], false⟩ :: ⟨t1.map byteC, m⟩ :: G ∧ SL lc G (fmtPs (al.take k))) (fun fr _ => al.length - natOf (fr 67)) ?_ ?_
    · exact ⟨0, G, .nilS, by omega, by (simp (disch := omega) [go_sem, *]) <;> (try omega), by (simp (disch := omega) [go_sem, *]) <;> (try omega), by (simp (disch := omega) [go_sem, *]) <;> (try omega), by (simp (disch := omega) [go_sem, *]) <;> (try omega), by (simp (disch := omega) [go_sem, *]) <;> (try omega), by (simp (disch := omega) [go_sem, *]) <;> (try omega), by (simp (disch := omega) [go_sem, *]) <;> (try omega), by (simp (disch := omega) [go_sem, *]) <;> (try omega), rfl, .inl ⟨rfl, rfl⟩⟩
    clear f28 f29 f30 f5 f7 fr xG hG e64 e65 e83 e84 e0 e32 G
    rintro fr B ⟨k, G, lc, hk, f28, f29, f30, f5, f8, f65, f66, f67, rfl, hS⟩
    have hm0 : natOf (fr 67) = k := by rw [f67]; rfl
    have hm1 : natOf (fr 30) = i := by rw [f30]; rfl
    by_cases hck : k < al.length
    · obtain ⟨a1, a2⟩ := (show Cells pfC 18 A al from hac) k hck
      have hq := (show ∀ q ∈ al, PfL q from hqs) al[k] (List.getElem_mem hck)
      have hfp : ∀ {B : List Box} {args : List CV}, Is (omap (Go.Sy.fz true false B 6) args) (some [.agg (pfC al[k])]) → ACall Tryd.prog 17 args B fun c B' => c = .str (fmtP al[k].1.1 al[k].1.2 al[k].2) ∧ B' = B := fun hz => fmtP_at (by exact hz) hq.1 hq.2
      have hnx : fmtPs (al.take (k + 1)) = fmtPs (al.take k) ++ [fmtP al[k].1.1 al[k].1.2 al[k].2] := by rw [List.take_succ_eq_append_getElem hck, fmtPs, fmtPs, List.map_append]; rfl
      have hql := pfC_len hq
      have hom : ∀ {nz fr : Bool} {B : List Box} {k2 : Nat}, omap (Go.Sy.fz nz fr B (k2 + 1)) (pfC al[k]) = some (pfC al[k]) := pf_om1 _
      have hfl9 : (fmtPs (al.take k)).length = k := by rw [fmtPs_len, List.length_take]; omega
      generalize fmtP al[k].1.1 al[k].1.2 al[k].2 = E at *
      generalize pfC al[k] = Q at *
      have hQt : Q.take 18 = Q := List.take_of_length_le (by omega)
      generalize fmtPs (al.take k) = L at *
      replace hnx : Hid _ := hnx
      rcases hS with ⟨rfl, rfl⟩ | ⟨b2, m2, hne, rfl, hb2⟩
      · repeat' (first | (with_reducible first | apply jA | apply jB | apply jC | apply jD | apply jE | apply jF | apply jG | apply jH | apply jI | apply jJ | apply jK | apply jL | apply jM | apply jN | apply jO) | ((with_reducible first | apply jP | apply jQ); rfl) | ((first | ((with_reducible first | apply jR | apply jS | apply jT); rfl; rfl) | (with_reducible first | apply jU | apply jV | apply jW) | ((with_reducible first | apply jX | apply jY | apply jZ); rfl) | ((with_reducible first | apply kA | apply kB | apply kC); rfl)); all_goals (first | ((with_reducible show Is _ _); exact kE) | ((with_reducible refine fun (hc : (_ : Bool) = _) => ?_); (try simp only [xZ, xY, xP, reduceCtorEq] at hc); (try (have hx : True := hc; clear hx hc)); (try exact kX)) | ((with_reducible show ACall _ _ _ _ _); (first | ((with_reducible apply hfp) <;> exact kD))) | ((fail_if_success (with_reducible first | show Is _ _ | show ACall _ _ _ _ _)); (try ((with_reducible show _ ∨ _); exact kT))))))
        refine ⟨⟨k + 1, G ++ [⟨Q, false⟩, ⟨[.str E], false⟩, ⟨[.str E], false⟩], .view (G.length + 2 + 1 + 1 + 1) 0 1 1 false, by omega, by (simp (disch := omega) [go_sem, *]) <;> (try omega), by (simp (disch := omega) [go_sem, *]) <;> (try omega), by (simp (disch := omega) [go_sem, *]) <;> (try omega), by (simp (disch := omega) [go_sem, *]) <;> (try omega), by (simp (disch := omega) [go_sem, *]) <;> (try omega), by (simp (disch := omega) [go_sem, *]) <;> (try omega), by (simp (disch := omega) [go_sem, *]) <;> (try omega), by (simp (disch := omega) [go_sem, *]) <;> (try omega), by simp, .inr ⟨G.length + 2, false, ?_, ?_, ?_⟩⟩, by (simp (disch := omega) [go_sem, *]) <;> (try omega)⟩
        · rw [show fmtPs (al.take (k + 1)) = _ from hnx]; simp
        · rw [show fmtPs (al.take (k + 1)) = _ from hnx]; rfl
        · rw [show fmtPs (al.take (k + 1)) = _ from hnx, bx_get rfl]; rfl
      · have xb := bx_pack hb2
        have hLl : (L.map CV.str).length = L.length := List.length_map _
        repeat' (first | (with_reducible first | apply jA | apply jB | apply jC | apply jD | apply jE | apply jF | apply jG | apply jH | apply jI | apply jJ | apply jK | apply jL | apply jM | apply jN | apply jO) | ((with_reducible first | apply jP | apply jQ); rfl) | ((first | ((with_reducible first | apply jR | apply jS | apply jT); rfl; rfl) | (with_reducible first | apply jU | apply jV | apply jW) | ((with_reducible first | apply jX | apply jY | apply jZ); rfl) | ((with_reducible first | apply kA | apply kB | apply kC); rfl)); all_goals (first | ((with_reducible show Is _ _); exact kE) | ((with_reducible refine fun (hc : (_ : Bool) = _) => ?_); (try simp only [xZ, xY, xP, reduceCtorEq] at hc); (try (have hx : True := hc; clear hx hc)); (try exact kX)) | ((with_reducible show ACall _ _ _ _ _); (first | ((with_reducible apply hfp) <;> exact kD))) | ((fail_if_success (with_reducible first | show Is _ _ | show ACall _ _ _ _ _)); (try ((with_reducible show _ ∨ _); exact kT))))))
        refine ⟨⟨k + 1, G.set b2 ⟨L.map .str ++ [.str E], true⟩ ++ [⟨Q, false⟩, ⟨[.str E], false⟩], .view (b2 + 1 + 1 + 1) 0 (k + 1) 1 false, by omega, by (simp (disch := omega) [go_sem, *]) <;> (try omega), by (simp (disch := omega) [go_sem, *]) <;> (try omega), by (simp (disch := omega) [go_sem, *]) <;> (try omega), by (simp (disch := omega) [go_sem, *]) <;> (try omega), by (simp (disch := omega) [go_sem, *]) <;> (try omega), by (simp (disch := omega) [go_sem, *]) <;> (try omega), by (simp (disch := omega) [go_sem, *]) <;> (try omega), by (simp (disch := omega) [go_sem, *]) <;> (try omega), ?_, .inr ⟨b2, true, ?_, ?_, ?_⟩⟩, by (simp (disch := omega) [go_sem, *]) <;> (try omega)⟩
        · rfl
        · rw [show fmtPs (al.take (k + 1)) = _ from hnx]; simp
        · rw [show fmtPs (al.take (k + 1)) = _ from hnx]; simp [hfl9]
        · rw [show fmtPs (al.take (k + 1)) = _ from hnx, xb.2.2.2.1]; simp
    · obtain rfl : k = al.length := by omega
      rw [List.take_length] at hS
      have hfl9 := fmtPs_len al
      have hjn : ∀ {B : List Box} {args : List CV} {n : Nat}, Is (omap (Go.Sy.fz true false B 6) args) (some [.lst n ((fmtPs al).map .str) false, .str [44, 32]]) → n = al.length → ACall Tryd.prog 42 args B fun c B' => c = .str (Go.Lib.join (fmtPs al) [44, 32]) ∧ B' = B := fun hz hn => join_at hz (by rw [hn, hfl9]) (by rw [hfl9]; omega) (by have := (show (Go.Lib.join (fmtPs al) [44, 32]).length ≤ al.length * 1002 from hjl); omega)
      have hjl' : (Go.Lib.join (fmtPs al) [44, 32]).length ≤ 16032 := by have := (show (Go.Lib.join (fmtPs al) [44, 32]).length ≤ al.length * 1002 from hjl); omega
      generalize Go.Lib.join (fmtPs al) [44, 32] = J at *
      generalize fmtPs al = L at *
      rcases hS with ⟨rfl, rfl⟩ | ⟨b2, m2, hne, rfl, hb2⟩
      · have hal0 : al = [] := List.eq_nil_of_length_eq_zero (by simpa using hfl9.symm)
        have hfin' := (show cfT K port (ps.take (i + 1)) = _ from hfin)
        rw [if_pos hal0, List.append_nil] at hfin'
        replace hfin' : Hid _ := hfin'
        replace hal0 : Hid _ := hal0
        repeat' (first | (with_reducible first | apply jA | apply jB | apply jC | apply jD | apply jE | apply jF | apply jG | apply jH | apply jI | apply jJ | apply jK | apply jL | apply jM | apply jN | apply jO) | ((with_reducible first | apply jP | apply jQ); rfl) | ((first | ((with_reducible first | apply jR | apply jS | apply jT); rfl; rfl) | (with_reducible first | apply jU | apply jV | apply jW) | ((with_reducible first | apply jX | apply jY | apply jZ); rfl)); all_goals (first | ((with_reducible show Is _ _); exact kE) | ((with_reducible refine fun (hc : (_ : Bool) = _) => ?_); (try simp only [xZ, xY, xP, reduceCtorEq] at hc); (try (have hx : True := hc; clear hx hc)); (try exact kX)) | ((fail_if_success (with_reducible first | show Is _ _ | show ACall _ _ _ _ _)); (try ((with_reducible show _ ∨ _); exact kT))))))
        exact ⟨⟨i + 1, m, G, t1, by omega, (show cfT K port (ps.take (i + 1)) = t1 from hfin').symm, by (simp (disch := omega) [go_sem, *]) <;> (try omega), by (simp (disch := omega) [go_sem, *]) <;> (try omega), by (simp (disch := omega) [go_sem, *]) <;> (try omega), by (simp (disch := omega) [go_sem, *]) <;> (try omega), rfl⟩, by (simp (disch := omega) [go_sem, *]) <;> (try omega)⟩
      · have hal0 : al ≠ [] := fun h => hne (List.eq_nil_of_length_eq_zero (by rw [hfl9, h]; rfl))
        have hall : al.length ≠ 0 := by simpa using hal0
        have hfin' := (show cfT K port (ps.take (i + 1)) = _ from hfin)
        rw [if_neg hal0] at hfin'
        replace hfin' : Hid _ := hfin'
        have hLl : (L.map CV.str).length = al.length := by rw [List.length_map, hfl9]
        have hLt : (L.map CV.str).take al.length = L.map CV.str := List.take_of_length_le (by omega)
        have hLo : ∀ {nz fr : Bool} {B : List Box} {k2 : Nat}, omap (Go.Sy.fz nz fr B (k2 + 1)) (L.map CV.str) = some (L.map CV.str) := omap_strs L
        have xb := bx_pack hb2
        repeat' (first | (with_reducible first | apply jA | apply jB | apply jC | apply jD | apply jE | apply jF | apply jG | apply jH | apply jI | apply jJ | apply jK | apply jL | apply jM | apply jN | apply jO) | ((with_reducible first | apply jP | apply jQ); rfl) | ((first | ((with_reducible first | apply jR | apply jS | apply jT); rfl; rfl) | (with_reducible first | apply jU | apply jV | apply jW) | ((with_reducible first | apply jX | apply jY | apply jZ); rfl) | ((with_reducible first | apply kA | apply kB | apply kC); rfl)); all_goals (first | ((with_reducible show Is _ _); exact kE_VR0) | ((with_reducible refine fun (hc : (_ : Bool) = _) => ?_); (try simp only [xZ, xY, xP, reduceCtorEq] at hc); (try (have hx : True := hc; clear hx hc)); (try exact kX)) | ((with_reducible show ACall _ _ _ _ _); (first | ((with_reducible apply hjn) <;> exact kD_VR0) | ((with_reducible apply hln) <;> exact kD_VR0) | ((with_reducible apply hws) <;> exact kD_VR0))) | ((fail_if_success (with_reducible first | show Is _ _ | show ACall _ _ _ _ _)); (try ((with_reducible show _ ∨ _); exact kT))))))
        refine ⟨⟨i + 1, true, G, _, by omega, (show cfT K port (ps.take (i + 1)) = _ from hfin').symm, by (simp (disch := omega) [go_sem, *]) <;> (try omega), by (simp (disch := omega) [go_sem, *]) <;> (try omega), by (simp (disch := omega) [go_sem, *]) <;> (try omega), by (simp (disch := omega) [go_sem, *]) <;> (try omega), ?_⟩, by (simp (disch := omega) [go_sem, *]) <;> (try omega)⟩
        simp [lnT_len]
  rw [hC]; exact hgoal
end Go.Proofs.YtdceppjoipoohaaDoor
end
section
namespace Go.Proofs.YtdceppjoipoohaaDoor
open Go Go.Sy
set_option linter.all false
set_option maxRecDepth 100000
set_option maxHeartbeats 4000000
def FrI (C : List CV) (n : Nat) (Y : List CV) (i : Nat) (X : List CV) (t : List UInt8) (fr : Fr) (B : List Box) : Prop :=
  ∃ G b, fr 26 = .lst n Y false ∧ fr 27 = .int .i64 n ∧ fr 28 = .int .i64 i ∧ fr 5 = .str t ∧ fr 7 = .ptr (b + 1) 0 ∧ B = ⟨C, false⟩ :: G ∧ G[b]? = some ⟨X, false⟩
theorem join_snoc (L : List (List UInt8)) (x t : List UInt8) : Go.Lib.join (L ++ [x]) t = if L = [] then x else Go.Lib.join L t ++ (t ++ x) := by
  cases L with
  | nil => simp [Go.Lib.join_one]
  | cons y r => rw [if_neg (by simp), List.cons_append, Go.Lib.join_cons, Go.Lib.join_cons]; simp [Go.Lib.joinTail]
theorem itoa_nat (n : Nat) : Go.Lib.itoa (n : Int) = Go.Lib.decDigits n := by
  unfold Go.Lib.itoa
  rw [if_neg (by omega)]
  rfl
theorem rformat_in (K : List UInt8) (port : Int) (ps : List Pe) (hK : K.length = 32) (hpo : -9223372036854775808 ≤ port ∧ port ≤ 9223372036854775807) (hps : ∀ p ∈ ps, PeL p) (hl : ps.length < 1000) (hal : ∀ p ∈ ps, p.2.2.2.2.2.length < 1000) :
    PC Tryd.prog true 26 [.agg (cfC (K, port, ps))] (fmtR K port ps) := by
  obtain ⟨c32, c33, c0, cl⟩ := cf_parts (c := (K, port, ps)) hK
  dsimp only at c32 c33 c0
  have hvd : ∀ {B : List Box} {args : List CV}, Is (omap (Go.Sy.fz true false B 6) args) (some [.agg (cfC (K, port, ps))]) → ACall Tryd.prog 28 args B fun c B' => c = .int .i64 (valC port ps) ∧ B' = B := fun hz => acall_fresh hz (rvalidate_in K port ps hK hpo hps hl hal)
  have hom : ∀ {nz : Bool} {B : List Box} {k : Nat}, omap (Go.Sy.fz nz false B (k + 3)) (cfC (K, port, ps)) = some (cfC (K, port, ps)) := cf_om _
  have hct : (cfC (K, port, ps)).take 34 = cfC (K, port, ps) := List.take_of_length_le (by omega)
  obtain ⟨C, hC⟩ : ∃ C, cfC (K, port, ps) = C := ⟨_, rfl⟩
  have hgoal : PC Tryd.prog true 26 [.agg C] (fmtR K port ps) := by
    rw [hC] at c32 c33 c0 cl hvd hom hct
    replace hC : Hid _ := hC
    refine acall_intro mixed Tryd.func26 rfl ca26 (by kernel_rfl) (by rw [Tryd.ntmps26]; simp) ?_
    refine w_cut (fun fr B => fr 1 = .ptr 0 0 ∧ B = [⟨C, false⟩]) ?_ ?_
    · repeat' (first | (with_reducible first | apply jA | apply jB | apply jC | apply jD | apply jE | apply jF | apply jG | apply jH | apply jI | apply jJ | apply jK | apply jL | apply jM | apply jN | apply jO) | ((with_reducible first | apply jP | apply jQ); rfl) | ((first | ((with_reducible first | apply jR | apply jS | apply jT); rfl; rfl) | (with_reducible first | apply jU | apply jV | apply jW) | ((with_reducible first | apply jX | apply jY | apply jZ); rfl)); all_goals (first | ((with_reducible show Is _ _); exact kE) | ((with_reducible refine fun (hc : (_ : Bool) = _) => ?_); (try simp only [xZ, xY, xP, reduceCtorEq] at hc); (try (have hx : True := hc; clear hx hc)); (try exact kX)) | ((fail_if_success (with_reducible first | show Is _ _ | show ACall _ _ _ _ _)); (try ((with_reducible show _ ∨ _); exact kT))))))
      exact ⟨by (simp (disch := omega) [go_sem, *]) <;> (try omega), by (simp (disch := omega) [go_sem, *]) <;> (try omega)⟩
    rintro fr B ⟨f1, rfl⟩
    refine w_cut (fun fr B => valC port ps = 0 ∧ fr 1 = .ptr 0 0 ∧ B = [⟨C, false⟩]) ?_ ?_
    · by_cases hv : valC port ps = 0
      · rw [hv] at hvd
        repeat' (first | (with_reducible first | apply jA | apply jB | apply jC | apply jD | apply jE | apply jF | apply jG | apply jH | apply jI | apply jJ | apply jK | apply jL | apply jM | apply jN | apply jO) | ((with_reducible first | apply jP | apply jQ); rfl) | ((first | ((with_reducible first | apply jR | apply jS | apply jT); rfl; rfl) | (with_reducible first | apply jU | apply jV | apply jW) | ((with_reducible first | apply jX | apply jY | apply jZ); rfl) | ((with_reducible first | apply kA | apply kB | apply kC); rfl)); all_goals (first | ((with_reducible show Is _ _); exact kE) | ((with_reducible refine fun (hc : (_ : Bool) = _) => ?_); (try simp only [xZ, xY, xP, reduceCtorEq] at hc); (try (have hx : True := hc; clear hx hc)); (try exact kX)) | ((with_reducible show ACall _ _ _ _ _); (first | ((with_reducible apply hvd) <;> exact kD))) | ((fail_if_success (with_reducible first | show Is _ _ | show ACall _ _ _ _ _)); (try ((with_reducible show _ ∨ _); exact kT))))))
        exact ⟨hv, by (simp (disch := omega) [go_sem, *]) <;> (try omega), rfl⟩
      · repeat' (first | (with_reducible first | apply jA | apply jB | apply jC | apply jD | apply jE | apply jF | apply jG | apply jH | apply jI | apply jJ | apply jK | apply jL | apply jM | apply jN | apply jO) | ((with_reducible first | apply jP | apply jQ); rfl) | ((first | ((with_reducible first | apply jR | apply jS | apply jT); rfl; rfl) | (with_reducible first | apply jU | apply jV | apply jW) | ((with_reducible first | apply jX | apply jY | apply jZ); rfl) | ((with_reducible first | apply kA | apply kB | apply kC); rfl)); all_goals (first | ((with_reducible show Is _ _); exact kE) | ((with_reducible refine fun (hc : (_ : Bool) = _) => ?_); (try simp only [xZ, xY, xP, reduceCtorEq] at hc); (try (have hx : True := hc; clear hx hc)); (try exact kX)) | ((with_reducible show ACall _ _ _ _ _); (first | ((with_reducible apply hvd) <;> exact kD))) | ((fail_if_success (with_reducible first | show Is _ _ | show ACall _ _ _ _ _)); (try ((with_reducible show _ ∨ _); exact kT))))))
        rw [fmtR, if_neg hv]
        rfl
    clear f1 fr hvd
    rintro fr B ⟨hv, f1, rfl⟩
    have hfl := peTs_len hps (fun p hp => Nat.le_trans (al_le_alls hp) (by have := (valC_zero hv).1; omega))
    obtain ⟨⟨hp8, hal16⟩, ⟨hpo1, hpo2⟩, hok⟩ := valC_zero hv
    have hH := cfH_len K hpo
    have htx : ∀ {B : List Box} {args : List CV} {k : List UInt8}, Is (omap (Go.Sy.fz true false B 6) args) (some [.agg (k.map byteC)]) → k.length = 32 → ACall Tryd.prog 60 args B fun c B' => c = .str (textS k) ∧ B' = B := fun hz hk => acall_fresh hz (rtext_in _ hk)
    have hit : ∀ {B : List Box} {n : Nat}, n < 4611686018427387904 → ACall Tryd.prog 34 [.int .i64 n] B fun c B' => c = .str (Go.Lib.decDigits n) ∧ B' = B := fun h => rdec_at _ h
    obtain ⟨po, rfl⟩ := Int.eq_ofNat_of_zero_le hpo1
    have hil := itoa_len hpo
    rw [itoa_nat] at hil
    have hkl := textS_len K
    refine w_cut (fun fr B => fr 1 = .ptr 0 0 ∧ fr 5 = .str (cfH K po) ∧ B = [⟨C, false⟩]) ?_ ?_
    · have hcf : cfH K (po : Int) = [91, 73, 110, 116, 101, 114, 102, 97, 99, 101, 93, 10, 80, 114, 105, 118, 97, 116, 101, 75, 101, 121, 32, 61, 32] ++ (textS K ++ ([10, 76, 105, 115, 116, 101, 110, 80, 111, 114, 116, 32, 61, 32] ++ (Go.Lib.decDigits po ++ [10]))) := by simp [cfH, lnT, itoa_nat]
      replace hcf : Hid _ := hcf
      repeat' (first | (with_reducible first | apply jA | apply jB | apply jC | apply jD | apply jE | apply jF | apply jG | apply jH | apply jI | apply jJ | apply jK | apply jL | apply jM | apply jN | apply jO) | ((with_reducible first | apply jP | apply jQ); rfl) | ((first | ((with_reducible first | apply jR | apply jS | apply jT); rfl; rfl) | (with_reducible first | apply jU | apply jV | apply jW) | ((with_reducible first | apply jX | apply jY | apply jZ); rfl) | ((with_reducible first | apply kA | apply kB | apply kC); rfl)); all_goals (first | ((with_reducible show Is _ _); exact kE) | ((with_reducible refine fun (hc : (_ : Bool) = _) => ?_); (try simp only [xZ, xY, xP, reduceCtorEq] at hc); (try (have hx : True := hc; clear hx hc)); (try exact kX)) | ((with_reducible show ACall _ _ _ _ _); (first | ((with_reducible apply htx) <;> exact kD) | ((with_reducible apply hit) <;> exact kD))) | ((fail_if_success (with_reducible first | show Is _ _ | show ACall _ _ _ _ _)); (try ((with_reducible show _ ∨ _); exact kT))))))
      refine ⟨by (simp (disch := omega) [go_sem, *]) <;> (try omega), ?_, rfl⟩
      rw [show cfH K (po : Int) = _ from hcf]
      (simp (disch := omega) [go_sem, *]) <;> (try omega)
    clear f1 fr
    rintro fr B ⟨f1, f5, rfl⟩
    have hpc := cells_all (f := peC) (z := 85) (L := ps) fun p hp => peC_len (hps p hp)
    have hpl1 : ∀ p ∈ ps, (peT p).length ≤ 200000 := fun p hp => peT_len (hps p hp) (Nat.le_trans (al_le_alls hp) (by omega))
    have hpfx : ∀ k, (cfT K po (ps.take k)).length ≤ 2000000 := fun k => by
      have := peTs_len (ps := ps.take k) (fun p hp => hps p (List.mem_of_mem_take hp)) (fun p hp => Nat.le_trans (al_le_alls (List.mem_of_mem_take hp)) (by omega))
      rw [List.length_take] at this
      have h8 : min k ps.length * 200000 ≤ 8 * 200000 := Nat.mul_le_mul_right _ (by omega)
      rw [cfT, List.length_append]
      omega
    obtain ⟨t0, ht0⟩ : ∃ t0, cfH K po = t0 := ⟨_, rfl⟩
    rw [ht0] at f5
    have hT0 : t0 = cfT K po (ps.take 0) := by rw [← ht0]; simp [cfT]
    obtain ⟨Y, hY⟩ : ∃ Y, ps.flatMap peC = Y := ⟨_, rfl⟩
    rw [hY] at hpc c33
    have hokp : ∀ p ∈ ps, okPe p = true := List.all_eq_true.1 hok
    replace hY : Hid _ := hY
    replace hpc : Hid _ := hpc
    replace hps : Hid _ := hps
    replace hT0 : Hid _ := hT0
    replace hokp : Hid _ := hokp
    clear hH ht0 c32 hom hct
    repeat' (first | (with_reducible first | apply jA | apply jB | apply jC | apply jD | apply jE | apply jF | apply jG | apply jH | apply jI | apply jJ | apply jK | apply jL | apply jM | apply jN | apply jO) | ((with_reducible first | apply jP | apply jQ); rfl) | ((first | ((with_reducible first | apply jR | apply jS | apply jT); rfl; rfl) | (with_reducible first | apply jU | apply jV | apply jW) | ((with_reducible first | apply jX | apply jY | apply jZ); rfl)); all_goals (first | ((with_reducible show Is _ _); exact kE) | ((with_reducible refine fun (hc : (_ : Bool) = _) => ?_); (try simp only [xZ, xY, xP, reduceCtorEq] at hc); (try (have hx : True := hc; clear hx hc)); (try exact kX)) | ((fail_if_success (with_reducible first | show Is _ _ | show ACall _ _ _ _ _)); (try ((with_reducible show _ ∨ _); exact kT))))))
    refine w_loop (fun fr B => ∃ (i : Nat) (G : List Box) (t : List UInt8), i ≤ ps.length ∧ t = cfT K po (ps.take i) ∧ fr 26 = .lst ps.length Y false ∧ fr 27 = .int .i64 ps.length ∧ fr 28 = .int .i64 i ∧ fr 5 = .str t ∧ B = ⟨C, false⟩ :: G) (fun fr _ => ps.length - natOf (fr 28)) ?_ ?_
    · exact ⟨0, [], t0, by omega, hT0, by (simp (disch := omega) [go_sem, *]) <;> (try omega), by (simp (disch := omega) [go_sem, *]) <;> (try omega), by (simp (disch := omega) [go_sem, *]) <;> (try omega), by (simp (disch := omega) [go_sem, *]) <;> (try omega), rfl⟩
    clear f1 f5 fr hT0 t0
    rintro fr B ⟨i, G, t, hi, ht, f26, f27, f28, f5, rfl⟩
    have hm0 : natOf (fr 28) = i := by rw [f28]; rfl
    have htl : t.length ≤ 2000000 := by rw [ht]; exact hpfx i
    by_cases hci : i < ps.length
    rotate_left
    · obtain rfl : i = ps.length := by omega
      rw [List.take_length] at ht
      rw [fmtR, hv, if_pos rfl, ← ht]
      replace ht : Hid _ := ht
      repeat' (first | (with_reducible first | apply jA | apply jB | apply jC | apply jD | apply jE | apply jF | apply jG | apply jH | apply jI | apply jJ | apply jK | apply jL | apply jM | apply jN | apply jO) | ((with_reducible first | apply jP | apply jQ); rfl) | ((first | ((with_reducible first | apply jR | apply jS | apply jT); rfl; rfl) | (with_reducible first | apply jU | apply jV | apply jW) | ((with_reducible first | apply jX | apply jY | apply jZ); rfl)); all_goals (first | ((with_reducible show Is _ _); exact kE) | ((with_reducible refine fun (hc : (_ : Bool) = _) => ?_); (try simp only [xZ, xY, xP, reduceCtorEq] at hc); (try (have hx : True := hc; clear hx hc)); (try exact kX)) | ((fail_if_success (with_reducible first | show Is _ _ | show ACall _ _ _ _ _)); (try ((with_reducible show _ ∨ _); exact kT))))))
      rfl
    have hp := (show ∀ p ∈ ps, PeL p from hps) ps[i] (List.getElem_mem hci)
    have hpo2 := (show ∀ p ∈ ps, okPe p = true from hokp) ps[i] (List.getElem_mem hci)
    have hpal : ps[i].2.2.2.2.2.length ≤ 16 := Nat.le_trans (al_le_alls (List.getElem_mem hci)) hal16
    obtain ⟨y1, y2⟩ := (show Cells peC 85 Y ps from hpc) i hci
    obtain ⟨e64, e65, e83, e84, e0, e32⟩ := pe_parts hp
    have hXl := peC_len hp
    have hnext : cfT K po (ps.take (i + 1)) = t ++ peT ps[i] := by
      rw [ht, List.take_succ_eq_append_getElem hci, cfT, cfT, List.flatMap_append, List.flatMap_singleton, List.append_assoc]
    have hPl := peT_len hp (Nat.le_trans hpal (by omega))
    rw [hm0]
    clear hm0 hpl1 hpfx hil
    replace ht : Hid _ := ht
    replace hnext : Hid _ := hnext
    generalize ps[i] = p at *
    have hkp : ∃ kn : Nat, p.2.2.2.2.1 = kn ∧ kn ≤ 1073741824 := by
      simp only [okPe, timed, Bool.and_eq_true, Bool.or_eq_true, beq_iff_eq, decide_eq_true_eq] at hpo2
      exact ⟨p.2.2.2.2.1.toNat, by omega, by omega⟩
    replace hpo2 : Hid _ := hpo2
    obtain ⟨X, hX⟩ : ∃ X, peC p = X := ⟨_, rfl⟩
    rw [hX] at y2 e64 e65 e83 e84 e0 e32 hXl
    have hXt : X.take 85 = X := List.take_of_length_le (by omega)
    replace hX : Hid _ := hX
    refine w_cut (fun fr B => fr 26 = .lst ps.length Y false ∧ fr 27 = .int .i64 ps.length ∧ fr 28 = .int .i64 i ∧ fr 5 = .str t ∧ fr 29 = .bool true ∧ B = ⟨C, false⟩ :: G) ?_ ?_
    · repeat' (first | (with_reducible first | apply jA | apply jB | apply jC | apply jD | apply jE | apply jF | apply jG | apply jH | apply jI | apply jJ | apply jK | apply jL | apply jM | apply jN | apply jO) | ((with_reducible first | apply jP | apply jQ); rfl) | ((first | ((with_reducible first | apply jR | apply jS | apply jT); rfl; rfl) | (with_reducible first | apply jU | apply jV | apply jW) | ((with_reducible first | apply jX | apply jY | apply jZ); rfl)); all_goals (first | ((with_reducible show Is _ _); exact kE) | ((with_reducible refine fun (hc : (_ : Bool) = _) => ?_); (try simp only [xZ, xY, xP, reduceCtorEq] at hc); (try (have hx : True := hc; clear hx hc)); (try exact kX)) | ((fail_if_success (with_reducible first | show Is _ _ | show ACall _ _ _ _ _)); (try ((with_reducible show _ ∨ _); exact kT))))))
      exact ⟨by (simp (disch := omega) [go_sem, *]) <;> (try omega), by (simp (disch := omega) [go_sem, *]) <;> (try omega), by (simp (disch := omega) [go_sem, *]) <;> (try omega), by (simp (disch := omega) [go_sem, *]) <;> (try omega), by (simp (disch := omega) [go_sem, *]) <;> (try omega), rfl⟩
    clear f26 f27 f28 f5 fr
    rintro fr B ⟨f26, f27, f28, f5, f29, rfl⟩
    refine w_cut (fun fr B => fr 26 = .lst ps.length Y false ∧ fr 27 = .int .i64 ps.length ∧ fr 28 = .int .i64 i ∧ fr 5 = .str t ∧ B = ⟨C, false⟩ :: G) ?_ ?_
    · repeat' (first | (with_reducible first | apply jA | apply jB | apply jC | apply jD | apply jE | apply jF | apply jG | apply jH | apply jI | apply jJ | apply jK | apply jL | apply jM | apply jN | apply jO) | ((with_reducible first | apply jP | apply jQ); rfl) | ((first | ((with_reducible first | apply jR | apply jS | apply jT); rfl; rfl) | (with_reducible first | apply jU | apply jV | apply jW) | ((with_reducible first | apply jX | apply jY | apply jZ); rfl)); all_goals (first | ((with_reducible show Is _ _); exact kE) | ((with_reducible refine fun (hc : (_ : Bool) = _) => ?_); (try simp only [xZ, xY, xP, reduceCtorEq] at hc); (try (have hx : True := hc; clear hx hc)); (try exact kX)) | ((fail_if_success (with_reducible first | show Is _ _ | show ACall _ _ _ _ _)); (try ((with_reducible show _ ∨ _); exact kT))))))
      exact ⟨by (simp (disch := omega) [go_sem, *]) <;> (try omega), by (simp (disch := omega) [go_sem, *]) <;> (try omega), by (simp (disch := omega) [go_sem, *]) <;> (try omega), by (simp (disch := omega) [go_sem, *]) <;> (try omega), rfl⟩
    clear f26 f27 f28 f5 f29 fr
    rintro fr B ⟨f26, f27, f28, f5, rfl⟩
    refine w_seq (w_block ?_)
    refine w_cut (FrI C ps.length Y i X t) ?_ ?_
    · repeat' (first | (with_reducible first | apply jA | apply jB | apply jC | apply jD | apply jE | apply jF | apply jG | apply jH | apply jI | apply jJ | apply jK | apply jL | apply jM | apply jN | apply jO) | ((with_reducible first | apply jP | apply jQ); rfl) | ((first | ((with_reducible first | apply jR | apply jS | apply jT); rfl; rfl) | (with_reducible first | apply jU | apply jV | apply jW) | ((with_reducible first | apply jX | apply jY | apply jZ); rfl)); all_goals (first | ((with_reducible show Is _ _); exact kE) | ((with_reducible refine fun (hc : (_ : Bool) = _) => ?_); (try simp only [xZ, xY, xP, reduceCtorEq] at hc); (try (have hx : True := hc; clear hx hc)); (try exact kX)) | ((fail_if_success (with_reducible first | show Is _ _ | show ACall _ _ _ _ _)); (try ((with_reducible show _ ∨ _); exact kT))))))
      exact ⟨G ++ [⟨X, false⟩], G.length, by (simp (disch := omega) [go_sem, *]) <;> (try omega), by (simp (disch := omega) [go_sem, *]) <;> (try omega), by (simp (disch := omega) [go_sem, *]) <;> (try omega), by (simp (disch := omega) [go_sem, *]) <;> (try omega), by (simp (disch := omega) [go_sem, *]) <;> (try omega), by (simp (disch := omega) [go_sem, *]) <;> (try omega), by simp⟩
    clear f26 f27 f28 f5 y1 y2 fr
    have h1l : (peT1 p).length = 65 := by simp [peT1, lnT_len, textS_len]
    have hPl2 : (peT p).length = (peT1 p).length + ((peT2 p).length + ((peT3 p).length + ((peT4 p).length + (peT5 p).length))) := by simp [peT]
    refine fun fr B h => w_cut (FrI C ps.length Y i X (t ++ peT1 p)) ?_ ?_ (fr := fr) (B := B)
    · revert fr B h
      rintro fr B ⟨G, b, f26, f27, f28, f5, f7, rfl, hG⟩
      have xG := bx_pack hG
      have hkl := textS_len p.1
      have hp32 := hp.1
      repeat' (first | (with_reducible first | apply jA | apply jB | apply jC | apply jD | apply jE | apply jF | apply jG | apply jH | apply jI | apply jJ | apply jK | apply jL | apply jM | apply jN | apply jO) | ((with_reducible first | apply jP | apply jQ); rfl) | ((first | ((with_reducible first | apply jR | apply jS | apply jT); rfl; rfl) | (with_reducible first | apply jU | apply jV | apply jW) | ((with_reducible first | apply jX | apply jY | apply jZ); rfl) | ((with_reducible first | apply kA | apply kB | apply kC); rfl)); all_goals (first | ((with_reducible show Is _ _); exact kE) | ((with_reducible refine fun (hc : (_ : Bool) = _) => ?_); (try simp only [xZ, xY, xP, reduceCtorEq] at hc); (try (have hx : True := hc; clear hx hc)); (try exact kX)) | ((with_reducible show ACall _ _ _ _ _); (first | ((with_reducible apply htx) <;> exact kD))) | ((fail_if_success (with_reducible first | show Is _ _ | show ACall _ _ _ _ _)); (try ((with_reducible show _ ∨ _); exact kT))))))
      refine ⟨G, b, by (simp (disch := omega) [go_sem, *]) <;> (try omega), by (simp (disch := omega) [go_sem, *]) <;> (try omega), by (simp (disch := omega) [go_sem, *]) <;> (try omega), ?_, by (simp (disch := omega) [go_sem, *]) <;> (try omega), rfl, hG⟩
      simp [upd, peT1, lnT]
    clear h fr B
    refine fun fr B h => w_cut (FrI C ps.length Y i X ((t ++ peT1 p) ++ peT2 p)) ?_ ?_ (fr := fr) (B := B)
    · revert fr B h
      rw [peT2]
      rw [peT2] at hPl2
      obtain ⟨t1, ht1⟩ : ∃ t1, t ++ peT1 p = t1 := ⟨_, rfl⟩
      have htl1 : t1.length ≤ 2300000 := by rw [← ht1]; simp only [List.length_append] at hPl2 ⊢; omega
      rw [ht1]
      clear ht1
      rintro fr B ⟨G, b, f26, f27, f28, f5, f7, rfl, hG⟩
      have xG := bx_pack hG
      have hkl := textS_len p.2.1
      have hp32 := hp.2.1
      have hke : eqV Tryd.prog 20 52 (.agg (p.2.1.map byteC)) (.agg [.int .u8 0, .int .u8 0, .int .u8 0, .int .u8 0, .int .u8 0, .int .u8 0, .int .u8 0, .int .u8 0, .int .u8 0, .int .u8 0, .int .u8 0, .int .u8 0, .int .u8 0, .int .u8 0, .int .u8 0, .int .u8 0, .int .u8 0, .int .u8 0, .int .u8 0, .int .u8 0, .int .u8 0, .int .u8 0, .int .u8 0, .int .u8 0, .int .u8 0, .int .u8 0, .int .u8 0, .int .u8 0, .int .u8 0, .int .u8 0, .int .u8 0, .int .u8 0]) = some (p.2.1 == zK) := key_eqV (q := zK) hp.2.1 rfl
      by_cases hz : p.2.1 = zK
      · have hzb : (p.2.1 == zK) = true := by simpa using hz
        rw [if_pos hz, List.append_nil]
        rw [hzb] at hke
        replace hz : Hid _ := hz
        repeat' (first | (with_reducible first | apply jA | apply jB | apply jC | apply jD | apply jE | apply jF | apply jG | apply jH | apply jI | apply jJ | apply jK | apply jL | apply jM | apply jN | apply jO) | ((with_reducible first | apply jP | apply jQ); rfl) | ((first | ((with_reducible first | apply jR | apply jS | apply jT); rfl; rfl) | (with_reducible first | apply jU | apply jV | apply jW) | ((with_reducible first | apply jX | apply jY | apply jZ); rfl)); all_goals (first | ((with_reducible show Is _ _); exact kE) | ((with_reducible refine fun (hc : (_ : Bool) = _) => ?_); (try simp only [xZ, xY, xP, reduceCtorEq] at hc); (try (have hx : True := hc; clear hx hc)); (try exact kX)) | ((fail_if_success (with_reducible first | show Is _ _ | show ACall _ _ _ _ _)); (try ((with_reducible show _ ∨ _); exact kT))))))
        exact ⟨G, b, by (simp (disch := omega) [go_sem, *]) <;> (try omega), by (simp (disch := omega) [go_sem, *]) <;> (try omega), by (simp (disch := omega) [go_sem, *]) <;> (try omega), by (simp (disch := omega) [go_sem, *]) <;> (try omega), by (simp (disch := omega) [go_sem, *]) <;> (try omega), rfl, hG⟩
      · have hzb : (p.2.1 == zK) = false := by simpa using hz
        rw [if_neg hz]
        rw [hzb] at hke
        replace hz : Hid _ := hz
        repeat' (first | (with_reducible first | apply jA | apply jB | apply jC | apply jD | apply jE | apply jF | apply jG | apply jH | apply jI | apply jJ | apply jK | apply jL | apply jM | apply jN | apply jO) | ((with_reducible first | apply jP | apply jQ); rfl) | ((first | ((with_reducible first | apply jR | apply jS | apply jT); rfl; rfl) | (with_reducible first | apply jU | apply jV | apply jW) | ((with_reducible first | apply jX | apply jY | apply jZ); rfl) | ((with_reducible first | apply kA | apply kB | apply kC); rfl)); all_goals (first | ((with_reducible show Is _ _); exact kE) | ((with_reducible refine fun (hc : (_ : Bool) = _) => ?_); (try simp only [xZ, xY, xP, reduceCtorEq] at hc); (try (have hx : True := hc; clear hx hc)); (try exact kX)) | ((with_reducible show ACall _ _ _ _ _); (first | ((with_reducible apply htx) <;> exact kD))) | ((fail_if_success (with_reducible first | show Is _ _ | show ACall _ _ _ _ _)); (try ((with_reducible show _ ∨ _); exact kT))))))
        refine ⟨G, b, by (simp (disch := omega) [go_sem, *]) <;> (try omega), by (simp (disch := omega) [go_sem, *]) <;> (try omega), by (simp (disch := omega) [go_sem, *]) <;> (try omega), ?_, by (simp (disch := omega) [go_sem, *]) <;> (try omega), rfl, hG⟩
        simp [upd, lnT]
    clear h fr B
    refine fun fr B h => w_cut (FrI C ps.length Y i X (((t ++ peT1 p) ++ peT2 p) ++ peT3 p)) ?_ ?_ (fr := fr) (B := B)
    · revert fr B h
      rw [peT3]
      rw [peT3] at hPl2
      obtain ⟨t1, ht1⟩ : ∃ t1, (t ++ peT1 p) ++ peT2 p = t1 := ⟨_, rfl⟩
      have htl1 : t1.length ≤ 2300000 := by rw [← ht1]; simp only [List.length_append] at hPl2 ⊢; omega
      rw [ht1]
      clear ht1
      rintro fr B ⟨G, b, f26, f27, f28, f5, f7, rfl, hG⟩
      have xG := bx_pack hG
      have hfe : ∀ {B : List Box} {args : List CV}, Is (omap (Go.Sy.fz true false B 6) args) (some [.agg (pfC p.2.2.2.1)]) → ACall Tryd.prog 12 args B fun c B' => c = .str (fmtE p.2.2.2.1.1.1 p.2.2.2.1.1.2 p.2.2.2.1.2) ∧ B' = B := fun hz => rfmtE_at (by exact hz) hp.2.2.1.1 hp.2.2.1.2
      have hel := fmtE_len p.2.2.2.1.1.1 p.2.2.2.1.1.2 p.2.2.2.1.2
      generalize fmtE p.2.2.2.1.1.1 p.2.2.2.1.1.2 p.2.2.2.1.2 = E at *
      have hom : ∀ {nz fr : Bool} {B : List Box} {k : Nat}, omap (Go.Sy.fz nz fr B (k + 1)) (pfC p.2.2.2.1) = some (pfC p.2.2.2.1) := pf_om1 _
      have hql := pfC_len hp.2.2.1
      generalize pfC p.2.2.2.1 = Q at *
      cases hz : p.2.2.1 with
      | false =>
        rw [hz] at e64
        rw [if_neg (by simp), List.append_nil]
        replace hz : Hid _ := hz
        repeat' (first | (with_reducible first | apply jA | apply jB | apply jC | apply jD | apply jE | apply jF | apply jG | apply jH | apply jI | apply jJ | apply jK | apply jL | apply jM | apply jN | apply jO) | ((with_reducible first | apply jP | apply jQ); rfl) | ((first | ((with_reducible first | apply jR | apply jS | apply jT); rfl; rfl) | (with_reducible first | apply jU | apply jV | apply jW) | ((with_reducible first | apply jX | apply jY | apply jZ); rfl)); all_goals (first | ((with_reducible show Is _ _); exact kE) | ((with_reducible refine fun (hc : (_ : Bool) = _) => ?_); (try simp only [xZ, xY, xP, reduceCtorEq] at hc); (try (have hx : True := hc; clear hx hc)); (try exact kX)) | ((fail_if_success (with_reducible first | show Is _ _ | show ACall _ _ _ _ _)); (try ((with_reducible show _ ∨ _); exact kT))))))
        exact ⟨G, b, by (simp (disch := omega) [go_sem, *]) <;> (try omega), by (simp (disch := omega) [go_sem, *]) <;> (try omega), by (simp (disch := omega) [go_sem, *]) <;> (try omega), by (simp (disch := omega) [go_sem, *]) <;> (try omega), by (simp (disch := omega) [go_sem, *]) <;> (try omega), rfl, hG⟩
      | true =>
        rw [hz] at e64
        rw [if_pos rfl]
        replace hz : Hid _ := hz
        repeat' (first | (with_reducible first | apply jA | apply jB | apply jC | apply jD | apply jE | apply jF | apply jG | apply jH | apply jI | apply jJ | apply jK | apply jL | apply jM | apply jN | apply jO) | ((with_reducible first | apply jP | apply jQ); rfl) | ((first | ((with_reducible first | apply jR | apply jS | apply jT); rfl; rfl) | (with_reducible first | apply jU | apply jV | apply jW) | ((with_reducible first | apply jX | apply jY | apply jZ); rfl) | ((with_reducible first | apply kA | apply kB | apply kC); rfl)); all_goals (first | ((with_reducible show Is _ _); exact kE) | ((with_reducible refine fun (hc : (_ : Bool) = _) => ?_); (try simp only [xZ, xY, xP, reduceCtorEq] at hc); (try (have hx : True := hc; clear hx hc)); (try exact kX)) | ((with_reducible show ACall _ _ _ _ _); (first | ((with_reducible apply hfe) <;> exact kD))) | ((fail_if_success (with_reducible first | show Is _ _ | show ACall _ _ _ _ _)); (try ((with_reducible show _ ∨ _); exact kT))))))
        refine ⟨G, b, by (simp (disch := omega) [go_sem, *]) <;> (try omega), by (simp (disch := omega) [go_sem, *]) <;> (try omega), by (simp (disch := omega) [go_sem, *]) <;> (try omega), ?_, by (simp (disch := omega) [go_sem, *]) <;> (try omega), rfl, hG⟩
        simp [upd, lnT]
    clear h fr B
    refine fun fr B h => w_cut (FrI C ps.length Y i X ((((t ++ peT1 p) ++ peT2 p) ++ peT3 p) ++ peT4 p)) ?_ ?_ (fr := fr) (B := B)
    · revert fr B h
      rw [peT4]
      rw [peT4] at hPl2
      obtain ⟨t1, ht1⟩ : ∃ t1, ((t ++ peT1 p) ++ peT2 p) ++ peT3 p = t1 := ⟨_, rfl⟩
      have htl1 : t1.length ≤ 2300000 := by rw [← ht1]; simp only [List.length_append] at hPl2 ⊢; omega
      rw [ht1]
      clear ht1
      rintro fr B ⟨G, b, f26, f27, f28, f5, f7, rfl, hG⟩
      have xG := bx_pack hG
      have hkr := hp.2.2.2.1
      obtain ⟨kn, hkn, hkn2⟩ := hkp
      rw [hkn] at e83 e64 hkr ⊢
      have hil := itoa_len hkr
      rw [itoa_nat] at hil ⊢
      by_cases hz : kn = 0
      · subst hz
        rw [if_pos (show ((0 : Nat) : Int) = 0 from rfl), List.append_nil]
        repeat' (first | (with_reducible first | apply jA | apply jB | apply jC | apply jD | apply jE | apply jF | apply jG | apply jH | apply jI | apply jJ | apply jK | apply jL | apply jM | apply jN | apply jO) | ((with_reducible first | apply jP | apply jQ); rfl) | ((first | ((with_reducible first | apply jR | apply jS | apply jT); rfl; rfl) | (with_reducible first | apply jU | apply jV | apply jW) | ((with_reducible first | apply jX | apply jY | apply jZ); rfl)); all_goals (first | ((with_reducible show Is _ _); exact kE) | ((with_reducible refine fun (hc : (_ : Bool) = _) => ?_); (try simp only [xZ, xY, xP, reduceCtorEq] at hc); (try (have hx : True := hc; clear hx hc)); (try exact kX)) | ((fail_if_success (with_reducible first | show Is _ _ | show ACall _ _ _ _ _)); (try ((with_reducible show _ ∨ _); exact kT))))))
        exact ⟨G, b, by (simp (disch := omega) [go_sem, *]) <;> (try omega), by (simp (disch := omega) [go_sem, *]) <;> (try omega), by (simp (disch := omega) [go_sem, *]) <;> (try omega), by (simp (disch := omega) [go_sem, *]) <;> (try omega), by (simp (disch := omega) [go_sem, *]) <;> (try omega), rfl, hG⟩
      · rw [if_neg (by omega)]
        have hzb : ((kn : Int) != 0) = true := by simpa using hz
        repeat' (first | (with_reducible first | apply jA | apply jB | apply jC | apply jD | apply jE | apply jF | apply jG | apply jH | apply jI | apply jJ | apply jK | apply jL | apply jM | apply jN | apply jO) | ((with_reducible first | apply jP | apply jQ); rfl) | ((first | ((with_reducible first | apply jR | apply jS | apply jT); rfl; rfl) | (with_reducible first | apply jU | apply jV | apply jW) | ((with_reducible first | apply jX | apply jY | apply jZ); rfl) | ((with_reducible first | apply kA | apply kB | apply kC); rfl)); all_goals (first | ((with_reducible show Is _ _); exact kE) | ((with_reducible refine fun (hc : (_ : Bool) = _) => ?_); (try simp only [xZ, xY, xP, reduceCtorEq] at hc); (try (have hx : True := hc; clear hx hc)); (try exact kX)) | ((with_reducible show ACall _ _ _ _ _); (first | ((with_reducible apply hit) <;> exact kD))) | ((fail_if_success (with_reducible first | show Is _ _ | show ACall _ _ _ _ _)); (try ((with_reducible show _ ∨ _); exact kT))))))
        refine ⟨G, b, by (simp (disch := omega) [go_sem, *]) <;> (try omega), by (simp (disch := omega) [go_sem, *]) <;> (try omega), by (simp (disch := omega) [go_sem, *]) <;> (try omega), ?_, by (simp (disch := omega) [go_sem, *]) <;> (try omega), rfl, hG⟩
        simp [upd, lnT]
    clear h fr B
    have hfin : cfT K po (ps.take (i + 1)) = (((((t ++ peT1 p) ++ peT2 p) ++ peT3 p) ++ peT4 p) ++ peT5 p) := by rw [show cfT K po (ps.take (i + 1)) = _ from hnext, peT]; simp
    rw [peT5] at hPl2 hfin
    obtain ⟨t1, ht1⟩ : ∃ t1, (((t ++ peT1 p) ++ peT2 p) ++ peT3 p) ++ peT4 p = t1 := ⟨_, rfl⟩
    have htl1 : t1.length ≤ 2300000 := by rw [← ht1]; simp only [List.length_append] at hPl2 ⊢; omega
    rw [ht1] at hfin ⊢
    clear ht1 hPl2 hPl h1l htl hnext
    rintro fr B ⟨G, b, f26, f27, f28, f5, f7, rfl, hG⟩
    have xG := bx_pack hG
    have hqs := hp.2.2.2.2
    generalize p.2.2.2.2.2 = al at *
    have hac := cells_all (f := pfC) (z := 18) (L := al) fun q hq => pfC_len (hqs q hq)
    have hjl : ∀ k, (Go.Lib.join (fmtPs (al.take k)) [44, 32]).length ≤ 16032 := fun k => by
      have := fmtJ_len (al.take k)
      rw [List.length_take] at this
      have : min k al.length ≤ 16 := by omega
      omega
    obtain ⟨A, hA⟩ : ∃ A, al.flatMap pfC = A := ⟨_, rfl⟩
    rw [hA] at hac e64 e83 e84
    replace hA : Hid _ := hA
    replace hac : Hid _ := hac
    replace hqs : Hid _ := hqs
    replace hjl : Hid _ := hjl
    replace hfin : Hid _ := hfin
    repeat' (first | (with_reducible first | apply jA | apply jB | apply jC | apply jD | apply jE | apply jF | apply jG | apply jH | apply jI | apply jJ | apply jK | apply jL | apply jM | apply jN | apply jO) | ((with_reducible first | apply jP | apply jQ); rfl) | ((first | ((with_reducible first | apply jR | apply jS | apply jT); rfl; rfl) | (with_reducible first | apply jU | apply jV | apply jW) | ((with_reducible first | apply jX | apply jY | apply jZ); rfl)); all_goals (first | ((with_reducible show Is _ _); exact kE) | ((with_reducible refine fun (hc : (_ : Bool) = _) => ?_); (try simp only [xZ, xY, xP, reduceCtorEq] at hc); (try (have hx : True := hc; clear hx hc)); (try exact kX)) | ((fail_if_success (with_reducible first | show Is _ _ | show ACall _ _ _ _ _)); (try ((with_reducible show _ ∨ _); exact kT))))))
    refine w_loop (fun fr B => ∃ (k : Nat) (G : List Box) (b : Nat) (t2 : List UInt8), k ≤ al.length ∧ t2 = t1 ++ (if k = 0 then [] else [65, 108, 108, 111, 119, 101, 100, 73, 80, 115, 32, 61, 32] ++ Go.Lib.join (fmtPs (al.take k)) [44, 32]) ∧ fr 26 = .lst ps.length Y false ∧ fr 27 = .int .i64 ps.length ∧ fr 28 = .int .i64 i ∧ fr 5 = .str t2 ∧ fr 7 = .ptr (b + 1) 0 ∧ fr 70 = .lst al.length A false ∧ fr 71 = .int .i64 al.length ∧ fr 72 = .int .i64 k ∧
      B = ⟨C, false⟩ :: G ∧ G[b]? = some ⟨X, false⟩) (fun fr _ => al.length - natOf (fr 72)) ?_ ?_
    · exact ⟨0, G, b, t1, by omega, by simp, by (simp (disch := omega) [go_sem, *]) <;> (try omega), by (simp (disch := omega) [go_sem, *]) <;> (try omega), by (simp (disch := omega) [go_sem, *]) <;> (try omega), by (simp (disch := omega) [go_sem, *]) <;> (try omega), by (simp (disch := omega) [go_sem, *]) <;> (try omega), by (simp (disch := omega) [go_sem, *]) <;> (try omega), by (simp (disch := omega) [go_sem, *]) <;> (try omega), by (simp (disch := omega) [go_sem, *]) <;> (try omega), rfl, hG⟩
    clear f26 f27 f28 f5 f7 fr xG hG G b
    rintro fr B ⟨k, G, b, t2, hk, ht2, f26, f27, f28, f5, f7, f70, f71, f72, rfl, hG⟩
    have xG := bx_pack hG
    have hm0 : natOf (fr 72) = k := by rw [f72]; rfl
    have hm1 : natOf (fr 28) = i := by rw [f28]; rfl
    have htl2 : t2.length ≤ 2400000 := by
      have := (show ∀ k, (Go.Lib.join (fmtPs (al.take k)) [44, 32]).length ≤ 16032 from hjl) k
      rw [ht2, List.length_append]
      split
      · simp; omega
      · rw [List.length_append]; simp; omega
    by_cases hck : k < al.length
    · obtain ⟨a1, a2⟩ := (show Cells pfC 18 A al from hac) k hck
      have hq := (show ∀ q ∈ al, PfL q from hqs) al[k] (List.getElem_mem hck)
      have hfp : ∀ {B : List Box} {args : List CV}, Is (omap (Go.Sy.fz true false B 6) args) (some [.agg (pfC al[k])]) → ACall Tryd.prog 13 args B fun c B' => c = .str (fmtP al[k].1.1 al[k].1.2 al[k].2) ∧ B' = B := fun hz => rfmtP_at (by exact hz) hq.1 hq.2
      have hnx : fmtPs (al.take (k + 1)) = fmtPs (al.take k) ++ [fmtP al[k].1.1 al[k].1.2 al[k].2] := by rw [List.take_succ_eq_append_getElem hck, fmtPs, fmtPs, List.map_append]; rfl
      have hEl := fmtP_len al[k].1.1 al[k].1.2 al[k].2
      have hql := pfC_len hq
      have hom : ∀ {nz fr : Bool} {B : List Box} {k2 : Nat}, omap (Go.Sy.fz nz fr B (k2 + 1)) (pfC al[k]) = some (pfC al[k]) := pf_om1 _
      generalize fmtP al[k].1.1 al[k].1.2 al[k].2 = E at *
      generalize pfC al[k] = Q at *
      have hQt : Q.take 18 = Q := List.take_of_length_le (by omega)
      have hjs := join_snoc (fmtPs (al.take k)) E [44, 32]
      rw [← hnx] at hjs
      have hL0 : fmtPs (al.take k) = [] ↔ k = 0 := by
        rw [← List.length_eq_zero_iff, fmtPs_len, List.length_take]; omega
      obtain ⟨J2, hJ2⟩ : ∃ J2, Go.Lib.join (fmtPs (al.take (k + 1))) [44, 32] = J2 := ⟨_, rfl⟩
      rw [hJ2] at hjs
      replace hJ2 : Hid _ := hJ2
      generalize Go.Lib.join (fmtPs (al.take k)) [44, 32] = J1 at *
      replace hnx : Hid _ := hnx
      by_cases hk0 : k = 0
      · subst hk0
        rw [if_pos (hL0.2 rfl)] at hjs
        rw [if_pos rfl, List.append_nil] at ht2
        subst ht2 hjs
        simp only [Nat.zero_mul, List.drop_zero] at a1 a2
        repeat' (first | (with_reducible first | apply jA | apply jB | apply jC | apply jD | apply jE | apply jF | apply jG | apply jH | apply jI | apply jJ | apply jK | apply jL | apply jM | apply jN | apply jO) | ((with_reducible first | apply jP | apply jQ); rfl) | ((first | ((with_reducible first | apply jR | apply jS | apply jT); rfl; rfl) | (with_reducible first | apply jU | apply jV | apply jW) | ((with_reducible first | apply jX | apply jY | apply jZ); rfl) | ((with_reducible first | apply kA | apply kB | apply kC); rfl)); all_goals (first | ((with_reducible show Is _ _); exact kE) | ((with_reducible refine fun (hc : (_ : Bool) = _) => ?_); (try simp only [xZ, xY, xP, reduceCtorEq] at hc); (try (have hx : True := hc; clear hx hc)); (try exact kX)) | ((with_reducible show ACall _ _ _ _ _); (first | ((with_reducible apply hfp) <;> exact kD))) | ((fail_if_success (with_reducible first | show Is _ _ | show ACall _ _ _ _ _)); (try ((with_reducible show _ ∨ _); exact kT))))))
        refine ⟨⟨1, G ++ [⟨Q, false⟩], b, t2 ++ ([65, 108, 108, 111, 119, 101, 100, 73, 80, 115, 32, 61, 32] ++ J2), by omega, (by rw [if_neg (by omega), show Go.Lib.join (fmtPs (al.take (0 + 1))) [44, 32] = J2 from hJ2]), by (simp (disch := omega) [go_sem, *]) <;> (try omega), by (simp (disch := omega) [go_sem, *]) <;> (try omega), by (simp (disch := omega) [go_sem, *]) <;> (try omega), ?_, by (simp (disch := omega) [go_sem, *]) <;> (try omega), by (simp (disch := omega) [go_sem, *]) <;> (try omega), by (simp (disch := omega) [go_sem, *]) <;> (try omega), by (simp (disch := omega) [go_sem, *]) <;> (try omega), rfl, xG.1 _⟩, by (simp (disch := omega) [go_sem, *]) <;> (try omega)⟩
        simp [upd]
      · rw [if_neg (fun h => hk0 (hL0.1 h))] at hjs
        rw [if_neg hk0] at ht2
        replace ht2 : Hid _ := ht2
        replace hjs : Hid _ := hjs
        have hkz : ((k : Int) == 0) = false := by simpa using hk0
        repeat' (first | (with_reducible first | apply jA | apply jB | apply jC | apply jD | apply jE | apply jF | apply jG | apply jH | apply jI | apply jJ | apply jK | apply jL | apply jM | apply jN | apply jO) | ((with_reducible first | apply jP | apply jQ); rfl) | ((first | ((with_reducible first | apply jR | apply jS | apply jT); rfl; rfl) | (with_reducible first | apply jU | apply jV | apply jW) | ((with_reducible first | apply jX | apply jY | apply jZ); rfl) | ((with_reducible first | apply kA | apply kB | apply kC); rfl)); all_goals (first | ((with_reducible show Is _ _); exact kE) | ((with_reducible refine fun (hc : (_ : Bool) = _) => ?_); (try simp only [xZ, xY, xP, reduceCtorEq] at hc); (try (have hx : True := hc; clear hx hc)); (try exact kX)) | ((with_reducible show ACall _ _ _ _ _); (first | ((with_reducible apply hfp) <;> exact kD))) | ((fail_if_success (with_reducible first | show Is _ _ | show ACall _ _ _ _ _)); (try ((with_reducible show _ ∨ _); exact kT))))))
        refine ⟨⟨k + 1, G ++ [⟨Q, false⟩], b, t2 ++ ([44, 32] ++ E), by omega, ?_, by (simp (disch := omega) [go_sem, *]) <;> (try omega), by (simp (disch := omega) [go_sem, *]) <;> (try omega), by (simp (disch := omega) [go_sem, *]) <;> (try omega), ?_, by (simp (disch := omega) [go_sem, *]) <;> (try omega), by (simp (disch := omega) [go_sem, *]) <;> (try omega), by (simp (disch := omega) [go_sem, *]) <;> (try omega), by (simp (disch := omega) [go_sem, *]) <;> (try omega), rfl, xG.1 _⟩, by (simp (disch := omega) [go_sem, *]) <;> (try omega)⟩
        · rw [if_neg (by omega), show t2 = _ from ht2, show Go.Lib.join (fmtPs (al.take (k + 1))) [44, 32] = J2 from hJ2, show J2 = _ from hjs]; simp
        · simp [upd]
    · obtain rfl : k = al.length := by omega
      rw [List.take_length] at ht2
      by_cases hal0 : al = []
      · have hl0 : al.length = 0 := by rw [hal0]; rfl
        rw [if_pos hl0, List.append_nil] at ht2
        have hfin' := (show cfT K po (ps.take (i + 1)) = _ from hfin)
        rw [if_pos hal0, List.append_nil, ← ht2] at hfin'
        replace hfin' : Hid _ := hfin'
        replace hal0 : Hid _ := hal0
        rw [hl0] at f70 f71 f72 e64 e83 e84 hm0
        clear ht2
        repeat' (first | (with_reducible first | apply jA | apply jB | apply jC | apply jD | apply jE | apply jF | apply jG | apply jH | apply jI | apply jJ | apply jK | apply jL | apply jM | apply jN | apply jO) | ((with_reducible first | apply jP | apply jQ); rfl) | ((first | ((with_reducible first | apply jR | apply jS | apply jT); rfl; rfl) | (with_reducible first | apply jU | apply jV | apply jW) | ((with_reducible first | apply jX | apply jY | apply jZ); rfl)); all_goals (first | ((with_reducible show Is _ _); exact kE) | ((with_reducible refine fun (hc : (_ : Bool) = _) => ?_); (try simp only [xZ, xY, xP, reduceCtorEq] at hc); (try (have hx : True := hc; clear hx hc)); (try exact kX)) | ((fail_if_success (with_reducible first | show Is _ _ | show ACall _ _ _ _ _)); (try ((with_reducible show _ ∨ _); exact kT))))))
        exact ⟨⟨i + 1, G, t2, by omega, (show cfT K po (ps.take (i + 1)) = t2 from hfin').symm, by (simp (disch := omega) [go_sem, *]) <;> (try omega), by (simp (disch := omega) [go_sem, *]) <;> (try omega), by (simp (disch := omega) [go_sem, *]) <;> (try omega), by (simp (disch := omega) [go_sem, *]) <;> (try omega), rfl⟩, by (simp (disch := omega) [go_sem, *]) <;> (try omega)⟩
      · have hall : al.length ≠ 0 := by simpa using hal0
        rw [if_neg hall] at ht2
        have hfin' := (show cfT K po (ps.take (i + 1)) = _ from hfin)
        rw [if_neg hal0] at hfin'
        have hfin2 : cfT K po (ps.take (i + 1)) = t2 ++ [10] := by rw [hfin', ht2]; simp [lnT]
        clear hfin' ht2
        replace hfin2 : Hid _ := hfin2
        repeat' (first | (with_reducible first | apply jA | apply jB | apply jC | apply jD | apply jE | apply jF | apply jG | apply jH | apply jI | apply jJ | apply jK | apply jL | apply jM | apply jN | apply jO) | ((with_reducible first | apply jP | apply jQ); rfl) | ((first | ((with_reducible first | apply jR | apply jS | apply jT); rfl; rfl) | (with_reducible first | apply jU | apply jV | apply jW) | ((with_reducible first | apply jX | apply jY | apply jZ); rfl)); all_goals (first | ((with_reducible show Is _ _); exact kE) | ((with_reducible refine fun (hc : (_ : Bool) = _) => ?_); (try simp only [xZ, xY, xP, reduceCtorEq] at hc); (try (have hx : True := hc; clear hx hc)); (try exact kX)) | ((fail_if_success (with_reducible first | show Is _ _ | show ACall _ _ _ _ _)); (try ((with_reducible show _ ∨ _); exact kT))))))
        exact ⟨⟨i + 1, G, t2 ++ [10], by omega, (show cfT K po (ps.take (i + 1)) = _ from hfin2).symm, by (simp (disch := omega) [go_sem, *]) <;> (try omega), by (simp (disch := omega) [go_sem, *]) <;> (try omega), by (simp (disch := omega) [go_sem, *]) <;> (try omega), by (simp (disch := omega) [go_sem, *]) <;> (try omega), rfl⟩, by (simp (disch := omega) [go_sem, *]) <;> (try omega)⟩
  rw [hC]; exact hgoal
end Go.Proofs.YtdceppjoipoohaaDoor
end
