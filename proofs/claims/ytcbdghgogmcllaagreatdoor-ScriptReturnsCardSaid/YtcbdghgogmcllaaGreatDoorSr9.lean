/- Lemmas and definitions of this claim (own texts, joined by a program; what the claim does not use is left out). -/
import Derived.Test.YtcbdghgogmcllaaGreatDoorSr8
import Derived.Tactics
import Derived.Tactics2
import Derived.StillTactics
import Derived.Laws.Pointers
import Derived.RegionTactic
import Derived.Lib.Builder
import Derived.Lib.UnsafeStr
import Derived.Laws.Externs
set_option linter.all false
set_option maxRecDepth 100000
set_option maxHeartbeats 4000000
section
namespace Go.Sy
open Go.RowKit (Below)
section
variable {P : Program} {N n : Nat} {I0 I : Nat → Nat → Prop} {μ0 μ : List (List Place)} {B : List Box} {w0 w : World} {o : Oper} {a : Act} {fr : Fr} {ops : Array Oper}
theorem V.bptr_inv {β k : Nat} {ty : TypeId} {v : Value} (h : V I μ w (.bptr β ty k) v) : ∃ ps p, v = .pointer (some ⟨p.b, 0, none⟩) ∧ μ[β]? = some ps ∧ p ∈ ps ∧ p.lo = 0 ∧ p.o = 0 ∧ Whole w p.b ty k := by
  cases h with | bptr _ _ _ ps p hb hp hlo ho hw _ => exact ⟨ps, p, rfl, hb, hp, hlo, ho, hw⟩
theorem V.bptr_ptr {β k : Nat} {ty : TypeId} {v : Value} (h : V I μ w (.bptr β ty k) v) : V I μ w (.ptr β 0) v := by
  obtain ⟨ps, p, rfl, hb, hp, hlo, ho, hw⟩ := h.bptr_inv
  have := R.ptr (I := I) (w := w) (one := false) β 0 ps p hb hp (by omega) (.nil _)
  rw [ho] at this
  simpa using this
theorem AWc_block {id : Nat} {c : Code} {Q : Exit → Fr → List Box → Prop} (h : AWc P n c (inBlockC id Q) fr B) : AWc P n (.block id c) Q fr B := fun N I0 μ0 w0 I μ w a Q' hs hq => by
  refine wp_block (h N I0 μ0 w0 I μ w a _ hs fun ex fr' B' a' I' μ' w' hQ hst => ?_)
  cases ex with
  | exit i =>
    simp only [inBlockC] at hQ
    simp only [Exit.inBlock]
    split
    · rename_i hi; rw [if_pos hi] at hQ; exact hq _ _ _ _ _ _ _ hQ hst
    · rename_i hi; rw [if_neg hi] at hQ; exact hq _ _ _ _ _ _ _ hQ hst
  | _ => exact hq _ _ _ _ _ _ _ hQ hst
theorem AWc_loop {c : Code} {Q : Exit → Fr → List Box → Prop} (Inv : Fr → List Box → Prop) (m : Fr → List Box → Nat) (hi : Inv fr B) (hround : ∀ fr B, Inv fr B → AWc P n c (thenC (fun fr' B' => Inv fr' B' ∧ m fr' B' < m fr B) Q) fr B) : AWc P n (.loop c) Q fr B := fun N I0 μ0 w0 I μ w a Q' hs hq => by
  let X : Act → World → Nat → Prop := fun a w k => ∃ fr B I μ, Inv fr B ∧ St N n I0 μ0 w0 fr B a I μ w ∧ m fr B = k
  have least : ∀ a w, (∃ k, X a w k) → ∃ k, X a w k ∧ ∀ j, X a w j → k ≤ j := fun a w h => exists_least h
  have ⟨f, hf⟩ : ∃ f : Act → World → Nat, ∀ a w, (∃ k, X a w k) → X a w (f a w) ∧ ∀ j, X a w j → f a w ≤ j := by
    refine ⟨fun a w => Classical.epsilon fun k => X a w k ∧ ∀ j, X a w j → k ≤ j, fun a w h => ?_⟩
    exact Classical.epsilon_spec (least a w h)
  refine wp_loop (fun a w => ∃ k, X a w k) f ⟨_, fr, B, I, μ, hi, hs, rfl⟩ fun a w hX => ?_
  obtain ⟨⟨fr1, B1, I1, μ1, hi1, hs1, hm1⟩, hmin⟩ := hf a w hX
  refine hround fr1 B1 hi1 N I0 μ0 w0 I1 μ1 w a _ hs1 fun ex fr' B' a' I' μ' w' hQ hst => ?_
  cases ex with
  | normal =>
    obtain ⟨h1, h2⟩ := hQ
    have hX' : ∃ k, X a' w' k := ⟨_, fr', B', I', μ', h1, hst, rfl⟩
    refine ⟨hX', ?_⟩
    have := (hf a' w' hX').2 (m fr' B') ⟨fr', B', I', μ', h1, hst, rfl⟩
    omega
  | _ => exact hq _ _ _ _ _ _ _ hQ hst
theorem AWc_allocT {id : Nat} {d : Tmp} {t ty : TypeId} {pos : String} {after : Array Edge} {zs : List CV} {Q : Exit → Fr → List Box → Prop} (hd : decide (d < n) = true) (hz : zerosOf P t = some zs)
    (h : Q .normal (upd fr (some d) (.bptr B.length t zs.length)) (B ++ [⟨zs, false⟩])) : AWc P n (.region id [(⟨some d, .alloc t, ty, pos, after, none⟩ : Oper)].toArray false) Q fr B := by
  intro N I0 μ0 w0 I μ w a Q' hs hq
  have hd' : d < n := by simpa using hd
  refine wp_region_list ?_
  rw [List.toList_toArray]
  obtain ⟨z, hz1, hz2, hz3⟩ := zeros_rel (I := I) (μ := μ) (w := w) hz
  have hzs : z.cells.size = zs.length := by have := hz3.len; simp at this; omega
  obtain ⟨b1, b2⟩ := hs.box.push (alloc_heap w (.cells z.cells t (0, 0))) (fun j _ hj => by omega) hz3 (rest := []) (by simp)
  have hv : V I (μ ++ [[⟨w.heap.size, 0, 0, zs.length⟩]]) (w.alloc (.cells z.cells t)) (.bptr B.length t zs.length) (.pointer (some ⟨w.heap.size, 0, none⟩)) :=
    .bptr B.length t zs.length _ ⟨w.heap.size, 0, 0, zs.length⟩ (last_place hs.box _) (by simp) rfl rfl ⟨z.cells, push_new (alloc_heap w _), hzs⟩ (.nil _)
  have st : Step N I μ w (.bptr B.length t zs.length) (.pointer (some ⟨w.heap.size, 0, none⟩)) _ I _ (w.alloc (.cells z.cells t)) := ⟨hv, b1, b2, Below.of_heap hs.box.low (alloc_heap w _) rfl rfl rfl⟩
  have s1 := hs.put st (d := some d) (fun t ht => by cases ht; exact hd')
  unfold wpList
  rw [show Region.wanted (⟨some d, .alloc t, ty, pos, after, none⟩ : Oper) (yielded _ a.tmps) = true from rfl, if_pos rfl]
  left
  unfold Oper.wp
  rw [show (execOp a.eval (⟨some d, .alloc t, ty, pos, after, none⟩ : Oper)).run P w = .ok (.value (.pointer (some ⟨w.heap.size, 0, none⟩))) (w.alloc (.cells z.cells t)) by simp [execOp, Instr.alloc, hz1, newVar, newRow], Oper.upon_value]
  unfold wpList
  exact hq _ _ _ _ _ _ _ h s1
end
end Go.Sy
end
section
namespace Go.Proofs.YtcbdghgogmcllaaGreatDoor
open Go Go.Sy
open Go.RowKit (Below)
theorem tBp : Tryz.prog.underlying 74 = some (.pointer 76) := by kernel_rfl
theorem tUp : Tryz.prog.underlying 127 = some .unsafePointer := by kernel_rfl
theorem tSb : Tryz.prog.underlying 22 = some (.slice 5) := by kernel_rfl
theorem tSt : Tryz.prog.underlying 9 = some .string := by kernel_rfl
theorem u8_info : ∃ i z, Tryz.prog.info? 5 = some i ∧ i.size = 1 ∧ i.bytes = 1 ∧ i.zero = some z ∧ z.cells.size = 1 := by
  obtain ⟨i, h1, h2⟩ := Option.map_eq_some_iff.1 (show (Tryz.prog.info? 5).map (fun i => (i.zero, i.size, i.bytes)) = some (some (.int .u8 0), 1, 1) by kernel_rfl)
  simp only [Prod.mk.injEq] at h2
  exact ⟨i, _, h1, h2.2.1, h2.2.2, h2.1, rfl⟩
theorem tBi : ∃ j, Tryz.prog.info? 76 = some j ∧ j.size = 2 := by
  obtain ⟨j, h1, h2⟩ := Option.map_eq_some_iff.1 (show (Tryz.prog.info? 76).map (·.size) = some 2 by kernel_rfl)
  exact ⟨j, h1, h2⟩
theorem tBl : liesAt Tryz.prog Tryz.prog.depth 76 (2 / Tryz.prog.cellsOf 76) 0 76 1 = true := by kernel_rfl
theorem copyCheck_used (b o : Nat) (w : World) (h0 : w.cell? ⟨b, o, none⟩ = some (.pointer (some ⟨b, o, none⟩))) :
    Calls Tryz.prog 50 #[.pointer (some ⟨b, o, none⟩)] w fun e w' => e = .returned (.tuple #[]) ∧ w' = w := by
  obtain ⟨j, hj, _⟩ := tBi
  go_enter Tryz.func50, Tryz.ntmps50
  go_wp2
  rw [Lib.run_neq_ptr_same w _ tBp hj]
  go_wp2
  go_end0
  exact ⟨rfl, rfl⟩
theorem copyCheck_fresh (b : Nat) (w : World) (h0 : w.cell? ⟨b, 0, none⟩ = some (.pointer none)) (hsh : w.shape? b = some (76, 2)) (hfz : w.frozen? ⟨b, 0, none⟩ = false) :
    Calls Tryz.prog 50 #[.pointer (some ⟨b, 0, none⟩)] w fun e w' => e = .returned (.tuple #[]) ∧ w' = w.setCell ⟨b, 0, none⟩ (.pointer (some ⟨b, 0, none⟩)) := by
  obtain ⟨j, hj, hjs⟩ := tBi
  go_enter Tryz.func50, Tryz.ntmps50
  go_wp2
  rw [Lib.run_to_unsafe w ⟨b, 0, none⟩ tBp tUp hj (by rw [hjs]; decide) hsh (Nat.zero_lt_succ 1)]
  simp only [Result.andThen]
  rw [Oper.upon_value]
  go_wp2
  rw [run_callFunc_extern Tryz.func92 (by kernel_rfl) (by kernel_rfl) (by kernel_rfl) (e := Extern.AbiNoEscape.same) (by kernel_rfl)]
  rw [Lib.run_noEscape]
  simp only [Result.andThen]
  rw [Oper.upon_value]
  go_wp2
  rw [Lib.run_from_unsafe w ⟨b, 0, none⟩ tUp tBp hj hsh tBl]
  simp only [Result.andThen]
  rw [Oper.upon_value]
  go_wp2
  go_end0
  exact ⟨rfl, rfl⟩
section
variable {N n : Nat} {I0 I : Nat → Nat → Prop} {μ0 μ : List (List Sy.Place)} {B : List Box} {w0 w : World} {a : Act} {fr : Fr} {ops : Array Oper}
theorem cc_used {β : Nat} {bc : CV} {args : List CV} (ha : Is args [.ptr β 0]) (hB : B[β]? = some ⟨[.ptr β 0, bc], false⟩) : ACall Tryz.prog 50 args B fun c B' => c = .tup [] ∧ B' = B := by
  have ha : args = _ := ha
  subst ha
  refine ⟨by kernel_rfl, fun N I μ w vs hBR hv => ?_⟩
  obtain ⟨v, vs', rfl, h1, _, h3⟩ := R.cons_iff.1 hv
  rw [R.nil_iff] at h3
  subst h3
  obtain ⟨p, us, p1, rfl, p3, p4⟩ := box_ptr hBR h1 hB rfl
  obtain ⟨u, us', rfl, h4, _, _⟩ := R.cons_iff.1 p3
  obtain ⟨p', us2, q1, rfl, _, _⟩ := box_ptr hBR h4 hB rfl
  have he : p' = p := by rw [p1] at q1; simpa using q1.symm
  subst he
  have h0 := p4 0 _ rfl
  refine (copyCheck_used p'.b (p'.o + 0) w h0).mono fun e w' ⟨he, hw⟩ => ⟨.tup [], .tuple #[], B, I, μ, he, ⟨rfl, rfl⟩, ?_⟩
  subst hw
  exact ⟨.tup (.nil _) (.nil _), hBR, .refl _ _ _, Below.refl _ _⟩
theorem cc_fresh {β : Nat} {bc : CV} {v : Value} (hBR : BRel N I μ B w) (hv : V I μ w (.ptr β 0) v) (hB : B[β]? = some ⟨[.nilP, bc], false⟩) (hsh : ∃ b, v = .pointer (some ⟨b, 0, none⟩) ∧ w.shape? b = some (76, 2)) :
    Calls Tryz.prog 50 #[v] w fun e w' => e = .returned (.tuple #[]) ∧ Step N I μ w (.tup []) (.tuple #[]) (B.set β ⟨[.ptr β 0, bc], false⟩) I μ w' := by
  obtain ⟨p, us, p1, hve, p3, p4⟩ := box_ptr hBR hv hB rfl
  obtain ⟨b, hb, hs⟩ := hsh
  subst hve
  have hb0 := hb
  simp at hb
  obtain ⟨rfl, ho⟩ := hb
  obtain ⟨u, us', rfl, h4, _, _⟩ := R.cons_iff.1 p3
  have h0 := p4 0 _ rfl
  rw [h4.nilP_inv, ho] at h0
  obtain ⟨p', q1, q2, q3, q4, q5, q6, q8⟩ := one_place hBR hB rfl p1 (List.mem_singleton.2 rfl)
  have he : p' = p := by rw [p1] at q1; simpa using q1.symm
  subst he
  have hf := (q8.cell (j := 0) (by simp)).2
  rw [hb0]
  refine (copyCheck_fresh p'.b w h0 hs hf).mono fun e w' ⟨he, hw⟩ => ⟨he, ?_⟩
  have hr : R I μ w true [.ptr β 0] [.pointer (some ⟨p'.b, 0, none⟩)] := R.cons (by rw [← hb0]; exact hv) (fun _ => rfl) (.nil _)
  obtain ⟨w1, w2, w3⟩ := hBR.write (off := 0) hB rfl p1 hr (by simp)
  rw [ho] at w1 w2 w3
  subst hw
  exact ⟨.tup (.nil _) (.nil _), w1, w2, w3⟩
theorem still_step {o : Oper} {c : CV} {rest : List Oper} {Q' : Exit → Act → World → Prop} {v : Value} (hs : St N n I0 μ0 w0 fr B a I μ w) (hg : o.guard = none) (hd : dstOk n o = true) (hnd : noDefer o = true) (hr : (execOp a.eval o).run Tryz.prog w = .ok (.value v) w) (hv : V I μ w c v)
    (k : ∀ a', (∀ i, a'.tmps.getD i undef = if o.dst = some i then v else a.tmps.getD i undef) → St N n I0 μ0 w0 (upd fr o.dst c) B a' I μ w → wpListIn (freeF none) 0 Tryz.prog ops Q' rest a' w) : wpListIn (freeF none) 0 Tryz.prog ops Q' (o :: rest) a w := by
  have hd' : ∀ t, o.dst = some t → t < n := fun t ht => by simpa [dstOk, ht] using hd
  unfold wpListIn
  rw [show Region.wanted o (yielded ops a.tmps) = true by unfold Region.wanted; rw [hg], if_pos rfl]
  refine wp_free hnd ?_
  unfold Oper.wp
  rw [hr, Oper.upon_value]
  exact k _ (put_getD a o.dst v (fun t ht => by rw [hs.size]; exact hd' t ht)) (hs.put ⟨hv, hs.box, .refl _ _ _, Below.refl _ _⟩ hd')
theorem run_region {id : Nat} {l : List Oper} {Q' : Exit → Act → World → Prop} (h : wpListIn (freeF none) 0 Tryz.prog l.toArray Q' l a w) : (Code.region id l.toArray false).wp Tryz.prog Q' a w :=
  (wpIn_wide (n := 0)).1 (wpIn_region_list (F := freeF none) (by simpa using h))
theorem ws_first {β : Nat} {v : Value} {s : List UInt8} (hBR : BRel N I μ B w) (hv : V I μ w (.ptr β 0) v) (hB : B[β]? = some ⟨[.nilP, .nilS], false⟩) (hsh : ∃ b, v = .pointer (some ⟨b, 0, none⟩) ∧ w.shape? b = some (76, 2)) (hs0 : s ≠ []) (hsl : s.length < 1000000000) :
    Calls Tryz.prog 27 #[v, .string ⟨s.toArray⟩] w fun e w' => ∃ c v' B' I' μ', e = .returned v' ∧ (c = .tup [.int .i64 s.length, .nilI] ∧ B' = B.set β ⟨[.ptr β 0, .bview B.length s.length 5], false⟩ ++ [⟨s.map byteC, false⟩]) ∧ Step N I μ w c v' B' I' μ' w' := by
  have hβ := (List.getElem?_eq_some_iff.1 hB).1
  have hargs : R I μ w false [.ptr β 0, .str s] [v, .string ⟨s.toArray⟩] := .cons hv (by simp) (.str s (.nil _))
  refine call_intro mixed.quiet Tryz.func27 rfl hBR hargs (by rw [Tryz.ntmps27]; simp) fun a Q' hst hq => ?_
  have h0t := hst.frame 0
  refine wp_seq (run_region ?_)
  refine still_step (c := .int .i64 0) (v := .int .i64 0) hst rfl rfl rfl (by simp [execOp]; rfl) (.int _ _ (.nil _)) fun a1 e1 s1 => ?_
  refine still_step (c := .nilI) (v := .nilIface) s1 rfl rfl rfl (by simp [execOp]; rfl) (.nilI (.nil _)) fun a2 e2 s2 => ?_
  have hu : ∀ {u : Value}, V I μ w (.ptr β 0) u → u = v := fun {u} h => by
    obtain ⟨p, _, p1, p2, _, _⟩ := box_ptr hBR h hB rfl
    obtain ⟨p', _, q1, q2, _, _⟩ := box_ptr hBR hv hB rfl
    have he : p' = p := by rw [p1] at q1; simpa using q1.symm
    rw [p2, q2, he]
  have hv0 := hu h0t
  unfold wpListIn
  refine wp_seq (run_region ?_)
  have t2 : a2.tmps.getD 0 undef = v := by rw [e2, if_neg (by simp), e1, if_neg (by simp), hv0]
  refine still_step (c := .ptr β 0) (v := v) s2 rfl rfl rfl (by simp [execOp]; exact t2) hv fun a3 e3 s3 => ?_
  have t3 : a3.tmps.getD 6 undef = v := by rw [e3, if_pos rfl]
  unfold wpListIn
  rw [show Region.wanted _ (yielded _ a3.tmps) = true from rfl, if_pos rfl]
  refine wp_free rfl ?_
  unfold Oper.wp
  have hrun : ∀ (o : Oper) (ts : Array TypeId), o.op = .call { callee := .value (.func 50), args := #[.tmp 6], argTypes := ts } → (execOp a3.eval o).run Tryz.prog w = .ok (.enter 50 #[v]) w := fun o ts ho => by
    simp only [execOp, ho, resolve, Act.eval, Deferred.ofValue, Sem.run_bind, Sem.run_pure, Result.andThen_ok, invoke]
    rw [callable_run (by kernel_rfl)]
    simp [Act.eval, t3]
  rw [hrun _ _ rfl, Oper.upon_enter]
  refine (cc_fresh hBR hv hB hsh).mono fun e w' ⟨he, hstep⟩ => ?_
  subst he
  have s4 := s3.put hstep (d := some 7) (fun t ht => by cases ht; decide)
  have hx := bx_pack hB
  obtain ⟨p1, p2, p3, p4, p5, p6, p7, p8, p9, p10, p11, p12, p13⟩ := hx
  have hl0 : s.length ≠ 0 := by simpa using hs0
  obtain ⟨i, z, hi, hi1, hib, hiz, hz1⟩ := u8_info
  refine (?_ : AWc Tryz.prog Tryz.f27.ntmps _ (retC Tryz.prog Tryz.f27.results.toList _) _ _) N I μ w I μ w' _ Q' s4 hq
  refine AWc_seq ?_
  refine AWc_bld (l1 := [_, _, _, _, _, _]) (l2 := [_, _, _]) rfl (by rfl) (by rfl) ?_
  repeat' (first | (with_reducible first | apply jA | apply jB | apply jC | apply jD | apply jE | apply jF | apply jG | apply jH | apply jI | apply jJ | apply jK | apply jL | apply jM | apply jN | apply jO) | ((with_reducible first | apply jP | apply jQ); rfl) | ((first | ((with_reducible first | apply jR | apply jS | apply jT); rfl; rfl) | (with_reducible first | apply jU | apply jV | apply jW) | ((with_reducible first | apply jX | apply jY | apply jZ); rfl)); all_goals (first | ((with_reducible show Is _ _); exact kE) | ((with_reducible refine fun (hc : (_ : Bool) = _) => ?_); (try simp only [xZ, xY, xP, reduceCtorEq] at hc); (try (have hx : True := hc; clear hx hc)); (try exact kX)) | ((fail_if_success (with_reducible first | show Is _ _ | show ACall _ _ _ _ _)); (try ((with_reducible show _ ∨ _); exact kT))))))
  refine ⟨_, _, _, _, _, i, z, [], s, (B.set β ⟨[.ptr β 0, .nilS], false⟩).length, _, rfl, rfl, rfl, tSb, tSt, hi, hi1, hib, hiz, hz1, hs0, by simp; omega, kS, .inl ⟨kS, rfl, rfl, rfl⟩, ?_⟩
  repeat' (first | (with_reducible first | apply jA | apply jB | apply jC | apply jD | apply jE | apply jF | apply jG | apply jH | apply jI | apply jJ | apply jK | apply jL | apply jM | apply jN | apply jO) | ((with_reducible first | apply jP | apply jQ); rfl) | ((first | ((with_reducible first | apply jR | apply jS | apply jT); rfl; rfl) | (with_reducible first | apply jU | apply jV | apply jW) | ((with_reducible first | apply jX | apply jY | apply jZ); rfl)); all_goals (first | ((with_reducible show Is _ _); exact kE) | ((with_reducible refine fun (hc : (_ : Bool) = _) => ?_); (try simp only [xZ, xY, xP, reduceCtorEq] at hc); (try (have hx : True := hc; clear hx hc)); (try exact kX)) | ((fail_if_success (with_reducible first | show Is _ _ | show ACall _ _ _ _ _)); (try ((with_reducible show _ ∨ _); exact kT))))))
  refine WPc_sound mixed.mixed _ _ _ _ (by kernel_rfl) ?_
  repeat' (first | (with_reducible first | apply jA | apply jB | apply jC | apply jD | apply jE | apply jF | apply jG | apply jH | apply jI | apply jJ | apply jK | apply jL | apply jM | apply jN | apply jO) | ((with_reducible first | apply jP | apply jQ); rfl) | ((first | ((with_reducible first | apply jR | apply jS | apply jT); rfl; rfl) | (with_reducible first | apply jU | apply jV | apply jW) | ((with_reducible first | apply jX | apply jY | apply jZ); rfl)); all_goals (first | ((with_reducible show Is _ _); exact kE) | ((with_reducible refine fun (hc : (_ : Bool) = _) => ?_); (try simp only [xZ, xY, xP, reduceCtorEq] at hc); (try (have hx : True := hc; clear hx hc)); (try exact kX)) | ((fail_if_success (with_reducible first | show Is _ _ | show ACall _ _ _ _ _)); (try ((with_reducible show _ ∨ _); exact kT))))))
  exact ⟨rfl, rfl⟩
theorem ws_first' {β : Nat} {v : Value} {s : List UInt8} (hBR : BRel N I μ B w) (hv : V I μ w (.bptr β 76 2) v) (hB : B[β]? = some ⟨[.nilP, .nilS], false⟩) (hs0 : s ≠ []) (hsl : s.length < 1000000000) :
    Calls Tryz.prog 27 #[v, .string ⟨s.toArray⟩] w fun e w' => ∃ c v' B' I' μ', e = .returned v' ∧ (c = .tup [.int .i64 s.length, .nilI] ∧ B' = B.set β ⟨[.ptr β 0, .bview B.length s.length 5], false⟩ ++ [⟨s.map byteC, false⟩]) ∧ Step N I μ w c v' B' I' μ' w' := by
  obtain ⟨ps, p, rfl, h1, h2, h3, h4, ⟨cells, h5, h6⟩⟩ := hv.bptr_inv
  exact ws_first hBR hv.bptr_ptr hB ⟨p.b, rfl, by simp only [World.shape?, h5, h6]⟩ hs0 hsl
theorem ws_at {β γ : Nat} {m : Bool} {l s : List UInt8} {args : List CV} (ha : Is args [.ptr β 0, .str s]) (hB : B[β]? = some ⟨[.ptr β 0, .bview γ l.length 5], false⟩) (hG : B[γ]? = some ⟨l.map byteC, m⟩) (hne : β ≠ γ) (hs0 : s ≠ []) (hl : l.length + s.length < 1000000000) :
    ACall Tryz.prog 27 args B fun c B' => c = .tup [.int .i64 s.length, .nilI] ∧ B' = (B.set γ ⟨(l ++ s).map byteC, true⟩).set β ⟨[.ptr β 0, .bview γ (l.length + s.length) 5], false⟩ := by
  have ha : args = _ := ha
  subst ha
  obtain ⟨i, z, hi, hi1, hib, hiz, hz1⟩ := u8_info
  have hcc : ∀ {args : List CV}, Is args [.ptr β 0] → ACall Tryz.prog 50 args B fun c B' => c = .tup [] ∧ B' = B := fun h => cc_used h hB
  have hβ : (B.set γ ⟨(l ++ s).map byteC, true⟩)[β]? = some ⟨[.ptr β 0, .bview γ l.length 5], false⟩ := by rw [List.getElem?_set_ne (Ne.symm hne), hB]
  refine acall_AWc mixed Tryz.func27 rfl (by kernel_rfl) (by rw [Tryz.ntmps27]; simp) ?_
  refine AWc_w mixed (by kernel_rfl) (fun fr2 B2 => fr2 0 = .ptr β 0 ∧ fr2 1 = .str s ∧ B2 = B) ?_ ?_
  · refine w0 ?_ 
    exact ⟨kS, kS, rfl⟩
  rintro fr B2 ⟨f0, f1, rfl⟩
  refine AWc_w mixed (by kernel_rfl) (fun fr2 B3 => fr2 0 = .ptr β 0 ∧ fr2 1 = .str s ∧ B3 = B2) ?_ ?_
  · refine w1 @hcc ?_ 
    exact ⟨kS, kS, rfl⟩
  clear f0 f1 fr
  rintro fr B ⟨f0, f1, rfl⟩
  refine AWc_seq ?_
  refine AWc_bld (l1 := [_, _, _, _, _, _]) (l2 := [_, _, _]) rfl (by rfl) (by rfl) ?_
  refine w0 ?_ 
  refine ⟨_, _, _, _, _, i, z, l, s, γ, _, rfl, rfl, rfl, tSb, tSt, hi, hi1, hib, hiz, hz1, hs0, by omega, kS, .inr ⟨m, kS, hG, rfl⟩, ?_⟩
  refine w0 ?_ 
  refine WPc_sound mixed.mixed _ _ _ _ (by kernel_rfl) ?_
  refine w0 ?_ 
  exact ⟨rfl, rfl⟩
end
end Go.Proofs.YtcbdghgogmcllaaGreatDoor
end
section
namespace Go.Proofs.YtcbdghgogmcllaaGreatDoor
open Go Go.Sy
open Go.RowKit (Below)
section
variable {N n : Nat} {I0 I : Nat → Nat → Prop} {μ0 μ : List (List Sy.Place)} {B : List Box} {w0 w : World} {a : Act} {fr : Fr} {ops : Array Oper}
theorem want_none {o : Oper} (h : o.guard = none) : Region.wanted o (yielded ops a.tmps) = true := by unfold Region.wanted; rw [h]
theorem string_run (b o g cap : Nat) (l : List UInt8) (w : World) (hg : N ≤ g) (c1 : w.cell? ⟨b, o + 1, none⟩ = some (.slice (some ⟨g, 0, none⟩) l.length cap)) (hcap : cap ≠ 0) (hl : l ≠ []) (hlen : l.length < 1000000000) (hsh : ∃ c, w.shape? g = some (5, c) ∧ l.length ≤ c) (hcells : ∀ (j : Nat) (x : UInt8), l[j]? = some x → w.cell? ⟨g, j, none⟩ = some (.int .u8 x.toNat)) :
    Calls Tryz.prog 28 #[.pointer (some ⟨b, o, none⟩)] w fun e w' => e = .returned (.string ⟨l.toArray⟩) ∧ Below N w w' ∧ ∀ k, k ≠ g → w'.heap[k]? = w.heap[k]? := by
  have hl0 : l.length ≠ 0 := by simpa using hl
  obtain ⟨c, hs1, hs2⟩ := hsh
  have c1' : w.drew.cell? ⟨b, o + 1, none⟩ = some (.slice (some ⟨g, 0, none⟩) l.length cap) := c1
  have tP : Tryz.prog.underlying 105 = some (.pointer 5) := by kernel_rfl
  have hSD : (Builtin.unsafeSliceData_ #[22] 105 #[.slice (some ⟨g, 0, none⟩) l.length cap]).run Tryz.prog w.drew = .ok (.pointer (some ⟨g, 0, none⟩)) w.drew := Lib.run_unsafeSliceData_row _ _ _ _ _ _ hcap
  have hUS : (Builtin.unsafeString_ #[105, 3] 9 #[.pointer (some ⟨g, 0, none⟩), .int .i64 l.length]).run Tryz.prog w.drew = .ok (.string ⟨l.toArray⟩) (w.drew.freeze ⟨g, 0, none⟩ l.length) :=
    Lib.run_unsafeString_row w.drew 105 3 9 5 tP (by kernel_rfl) g c hs1 l hl hs2 (by omega) (fun j x hx => by rw [Addr.add_lit, Nat.zero_add]; exact hcells j x hx)
  go_enter Tryz.func28, Tryz.ntmps28
  go_wp2
  go_region
  all_goals (go_wp2; go_ret)
  all_goals
    refine ⟨rfl, Lib.below_freeze (Below.drew (Below.refl N w)) (p := ⟨g, 0, none⟩) hg _, fun k hk => ?_⟩
    simp only [World.freeze]
    split
    · rfl
    · rw [Array.getElem?_modify, if_neg (Ne.symm hk)]; rfl
theorem AWz_string {id : Nat} {d d1 : Tmp} {β γ : Nat} {mm : Bool} {l : List UInt8} {o : Oper} {ts : Array TypeId} {l2 : List Oper} {Q : Exit → Fr → List Box → Prop} (h1 : o.op = .call { callee := .value (.func 28), args := #[.tmp d], argTypes := ts }) (e1 : o.dst = some d1) (g1 : o.guard = none) (k1 : d1 < n) (n2 : l2.all noDefer = true)
    (hd : fr d = .ptr β 0) (hβ : B[β]? = some ⟨[.ptr β 0, .bview γ l.length 5], false⟩) (hγ : B[γ]? = some ⟨l.map byteC, mm⟩) (hl : l ≠ []) (hlen : l.length < 1000000000)
    (h : ∀ vs : Nat → Value, WPo Tryz.prog n (o :: l2).toArray (fun fr B => Q .normal fr B) l2 (upd (fun i => .raw (vs i)) (some d1) (.str l)) []) : AWz Tryz.prog n (.region id (o :: l2).toArray false) Q fr B := by
  intro N I0 w0 I μ w a Q' h0 hs hq
  refine (wpIn_wide (n := 0)).1 (wpIn_region_list (F := freeF none) ?_)
  rw [show (o :: l2).toArray.toList = o :: l2 by simp]
  have hB := hs.box
  have hv := hs.frame d
  rw [hd] at hv
  obtain ⟨p, us, p1, p2, p3, p4⟩ := box_ptr hB hv hβ rfl
  obtain ⟨u0, us0, rfl, _, _, r3⟩ := R.cons_iff.1 p3
  obtain ⟨u1, us1, rfl, r4, _, _⟩ := R.cons_iff.1 r3
  have c1 := p4 1 _ rfl
  obtain ⟨ps, q, cap, rfl, q1, q2, q3, q4, q5, q6, q7, q8, q9⟩ := r4.bview_inv
  obtain ⟨_, vs, g1', g2', g3', _⟩ := view_cells hB hγ q1 q2 (off := 0) (n := l.length) (sz := 1) (by omega) (by omega) (s := 0) (e := l.length) (Nat.le_refl _) (by omega)
  have hnew : w0.heap.size ≤ q.b := hs.ext.news γ ps (Nat.zero_le _) q1 q q2
  have hNq : N ≤ q.b := (hB.places γ ps q q1 q2).1
  have hcells : ∀ (j : Nat) (x : UInt8), l[j]? = some x → w.cell? ⟨q.b, j, none⟩ = some (.int .u8 x.toNat) := fun j x hx => by
    have hjl := (List.getElem?_eq_some_iff.1 hx).1
    obtain ⟨v, k1, k2, _⟩ := g1'.get (i := j) (c := byteC x) (by rw [List.getElem?_take, if_pos hjl, List.drop_zero, List.getElem?_map, hx]; rfl)
    have k3 := g3' j v k1
    rw [q3, q4, k2.int_inv] at k3
    simpa using k3
  obtain ⟨cs, hqc⟩ := q9
  have hfc : l.length ≤ cs.size := by
    obtain ⟨cells, ty, fz, f1, f2, _⟩ := q8
    rw [hqc] at f1; cases f1; omega
  unfold wpListIn
  rw [want_none g1, if_pos rfl]
  refine wp_free (by simp [noDefer, h1]) ?_
  unfold Oper.wp
  have hrun : (execOp a.eval o).run Tryz.prog w = .ok (.enter 28 #[.pointer (some ⟨p.b, p.o + 0, none⟩)]) w := by
    simp only [execOp, h1, resolve, Act.eval, Deferred.ofValue, Sem.run_bind, Sem.run_pure, Result.andThen_ok, invoke]
    rw [callable_run (by kernel_rfl)]
    simp only [← p2]
    simp [Act.eval]
  rw [hrun, Oper.upon_enter]
  refine (string_run (N := N) p.b (p.o + 0) q.b cap l w hNq c1 q7 hl hlen ⟨_, by rw [World.shape?, hqc], hfc⟩ hcells).mono fun e w' ⟨he, hbel, hsame⟩ => ?_
  subst he
  have hold : ∀ b, b < w0.heap.size → w'.heap[b]? = w.heap[b]? := fun b hb => hsame b (by omega)
  have hext : Ext I0 [] w0 I0 [] w' := ⟨⟨fun _ _ h => h, fun b j hj => (cell_same (hold b (h0.imm b j hj))).trans (hs.ext.same b j hj), fun b n hf => (hs.ext.free b n hf).of_same (hold b hf.lt), fun b hf => (hs.ext.plain b hf).of_same (hold b hf.lt), fun β ps h => by simp at h, fun r es c hi hx => (hold r (Array.getElem?_eq_some_iff.1 hx).1).trans (hs.ext.maps r es c hi hx)⟩,
    Nat.le_trans hs.ext.size hbel.size, fun β ps ps' h => by simp at h, fun β ps _ h => by simp at h, fun _ _ h => .inl h, fun β h => by simp at h, fun b ob k1 k2 => (hold b (Array.getElem?_eq_some_iff.1 k1).1).trans (hs.ext.oth b ob k1 k2)⟩
  have hbr : BRel N I0 [] [] w' := ⟨rfl, Nat.le_trans h0.low hext.size, fun b j hj => Nat.lt_of_lt_of_le (h0.imm b j hj) hext.size, fun β ps p h => by simp at h, fun β β' ps ps' p p' h => by simp at h, fun β box h => by simp at h, fun β box ps p h => by simp at h, h0.tabs.keep hext.toKeep⟩
  have hoth : Oth w w' := fun b ob k1 k2 => (hsame b (by rintro rfl; rw [hqc] at k1; cases k1; simp [Obj.isCells] at k2)).trans k1
  have hst : St N n I0 [] w0 (upd (fun i => .raw (a.tmps.getD i undef)) (some d1) (.str l)) [] (a.put o.dst (.string ⟨l.toArray⟩)) I0 [] w' := by
    refine ⟨by rw [e1]; simp [Act.put, hs.size], by rw [e1]; exact hs.defers.ext hoth, fun i => ?_, hbr, hext, hs.below.trans hbel⟩
    rw [e1, put_getD a (some d1) _ (fun t ht => by cases ht; rw [hs.size]; exact k1)]
    unfold upd
    by_cases hi : i = d1
    · subst hi; simp; exact .str l (.nil _)
    · rw [if_neg (by simpa using fun h => hi h.symm)]
      simp only [if_neg hi]
      exact .raw _ (by simp) (.nil _)
  have := WPo_in (r := none) (Q' := Q') [] l2 _ _ n2 (h _) I0 [] w' _ hst fun fr' B' a' I' μ' w' hQ hst => hq _ _ _ _ _ _ _ hQ hst
  rw [List.append_nil] at this
  exact this
end
end Go.Proofs.YtcbdghgogmcllaaGreatDoor
end
section
namespace Go.Proofs.YtcbdghgogmcllaaGreatDoor
open Go Go.Sy
open Go.RowKit (Below)
section
variable {N n : Nat} {I0 I : Nat → Nat → Prop} {μ0 μ : List (List Sy.Place)} {B : List Box} {w0 w : World} {a : Act} {fr : Fr} {ops : Array Oper}
theorem AWc_ws1 {id : Nat} {l1 : List Oper} {o : Oper} {d dx : Tmp} {ts : Array TypeId} {Q : Exit → Fr → List Box → Prop} {ops : List Oper} (he : ops = l1 ++ [o]) (n1 : l1.all noDefer = true) (ho : o.op = .call { callee := .value (.func 27), args := #[.tmp d, .tmp dx], argTypes := ts }) (hg : o.guard = none) (hd : dstOk n o = true)
    (h : WPo Tryz.prog n ops.toArray (fun fr1 B1 => ∃ β s, fr1 d = .bptr β 76 2 ∧ fr1 dx = .str s ∧ s ≠ [] ∧ s.length < 1000000000 ∧ B1[β]? = some ⟨[.nilP, .nilS], false⟩ ∧ Q .normal (upd (upd fr1 (some d) (.ptr β 0)) o.dst (.tup [.int .i64 s.length, .nilI])) (B1.set β ⟨[.ptr β 0, .bview B1.length s.length 5], false⟩ ++ [⟨s.map byteC, false⟩])) l1 fr B) : AWc Tryz.prog n (.region id ops.toArray false) Q fr B := by
  intro N I0 μ0 w0 I μ w a Q' hs hq
  refine (wpIn_wide (n := 0)).1 (wpIn_region_list (F := freeF none) ?_)
  rw [show ops.toArray.toList = l1 ++ [o] by simpa using he]
  refine WPo_in [o] l1 fr B n1 h I μ w a hs fun fr1 B1 a1 I1 μ1 w1 hp hs1 => ?_
  obtain ⟨β, s, f1, f2, hs0, hsl, hB, hQ⟩ := hp
  have hv := hs1.frame d
  rw [f1] at hv
  have hx := hs1.frame dx
  rw [f2] at hx
  have hx := hx.str_inv
  unfold wpListIn
  rw [want_none hg, if_pos rfl]
  refine wp_free (by simp [noDefer, ho]) ?_
  unfold Oper.wp
  have hrun : (execOp a1.eval o).run Tryz.prog w1 = .ok (.enter 27 #[a1.tmps.getD d undef, .string ⟨s.toArray⟩]) w1 := by
    simp only [execOp, ho, resolve, Act.eval, Deferred.ofValue, Sem.run_bind, Sem.run_pure, Result.andThen_ok, invoke]
    rw [callable_run (by kernel_rfl)]
    simp [Act.eval, hx]
  rw [hrun, Oper.upon_enter]
  refine (ws_first' hs1.box hv hB hs0 hsl).mono fun e w' ⟨c, v', B', I', μ', he, ⟨hc, hB'⟩, hst⟩ => ?_
  subst he hc hB'
  have s0 : St N n I0 μ0 w0 (upd fr1 (some d) (.ptr β 0)) B1 a1 I1 μ1 w1 := ⟨hs1.size, hs1.defers, fun i => by
    unfold upd
    by_cases hi : i = d
    · subst hi; simp only [if_pos]; exact hv.bptr_ptr
    · simp only [if_neg hi]; exact hs1.frame i, hs1.box, hs1.ext, hs1.below⟩
  have s2 := s0.put hst (d := o.dst) (fun t ht => by simpa [dstOk, ht] using hd)
  unfold wpListIn
  exact hq _ _ _ _ _ _ _ hQ s2
end
end Go.Proofs.YtcbdghgogmcllaaGreatDoor
end
section
namespace Go.Proofs.YtcbdghgogmcllaaGreatDoor
open Go Go.Sy
open Go.RowKit (Below)
section
variable {N n : Nat} {I0 I : Nat → Nat → Prop} {μ0 μ : List (List Sy.Place)} {B : List Box} {w0 w : World} {a : Act} {fr : Fr} {ops : Array Oper}
theorem string_run0 (b o : Nat) (w : World) (c1 : w.cell? ⟨b, o + 1, none⟩ = some (.slice none 0 0)) :
    Calls Tryz.prog 28 #[.pointer (some ⟨b, o, none⟩)] w fun e w' => e = .returned (.string .empty) ∧ Below N w w' ∧ ∀ k : Nat, w'.heap[k]? = w.heap[k]? := by
  have c1' : w.drew.cell? ⟨b, o + 1, none⟩ = some (.slice none 0 0) := c1
  have hSD : (Builtin.unsafeSliceData_ #[22] 105 #[.slice none 0 0]).run Tryz.prog w.drew = .ok (.pointer none) w.drew := Lib.run_unsafeSliceData_nil _ _ _ _ _
  have hUS : (Builtin.unsafeString_ #[105, 3] 9 #[.pointer none, .int .i64 0]).run Tryz.prog w.drew = .ok (.string .empty) w.drew := Lib.run_unsafeString_none _ _ _ _ _
  go_enter Tryz.func28, Tryz.ntmps28
  go_wp2
  go_region
  all_goals (go_wp2; go_ret)
  all_goals exact ⟨rfl, Below.drew (Below.refl N w), fun k => rfl⟩
theorem AWz_string0 {id : Nat} {d d1 : Tmp} {β k0 : Nat} {ty0 : TypeId} {o : Oper} {ts : Array TypeId} {l2 : List Oper} {Q : Exit → Fr → List Box → Prop} (h1 : o.op = .call { callee := .value (.func 28), args := #[.tmp d], argTypes := ts }) (e1 : o.dst = some d1) (g1 : o.guard = none) (k1 : d1 < n) (n2 : l2.all noDefer = true)
    (hd : fr d = .bptr β ty0 k0) (hβ : B[β]? = some ⟨[.nilP, .nilS], false⟩)
    (h : ∀ vs : Nat → Value, WPo Tryz.prog n (o :: l2).toArray (fun fr B => Q .normal fr B) l2 (upd (fun i => .raw (vs i)) (some d1) (.str [])) []) : AWz Tryz.prog n (.region id (o :: l2).toArray false) Q fr B := by
  intro N I0 w0 I μ w a Q' h0 hs hq
  refine (wpIn_wide (n := 0)).1 (wpIn_region_list (F := freeF none) ?_)
  rw [show (o :: l2).toArray.toList = o :: l2 by simp]
  have hB := hs.box
  have hv := hs.frame d
  rw [hd] at hv
  replace hv := hv.bptr_ptr
  obtain ⟨p, us, p1, p2, p3, p4⟩ := box_ptr hB hv hβ rfl
  obtain ⟨u0, us0, rfl, _, _, r3⟩ := R.cons_iff.1 p3
  obtain ⟨u1, us1, rfl, r4, _, _⟩ := R.cons_iff.1 r3
  have c1 := p4 1 _ rfl
  have hu1 : u1 = .slice none 0 0 := by cases r4; rfl
  subst hu1
  unfold wpListIn
  rw [want_none g1, if_pos rfl]
  refine wp_free (by simp [noDefer, h1]) ?_
  unfold Oper.wp
  have hrun : (execOp a.eval o).run Tryz.prog w = .ok (.enter 28 #[.pointer (some ⟨p.b, p.o + 0, none⟩)]) w := by
    simp only [execOp, h1, resolve, Act.eval, Deferred.ofValue, Sem.run_bind, Sem.run_pure, Result.andThen_ok, invoke]
    rw [callable_run (by kernel_rfl)]
    simp only [← p2]
    simp [Act.eval]
  rw [hrun, Oper.upon_enter]
  refine (string_run0 (N := N) p.b (p.o + 0) w c1).mono fun e w' ⟨he, hbel, hsame⟩ => ?_
  subst he
  have hold : ∀ b, b < w0.heap.size → w'.heap[b]? = w.heap[b]? := fun b hb => hsame b
  have hext : Ext I0 [] w0 I0 [] w' := ⟨⟨fun _ _ h => h, fun b j hj => (cell_same (hold b (h0.imm b j hj))).trans (hs.ext.same b j hj), fun b n hf => (hs.ext.free b n hf).of_same (hold b hf.lt), fun b hf => (hs.ext.plain b hf).of_same (hold b hf.lt), fun β ps h => by simp at h, fun r es c hi hx => (hold r (Array.getElem?_eq_some_iff.1 hx).1).trans (hs.ext.maps r es c hi hx)⟩,
    Nat.le_trans hs.ext.size hbel.size, fun β ps ps' h => by simp at h, fun β ps _ h => by simp at h, fun _ _ h => .inl h, fun β h => by simp at h, fun b ob k1 k2 => (hold b (Array.getElem?_eq_some_iff.1 k1).1).trans (hs.ext.oth b ob k1 k2)⟩
  have hbr : BRel N I0 [] [] w' := ⟨rfl, Nat.le_trans h0.low hext.size, fun b j hj => Nat.lt_of_lt_of_le (h0.imm b j hj) hext.size, fun β ps p h => by simp at h, fun β β' ps ps' p p' h => by simp at h, fun β box h => by simp at h, fun β box ps p h => by simp at h, h0.tabs.keep hext.toKeep⟩
  have hoth : Oth w w' := fun b ob k1 k2 => (hsame b).trans k1
  have hst : St N n I0 [] w0 (upd (fun i => .raw (a.tmps.getD i undef)) (some d1) (.str [])) [] (a.put o.dst (.string .empty)) I0 [] w' := by
    refine ⟨by rw [e1]; simp [Act.put, hs.size], by rw [e1]; exact hs.defers.ext hoth, fun i => ?_, hbr, hext, hs.below.trans hbel⟩
    rw [e1, put_getD a (some d1) _ (fun t ht => by cases ht; rw [hs.size]; exact k1)]
    unfold upd
    by_cases hi : i = d1
    · subst hi; simp; exact .str [] (.nil _)
    · rw [if_neg (by simpa using fun h => hi h.symm)]
      simp only [if_neg hi]
      exact .raw _ (by simp) (.nil _)
  have := WPo_in (r := none) (Q' := Q') [] l2 _ _ n2 (h _) I0 [] w' _ hst fun fr' B' a' I' μ' w' hQ hst => hq _ _ _ _ _ _ _ hQ hst
  rw [List.append_nil] at this
  exact this
end
end Go.Proofs.YtcbdghgogmcllaaGreatDoor
end
section
namespace Go.Proofs.YtcbdghgogmcllaaGreatDoor
open Go Go.Sy
theorem kE_SN0 {α : Type} {x y : α} (h : Is x y := by first | ((try simp (disch := first | omega | (simp only [yZ, yB] <;> omega) | fail) [go_sem, yY, *, bx_get0, bx_get, bx_set0, bx_set, if_pos, if_neg, -List.map_take, -List.map_drop, -List.map_append, -List.map_reverse]); exact rfl) | fail) : Is x y := h
theorem kD_SN0 {p : Prop} (h : p := by (first | omega | assumption | exact rfl | ((simp (disch := first | omega | (simp only [yZ, yB] <;> omega) | fail) [go_sem, yY, *, bx_get0, bx_get, bx_set0, bx_set, -List.map_take, -List.map_drop, -List.map_append, -List.map_reverse]) <;> (first | done | omega | exact rfl)) | fail)) : p := h
theorem wB_SN0 {p q : Prop} (k : q) (h : Hq q → p := by (intro k; (repeat' (first | (with_reducible first | apply jA | apply jB | apply jC | apply jD | apply jE | apply jF | apply jG | apply jH | apply jI | apply jJ | apply jK | apply jL | apply jM | apply jN | apply jO) | ((with_reducible first | apply jP | apply jQ); rfl) | ((first | ((with_reducible first | apply jR | apply jS | apply jT); rfl; rfl) | (with_reducible first | apply jU | apply jV | apply jW) | ((with_reducible first | apply jX | apply jY | apply jZ); rfl) | ((with_reducible first | apply kA | apply kB | apply kC); rfl)); all_goals (first | ((with_reducible show Is _ _); exact kE_SN0) | ((with_reducible refine fun (hc : (_ : Bool) = _) => ?_); (try simp only [xZ, xY, xP, reduceCtorEq] at hc); (try (have hx : True := hc; clear hx hc)); (try exact kX)) | ((with_reducible show ACall _ _ _ _ _); (first | ((with_reducible apply c0) <;> exact kD_SN0) | ((with_reducible apply c1) <;> exact kD_SN0) | ((with_reducible apply c2) <;> exact kD_SN0) | ((with_reducible apply c3) <;> exact kD_SN0) | ((with_reducible apply c4) <;> exact kD_SN0) | ((with_reducible apply c5) <;> exact kD_SN0) | ((with_reducible apply c6) <;> exact kD_SN0) | ((with_reducible apply c7) <;> exact kD_SN0))) | ((fail_if_success (with_reducible first | show Is _ _ | show ACall _ _ _ _ _)); (try ((with_reducible show _ ∨ _); exact kT))))) | (((with_reducible first | apply o_callQ | apply q_callQ); rfl); (iterate 2 exact kE_SN0); (first | ((with_reducible apply q0) <;> exact kD_SN0))))); exact hq k)) : p := h ⟨k⟩
theorem w_SN00 {p q : Prop}  (k : q) (h : Hq q → p := by (intro  k; exact wB_SN0 (hq k))) : p := h  ⟨k⟩
theorem w_SN01 {A0 p q : Prop} (c0 : A0) (k : q) (h : A0 → Hq q → p := by (intro c0 k; exact wB_SN0 (hq k))) : p := h c0 ⟨k⟩
theorem w_SN02 {A0 A1 p q : Prop} (c0 : A0) (c1 : A1) (k : q) (h : A0 → A1 → Hq q → p := by (intro c0 c1 k; exact wB_SN0 (hq k))) : p := h c0 c1 ⟨k⟩
structure AcS (a : Ac) : Prop where
  l : AcL a
  bytes : a.ev.bytes.length < 100000
  text : a.ev.text.length < 100000
def goodA (a : Ac) : Bool := (parseS (lineS a)).2 && sameA (parseS (lineS a)).1 a
def catS (l : List Ac) : List UInt8 := (l.map lineS).flatten
def fmtV (l : List Ac) : List UInt8 × Int := if 400 < l.length then ([], 12) else if l.all goodA then (catS l, 0) else ([], 1)
theorem lineS_short {a : Ac} (h : AcS a) : (lineS a).length < 400000 := by
  have h1 := itoa_len h.l.who
  have h2 := itoa_len h.l.n
  have h3 := itoa_len h.l.lo
  have h4 := itoa_len h.l.hi
  have h5 := itoa_len h.l.ev.time
  have h6 : (hexW a.ev.bytes).length ≤ 200000 := by
    have := h.bytes
    unfold hexW
    split
    · simp
    · rw [hexS_len]; omega
  have h7 := fmtE_len a.ev.six a.ev.ip a.ev.port
  have h8 : (hexS a.key).length = 64 := by rw [hexS_len, h.l.key]
  have h9 : (hexS [a.xor]).length = 2 := by rw [hexS_len]; rfl
  have h10 := h.text
  unfold lineS
  split
  · simp [wControl]; omega
  split
  · simp
  · have hw : (nameS a).length ≤ 8 := by
      unfold nameS nameE nameK
      repeat' split
      all_goals decide
    unfold wordsS wordsE
    repeat' split
    all_goals (simp [Go.Lib.join_cons, Go.Lib.joinTail]; omega)
theorem parseS_nil : (parseS []).2 = false := by decide +kernel
theorem good_ne {a : Ac} (h : goodA a = true) : lineS a ≠ [] := by
  intro e
  rw [goodA, e, parseS_nil] at h
  cases h
theorem catS_len {l : List Ac} (h : ∀ a ∈ l, AcS a) : (catS l).length ≤ l.length * 400000 := by
  induction l with
  | nil => simp [catS]
  | cons a l ih =>
    have := ih fun b hb => h b (by simp [hb])
    have := lineS_short (h a (by simp))
    simp [catS] at *
    omega
theorem catS_succ {l : List Ac} {j : Nat} (h : j < l.length) : catS (l.take (j + 1)) = catS (l.take j) ++ lineS l[j] := by
  rw [List.take_succ_eq_append_getElem h, catS, List.map_append, List.flatten_append]
  simp [catS]
theorem catS_ne : ∀ {l : List Ac}, l.all goodA = true → l ≠ [] → catS l ≠ []
  | [], _, h => absurd rfl h
  | a :: l, h, _ => by
    simp only [List.all_cons, Bool.and_eq_true] at h
    have := good_ne h.1
    simp [catS, this]
def BldL (l : List Ac) (j : Nat) (b4 : CV) (B : List Box) : Prop :=
  (j = 0 ∧ b4 = .bptr 0 76 2 ∧ B = [⟨[.nilP, .nilS], false⟩]) ∨ (0 < j ∧ b4 = .ptr 0 0 ∧ ∃ γ m, γ ≠ 0 ∧ B[0]? = some ⟨[.ptr 0 0, .bview γ (catS (l.take j)).length 5], false⟩ ∧ B[γ]? = some ⟨(catS (l.take j)).map byteC, m⟩)
theorem format_in (l : List Ac) (hl : ∀ a ∈ l, AcS a) (hn : l.length ≤ 2000) : PC Tryz.prog true 15 [.lst l.length (l.flatMap acC) false] (.tup [.str (fmtV l).1, .int .i64 (fmtV l).2]) := by
  have hcs : Cells acC 60 (l.flatMap acC) l := cells_all fun a ha => acC_len (hl a ha).l
  by_cases h4 : 400 < l.length
  · have e : fmtV l = ([], 12) := by rw [fmtV, if_pos h4]
    rw [e]
    generalize l.flatMap acC = Y at *
    generalize l.length = n at *
    clear hcs hl
    have h4' : (400 : Int) < n := by omega
    refine acall_intro mixed Tryz.func15 rfl ca15 (by kernel_rfl) (by rw [Tryz.ntmps15]; simp) ?_
    refine w0 ?_ 
    all_goals rfl
  have e : fmtV l = if l.all goodA then (catS l, 0) else ([], 1) := by rw [fmtV, if_neg h4]
  rw [e]
  clear e
  have h4' : ¬ ((400 : Int) < l.length) := by omega
  refine acall_AWz mixed Tryz.func15 rfl (by kernel_rfl) (by rw [Tryz.ntmps15]; simp) ?_
  have hbz : zerosOf Tryz.prog 76 = some [.nilP, .nilS] := by kernel_rfl
  generalize hY : l.flatMap acC = Y at *
  refine AWz_w mixed (by kernel_rfl) (fun fr B => fr 0 = .lst l.length Y false ∧ B = []) ?_ ?_
  · refine w0 ?_ 
    exact ⟨kS, rfl⟩
  rintro fr B ⟨f0, rfl⟩
  refine AWz_w mixed (by kernel_rfl) (fun fr B => fr 0 = .lst l.length Y false ∧ B = []) ?_ ?_
  · refine w0 ?_ 
    exact ⟨kS, rfl⟩
  clear f0 fr
  rintro fr B ⟨f0, rfl⟩
  refine AWz_seq (AWz.of (AWc_allocT (by rfl) hbz ?_))
  have f0' : upd fr (some 4) (.bptr ([] : List Box).length 76 ([.nilP, .nilS] : List CV).length) 0 = .lst l.length Y false := kS
  have f4' : upd fr (some 4) (.bptr ([] : List Box).length 76 ([.nilP, .nilS] : List CV).length) 4 = .bptr 0 76 2 := kS
  generalize upd fr (some 4) (.bptr ([] : List Box).length 76 ([.nilP, .nilS] : List CV).length) = fr at *
  simp only [List.nil_append]
  refine w_then ?_
  refine AWz_seq (AWz.of ?_)
  refine AWc_w mixed (by kernel_rfl) (fun fr B => fr 13 = .lst l.length Y false ∧ fr 14 = .int .i64 l.length ∧ fr 15 = .int .i64 0 ∧ fr 4 = .bptr 0 76 2 ∧ B = [⟨[.nilP, .nilS], false⟩]) ?_ ?_
  · refine w0 ?_ 
    exact ⟨kS, kS, kS, kS, rfl⟩
  clear f0 f0' f4'
  rintro fr B ⟨f13, f14, f15, f4, rfl⟩
  refine AWc_block (AWc_loop (fun fr B => ∃ j, j ≤ l.length ∧ (l.take j).all goodA = true ∧ fr 13 = .lst l.length Y false ∧ fr 14 = .int .i64 l.length ∧ fr 15 = .int .i64 j ∧ BldL l j (fr 4) B) (fun fr _ => l.length - natOf (fr 15)) ?_ ?_)
  · exact ⟨0, by omega, by simp, f13, f14, f15, .inl ⟨rfl, f4, rfl⟩⟩
  clear f13 f14 f15 f4 fr
  rintro fr B ⟨j, hj, hg, f13, f14, f15, hb⟩
  have hm : natOf (fr 15) = j := by rw [f15]; rfl
  by_cases hc : j < l.length
  · have ha := hl l[j] (List.getElem_mem hc)
    obtain ⟨hlen, hcell⟩ := hcs j hc
    have hls := lineS_short ha
    have hal := acC_len ha.l
    have hao : ∀ {nz : Bool} {B : List Box} {k : Nat}, omap (Go.Sy.fz nz false B (k + 3)) (acC l[j]) = some (acC l[j]) := acC_om
    have hat : (acC l[j]).take 60 = acC l[j] := List.take_of_length_le (by omega)
    have hpL : AcL (parseS (lineS l[j])).1 := parseS_L (by omega)
    have hpo : ∀ {nz : Bool} {B : List Box} {k : Nat}, omap (Go.Sy.fz nz false B (k + 3)) (acC (parseS (lineS l[j])).1) = some (acC (parseS (lineS l[j])).1) := acC_om
    have hpl := acC_len hpL
    have hpt : (acC (parseS (lineS l[j])).1).take 60 = acC (parseS (lineS l[j])).1 := List.take_of_length_le (by omega)
    have hcl := catS_len (l := l.take j) fun a ha => hl a (List.mem_of_mem_take ha)
    have hcl2 : (l.take j).length ≤ 2000 := by rw [List.length_take]; omega
    have hln : ∀ {B : List Box} {args : List CV}, Is (omap (Go.Sy.fz true false B 6) args) (some [.agg (acC l[j])]) → ACall Tryz.prog 25 args B fun c B' => c = .str (lineS l[j]) ∧ B' = B := fun hz => line_at hz ha.l
    have hps : ∀ {B : List Box} {args : List CV}, Is args [.str (lineS l[j])] → ACall Tryz.prog 23 args B fun c B' => c = .tup [.agg (acC (parseS (lineS l[j])).1), .bool (parseS (lineS l[j])).2] ∧ B' = B := fun hz => parseS_at hz (by omega)
    have hsm : ∀ {B : List Box} {args : List CV}, Is (omap (Go.Sy.fz true false B 6) args) (some [.agg (acC (parseS (lineS l[j])).1), .agg (acC l[j])]) → ACall Tryz.prog 26 args B fun c B' => c = .bool (sameA (parseS (lineS l[j])).1 l[j]) ∧ B' = B := fun hz => same_at hz hpL ha.l rfl
    have hsucc := catS_succ hc
    have hgs : (l.take (j + 1)).all goodA = goodA l[j] := by rw [List.take_succ_eq_append_getElem hc, List.all_append, hg]; simp
    have hbad : goodA l[j] = false → l.all goodA = false := fun h => by rw [List.all_eq_false]; exact ⟨_, List.getElem_mem hc, by simp [h]⟩
    have hne : goodA l[j] = true → lineS l[j] ≠ [] := good_ne
    have hgd : goodA l[j] = ((parseS (lineS l[j])).2 && sameA (parseS (lineS l[j])).1 l[j]) := rfl
    rw [hgd] at hgs hbad hne
    clear hgd hpL ha hcs
    generalize acC (parseS (lineS l[j])).1 = Z at *
    generalize sameA (parseS (lineS l[j])).1 l[j] = t2 at *
    generalize (parseS (lineS l[j])).2 = t1 at *
    generalize acC l[j] = X at *
    generalize lineS l[j] = S at *
    have hcell' : (Y.drop (j * 60)).take 60 = X := hcell
    obtain ⟨b4, h4f⟩ : ∃ v, fr 4 = v := ⟨_, rfl⟩
    have hl2 : l.length ≤ 2000 := hn
    have hgl : (l.take j).all goodA = true := hg
    obtain ⟨n, hnl⟩ : ∃ n, l.length = n := ⟨_, rfl⟩
    have hcj : j < n := by omega
    have hyl : j * 60 + 60 ≤ Y.length := by omega
    replace hgl : Hid _ := hgl
    replace hgs : Hid _ := hgs
    replace hsucc : Hid _ := hsucc
    rw [h4f] at hb
    replace hb : Hid _ := hb
    replace hY : Hid _ := hY
    clear hg hcell hlen hY
    rw [hnl] at f13 f14
    refine AWc_w mixed (by kernel_rfl) (fun fr' B' => fr' 13 = .lst n Y false ∧ fr' 14 = .int .i64 n ∧ fr' 15 = .int .i64 j ∧ fr' 4 = b4 ∧ B' = B ∧ fr' 16 = .bool true) ?_ ?_
    · refine w0 ?_ 
      exact ⟨kS, kS, kS, kS, rfl, kS⟩
    replace hm : Hid _ := hm
    clear f13 f14 f15 h4f
    rintro fr2 B2 ⟨f13, f14, f15, f4, rfl, f16⟩
    refine AWc_w mixed (by kernel_rfl) (fun fr' B' => fr' 13 = .lst n Y false ∧ fr' 14 = .int .i64 n ∧ fr' 15 = .int .i64 j ∧ fr' 4 = b4 ∧ B' = B2) ?_ ?_
    · refine w0 ?_ 
      exact ⟨f13, f14, f15, f4, rfl⟩
    clear f13 f14 f15 f4 f16
    rintro fr3 B3 ⟨f13, f14, f15, f4, rfl⟩
    refine AWc_seq (AWc_block ?_)
    refine AWc_w mixed (by kernel_rfl) (fun fr' B' => fr' 13 = .lst n Y false ∧ fr' 14 = .int .i64 n ∧ fr' 15 = .int .i64 j ∧ fr' 4 = b4 ∧ B' = B3 ++ [⟨X, false⟩] ∧ fr' 6 = .ptr B3.length 0) ?_ ?_
    · refine w_SN00 ?_ 
      exact ⟨kS, kS, kS, kS, by (simp (disch := omega) [go_sem, *, bx_get0, bx_get, bx_set0, bx_set]) <;> (try omega), kS⟩
    clear f13 f14 f15 f4
    rintro fr4 B4 ⟨f13, f14, f15, f4, rfl, f6⟩
    refine AWc_w mixed (by kernel_rfl) (fun fr' B' => fr' 13 = .lst n Y false ∧ fr' 14 = .int .i64 n ∧ fr' 15 = .int .i64 j ∧ fr' 4 = b4 ∧ B' = B3 ++ [⟨X, false⟩] ∧ fr' 6 = .ptr B3.length 0 ∧ fr' 7 = .str S) ?_ ?_
    · refine w_SN01 @hln ?_ 
      exact ⟨kS, kS, kS, kS, rfl, kS, kS⟩
    clear f13 f14 f15 f4 f6
    rintro fr5 B5 ⟨f13, f14, f15, f4, rfl, f6, f7⟩
    refine AWc_w mixed (by kernel_rfl) (fun fr' B' => (t1 && t2) = true ∧ fr' 13 = .lst n Y false ∧ fr' 14 = .int .i64 n ∧ fr' 15 = .int .i64 j ∧ fr' 4 = b4 ∧ B' = B3 ++ [⟨X, false⟩, ⟨Z, false⟩] ∧ fr' 7 = .str S) ?_ ?_
    · by_cases hgo : (t1 && t2) = true
      · cases t1 <;> cases t2 <;> try cases hgo
        clear hbad hne
        refine w_SN02 @hps @hsm ?_ 
        exact ⟨rfl, kS, kS, kS, kS, by (simp (disch := omega) [go_sem, *, bx_get0, bx_get, bx_set0, bx_set]) <;> (try omega), kS⟩
      · have hb2 := hbad (by simpa using hgo)
        rw [hb2]
        simp only [Bool.false_eq_true, if_false]
        clear hb2 hbad hne
        cases t1
        · refine w_SN02 @hps @hsm ?_ 
          all_goals rfl
        · cases t2
          · refine w_SN02 @hps @hsm ?_ 
            all_goals rfl
          · cases hgo rfl
    clear f13 f14 f15 f4 f6 f7
    rintro fr6 B6 ⟨ht, f13, f14, f15, f4, rfl, f7⟩
    have hS := hne ht
    clear hne hbad hps hsm hln
    have hSl : S.length < 1000000000 := by omega
    have hgs' : (l.take (j + 1)).all goodA = true := by rw [show (l.take (j + 1)).all goodA = (t1 && t2) from hgs]; exact ht
    have hsucc' : catS (l.take (j + 1)) = catS (l.take j) ++ S := hsucc
    have hb' : BldL l j b4 B3 := hb
    rcases hb' with ⟨rfl, rfl, rfl⟩ | ⟨h0, rfl, γ, m, hγ, hB0, hBγ⟩
    · refine AWc_ws1 (l1 := [_]) rfl rfl rfl rfl rfl ?_
      refine w0 ?_ 
      refine ⟨0, S, kS, kS, hS, hSl, rfl, ?_⟩
      show AWc _ _ _ _ _ _
      have e1 : catS (l.take (0 + 1)) = S := by rw [hsucc']; rfl
      refine WPc_sound mixed.mixed _ _ _ _ (by kernel_rfl) ?_
      refine w0 ?_ 
      refine ⟨⟨0 + 1, by omega, hgs', by rw [hnl]; (simp (disch := omega) [go_sem, *]) <;> (try omega), by rw [hnl]; (simp (disch := omega) [go_sem, *]) <;> (try omega), kS, .inr ⟨by omega, kS, ?_⟩⟩, ?_⟩
      rotate_left
      · rw [show natOf (fr 15) = _ from hm]; (simp (disch := omega) [go_sem, *]) <;> (try omega)
      rw [e1]
      exact ⟨3, false, by decide, rfl, rfl⟩
    · have hBl : γ < B3.length := (List.getElem?_eq_some_iff.1 hBγ).1
      have hBl0 : 0 < B3.length := by omega
      obtain ⟨B7, hB7⟩ : ∃ B7, B3 ++ [(⟨X, false⟩ : Box), ⟨Z, false⟩] = B7 := ⟨_, rfl⟩
      have g0 : B7[0]? = some ⟨[.ptr 0 0, .bview γ (catS (l.take j)).length 5], false⟩ := by rw [← hB7, List.getElem?_append_left hBl0, hB0]
      have gγ : B7[γ]? = some ⟨(catS (l.take j)).map byteC, m⟩ := by rw [← hB7, List.getElem?_append_left hBl, hBγ]
      rw [hB7]
      have hcl3 : (catS (l.take j)).length + S.length < 1000000000 := by omega
      generalize catS (l.take j) = L at *
      have hws : ∀ {args : List CV}, Is args [.ptr 0 0, .str S] → ACall Tryz.prog 27 args B7 fun c B' => c = .tup [.int .i64 S.length, .nilI] ∧ B' = (B7.set γ ⟨(L ++ S).map byteC, true⟩).set 0 ⟨[.ptr 0 0, .bview γ (L.length + S.length) 5], false⟩ := fun h => ws_at h g0 gγ (Ne.symm hγ) hS hcl3
      refine WPc_sound mixed.mixed _ _ _ _ (by kernel_rfl) ?_
      refine w1 @hws ?_ 
      show AWc _ _ _ _ _ _
      refine WPc_sound mixed.mixed _ _ _ _ (by kernel_rfl) ?_
      refine w0 ?_ 
      refine ⟨⟨j + 1, by omega, hgs', by rw [hnl]; (simp (disch := omega) [go_sem, *]) <;> (try omega), by rw [hnl]; (simp (disch := omega) [go_sem, *]) <;> (try omega), kS, .inr ⟨by omega, kS, ?_⟩⟩, ?_⟩
      rotate_left
      · rw [show natOf (fr 15) = _ from hm]; (simp (disch := omega) [go_sem, *]) <;> (try omega)
      rw [hsucc', List.length_append]
      have hl7 : γ < B7.length := (List.getElem?_eq_some_iff.1 gγ).1
      refine ⟨γ, true, hγ, ?_, ?_⟩
      · rw [List.getElem?_set_self (by rw [List.length_set]; omega)]
      · rw [List.getElem?_set_ne (Ne.symm hγ), List.getElem?_set_self hl7]
  · obtain rfl : j = l.length := by omega
    rw [List.take_length] at hg
    have hgl : Hid (l.all goodA = true) := hg
    rw [hg]
    clear hg
    simp only [if_true]
    have hcl := catS_len hl
    have hcl2 : (catS l).length < 1000000000 := by omega
    have hb' : BldL l l.length (fr 4) B := hb
    clear hb hcl hcs hl
    obtain ⟨b4, h4f⟩ : ∃ v, fr 4 = v := ⟨_, rfl⟩
    rw [h4f] at hb'
    replace hb' : Hid _ := hb'
    replace hcl2 : Hid _ := hcl2
    refine WPc_sound mixed.mixed _ _ _ _ (by kernel_rfl) ?_
    refine w0 ?_ 
    have hcl2 : (catS l).length < 1000000000 := hcl2
    have hb' : BldL l l.length b4 B := hb'
    rcases hb' with ⟨h0, rfl, rfl⟩ | ⟨h0, rfl, γ, m, hγ, hB0, hBγ⟩
    · have hl0 : l = [] := List.eq_nil_of_length_eq_zero h0
      subst hl0
      refine AWz_seq (AWz_string0 (d := 4) (d1 := 37) (β := 0) (ty0 := 76) (k0 := 2) rfl rfl rfl (by decide) (by rfl) (kS) rfl ?_)
      intro vs
      refine w0 ?_ 
      refine AWz.of (WPc_sound mixed.mixed _ _ _ _ (by kernel_rfl) ?_)
      refine w0 ?_ 
      rfl
    · rw [List.take_length] at hB0 hBγ
      have hne : catS l ≠ [] := catS_ne hgl (fun e => by rw [e] at h0; cases h0)
      refine AWz_seq (AWz_string (d := 4) (d1 := 37) (β := 0) (γ := γ) (l := catS l) rfl rfl rfl (by decide) (by rfl) (kS) hB0 hBγ hne hcl2 ?_)
      intro vs
      refine w0 ?_ 
      refine AWz.of (WPc_sound mixed.mixed _ _ _ _ (by kernel_rfl) ?_)
      refine w0 ?_ 
      rfl
end Go.Proofs.YtcbdghgogmcllaaGreatDoor
end
section
namespace Go.Proofs.YtcbdghgogmcllaaGreatDoor
open Go Go.Sy
theorem i64_1 : i64 1 := ⟨by decide, by decide⟩
theorem i64_2 : i64 2 := ⟨by decide, by decide⟩
theorem i64_3 : i64 3 := ⟨by decide, by decide⟩
theorem i64_4 : i64 4 := ⟨by decide, by decide⟩
theorem i64_5 : i64 5 := ⟨by decide, by decide⟩
theorem i64_6 : i64 6 := ⟨by decide, by decide⟩
theorem i64_7 : i64 7 := ⟨by decide, by decide⟩
theorem len0 : ([] : List UInt8).length < 1000000 := by decide
end Go.Proofs.YtcbdghgogmcllaaGreatDoor
end
section
namespace Go.Proofs.YtcbdghgogmcllaaGreatDoor
open Go Go.Sy
theorem digV_hd {n : Nat} (h : n < 16) : digV (hd n) = some n := by
  have : ∀ k : Fin 16, digV (hd k.1) = some k.1 := by decide
  exact this ⟨n, h⟩
theorem unhex_hexS (l : List UInt8) : unhex (hexS l) = some l := by
  induction l with
  | nil => rfl
  | cons x l ih =>
    have hx := x.toNat_lt
    have e : hexS (x :: l) = hd (x.toNat / 16) :: hd (x.toNat % 16) :: hexS l := rfl
    rw [e, unhex, digV_hd (by omega), digV_hd (by omega), ih]
    simp only [Option.bind_some, Option.map_some, hexb, Option.some.injEq, List.cons.injEq, and_true]
    apply UInt8.toNat_inj.1
    rw [UInt8.toNat_ofNat']
    omega
def NoSp (x : List UInt8) : Prop := ∀ c ∈ x, c ≠ 32 ∧ c ≠ 10
theorem hd_ch {k : Nat} (h : k < 16) : hd k ≠ 32 ∧ hd k ≠ 10 ∧ hd k ≠ 45 := by
  have : ∀ k : Fin 16, hd k.1 ≠ 32 ∧ hd k.1 ≠ 10 ∧ hd k.1 ≠ 45 := by decide
  exact this ⟨k, h⟩
theorem hexS_ch (l : List UInt8) : ∀ c ∈ hexS l, c ≠ 32 ∧ c ≠ 10 ∧ c ≠ 45 := by
  intro c hc
  simp only [hexS, List.mem_flatMap] at hc
  obtain ⟨x, _, hx⟩ := hc
  have := x.toNat_lt
  simp only [List.mem_cons, List.mem_nil_iff, or_false] at hx
  rcases hx with rfl | rfl
  · exact hd_ch (by omega)
  · exact hd_ch (by omega)
theorem hexS_nosp (l : List UInt8) : NoSp (hexS l) := fun c hc => ⟨(hexS_ch l c hc).1, (hexS_ch l c hc).2.1⟩
theorem hexW_nosp (l : List UInt8) : NoSp (hexW l) := by
  unfold hexW
  split
  · intro c hc
    simp only [List.mem_singleton] at hc
    subst hc
    decide
  · exact hexS_nosp l
theorem hexS_nm (l : List UInt8) : hexS l ≠ [45] := fun h => (hexS_ch l 45 (by rw [h]; simp)).2.2 rfl
theorem unhexW_back (l : List UInt8) : unhexW (hexW l) = (l, true) := by
  unfold hexW
  split
  · rename_i h
    subst h
    rfl
  · rename_i h
    rw [unhexW, if_neg (hexS_nm l), unhex_hexS]
    have : 0 < l.length := List.length_pos_iff.2 h
    simp only [this, decide_true]
theorem bytesR_back (l : List UInt8) : bytesR (hexW l) = (l, true) := by
  unfold hexW
  split
  · rename_i h
    subst h
    rfl
  · rename_i h
    rw [bytesR, if_neg (hexS_nm l), unhex_hexS]
    simp only [ne_eq, h, not_false_eq_true, and_self, if_true]
theorem bytesR_ok {s l : List UInt8} (h : bytesR s = (l, true)) : hexW l = s := by
  unfold bytesR at h
  split at h
  · rename_i e
    simp only [Prod.mk.injEq, and_true] at h
    subst h e
    rfl
  · split at h
    · rename_i m hm
      split at h
      · rename_i hh
        simp only [Prod.mk.injEq, and_true] at h
        subst h
        rw [hexW, if_neg hh.1, hh.2]
      · cases h
    · cases h
theorem dec_nosp (n : Nat) : NoSp (Go.Lib.decDigits n) := fun c hc => by
  have := dec_dig n c hc
  constructor <;> (rintro rfl; revert this; decide)
theorem itoa_nosp (n : Int) : NoSp (Go.Lib.itoa n) := by
  unfold Go.Lib.itoa
  split
  · intro c hc
    rcases List.mem_cons.1 hc with rfl | hc
    · decide
    · exact dec_nosp _ c hc
  · exact dec_nosp _
end Go.Proofs.YtcbdghgogmcllaaGreatDoor
end
section
namespace Go.Proofs.YtcbdghgogmcllaaGreatDoor
open Go Go.Sy
theorem dec_ofNat {c : UInt8} (h1 : 48 ≤ c.toNat) (h2 : c.toNat ≤ 57) : UInt8.ofNat (48 + (c.toNat - 48)) = c := by
  rw [show 48 + (c.toNat - 48) = c.toNat by omega]
  exact UInt8.ofNat_toNat
theorem dec_back : ∀ (k : Nat) (s : List UInt8), s.length = k + 1 → s.all isDig = true → (1 < s.length → s.head? ≠ some 48) → Go.Lib.decDigits (decV s) = s
  | 0, s, hl, hd, hh => by
    match s, hl with
    | [c], _ =>
    have hc : 48 ≤ c.toNat ∧ c.toNat ≤ 57 := by simpa [isDig] using hd
    have e : decV [c] = c.toNat - 48 := by simp [decV]
    rw [e, Go.Lib.decDigits, dif_pos (by omega), dec_ofNat hc.1 hc.2]
  | k + 1, s, hl, hd, hh => by
    obtain ⟨t, c, rfl⟩ : ∃ t c, s = t ++ [c] := ⟨s.dropLast, s.getLast (by intro e; rw [e] at hl; cases hl), (List.dropLast_concat_getLast _).symm⟩
    have htl : t.length = k + 1 := by simpa using hl
    rw [List.all_append, Bool.and_eq_true] at hd
    have hc : 48 ≤ c.toNat ∧ c.toNat ≤ 57 := by simpa [isDig] using hd.2
    have hth : t.head? ≠ some 48 := by
      have := hh (by simp; omega)
      rw [List.head?_append] at this
      intro e
      rw [e] at this
      exact this rfl
    have ih := dec_back k t htl hd.1 (fun _ => hth)
    have hv : decV t ≠ 0 := fun e => by
      rw [e, Go.Lib.decDigits, dif_pos (by omega)] at ih
      rw [← ih] at hth
      exact hth rfl
    rw [decV_app, Go.Lib.decDigits, dif_neg (by omega), show (10 * decV t + (c.toNat - 48)) / 10 = decV t by omega, show (10 * decV t + (c.toNat - 48)) % 10 = c.toNat - 48 by omega, ih, dec_ofNat hc.1 hc.2]
theorem decOk_back {m : Nat} {s : List UInt8} (h : decOk m s = true) : Go.Lib.decDigits (decV s) = s := by
  rw [decOk, headOk] at h
  simp only [Bool.and_eq_true, decide_eq_true_eq, Bool.not_eq_true', Bool.and_eq_false_iff] at h
  obtain ⟨⟨⟨h1, _⟩, h3⟩, h4⟩ := h
  refine dec_back (s.length - 1) s (by omega) h4 fun hl e => ?_
  rcases h3 with h3 | h3
  · simp at h3; omega
  · rw [e] at h3; cases h3
theorem decOk_lt {s : List UInt8} (h : decOk 19 s = true) : decV s < 10000000000000000000 := by
  rw [decOk, headOk] at h
  simp only [Bool.and_eq_true, decide_eq_true_eq] at h
  have h1 := decV_lt s h.2
  have h2 : (10 : Nat) ^ s.length ≤ 10 ^ 19 := Nat.pow_le_pow_right (by omega) h.1.1.2
  omega
theorem numR_ok {s : List UInt8} {n : Int} (h : numR s = (n, true)) : 0 ≤ n ∧ n ≤ 4611686018427387904 ∧ Go.Lib.decDigits n.toNat = s := by
  unfold numR at h
  split at h
  · rename_i hh
    simp only [Prod.mk.injEq, and_true] at h
    subst h
    obtain ⟨h1, h2, h3⟩ := hh
    have hlt := decOk_lt h1
    have hb := decOk_back h1
    have e : nV s = (decV s : Int) := by
      rw [nV, if_pos h1] at h2 h3 ⊢
      rw [w64] at h2 h3 ⊢
      omega
    refine ⟨h2, h3, ?_⟩
    rw [e]
    exact hb
  · cases h
theorem numR_back {n : Int} (h0 : 0 ≤ n) (h1 : n ≤ 4611686018427387904) : numR (Go.Lib.decDigits n.toNat) = (n, true) := by
  have hok := decOk_dec 18 n.toNat (by omega)
  have hv := (dec_all n.toNat).2.1
  have e : nV (Go.Lib.decDigits n.toNat) = n := by
    rw [nV, if_pos hok, hv, w64]
    omega
  rw [numR, e, if_pos ⟨hok, h0, h1⟩]
theorem decM_nn {n : Int} (h : 0 ≤ n) : decM n = Go.Lib.decDigits n.toNat := by rw [decM, Int.max_eq_left h]
theorem numR_eq {s : List UInt8} {n : Int} (h : numR s = (n, true)) : 0 ≤ n ∧ n ≤ 4611686018427387904 ∧ decM n = s := by
  obtain ⟨h1, h2, h3⟩ := numR_ok h
  exact ⟨h1, h2, by rw [decM_nn h1, h3]⟩
theorem dec_one_len {n : Nat} (h : (Go.Lib.decDigits n).length = 1) : n < 10 := by
  by_cases h10 : n < 10
  · exact h10
  · rw [Go.Lib.decDigits, dif_neg h10, List.length_append] at h
    have := List.length_pos_iff.2 (dec_ne (n / 10))
    rw [show [UInt8.ofNat (48 + n % 10)].length = 1 from rfl] at h
    omega
theorem decM_itoa {n : Int} (h : 0 ≤ n) : Go.Lib.itoa n = decM n := by rw [itoa_nn h, decM_nn h]
end Go.Proofs.YtcbdghgogmcllaaGreatDoor
end
section
namespace Go.Proofs.YtcbdghgogmcllaaGreatDoor
open Go Go.Sy
inductive Norm : Ac → Prop
  | plain (l : List UInt8) : Norm (evA { ev0 with kind := 1, bytes := l })
  | dgram (six : Bool) (A : List UInt8) (n : Nat) (l : List UInt8) (hA : A.length = 16) (ok : okA six A = true) (h1 : 1 ≤ n) (h2 : n ≤ 65535) : Norm (evA { ev0 with kind := 2, six := six, ip := A, port := (n : Int), bytes := l })
  | tick (n : Int) (h0 : 0 ≤ n) (h1 : n ≤ 4611686018427387904) : Norm (evA { ev0 with kind := 3, time := n })
  | entropy (l : List UInt8) : Norm (evA { ev0 with kind := 4, bytes := l })
  | control (t : List UInt8) (h : prS t = true) : Norm (evA { ev0 with kind := 5, text := t })
  | handoff (lo hi : Int) (k : List UInt8) (l0 : 0 ≤ lo) (l1 : lo ≤ 9) (h0 : 0 ≤ hi) (h1 : hi ≤ 9) (hk : k.length = 32) : Norm { act0 with kind := 2, lo := lo, hi := hi, key := k }
  | pick (w n : Int) (w0 : 0 ≤ w) (w1 : w ≤ 1) (h0 : 0 ≤ n) (h1 : n ≤ 4611686018427387904) : Norm { act0 with kind := 3, who := w, n := n }
  | abort (w : Int) (w0 : 0 ≤ w) (w1 : w ≤ 1) : Norm { act0 with kind := 4, who := w }
  | kill (w : Int) (w0 : 0 ≤ w) (w1 : w ≤ 1) : Norm { act0 with kind := 5, who := w }
  | corrupt (w n : Int) (x : UInt8) (w0 : 0 ≤ w) (w1 : w ≤ 1) (h0 : 0 ≤ n) (h1 : n ≤ 4611686018427387904) : Norm { act0 with kind := 6, who := w, n := n, xor := x }
  | cut (w n : Int) (w0 : 0 ≤ w) (w1 : w ≤ 1) (h0 : 0 ≤ n) (h1 : n ≤ 4611686018427387904) : Norm { act0 with kind := 7, who := w, n := n }
structure GoodN (b : Ac) (w : List UInt8) (ws : List (List UInt8)) : Prop where
  name : nameS b = w
  words : wordsS b = ws
  text : textR b = Go.Lib.join (w :: ws) [32]
  nosp : ∀ x ∈ w :: ws, NoSp x
  rd : readW (w :: ws) = (b, true)
  rr : wordsR (w :: ws) = (b, true)
  nc : w ∈ [wPlain, wDatagram, wTick, wEntropy, wHandoff, wPick, wCut, wAbort, wKill, wCorrupt]
  ne : ws ≠ []
theorem words_nosp {w : List UInt8} (h : w ∈ [wPlain, wDatagram, wTick, wEntropy, wHandoff, wPick, wCut, wAbort, wKill, wCorrupt]) : NoSp w := by
  have : ∀ w ∈ [wPlain, wDatagram, wTick, wEntropy, wHandoff, wPick, wCut, wAbort, wKill, wCorrupt], ∀ c ∈ w, c ≠ 32 ∧ c ≠ 10 := by decide
  exact this w h
theorem join2 (x y : List UInt8) : Go.Lib.join [x, y] [32] = x ++ [32] ++ y := by simp [Go.Lib.join_cons, Go.Lib.joinTail]
theorem join3 (x y z : List UInt8) : Go.Lib.join [x, y, z] [32] = x ++ [32] ++ y ++ [32] ++ z := by simp [Go.Lib.join_cons, Go.Lib.joinTail]
theorem join4 (x y z t : List UInt8) : Go.Lib.join [x, y, z, t] [32] = x ++ [32] ++ y ++ [32] ++ z ++ [32] ++ t := by simp [Go.Lib.join_cons, Go.Lib.joinTail]
theorem nosp_two {x y : List UInt8} (h1 : NoSp x) (h2 : NoSp y) : ∀ z ∈ [x, y], NoSp z := by
  intro z hz
  simp only [List.mem_cons, List.mem_nil_iff, or_false] at hz
  rcases hz with rfl | rfl <;> assumption
theorem nosp_three {x y t : List UInt8} (h1 : NoSp x) (h2 : NoSp y) (h3 : NoSp t) : ∀ z ∈ [x, y, t], NoSp z := by
  intro z hz
  simp only [List.mem_cons, List.mem_nil_iff, or_false] at hz
  rcases hz with rfl | rfl | rfl <;> assumption
theorem nosp_four {x y t u : List UInt8} (h1 : NoSp x) (h2 : NoSp y) (h3 : NoSp t) (h4 : NoSp u) : ∀ z ∈ [x, y, t, u], NoSp z := by
  intro z hz
  simp only [List.mem_cons, List.mem_nil_iff, or_false] at hz
  rcases hz with rfl | rfl | rfl | rfl <;> assumption
theorem good_plain (l : List UInt8) : GoodN (evA { ev0 with kind := 1, bytes := l }) wPlain [hexW l] := by
  refine ⟨rfl, rfl, ?_, nosp_two (words_nosp (by decide)) (hexW_nosp l), ?_, ?_, by decide, by simp⟩
  · rw [join2]; rfl
  · show (evA { ev0 with kind := 1, bytes := (unhexW (hexW l)).1 }, (unhexW (hexW l)).2) = _
    rw [unhexW_back]
  · show (evA { ev0 with kind := 1, bytes := (bytesR (hexW l)).1 }, (bytesR (hexW l)).2) = _
    rw [bytesR_back]
theorem good_entropy (l : List UInt8) : GoodN (evA { ev0 with kind := 4, bytes := l }) wEntropy [hexW l] := by
  refine ⟨rfl, rfl, ?_, nosp_two (words_nosp (by decide)) (hexW_nosp l), ?_, ?_, by decide, by simp⟩
  · rw [join2]; rfl
  · show (evA { ev0 with kind := 4, bytes := (unhexW (hexW l)).1 }, (unhexW (hexW l)).2) = _
    rw [unhexW_back]
  · show (evA { ev0 with kind := 4, bytes := (bytesR (hexW l)).1 }, (bytesR (hexW l)).2) = _
    rw [bytesR_back]
theorem good_tick {n : Int} (h0 : 0 ≤ n) (h1 : n ≤ 4611686018427387904) : GoodN (evA { ev0 with kind := 3, time := n }) wTick [Go.Lib.itoa n] := by
  refine ⟨rfl, rfl, ?_, nosp_two (words_nosp (by decide)) (itoa_nosp n), ?_, ?_, by decide, by simp⟩
  · rw [join2, decM_itoa h0]; rfl
  · show (evA { ev0 with kind := 3, time := (numW (Go.Lib.itoa n)).1 }, (numW (Go.Lib.itoa n)).2) = _
    rw [numW_back h0 h1]
  · show (evA { ev0 with kind := 3, time := (numR (Go.Lib.itoa n)).1 }, (numR (Go.Lib.itoa n)).2) = _
    rw [itoa_nn h0, numR_back h0 h1]
theorem good_handoff {lo hi : Int} {k : List UInt8} (l0 : 0 ≤ lo) (l1 : lo ≤ 9) (h0 : 0 ≤ hi) (h1 : hi ≤ 9) (hk : k.length = 32) : GoodN { act0 with kind := 2, lo := lo, hi := hi, key := k } wHandoff [Go.Lib.itoa lo, Go.Lib.itoa hi, hexS k] := by
  have hx : hexW k = hexS k := by rw [hexW, if_neg (by intro e; rw [e] at hk; cases hk)]
  refine ⟨rfl, rfl, ?_, nosp_four (words_nosp (by decide)) (itoa_nosp lo) (itoa_nosp hi) (hexS_nosp k), ?_, ?_, by decide, by simp⟩
  · rw [join4, decM_itoa l0, decM_itoa h0]; rfl
  · show handW (Go.Lib.itoa lo) (Go.Lib.itoa hi) (hexS k) = _
    rw [handW, unhex_hexS, smallW_back l0 l1, smallW_back h0 h1]
    simp only [hk, and_self, if_true]
  · show handR (Go.Lib.itoa lo) (Go.Lib.itoa hi) (hexS k) = _
    have e1 : (Go.Lib.itoa lo).length = 1 := by rw [itoa_nn l0, dec_small (by omega)]; rfl
    have e2 : (Go.Lib.itoa hi).length = 1 := by rw [itoa_nn h0, dec_small (by omega)]; rfl
    have e3 : numR (Go.Lib.itoa lo) = (lo, true) := by rw [itoa_nn l0, numR_back l0 (by omega)]
    have e4 : numR (Go.Lib.itoa hi) = (hi, true) := by rw [itoa_nn h0, numR_back h0 (by omega)]
    have e5 : bytesR (hexS k) = (k, true) := by rw [← hx, bytesR_back]
    rw [handR, e3, e4, e5]
    simp only [e1, e2, hk, and_self, if_true]
theorem who_word {w : Int} (w0 : 0 ≤ w) (w1 : w ≤ 1) : (Go.Lib.itoa w = [48] ∨ Go.Lib.itoa w = [49]) ∧ (if Go.Lib.itoa w = [48] then (0 : Int) else 1) = w := by
  have : w = 0 ∨ w = 1 := by omega
  rcases this with rfl | rfl
  · have e : Go.Lib.itoa 0 = [48] := by rw [itoa_nn (by decide)]; exact dec_small (by decide)
    rw [e]; exact ⟨.inl rfl, rfl⟩
  · have e : Go.Lib.itoa 1 = [49] := by rw [itoa_nn (by decide)]; exact dec_small (by decide)
    rw [e]; exact ⟨.inr rfl, rfl⟩
theorem good_abort {w : Int} (w0 : 0 ≤ w) (w1 : w ≤ 1) : GoodN { act0 with kind := 4, who := w } wAbort [Go.Lib.itoa w] := by
  obtain ⟨e1, e2⟩ := who_word w0 w1
  refine ⟨rfl, rfl, ?_, nosp_two (words_nosp (by decide)) (itoa_nosp w), ?_, ?_, by decide, by simp⟩
  · rw [join2, decM_itoa w0]; rfl
  · show barW 4 (Go.Lib.itoa w) = _
    rw [barW, whoW_back w0 w1]
  · show namedR wAbort (Go.Lib.itoa w) [] = _
    rw [namedR, if_pos e1]
    simp only [e2]
    rfl
theorem good_kill {w : Int} (w0 : 0 ≤ w) (w1 : w ≤ 1) : GoodN { act0 with kind := 5, who := w } wKill [Go.Lib.itoa w] := by
  obtain ⟨e1, e2⟩ := who_word w0 w1
  refine ⟨rfl, rfl, ?_, nosp_two (words_nosp (by decide)) (itoa_nosp w), ?_, ?_, by decide, by simp⟩
  · rw [join2, decM_itoa w0]; rfl
  · show barW 5 (Go.Lib.itoa w) = _
    rw [barW, whoW_back w0 w1]
  · show namedR wKill (Go.Lib.itoa w) [] = _
    rw [namedR, if_pos e1]
    simp only [e2]
    rfl
theorem good_pick {w n : Int} (w0 : 0 ≤ w) (w1 : w ≤ 1) (h0 : 0 ≤ n) (h1 : n ≤ 4611686018427387904) : GoodN { act0 with kind := 3, who := w, n := n } wPick [Go.Lib.itoa w, Go.Lib.itoa n] := by
  obtain ⟨e1, e2⟩ := who_word w0 w1
  have e4 : numR (Go.Lib.itoa n) = (n, true) := by rw [itoa_nn h0, numR_back h0 h1]
  refine ⟨rfl, rfl, ?_, nosp_three (words_nosp (by decide)) (itoa_nosp w) (itoa_nosp n), ?_, ?_, by decide, by simp⟩
  · rw [join3, decM_itoa w0, decM_itoa h0]; rfl
  · show nmbW 3 (Go.Lib.itoa w) (Go.Lib.itoa n) = _
    rw [nmbW, whoW_back w0 w1, numW_back h0 h1]
    rfl
  · show namedR wPick (Go.Lib.itoa w) [Go.Lib.itoa n] = _
    rw [namedR, if_pos e1]
    simp only [e2, e4]
    rfl
theorem good_cut {w n : Int} (w0 : 0 ≤ w) (w1 : w ≤ 1) (h0 : 0 ≤ n) (h1 : n ≤ 4611686018427387904) : GoodN { act0 with kind := 7, who := w, n := n } wCut [Go.Lib.itoa w, Go.Lib.itoa n] := by
  obtain ⟨e1, e2⟩ := who_word w0 w1
  have e4 : numR (Go.Lib.itoa n) = (n, true) := by rw [itoa_nn h0, numR_back h0 h1]
  refine ⟨rfl, rfl, ?_, nosp_three (words_nosp (by decide)) (itoa_nosp w) (itoa_nosp n), ?_, ?_, by decide, by simp⟩
  · rw [join3, decM_itoa w0, decM_itoa h0]; rfl
  · show nmbW 7 (Go.Lib.itoa w) (Go.Lib.itoa n) = _
    rw [nmbW, whoW_back w0 w1, numW_back h0 h1]
    rfl
  · show namedR wCut (Go.Lib.itoa w) [Go.Lib.itoa n] = _
    rw [namedR, if_pos e1]
    simp only [e2, e4]
    rfl
theorem good_corrupt {w n : Int} {x : UInt8} (w0 : 0 ≤ w) (w1 : w ≤ 1) (h0 : 0 ≤ n) (h1 : n ≤ 4611686018427387904) : GoodN { act0 with kind := 6, who := w, n := n, xor := x } wCorrupt [Go.Lib.itoa w, Go.Lib.itoa n, hexS [x]] := by
  obtain ⟨e1, e2⟩ := who_word w0 w1
  have e4 : numR (Go.Lib.itoa n) = (n, true) := by rw [itoa_nn h0, numR_back h0 h1]
  have e5 : bytesR (hexS [x]) = ([x], true) := by have := bytesR_back [x]; rwa [hexW, if_neg (by simp)] at this
  refine ⟨rfl, rfl, ?_, nosp_four (words_nosp (by decide)) (itoa_nosp w) (itoa_nosp n) (hexS_nosp _), ?_, ?_, by decide, by simp⟩
  · rw [join4, decM_itoa w0, decM_itoa h0]; rfl
  · show corW (Go.Lib.itoa w) (Go.Lib.itoa n) (hexS [x]) = _
    rw [corW, unhex_hexS, whoW_back w0 w1, numW_back h0 h1]
    rfl
  · show namedR wCorrupt (Go.Lib.itoa w) [Go.Lib.itoa n, hexS [x]] = _
    rw [namedR, if_pos e1]
    simp only [e2, e4, e5]
    rfl
end Go.Proofs.YtcbdghgogmcllaaGreatDoor
end
section
namespace Go.Proofs.YtcbdghgogmcllaaGreatDoor
open Go Go.Sy
theorem fmtE_nosp {six : Bool} {A : List UInt8} {p : Nat} (hok : okA six A = true) (h1 : 1 ≤ p) (h2 : p ≤ 65535) : NoSp (fmtE six A p) := by
  have e : fmtE six A p = brk six (fmtA six A) ++ 58 :: Go.Lib.decDigits p := by rw [fmtE, if_pos ⟨hok, by omega, by omega⟩]; rfl
  have k : ∀ c : UInt8, 46 ≤ c.toNat → c ≠ 32 ∧ c ≠ 10 := fun c hc => by
    constructor <;> (rintro rfl; revert hc; decide)
  rw [e]
  intro c hc
  rcases List.mem_append.1 hc with hc | hc
  · cases six with
    | true =>
      have hc : c ∈ 91 :: (fmtA true A ++ [93]) := hc
      simp only [List.mem_cons, List.mem_append, List.mem_singleton, List.not_mem_nil, or_false] at hc
      rcases hc with rfl | hc | rfl
      · decide
      · exact k c (by have := fmtA_mem hc; omega)
      · decide
    | false => exact k c (by have := fmtA_mem (six := false) (A := A) hc; omega)
  · rcases List.mem_cons.1 hc with rfl | hc
    · decide
    · exact k c (by have := dec_mem hc; omega)
theorem good_dgram {six : Bool} {A : List UInt8} {n : Nat} {l : List UInt8} (hA : A.length = 16) (ok : okA six A = true) (h1 : 1 ≤ n) (h2 : n ≤ 65535) : GoodN (evA { ev0 with kind := 2, six := six, ip := A, port := (n : Int), bytes := l }) wDatagram [fmtE six A n, hexW l] := by
  have hp := parseE_back hA ok h1 h2
  refine ⟨rfl, rfl, ?_, nosp_three (words_nosp (by decide)) (fmtE_nosp ok h1 h2) (hexW_nosp l), ?_, ?_, by decide, by simp⟩
  · rw [join3]; rfl
  · show dgW (fmtE six A n) (hexW l) = _
    rw [dgW, hp, unhexW_back]
  · show dgR (fmtE six A n) (hexW l) = _
    rw [dgR, hp, bytesR_back]
    simp only [beq_self_eq_true, Bool.and_self]
theorem norm_cases {b : Ac} (h : Norm b) : (∃ t, prS t = true ∧ b = evA { ev0 with kind := 5, text := t }) ∨ ∃ w ws, GoodN b w ws := by
  cases h with
  | plain l => exact .inr ⟨_, _, good_plain l⟩
  | dgram six A n l hA ok h1 h2 => exact .inr ⟨_, _, good_dgram hA ok h1 h2⟩
  | tick n h0 h1 => exact .inr ⟨_, _, good_tick h0 h1⟩
  | entropy l => exact .inr ⟨_, _, good_entropy l⟩
  | control t h => exact .inl ⟨t, h, rfl⟩
  | handoff lo hi k l0 l1 h0 h1 hk => exact .inr ⟨_, _, good_handoff l0 l1 h0 h1 hk⟩
  | pick w n w0 w1 h0 h1 => exact .inr ⟨_, _, good_pick w0 w1 h0 h1⟩
  | abort w w0 w1 => exact .inr ⟨_, _, good_abort w0 w1⟩
  | kill w w0 w1 => exact .inr ⟨_, _, good_kill w0 w1⟩
  | corrupt w n x w0 w1 h0 h1 => exact .inr ⟨_, _, good_corrupt w0 w1 h0 h1⟩
  | cut w n w0 w1 h0 h1 => exact .inr ⟨_, _, good_cut w0 w1 h0 h1⟩
theorem nc_words {w : List UInt8} (h : w ∈ [wPlain, wDatagram, wTick, wEntropy, wHandoff, wPick, wCut, wAbort, wKill, wCorrupt]) (r : List UInt8) : (w ++ 32 :: r).take 8 ≠ sCtl ∧ Go.Lib.hasPrefix (w ++ 32 :: r) sCtl = false ∧ w ≠ wControl ∧ w ≠ [] := by
  simp only [List.mem_cons, List.mem_nil_iff, or_false] at h
  rcases h with rfl | rfl | rfl | rfl | rfl | rfl | rfl | rfl | rfl | rfl
  all_goals
    refine ⟨fun e => ?_, rfl, by decide, by decide⟩
    have := congrArg (fun l => (l[0]?, l[1]?, l[2]?)) e
    revert this
    simp [wPlain, wDatagram, wTick, wEntropy, wHandoff, wPick, wCut, wAbort, wKill, wCorrupt, sCtl]
section
variable {b : Ac} {w : List UInt8} {ws : List (List UInt8)}
theorem GoodN.form (h : GoodN b w ws) : ∃ r, Go.Lib.join (w :: ws) [32] = w ++ 32 :: r := by
  obtain ⟨x, l, rfl⟩ := List.exists_cons_of_ne_nil h.ne
  exact ⟨_, by rw [Go.Lib.join_cons]; simp [Go.Lib.joinTail]; rfl⟩
theorem GoodN.line (h : GoodN b w ws) : lineS b = textR b ++ [10] := by
  have := nc_words h.nc []
  rw [lineS, h.name, if_neg this.2.2.1, if_neg this.2.2.2, h.words, h.text]
theorem GoodN.split (h : GoodN b w ws) : splitL 32 (textR b) = w :: ws := by
  rw [h.text]
  exact splitL_join 32 ws w fun y hy e => (h.nosp y hy 32 e).1 rfl
theorem GoodN.back (h : GoodN b w ws) : lineR (textR b) = (b, true) := by
  obtain ⟨r, hr⟩ := h.form
  rw [lineR, if_neg, h.split, h.rr]
  rw [h.text, hr]
  exact (nc_words h.nc r).1
end
end Go.Proofs.YtcbdghgogmcllaaGreatDoor
end
section
namespace Go.Proofs.YtcbdghgogmcllaaGreatDoor
open Go Go.Sy
theorem trim_end (x : List UInt8) : Go.Lib.trimSuffix (x ++ [10]) [10] = x := by
  have h : Go.Lib.hasSuffix (x ++ [10]) [10] = true := by
    rw [Go.Lib.hasSuffix, List.isSuffixOf_iff_suffix]
    exact List.suffix_append _ _
  rw [Go.Lib.trimSuffix, if_pos h]
  simp
theorem trim_pre (p x : List UInt8) : Go.Lib.trimPrefix (p ++ x) p = x := by
  have h : Go.Lib.hasPrefix (p ++ x) p = true := by
    rw [Go.Lib.hasPrefix, List.isPrefixOf_iff_prefix]
    exact List.prefix_append _ _
  rw [Go.Lib.trimPrefix, if_pos h]
  simp
theorem pre_app (p x : List UInt8) : Go.Lib.hasPrefix (p ++ x) p = true := by
  rw [Go.Lib.hasPrefix, List.isPrefixOf_iff_prefix]
  exact List.prefix_append _ _
theorem GoodN.wds {b : Ac} {w : List UInt8} {ws : List (List UInt8)} (h : GoodN b w ws) : wdsS (lineS b) = w :: ws := by rw [wdsS, h.line, trim_end, h.split]
theorem GoodN.parse {b : Ac} {w : List UInt8} {ws : List (List UInt8)} (h : GoodN b w ws) : parseS (lineS b) = (b, true) := by
  obtain ⟨r, hr⟩ := h.form
  have hp : Go.Lib.hasPrefix (lineS b) sCtl = false := by
    rw [h.line, h.text, hr, List.append_assoc, List.cons_append]
    exact (nc_words h.nc _).2.1
  rw [parseS, hp, h.wds, h.rd]
  simp
theorem ctl_line (t : List UInt8) : lineS (evA { ev0 with kind := 5, text := t }) = sCtl ++ (t ++ [10]) := by
  show wControl ++ [32] ++ t ++ [10] = _
  simp [wControl, sCtl]
theorem ctl_text (t : List UInt8) : textR (evA { ev0 with kind := 5, text := t }) = sCtl ++ t := by
  show wControl ++ [32] ++ t = _
  simp [wControl, sCtl]
theorem ctl_parse {t : List UInt8} (h : prS t = true) : parseS (lineS (evA { ev0 with kind := 5, text := t })) = (evA { ev0 with kind := 5, text := t }, true) := by
  have e : ctlT (lineS (evA { ev0 with kind := 5, text := t })) = t := by rw [ctlT, ctl_line, trim_pre, trim_end]
  have hp : Go.Lib.hasPrefix (lineS (evA { ev0 with kind := 5, text := t })) sCtl = true := by rw [ctl_line]; exact pre_app _ _
  have hw : ctlW (lineS (evA { ev0 with kind := 5, text := t })) = evA { ev0 with kind := 5, text := t } := by rw [ctlW, e]
  rw [parseS, if_pos hp, hw, e, h]
  simp
theorem ctl_back {t : List UInt8} (h : prS t = true) : lineR (textR (evA { ev0 with kind := 5, text := t })) = (evA { ev0 with kind := 5, text := t }, true) := by
  have e1 : (sCtl ++ t).take 8 = sCtl := List.take_left' rfl
  have e2 : (sCtl ++ t).drop 8 = t := List.drop_left' rfl
  rw [ctl_text, lineR, if_pos e1, e2, ctlR, if_pos h]
theorem norm_parse {b : Ac} (h : Norm b) : parseS (lineS b) = (b, true) := by
  rcases norm_cases h with ⟨t, ht, rfl⟩ | ⟨w, ws, hg⟩
  · exact ctl_parse ht
  · exact hg.parse
theorem norm_back {b : Ac} (h : Norm b) : lineR (textR b) = (b, true) := by
  rcases norm_cases h with ⟨t, ht, rfl⟩ | ⟨w, ws, hg⟩
  · exact ctl_back ht
  · exact hg.back
theorem norm_line {b : Ac} (h : Norm b) : lineS b = textR b ++ [10] := by
  rcases norm_cases h with ⟨t, ht, rfl⟩ | ⟨w, ws, hg⟩
  · rw [ctl_line, ctl_text, List.append_assoc]
  · exact hg.line
theorem fmtE_nosp2 (six : Bool) (A : List UInt8) (p : Nat) : NoSp (fmtE six A p) := by
  by_cases h : okA six A = true ∧ 1 ≤ p ∧ p ≤ 65535
  · exact fmtE_nosp h.1 h.2.1 h.2.2
  · have e : fmtE six A p = [] := by
      rw [fmtE, if_neg]
      rintro ⟨h1, h2, h3⟩
      exact h ⟨h1, by omega, by omega⟩
    rw [e]
    intro c hc
    cases hc
theorem parseE_nil : parseE [] = none := by decide +kernel
theorem fmtE_ok {six : Bool} {A : List UInt8} {p : Nat} (h : parseE (fmtE six A p) = some (six, A, p)) : A.length = 16 ∧ okA six A = true ∧ 1 ≤ p ∧ p ≤ 65535 := by
  refine ⟨parseE_ip h, ?_⟩
  by_cases hk : okA six A = true ∧ 1 ≤ p ∧ p ≤ 65535
  · exact hk
  · have e : fmtE six A p = [] := by
      rw [fmtE, if_neg]
      rintro ⟨h1, h2, h3⟩
      exact hk ⟨h1, by omega, by omega⟩
    rw [e, parseE_nil] at h
    cases h
end Go.Proofs.YtcbdghgogmcllaaGreatDoor
end
section
namespace Go.Proofs.YtcbdghgogmcllaaGreatDoor
open Go Go.Sy
theorem pair_eq {α β : Type} {a a' : α} {b b' : β} (h : (a, b) = (a', b')) : a = a' ∧ b = b' := by cases h; exact ⟨rfl, rfl⟩
theorem parse_norm {s : List UInt8} {b : Ac} (h : parseS s = (b, true)) : Norm b ∧ s = lineS b := by
  unfold parseS at h
  split at h
  · obtain ⟨h1, h2⟩ := pair_eq h
    rw [Bool.and_eq_true, beq_iff_eq] at h2
    subst h1
    exact ⟨.control _ h2.1, h2.2.symm⟩
  · obtain ⟨h1, h2⟩ := pair_eq h
    rw [Bool.and_eq_true, beq_iff_eq] at h2
    obtain ⟨h3, h4⟩ := h2
    have hr : readW (wdsS s) = (b, true) := Prod.ext h1 h3
    rw [h1] at h4
    refine ⟨?_, h4.symm⟩
    rw [← h4] at hr
    clear h h1 h3 h4
    unfold readW at hr
    split at hr
    · rename_i x0 x1 hw
      split at hr
      · obtain ⟨rfl, _⟩ := pair_eq hr; exact .plain _
      split at hr
      · obtain ⟨e1, e2⟩ := pair_eq hr
        have := numW_ok (s := x1) (n := (numW x1).1) (Prod.ext rfl e2)
        rw [← e1]; exact .tick _ this.1 this.2
      split at hr
      · obtain ⟨rfl, _⟩ := pair_eq hr; exact .entropy _
      split at hr
      · obtain ⟨e1, e2⟩ := pair_eq hr
        have := whoW_ok (s := x1) (n := (whoW x1).1) (Prod.ext rfl e2)
        rw [← e1]; exact .abort _ this.1 this.2
      split at hr
      · obtain ⟨e1, e2⟩ := pair_eq hr
        have := whoW_ok (s := x1) (n := (whoW x1).1) (Prod.ext rfl e2)
        rw [← e1]; exact .kill _ this.1 this.2
      · cases hr
    · rename_i x0 x1 x2 hw
      split at hr
      · rename_i hx
        subst hx
        unfold dgW at hr
        split at hr
        · rename_i six A n he
          obtain ⟨e1, _⟩ := pair_eq hr
          have hl : lineS b = Go.Lib.join (wDatagram :: [fmtE six A n, hexW (unhexW x2).1]) [32] ++ [10] := by rw [← e1]; rfl
          rw [hl, wdsS, trim_end, splitL_join 32 _ _ (fun y hy e => (nosp_three (words_nosp (by decide)) (fmtE_nosp2 six A n) (hexW_nosp _) y hy 32 e).1 rfl)] at hw
          injection hw with _ hw
          injection hw with hx1 _
          rw [← hx1] at he
          obtain ⟨k1, k2, k3, k4⟩ := fmtE_ok he
          rw [← e1]
          exact .dgram six A n _ k1 k2 k3 k4
        · cases hr
      split at hr
      · obtain ⟨e1, e2⟩ := pair_eq hr
        rw [Bool.and_eq_true] at e2
        have k1 := whoW_ok (s := x1) (n := (whoW x1).1) (Prod.ext rfl e2.1)
        have k2 := numW_ok (s := x2) (n := (numW x2).1) (Prod.ext rfl e2.2)
        rw [← e1]; exact .pick _ _ k1.1 k1.2 k2.1 k2.2
      split at hr
      · obtain ⟨e1, e2⟩ := pair_eq hr
        rw [Bool.and_eq_true] at e2
        have k1 := whoW_ok (s := x1) (n := (whoW x1).1) (Prod.ext rfl e2.1)
        have k2 := numW_ok (s := x2) (n := (numW x2).1) (Prod.ext rfl e2.2)
        rw [← e1]; exact .cut _ _ k1.1 k1.2 k2.1 k2.2
      · cases hr
    · rename_i x0 x1 x2 x3 hw
      split at hr
      · unfold handW at hr
        split at hr
        · split at hr
          · rename_i hh
            obtain ⟨e1, _⟩ := pair_eq hr
            have k1 := smallW_ok (s := x1) (n := (smallW x1).1) (Prod.ext rfl hh.1)
            have k2 := smallW_ok (s := x2) (n := (smallW x2).1) (Prod.ext rfl hh.2.1)
            rw [← e1]; exact .handoff _ _ _ k1.1 k1.2 k2.1 k2.2 hh.2.2
          · cases hr
        · cases hr
      split at hr
      · unfold corW at hr
        split at hr
        · split at hr
          · rename_i hh
            obtain ⟨e1, _⟩ := pair_eq hr
            have k1 := whoW_ok (s := x1) (n := (whoW x1).1) (Prod.ext rfl hh.1)
            have k2 := numW_ok (s := x2) (n := (numW x2).1) (Prod.ext rfl hh.2)
            rw [← e1]; exact .corrupt _ _ _ k1.1 k1.2 k2.1 k2.2
          · cases hr
        · cases hr
      · cases hr
    · cases hr
theorem join_splitL (c : UInt8) : ∀ s : List UInt8, Go.Lib.join (splitL c s) [c] = s
  | [] => rfl
  | d :: s => by
    have ih := join_splitL c s
    obtain ⟨x, xs, h⟩ := List.exists_cons_of_ne_nil (splitL_ne c s)
    by_cases hd : d = c
    · rw [splitL, if_pos hd, h]
      rw [h] at ih
      rw [Go.Lib.join_cons] at ih ⊢
      rw [hd]
      simp only [Go.Lib.joinTail, List.map_cons, List.flatten_cons] at ih ⊢
      simpa using ih
    · rw [splitL_cons h hd]
      rw [h] at ih
      rw [Go.Lib.join_cons] at ih ⊢
      rw [List.cons_append, ih]
theorem hexS_W {k : List UInt8} {x : List UInt8} (h : hexW k = x) (h0 : k ≠ []) : hexS k = x := by rw [← h, hexW, if_neg h0]
theorem who_dec {x1 : List UInt8} (hx : x1 = [48] ∨ x1 = [49]) : 0 ≤ (if x1 = [48] then (0 : Int) else 1) ∧ (if x1 = [48] then (0 : Int) else 1) ≤ 1 ∧ Go.Lib.itoa (if x1 = [48] then (0 : Int) else 1) = x1 := by
  rcases hx with rfl | rfl
  · exact ⟨by decide, by decide, by rw [if_pos rfl, itoa_nn (by decide)]; exact dec_small (by decide)⟩
  · exact ⟨by decide, by decide, by rw [if_neg (by decide), itoa_nn (by decide)]; exact dec_small (by decide)⟩
theorem words_norm {w : List (List UInt8)} {b : Ac} (h : wordsR w = (b, true)) : Norm b ∧ ∃ n ws, GoodN b n ws ∧ w = n :: ws := by
  unfold wordsR at h
  split at h
  · rename_i x0 x1 tl
    split at h
    · unfold evR at h
      split at h
      · split at h
        · rename_i hx; subst hx
          obtain ⟨e1, e2⟩ := pair_eq h
          have k := bytesR_ok (s := x1) (l := (bytesR x1).1) (Prod.ext rfl e2)
          rw [← e1]; exact ⟨.plain _, _, _, good_plain _, by rw [k]⟩
        split at h
        · rename_i hx; subst hx
          obtain ⟨e1, e2⟩ := pair_eq h
          have k := numR_eq (s := x1) (n := (numR x1).1) (Prod.ext rfl e2)
          rw [← e1]; exact ⟨.tick _ k.1 k.2.1, _, _, good_tick k.1 k.2.1, by rw [decM_itoa k.1, k.2.2]⟩
        split at h
        · rename_i hx; subst hx
          obtain ⟨e1, e2⟩ := pair_eq h
          have k := bytesR_ok (s := x1) (l := (bytesR x1).1) (Prod.ext rfl e2)
          rw [← e1]; exact ⟨.entropy _, _, _, good_entropy _, by rw [k]⟩
        · cases h
      · split at h
        · rename_i x2 hx; subst hx
          unfold dgR at h
          split at h
          · rename_i six A n he
            obtain ⟨e1, e2⟩ := pair_eq h
            rw [Bool.and_eq_true, beq_iff_eq] at e2
            have k := bytesR_ok (s := x2) (l := (bytesR x2).1) (Prod.ext rfl e2.1)
            rw [← e2.2] at he
            obtain ⟨k1, k2, k3, k4⟩ := fmtE_ok he
            rw [← e1]; exact ⟨.dgram six A n _ k1 k2 k3 k4, _, _, good_dgram k1 k2 k3 k4, by rw [k, e2.2]⟩
          · cases h
        · cases h
      · cases h
    split at h
    · rename_i hx; subst hx
      unfold handX at h
      split at h
      · rename_i x2 x3
        unfold handR at h
        split at h
        · rename_i hh
          obtain ⟨g1, g2, g3, g4, g5, g6⟩ := hh
          obtain ⟨e1, _⟩ := pair_eq h
          have k1 := numR_eq (s := x1) (n := (numR x1).1) (Prod.ext rfl g3)
          have k2 := numR_eq (s := x2) (n := (numR x2).1) (Prod.ext rfl g4)
          have k3 := bytesR_ok (s := x3) (l := (bytesR x3).1) (Prod.ext rfl g5)
          have d1 : (numR x1).1 ≤ 9 := by
            have := dec_one_len (n := (numR x1).1.toNat) (by rw [← decM_nn k1.1, k1.2.2]; exact g1)
            omega
          have d2 : (numR x2).1 ≤ 9 := by
            have := dec_one_len (n := (numR x2).1.toNat) (by rw [← decM_nn k2.1, k2.2.2]; exact g2)
            omega
          have k4 := hexS_W k3 (fun e => by rw [e] at g6; cases g6)
          rw [← e1]; exact ⟨.handoff _ _ _ k1.1 d1 k2.1 d2 g6, _, _, good_handoff k1.1 d1 k2.1 d2 g6, by rw [decM_itoa k1.1, decM_itoa k2.1, k1.2.2, k2.2.2, k4]⟩
        · cases h
      · cases h
    · unfold namedR at h
      split at h
      · rename_i hx
        obtain ⟨w0, w1, w2⟩ := who_dec hx
        split at h
        · split at h
          · rename_i hx; subst hx
            obtain ⟨e1, _⟩ := pair_eq h
            rw [← e1]; exact ⟨.abort _ w0 w1, _, _, good_abort w0 w1, by rw [w2]⟩
          split at h
          · rename_i hx; subst hx
            obtain ⟨e1, _⟩ := pair_eq h
            rw [← e1]; exact ⟨.kill _ w0 w1, _, _, good_kill w0 w1, by rw [w2]⟩
          · cases h
        · rename_i x2
          split at h
          · rename_i hx; subst hx
            obtain ⟨e1, e2⟩ := pair_eq h
            have k := numR_eq (s := x2) (n := (numR x2).1) (Prod.ext rfl e2)
            rw [← e1]; exact ⟨.pick _ _ w0 w1 k.1 k.2.1, _, _, good_pick w0 w1 k.1 k.2.1, by rw [w2, decM_itoa k.1, k.2.2]⟩
          split at h
          · rename_i hx; subst hx
            obtain ⟨e1, e2⟩ := pair_eq h
            have k := numR_eq (s := x2) (n := (numR x2).1) (Prod.ext rfl e2)
            rw [← e1]; exact ⟨.cut _ _ w0 w1 k.1 k.2.1, _, _, good_cut w0 w1 k.1 k.2.1, by rw [w2, decM_itoa k.1, k.2.2]⟩
          · cases h
        · rename_i x2 x3
          split at h
          · rename_i hh
            obtain ⟨hx, g1, g2⟩ := hh
            subst hx
            obtain ⟨e1, e2⟩ := pair_eq h
            have k := numR_eq (s := x2) (n := (numR x2).1) (Prod.ext rfl e2)
            have k3 := bytesR_ok (s := x3) (l := (bytesR x3).1) (Prod.ext rfl g1)
            obtain ⟨c, hc⟩ : ∃ c, (bytesR x3).1 = [c] := by
              match (bytesR x3).1, g2 with
              | [c], _ => exact ⟨c, rfl⟩
            rw [hc] at k3 e1
            have k4 := hexS_W k3 (by simp)
            rw [← e1]; exact ⟨.corrupt _ _ _ w0 w1 k.1 k.2.1, _, _, good_corrupt (x := c) w0 w1 k.1 k.2.1, by rw [w2, decM_itoa k.1, k.2.2, k4]⟩
          · cases h
        · cases h
      · cases h
  · cases h
theorem line_norm {s : List UInt8} {b : Ac} (h : lineR s = (b, true)) : Norm b ∧ s = textR b := by
  unfold lineR at h
  split at h
  · rename_i hp
    unfold ctlR at h
    split at h
    · rename_i hc
      obtain ⟨e1, _⟩ := pair_eq h
      rw [← e1]
      refine ⟨.control _ hc, ?_⟩
      rw [ctl_text, ← hp, List.take_append_drop]
    · cases h
  · obtain ⟨h1, n, ws, hg, hw⟩ := words_norm h
    refine ⟨h1, ?_⟩
    rw [hg.text, ← hw, join_splitL]
theorem good_norm {a : Ac} : goodA a = true ↔ Norm a := by
  constructor
  · intro h
    rw [goodA, Bool.and_eq_true, sameA_iff] at h
    have := (parse_norm (Prod.ext (x := parseS (lineS a)) rfl h.1 : parseS (lineS a) = ((parseS (lineS a)).1, true))).1
    rwa [h.2] at this
  · intro h
    rw [goodA, norm_parse h]
    simp only [Bool.true_and]
    exact sameA_iff.2 rfl
end Go.Proofs.YtcbdghgogmcllaaGreatDoor
end
section
namespace Go.Sy
theorem acall_let0 {P : Program} {f : FuncId} {args : List CV} {B : List Box} {Q' : CV → Prop} (hm : MLow B) (h : ACall P f args B fun c B1 => ∃ (G : List Box) (c' : CV), B1 = B ++ G ∧ fz true false (List.replicate B.length ⟨[], true⟩ ++ G) 6 c = some c' ∧ Q' c') :
    ACall P f args B fun c B' => Q' c ∧ B' = B := by
  refine acall_drop h fun c B1 ⟨G, c', hB, hz, hq⟩ => ⟨c', ?_, ?_, hq, ?_⟩
  · rw [hB]
    refine ⟨by simp, fun k box hk hb => ?_⟩
    rw [List.getElem?_append_left hk] at hb
    cases hmu : box.multi with
    | true => exact .inl (hm k box hb hmu)
    | false => exact .inr ⟨hb, rfl⟩
  · rw [hB]
    have : hide B.length (B ++ G) = List.replicate B.length ⟨[], true⟩ ++ G := by
      rw [hide, List.drop_left' rfl, Nat.min_eq_left (by simp)]
    rw [this]; exact hz
  · rw [hB, List.take_left' rfl]
end Go.Sy
namespace Go.Proofs.YtcbdghgogmcllaaGreatDoor
open Go Go.Sy
theorem kE_MB0 {α : Type} {x y : α} (h : Is x y := by first | ((try simp (disch := first | omega | (simp only [yZ, yB] <;> omega) | fail) [go_sem, yY, *, bx_get0, bx_get, bx_set0, bx_set, if_pos, if_neg, -List.map_take, -List.map_drop, -List.map_append, -List.map_reverse]); exact rfl) | fail) : Is x y := h
theorem kD_MB0 {p : Prop} (h : p := by (first | omega | assumption | exact rfl | ((simp (disch := first | omega | (simp only [yZ, yB] <;> omega) | fail) [go_sem, yY, *, bx_get0, bx_get, bx_set0, bx_set, -List.map_take, -List.map_drop, -List.map_append, -List.map_reverse]) <;> (first | done | omega | exact rfl)) | fail)) : p := h
theorem kE_MB1 {α : Type} {x y : α} (h : Is x y := by first | ((try simp (disch := first | omega | (simp only [yZ, yB] <;> omega) | fail) [go_sem, yY, *, addrC, if_pos, if_neg, -List.map_take, -List.map_drop, -List.map_append, -List.map_reverse]); exact rfl) | fail) : Is x y := h
theorem kD_MB1 {p : Prop} (h : p := by (first | omega | assumption | exact rfl | ((simp (disch := first | omega | (simp only [yZ, yB] <;> omega) | fail) [go_sem, yY, *, addrC, -List.map_take, -List.map_drop, -List.map_append, -List.map_reverse]) <;> (first | done | omega | exact rfl)) | fail)) : p := h
theorem wB_MB0 {p q : Prop} (k : q) (h : Hq q → p := by (intro k; (repeat' (first | (with_reducible first | apply jA | apply jB | apply jC | apply jD | apply jE | apply jF | apply jG | apply jH | apply jI | apply jJ | apply jK | apply jL | apply jM | apply jN | apply jO) | ((with_reducible first | apply jP | apply jQ); rfl) | ((first | ((with_reducible first | apply jR | apply jS | apply jT); rfl; rfl) | (with_reducible first | apply jU | apply jV | apply jW) | ((with_reducible first | apply jX | apply jY | apply jZ); rfl) | ((with_reducible first | apply kA | apply kB | apply kC); rfl)); all_goals (first | ((with_reducible show Is _ _); exact kE_MB0) | ((with_reducible refine fun (hc : (_ : Bool) = _) => ?_); (try simp only [xZ, xY, xP, reduceCtorEq] at hc); (try (have hx : True := hc; clear hx hc)); (try exact kX)) | ((with_reducible show ACall _ _ _ _ _); (first | ((with_reducible apply c0) <;> exact kD_MB0) | ((with_reducible apply c1) <;> exact kD_MB0) | ((with_reducible apply c2) <;> exact kD_MB0) | ((with_reducible apply c3) <;> exact kD_MB0) | ((with_reducible apply c4) <;> exact kD_MB0) | ((with_reducible apply c5) <;> exact kD_MB0) | ((with_reducible apply c6) <;> exact kD_MB0) | ((with_reducible apply c7) <;> exact kD_MB0))) | ((fail_if_success (with_reducible first | show Is _ _ | show ACall _ _ _ _ _)); (try ((with_reducible show _ ∨ _); exact kT))))) | (((with_reducible first | apply o_callQ | apply q_callQ); rfl); (iterate 2 exact kE_MB0); (first | ((with_reducible apply q0) <;> exact kD_MB0))))); exact hq k)) : p := h ⟨k⟩
theorem wB_MB1 {p q : Prop} (k : q) (h : Hq q → p := by (intro k; (repeat' (first | (with_reducible first | apply jA | apply jB | apply jC | apply jD | apply jE | apply jF | apply jG | apply jH | apply jI | apply jJ | apply jK | apply jL | apply jM | apply jN | apply jO) | ((with_reducible first | apply jP | apply jQ); rfl) | ((first | ((with_reducible first | apply jR | apply jS | apply jT); rfl; rfl) | (with_reducible first | apply jU | apply jV | apply jW) | ((with_reducible first | apply jX | apply jY | apply jZ); rfl) | ((with_reducible first | apply kA | apply kB | apply kC); rfl)); all_goals (first | ((with_reducible show Is _ _); exact kE_MB1) | ((with_reducible refine fun (hc : (_ : Bool) = _) => ?_); (try simp only [xZ, xY, xP, reduceCtorEq] at hc); (try (have hx : True := hc; clear hx hc)); (try exact kX)) | ((with_reducible show ACall _ _ _ _ _); (first | ((with_reducible apply c0) <;> exact kD_MB1) | ((with_reducible apply c1) <;> exact kD_MB1) | ((with_reducible apply c2) <;> exact kD_MB1) | ((with_reducible apply c3) <;> exact kD_MB1) | ((with_reducible apply c4) <;> exact kD_MB1) | ((with_reducible apply c5) <;> exact kD_MB1) | ((with_reducible apply c6) <;> exact kD_MB1) | ((with_reducible apply c7) <;> exact kD_MB1))) | ((fail_if_success (with_reducible first | show Is _ _ | show ACall _ _ _ _ _)); (try ((with_reducible show _ ∨ _); exact kT))))) | (((with_reducible first | apply o_callQ | apply q_callQ); rfl); (iterate 2 exact kE_MB1); (first | ((with_reducible apply q0) <;> exact kD_MB1))))); exact hq k)) : p := h ⟨k⟩
theorem w_MB00 {p q : Prop}  (k : q) (h : Hq q → p := by (intro  k; exact wB_MB0 (hq k))) : p := h  ⟨k⟩
theorem w_MB01q {A0 A1 p q : Prop} (c0 : A0) (q0 : A1) (k : q) (h : A0 → A1 → Hq q → p := by (intro c0 q0 k; exact wB_MB0 (hq k))) : p := h c0 q0 ⟨k⟩
theorem w_MB02 {A0 A1 p q : Prop} (c0 : A0) (c1 : A1) (k : q) (h : A0 → A1 → Hq q → p := by (intro c0 c1 k; exact wB_MB0 (hq k))) : p := h c0 c1 ⟨k⟩
theorem w_MB03 {A0 A1 A2 p q : Prop} (c0 : A0) (c1 : A1) (c2 : A2) (k : q) (h : A0 → A1 → A2 → Hq q → p := by (intro c0 c1 c2 k; exact wB_MB0 (hq k))) : p := h c0 c1 c2 ⟨k⟩
theorem w_MB05 {A0 A1 A2 A3 A4 p q : Prop} (c0 : A0) (c1 : A1) (c2 : A2) (c3 : A3) (c4 : A4) (k : q) (h : A0 → A1 → A2 → A3 → A4 → Hq q → p := by (intro c0 c1 c2 c3 c4 k; exact wB_MB0 (hq k))) : p := h c0 c1 c2 c3 c4 ⟨k⟩
theorem w_MB18 {A0 A1 A2 A3 A4 A5 A6 A7 p q : Prop} (c0 : A0) (c1 : A1) (c2 : A2) (c3 : A3) (c4 : A4) (c5 : A5) (c6 : A6) (c7 : A7) (k : q) (h : A0 → A1 → A2 → A3 → A4 → A5 → A6 → A7 → Hq q → p := by (intro c0 c1 c2 c3 c4 c5 c6 c7 k; exact wB_MB1 (hq k))) : p := h c0 c1 c2 c3 c4 c5 c6 c7 ⟨k⟩
structure DmP (D : List CV) (now : Int) : Prop where
  len : D.length = 148
  all : D.take 148 = D
  d107 : D.drop 107 = .int .i64 now :: D.drop 108
  d108 : D.drop 108 = .nilS :: D.drop 109
theorem sessions_at {B : List Box} {args D : List CV} {now : Int} (ha : Is args [.agg D]) (hD : DmP D now) (hm : MLow B) : ACall Tryz.prog 130 args B fun c B' => c = .lst 0 [] false ∧ B' = B := by
  obtain rfl := ha
  obtain ⟨d1, d2, d3, d4⟩ := hD
  refine acall_let0 (Q' := fun c => c = .lst 0 [] false) hm ?_
  refine acall_intro mixed Tryz.func130 rfl ca130 (by kernel_rfl) (by rw [Tryz.ntmps130]; simp) ?_
  refine w_MB00 ?_ 
  refine w_loop (fun fr B1 => fr 11 = .int .i64 0 ∧ fr 10 = .int .i64 0 ∧ fr 3 = .nilS ∧ B1 = B ++ [⟨D, false⟩]) (fun fr _ => 0) ?_ ?_
  · exact ⟨kS, kS, kS, rfl⟩
  rintro fr B1 ⟨f11, f10, f3, rfl⟩
  refine w_MB00 ?_ 
  exact ⟨_, _, rfl, rfl, rfl⟩
def atA (i : Nat) : List UInt8 := [192, 0, 2, UInt8.ofNat (i + 1)] ++ z12
theorem at_in (i : Nat) (hi : i < 100) : PC Tryz.prog true 131 [.int .i64 i] (.agg (.bool false :: ((atA i).map byteC ++ [.int .i64 (1000 + i)]))) := by
  have e : byteC (UInt8.ofNat (i + 1)) = .int .u8 (IntKind.u8.wrap (i + 1)) := by rw [byte_wrap]; push_cast; rfl
  have e2 : (IntKind.u8.wrap (i + 1)) = i + 1 := by rw [IntKind.wrap_u8]; omega
  rw [e2] at e
  refine acall_intro mixed Tryz.func131 rfl ca131 (by kernel_rfl) (by rw [Tryz.ntmps131]; simp) ?_
  refine w0 ?_ 
  simp only [atA, List.map_append, List.map_cons, e]
  rfl
theorem at_at {B : List Box} {args : List CV} {i : Nat} (h : Is args [.int .i64 i]) (hi : i < 100) : ACall Tryz.prog 131 args B fun c B' => c = .agg (.bool false :: ((atA i).map byteC ++ [.int .i64 (1000 + i)])) ∧ B' = B := by
  obtain rfl := h
  exact acall_fresh (nz := true) (by simp [go_sem]) (at_in i hi)
structure EvG (e : Ev) : Prop where
  bytes : e.bytes.length ≤ 200
  text : e.text.length ≤ 200
  ip : e.ip.length = 16
  norm : Norm (evA e) ∨ ∃ n : Int, -1000 ≤ n ∧ n < 0 ∧ e = { ev0 with kind := 3, time := n }
theorem evfz {W : List Box} {cs : List CV} {v : CV} {e : Ev} (hc : cs = .int .i64 e.kind :: .bool e.six :: (e.ip.map byteC ++ [.int .i64 e.port, v, .int .i64 e.time, .str e.text])) (hv : fz true false W 5 v = some (.lst e.bytes.length (e.bytes.map byteC) false)) : fz true false W 6 (.agg cs) = some (.agg (evC e)) := by
  rw [hc, fz_agg]
  simp [evC, omap_app, omap_two, omap_nil, omap_bytes, fz_int, fz_bool, fz_str, hv]
theorem viewfz {W : List Box} {b n : Nat} {f m : Bool} {bs : List UInt8} {cells : List CV} (hW : W[b]? = some ⟨cells, m⟩) (hc : cells.take n = bs.map byteC) (hn : n = bs.length) : fz true false W 5 (.view b 0 n 1 f) = some (.lst bs.length (bs.map byteC) false) := by
  rw [fz_view, hW]
  simp only [List.drop_zero, Nat.mul_one, hc, omap_bytes, Option.map_some, Bool.not_true, Bool.and_false]
  rw [hn]
theorem lstfz {W : List Box} {n : Nat} {bs : List UInt8} (hn : n = bs.length) : fz true false W 5 (.lst n (bs.map byteC) false) = some (.lst bs.length (bs.map byteC) false) := by
  subst hn
  simp [fz_lst, omap_bytes]
theorem plain_at {B : List Box} {β : Nat} {args : List CV} {l : List UInt8} {a : Nat} (ha : Is args [.ptr β 0]) (hB : B[β]? = some (cb l a)) (hm : MLow B) (hl : a ≤ l.length ∧ l.length < 1000000) : ACall Tryz.prog 98 args B fun c B' => ∃ a', a' ≤ l.length ∧ (∃ e, EvG e ∧ c = .agg (evC e)) ∧ B' = B.set β (cb l a') := by
  obtain rfl := ha
  obtain ⟨v1, a1, hv1, ha1, h1⟩ := nx_ex l 4 4 rfl hl.1 hl.2 (by omega)
  obtain ⟨v2, a2, hv2, ha2, h2⟩ := nx_ex l 256 256 rfl ha1 hl.2 (by omega)
  obtain ⟨v3, a3, hv3, ha3, h3⟩ := nx_ex l 60 60 rfl ha2 hl.2 (by omega)
  obtain ⟨v4, a4, hv4, ha4, h4⟩ := nx_ex l 256 256 rfl ha3 hl.2 (by omega)
  obtain ⟨v5, a5, hv5, ha5, h5⟩ := nx_ex l 10 10 rfl ha4 hl.2 (by omega)
  obtain ⟨v6, a6, hv6, ha6, h6⟩ := nx_ex l (20 + v3) (20 + v3) (by push_cast; rfl) ha5 hl.2 (by omega)
  obtain ⟨v7, a7, hv7, ha7, h7⟩ := nx_ex l 256 256 rfl ha5 hl.2 (by omega)
  have hh1 : ∀ {B : List Box} {args : List CV}, Is args [.int .i64 0, .int .i64 1] → ACall Tryz.prog 129 args B fun c B' => c = addrC false (hostV 0 1 ++ z12) ∧ B' = B := hostG_at
  have hh2 : ∀ {B : List Box} {args : List CV}, Is args [.int .i64 (1 + v1), .int .i64 v2] → ACall Tryz.prog 129 args B fun c B' => c = addrC false (hostV (1 + v1) v2 ++ z12) ∧ B' = B := hostG_at
  have hfill : byteC (UInt8.ofNat v4) = .int .u8 v4 := by rw [byte_wrap, IntKind.wrap_u8]; congr 1; omega
  have hpk : ∀ {B : List Box} {args : List CV}, Is (omap (fz true false B 6) args) (some [addrC false (hostV 0 1 ++ z12), addrC false (hostV (1 + v1) v2 ++ z12), .int .i64 v3, .int .u8 v4]) → ACall Tryz.prog 128 args B fun c B' => c = .view B.length 0 (20 + v3) 1 true ∧ B' = B ++ [⟨(pkt4 (hostV 0 1) (hostV (1 + v1) v2) v3 (UInt8.ofNat v4) v3).map byteC, false⟩] := fun hz => pk_own (fill := UInt8.ofNat v4) (by rw [hfill]; exact hz) rfl rfl rfl (by omega)
  have hpl := pkt4_len (hostV 0 1) (hostV (1 + v1) v2) v3 (UInt8.ofNat v4) v3 rfl rfl (Nat.le_refl _)
  have hl1 := hl.1
  have hl2 := hl.2
  generalize pkt4 (hostV 0 1) (hostV (1 + v1) v2) v3 (UInt8.ofNat v4) v3 = pk at *
  generalize hostV 0 1 ++ z12 = A0 at *
  generalize hostV (1 + v1) v2 ++ z12 = A1 at *
  clear hfill hl
  have xb := bx_pack hB
  refine drop_cb hm ?_
  refine acall_intro mixed Tryz.func98 rfl ca98 (by kernel_rfl) (by rw [Tryz.ntmps98]; simp) ?_
  have hev : ∀ bs : List UInt8, bs.length ≤ 200 → EvG { ev0 with kind := 1, bytes := bs } := fun bs h => ⟨h, Nat.zero_le _, rfl, .inl (.plain bs)⟩
  replace hev : Hid _ := hev
  replace hm : Hid _ := hm
  have hpm : (pk.map byteC).length = 20 + v3 := by rw [List.length_map, hpl]
  by_cases h51 : v5 = 1
  · subst h51
    repeat' (first | (with_reducible first | apply jA | apply jB | apply jC | apply jD | apply jE | apply jF | apply jG | apply jH | apply jI | apply jJ | apply jK | apply jL | apply jM | apply jN | apply jO) | ((with_reducible first | apply jP | apply jQ); rfl) | ((first | ((with_reducible first | apply jR | apply jS | apply jT); rfl; rfl) | (with_reducible first | apply jU | apply jV | apply jW) | ((with_reducible first | apply jX | apply jY | apply jZ); rfl) | ((with_reducible first | apply kA | apply kB | apply kC); rfl)); all_goals (first | ((with_reducible show Is _ _); exact kE_MB1) | ((with_reducible refine fun (hc : (_ : Bool) = _) => ?_); (try simp only [xZ, xY, xP, reduceCtorEq] at hc); (try (have hx : True := hc; clear hx hc)); (try exact kX)) | ((with_reducible show ACall _ _ _ _ _); (first | ((with_reducible apply h1) <;> exact kD_MB1) | ((with_reducible apply h2) <;> exact kD_MB1) | ((with_reducible apply h3) <;> exact kD_MB1) | ((with_reducible apply h4) <;> exact kD_MB1) | ((with_reducible apply h5) <;> exact kD_MB1) | ((with_reducible apply h6) <;> exact kD_MB1) | ((with_reducible apply hh1) <;> exact kD_MB1) | ((with_reducible apply hh2) <;> exact kD_MB1) | ((with_reducible apply hpk) <;> exact kD_MB1))) | ((fail_if_success (with_reducible first | show Is _ _ | show ACall _ _ _ _ _)); (try ((with_reducible show _ ∨ _); exact kT))))))
    have hev := (show ∀ bs : List UInt8, bs.length ≤ 200 → EvG { ev0 with kind := 1, bytes := bs } from hev)
    refine ⟨a6, _, .agg (evC { ev0 with kind := 1, bytes := pk.take v6 }), ha6, rfl, evfz rfl ?_, _, hev _ (by rw [List.length_take]; omega), rfl⟩
    exact viewfz (by rw [fzl_get]; rfl) (by rw [List.map_take]) (by rw [List.length_take]; omega)
  by_cases h52 : v5 = 2
  · subst h52
    repeat' (first | (with_reducible first | apply jA | apply jB | apply jC | apply jD | apply jE | apply jF | apply jG | apply jH | apply jI | apply jJ | apply jK | apply jL | apply jM | apply jN | apply jO) | ((with_reducible first | apply jP | apply jQ); rfl) | ((first | ((with_reducible first | apply jR | apply jS | apply jT); rfl; rfl) | (with_reducible first | apply jU | apply jV | apply jW) | ((with_reducible first | apply jX | apply jY | apply jZ); rfl) | ((with_reducible first | apply kA | apply kB | apply kC); rfl)); all_goals (first | ((with_reducible show Is _ _); exact kE_MB1) | ((with_reducible refine fun (hc : (_ : Bool) = _) => ?_); (try simp only [xZ, xY, xP, reduceCtorEq] at hc); (try (have hx : True := hc; clear hx hc)); (try exact kX)) | ((with_reducible show ACall _ _ _ _ _); (first | ((with_reducible apply h1) <;> exact kD_MB1) | ((with_reducible apply h2) <;> exact kD_MB1) | ((with_reducible apply h3) <;> exact kD_MB1) | ((with_reducible apply h4) <;> exact kD_MB1) | ((with_reducible apply h5) <;> exact kD_MB1) | ((with_reducible apply h7) <;> exact kD_MB1) | ((with_reducible apply hh1) <;> exact kD_MB1) | ((with_reducible apply hh2) <;> exact kD_MB1) | ((with_reducible apply hpk) <;> exact kD_MB1))) | ((fail_if_success (with_reducible first | show Is _ _ | show ACall _ _ _ _ _)); (try ((with_reducible show _ ∨ _); exact kT))))))
    have hev := (show ∀ bs : List UInt8, bs.length ≤ 200 → EvG { ev0 with kind := 1, bytes := bs } from hev)
    have hb7 : byteC (UInt8.ofNat v7) = .int .u8 v7 := by rw [byte_wrap, IntKind.wrap_u8]; congr 1; omega
    have hbl : (UInt8.ofNat v7 :: pk.tail).length = 20 + v3 := by rw [List.length_cons, List.length_tail]; omega
    refine ⟨a7, _, .agg (evC { ev0 with kind := 1, bytes := UInt8.ofNat v7 :: pk.tail }), ha7, rfl, evfz rfl ?_, _, hev _ (by omega), rfl⟩
    exact viewfz (by rw [fzl_get]; rfl) (by rw [List.map_cons, hb7, List.map_tail, List.take_of_length_le (by rw [List.length_cons, List.length_tail]; omega)]) hbl.symm
  · have e1 : ((v5 : Int) == 1) = false := by simpa using (by omega : (v5 : Int) ≠ 1)
    have e2 : ((v5 : Int) == 2) = false := by simpa using (by omega : (v5 : Int) ≠ 2)
    refine w_MB18 @h1 @h2 @h3 @h4 @h5 @hh1 @hh2 @hpk ?_ 
    have hev := (show ∀ bs : List UInt8, bs.length ≤ 200 → EvG { ev0 with kind := 1, bytes := bs } from hev)
    refine ⟨a5, _, .agg (evC { ev0 with kind := 1, bytes := pk }), ha5, rfl, evfz rfl ?_, _, hev _ (by omega), rfl⟩
    exact viewfz (by rw [fzl_get]; rfl) (List.take_of_length_le (by show (pk.map byteC).length ≤ _; omega)) hpl.symm
theorem datagram_at {B : List Box} {β : Nat} {args D : List CV} {now : Int} {l : List UInt8} {a : Nat} (ha : Is args [.ptr β 0, .agg D]) (hD : DmP D now) (hB : B[β]? = some (cb l a)) (hm : MLow B) (hl : a ≤ l.length ∧ l.length < 1000000) : ACall Tryz.prog 99 args B fun c B' => ∃ a', a' ≤ l.length ∧ (∃ e, EvG e ∧ c = .agg (evC e)) ∧ B' = B.set β (cb l a') := by
  obtain rfl := ha
  obtain ⟨v1, a1, hv1, ha1, h1⟩ := nx_ex l 4 4 rfl hl.1 hl.2 (by omega)
  obtain ⟨v2, a2, hv2, ha2, h2⟩ := nx_ex l 20 20 rfl ha1 hl.2 (by omega)
  obtain ⟨K, a3, hK, ha3, h3⟩ := by_ex l (32 + v2) (32 + v2) (by push_cast; rfl) ha2 hl.2 (by omega)
  have hs : ∀ {B : List Box} {args : List CV}, Is args [.agg D] → MLow B → ACall Tryz.prog 130 args B fun c B' => c = .lst 0 [] false ∧ B' = B := fun h hm => sessions_at h hD hm
  have hat : ∀ {B : List Box} {args : List CV}, Is args [.int .i64 v1] → ACall Tryz.prog 131 args B fun c B' => c = .agg (.bool false :: ((atA v1).map byteC ++ [.int .i64 (1000 + v1)])) ∧ B' = B := fun h => at_at h (by omega)
  have hm2 : ∀ (b c : Box), b.multi = false → c.multi = false → MLow (B ++ [b, c]) := fun b c hb hc => mlow_app hm (by simp [hb, hc])
  have hm3 : ∀ (n : Nat) (b c d : Box), b.multi = false → c.multi = false → d.multi = false → MLow (B.set β (cb l n) ++ [b, c, d]) := fun n b c d hb hc hd => mlow_app (mlow_set hm (by simp [cb])) (by simp [hb, hc, hd])
  have hev : Hid (∀ bs : List UInt8, bs.length ≤ 200 → EvG { ev0 with kind := 2, six := false, ip := atA v1, port := (1000 + v1 : Nat), bytes := bs }) := fun bs h => ⟨h, Nat.zero_le _, rfl, .inl (.dgram false (atA v1) (1000 + v1) bs rfl rfl (by omega) (by omega))⟩
  have hal : (atA v1).length = 16 := rfl
  obtain ⟨d1, d2, d3, d4⟩ := hD
  have hl1 := hl.1
  have hl2 := hl.2
  generalize atA v1 = A at *
  clear hl
  have xb := bx_pack hB
  refine drop_cb hm ?_
  refine acall_intro mixed Tryz.func99 rfl ca99 (by kernel_rfl) (by rw [Tryz.ntmps99]; simp) ?_
  replace hm : Hid _ := hm
  refine w_MB05 @h1 @h2 @h3 @hs @hat ?_ 
  have hev := (show ∀ bs : List UInt8, bs.length ≤ 200 → EvG { ev0 with kind := 2, six := false, ip := A, port := (1000 + v1 : Nat), bytes := bs } from hev)
  refine ⟨a3, _, .agg (evC { ev0 with kind := 2, six := false, ip := A, port := (1000 + v1 : Nat), bytes := K }), ha3, rfl, evfz ?_ (lstfz hK.symm), _, hev _ (by omega), rfl⟩
  simp [ev0]
theorem event_at {B : List Box} {β : Nat} {args D : List CV} {now : Int} {l : List UInt8} {a : Nat} (ha : Is args [.ptr β 0, .agg D]) (hD : DmP D now) (hn : 0 ≤ now ∧ now ≤ 1048576) (hB : B[β]? = some (cb l a)) (hm : MLow B) (hl : a ≤ l.length ∧ l.length < 1000000) : ACall Tryz.prog 57 args B fun c B' => ∃ a', a' ≤ l.length ∧ (∃ e, EvG e ∧ c = .agg (evC e)) ∧ B' = B.set β (cb l a') := by
  obtain rfl := ha
  obtain ⟨v1, a1, hv1, ha1, h1⟩ := nx_ex l 8 8 rfl hl.1 hl.2 (by omega)
  obtain ⟨d1, d2, d3, d4⟩ := id hD
  obtain ⟨hn1, hn2⟩ := hn
  have hl1 := hl.1
  have hl2 := hl.2
  have hB1 : (B.set β (cb l a1) ++ [(⟨D, false⟩ : Box), ⟨zE, false⟩])[β]? = some (cb l a1) := (bx_pack hB).2.2.2.1 _ _
  have hm1 : MLow (B.set β (cb l a1) ++ [(⟨D, false⟩ : Box), ⟨zE, false⟩]) := mlow_app (mlow_set hm (by simp [cb])) (by simp)
  have hpl : ∀ {args : List CV}, Is args [.ptr β 0] → ACall Tryz.prog 98 args (B.set β (cb l a1) ++ [(⟨D, false⟩ : Box), ⟨zE, false⟩]) fun c B' => ∃ a', a' ≤ l.length ∧ (∃ e, EvG e ∧ c = .agg (evC e)) ∧ B' = (B.set β (cb l a1) ++ [(⟨D, false⟩ : Box), ⟨zE, false⟩]).set β (cb l a') := fun h => plain_at h hB1 hm1 ⟨ha1, hl2⟩
  have hdg : ∀ {args : List CV}, Is args [.ptr β 0, .agg D] → ACall Tryz.prog 99 args (B.set β (cb l a1) ++ [(⟨D, false⟩ : Box), ⟨zE, false⟩]) fun c B' => ∃ a', a' ≤ l.length ∧ (∃ e, EvG e ∧ c = .agg (evC e)) ∧ B' = (B.set β (cb l a1) ++ [(⟨D, false⟩ : Box), ⟨zE, false⟩]).set β (cb l a') := fun h => datagram_at h hD hB1 hm1 ⟨ha1, hl2⟩
  have xb := bx_pack hB
  refine drop_cb hm ?_
  replace hm : Hid _ := hm
  replace hm1 : Hid _ := hm1
  replace hB1 : Hid _ := hB1
  clear hl
  rw [zE] at hpl hdg
  refine acall_intro mixed Tryz.func57 rfl ca57 (by kernel_rfl) (by rw [Tryz.ntmps57]; simp) ?_
  have hv : v1 = 0 ∨ v1 = 1 ∨ v1 = 2 ∨ v1 = 3 ∨ v1 = 4 ∨ v1 = 5 ∨ v1 = 6 ∨ v1 = 7 := by omega
  replace hD : Hid _ := hD
  clear hv1
  rcases hv with rfl | rfl | rfl | rfl | rfl | rfl | rfl | rfl
  ·
    clear hdg
    refine w_MB01q @h1 @hpl ?_ 
    rintro _ _ ⟨a', ha', ⟨e, he, rfl⟩, rfl⟩
    have hEl := evC_len he.ip
    have hEt : (evC e).take 22 = evC e := List.take_of_length_le (by omega)
    have hEo : ∀ W : List Box, fz true false W 6 (.agg (evC e)) = some (.agg (evC e)) := fun W => by rw [fz_agg, evC_om]; rfl
    replace hEo : Hid _ := hEo
    have hfin : Hid (∃ e', EvG e' ∧ CV.agg (evC e) = .agg (evC e')) := ⟨e, he, rfl⟩
    clear he
    generalize evC e = E at *
    refine w_MB00 ?_ 
    exact ⟨a', _, _, ha', rfl, (show ∀ W : List Box, fz true false W 6 (.agg E) = some (.agg E) from hEo) _, hfin⟩
  ·
    clear hdg
    refine w_MB01q @h1 @hpl ?_ 
    rintro _ _ ⟨a', ha', ⟨e, he, rfl⟩, rfl⟩
    have hEl := evC_len he.ip
    have hEt : (evC e).take 22 = evC e := List.take_of_length_le (by omega)
    have hEo : ∀ W : List Box, fz true false W 6 (.agg (evC e)) = some (.agg (evC e)) := fun W => by rw [fz_agg, evC_om]; rfl
    replace hEo : Hid _ := hEo
    have hfin : Hid (∃ e', EvG e' ∧ CV.agg (evC e) = .agg (evC e')) := ⟨e, he, rfl⟩
    clear he
    generalize evC e = E at *
    refine w_MB00 ?_ 
    exact ⟨a', _, _, ha', rfl, (show ∀ W : List Box, fz true false W 6 (.agg E) = some (.agg E) from hEo) _, hfin⟩
  ·
    clear hpl
    refine w_MB01q @h1 @hdg ?_ 
    rintro _ _ ⟨a', ha', ⟨e, he, rfl⟩, rfl⟩
    have hEl := evC_len he.ip
    have hEt : (evC e).take 22 = evC e := List.take_of_length_le (by omega)
    have hEo : ∀ W : List Box, fz true false W 6 (.agg (evC e)) = some (.agg (evC e)) := fun W => by rw [fz_agg, evC_om]; rfl
    replace hEo : Hid _ := hEo
    have hfin : Hid (∃ e', EvG e' ∧ CV.agg (evC e) = .agg (evC e')) := ⟨e, he, rfl⟩
    clear he
    generalize evC e = E at *
    refine w_MB00 ?_ 
    exact ⟨a', _, _, ha', rfl, (show ∀ W : List Box, fz true false W 6 (.agg E) = some (.agg E) from hEo) _, hfin⟩
  ·
    clear hpl
    refine w_MB01q @h1 @hdg ?_ 
    rintro _ _ ⟨a', ha', ⟨e, he, rfl⟩, rfl⟩
    have hEl := evC_len he.ip
    have hEt : (evC e).take 22 = evC e := List.take_of_length_le (by omega)
    have hEo : ∀ W : List Box, fz true false W 6 (.agg (evC e)) = some (.agg (evC e)) := fun W => by rw [fz_agg, evC_om]; rfl
    replace hEo : Hid _ := hEo
    have hfin : Hid (∃ e', EvG e' ∧ CV.agg (evC e) = .agg (evC e')) := ⟨e, he, rfl⟩
    clear he
    generalize evC e = E at *
    refine w_MB00 ?_ 
    exact ⟨a', _, _, ha', rfl, (show ∀ W : List Box, fz true false W 6 (.agg E) = some (.agg E) from hEo) _, hfin⟩
  ·
    clear hpl
    refine w_MB01q @h1 @hdg ?_ 
    rintro _ _ ⟨a', ha', ⟨e, he, rfl⟩, rfl⟩
    have hEl := evC_len he.ip
    have hEt : (evC e).take 22 = evC e := List.take_of_length_le (by omega)
    have hEo : ∀ W : List Box, fz true false W 6 (.agg (evC e)) = some (.agg (evC e)) := fun W => by rw [fz_agg, evC_om]; rfl
    replace hEo : Hid _ := hEo
    have hfin : Hid (∃ e', EvG e' ∧ CV.agg (evC e) = .agg (evC e')) := ⟨e, he, rfl⟩
    clear he
    generalize evC e = E at *
    refine w_MB00 ?_ 
    exact ⟨a', _, _, ha', rfl, (show ∀ W : List Box, fz true false W 6 (.agg E) = some (.agg E) from hEo) _, hfin⟩
  · clear hpl hdg
    obtain ⟨v2, a2, hv2, ha2, h2⟩ := nx_ex l 256 256 rfl ha1 hl2 (by omega)
    obtain ⟨v3, a3, hv3, ha3, h3⟩ := nx_ex l 2 2 rfl ha2 hl2 (by omega)
    repeat' (first | (with_reducible first | apply jA | apply jB | apply jC | apply jD | apply jE | apply jF | apply jG | apply jH | apply jI | apply jJ | apply jK | apply jL | apply jM | apply jN | apply jO) | ((with_reducible apply jP); rfl) | ((first | ((with_reducible first | apply jR | apply jS | apply jT); rfl; rfl) | (with_reducible first | apply jU | apply jV | apply jW) | ((with_reducible first | apply jX | apply jY | apply jZ); rfl) | ((with_reducible first | apply kA | apply kB | apply kC); rfl)); all_goals (first | ((with_reducible show Is _ _); exact kE_MB0) | ((with_reducible refine fun (hc : (_ : Bool) = _) => ?_); (try simp only [xZ, xY, xP, reduceCtorEq] at hc); (try (have hx : True := hc; clear hx hc)); (try exact kX)) | ((with_reducible show ACall _ _ _ _ _); (first | ((with_reducible apply h1) <;> exact kD_MB0) | ((with_reducible apply h2) <;> exact kD_MB0) | ((with_reducible apply h3) <;> exact kD_MB0))) | ((fail_if_success (with_reducible first | show Is _ _ | show ACall _ _ _ _ _)); (try ((with_reducible show _ ∨ _); exact kT))))))
    refine w_drawJ [1] [⟨[], false⟩] (fun B' => B'[B.length]? = some ⟨D, false⟩) rfl (by simp (disch := first | omega | (simp only [yZ, yB] <;> omega) | fail) [go_sem, yY, *, -List.map_take, -List.map_drop, -List.map_append, -List.map_reverse]; exact rfl) (by simp (disch := first | omega | (simp only [yZ, yB] <;> omega) | fail) [go_sem, yY, *, -List.map_take, -List.map_drop, -List.map_append, -List.map_reverse]) ?_
    repeat' (first | (with_reducible first | apply jA | apply jB | apply jC | apply jD | apply jE | apply jF | apply jG | apply jH | apply jI | apply jJ | apply jK | apply jL | apply jM | apply jN | apply jO) | ((with_reducible apply jP); rfl) | ((first | ((with_reducible first | apply d_made | apply q_made); rfl; rfl)); (iterate 6 exact kE_MB0)) | ((first | ((with_reducible first | apply d_fop | apply q_fop); rfl; rfl)); (intro Bx hJ; (first | (obtain ⟨_, hJ1, hJ2⟩ := hJ) | (try simp only at hJ)); exact kE_MB0)) | ((with_reducible first | apply d_free | apply q_free); rfl; (iterate 2 exact kE_MB0); (intro Bx hJ); (first | ((with_reducible apply h1) <;> exact kD_MB0) | ((with_reducible apply h2) <;> exact kD_MB0) | ((with_reducible apply h3) <;> exact kD_MB0))) | ((first | ((with_reducible first | apply jR | apply jS | apply jT); rfl; rfl) | (with_reducible first | apply jU | apply jV | apply jW) | ((with_reducible first | apply jX | apply jY | apply jZ); rfl) | ((with_reducible first | apply kA | apply kB | apply kC); rfl)); all_goals (first | ((with_reducible show Is _ _); exact kE_MB0) | ((with_reducible refine fun (hc : (_ : Bool) = _) => ?_); (try simp only [xZ, xY, xP, reduceCtorEq] at hc); (try (have hx : True := hc; clear hx hc)); (try exact kX)) | ((with_reducible show ACall _ _ _ _ _); (first | ((with_reducible apply h1) <;> exact kD_MB0) | ((with_reducible apply h2) <;> exact kD_MB0) | ((with_reducible apply h3) <;> exact kD_MB0))) | ((fail_if_success (with_reducible first | show Is _ _ | show ACall _ _ _ _ _)); (try ((with_reducible show _ ∨ _); first | exact .inl rfl | (refine .inr ⟨rfl, ?_, ?_⟩; (focus (repeat (first | exact trivial | refine ⟨.inl rfl, ?_⟩ | refine ⟨.inr rfl, ?_⟩ | refine ⟨.inr (by (simp (disch := first | omega | (simp only [yZ, yB] <;> omega) | fail) [go_sem, yY, *, bx_get0, bx_get, bx_set0, bx_set, -List.map_take, -List.map_drop, -List.map_append, -List.map_reverse])), ?_⟩))); (first | exact trivial | exact rfl | (refine ⟨_, ?_, ?_⟩; (focus (simp (disch := first | omega | (simp only [yZ, yB] <;> omega) | fail) [go_sem, yY, *, bx_get0, bx_get, bx_set0, bx_set, -List.map_take, -List.map_drop, -List.map_append, -List.map_reverse]; (try exact rfl))); (simp (disch := first | omega | (simp only [yZ, yB] <;> omega) | fail) [go_sem, yY, *, bx_get0, bx_get, bx_set0, bx_set, -List.map_take, -List.map_drop, -List.map_append, -List.map_reverse])) | (simp (disch := first | omega | (simp only [yZ, yB] <;> omega) | fail) [go_sem, yY, *, bx_get0, bx_get, bx_set0, bx_set, -List.map_take, -List.map_drop, -List.map_append, -List.map_reverse]))) | exact .inl (by (simp (disch := first | omega | (simp only [yZ, yB] <;> omega) | fail) [go_sem, yY, *, bx_get0, bx_get, bx_set0, bx_set, -List.map_take, -List.map_drop, -List.map_append, -List.map_reverse]))))))))
    refine ⟨a3, _, .agg (evC { ev0 with kind := 3, time := now + v2 * 10 - v3 * 300 }), ha3, rfl, evfz rfl rfl, _, ⟨Nat.zero_le _, Nat.zero_le _, rfl, ?_⟩, rfl⟩
    by_cases h0 : 0 ≤ now + v2 * 10 - v3 * 300
    · exact .inl (.tick _ h0 (by omega))
    · exact .inr ⟨_, by omega, by omega, rfl⟩
  · clear hpl hdg
    obtain ⟨v2, a2, hv2, ha2, h2⟩ := nx_ex l 40 40 rfl ha1 hl2 (by omega)
    obtain ⟨K, a3, hK, ha3, h3⟩ := by_ex l v2 v2 rfl ha2 hl2 (by omega)
    have hm3 : ∀ (n : Nat) (b c : Box), b.multi = false → c.multi = false → MLow (B.set β (cb l n) ++ [b, c]) := fun n b c hb hc => mlow_app (mlow_set (show MLow B from hm) (by simp [cb])) (by simp [hb, hc])
    refine w_MB03 @h1 @h2 @h3 ?_ 
    exact ⟨a3, _, .agg (evC { ev0 with kind := 4, bytes := K }), ha3, rfl, evfz rfl (lstfz hK.symm), _, ⟨by show K.length ≤ 200; omega, Nat.zero_le _, rfl, .inl (.entropy K)⟩, rfl⟩
  · clear hpl hdg
    obtain ⟨v2, a2, hv2, ha2, h2⟩ := nx_ex l 4 4 rfl ha1 hl2 (by omega)
    have hv : v2 = 0 ∨ v2 = 1 ∨ v2 = 2 ∨ v2 = 3 := by omega
    clear hv2
    rcases hv with rfl | rfl | rfl | rfl
    · refine w_MB02 @h1 @h2 ?_ 
      exact ⟨a2, _, .agg (evC { ev0 with kind := 5, text := [98, 97, 100] }), ha2, rfl, evfz rfl rfl, _, ⟨Nat.zero_le _, by decide, rfl, .inl (.control _ (by decide))⟩, rfl⟩
    · refine w_MB02 @h1 @h2 ?_ 
      exact ⟨a2, _, .agg (evC { ev0 with kind := 5, text := [100, 101, 110, 121, 32, 49, 48, 46, 49, 46, 48, 46, 48, 47, 49, 54] }), ha2, rfl, evfz rfl rfl, _, ⟨Nat.zero_le _, by decide, rfl, .inl (.control _ (by decide))⟩, rfl⟩
    · refine w_MB02 @h1 @h2 ?_ 
      exact ⟨a2, _, .agg (evC { ev0 with kind := 5, text := [103, 101, 116] }), ha2, rfl, evfz rfl rfl, _, ⟨Nat.zero_le _, by decide, rfl, .inl (.control _ (by decide))⟩, rfl⟩
    · refine w_MB02 @h1 @h2 ?_ 
      exact ⟨a2, _, .agg (evC { ev0 with kind := 5, text := [110, 111, 116, 104, 105, 110, 103] }), ha2, rfl, evfz rfl rfl, _, ⟨Nat.zero_le _, by decide, rfl, .inl (.control _ (by decide))⟩, rfl⟩
end Go.Proofs.YtcbdghgogmcllaaGreatDoor
end
