/-
  An iterator: code that calls yield.
-/
import Derived.Test.YtjlfblcoghiijaaSyX
namespace Go.Sy
set_option linter.all false
open Go.RowKit (Below)

/-- A call of yield. -/
def StepY (l : Nat) (Pre : List CV → List Box → Prop) (Y : List CV → List Box → List Box → Prop) (o : Oper) (fr : Fr) (B : List Box) (K : List Box → Prop) : Prop :=
  match o.op with
  | .call { callee := .value f, args, .. } => opv fr f = .fn (.yield l) [] [] ∧ Pre (args.toList.map (opv fr)) B ∧ ∀ B2, Y (args.toList.map (opv fr)) B B2 → K B2
  | _ => False

section
variable {P : Program} {n l : Nat} {Pre : List CV → List Box → Prop} {Y : List CV → List Box → List Box → Prop}

theorem stepY_sound {N : Nat} {I0 I : Nat → Nat → Prop} {μ0 μ : List (List Place)} {w0 w : World} {fr : Fr} {B : List Box} {a : Act} {o : Oper} {K : List Box → Prop} {K' : Act → World → Prop} {Q' : Exit → Act → World → Prop}
    (hy : YEnv P N I0 μ0 w0 l Pre Y) (hs : St N n I0 μ0 w0 fr B a I μ w) (h : StepY l Pre Y o fr B K)
    (hk : ∀ v B' I' μ' w', K B' → Step N I μ w (.bool true) v B' I' μ' w' → K' (a.put o.dst v) w') : o.wpIn (freeF none) 0 P a w K' Q' := by
  unfold StepY at h
  split at h
  · rename_i f args ts ho
    obtain ⟨h1, h2, h3⟩ := h
    have hf := opv_rel hs.frame f
    rw [h1] at hf
    obtain ⟨fs, cps, hv, g1, g2⟩ := hf.fn_inv
    rw [R.nil_iff] at g1 g2
    subst g1 g2
    have hargs := operands_rel hs.frame args.toList
    obtain ⟨fn, tmps, assign, body, hr, hR⟩ := hy I μ w _ B _ hs.ext hs.below hs.box hargs h2
    refine ⟨fun _ _ => trivial, ?_⟩
    rw [show (freeF none).round = none from rfl, Oper.semAt_none]
    have hrun : (execOp a.eval o).run P w = .ok (.round l fn tmps assign body) w := by
      have e2 : (args.map a.eval) = (args.toList.map a.eval).toArray := by apply Array.ext'; simp
      simp only [execOp, ho, resolve, hv, Deferred.ofValue, Sem.run_bind, Sem.run_pure, Result.andThen_ok, invoke, e2]
      simpa using hr
    rw [hrun]
    refine ⟨freeF_deep, RoundIn.mono hR fun e w' ⟨v, B'', I'', μ'', he, hY, hst⟩ => ?_⟩
    subst he
    exact hk _ _ _ _ _ (h3 _ hY) hst
  · cases h

/-- A region in which yield is called once. -/
def WPoY (P : Program) (n l : Nat) (Pre : List CV → List Box → Prop) (Y : List CV → List Box → List Box → Prop) (ops : Array Oper) (Q : Fr → List Box → Prop) (fr : Fr) (B : List Box) : Prop :=
  ∃ l1 o l2, ops.toList = l1 ++ o :: l2 ∧ l1.all noDefer = true ∧ l2.all noDefer = true ∧
    WPo P n ops (fun fr1 B1 => dstOk n o = true ∧ o.guard = none ∧ StepY l Pre Y o fr1 B1 fun B2 => WPo P n ops Q l2 (upd fr1 o.dst (.bool true)) B2) l1 fr B

def WPcY (P : Program) (n l : Nat) (Pre : List CV → List Box → Prop) (Y : List CV → List Box → List Box → Prop) : Code → (Exit → Fr → List Box → Prop) → Fr → List Box → Prop
  | .region id ops draw, Q, fr, B => (draw = false ∧ WPoY P n l Pre Y ops (fun fr B => Q .normal fr B) fr B) ∨ WPc P n (.region id ops draw) Q fr B
  | .seq a b, Q, fr, B => WPcY P n l Pre Y a (thenC (fun fr B => WPcY P n l Pre Y b Q fr B) Q) fr B
  | .cond c a b, Q, fr, B => match opv fr c with | .bool t => (t = true → WPcY P n l Pre Y a Q fr B) ∧ (t = false → WPcY P n l Pre Y b Q fr B) | _ => False
  | .block id c, Q, fr, B => WPcY P n l Pre Y c (inBlockC id Q) fr B
  | .loop c, Q, fr, B => ∃ (Inv : Fr → List Box → Prop) (m : Fr → List Box → Nat), Inv fr B ∧ ∀ fr B, Inv fr B → WPcY P n l Pre Y c (thenC (fun fr' B' => Inv fr' B' ∧ m fr' B' < m fr B) Q) fr B
  | c, Q, fr, B => WPc P n c Q fr B

theorem WPcY_sound (hm : P.follows .mixedOrders = true) {N : Nat} {I0 : Nat → Nat → Prop} {μ0 : List (List Place)} {w0 : World} (hy : YEnv P N I0 μ0 w0 l Pre Y) : ∀ (c : Code) (Q : Exit → Fr → List Box → Prop) (fr : Fr) (B : List Box), drawsOk c = true → WPcY P n l Pre Y c Q fr B →
    ∀ (I : Nat → Nat → Prop) (μ : List (List Place)) (w : World) (a : Act) (Q' : Exit → Act → World → Prop), St N n I0 μ0 w0 fr B a I μ w →
    (∀ ex fr' B' a' I' μ' w', Q ex fr' B' → St N n I0 μ0 w0 fr' B' a' I' μ' w' → Q' ex a' w') → c.wp P Q' a w
  | .skip, Q, fr, B, _, h => fun I μ w a Q' hs hq => wp_skip (hq _ _ _ _ _ _ _ h hs)
  | .region id ops draw, Q, fr, B, hd, h => fun I μ w a Q' hs hq => by
    rcases h with ⟨rfl, l1, o, l2, e, n1, n2, h⟩ | h
    · refine (wpIn_wide (n := 0)).1 (wpIn_region_list (F := freeF none) ?_)
      rw [e]
      refine WPo_in (o :: l2) l1 fr B n1 h I μ w a hs fun fr1 B1 a1 I1 μ1 w1 ⟨hdst, hg, hY⟩ hs1 => ?_
      unfold wpListIn
      rw [show Region.wanted o (yielded ops a1.tmps) = true by simp [Region.wanted, hg], if_pos rfl]
      refine stepY_sound hy hs1 hY fun v B' I' μ' w' hK hst => ?_
      have hs2 := hs1.put hst (d := o.dst) (fun t ht => by simpa [dstOk, ht] using hdst)
      have := WPo_in (r := none) (Q' := Q') [] l2 _ _ n2 hK I' μ' w' _ hs2 fun fr' B' a' I' μ' w' hQ hst => hq _ _ _ _ _ _ _ hQ hst
      rw [List.append_nil] at this
      exact this
    · exact WPc_sound hm _ Q fr B hd h N I0 μ0 w0 I μ w a Q' hs hq
  | .seq x y, Q, fr, B, hd, h => fun I μ w a Q' hs hq => by
    simp only [drawsOk, Bool.and_eq_true] at hd
    refine wp_seq (WPcY_sound hm hy x _ fr B hd.1 h I μ w a _ hs fun ex fr' B' a' I' μ' w' hQ hst => ?_)
    cases ex with
    | normal => exact WPcY_sound hm hy y Q fr' B' hd.2 hQ I' μ' w' a' Q' hst hq
    | _ => exact hq _ _ _ _ _ _ _ hQ hst
  | .cond c x y, Q, fr, B, hd, h => fun I μ w a Q' hs hq => by
    simp only [drawsOk, Bool.and_eq_true] at hd
    simp only [WPcY] at h
    split at h
    · rename_i t e1
      have hc := opv_rel hs.frame c
      rw [e1] at hc
      exact wp_cond_split hc.bool_inv (fun ht => WPcY_sound hm hy x Q fr B hd.1 (h.1 ht) I μ w a Q' hs hq) (fun ht => WPcY_sound hm hy y Q fr B hd.2 (h.2 ht) I μ w a Q' hs hq)
    · cases h
  | .block id c, Q, fr, B, hd, h => fun I μ w a Q' hs hq => by
    simp only [drawsOk] at hd
    refine wp_block (WPcY_sound hm hy c _ fr B hd h I μ w a _ hs fun ex fr' B' a' I' μ' w' hQ hst => ?_)
    cases ex with
    | exit i =>
      simp only [inBlockC] at hQ
      simp only [Exit.inBlock]
      split
      · rename_i hi; rw [if_pos hi] at hQ; exact hq _ _ _ _ _ _ _ hQ hst
      · rename_i hi; rw [if_neg hi] at hQ; exact hq _ _ _ _ _ _ _ hQ hst
    | _ => exact hq _ _ _ _ _ _ _ hQ hst
  | .loop c, Q, fr, B, hd, h => fun I μ w a Q' hs hq => by
    simp only [drawsOk] at hd
    simp only [WPcY] at h
    obtain ⟨Inv, m, hi, hround⟩ := h
    let X : Act → World → Nat → Prop := fun a w k => ∃ fr B I μ, Inv fr B ∧ St N n I0 μ0 w0 fr B a I μ w ∧ m fr B = k
    have least : ∀ a w, (∃ k, X a w k) → ∃ k, X a w k ∧ ∀ j, X a w j → k ≤ j := fun a w h => exists_least h
    have ⟨f, hf⟩ : ∃ f : Act → World → Nat, ∀ a w, (∃ k, X a w k) → X a w (f a w) ∧ ∀ j, X a w j → f a w ≤ j := by
      refine ⟨fun a w => Classical.epsilon fun k => X a w k ∧ ∀ j, X a w j → k ≤ j, fun a w h => ?_⟩
      exact Classical.epsilon_spec (least a w h)
    refine wp_loop (fun a w => ∃ k, X a w k) f ⟨_, fr, B, I, μ, hi, hs, rfl⟩ fun a w hX => ?_
    obtain ⟨⟨fr1, B1, I1, μ1, hi1, hs1, hm1⟩, hmin⟩ := hf a w hX
    refine WPcY_sound hm hy c _ fr1 B1 hd (hround fr1 B1 hi1) I1 μ1 w a _ hs1 fun ex fr' B' a' I' μ' w' hQ hst => ?_
    cases ex with
    | normal =>
      obtain ⟨h1, h2⟩ := hQ
      have hX' : ∃ k, X a' w' k := ⟨_, fr', B', I', μ', h1, hst, rfl⟩
      refine ⟨hX', ?_⟩
      have := (hf a' w' hX').2 (m fr' B') ⟨fr', B', I', μ', h1, hst, rfl⟩
      omega
    | _ => exact hq _ _ _ _ _ _ _ hQ hst
  | .exit id, Q, fr, B, _, h => fun I μ w a Q' hs hq => wp_exit (hq _ _ _ _ _ _ _ h hs)
  | .ret, Q, fr, B, _, h => fun I μ w a Q' hs hq => wp_ret (hq _ _ _ _ _ _ _ h hs)
  | .rangeFunc .., Q, fr, B, hd, h => fun I μ w a Q' hs hq => WPc_sound hm _ Q fr B hd h N I0 μ0 w0 I μ w a Q' hs hq
  | .scope _, _, _, _, _, h => h.elim
  | .label _, _, _, _, _, h => h.elim
  | .goto _, _, _, _, _, h => h.elim
  | .refuse _, _, _, _, _, h => h.elim

/-! The walk. -/
theorem wy_of : ∀ (c : Code) {Q : Exit → Fr → List Box → Prop} {fr : Fr} {B : List Box}, WPc P n c Q fr B → WPcY P n l Pre Y c Q fr B
  | .skip, _, _, _, h => h
  | .region .., _, _, _, h => .inr h
  | .seq a b, Q, fr, B, h => wy_of a (WPc_mono a (fun e fr' B' hh => by
      cases e with
      | normal => exact wy_of b hh
      | _ => exact hh) fr B h)
  | .cond c a b, Q, fr, B, h => by
    unfold WPc at h
    unfold WPcY
    split at h
    · rename_i t e; rw [e]; exact ⟨fun x => wy_of a (h.1 x), fun x => wy_of b (h.2 x)⟩
    · exact h.elim
  | .block id c, Q, fr, B, h => wy_of c h
  | .loop c, Q, fr, B, h => let ⟨Inv, m, h0, h1⟩ := h; ⟨Inv, m, h0, fun fr B hi => wy_of c (h1 fr B hi)⟩
  | .exit _, _, _, _, h => h
  | .ret, _, _, _, h => h
  | .rangeFunc .., _, _, _, h => h
  | .scope _, _, _, _, h => h
  | .label _, _, _, _, h => h
  | .goto _, _, _, _, h => h
  | .refuse _, _, _, _, h => h
theorem wy_seq {a b : Code} {Q : Exit → Fr → List Box → Prop} {fr : Fr} {B : List Box} (h : WPc P n a (thenC (fun fr B => WPcY P n l Pre Y b Q fr B) Q) fr B) : WPcY P n l Pre Y (.seq a b) Q fr B := wy_of a h
theorem wy_seq_y {a b : Code} {Q : Exit → Fr → List Box → Prop} {fr : Fr} {B : List Box} (h : WPcY P n l Pre Y a (thenC (fun fr B => WPcY P n l Pre Y b Q fr B) Q) fr B) : WPcY P n l Pre Y (.seq a b) Q fr B := h
theorem wy_block {id : Nat} {c : Code} {Q : Exit → Fr → List Box → Prop} {fr : Fr} {B : List Box} (h : WPcY P n l Pre Y c (inBlockC id Q) fr B) : WPcY P n l Pre Y (.block id c) Q fr B := h
theorem wy_loop {c : Code} {Q : Exit → Fr → List Box → Prop} {fr : Fr} {B : List Box} (Inv : Fr → List Box → Prop) (m : Fr → List Box → Nat) (h0 : Inv fr B) (h : ∀ fr B, Inv fr B → WPcY P n l Pre Y c (thenC (fun fr' B' => Inv fr' B' ∧ m fr' B' < m fr B) Q) fr B) : WPcY P n l Pre Y (.loop c) Q fr B := ⟨Inv, m, h0, h⟩
/-- A region with a call of yield behind the operations l1. -/
theorem wy_yield {id : Nat} {ops : List Oper} {Q : Exit → Fr → List Box → Prop} {fr : Fr} {B : List Box} (k : Nat) {o : Oper} (ho : ops[k]? = some o) (hd : ops.all noDefer = true) (hn : dstOk n o = true) (hg : o.guard = none)
    (h : WPo P n ops.toArray (fun fr1 B1 => StepY l Pre Y o fr1 B1 fun B2 => WPo P n ops.toArray (fun fr B => Q .normal fr B) (ops.drop (k + 1)) (upd fr1 o.dst (.bool true)) B2) (ops.take k) fr B) : WPcY P n l Pre Y (.region id ops.toArray false) Q fr B := by
  have hlt := (List.getElem?_eq_some_iff.1 ho).1
  have he : ops = ops.take k ++ o :: ops.drop (k + 1) := by
    rw [← (List.getElem?_eq_some_iff.1 ho).2, ← List.drop_eq_getElem_cons hlt, List.take_append_drop]
  refine .inl ⟨rfl, ops.take k, o, ops.drop (k + 1), by simpa using he, ?_, ?_, WPo_mono (fun fr1 B1 hh => ⟨hn, hg, hh⟩) _ _ _ h⟩
  · exact List.all_eq_true.2 fun x hx => List.all_eq_true.1 hd x (List.mem_of_mem_take hx)
  · exact List.all_eq_true.2 fun x hx => List.all_eq_true.1 hd x (List.mem_of_mem_drop hx)
theorem wy_step {f : Operand} {args : Array Operand} {ts : Array TypeId} {dst : Option Tmp} {ty : TypeId} {pos : String} {after : Array Edge} {gd : Option (Nat × Bool)} {fr : Fr} {B : List Box} {K : List Box → Prop} {xs : List CV}
    (hf : opv fr f = .fn (.yield l) [] []) (hx : args.toList.map (opv fr) = xs) (hp : Pre xs B) (hk : ∀ B2, Y xs B B2 → K B2) : StepY l Pre Y { dst, op := .call { callee := .value f, args, argTypes := ts }, type := ty, pos, after, guard := gd } fr B K := by
  subst hx; exact ⟨hf, hp, hk⟩

/-- AN ITERATOR'S BODY GIVES ITS CALL. -/
theorem itcall_intro {f : FuncId} {fn : Func} {c : Code} {args : List CV} {B : List Box} {Q : CV → List Box → Prop} (hm : P.follows .mixedOrders = true) (hf : P.funcs[f]? = some fn) (hb : fn.body = some c) (hc : callable P f = true) (hd : drawsOk c = true)
    (hn : args.length ≤ fn.ntmps) (h : WPcY P fn.ntmps l Pre Y c (retC P fn.results.toList Q) (frOf args) B) : ItCall P l Pre Y f args B Q :=
  ⟨hc, fun N I μ w vs hB hy hv => call_intro hf hb hB hv hn fun a Q' hst hq => WPcY_sound hm hy c _ _ B hd h I μ w a Q' hst hq⟩
end
end Go.Sy
