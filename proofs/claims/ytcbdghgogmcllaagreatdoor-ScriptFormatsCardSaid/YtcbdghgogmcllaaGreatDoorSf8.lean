/- Lemmas and definitions of this claim (own texts, joined by a program; what the claim does not use is left out). -/
import Derived.Test.YtcbdghgogmcllaaGreatDoorSf7
import Derived.Lib.ItoaLen
set_option linter.all false
set_option maxRecDepth 100000
set_option maxHeartbeats 4000000
section
namespace Go.Sy
open Go.RowKit (Below)
section
variable {P : Program} {N n : Nat} {I0 I : Nat → Nat → Prop} {μ0 μ : List (List Place)} {B : List Box} {w0 w : World} {o : Oper} {a : Act} {fr : Fr} {ops : Array Oper}
theorem V.bview_inv {b n : Nat} {ty : TypeId} {v : Value} (h : V I μ w (.bview b n ty) v) : ∃ ps p cap, v = .slice (some ⟨p.b, 0, none⟩) n cap ∧ μ[b]? = some ps ∧ p ∈ ps ∧ p.lo = 0 ∧ p.o = 0 ∧ n ≤ p.k ∧ n ≤ cap ∧ cap ≠ 0 ∧ Free w p.b cap ∧ PlainT w p.b ty := by
  cases h with | bview _ _ _ ps p cap hb hp hlo ho hk hn hc hr hpl _ => exact ⟨ps, p, cap, rfl, hb, hp, hlo, ho, hk, hn, hc, hr, hpl⟩
theorem V.bview_view {b n : Nat} {ty : TypeId} {v : Value} (h : V I μ w (.bview b n ty) v) : V I μ w (.view b 0 n 1 false) v := by
  obtain ⟨ps, p, cap, rfl, hb, hp, hlo, ho, hk, hn, hc, hr, hpl⟩ := h.bview_inv
  have := R.view (I := I) (one := false) b 0 n 1 false ps p cap hb hp (by omega) (by omega) hn (by simp) (by rw [ho, hlo]; simpa using hr) (.nil _)
  rw [ho] at this
  simpa using this
def BldIn (B : List Box) (e : TypeId) (S l : List UInt8) (γ : Nat) (c : CV) (B' : List Box) : Prop :=
  (c = .nilS ∧ l = [] ∧ γ = B.length ∧ B' = B ++ [{ cells := S.map byteC }]) ∨ ∃ m, c = .bview γ l.length e ∧ B[γ]? = some ⟨l.map byteC, m⟩ ∧ B' = B.set γ { cells := (l ++ S).map byteC, multi := true }
theorem bld_append {js : Tmp} {x : Operand} {t tx e : TypeId} {l S : List UInt8} {γ : Nat} {c : CV} {B' : List Box} {i : TypeInfo} {z : Value} (ho : o.op = .call { callee := .builtin .append, args := #[.tmp js, x], argTypes := #[t, tx] }) (hB : BRel N I μ B w) (hs : V I μ w c (a.eval (.tmp js))) (hx : a.eval x = .string ⟨S.toArray⟩)
    (ht : P.underlying t = some (.slice e)) (htx : P.underlying tx = some .string) (hi : P.info? e = some i) (hi1 : i.size = 1) (hib : i.bytes = 1) (hiz : i.zero = some z) (hz1 : z.cells.size = 1) (hS : S ≠ []) (hl : l.length + S.length ≤ 140737488355328) (hc : BldIn B e S l γ c B') :
    ∃ v I' μ' w', (execOp a.eval o).run P w = .ok (.value v) w' ∧ Step N I μ w (.bview γ (l.length + S.length) e) v B' I' μ' w' := by
  have hS0 : S.length ≠ 0 := by simpa using hS
  have hxv : V I μ w (.str S) (a.eval x) := by rw [hx]; exact .str S (.nil _)
  obtain ⟨vs, hvs, src0⟩ := src_rel (esz := 1) (tx := tx) hB (.inr htx) hxv rfl (fun _ => htx)
  have src : ASrc P t tx o.type e i (a.eval x) S.length vs w := ASrc.of ht hi (by rw [hi1]; exact src0)
  have hby : P.bytesOf e = 1 := by simp [Program.bytesOf, hi, hib]
  have hvl := hvs.len
  have hrl : l.length + S.length ≤ 140737488355328 ∧ (l.length + S.length) * 1 ≤ 140737488355328 := ⟨hl, by omega⟩
  have fin : ∀ (nx : Next) (v : Value) (I' : Nat → Nat → Prop) (μ' : List (List Place)) (w' W : World) (g cap : Nat), (execOp a.eval o).run P w = .ok nx w' → nxv nx = some v → Step N I μ w (.view γ 0 (l.length + S.length) 1 false) v B' I' μ' w' →
      (execOp a.eval o).run P w = .ok (.value (.slice (some ⟨g, 0, none⟩) (l.length + S.length) cap)) W → PlainT W g e → ∃ v I' μ' w', (execOp a.eval o).run P w = .ok (.value v) w' ∧ Step N I μ w (.bview γ (l.length + S.length) e) v B' I' μ' w' := by
    intro nx v I' μ' w' W g cap h1 h2 h3 h4 h5
    rw [h1] at h4
    cases h4
    cases h2
    refine ⟨_, I', μ', _, h1, ⟨?_, h3.box, h3.ext, h3.below⟩⟩
    rcases h3.val.view_inv with ⟨ps, p, cap', k1, k2, k3, k4, k5, k6, -, k8⟩ | ⟨A, -, k, -⟩
    · injection k1 with e1 e2 e3
      injection e1 with e1
      injection e1 with e1 e4
      subst e1 e3
      have hlo : p.lo = 0 := by omega
      have := R.bview (I := I') (one := false) γ (l.length + S.length) e ps p cap k2 k3 hlo (by omega) (by omega) k6 (by omega) (k8.less (by omega)) h5 (.nil _)
      exact this
    · omega
  rcases hc with ⟨rfl, rfl, rfl, rfl⟩ | ⟨m, rfl, hbx, rfl⟩
  · simp only [List.length_nil, Nat.zero_add] at hl hrl fin ⊢
    have happ : appendM P e i.size B .nilS S.length (S.map byteC) = some (.view B.length 0 S.length 1 false, B ++ [{ cells := S.map byteC }]) := by
      unfold appendM
      rw [if_neg hS0]
      simp only
      rw [if_pos ⟨by rw [hby]; omega, by omega⟩, hi1]
    obtain ⟨nx, v, I', μ', w', h1, h2, h3⟩ := fits_appendM (fr := fun _ => .nilS) ho hB (by exact hs) hi hiz (by omega) (by omega) hvs src (by exact happ)
    have he := hs.nilS_inv
    have hrun := src.grow (by omega) z hiz none 0 0 [] (by simp [Builtin.firstCells]) (by omega) (by rw [hib]; omega) (by omega)
    rw [Nat.zero_add] at hrun
    exact fin nx v I' μ' w' _ w.heap.size _ h1 h2 h3 (run_call_append ho he hrun) ⟨_, push_new (alloc_heap w.drew _)⟩
  · have happ : appendM P e i.size B (.view γ 0 l.length 1 false) S.length (S.map byteC) = some (.view γ 0 (l.length + S.length) 1 false, B.set γ { cells := (l ++ S).map byteC, multi := true }) := by
      unfold appendM
      rw [if_neg hS0]
      simp only [hbx]
      rw [if_pos ⟨hi1.symm, by rw [hby]; omega, by omega⟩, if_neg (by simp), if_pos (by rw [hi1]; simp), hi1, List.map_append]
    obtain ⟨nx, v, I', μ', w', h1, h2, h3⟩ := fits_appendM (fr := fun _ => .view γ 0 l.length 1 false) ho hB (by exact hs.bview_view) hi hiz (by omega) (by omega) hvs src (by exact happ)
    obtain ⟨ps, p, cap, he, k1, k2, k3, k4, k5, k6, k7, k8, k9⟩ := hs.bview_inv
    by_cases hroom : l.length + S.length ≤ cap
    · have hrun := src.room (by omega) p.b 0 l.length cap hroom (by rw [hib]; omega) (by omega) (fun j hj => (k8.cell (by rw [hi1]; simp at hvl; omega)).1) (fun j hj => (k8.cell (by rw [hi1]; simp at hvl; omega)).2)
      exact fin nx v I' μ' w' _ p.b _ h1 h2 h3 (run_call_append ho he hrun) (setCells_plain _ _ _ _ k9)
    · obtain ⟨_, us, g1, g2, g3, _⟩ := view_cells hB hbx k1 k2 (off := 0) (n := l.length) (sz := 1) (by omega) (by omega) (s := 0) (e := l.length) (Nat.le_refl _) (by omega)
      have hrun := src.grow (by omega) z hiz (some ⟨p.b, 0, none⟩) l.length cap us (run_firstCells' (w := w.drew) (P := P) (by rw [g2, hi1]; omega) (.inr ⟨p.b, 0, rfl, fun j u hj => by
        have := g3 j u hj
        rw [k3, k4] at this
        simpa using this⟩)) (by omega) (by rw [hib]; omega) (by omega)
      exact fin nx v I' μ' w' _ w.heap.size _ h1 h2 h3 (run_call_append ho he hrun) ⟨_, push_new (alloc_heap w.drew _)⟩
theorem AWc_seq {x y : Code} {Q : Exit → Fr → List Box → Prop} (h : AWc P n x (thenC (fun fr B => AWc P n y Q fr B) Q) fr B) : AWc P n (.seq x y) Q fr B := fun N I0 μ0 w0 I μ w a Q' hs hq =>
  wp_seq (h N I0 μ0 w0 I μ w a _ hs fun ex fr1 B1 a1 I1 μ1 w1 hQ1 hs1 => by
    cases ex with
    | normal => exact hQ1 N I0 μ0 w0 I1 μ1 w1 a1 _ hs1 hq
    | _ => exact hq _ _ _ _ _ _ _ hQ1 hs1)
theorem AWc.mono {c : Code} {Q Q2 : Exit → Fr → List Box → Prop} (h : AWc P n c Q fr B) (hk : ∀ e fr B, Q e fr B → Q2 e fr B) : AWc P n c Q2 fr B := fun N I0 μ0 w0 I μ w a Q' hs hq => h N I0 μ0 w0 I μ w a Q' hs fun ex fr' B' a' I' μ' w' hQ hst => hq _ _ _ _ _ _ _ (hk _ _ _ hQ) hst
theorem acall_AWc {f : FuncId} {fn : Func} {c : Code} {args : List CV} {B : List Box} {Q : CV → List Box → Prop} (hm : Fit P) (hf : P.funcs[f]? = some fn) (hb : fn.body = some c) (hc : callable P f = true) (hn : args.length ≤ fn.ntmps)
    (h : AWc P fn.ntmps c (retC P fn.results.toList Q) (frOf args) B) : ACall P f args B Q :=
  ⟨hc, fun N I μ w vs hB hv => call_intro hm.quiet hf hb hB hv hn fun a Q' hst hq => h N I μ w I μ w a Q' hst hq⟩
theorem AWc_w {x y : Code} {Q : Exit → Fr → List Box → Prop} (hm : Fit P) (hd : drawsOk x = true) (J : Fr → List Box → Prop) (h : WPc P n x (thenC J Q) fr B) (k : ∀ fr B, J fr B → AWc P n y Q fr B) : AWc P n (.seq x y) Q fr B :=
  AWc_seq ((WPc_sound hm.mixed x _ fr B hd h).mono fun e fr1 B1 hh => by
    cases e with
    | normal => exact k _ _ hh
    | _ => exact hh)
def BldOk (P : Program) (n : Nat) (o : Oper) (fr : Fr) (B : List Box) (K : Fr → List Box → Prop) : Prop :=
  ∃ (js jx : Tmp) (t tx e : TypeId) (i : TypeInfo) (z : Value) (l S : List UInt8) (γ : Nat) (B' : List Box), o.op = .call { callee := .builtin .append, args := #[.tmp js, .tmp jx], argTypes := #[t, tx] } ∧ o.guard = none ∧ dstOk n o = true ∧ P.underlying t = some (.slice e) ∧ P.underlying tx = some .string ∧ P.info? e = some i ∧ i.size = 1 ∧ i.bytes = 1 ∧ i.zero = some z ∧ z.cells.size = 1 ∧
    S ≠ [] ∧ l.length + S.length ≤ 140737488355328 ∧ fr jx = .str S ∧ BldIn B e S l γ (fr js) B' ∧ K (upd fr o.dst (.bview γ (l.length + S.length) e)) B'
theorem AWc_bld {id : Nat} {l1 l2 : List Oper} {o : Oper} {Q : Exit → Fr → List Box → Prop} {ops : List Oper} (he : ops = l1 ++ o :: l2) (n1 : l1.all noDefer = true) (n2 : l2.all noDefer = true)
    (h : WPo P n ops.toArray (fun fr1 B1 => BldOk P n o fr1 B1 fun fr2 B2 => WPo P n ops.toArray (fun fr B => Q .normal fr B) l2 fr2 B2) l1 fr B) : AWc P n (.region id ops.toArray false) Q fr B := by
  intro N I0 μ0 w0 I μ w a Q' hs hq
  refine (wpIn_wide (n := 0)).1 (wpIn_region_list (F := freeF none) ?_)
  rw [show ops.toArray.toList = l1 ++ o :: l2 by simpa using he]
  refine WPo_in (o :: l2) l1 fr B n1 h I μ w a hs fun fr1 B1 a1 I1 μ1 w1 hp hs1 => ?_
  obtain ⟨js, jx, t, tx, e, i, z, l, S, γ, B', ho, hg, hd, ht, htx, hi, hi1, hib, hiz, hz1, hS, hl, hfx, hc, hK⟩ := hp
  have hd' : ∀ t, o.dst = some t → t < n := fun t ht => by simpa [dstOk, ht] using hd
  have hx := hs1.frame jx
  rw [hfx] at hx
  obtain ⟨v, I2, μ2, w2, hrun, hst⟩ := bld_append ho hs1.box (hs1.frame js) hx.str_inv ht htx hi hi1 hib hiz hz1 hS hl hc
  unfold wpListIn
  rw [show Region.wanted o (yielded ops.toArray a1.tmps) = true by unfold Region.wanted; rw [hg], if_pos rfl]
  refine wp_free (by simp [noDefer, ho]) ?_
  unfold Oper.wp
  rw [hrun, Oper.upon_value]
  have := WPo_in (r := none) (Q' := Q') [] l2 _ _ n2 hK I2 μ2 w2 _ (hs1.put hst hd') fun fr' B' a' I' μ' w' hQ hst => hq _ _ _ _ _ _ _ hQ hst
  rw [List.append_nil] at this
  exact this
def AWz (P : Program) (n : Nat) (c : Code) (Q : Exit → Fr → List Box → Prop) (fr : Fr) (B : List Box) : Prop :=
  ∀ (N : Nat) (I0 : Nat → Nat → Prop) (w0 : World) (I : Nat → Nat → Prop) (μ : List (List Place)) (w : World) (a : Act) (Q' : Exit → Act → World → Prop), BRel N I0 [] [] w0 → St N n I0 [] w0 fr B a I μ w →
    (∀ ex fr' B' a' I' μ' w', Q ex fr' B' → St N n I0 [] w0 fr' B' a' I' μ' w' → Q' ex a' w') → c.wp P Q' a w
theorem AWz.of {c : Code} {Q : Exit → Fr → List Box → Prop} (h : AWc P n c Q fr B) : AWz P n c Q fr B := fun N I0 w0 I μ w a Q' _ hs hq => h N I0 [] w0 I μ w a Q' hs hq
theorem AWz_seq {x y : Code} {Q : Exit → Fr → List Box → Prop} (h : AWz P n x (thenC (fun fr B => AWz P n y Q fr B) Q) fr B) : AWz P n (.seq x y) Q fr B := fun N I0 w0 I μ w a Q' h0 hs hq =>
  wp_seq (h N I0 w0 I μ w a _ h0 hs fun ex fr1 B1 a1 I1 μ1 w1 hQ1 hs1 => by
    cases ex with
    | normal => exact hQ1 N I0 w0 I1 μ1 w1 a1 _ h0 hs1 hq
    | _ => exact hq _ _ _ _ _ _ _ hQ1 hs1)
theorem acall_AWz {f : FuncId} {fn : Func} {c : Code} {args : List CV} {Q : CV → List Box → Prop} (hm : Fit P) (hf : P.funcs[f]? = some fn) (hb : fn.body = some c) (hc : callable P f = true) (hn : args.length ≤ fn.ntmps)
    (h : AWz P fn.ntmps c (retC P fn.results.toList Q) (frOf args) []) : ACall P f args [] Q :=
  ⟨hc, fun N I μ w vs hB hv => call_intro hm.quiet hf hb hB hv hn fun a Q' hst hq => by
    obtain rfl : μ = [] := List.eq_nil_of_length_eq_zero hB.len
    exact h N I w I [] w a Q' hB hst hq⟩
theorem AWz_w {x y : Code} {Q : Exit → Fr → List Box → Prop} (hm : Fit P) (hd : drawsOk x = true) (J : Fr → List Box → Prop) (h : WPc P n x (thenC J Q) fr B) (k : ∀ fr B, J fr B → AWz P n y Q fr B) : AWz P n (.seq x y) Q fr B :=
  AWz_seq (AWz.of ((WPc_sound hm.mixed x _ fr B hd h).mono fun e fr1 B1 hh => by
    cases e with
    | normal => exact k _ _ hh
    | _ => exact hh))
end
end Go.Sy
end
section
namespace Go.Sy
open Go.RowKit (Below)
section
variable {P : Program} {N n : Nat} {I0 I I' : Nat → Nat → Prop} {μ0 μ μ' : List (List Place)} {B : List Box} {w0 w w' : World} {o : Oper} {a : Act} {fr : Fr} {ops : Array Oper}
structure MapSet (r : Nat) (w w' : World) : Prop where
  size : w'.heap.size = w.heap.size
  was : ∃ es c, w.heap[r]? = some (.map es c)
  now : ∃ es c, w'.heap[r]? = some (.map es c)
  else_ : ∀ b, b ≠ r → w'.heap[b]? = w.heap[b]?
  os : w'.os = w.os
  tape : w'.tape = w.tape
  output : w'.output = w.output
theorem MapSet.cell {r : Nat} (h : MapSet r w w') (A : Addr) : w'.cell? A = w.cell? A := by
  unfold World.cell?
  by_cases e : A.block = r
  · obtain ⟨es, c, h1⟩ := h.was
    obtain ⟨es', c', h2⟩ := h.now
    rw [e, h1, h2]
  · rw [h.else_ _ e]
theorem MapSet.free {r b k : Nat} (h : MapSet r w w') (hf : Free w b k) : Free w' b k := by
  obtain ⟨cs, t, fz, h1, h2⟩ := hf
  refine ⟨cs, t, fz, ?_, h2⟩
  rw [h.else_ b fun e => by obtain ⟨es, c, h3⟩ := h.was; subst e; rw [h3] at h1; cases h1]
  exact h1
theorem MapSet.plain {r b : Nat} {ty : TypeId} {k : Nat} (h : MapSet r w w') (hf : Whole w b ty k) : Whole w' b ty k := by
  obtain ⟨cs, h1, h2⟩ := hf
  refine ⟨cs, ?_, h2⟩
  rw [h.else_ b fun e => by obtain ⟨es, c, h3⟩ := h.was; subst e; rw [h3] at h1; cases h1]
  exact h1
theorem MapSet.keep {r : Nat} (h : MapSet r w w') (hr : ¬ I r 0) : Keep I μ w I μ w' :=
  ⟨fun _ _ h => h, fun _ _ _ => h.cell _, fun _ _ hf => h.free hf, fun _ hf => h.plain hf, fun _ ps h => ⟨ps, h, fun _ h => h⟩, fun k es c hi hx => by rw [h.else_ k fun e => hr (e ▸ hi)]; exact hx⟩
theorem MapSet.box {r : Nat} (t : MapSet r w w') (hr : ¬ I r 0) (h : BRel N I μ B w) : BRel N I μ B w' := by
  have e := t.keep (I := I) (μ := μ) hr
  refine ⟨h.len, by rw [t.size]; exact h.low, fun b j hj => by rw [t.size]; exact h.imm b j hj, fun β ps p h1 h2 => ?_, h.disj, fun β box h1 h2 => ?_, fun β box ps p h1 h2 h3 h4 => ?_, h.tabs.keep e⟩
  · obtain ⟨a1, a3, a4⟩ := h.places β ps p h1 h2
    exact ⟨a1, a3, t.free a4⟩
  · rcases h.one β box h1 h2 with a0 | ⟨p, a1, a2, a3, ⟨vs, a4, a5⟩, a6⟩
    · exact .inl a0
    exact .inr ⟨p, a1, a2, a3, ⟨vs, a4.ext e, fun j v hj => (t.cell _).trans (a5 j v hj)⟩, a6⟩
  · obtain ⟨a1, ⟨vs, a2, a3⟩, a4⟩ := h.many β box ps p h1 h2 h3 h4
    exact ⟨a1, ⟨vs, a2.ext e, fun j v hj => ⟨(t.cell _).trans (a3 j v hj).1, (a3 j v hj).2⟩⟩, a4⟩
theorem MapSet.st {r : Nat} (t : MapSet r w w') (hr : ¬ I r 0) (hr0 : w0.heap.size ≤ r) (hN : N ≤ r) (h : St N n I0 μ0 w0 fr B a I μ w) : St N n I0 μ0 w0 fr B a I μ w' := by
  have k := t.keep (I := I) (μ := μ) hr
  refine ⟨h.size, ?_, fun i => (h.frame i).ext k, t.box hr h.box, ?_, ?_⟩
  · obtain ⟨L, h1, h2, h3, h4⟩ := h.defers
    refine ⟨L, h1, h2, fun D hD => ⟨?_, (h3 D hD).2⟩, h4⟩
    rw [t.else_ D fun e => by
      obtain ⟨es, c, hw⟩ := t.was
      have := (h3 D hD).1
      rw [e, hw] at this; cases this]
    exact (h3 D hD).1
  · refine ⟨h.ext.toKeep.trans k, by rw [t.size]; exact h.ext.size, h.ext.more, h.ext.news, h.ext.immN, h.ext.gone, fun b ob hb hc => ?_⟩
    have := (Array.getElem?_eq_some_iff.1 hb).1
    rw [t.else_ b (by omega)]
    exact h.ext.oth b ob hb hc
  · exact ⟨t.os.trans h.below.os, t.tape.trans h.below.tape, t.output.trans h.below.output, by rw [t.size]; exact h.below.size, fun k hk => by rw [t.else_ k (by omega)]; exact h.below.block k hk⟩
theorem map_place {r : Nat} {es : Array MapEntry} {c : Nat} (hB : BRel N I μ B w) (hr : w.heap[r]? = some (.map es c)) {β : Nat} {ps : List Place} {p : Place} (h1 : μ[β]? = some ps) (h2 : p ∈ ps) : p.b ≠ r := fun e => by
  obtain ⟨cs, t, fz, h3, _⟩ := (hB.places β ps p h1 h2).2.2
  rw [e, hr] at h3; cases h3
theorem map_freeze {r : Nat} {es : Array MapEntry} {c : Nat} (h : St N n I0 μ0 w0 fr B a I μ w) (hr : w.heap[r]? = some (.map es c)) (hr0 : w0.heap.size ≤ r) {t : Tmp} (ht : a.tmps.getD t undef = .map (some r)) {ks vs : List CV}
    (hk : R I μ w false ks (es.toList.map (·.key))) (hv : R I μ w false vs (es.toList.map (·.val))) : St N n I0 μ0 w0 (upd fr (some t) (.imap ks vs)) B a (fun b j => I b j ∨ b = r) μ w := by
  have hlt := (Array.getElem?_eq_some_iff.1 hr).1
  have k : Keep I μ w (fun b j => I b j ∨ b = r) μ w := ⟨fun _ _ h => .inl h, fun _ _ _ => rfl, fun _ _ h => h, fun _ h => h, fun _ ps h => ⟨ps, h, fun _ h => h⟩, fun _ _ _ _ h => h⟩
  refine ⟨h.size, h.defers, fun i => ?_, ⟨h.box.len, h.box.low, fun b j hj => ?_, h.box.places, h.box.disj, fun β box h1 h2 => ?_, fun β box ps p h1 h2 h3 h4 => ?_, h.box.tabs.keep k⟩, ⟨h.ext.toKeep.trans k, h.ext.size, h.ext.more, h.ext.news, fun b j hj => ?_, h.ext.gone, h.ext.oth⟩, h.below⟩
  · unfold upd
    by_cases e : i = t
    · subst e
      rw [ht]
      simp only [if_pos]
      exact .imap r es c (hk.ext k) (hv.ext k) hr (.inr rfl) (.nil _)
    · simp only [if_neg e]
      exact (h.frame i).ext k
  · rcases hj with hj | rfl
    · exact h.box.imm b j hj
    · exact hlt
  · rcases h.box.one β box h1 h2 with a0 | ⟨p, a1, a2, a3, ⟨vs, a4, a5⟩, a6⟩
    · exact .inl a0
    · exact .inr ⟨p, a1, a2, a3, ⟨vs, a4.ext k, a5⟩, fun j hj => by
        rcases hj with hj | hj
        · exact a6 j hj
        · exact map_place h.box hr a1 (by simp) hj⟩
  · obtain ⟨a1, ⟨vs, a2, a3⟩, a4⟩ := h.box.many β box ps p h1 h2 h3 h4
    exact ⟨a1, ⟨vs, a2.ext k, fun j v hj => ⟨(a3 j v hj).1, .inl (a3 j v hj).2⟩⟩, fun hk j hj hi => by
      rcases hi with hi | hi
      · exact a4 hk j hj hi
      · exact map_place h.box hr h3 h4 hi⟩
  · rcases hj with hj | rfl
    · exact h.ext.immN b j hj
    · exact .inr (.inl hr0)
def WPm (P : Program) (n : Nat) (mt : TypeId) (t : Tmp) (r : Nat) (K : List CV → List CV → Fr → List Box → Prop) : List Oper → List CV → List CV → Fr → List Box → Prop
  | [], ks, vs, fr, B => K ks vs fr B
  | o :: l, ks, vs, fr, B => o.guard = none ∧ match o.op with
    | .insert mt' m k v => mt' = mt ∧ o.dst = none ∧ opv fr m = .raw (.map (some r)) ∧ (∃ kt e d, P.underlying mt = some (.map kt e) ∧ P.underlying kt = some d ∧ findC d (opv fr k) ks vs = some none ∧ sameC d (opv fr k) (opv fr k) = some true) ∧
        WPm P n mt t r K l (ks ++ [opv fr k]) (vs ++ [opv fr v]) fr B
    | _ => dstOk n o = true ∧ o.dst ≠ some t ∧ StepC P o fr B fun c B' => WPm P n mt t r K l ks vs (upd fr o.dst c) B'
theorem raw_inv {u v : Value} (h : V I μ w (.raw u) v) : v = u := by cases h; rfl
theorem sameC_run {d : TypeDesc} {c k : CV} {b : Bool} (h : sameC d c k = some b) {kt : TypeId} (hd : P.underlying kt = some d) {v : Value} (hv : V I μ w c v) (em : Bool) : (Instr.checkKey em 10000 kt v).run P w = .ok () w := by
  rcases sameC_key h with ⟨k0, k1, m, rfl, rfl⟩ | ⟨rfl, l, rfl⟩
  · rw [hv.int_inv]; exact check_int hd _ 9999 _ _
  · rw [hv.str_inv]; exact check_str hd _ 9999 _
theorem WPm_sound {mt : TypeId} {t : Tmp} {r : Nat} {K : List CV → List CV → Fr → List Box → Prop} {Q' : Exit → Act → World → Prop} {rest : List Oper} (hr0 : w0.heap.size ≤ r) (hN : N ≤ r) 
    (hK : ∀ ks vs fr B a I μ w es c, K ks vs fr B → St N n I0 μ0 w0 fr B a I μ w → w.heap[r]? = some (.map es c) → a.tmps.getD t undef = .map (some r) → R I μ w false ks (es.toList.map (·.key)) → R I μ w false vs (es.toList.map (·.val)) → wpList P ops Q' rest a w) :
    ∀ (l : List Oper) (ks vs : List CV) (fr : Fr) (B : List Box) (a : Act) (I : Nat → Nat → Prop) (μ : List (List Place)) (w : World) (es : Array MapEntry) (c : Nat), WPm P n mt t r K l ks vs fr B → St N n I0 μ0 w0 fr B a I μ w → w.heap[r]? = some (.map es c) → ¬ I r 0 →
      a.tmps.getD t undef = .map (some r) → R I μ w false ks (es.toList.map (·.key)) → R I μ w false vs (es.toList.map (·.val)) → wpList P ops Q' (l ++ rest) a w
  | [], ks, vs, fr, B, a, I, μ, w, es, c, h, hs, hr, hI, ht, hk, hv => hK ks vs fr B a I μ w es c h hs hr ht hk hv
  | o :: l, ks, vs, fr, B, a, I, μ, w, es, c, h, hs, hr, hI, ht, hk, hv => by
    unfold WPm at h
    obtain ⟨hg, h⟩ := h
    show wpList P ops Q' (o :: (l ++ rest)) a w
    unfold wpList
    rw [show Region.wanted o (yielded ops a.tmps) = true by unfold Region.wanted; rw [hg], if_pos rfl]
    left
    split at h
    · rename_i mt' m k v ho
      obtain ⟨rfl, hd, hm, ⟨kt, e, d, hu, hd', hf, hsk⟩, h⟩ := h
      have h1 := opv_rel hs.frame m
      rw [hm] at h1
      have hmv := raw_inv h1
      have h2 := opv_rel hs.frame k
      have h3 := opv_rel hs.frame v
      obtain ⟨q, q1, q2⟩ := find_rel h2 ks vs es.toList 0 _ hk hv hf
      cases q with
      | some q => exact q2.elim
      | none =>
        have hlt := (Array.getElem?_eq_some_iff.1 hr).1
        have hrun : (execOp a.eval o).run P w = .ok .skip { w with heap := w.heap.setIfInBounds r (.map (es.push { key := a.eval k, val := a.eval v, born := c }) (c + 1)) } := by
          simp [execOp, ho, Instr.mapUpdate, hmv, run_underlying hu, run_getObj' hr, sameC_run hsk hd' h2, Instr.findKey, run_underlying hd', q1, setObj, Sem.run, hr]
        unfold Oper.wp
        rw [hrun, Oper.upon_skip]
        generalize hw' : ({ w with heap := w.heap.setIfInBounds r (.map (es.push { key := a.eval k, val := a.eval v, born := c }) (c + 1)) } : World) = w'
        have hnow : w'.heap[r]? = some (.map (es.push { key := a.eval k, val := a.eval v, born := c }) (c + 1)) := by rw [← hw']; simp [hlt]
        have t1 : MapSet r w w' := ⟨by rw [← hw']; simp, ⟨es, c, hr⟩, ⟨_, _, hnow⟩, fun b hb => by rw [← hw']; simp [Array.getElem?_setIfInBounds, Ne.symm hb], by rw [← hw'], by rw [← hw'], by rw [← hw']⟩
        have kk := t1.keep (I := I) (μ := μ) hI
        have := WPm_sound hr0 hN hK l _ _ fr B a I μ w' _ _ h (t1.st hI hr0 hN hs) hnow hI ht (by simpa using (hk.ext kk).append (R.cons (h2.ext kk) (by simp) (.nil _))) (by simpa using (hv.ext kk).append (R.cons (h3.ext kk) (by simp) (.nil _)))
        simpa [hd, Act.put] using this
    · rename_i hno
      obtain ⟨hd, hdt, h⟩ := h
      have hd' : ∀ t, o.dst = some t → t < n := fun t ht => by simpa [dstOk, ht] using hd
      refine step_sound hs h fun c' v B' I' μ' w' hKK hst => ?_
      have hr' := hst.ext.oth r _ hr rfl
      refine WPm_sound hr0 hN hK l ks vs _ B' _ I' μ' w' es c hKK (hs.put hst hd') hr' (fun hi => ?_) ?_ (hk.ext hst.ext.toKeep) (hv.ext hst.ext.toKeep)
      · rcases hst.ext.immN r 0 hi with h1 | h1 | ⟨β, ps, p, h1, h2, h3⟩
        · exact hI h1
        · have := (Array.getElem?_eq_some_iff.1 hr).1; omega
        · exact map_place hs.box hr h1 h2 h3
      · rw [put_getD a o.dst v (fun t ht => by rw [hs.size]; exact hd' t ht), if_neg hdt]
        exact ht
theorem AWc_map {id : Nat} {l1 l2 : List Oper} {mt ty : TypeId} {t : Tmp} {pos : String} {after : Array Edge} {Q : Exit → Fr → List Box → Prop} {ops : List Oper} (he : ops = ⟨some t, .makeMap mt none, ty, pos, after, none⟩ :: (l1 ++ l2)) (ht : decide (t < n) = true)
    (h : ∀ r, WPm P n mt t r (fun ks vs fr1 B1 => WPo P n ops.toArray (fun fr B => Q .normal fr B) l2 (upd fr1 (some t) (.imap ks vs)) B1) l1 [] [] (upd fr (some t) (.raw (.map (some r)))) B) : AWc P n (.region id ops.toArray false) Q fr B := by
  intro N I0 μ0 w0 I μ w a Q' hs hq
  have ht' : t < n := by simpa using ht
  refine wp_region_list ?_
  rw [show ops.toArray.toList = ⟨some t, .makeMap mt none, ty, pos, after, none⟩ :: (l1 ++ l2) by simpa using he]
  unfold wpList
  rw [show Region.wanted (⟨some t, .makeMap mt none, ty, pos, after, none⟩ : Oper) (yielded ops.toArray a.tmps) = true from rfl, if_pos rfl]
  left
  have hrun : (execOp a.eval ⟨some t, .makeMap mt none, ty, pos, after, none⟩).run P w = .ok (.value (.map (some w.heap.size))) (w.alloc (.map #[] 0)) := by
    simp [execOp, Instr.makeMap]
  unfold Oper.wp
  rw [hrun, Oper.upon_value]
  have hp : (w.alloc (.map #[] 0)).heap = w.heap.push (.map #[] 0) := rfl
  have hsame : ∀ b, b < w.heap.size → (w.alloc (.map #[] 0)).heap[b]? = w.heap[b]? := fun b hb => push_old hp hb
  have hsz : w.heap.size ≤ (w.alloc (.map #[] 0)).heap.size := by rw [hp]; simp
  have hst : Step N I μ w (.raw (.map (some w.heap.size))) (.map (some w.heap.size)) B I μ (w.alloc (.map #[] 0)) :=
    ⟨.raw _ (by simp) (.nil _), hs.box.keep hsz hsame, hs.box.ext_same hsz hsame, Below.of_heap hs.box.low hp rfl rfl rfl⟩
  have hs1 := hs.put hst (d := some t) (fun t' e => by cases e; exact ht')
  have hnew : (w.alloc (.map #[] 0)).heap[w.heap.size]? = some (.map #[] 0) := push_new hp
  have hN : N ≤ w.heap.size := hs.box.low
  have h0 : w0.heap.size ≤ w.heap.size := hs.ext.size
  refine WPm_sound (r := w.heap.size) h0 hN (fun ks vs fr B a I μ w1 es c hK hs2 hr hat hk hv => ?_) l1 [] [] _ _ _ I μ _ #[] 0 (h w.heap.size) hs1 hnew (fun hi => by have := hs.box.imm _ _ hi; omega) ?_ (.nil _) (.nil _)
  · exact WPo_sound l2 _ _ hK N I0 μ0 w0 _ _ _ _ Q' (map_freeze hs2 hr h0 hat hk hv) fun fr' B' a' I' μ' w' hQ hst => hq _ _ _ _ _ _ _ hQ hst
  · rw [put_getD a (some t) _ (fun t' e => by cases e; rw [hs.size]; exact ht'), if_pos rfl]
section
variable {mt : TypeId} {t : Tmp} {r : Nat} {K : List CV → List CV → Fr → List Box → Prop} {l : List Oper} {ks vs : List CV} {dst : Option Tmp} {op : Op} {ty : TypeId} {pos : String} {after : Array Edge}
theorem m_nil (h : K ks vs fr B) : WPm P n mt t r K [] ks vs fr B := h
theorem m_ins {m k v : Operand} {kt e : TypeId} {d : TypeDesc} {kc vc : CV} (hu : Is (P.underlying mt) (some (.map kt e))) (hd : Is (P.underlying kt) (some d)) (hm : Is (opv fr m) (.raw (.map (some r)))) (hk : Is (opv fr k) kc) (hv : Is (opv fr v) vc) (hf : Is (findC d kc ks vs) (some none)) (hs : Is (sameC d kc kc) (some true))
    (h : WPm P n mt t r K l (ks ++ [kc]) (vs ++ [vc]) fr B) : WPm P n mt t r K (⟨none, .insert mt m k v, ty, pos, after, none⟩ :: l) ks vs fr B := by
  have hk : opv fr k = kc := hk
  have hv : opv fr v = vc := hv
  unfold WPm
  refine ⟨rfl, rfl, rfl, hm, ⟨kt, e, d, hu, hd, ?_, ?_⟩, ?_⟩
  · rw [hk]; exact hf
  · rw [hk]; exact hs
  · rw [hk, hv]; exact h
def isIns : Op → Bool
  | .insert .. => true
  | _ => false
theorem m_step {o : Oper} (hg : o.guard = none) (hi : isIns o.op = false) (hd : dstOk n o = true) (hdt : (o.dst == some t) = false) (h : StepC P o fr B fun c B' => WPm P n mt t r K l ks vs (upd fr o.dst c) B') : WPm P n mt t r K (o :: l) ks vs fr B := by
  unfold WPm
  refine ⟨hg, ?_⟩
  split
  · rename_i ho; rw [ho] at hi; cases hi
  · exact ⟨hd, by simpa using hdt, h⟩
theorem m_op {c : CV} {B' : List Box} (hd : dstOk n ⟨dst, op, ty, pos, after, none⟩ = true) (hn : isCall op = false) (hi : isIns op = false) (hdt : (dst == some t) = false) (he : Is (ev P ⟨dst, op, ty, pos, after, none⟩ fr B) (some (c, B')))
    (h : WPm P n mt t r K l ks vs (upd fr dst c) B') : WPm P n mt t r K (⟨dst, op, ty, pos, after, none⟩ :: l) ks vs fr B := m_step rfl hi hd hdt (StepC_ev hn _ he h)
theorem m_call {f : Operand} {args : Array Operand} {ts : Array TypeId} {g : FuncId} {first caps all : List CV} {c : CV} {B' : List Box} (hd : dstOk n ⟨dst, .call { callee := .value f, args, argTypes := ts }, ty, pos, after, none⟩ = true) (hdt : (dst == some t) = false)
    (hf : Is (opv fr f) (.fn (.func g) first caps)) (ha : Is (first ++ args.toList.map (opv fr) ++ caps) all) (hc : ACall P g all B fun c' B'' => c' = c ∧ B'' = B') (h : WPm P n mt t r K l ks vs (upd fr dst c) B') :
    WPm P n mt t r K (⟨dst, .call { callee := .value f, args, argTypes := ts }, ty, pos, after, none⟩ :: l) ks vs fr B := by
  refine m_step rfl rfl hd hdt ?_
  have hf : opv fr f = .fn (.func g) first caps := hf
  have ha : first ++ args.toList.map (opv fr) ++ caps = all := ha
  simp only [StepC, hf]
  rw [ha]
  exact .inl (hc.mono fun _ _ ⟨h1, h2⟩ => by rw [h1, h2]; exact h)
end
end
end Go.Sy
end
section
namespace Go.Proofs.YtcbdghgogmcllaaGreatDoor
open Go Go.Sy
def fnC (n : Nat) : CV := .fn (.func n) [] []
def numbC (k : Int) : CV := .agg [.int .i64 3, fnC 89, .fn (.func 118) [] [.iptr [.int .i64 k]]]
def bareC (k : Int) : CV := .agg [.int .i64 2, fnC 120, .fn (.func 121) [] [.iptr [.int .i64 k]]]
theorem numbered_in (k : Int) : PC Tryz.prog true 86 [.int .i64 k] (numbC k) := by
  refine acall_intro mixed Tryz.func86 rfl ca86 (by kernel_rfl) (by rw [Tryz.ntmps86]; simp) ?_
  refine w0 ?_ 
  rfl
theorem bare_in (k : Int) : PC Tryz.prog true 87 [.int .i64 k] (bareC k) := by
  refine acall_intro mixed Tryz.func87 rfl ca87 (by kernel_rfl) (by rw [Tryz.ntmps87]; simp) ?_
  refine w0 ?_ 
  rfl
theorem numbered_at {B : List Box} {k : Int} : ACall Tryz.prog 86 [.int .i64 k] B fun c B' => c = numbC k ∧ B' = B := acall_fresh (nz := false) rfl (numbered_in k)
theorem bare_at {B : List Box} {k : Int} : ACall Tryz.prog 87 [.int .i64 k] B fun c B' => c = bareC k ∧ B' = B := acall_fresh (nz := false) rfl (bare_in k)
def wPlain : List UInt8 := [112, 108, 97, 105, 110]
def wDatagram : List UInt8 := [100, 97, 116, 97, 103, 114, 97, 109]
def wTick : List UInt8 := [116, 105, 99, 107]
def wEntropy : List UInt8 := [101, 110, 116, 114, 111, 112, 121]
def wControl : List UInt8 := [99, 111, 110, 116, 114, 111, 108]
def wHandoff : List UInt8 := [104, 97, 110, 100, 111, 102, 102]
def wPick : List UInt8 := [112, 105, 99, 107]
def wCut : List UInt8 := [99, 117, 116]
def wAbort : List UInt8 := [97, 98, 111, 114, 116]
def wKill : List UInt8 := [107, 105, 108, 108]
def wCorrupt : List UInt8 := [99, 111, 114, 114, 117, 112, 116]
def formC (n a b : Nat) : CV := .agg [.int .i64 n, fnC a, fnC b]
def formK : List CV := [.str wPlain, .str wDatagram, .str wTick, .str wEntropy, .str wHandoff, .str wPick, .str wCut, .str wAbort, .str wKill, .str wCorrupt]
def formX : List CV := [formC 2 68 70, formC 3 72 74, formC 2 76 78, formC 2 80 81, formC 4 82 85, numbC 3, numbC 7, bareC 4, bareC 5, formC 4 88 90]
theorem forms_in : PC Tryz.prog false 46 [] (.imap formK formX) := by
  refine acall_AWc mixed Tryz.func46 rfl (by kernel_rfl) (by rw [Tryz.ntmps46]; simp) ?_
  refine AWc_w mixed (by kernel_rfl) (fun fr B => B = []) ?_ ?_
  · refine w0 ?_ 
    rfl
  rintro fr B rfl
  refine AWc_seq ?_
  refine AWc_map (l1 := [_, _, _, _, _, _, _, _, _, _, _, _, _, _, _, _, _, _, _, _]) (l2 := [_, _]) rfl (by rfl) fun r => ?_
  repeat' (first | ((with_reducible apply m_ins); (iterate 7 exact kE)) | ((with_reducible apply m_op); rfl; rfl; rfl; rfl; exact kE) | ((with_reducible apply m_call); rfl; rfl; (iterate 2 exact kE); (first | ((with_reducible apply numbered_at) <;> exact kD) | ((with_reducible apply bare_at) <;> exact kD))) | (with_reducible apply m_nil))
  refine w0 ?_ 
  refine WPc_sound mixed.mixed _ _ _ _ (by kernel_rfl) ?_
  refine w0 ?_ 
  rfl
end Go.Proofs.YtcbdghgogmcllaaGreatDoor
end
section
namespace Go.Proofs.YtcbdghgogmcllaaGreatDoor
open Go Go.Sy
theorem kE_SH0 {α : Type} {x y : α} (h : Is x y := by first | ((try simp (disch := first | omega | (simp only [yZ, yB] <;> omega) | fail) [go_sem, yY, *, lb, if_pos, if_neg, -List.map_take, -List.map_drop, -List.map_append, -List.map_reverse]); exact rfl) | fail) : Is x y := h
theorem kD_SH0 {p : Prop} (h : p := by (first | omega | assumption | exact rfl | ((simp (disch := first | omega | (simp only [yZ, yB] <;> omega) | fail) [go_sem, yY, *, lb, -List.map_take, -List.map_drop, -List.map_append, -List.map_reverse]) <;> (first | done | omega | exact rfl)) | fail)) : p := h
theorem kE_SH1 {α : Type} {x y : α} (h : Is x y := by first | ((try simp (disch := first | omega | (simp only [yZ, yB] <;> omega) | fail) [go_sem, yY, *, and15, hexD_get, hexD_ix, if_pos, if_neg, -List.map_take, -List.map_drop, -List.map_append, -List.map_reverse]); exact rfl) | fail) : Is x y := h
theorem kD_SH1 {p : Prop} (h : p := by (first | omega | assumption | exact rfl | ((simp (disch := first | omega | (simp only [yZ, yB] <;> omega) | fail) [go_sem, yY, *, and15, hexD_get, hexD_ix, -List.map_take, -List.map_drop, -List.map_append, -List.map_reverse]) <;> (first | done | omega | exact rfl)) | fail)) : p := h
theorem kE_SH2 {α : Type} {x y : α} (h : Is x y := by first | ((try simp (disch := first | omega | (simp only [yZ, yB] <;> omega) | fail) [go_sem, yY, *, and15, hexD_sub, if_pos, if_neg, -List.map_take, -List.map_drop, -List.map_append, -List.map_reverse]); exact rfl) | fail) : Is x y := h
theorem kD_SH2 {p : Prop} (h : p := by (first | omega | assumption | exact rfl | ((simp (disch := first | omega | (simp only [yZ, yB] <;> omega) | fail) [go_sem, yY, *, and15, hexD_sub, -List.map_take, -List.map_drop, -List.map_append, -List.map_reverse]) <;> (first | done | omega | exact rfl)) | fail)) : p := h
theorem wB_SH0 {p q : Prop} (k : q) (h : Hq q → p := by (intro k; (repeat' (first | (with_reducible first | apply jA | apply jB | apply jC | apply jD | apply jE | apply jF | apply jG | apply jH | apply jI | apply jJ | apply jK | apply jL | apply jM | apply jN | apply jO) | ((with_reducible first | apply jP | apply jQ); rfl) | ((first | ((with_reducible first | apply jR | apply jS | apply jT); rfl; rfl) | (with_reducible first | apply jU | apply jV | apply jW) | ((with_reducible first | apply jX | apply jY | apply jZ); rfl) | ((with_reducible first | apply kA | apply kB | apply kC); rfl)); all_goals (first | ((with_reducible show Is _ _); exact kE_SH0) | ((with_reducible refine fun (hc : (_ : Bool) = _) => ?_); (try simp only [xZ, xY, xP, reduceCtorEq] at hc); (try (have hx : True := hc; clear hx hc)); (try exact kX)) | ((with_reducible show ACall _ _ _ _ _); (first | ((with_reducible apply c0) <;> exact kD_SH0) | ((with_reducible apply c1) <;> exact kD_SH0) | ((with_reducible apply c2) <;> exact kD_SH0) | ((with_reducible apply c3) <;> exact kD_SH0) | ((with_reducible apply c4) <;> exact kD_SH0) | ((with_reducible apply c5) <;> exact kD_SH0) | ((with_reducible apply c6) <;> exact kD_SH0) | ((with_reducible apply c7) <;> exact kD_SH0))) | ((fail_if_success (with_reducible first | show Is _ _ | show ACall _ _ _ _ _)); (try ((with_reducible show _ ∨ _); exact kT))))) | (((with_reducible first | apply o_callQ | apply q_callQ); rfl); (iterate 2 exact kE_SH0); (first | ((with_reducible apply q0) <;> exact kD_SH0))))); exact hq k)) : p := h ⟨k⟩
theorem wB_SH1 {p q : Prop} (k : q) (h : Hq q → p := by (intro k; (repeat' (first | (with_reducible first | apply jA | apply jB | apply jC | apply jD | apply jE | apply jF | apply jG | apply jH | apply jI | apply jJ | apply jK | apply jL | apply jM | apply jN | apply jO) | ((with_reducible first | apply jP | apply jQ); rfl) | ((first | ((with_reducible first | apply jR | apply jS | apply jT); rfl; rfl) | (with_reducible first | apply jU | apply jV | apply jW) | ((with_reducible first | apply jX | apply jY | apply jZ); rfl) | ((with_reducible first | apply kA | apply kB | apply kC); rfl)); all_goals (first | ((with_reducible show Is _ _); exact kE_SH1) | ((with_reducible refine fun (hc : (_ : Bool) = _) => ?_); (try simp only [xZ, xY, xP, reduceCtorEq] at hc); (try (have hx : True := hc; clear hx hc)); (try exact kX)) | ((with_reducible show ACall _ _ _ _ _); (first | ((with_reducible apply c0) <;> exact kD_SH1) | ((with_reducible apply c1) <;> exact kD_SH1) | ((with_reducible apply c2) <;> exact kD_SH1) | ((with_reducible apply c3) <;> exact kD_SH1) | ((with_reducible apply c4) <;> exact kD_SH1) | ((with_reducible apply c5) <;> exact kD_SH1) | ((with_reducible apply c6) <;> exact kD_SH1) | ((with_reducible apply c7) <;> exact kD_SH1))) | ((fail_if_success (with_reducible first | show Is _ _ | show ACall _ _ _ _ _)); (try ((with_reducible show _ ∨ _); exact kT))))) | (((with_reducible first | apply o_callQ | apply q_callQ); rfl); (iterate 2 exact kE_SH1); (first | ((with_reducible apply q0) <;> exact kD_SH1))))); exact hq k)) : p := h ⟨k⟩
theorem wB_SH2 {p q : Prop} (k : q) (h : Hq q → p := by (intro k; (repeat' (first | (with_reducible first | apply jA | apply jB | apply jC | apply jD | apply jE | apply jF | apply jG | apply jH | apply jI | apply jJ | apply jK | apply jL | apply jM | apply jN | apply jO) | ((with_reducible first | apply jP | apply jQ); rfl) | ((first | ((with_reducible first | apply jR | apply jS | apply jT); rfl; rfl) | (with_reducible first | apply jU | apply jV | apply jW) | ((with_reducible first | apply jX | apply jY | apply jZ); rfl) | ((with_reducible first | apply kA | apply kB | apply kC); rfl)); all_goals (first | ((with_reducible show Is _ _); exact kE_SH2) | ((with_reducible refine fun (hc : (_ : Bool) = _) => ?_); (try simp only [xZ, xY, xP, reduceCtorEq] at hc); (try (have hx : True := hc; clear hx hc)); (try exact kX)) | ((with_reducible show ACall _ _ _ _ _); (first | ((with_reducible apply c0) <;> exact kD_SH2) | ((with_reducible apply c1) <;> exact kD_SH2) | ((with_reducible apply c2) <;> exact kD_SH2) | ((with_reducible apply c3) <;> exact kD_SH2) | ((with_reducible apply c4) <;> exact kD_SH2) | ((with_reducible apply c5) <;> exact kD_SH2) | ((with_reducible apply c6) <;> exact kD_SH2) | ((with_reducible apply c7) <;> exact kD_SH2))) | ((fail_if_success (with_reducible first | show Is _ _ | show ACall _ _ _ _ _)); (try ((with_reducible show _ ∨ _); exact kT))))) | (((with_reducible first | apply o_callQ | apply q_callQ); rfl); (iterate 2 exact kE_SH2); (first | ((with_reducible apply q0) <;> exact kD_SH2))))); exact hq k)) : p := h ⟨k⟩
theorem w_SH00 {p q : Prop}  (k : q) (h : Hq q → p := by (intro  k; exact wB_SH0 (hq k))) : p := h  ⟨k⟩
theorem w_SH10 {p q : Prop}  (k : q) (h : Hq q → p := by (intro  k; exact wB_SH1 (hq k))) : p := h  ⟨k⟩
theorem w_SH20 {p q : Prop}  (k : q) (h : Hq q → p := by (intro  k; exact wB_SH2 (hq k))) : p := h  ⟨k⟩
def OwnB (c : CV) (B : List Box) (l : List UInt8) : Prop := (l = [] ∧ c = .nilS ∧ B = []) ∨ (l ≠ [] ∧ ∃ m, c = .view 0 0 l.length 1 false ∧ B = [⟨l.map byteC, m⟩])
def hd (k : Nat) : UInt8 := UInt8.ofNat (if k < 10 then 48 + k else 87 + k)
def hexS (l : List UInt8) : List UInt8 := l.flatMap fun x => [hd (x.toNat / 16), hd (x.toNat % 16)]
theorem hexS_app (l : List UInt8) (x : UInt8) : hexS (l ++ [x]) = hexS l ++ [hd (x.toNat / 16), hd (x.toNat % 16)] := by simp [hexS]
theorem hexS_len (l : List UInt8) : (hexS l).length = 2 * l.length := by
  induction l with
  | nil => rfl
  | cons x l ih => simp [hexS] at ih ⊢; omega
theorem hexD_get (k : Nat) (h : k < 16) : ([48, 49, 50, 51, 52, 53, 54, 55, 56, 57, 97, 98, 99, 100, 101, 102] : List UInt8)[k]? = some (hd k) := by
  have : ∀ k : Fin 16, ([48, 49, 50, 51, 52, 53, 54, 55, 56, 57, 97, 98, 99, 100, 101, 102] : List UInt8)[k.1]? = some (hd k.1) := by decide
  exact this ⟨k, h⟩
theorem hexD_sub (k : Nat) (h : k < 16) : (([48, 49, 50, 51, 52, 53, 54, 55, 56, 57, 97, 98, 99, 100, 101, 102] : List UInt8).drop k).take 1 = [hd k] := by
  have : ∀ k : Fin 16, (([48, 49, 50, 51, 52, 53, 54, 55, 56, 57, 97, 98, 99, 100, 101, 102] : List UInt8).drop k.1).take 1 = [hd k.1] := by decide
  exact this ⟨k, h⟩
theorem hexD_ix {k : Nat} (h : k < 16) (h' : k < ([48, 49, 50, 51, 52, 53, 54, 55, 56, 57, 97, 98, 99, 100, 101, 102] : List UInt8).length) : ([48, 49, 50, 51, 52, 53, 54, 55, 56, 57, 97, 98, 99, 100, 101, 102] : List UInt8)[k]'h' = hd k := by
  have := hexD_get k h
  rw [List.getElem?_eq_getElem h'] at this
  exact Option.some.inj this
theorem and15 (x : UInt8) : bits .and .u8 (x.toNat : Int) 15 = ((x.toNat % 16 : Nat) : Int) := by
  have := u8_and_nat x.toNat 15 x.toNat_lt (by omega)
  rw [show ((15 : Nat) : Int) = 15 from rfl] at this
  rw [this, show (15 : Nat) = 2 ^ 4 - 1 from rfl, Nat.and_two_pow_sub_one_eq_mod]
theorem hex_in (l : List UInt8) (hl : l.length < 1073741823) : PC Tryz.prog true 84 [lb l] (.str (hexS l)) := by
  refine acall_intro mixed Tryz.func84 rfl ca84 (by kernel_rfl) (by rw [Tryz.ntmps84]; simp) ?_
  refine w_SH00 ?_ 
  refine w_loop (fun fr B => ∃ j : Nat, j ≤ l.length ∧ fr 8 = .int .i64 j ∧ fr 7 = .int .i64 l.length ∧ fr 6 = .lst l.length (l.map byteC) false ∧ OwnB (fr 3) B (hexS (l.take j))) (fun fr _ => l.length - natOf (fr 8)) ?_ ?_
  · exact ⟨0, by omega, kS, by (simp (disch := omega) [go_sem, lb]) <;> (try omega), by (simp (disch := omega) [go_sem, lb]) <;> (try omega), .inl ⟨by simp [hexS], kS, rfl⟩⟩
  · rintro fr B ⟨j, hj, h8, h7, h6, h⟩
    by_cases hc : j < l.length
    · have ht : hexS (l.take (j + 1)) = hexS (l.take j) ++ [hd (l[j].toNat / 16), hd (l[j].toNat % 16)] := by rw [List.take_succ_eq_append_getElem hc, hexS_app]
      have hlen : (hexS (l.take j)).length = 2 * j := by rw [hexS_len, List.length_take, Nat.min_eq_left (by omega)]
      have hb := l[j].toNat_lt
      generalize hexS (l.take j) = acc at *
      rcases h with ⟨rfl, h3, rfl⟩ | ⟨h0, m, h3, rfl⟩
      · refine w_SH10 ?_ 
        refine ⟨⟨j + 1, by omega, ?_, ?_, ?_, .inr ⟨?_, false, ?_, ?_⟩⟩, ?_⟩ <;> ((simp (disch := omega) [go_sem, *, hexD_ix]) <;> (try omega)) <;> (rw [List.length_nil] at hlen; omega)
      · refine w_SH10 ?_ 
        refine ⟨⟨j + 1, by omega, ?_, ?_, ?_, .inr ⟨?_, true, ?_, ?_⟩⟩, ?_⟩ <;> (simp (disch := omega) [go_sem, *, hexD_ix]) <;> (try omega)
    · have : j = l.length := by omega
      subst this
      rw [List.take_of_length_le (Nat.le_refl _)] at h
      rcases h with ⟨h, h3, rfl⟩ | ⟨h0, m, h3, rfl⟩
      · refine w0 ?_ 
        simp [fz_str, h]
      · refine w0 ?_ 
        simp [fz_str]
theorem rhex_in (l : List UInt8) (hl : l.length < 1073741823) : PC Tryz.prog true 31 [lb l] (.str (hexS l)) := by
  refine acall_intro mixed Tryz.func31 rfl ca31 (by kernel_rfl) (by rw [Tryz.ntmps31]; simp) ?_
  refine w_SH00 ?_ 
  refine w_loop (fun fr B => ∃ j : Nat, j ≤ l.length ∧ fr 8 = .int .i64 j ∧ fr 7 = .int .i64 l.length ∧ fr 6 = .lst l.length (l.map byteC) false ∧ fr 3 = .str (hexS (l.take j)) ∧ B = []) (fun fr _ => l.length - natOf (fr 8)) ?_ ?_
  · exact ⟨0, by omega, kS, by (simp (disch := omega) [go_sem, lb]) <;> (try omega), by (simp (disch := omega) [go_sem, lb]) <;> (try omega), by (simp (disch := omega) [go_sem, hexS]) <;> (try omega), rfl⟩
  · rintro fr B ⟨j, hj, h8, h7, h6, h3, rfl⟩
    by_cases hc : j < l.length
    · have ht : hexS (l.take (j + 1)) = hexS (l.take j) ++ [hd (l[j].toNat / 16), hd (l[j].toNat % 16)] := by rw [List.take_succ_eq_append_getElem hc, hexS_app]
      have hlen : (hexS (l.take j)).length = 2 * j := by rw [hexS_len, List.length_take, Nat.min_eq_left (by omega)]
      have hb := l[j].toNat_lt
      generalize hexS (l.take j) = acc at *
      refine w_SH20 ?_ 
      refine ⟨⟨j + 1, by omega, ?_, ?_, ?_, ?_, ?_⟩, ?_⟩ <;> (simp (disch := omega) [go_sem, *, hexD_sub]) <;> (try omega)
    · have : j = l.length := by omega
      subst this
      rw [List.take_of_length_le (Nat.le_refl _)] at h3
      refine w0 ?_ 
      simp [fz_str]
def digC (o : Option Nat) : CV := match o with | some n => .tup [.int .u8 n, .bool true] | none => .tup [.int .u8 0, .bool false]
theorem digit_in (c : UInt8) : PC Tryz.prog true 136 [byteC c] (digC (digV c)) := by
  refine acall_intro mixed Tryz.func136 rfl ca136 (by kernel_rfl) (by rw [Tryz.ntmps136]; simp) ?_
  repeat' (first | (with_reducible first | apply jA | apply jB | apply jC | apply jD | apply jE | apply jF | apply jG | apply jH | apply jI | apply jJ | apply jK | apply jL | apply jM | apply jN | apply jO) | ((with_reducible first | apply jP | apply jQ); rfl) | ((first | ((with_reducible first | apply jR | apply jS | apply jT); rfl; rfl) | (with_reducible first | apply jU | apply jV | apply jW) | ((with_reducible first | apply jX | apply jY | apply jZ); rfl)); all_goals (first | ((with_reducible show Is _ _); exact kE) | ((with_reducible refine fun (hc : (_ : Bool) = _) => ?_); (try simp only [xZ, xY, xP, reduceCtorEq] at hc); (try (have hx : True := hc; clear hx hc)); (try exact kX)) | ((fail_if_success (with_reducible first | show Is _ _ | show ACall _ _ _ _ _)); (try ((with_reducible show _ ∨ _); exact kT))))))
  all_goals (rw [digV]; repeat' split)
  all_goals first | (exfalso; omega) | (simp [go_sem, digC] <;> omega) | (simp [go_sem, digC]; done)
end Go.Proofs.YtcbdghgogmcllaaGreatDoor
end
section
namespace Go.Proofs.YtcbdghgogmcllaaGreatDoor
open Go Go.Sy
theorem kE_SP0 {α : Type} {x y : α} (h : Is x y := by first | ((try simp (disch := first | omega | (simp only [yZ, yB] <;> omega) | fail) [go_sem, yY, *, digC_eq, if_pos, if_neg, -List.map_take, -List.map_drop, -List.map_append, -List.map_reverse]); exact rfl) | fail) : Is x y := h
theorem kD_SP0 {p : Prop} (h : p := by (first | omega | assumption | exact rfl | ((simp (disch := first | omega | (simp only [yZ, yB] <;> omega) | fail) [go_sem, yY, *, digC_eq, -List.map_take, -List.map_drop, -List.map_append, -List.map_reverse]) <;> (first | done | omega | exact rfl)) | fail)) : p := h
theorem kE_SP1 {α : Type} {x y : α} (h : Is x y := by first | ((try simp (disch := first | omega | (simp only [yZ, yB] <;> omega) | fail) [go_sem, yY, *, digC_eq, hex_or, if_pos, if_neg, -List.map_take, -List.map_drop, -List.map_append, -List.map_reverse]); exact rfl) | fail) : Is x y := h
theorem kD_SP1 {p : Prop} (h : p := by (first | omega | assumption | exact rfl | ((simp (disch := first | omega | (simp only [yZ, yB] <;> omega) | fail) [go_sem, yY, *, digC_eq, hex_or, -List.map_take, -List.map_drop, -List.map_append, -List.map_reverse]) <;> (first | done | omega | exact rfl)) | fail)) : p := h
theorem kE_SP2 {α : Type} {x y : α} (h : Is x y := by first | ((try simp (disch := first | omega | (simp only [yZ, yB] <;> omega) | fail) [go_sem, yY, *, hex_conv, if_pos, if_neg, -List.map_take, -List.map_drop, -List.map_append, -List.map_reverse]); exact rfl) | fail) : Is x y := h
theorem kD_SP2 {p : Prop} (h : p := by (first | omega | assumption | exact rfl | ((simp (disch := first | omega | (simp only [yZ, yB] <;> omega) | fail) [go_sem, yY, *, hex_conv, -List.map_take, -List.map_drop, -List.map_append, -List.map_reverse]) <;> (first | done | omega | exact rfl)) | fail)) : p := h
theorem wB_SP0 {p q : Prop} (k : q) (h : Hq q → p := by (intro k; (repeat' (first | (with_reducible first | apply jA | apply jB | apply jC | apply jD | apply jE | apply jF | apply jG | apply jH | apply jI | apply jJ | apply jK | apply jL | apply jM | apply jN | apply jO) | ((with_reducible first | apply jP | apply jQ); rfl) | ((first | ((with_reducible first | apply jR | apply jS | apply jT); rfl; rfl) | (with_reducible first | apply jU | apply jV | apply jW) | ((with_reducible first | apply jX | apply jY | apply jZ); rfl) | ((with_reducible first | apply kA | apply kB | apply kC); rfl)); all_goals (first | ((with_reducible show Is _ _); exact kE_SP0) | ((with_reducible refine fun (hc : (_ : Bool) = _) => ?_); (try simp only [xZ, xY, xP, reduceCtorEq] at hc); (try (have hx : True := hc; clear hx hc)); (try exact kX)) | ((with_reducible show ACall _ _ _ _ _); (first | ((with_reducible apply c0) <;> exact kD_SP0) | ((with_reducible apply c1) <;> exact kD_SP0) | ((with_reducible apply c2) <;> exact kD_SP0) | ((with_reducible apply c3) <;> exact kD_SP0) | ((with_reducible apply c4) <;> exact kD_SP0) | ((with_reducible apply c5) <;> exact kD_SP0) | ((with_reducible apply c6) <;> exact kD_SP0) | ((with_reducible apply c7) <;> exact kD_SP0))) | ((fail_if_success (with_reducible first | show Is _ _ | show ACall _ _ _ _ _)); (try ((with_reducible show _ ∨ _); exact kT))))) | (((with_reducible first | apply o_callQ | apply q_callQ); rfl); (iterate 2 exact kE_SP0); (first | ((with_reducible apply q0) <;> exact kD_SP0))))); exact hq k)) : p := h ⟨k⟩
theorem wB_SP1 {p q : Prop} (k : q) (h : Hq q → p := by (intro k; (repeat' (first | (with_reducible first | apply jA | apply jB | apply jC | apply jD | apply jE | apply jF | apply jG | apply jH | apply jI | apply jJ | apply jK | apply jL | apply jM | apply jN | apply jO) | ((with_reducible first | apply jP | apply jQ); rfl) | ((first | ((with_reducible first | apply jR | apply jS | apply jT); rfl; rfl) | (with_reducible first | apply jU | apply jV | apply jW) | ((with_reducible first | apply jX | apply jY | apply jZ); rfl) | ((with_reducible first | apply kA | apply kB | apply kC); rfl)); all_goals (first | ((with_reducible show Is _ _); exact kE_SP1) | ((with_reducible refine fun (hc : (_ : Bool) = _) => ?_); (try simp only [xZ, xY, xP, reduceCtorEq] at hc); (try (have hx : True := hc; clear hx hc)); (try exact kX)) | ((with_reducible show ACall _ _ _ _ _); (first | ((with_reducible apply c0) <;> exact kD_SP1) | ((with_reducible apply c1) <;> exact kD_SP1) | ((with_reducible apply c2) <;> exact kD_SP1) | ((with_reducible apply c3) <;> exact kD_SP1) | ((with_reducible apply c4) <;> exact kD_SP1) | ((with_reducible apply c5) <;> exact kD_SP1) | ((with_reducible apply c6) <;> exact kD_SP1) | ((with_reducible apply c7) <;> exact kD_SP1))) | ((fail_if_success (with_reducible first | show Is _ _ | show ACall _ _ _ _ _)); (try ((with_reducible show _ ∨ _); exact kT))))) | (((with_reducible first | apply o_callQ | apply q_callQ); rfl); (iterate 2 exact kE_SP1); (first | ((with_reducible apply q0) <;> exact kD_SP1))))); exact hq k)) : p := h ⟨k⟩
theorem wB_SP2 {p q : Prop} (k : q) (h : Hq q → p := by (intro k; (repeat' (first | (with_reducible first | apply jA | apply jB | apply jC | apply jD | apply jE | apply jF | apply jG | apply jH | apply jI | apply jJ | apply jK | apply jL | apply jM | apply jN | apply jO) | ((with_reducible first | apply jP | apply jQ); rfl) | ((first | ((with_reducible first | apply jR | apply jS | apply jT); rfl; rfl) | (with_reducible first | apply jU | apply jV | apply jW) | ((with_reducible first | apply jX | apply jY | apply jZ); rfl) | ((with_reducible first | apply kA | apply kB | apply kC); rfl)); all_goals (first | ((with_reducible show Is _ _); exact kE_SP2) | ((with_reducible refine fun (hc : (_ : Bool) = _) => ?_); (try simp only [xZ, xY, xP, reduceCtorEq] at hc); (try (have hx : True := hc; clear hx hc)); (try exact kX)) | ((with_reducible show ACall _ _ _ _ _); (first | ((with_reducible apply c0) <;> exact kD_SP2) | ((with_reducible apply c1) <;> exact kD_SP2) | ((with_reducible apply c2) <;> exact kD_SP2) | ((with_reducible apply c3) <;> exact kD_SP2) | ((with_reducible apply c4) <;> exact kD_SP2) | ((with_reducible apply c5) <;> exact kD_SP2) | ((with_reducible apply c6) <;> exact kD_SP2) | ((with_reducible apply c7) <;> exact kD_SP2))) | ((fail_if_success (with_reducible first | show Is _ _ | show ACall _ _ _ _ _)); (try ((with_reducible show _ ∨ _); exact kT))))) | (((with_reducible first | apply o_callQ | apply q_callQ); rfl); (iterate 2 exact kE_SP2); (first | ((with_reducible apply q0) <;> exact kD_SP2))))); exact hq k)) : p := h ⟨k⟩
theorem w_SP01 {A0 p q : Prop} (c0 : A0) (k : q) (h : A0 → Hq q → p := by (intro c0 k; exact wB_SP0 (hq k))) : p := h c0 ⟨k⟩
theorem w_SP11 {A0 p q : Prop} (c0 : A0) (k : q) (h : A0 → Hq q → p := by (intro c0 k; exact wB_SP1 (hq k))) : p := h c0 ⟨k⟩
theorem w_SP21 {A0 p q : Prop} (c0 : A0) (k : q) (h : A0 → Hq q → p := by (intro c0 k; exact wB_SP2 (hq k))) : p := h c0 ⟨k⟩
def hexb (x y : Nat) : UInt8 := UInt8.ofNat (16 * x + y)
def unhex : List UInt8 → Option (List UInt8)
  | [] => some []
  | [_] => none
  | a :: b :: t => (digV a).bind fun x => (digV b).bind fun y => (unhex t).map (hexb x y :: ·)
theorem unhex_app : ∀ (a b : List UInt8), a.length % 2 = 0 → unhex (a ++ b) = (unhex a).bind fun x => (unhex b).map (x ++ ·)
  | [], b, _ => by simp [unhex]
  | [_], b, h => by simp at h
  | x :: y :: t, b, h => by
    have ih := unhex_app t b (by simp only [List.length_cons] at h; omega)
    simp only [List.cons_append, unhex, ih]
    cases digV x <;> cases digV y <;> cases unhex t <;> cases unhex b <;> simp
theorem unhex_len : ∀ (a l : List UInt8), unhex a = some l → a.length = 2 * l.length
  | [], l, h => by simp [unhex] at h; subst h; rfl
  | [_], l, h => by simp [unhex] at h
  | x :: y :: t, l, h => by
    simp only [unhex, Option.bind_eq_some_iff, Option.map_eq_some_iff] at h
    obtain ⟨_, _, _, _, r, hr, rfl⟩ := h
    have := unhex_len t r hr
    simp only [List.length_cons]; omega
theorem unhex_odd : ∀ (a : List UInt8), a.length % 2 ≠ 0 → unhex a = none
  | a, h => by
    cases e : unhex a with
    | none => rfl
    | some l => have := unhex_len a l e; omega
def unhexC (o : Option (List UInt8)) : CV := match o with | some l => .tup [lb l, .int .i64 0] | none => .tup [lb [], .int .i64 5]
theorem digC_eq (o : Option Nat) : digC o = .tup [.int .u8 ((o.getD 0 : Nat) : Int), .bool o.isSome] := by cases o <;> rfl
theorem hex_or {x y : Nat} (hx : x < 16) (hy : y < 16) : CV.int .u8 (bits .or .u8 ((x : Int) * 16) (y : Int)) = byteC (hexb x y) := by
  rw [hexb, byte_of, wu8 (by omega), show ((x : Int) * 16) = ((16 * x : Nat) : Int) by omega, u8_or_nat _ _ (by omega) (by omega), nat_join4 _ _ (by omega) hy]
theorem hex_conv {x y : Nat} (hx : x < 16) (hy : y < 16) : CV.int .u8 (16 * (x : Int) + (y : Int)) = byteC (hexb x y) := by
  rw [hexb, byte_of, wu8 (by omega)]; rfl
theorem digit_at {B : List Box} {args : List CV} {c : UInt8} (hz : Is (omap (fz true false B 6) args) (some [byteC c])) : ACall Tryz.prog 136 args B fun r B' => r = digC (digV c) ∧ B' = B := acall_fresh hz (digit_in c)
theorem unhex_bad {s : List UInt8} {i : Nat} (hi : i % 2 = 0) (h : i + 1 < s.length) (hb : digV s[i] = none ∨ digV s[i + 1] = none) : unhex s = none := by
  have : s = s.take i ++ s[i] :: s[i + 1] :: s.drop (i + 2) := by
    rw [← List.drop_eq_getElem_cons, ← List.drop_eq_getElem_cons, List.take_append_drop]
  rw [this, unhex_app _ _ (by simp; omega)]
  rcases hb with hb | hb <;> simp [unhex, hb]
theorem unhex_step {s acc : List UInt8} {i x y : Nat} (hi : i % 2 = 0) (h : i + 1 < s.length) (ha : unhex (s.take i) = some acc) (hx : digV s[i] = some x) (hy : digV s[i + 1] = some y) : unhex (s.take (i + 2)) = some (acc ++ [hexb x y]) := by
  have : s.take (i + 2) = s.take i ++ [s[i], s[i + 1]] := by
    rw [show i + 2 = i + 1 + 1 from rfl, List.take_succ_eq_append_getElem h, List.take_succ_eq_append_getElem (show i < s.length by omega), List.append_assoc]; rfl
  rw [this, unhex_app _ _ (by simp; omega), ha]
  simp [unhex, hx, hy]
theorem parseHex_in (s : List UInt8) (hl : s.length < 1073741823) : PC Tryz.prog true 107 [.str s] (unhexC (unhex s)) := by
  by_cases he : s.length % 2 = 0
  · refine acall_intro mixed Tryz.func107 rfl ca107 (by kernel_rfl) (by rw [Tryz.ntmps107]; simp) ?_
    refine w0 ?_ 
    refine w_loop (fun fr B => ∃ i : Nat, i % 2 = 0 ∧ i ≤ s.length ∧ fr 5 = .int .i64 i ∧ fr 0 = .str s ∧ ∃ acc, unhex (s.take i) = some acc ∧ GrowB [] (fr 4) B acc) (fun fr _ => s.length - natOf (fr 5)) ?_ ?_
    · exact ⟨0, by omega, by omega, kS, kS, [], by simp [unhex], by (simp (disch := omega) [go_sem, *]) <;> (try omega); exact .nil _ _⟩
    · rintro fr B ⟨i, hi, hj, h5, h0, acc, ha, h⟩
      by_cases hc : i < s.length
      · have hc2 : i + 1 < s.length := by omega
        cases hx : digV s[i] with
        | none =>
          have := unhex_bad hi hc2 (.inl hx)
          refine w_SP01 @digit_at ?_ 
          simp [go_sem, this, unhexC, lb]
        | some x =>
          cases hy : digV s[i + 1] with
          | none =>
            have := unhex_bad hi hc2 (.inr hy)
            refine w_SP01 @digit_at ?_ 
            simp [go_sem, this, unhexC, lb]
          | some y =>
            have hs := unhex_step hi hc2 ha hx hy
            have hlx := digV_lt hx
            have hly := digV_lt hy
            have hal := unhex_len _ _ ha
            replace hal : acc.length ≤ s.length := by rw [List.length_take] at hal; omega
            obtain ⟨c', B', happ, hg⟩ := h.app (P := Tryz.prog) (e := 5) (.lst 1 [byteC (hexb x y)] true) [hexb x y] rfl (by kernel_rfl) (by simp only [List.length_cons, List.length_nil]; omega)
            refine w_SP11 @digit_at ?_ 
            refine ⟨⟨i + 2, by omega, by omega, ?_, ?_, _, hs, ?_⟩, ?_⟩ <;> (simp (disch := omega) [go_sem, *]) <;> (try omega)
      · have : i = s.length := by omega
        subst this
        rw [List.take_of_length_le (Nat.le_refl _)] at ha
        refine w0 ?_ 
        simp [fz_tup, omap_two, omap_nil, h.fz 3, ha, unhexC, fz_int]
  · have := unhex_odd s he
    rw [this]
    refine acall_intro mixed Tryz.func107 rfl ca107 (by kernel_rfl) (by rw [Tryz.ntmps107]; simp) ?_
    refine w0 ?_ 
    rfl
theorem rparseHex_in (s : List UInt8) (hl : s.length < 1073741823) : PC Tryz.prog true 94 [.str s] (unhexC (unhex s)) := by
  by_cases he : s.length % 2 = 0
  · refine acall_intro mixed Tryz.func94 rfl ca94 (by kernel_rfl) (by rw [Tryz.ntmps94]; simp) ?_
    refine w0 ?_ 
    refine w_loop (fun fr B => ∃ i : Nat, i % 2 = 0 ∧ i ≤ s.length ∧ fr 5 = .int .i64 i ∧ fr 0 = .str s ∧ ∃ acc, unhex (s.take i) = some acc ∧ GrowB [] (fr 4) B acc) (fun fr _ => s.length - natOf (fr 5)) ?_ ?_
    · exact ⟨0, by omega, by omega, kS, kS, [], by simp [unhex], by (simp (disch := omega) [go_sem, *]) <;> (try omega); exact .empty _ _⟩
    · rintro fr B ⟨i, hi, hj, h5, h0, acc, ha, h⟩
      by_cases hc : i < s.length
      · have hc2 : i + 1 < s.length := by omega
        cases hx : digV s[i] with
        | none =>
          have := unhex_bad hi hc2 (.inl hx)
          refine w1 @rdigit_at ?_ 
          simp [go_sem, this, unhexC, lb]
        | some x =>
          have hlx := digV_lt hx
          cases hy : digV s[i + 1] with
          | none =>
            have := unhex_bad hi hc2 (.inr hy)
            refine w1 @rdigit_at ?_ 
            simp [go_sem, this, unhexC, lb]
          | some y =>
            have hs := unhex_step hi hc2 ha hx hy
            have hly := digV_lt hy
            have hal := unhex_len _ _ ha
            replace hal : acc.length ≤ s.length := by rw [List.length_take] at hal; omega
            obtain ⟨c', B', happ, hg⟩ := h.app (P := Tryz.prog) (e := 5) (.lst 1 [byteC (hexb x y)] true) [hexb x y] rfl (by kernel_rfl) (by simp only [List.length_cons, List.length_nil]; omega)
            refine w_SP21 @rdigit_at ?_ 
            refine ⟨⟨i + 2, by omega, by omega, ?_, ?_, _, hs, ?_⟩, ?_⟩ <;> (simp (disch := omega) [go_sem, *]) <;> (try omega)
      · have : i = s.length := by omega
        subst this
        rw [List.take_of_length_le (Nat.le_refl _)] at ha
        refine w0 ?_ 
        simp [fz_tup, omap_two, omap_nil, h.fz 3, ha, unhexC, fz_int]
  · have := unhex_odd s he
    rw [this]
    refine acall_intro mixed Tryz.func94 rfl ca94 (by kernel_rfl) (by rw [Tryz.ntmps94]; simp) ?_
    refine w0 ?_ 
    rfl
theorem hex_at {B : List Box} {args : List CV} {l : List UInt8} (hz : Is (omap (fz true false B 6) args) (some [.lst l.length (l.map byteC) false])) (hl : l.length < 1073741823) : ACall Tryz.prog 84 args B fun c B' => c = .str (hexS l) ∧ B' = B := acall_fresh hz (hex_in l hl)
theorem rhex_at {B : List Box} {args : List CV} {l : List UInt8} (hz : Is (omap (fz true false B 6) args) (some [.lst l.length (l.map byteC) false])) (hl : l.length < 1073741823) : ACall Tryz.prog 31 args B fun c B' => c = .str (hexS l) ∧ B' = B := acall_fresh hz (rhex_in l hl)
theorem parseHex_at {B : List Box} {s : List UInt8} (hl : s.length < 1073741823) : ACall Tryz.prog 107 [.str s] B fun c B' => c = unhexC (unhex s) ∧ B' = B := acall_fresh (nz := true) (by simp [go_sem]) (parseHex_in s hl)
theorem rparseHex_at {B : List Box} {s : List UInt8} (hl : s.length < 1073741823) : ACall Tryz.prog 94 [.str s] B fun c B' => c = unhexC (unhex s) ∧ B' = B := acall_fresh (nz := true) (by simp [go_sem]) (rparseHex_in s hl)
end Go.Proofs.YtcbdghgogmcllaaGreatDoor
end
section
namespace Go.Proofs.YtcbdghgogmcllaaGreatDoor
open Go Go.Sy
structure Ev where
  kind : Int
  six : Bool
  ip : List UInt8
  port : Int
  bytes : List UInt8
  time : Int
  text : List UInt8
structure Ac where
  kind : Int
  ev : Ev
  who : Int
  n : Int
  xor : UInt8
  lo : Int
  hi : Int
  key : List UInt8
def i64 (n : Int) : Prop := -9223372036854775808 ≤ n ∧ n ≤ 9223372036854775807
structure EvL (e : Ev) : Prop where
  ip : e.ip.length = 16
  kind : i64 e.kind
  port : i64 e.port
  time : i64 e.time
  bytes : e.bytes.length < 1000000
  text : e.text.length < 1000000
structure AcL (a : Ac) : Prop where
  ev : EvL a.ev
  kind : i64 a.kind
  who : i64 a.who
  n : i64 a.n
  lo : i64 a.lo
  hi : i64 a.hi
  key : a.key.length = 32
def evC (e : Ev) : List CV := .int .i64 e.kind :: .bool e.six :: (e.ip.map byteC ++ [.int .i64 e.port, .lst e.bytes.length (e.bytes.map byteC) false, .int .i64 e.time, .str e.text])
def acC (a : Ac) : List CV := .int .i64 a.kind :: (evC a.ev ++ (.int .i64 a.who :: .int .i64 a.n :: byteC a.xor :: .int .i64 a.lo :: .int .i64 a.hi :: a.key.map byteC))
theorem evC_len {e : Ev} (h : e.ip.length = 16) : (evC e).length = 22 := by simp [evC, h]
theorem acC_len {a : Ac} (h : AcL a) : (acC a).length = 60 := by simp [acC, evC_len h.ev.ip, h.key]
structure AcP (X : List CV) (a : Ac) : Prop where
  len : X.length = 60
  all : X.take 60 = X
  d0 : X.head? = some (.int .i64 a.kind)
  d1 : (X.drop 1).take 22 = evC a.ev
  h1 : X[1]? = some (.int .i64 a.ev.kind)
  t2 : (X.drop 2).take 18 = .bool a.ev.six :: (a.ev.ip.map byteC ++ [.int .i64 a.ev.port])
  d19 : X.drop 19 = .int .i64 a.ev.port :: .lst a.ev.bytes.length (a.ev.bytes.map byteC) false :: .int .i64 a.ev.time :: .str a.ev.text :: .int .i64 a.who :: .int .i64 a.n :: byteC a.xor :: .int .i64 a.lo :: .int .i64 a.hi :: a.key.map byteC
theorem ac_parts {a : Ac} (h : AcL a) : AcP (acC a) a := by
  have l1 : (a.ev.ip.map byteC).length = 16 := by simp [h.ev.ip]
  have hl := acC_len h
  have d2 : (acC a).drop 2 = .bool a.ev.six :: (a.ev.ip.map byteC ++ (.int .i64 a.ev.port :: .lst a.ev.bytes.length (a.ev.bytes.map byteC) false :: .int .i64 a.ev.time :: .str a.ev.text :: .int .i64 a.who :: .int .i64 a.n :: byteC a.xor :: .int .i64 a.lo :: .int .i64 a.hi :: a.key.map byteC)) := by
    simp [acC, evC]
  refine ⟨hl, List.take_of_length_le (by omega), rfl, ?_, rfl, ?_, ?_⟩
  · rw [acC, List.drop_one, List.tail_cons, List.take_left' (evC_len h.ev.ip)]
  · rw [d2, List.take_succ_cons, List.take_append, l1, List.take_of_length_le (by omega)]
    rfl
  · rw [show (19 : Nat) = 2 + 17 from rfl, ← List.drop_drop, d2, List.drop_succ_cons, List.drop_left' l1]
theorem ac_om {a : Ac} (_ : AcL a) {nz : Bool} {B : List Box} {k : Nat} : omap (Go.Sy.fz nz false B (k + 3)) (acC a) = some (acC a) := by
  simp [acC, evC, omap_app, omap_two, omap_nil, omap_bytes, fz_int, fz_bool, fz_str, fz_lst, fz_byte]
section
variable {X : List CV} {a : Ac}
theorem AcP.d (h : AcP X a) (k : Nat) : X.drop (19 + k) = (.int .i64 a.ev.port :: .lst a.ev.bytes.length (a.ev.bytes.map byteC) false :: .int .i64 a.ev.time :: .str a.ev.text :: .int .i64 a.who :: .int .i64 a.n :: byteC a.xor :: .int .i64 a.lo :: .int .i64 a.hi :: a.key.map byteC).drop k := by
  rw [← List.drop_drop, h.d19]
theorem AcP.d20 (h : AcP X a) : X.drop 20 = .lst a.ev.bytes.length (a.ev.bytes.map byteC) false :: X.drop 21 := by
  have h1 := h.d 1
  have h2 := h.d 2
  rw [show 21 = 19 + 2 from rfl, h2, show 20 = 19 + 1 from rfl, h1]; rfl
theorem AcP.d21 (h : AcP X a) : X.drop 21 = .int .i64 a.ev.time :: X.drop 22 := by
  have h1 := h.d 2
  have h2 := h.d 3
  rw [show 22 = 19 + 3 from rfl, h2, show 21 = 19 + 2 from rfl, h1]; rfl
theorem AcP.d22 (h : AcP X a) : X.drop 22 = .str a.ev.text :: X.drop 23 := by
  have h1 := h.d 3
  have h2 := h.d 4
  rw [show 23 = 19 + 4 from rfl, h2, show 22 = 19 + 3 from rfl, h1]; rfl
theorem AcP.d23 (h : AcP X a) : X.drop 23 = .int .i64 a.who :: X.drop 24 := by
  have h1 := h.d 4
  have h2 := h.d 5
  rw [show 24 = 19 + 5 from rfl, h2, show 23 = 19 + 4 from rfl, h1]; rfl
theorem AcP.d24 (h : AcP X a) : X.drop 24 = .int .i64 a.n :: X.drop 25 := by
  have h1 := h.d 5
  have h2 := h.d 6
  rw [show 25 = 19 + 6 from rfl, h2, show 24 = 19 + 5 from rfl, h1]; rfl
theorem AcP.d25 (h : AcP X a) : X.drop 25 = byteC a.xor :: X.drop 26 := by
  have h1 := h.d 6
  have h2 := h.d 7
  rw [show 26 = 19 + 7 from rfl, h2, show 25 = 19 + 6 from rfl, h1]; rfl
theorem AcP.d26 (h : AcP X a) : X.drop 26 = .int .i64 a.lo :: X.drop 27 := by
  have h1 := h.d 7
  have h2 := h.d 8
  rw [show 27 = 19 + 8 from rfl, h2, show 26 = 19 + 7 from rfl, h1]; rfl
theorem AcP.d27 (h : AcP X a) : X.drop 27 = .int .i64 a.hi :: X.drop 28 := by
  have h1 := h.d 8
  have h2 := h.d 9
  rw [show 28 = 19 + 9 from rfl, h2, show 27 = 19 + 8 from rfl, h1]; rfl
theorem AcP.d28 (h : AcP X a) : X.drop 28 = a.key.map byteC := h.d 9
end
def nameE (k : Int) : List UInt8 := if k = 1 then wPlain else if k = 2 then wDatagram else if k = 3 then wTick else if k = 4 then wEntropy else if k = 5 then wControl else []
def nameK (k : Int) : List UInt8 := if k = 2 then wHandoff else if k = 3 then wPick else if k = 4 then wAbort else if k = 5 then wKill else if k = 6 then wCorrupt else if k = 7 then wCut else []
def nameS (a : Ac) : List UInt8 := if a.kind = 1 then nameE a.ev.kind else nameK a.kind
end Go.Proofs.YtcbdghgogmcllaaGreatDoor
end
section
namespace Go.Proofs.YtcbdghgogmcllaaGreatDoor
open Go Go.Sy
theorem kE_SC0 {α : Type} {x y : α} (h : Is x y := by first | ((try simp (disch := first | omega | (simp only [yZ, yB] <;> omega) | fail) [go_sem, yY, *, lookC, if_pos, if_neg, -List.map_take, -List.map_drop, -List.map_append, -List.map_reverse]); exact rfl) | fail) : Is x y := h
theorem kD_SC0 {p : Prop} (h : p := by (first | omega | assumption | exact rfl | ((simp (disch := first | omega | (simp only [yZ, yB] <;> omega) | fail) [go_sem, yY, *, lookC, -List.map_take, -List.map_drop, -List.map_append, -List.map_reverse]) <;> (first | done | omega | exact rfl)) | fail)) : p := h
theorem wB_SC0 {p q : Prop} (k : q) (h : Hq q → p := by (intro k; (repeat' (first | (with_reducible first | apply jA | apply jB | apply jC | apply jD | apply jE | apply jF | apply jG | apply jH | apply jI | apply jJ | apply jK | apply jL | apply jM | apply jN | apply jO) | ((with_reducible first | apply jP | apply jQ); rfl) | ((first | ((with_reducible first | apply jR | apply jS | apply jT); rfl; rfl) | (with_reducible first | apply jU | apply jV | apply jW) | ((with_reducible first | apply jX | apply jY | apply jZ); rfl) | ((with_reducible first | apply kA | apply kB | apply kC); rfl)); all_goals (first | ((with_reducible show Is _ _); exact kE_SC0) | ((with_reducible refine fun (hc : (_ : Bool) = _) => ?_); (try simp only [xZ, xY, xP, reduceCtorEq] at hc); (try (have hx : True := hc; clear hx hc)); (try exact kX)) | ((with_reducible show ACall _ _ _ _ _); (first | ((with_reducible apply c0) <;> exact kD_SC0) | ((with_reducible apply c1) <;> exact kD_SC0) | ((with_reducible apply c2) <;> exact kD_SC0) | ((with_reducible apply c3) <;> exact kD_SC0) | ((with_reducible apply c4) <;> exact kD_SC0) | ((with_reducible apply c5) <;> exact kD_SC0) | ((with_reducible apply c6) <;> exact kD_SC0) | ((with_reducible apply c7) <;> exact kD_SC0))) | ((fail_if_success (with_reducible first | show Is _ _ | show ACall _ _ _ _ _)); (try ((with_reducible show _ ∨ _); exact kT))))) | (((with_reducible first | apply o_callQ | apply q_callQ); rfl); (iterate 2 exact kE_SC0); (first | ((with_reducible apply q0) <;> exact kD_SC0))))); exact hq k)) : p := h ⟨k⟩
theorem w_SC00 {p q : Prop}  (k : q) (h : Hq q → p := by (intro  k; exact wB_SC0 (hq k))) : p := h  ⟨k⟩
theorem name_in (a : Ac) (h : AcL a) : PC Tryz.prog true 47 [.agg (acC a)] (.str (nameS a)) := by
  have p := ac_parts h
  have q0 := p.d0
  have q1 := p.h1
  refine acall_AWc mixed Tryz.func47 rfl (by kernel_rfl) (by rw [Tryz.ntmps47]; simp) ?_
  unfold nameS
  generalize acC a = X at *
  generalize a.kind = k at *
  generalize a.ev.kind = j at *
  clear p h
  refine AWc_w mixed (by kernel_rfl) (fun fr B => fr 1 = .ptr 0 0 ∧ B = [⟨X, false⟩]) ?_ ?_
  · refine w_SC00 ?_ 
    exact ⟨kS, rfl⟩
  rintro fr B ⟨f1, rfl⟩
  refine AWc_seq ?_
  refine AWc_map (l1 := [_, _, _, _, _]) (l2 := [_, _]) rfl (by rfl) fun r => ?_
  repeat' (first | ((with_reducible apply m_ins); (iterate 7 exact kE)) | ((with_reducible apply m_op); rfl; rfl; rfl; rfl; exact kE) | (with_reducible apply m_nil))
  refine w_SC00 ?_ 
  refine AWc_seq ?_
  refine AWc_map (l1 := [_, _, _, _, _, _]) (l2 := [_, _]) rfl (by rfl) fun r2 => ?_
  repeat' (first | ((with_reducible apply m_ins); (iterate 7 exact kE)) | ((with_reducible apply m_op); rfl; rfl; rfl; rfl; exact kE) | (with_reducible apply m_nil))
  refine w_SC00 ?_ 
  refine WPc_sound mixed.mixed _ _ _ _ (by kernel_rfl) ?_
  by_cases e1 : k = 1
  · subst e1
    by_cases c1 : j = 1
    · subst c1
      refine w_SC00 ?_ 
      (simp (disch := omega) [go_sem, *, nameE, wPlain]) <;> (try omega)
    by_cases c2 : j = 2
    · subst c2
      refine w_SC00 ?_ 
      (simp (disch := omega) [go_sem, *, nameE, wDatagram]) <;> (try omega)
    by_cases c3 : j = 3
    · subst c3
      refine w_SC00 ?_ 
      (simp (disch := omega) [go_sem, *, nameE, wTick]) <;> (try omega)
    by_cases c4 : j = 4
    · subst c4
      refine w_SC00 ?_ 
      (simp (disch := omega) [go_sem, *, nameE, wEntropy]) <;> (try omega)
    by_cases c5 : j = 5
    · subst c5
      refine w_SC00 ?_ 
      (simp (disch := omega) [go_sem, *, nameE, wControl]) <;> (try omega)
    · have b1 : (j == 1) = false := by simpa using c1
      have b2 : (j == 2) = false := by simpa using c2
      have b3 : (j == 3) = false := by simpa using c3
      have b4 : (j == 4) = false := by simpa using c4
      have b5 : (j == 5) = false := by simpa using c5
      refine w_SC00 ?_ 
      (simp (disch := omega) [go_sem, *, nameE]) <;> (try omega)
  have b1 : (k == 1) = false := by simpa using e1
  by_cases c2 : k = 2
  · subst c2
    refine w_SC00 ?_ 
    (simp (disch := omega) [go_sem, *, nameK, wHandoff]) <;> (try omega)
  by_cases c3 : k = 3
  · subst c3
    refine w_SC00 ?_ 
    (simp (disch := omega) [go_sem, *, nameK, wPick]) <;> (try omega)
  by_cases c4 : k = 4
  · subst c4
    refine w_SC00 ?_ 
    (simp (disch := omega) [go_sem, *, nameK, wAbort]) <;> (try omega)
  by_cases c5 : k = 5
  · subst c5
    refine w_SC00 ?_ 
    (simp (disch := omega) [go_sem, *, nameK, wKill]) <;> (try omega)
  by_cases c6 : k = 6
  · subst c6
    refine w_SC00 ?_ 
    (simp (disch := omega) [go_sem, *, nameK, wCorrupt]) <;> (try omega)
  by_cases c7 : k = 7
  · subst c7
    refine w_SC00 ?_ 
    (simp (disch := omega) [go_sem, *, nameK, wCut]) <;> (try omega)
  · have b2 : (k == 2) = false := by simpa using c2
    have b3 : (k == 3) = false := by simpa using c3
    have b4 : (k == 4) = false := by simpa using c4
    have b5 : (k == 5) = false := by simpa using c5
    have b6 : (k == 6) = false := by simpa using c6
    have b7 : (k == 7) = false := by simpa using c7
    refine w_SC00 ?_ 
    (simp (disch := omega) [go_sem, *, nameK]) <;> (try omega)
theorem name_at {B : List Box} {args : List CV} {a : Ac} {w : List UInt8} (hz : Is (omap (Go.Sy.fz true false B 6) args) (some [.agg (acC a)])) (h : AcL a) (hw : nameS a = w) : ACall Tryz.prog 47 args B fun c B' => c = .str w ∧ B' = B := by
  subst hw
  exact acall_fresh hz (name_in a h)
end Go.Proofs.YtcbdghgogmcllaaGreatDoor
end
section
namespace Go.Proofs.YtcbdghgogmcllaaGreatDoor
open Go Go.Sy
theorem kE_SD0 {α : Type} {x y : α} (h : Is x y := by first | ((try simp (disch := first | omega | (simp only [yZ, yB] <;> omega) | fail) [go_sem, yY, *, lb, if_pos, if_neg, -List.map_take, -List.map_drop, -List.map_append, -List.map_reverse]); exact rfl) | fail) : Is x y := h
theorem kD_SD0 {p : Prop} (h : p := by (first | omega | assumption | exact rfl | ((simp (disch := first | omega | (simp only [yZ, yB] <;> omega) | fail) [go_sem, yY, *, lb, -List.map_take, -List.map_drop, -List.map_append, -List.map_reverse]) <;> (first | done | omega | exact rfl)) | fail)) : p := h
theorem wB_SD0 {p q : Prop} (k : q) (h : Hq q → p := by (intro k; (repeat' (first | (with_reducible first | apply jA | apply jB | apply jC | apply jD | apply jE | apply jF | apply jG | apply jH | apply jI | apply jJ | apply jK | apply jL | apply jM | apply jN | apply jO) | ((with_reducible first | apply jP | apply jQ); rfl) | ((first | ((with_reducible first | apply jR | apply jS | apply jT); rfl; rfl) | (with_reducible first | apply jU | apply jV | apply jW) | ((with_reducible first | apply jX | apply jY | apply jZ); rfl) | ((with_reducible first | apply kA | apply kB | apply kC); rfl)); all_goals (first | ((with_reducible show Is _ _); exact kE_SD0) | ((with_reducible refine fun (hc : (_ : Bool) = _) => ?_); (try simp only [xZ, xY, xP, reduceCtorEq] at hc); (try (have hx : True := hc; clear hx hc)); (try exact kX)) | ((with_reducible show ACall _ _ _ _ _); (first | ((with_reducible apply c0) <;> exact kD_SD0) | ((with_reducible apply c1) <;> exact kD_SD0) | ((with_reducible apply c2) <;> exact kD_SD0) | ((with_reducible apply c3) <;> exact kD_SD0) | ((with_reducible apply c4) <;> exact kD_SD0) | ((with_reducible apply c5) <;> exact kD_SD0) | ((with_reducible apply c6) <;> exact kD_SD0) | ((with_reducible apply c7) <;> exact kD_SD0))) | ((fail_if_success (with_reducible first | show Is _ _ | show ACall _ _ _ _ _)); (try ((with_reducible show _ ∨ _); exact kT))))) | (((with_reducible first | apply o_callQ | apply q_callQ); rfl); (iterate 2 exact kE_SD0); (first | ((with_reducible apply q0) <;> exact kD_SD0))))); exact hq k)) : p := h ⟨k⟩
theorem w_SD00 {p q : Prop}  (k : q) (h : Hq q → p := by (intro  k; exact wB_SD0 (hq k))) : p := h  ⟨k⟩
theorem w_SD01 {A0 p q : Prop} (c0 : A0) (k : q) (h : A0 → Hq q → p := by (intro c0 k; exact wB_SD0 (hq k))) : p := h c0 ⟨k⟩
def hexW (l : List UInt8) : List UInt8 := if l = [] then [45] else hexS l
theorem hexW_in (l : List UInt8) (hl : l.length < 1073741823) : PC Tryz.prog true 69 [lb l] (.str (hexW l)) := by
  have hh : ∀ {B : List Box} {args : List CV}, Is (omap (fz true false B 6) args) (some [.lst l.length (l.map byteC) false]) → ACall Tryz.prog 84 args B fun c B' => c = .str (hexS l) ∧ B' = B := fun h => hex_at h hl
  refine acall_intro mixed Tryz.func69 rfl ca69 (by kernel_rfl) (by rw [Tryz.ntmps69]; simp) ?_
  by_cases h : l = []
  · subst h
    rw [hexW, if_pos rfl]
    refine w_SD00 ?_ 
    rfl
  · rw [hexW, if_neg h]
    have h0 : l.length ≠ 0 := fun e => h (List.eq_nil_of_length_eq_zero e)
    have hm : (l.map byteC).length = l.length := List.length_map _
    generalize hexS l = s at *
    refine w_SD01 @hh ?_ 
    rfl
theorem hexW_at {B : List Box} {args : List CV} {l : List UInt8} {n : Nat} (hz : Is (omap (fz true false B 6) args) (some [.lst n (l.map byteC) false])) (hn : n = l.length) (hl : l.length < 1073741823) : ACall Tryz.prog 69 args B fun c B' => c = .str (hexW l) ∧ B' = B := by
  subst hn
  exact acall_fresh hz (hexW_in l hl)
theorem wr1_in (a : Ac) (h : AcL a) : PC Tryz.prog true 68 [.agg (acC a)] (.lst 1 [.str (hexW a.ev.bytes)] false) := by
  have p := ac_parts h
  have q := p.d20
  have hx : ∀ {B : List Box} {args : List CV}, Is (omap (fz true false B 6) args) (some [.lst a.ev.bytes.length (a.ev.bytes.map byteC) false]) → ACall Tryz.prog 69 args B fun c B' => c = .str (hexW a.ev.bytes) ∧ B' = B := fun hz => hexW_at hz rfl (by have := h.ev.bytes; omega)
  have hf : ∀ {B : List Box}, ACall Tryz.prog 77 [.int .i64 a.ev.time, .int .i64 10] B fun c B' => c = .str (Go.Lib.itoa a.ev.time) ∧ B' = B := fmt10_at h.ev.time
  have hi : ∀ {B : List Box}, ACall Tryz.prog 83 [.int .i64 a.who] B fun c B' => c = .str (Go.Lib.itoa a.who) ∧ B' = B := itoa_at h.who
  have hb : a.ev.bytes.length < 1000000 := h.ev.bytes
  clear p h
  generalize acC a = X at *
  generalize hexW a.ev.bytes = s at *
  generalize Go.Lib.itoa a.ev.time = s2 at *
  generalize Go.Lib.itoa a.who = s3 at *
  refine acall_intro mixed Tryz.func68 rfl ca68 (by kernel_rfl) (by rw [Tryz.ntmps68]; simp) ?_
  refine w1 @hx ?_ 
  rfl
theorem wr5_in (a : Ac) (h : AcL a) : PC Tryz.prog true 76 [.agg (acC a)] (.lst 1 [.str (Go.Lib.itoa a.ev.time)] false) := by
  have p := ac_parts h
  have q := p.d21
  have hx : ∀ {B : List Box} {args : List CV}, Is (omap (fz true false B 6) args) (some [.lst a.ev.bytes.length (a.ev.bytes.map byteC) false]) → ACall Tryz.prog 69 args B fun c B' => c = .str (hexW a.ev.bytes) ∧ B' = B := fun hz => hexW_at hz rfl (by have := h.ev.bytes; omega)
  have hf : ∀ {B : List Box}, ACall Tryz.prog 77 [.int .i64 a.ev.time, .int .i64 10] B fun c B' => c = .str (Go.Lib.itoa a.ev.time) ∧ B' = B := fmt10_at h.ev.time
  have hi : ∀ {B : List Box}, ACall Tryz.prog 83 [.int .i64 a.who] B fun c B' => c = .str (Go.Lib.itoa a.who) ∧ B' = B := itoa_at h.who
  have hb : a.ev.bytes.length < 1000000 := h.ev.bytes
  clear p h
  generalize acC a = X at *
  generalize hexW a.ev.bytes = s at *
  generalize Go.Lib.itoa a.ev.time = s2 at *
  generalize Go.Lib.itoa a.who = s3 at *
  refine acall_intro mixed Tryz.func76 rfl ca76 (by kernel_rfl) (by rw [Tryz.ntmps76]; simp) ?_
  refine w1 @hf ?_ 
  rfl
theorem wr7_in (a : Ac) (h : AcL a) : PC Tryz.prog true 80 [.agg (acC a)] (.lst 1 [.str (hexW a.ev.bytes)] false) := by
  have p := ac_parts h
  have q := p.d20
  have hx : ∀ {B : List Box} {args : List CV}, Is (omap (fz true false B 6) args) (some [.lst a.ev.bytes.length (a.ev.bytes.map byteC) false]) → ACall Tryz.prog 69 args B fun c B' => c = .str (hexW a.ev.bytes) ∧ B' = B := fun hz => hexW_at hz rfl (by have := h.ev.bytes; omega)
  have hf : ∀ {B : List Box}, ACall Tryz.prog 77 [.int .i64 a.ev.time, .int .i64 10] B fun c B' => c = .str (Go.Lib.itoa a.ev.time) ∧ B' = B := fmt10_at h.ev.time
  have hi : ∀ {B : List Box}, ACall Tryz.prog 83 [.int .i64 a.who] B fun c B' => c = .str (Go.Lib.itoa a.who) ∧ B' = B := itoa_at h.who
  have hb : a.ev.bytes.length < 1000000 := h.ev.bytes
  clear p h
  generalize acC a = X at *
  generalize hexW a.ev.bytes = s at *
  generalize Go.Lib.itoa a.ev.time = s2 at *
  generalize Go.Lib.itoa a.who = s3 at *
  refine acall_intro mixed Tryz.func80 rfl ca80 (by kernel_rfl) (by rw [Tryz.ntmps80]; simp) ?_
  refine w1 @hx ?_ 
  rfl
theorem wrB_in (a : Ac) (h : AcL a) : PC Tryz.prog true 120 [.agg (acC a)] (.lst 1 [.str (Go.Lib.itoa a.who)] false) := by
  have p := ac_parts h
  have q := p.d23
  have hx : ∀ {B : List Box} {args : List CV}, Is (omap (fz true false B 6) args) (some [.lst a.ev.bytes.length (a.ev.bytes.map byteC) false]) → ACall Tryz.prog 69 args B fun c B' => c = .str (hexW a.ev.bytes) ∧ B' = B := fun hz => hexW_at hz rfl (by have := h.ev.bytes; omega)
  have hf : ∀ {B : List Box}, ACall Tryz.prog 77 [.int .i64 a.ev.time, .int .i64 10] B fun c B' => c = .str (Go.Lib.itoa a.ev.time) ∧ B' = B := fmt10_at h.ev.time
  have hi : ∀ {B : List Box}, ACall Tryz.prog 83 [.int .i64 a.who] B fun c B' => c = .str (Go.Lib.itoa a.who) ∧ B' = B := itoa_at h.who
  have hb : a.ev.bytes.length < 1000000 := h.ev.bytes
  clear p h
  generalize acC a = X at *
  generalize hexW a.ev.bytes = s at *
  generalize Go.Lib.itoa a.ev.time = s2 at *
  generalize Go.Lib.itoa a.who = s3 at *
  refine acall_intro mixed Tryz.func120 rfl ca120 (by kernel_rfl) (by rw [Tryz.ntmps120]; simp) ?_
  refine w1 @hi ?_ 
  rfl
theorem wr3_in (a : Ac) (h : AcL a) : PC Tryz.prog true 72 [.agg (acC a)] (.lst 2 [.str (fmtE a.ev.six a.ev.ip a.ev.port), .str (hexW a.ev.bytes)] false) := by
  have p := ac_parts h
  have q := p.d20
  have q2 := p.t2
  have hl : 18 ≤ (acC a).length - 2 := by have := p.len; omega
  have hx : ∀ {B : List Box} {args : List CV}, Is (omap (fz true false B 6) args) (some [.lst a.ev.bytes.length (a.ev.bytes.map byteC) false]) → ACall Tryz.prog 69 args B fun c B' => c = .str (hexW a.ev.bytes) ∧ B' = B := fun hz => hexW_at hz rfl (by have := h.ev.bytes; omega)
  have hf : ∀ {B : List Box} {args : List CV}, Is (omap (fz true false B 6) args) (some [prefC a.ev.six a.ev.ip a.ev.port]) → ACall Tryz.prog 73 args B fun c B' => c = .str (fmtE a.ev.six a.ev.ip a.ev.port) ∧ B' = B := fun hz => fmtE_at hz h.ev.ip h.ev.port
  rw [prefC] at hf
  have hb : a.ev.bytes.length < 1000000 := h.ev.bytes
  clear p h
  generalize acC a = X at *
  generalize hexW a.ev.bytes = s at *
  generalize fmtE a.ev.six a.ev.ip a.ev.port = s2 at *
  refine acall_intro mixed Tryz.func72 rfl ca72 (by kernel_rfl) (by rw [Tryz.ntmps72]; simp) ?_
  repeat' (first | (with_reducible first | apply jA | apply jB | apply jC | apply jD | apply jE | apply jF | apply jG | apply jH | apply jI | apply jJ | apply jK | apply jL | apply jM | apply jN | apply jO) | ((with_reducible first | apply jP | apply jQ); rfl) | ((with_reducible apply w_drawA); (conv => lhs; reduce); exact kE; exact kE) | ((first | ((with_reducible first | apply d_made | apply q_made); rfl; rfl)); (iterate 6 exact kE)) | ((first | ((with_reducible first | apply d_fop | apply q_fop); rfl; rfl)); (intro Bx hJ; (first | (obtain ⟨_, hJ1, hJ2⟩ := hJ) | (try simp only at hJ)); exact kE)) | ((with_reducible first | apply d_free | apply q_free); rfl; (iterate 2 exact kE); (intro Bx hJ); (first | ((with_reducible apply hx) <;> exact kD) | ((with_reducible apply hf) <;> exact kD))) | ((first | ((with_reducible first | apply jR | apply jS | apply jT); rfl; rfl) | (with_reducible first | apply jU | apply jV | apply jW) | ((with_reducible first | apply jX | apply jY | apply jZ); rfl) | ((with_reducible first | apply kA | apply kB | apply kC); rfl)); all_goals (first | ((with_reducible show Is _ _); exact kE) | ((with_reducible refine fun (hc : (_ : Bool) = _) => ?_); (try simp only [xZ, xY, xP, reduceCtorEq] at hc); (try (have hx : True := hc; clear hx hc)); (try exact kX)) | ((with_reducible show ACall _ _ _ _ _); (first | ((with_reducible apply hx) <;> exact kD) | ((with_reducible apply hf) <;> exact kD))) | ((fail_if_success (with_reducible first | show Is _ _ | show ACall _ _ _ _ _)); (try ((with_reducible show _ ∨ _); first | exact .inl rfl | (refine .inr ⟨rfl, ?_, ?_⟩; (focus (repeat (first | exact trivial | refine ⟨.inl rfl, ?_⟩ | refine ⟨.inr rfl, ?_⟩ | refine ⟨.inr (by (simp (disch := first | omega | (simp only [yZ, yB] <;> omega) | fail) [go_sem, yY, *, -List.map_take, -List.map_drop, -List.map_append, -List.map_reverse])), ?_⟩))); (first | exact trivial | exact rfl | (refine ⟨_, ?_, ?_⟩; (focus (simp (disch := first | omega | (simp only [yZ, yB] <;> omega) | fail) [go_sem, yY, *, -List.map_take, -List.map_drop, -List.map_append, -List.map_reverse]; (try exact rfl))); (simp (disch := first | omega | (simp only [yZ, yB] <;> omega) | fail) [go_sem, yY, *, -List.map_take, -List.map_drop, -List.map_append, -List.map_reverse])) | (simp (disch := first | omega | (simp only [yZ, yB] <;> omega) | fail) [go_sem, yY, *, -List.map_take, -List.map_drop, -List.map_append, -List.map_reverse]))) | exact .inl (by (simp (disch := first | omega | (simp only [yZ, yB] <;> omega) | fail) [go_sem, yY, *, -List.map_take, -List.map_drop, -List.map_append, -List.map_reverse]))))))))
  rfl
theorem wr9_in (a : Ac) (h : AcL a) : PC Tryz.prog true 82 [.agg (acC a)] (.lst 3 [.str (Go.Lib.itoa a.lo), .str (Go.Lib.itoa a.hi), .str (hexS a.key)] false) := by
  have p := ac_parts h
  have q26 := p.d26
  have q27 := p.d27
  have q28 := p.d28
  have hl : 60 ≤ (acC a).length := by have := p.len; omega
  have hkk : a.key.take 32 = a.key := List.take_of_length_le (by have := h.key; omega)
  have hx : ∀ {B : List Box} {args : List CV}, Is (omap (fz true false B 6) args) (some [.lst 32 (a.key.map byteC) false]) → ACall Tryz.prog 84 args B fun c B' => c = .str (hexS a.key) ∧ B' = B := fun {B args} hz => by
    have e : (32 : Nat) = a.key.length := h.key.symm
    rw [e] at hz
    exact hex_at hz (by have := h.key; omega)
  have hi : ∀ {B : List Box}, ACall Tryz.prog 83 [.int .i64 a.lo] B fun c B' => c = .str (Go.Lib.itoa a.lo) ∧ B' = B := itoa_at h.lo
  have hj : ∀ {B : List Box}, ACall Tryz.prog 83 [.int .i64 a.hi] B fun c B' => c = .str (Go.Lib.itoa a.hi) ∧ B' = B := itoa_at h.hi
  clear p h
  generalize acC a = X at *
  generalize hexS a.key = s at *
  generalize Go.Lib.itoa a.lo = s2 at *
  generalize Go.Lib.itoa a.hi = s3 at *
  refine acall_intro mixed Tryz.func82 rfl ca82 (by kernel_rfl) (by rw [Tryz.ntmps82]; simp) ?_
  repeat' (first | (with_reducible first | apply jA | apply jB | apply jC | apply jD | apply jE | apply jF | apply jG | apply jH | apply jI | apply jJ | apply jK | apply jL | apply jM | apply jN | apply jO) | ((with_reducible first | apply jP | apply jQ); rfl) | ((with_reducible apply w_drawA); (conv => lhs; reduce); exact kE; exact kE) | ((first | ((with_reducible first | apply d_made | apply q_made); rfl; rfl)); (iterate 6 exact kE)) | ((first | ((with_reducible first | apply d_fop | apply q_fop); rfl; rfl)); (intro Bx hJ; (first | (obtain ⟨_, hJ1, hJ2⟩ := hJ) | (try simp only at hJ)); exact kE)) | ((with_reducible first | apply d_free | apply q_free); rfl; (iterate 2 exact kE); (intro Bx hJ); (first | ((with_reducible apply hx) <;> exact kD) | ((with_reducible apply hi) <;> exact kD) | ((with_reducible apply hj) <;> exact kD))) | ((first | ((with_reducible first | apply jR | apply jS | apply jT); rfl; rfl) | (with_reducible first | apply jU | apply jV | apply jW) | ((with_reducible first | apply jX | apply jY | apply jZ); rfl) | ((with_reducible first | apply kA | apply kB | apply kC); rfl)); all_goals (first | ((with_reducible show Is _ _); exact kE) | ((with_reducible refine fun (hc : (_ : Bool) = _) => ?_); (try simp only [xZ, xY, xP, reduceCtorEq] at hc); (try (have hx : True := hc; clear hx hc)); (try exact kX)) | ((with_reducible show ACall _ _ _ _ _); (first | ((with_reducible apply hx) <;> exact kD) | ((with_reducible apply hi) <;> exact kD) | ((with_reducible apply hj) <;> exact kD))) | ((fail_if_success (with_reducible first | show Is _ _ | show ACall _ _ _ _ _)); (try ((with_reducible show _ ∨ _); first | exact .inl rfl | (refine .inr ⟨rfl, ?_, ?_⟩; (focus (repeat (first | exact trivial | refine ⟨.inl rfl, ?_⟩ | refine ⟨.inr rfl, ?_⟩ | refine ⟨.inr (by (simp (disch := first | omega | (simp only [yZ, yB] <;> omega) | fail) [go_sem, yY, *, -List.map_take, -List.map_drop, -List.map_append, -List.map_reverse])), ?_⟩))); (first | exact trivial | exact rfl | (refine ⟨_, ?_, ?_⟩; (focus (simp (disch := first | omega | (simp only [yZ, yB] <;> omega) | fail) [go_sem, yY, *, -List.map_take, -List.map_drop, -List.map_append, -List.map_reverse]; (try exact rfl))); (simp (disch := first | omega | (simp only [yZ, yB] <;> omega) | fail) [go_sem, yY, *, -List.map_take, -List.map_drop, -List.map_append, -List.map_reverse])) | (simp (disch := first | omega | (simp only [yZ, yB] <;> omega) | fail) [go_sem, yY, *, -List.map_take, -List.map_drop, -List.map_append, -List.map_reverse]))) | exact .inl (by (simp (disch := first | omega | (simp only [yZ, yB] <;> omega) | fail) [go_sem, yY, *, -List.map_take, -List.map_drop, -List.map_append, -List.map_reverse]))))))))
  rfl
theorem wan_at {B : List Box} {args : List CV} {a : Ac} (hz : Is (omap (fz true false B 6) args) (some [.agg (acC a)])) (h : AcL a) : ACall Tryz.prog 89 args B fun c B' => c = .cview B.length 0 2 2 1 ∧ B' = B ++ [⟨[.str (Go.Lib.itoa a.who), .str (Go.Lib.itoa a.n)], false⟩] := by
  have p := ac_parts h
  have q23 := p.d23
  have q24 := p.d24
  have hi : ∀ {B : List Box}, ACall Tryz.prog 83 [.int .i64 a.who] B fun c B' => c = .str (Go.Lib.itoa a.who) ∧ B' = B := itoa_at h.who
  have hj : ∀ {B : List Box}, ACall Tryz.prog 83 [.int .i64 a.n] B fun c B' => c = .str (Go.Lib.itoa a.n) ∧ B' = B := itoa_at h.n
  clear p h
  generalize acC a = X at *
  generalize Go.Lib.itoa a.who = s2 at *
  generalize Go.Lib.itoa a.n = s3 at *
  refine acall_ownK hz (Q := fun c B1 => ∃ b, c = .cview b 0 2 2 1 ∧ B1[b]? = some ⟨[.str s2, .str s3], false⟩) ?_ ?_
  · refine acall_intro mixed Tryz.func89 rfl ca89 (by kernel_rfl) (by rw [Tryz.ntmps89]; simp) ?_
    repeat' (first | (with_reducible first | apply jA | apply jB | apply jC | apply jD | apply jE | apply jF | apply jG | apply jH | apply jI | apply jJ | apply jK | apply jL | apply jM | apply jN | apply jO) | ((with_reducible first | apply jP | apply jQ); rfl) | ((with_reducible apply w_drawA); (conv => lhs; reduce); exact kE; exact kE) | ((first | ((with_reducible first | apply d_made | apply q_made); rfl; rfl)); (iterate 6 exact kE)) | ((first | ((with_reducible first | apply d_fop | apply q_fop); rfl; rfl)); (intro Bx hJ; (first | (obtain ⟨_, hJ1, hJ2⟩ := hJ) | (try simp only at hJ)); exact kE)) | ((with_reducible first | apply d_free | apply q_free); rfl; (iterate 2 exact kE); (intro Bx hJ); (first | ((with_reducible apply hi) <;> exact kD) | ((with_reducible apply hj) <;> exact kD))) | ((first | ((with_reducible first | apply jR | apply jS | apply jT); rfl; rfl) | (with_reducible first | apply jU | apply jV | apply jW) | ((with_reducible first | apply jX | apply jY | apply jZ); rfl) | ((with_reducible first | apply kA | apply kB | apply kC); rfl)); all_goals (first | ((with_reducible show Is _ _); exact kE) | ((with_reducible refine fun (hc : (_ : Bool) = _) => ?_); (try simp only [xZ, xY, xP, reduceCtorEq] at hc); (try (have hx : True := hc; clear hx hc)); (try exact kX)) | ((with_reducible show ACall _ _ _ _ _); (first | ((with_reducible apply hi) <;> exact kD) | ((with_reducible apply hj) <;> exact kD))) | ((fail_if_success (with_reducible first | show Is _ _ | show ACall _ _ _ _ _)); (try ((with_reducible show _ ∨ _); first | exact .inl rfl | (refine .inr ⟨rfl, ?_, ?_⟩; (focus (repeat (first | exact trivial | refine ⟨.inl rfl, ?_⟩ | refine ⟨.inr rfl, ?_⟩ | refine ⟨.inr (by (simp (disch := first | omega | (simp only [yZ, yB] <;> omega) | fail) [go_sem, yY, *, -List.map_take, -List.map_drop, -List.map_append, -List.map_reverse])), ?_⟩))); (first | exact trivial | exact rfl | (refine ⟨_, ?_, ?_⟩; (focus (simp (disch := first | omega | (simp only [yZ, yB] <;> omega) | fail) [go_sem, yY, *, -List.map_take, -List.map_drop, -List.map_append, -List.map_reverse]; (try exact rfl))); (simp (disch := first | omega | (simp only [yZ, yB] <;> omega) | fail) [go_sem, yY, *, -List.map_take, -List.map_drop, -List.map_append, -List.map_reverse])) | (simp (disch := first | omega | (simp only [yZ, yB] <;> omega) | fail) [go_sem, yY, *, -List.map_take, -List.map_drop, -List.map_append, -List.map_reverse]))) | exact .inl (by (simp (disch := first | omega | (simp only [yZ, yB] <;> omega) | fail) [go_sem, yY, *, -List.map_take, -List.map_drop, -List.map_append, -List.map_reverse]))))))))
    exact ⟨1, rfl, rfl⟩
  · rintro c B1 ⟨b, rfl, hb⟩
    exact .inr (.inr ⟨b, 0, 2, 2, 1, _, rfl, hb, rfl, by omega, rfl, rfl, rfl⟩)
theorem wr10_in (a : Ac) (h : AcL a) : PC Tryz.prog true 88 [.agg (acC a)] (.lst 3 [.str (Go.Lib.itoa a.who), .str (Go.Lib.itoa a.n), .str (hexS [a.xor])] false) := by
  have p := ac_parts h
  have q25 := p.d25
  have qa := p.all
  have hl : 60 ≤ (acC a).length := by have := p.len; omega
  have hx : ∀ {B : List Box} {args : List CV}, Is (omap (fz true false B 6) args) (some [.lst 1 [byteC a.xor] false]) → ACall Tryz.prog 84 args B fun c B' => c = .str (hexS [a.xor]) ∧ B' = B := fun {B args} hz => hex_at (l := [a.xor]) hz (by simp)
  have hw : ∀ {B : List Box} {args : List CV}, Is (omap (fz true false B 6) args) (some [.agg (acC a)]) → ACall Tryz.prog 89 args B fun c B' => c = .cview B.length 0 2 2 1 ∧ B' = B ++ [⟨[.str (Go.Lib.itoa a.who), .str (Go.Lib.itoa a.n)], false⟩] := fun hz => wan_at hz h
  have ho : ∀ {nz : Bool} {B : List Box} {k : Nat}, omap (Go.Sy.fz nz false B (k + 3)) (acC a) = some (acC a) := ac_om h
  clear p h
  generalize acC a = X at *
  generalize hexS [a.xor] = s at *
  generalize Go.Lib.itoa a.who = s2 at *
  generalize Go.Lib.itoa a.n = s3 at *
  refine acall_intro mixed Tryz.func88 rfl ca88 (by kernel_rfl) (by rw [Tryz.ntmps88]; simp) ?_
  repeat' (first | (with_reducible first | apply jA | apply jB | apply jC | apply jD | apply jE | apply jF | apply jG | apply jH | apply jI | apply jJ | apply jK | apply jL | apply jM | apply jN | apply jO) | ((with_reducible apply jP); rfl) | ((first | ((with_reducible first | apply jR | apply jS | apply jT); rfl; rfl) | (with_reducible first | apply jU | apply jV | apply jW) | ((with_reducible first | apply jX | apply jY | apply jZ); rfl)); all_goals (first | ((with_reducible show Is _ _); exact kE) | ((with_reducible refine fun (hc : (_ : Bool) = _) => ?_); (try simp only [xZ, xY, xP, reduceCtorEq] at hc); (try (have hx : True := hc; clear hx hc)); (try exact kX)) | ((fail_if_success (with_reducible first | show Is _ _ | show ACall _ _ _ _ _)); (try ((with_reducible show _ ∨ _); exact kT))))))
  refine w_drawJ [3] [⟨[], false⟩] (fun B => B[0]? = some ⟨X, false⟩) rfl rfl rfl ?_
  repeat' (first | (with_reducible first | apply jA | apply jB | apply jC | apply jD | apply jE | apply jF | apply jG | apply jH | apply jI | apply jJ | apply jK | apply jL | apply jM | apply jN | apply jO) | ((with_reducible apply jP); rfl) | ((first | ((with_reducible first | apply d_made | apply q_made); rfl; rfl)); (iterate 6 exact kE)) | ((first | ((with_reducible first | apply d_fop | apply q_fop); rfl; rfl)); (intro Bx hJ; (first | (obtain ⟨_, hJ1, hJ2⟩ := hJ) | (try simp only at hJ)); exact kE)) | ((with_reducible first | apply d_free | apply q_free); rfl; (iterate 2 exact kE); (intro Bx hJ); (first | ((with_reducible apply hx) <;> exact kD) | ((with_reducible apply hw) <;> exact kD))) | ((first | ((with_reducible first | apply jR | apply jS | apply jT); rfl; rfl) | (with_reducible first | apply jU | apply jV | apply jW) | ((with_reducible first | apply jX | apply jY | apply jZ); rfl) | ((with_reducible first | apply kA | apply kB | apply kC); rfl)); all_goals (first | ((with_reducible show Is _ _); exact kE) | ((with_reducible refine fun (hc : (_ : Bool) = _) => ?_); (try simp only [xZ, xY, xP, reduceCtorEq] at hc); (try (have hx : True := hc; clear hx hc)); (try exact kX)) | ((with_reducible show ACall _ _ _ _ _); (first | ((with_reducible apply hx) <;> exact kD) | ((with_reducible apply hw) <;> exact kD))) | ((fail_if_success (with_reducible first | show Is _ _ | show ACall _ _ _ _ _)); (try ((with_reducible show _ ∨ _); first | exact .inl rfl | (refine .inr ⟨rfl, ?_, ?_⟩; (focus (repeat (first | exact trivial | refine ⟨.inl rfl, ?_⟩ | refine ⟨.inr rfl, ?_⟩ | refine ⟨.inr (by (simp (disch := first | omega | (simp only [yZ, yB] <;> omega) | fail) [go_sem, yY, *, -List.map_take, -List.map_drop, -List.map_append, -List.map_reverse])), ?_⟩))); (first | exact trivial | exact rfl | (refine ⟨_, ?_, ?_⟩; (focus (simp (disch := first | omega | (simp only [yZ, yB] <;> omega) | fail) [go_sem, yY, *, -List.map_take, -List.map_drop, -List.map_append, -List.map_reverse]; (try exact rfl))); (simp (disch := first | omega | (simp only [yZ, yB] <;> omega) | fail) [go_sem, yY, *, -List.map_take, -List.map_drop, -List.map_append, -List.map_reverse])) | (simp (disch := first | omega | (simp only [yZ, yB] <;> omega) | fail) [go_sem, yY, *, -List.map_take, -List.map_drop, -List.map_append, -List.map_reverse]))) | exact .inl (by (simp (disch := first | omega | (simp only [yZ, yB] <;> omega) | fail) [go_sem, yY, *, -List.map_take, -List.map_drop, -List.map_append, -List.map_reverse]))))))))
  rfl
theorem wrN_in (a : Ac) (h : AcL a) : PC Tryz.prog true 89 [.agg (acC a)] (.lst 2 [.str (Go.Lib.itoa a.who), .str (Go.Lib.itoa a.n)] false) := by
  refine (wan_at (B := []) (args := [.agg (acC a)]) (a := a) ?_ h).mono fun c B' hh => ?_
  · show omap _ [.agg (acC a)] = _
    rw [omap_two, fz_agg, ac_om h, omap_nil]; rfl
  · obtain ⟨rfl, rfl⟩ := hh
    rfl
end Go.Proofs.YtcbdghgogmcllaaGreatDoor
end
section
namespace Go.Proofs.YtcbdghgogmcllaaGreatDoor
open Go Go.Sy
def wordsE (e : Ev) : List (List UInt8) := if e.kind = 1 then [hexW e.bytes] else if e.kind = 2 then [fmtE e.six e.ip e.port, hexW e.bytes] else if e.kind = 3 then [Go.Lib.itoa e.time] else if e.kind = 4 then [hexW e.bytes] else []
def wordsS (a : Ac) : List (List UInt8) :=
  if a.kind = 1 then wordsE a.ev else if a.kind = 2 then [Go.Lib.itoa a.lo, Go.Lib.itoa a.hi, hexS a.key] else if a.kind = 3 then [Go.Lib.itoa a.who, Go.Lib.itoa a.n] else if a.kind = 4 then [Go.Lib.itoa a.who] else if a.kind = 5 then [Go.Lib.itoa a.who]
  else if a.kind = 6 then [Go.Lib.itoa a.who, Go.Lib.itoa a.n, hexS [a.xor]] else if a.kind = 7 then [Go.Lib.itoa a.who, Go.Lib.itoa a.n] else []
def lineS (a : Ac) : List UInt8 := if nameS a = wControl then wControl ++ [32] ++ a.ev.text ++ [10] else if nameS a = [] then [] else Go.Lib.join (nameS a :: wordsS a) [32] ++ [10]
theorem forms_at {M : CV} (hM : CV.imap formK formX = M) {B : List Box} {args : List CV} (hz : Is args []) : ACall Tryz.prog 46 args B fun c B' => c = M ∧ B' = B := by
  have hz : args = [] := hz
  subst hz hM
  exact acall_imm (nz := false) rfl forms_in
theorem line_core (a : Ac) (h : AcL a) {w : List UInt8} {L : List (List UInt8)} {n : Int} {g : Nat} {x : CV} (hw : nameS a = w) (hc : (w == wControl) = false) (hk : lookC Tryz.prog 101 (.imap formK formX) (.str w) true = some (.tup [.agg [.int .i64 n, .fn (.func g) [] [], x], .bool true]))
    (hx : cellsC x = some [x]) (hwr : ∀ {B : List Box} {args : List CV}, Is (omap (Go.Sy.fz true false B 6) args) (some [.agg (acC a)]) → ACall Tryz.prog g args B fun c B' => c = .lst L.length (L.map .str) false ∧ B' = B) (hL1 : 1 ≤ L.length) (hL : L.length < 1000) (hl : (Go.Lib.join (w :: L) [32]).length < 100000000) :
    PC Tryz.prog true 25 [.agg (acC a)] (.str (Go.Lib.join (w :: L) [32] ++ [10])) := by
  have p := ac_parts h
  have qa := p.all
  have qo := @ac_om a h
  have q60 : 60 ≤ (acC a).length := by have := p.len; omega
  obtain ⟨M, hM⟩ : ∃ M, CV.imap formK formX = M := ⟨_, rfl⟩
  rw [hM] at hk
  have hn : ∀ {B : List Box} {args : List CV}, Is (omap (Go.Sy.fz true false B 6) args) (some [.agg (acC a)]) → ACall Tryz.prog 47 args B fun c B' => c = .str w ∧ B' = B := fun hz => name_at hz h hw
  have hf : ∀ {B : List Box} {args : List CV}, Is args [] → ACall Tryz.prog 46 args B fun c B' => c = M ∧ B' = B := forms_at hM
  have hj : ∀ {B : List Box} {args : List CV} {n : Nat} {f : Bool}, Is (omap (Go.Sy.fz true false B 6) args) (some [.lst n ((w :: L).map .str) f, .str [32]]) → n = L.length + 1 → ACall Tryz.prog 48 args B fun c B' => c = .str (Go.Lib.join (w :: L) [32]) ∧ B' = B := fun hz hn => join_at hz (by simpa using hn) (by simp; omega) (by omega)
  have hml : (L.map CV.str).length = L.length := List.length_map _
  have hyt : (L.map CV.str).take L.length = L.map CV.str := List.take_of_length_le (by simp)
  have hL0 : L.length ≠ 0 := by omega
  have hL2 : ¬ (1 + L.length ≤ 1) := by omega
  rw [List.map_cons] at hj
  have hom : ∀ {nz fr : Bool} {B : List Box} {k : Nat}, omap (Go.Sy.fz nz fr B (k + 1)) (L.map CV.str) = some (L.map CV.str) := omap_map L fun _ _ => rfl
  generalize Go.Lib.join (w :: L) [32] = S at *
  clear p h hM
  generalize acC a = X at *
  generalize L.length = m at *
  generalize L.map CV.str = Y at *
  refine acall_intro mixed Tryz.func25 rfl ca25 (by kernel_rfl) (by rw [Tryz.ntmps25]; simp) ?_
  rw [wControl] at hc
  refine w4 @hn @hf @hwr @hj ?_ 
  all_goals rfl
end Go.Proofs.YtcbdghgogmcllaaGreatDoor
end
section
namespace Go.Proofs.YtcbdghgogmcllaaGreatDoor
open Go Go.Sy
theorem itoa_len {n : Int} (h : i64 n) : (Go.Lib.itoa n).length ≤ 21 := Go.Lib.itoa_length_le n h.1 h.2
theorem hexW_len {l : List UInt8} (h : l.length < 1000000) : (hexW l).length ≤ 2000000 := by
  unfold hexW
  split
  · simp
  · rw [hexS_len]; omega
def formZ : CV := .agg [.int .i64 0, .nilF, .nilF]
theorem line_ctl (a : Ac) (h : AcL a) (hw : nameS a = wControl) : PC Tryz.prog true 25 [.agg (acC a)] (.str (wControl ++ [32] ++ a.ev.text ++ [10])) := by
  have p := ac_parts h
  have qa := p.all
  have qt := p.d22
  have qo := @ac_om a h
  have q60 : 60 ≤ (acC a).length := by have := p.len; omega
  have hn : ∀ {B : List Box} {args : List CV}, Is (omap (Go.Sy.fz true false B 6) args) (some [.agg (acC a)]) → ACall Tryz.prog 47 args B fun c B' => c = .str wControl ∧ B' = B := fun hz => name_at hz h hw
  have ht : a.ev.text.length < 1000000 := h.ev.text
  clear p h
  generalize acC a = X at *
  refine acall_intro mixed Tryz.func25 rfl ca25 (by kernel_rfl) (by rw [Tryz.ntmps25]; simp) ?_
  rw [wControl] at *
  refine w1 @hn ?_ 
  all_goals rfl
theorem line_none (a : Ac) (h : AcL a) (hw : nameS a = []) : PC Tryz.prog true 25 [.agg (acC a)] (.str []) := by
  have p := ac_parts h
  have qa := p.all
  have qo := @ac_om a h
  have q60 : 60 ≤ (acC a).length := by have := p.len; omega
  have hk : lookC Tryz.prog 101 (.imap formK formX) (.str []) true = some (.tup [formZ, .bool false]) := by kernel_rfl
  obtain ⟨M, hM⟩ : ∃ M, CV.imap formK formX = M := ⟨_, rfl⟩
  rw [hM, formZ] at hk
  have hn : ∀ {B : List Box} {args : List CV}, Is (omap (Go.Sy.fz true false B 6) args) (some [.agg (acC a)]) → ACall Tryz.prog 47 args B fun c B' => c = .str [] ∧ B' = B := fun hz => name_at hz h hw
  have hf : ∀ {B : List Box} {args : List CV}, Is args [] → ACall Tryz.prog 46 args B fun c B' => c = M ∧ B' = B := forms_at hM
  clear p h
  generalize acC a = X at *
  refine acall_intro mixed Tryz.func25 rfl ca25 (by kernel_rfl) (by rw [Tryz.ntmps25]; simp) ?_
  refine w2 @hn @hf ?_ 
  all_goals rfl
theorem line_Plain (a : Ac) (h : AcL a) (hw : nameS a = wPlain) : PC Tryz.prog true 25 [.agg (acC a)] (.str (Go.Lib.join (wPlain :: [hexW a.ev.bytes]) [32] ++ [10])) := by
  refine line_core (n := 2) (g := 68) (x := fnC 70) a h hw (by decide) (by kernel_rfl) rfl (fun hz => acall_fresh hz (wr1_in a h)) (by simp) (by simp) ?_
  have h1 := itoa_len h.who
  have h2 := itoa_len h.n
  have h3 := itoa_len h.lo
  have h4 := itoa_len h.hi
  have h5 := itoa_len h.ev.time
  have h6 := hexW_len h.ev.bytes
  have h7 := fmtE_len a.ev.six a.ev.ip a.ev.port
  have h8 : (hexS a.key).length = 64 := by rw [hexS_len, h.key]
  have h9 : (hexS [a.xor]).length = 2 := by rw [hexS_len]; rfl
  have hw : (wPlain).length ≤ 8 := by decide
  simp [Go.Lib.join_cons, Go.Lib.joinTail]
  omega
theorem line_Datagram (a : Ac) (h : AcL a) (hw : nameS a = wDatagram) : PC Tryz.prog true 25 [.agg (acC a)] (.str (Go.Lib.join (wDatagram :: [fmtE a.ev.six a.ev.ip a.ev.port, hexW a.ev.bytes]) [32] ++ [10])) := by
  refine line_core (n := 3) (g := 72) (x := fnC 74) a h hw (by decide) (by kernel_rfl) rfl (fun hz => acall_fresh hz (wr3_in a h)) (by simp) (by simp) ?_
  have h1 := itoa_len h.who
  have h2 := itoa_len h.n
  have h3 := itoa_len h.lo
  have h4 := itoa_len h.hi
  have h5 := itoa_len h.ev.time
  have h6 := hexW_len h.ev.bytes
  have h7 := fmtE_len a.ev.six a.ev.ip a.ev.port
  have h8 : (hexS a.key).length = 64 := by rw [hexS_len, h.key]
  have h9 : (hexS [a.xor]).length = 2 := by rw [hexS_len]; rfl
  have hw : (wDatagram).length ≤ 8 := by decide
  simp [Go.Lib.join_cons, Go.Lib.joinTail]
  omega
theorem line_Tick (a : Ac) (h : AcL a) (hw : nameS a = wTick) : PC Tryz.prog true 25 [.agg (acC a)] (.str (Go.Lib.join (wTick :: [Go.Lib.itoa a.ev.time]) [32] ++ [10])) := by
  refine line_core (n := 2) (g := 76) (x := fnC 78) a h hw (by decide) (by kernel_rfl) rfl (fun hz => acall_fresh hz (wr5_in a h)) (by simp) (by simp) ?_
  have h1 := itoa_len h.who
  have h2 := itoa_len h.n
  have h3 := itoa_len h.lo
  have h4 := itoa_len h.hi
  have h5 := itoa_len h.ev.time
  have h6 := hexW_len h.ev.bytes
  have h7 := fmtE_len a.ev.six a.ev.ip a.ev.port
  have h8 : (hexS a.key).length = 64 := by rw [hexS_len, h.key]
  have h9 : (hexS [a.xor]).length = 2 := by rw [hexS_len]; rfl
  have hw : (wTick).length ≤ 8 := by decide
  simp [Go.Lib.join_cons, Go.Lib.joinTail]
  omega
theorem line_Entropy (a : Ac) (h : AcL a) (hw : nameS a = wEntropy) : PC Tryz.prog true 25 [.agg (acC a)] (.str (Go.Lib.join (wEntropy :: [hexW a.ev.bytes]) [32] ++ [10])) := by
  refine line_core (n := 2) (g := 80) (x := fnC 81) a h hw (by decide) (by kernel_rfl) rfl (fun hz => acall_fresh hz (wr7_in a h)) (by simp) (by simp) ?_
  have h1 := itoa_len h.who
  have h2 := itoa_len h.n
  have h3 := itoa_len h.lo
  have h4 := itoa_len h.hi
  have h5 := itoa_len h.ev.time
  have h6 := hexW_len h.ev.bytes
  have h7 := fmtE_len a.ev.six a.ev.ip a.ev.port
  have h8 : (hexS a.key).length = 64 := by rw [hexS_len, h.key]
  have h9 : (hexS [a.xor]).length = 2 := by rw [hexS_len]; rfl
  have hw : (wEntropy).length ≤ 8 := by decide
  simp [Go.Lib.join_cons, Go.Lib.joinTail]
  omega
theorem line_Handoff (a : Ac) (h : AcL a) (hw : nameS a = wHandoff) : PC Tryz.prog true 25 [.agg (acC a)] (.str (Go.Lib.join (wHandoff :: [Go.Lib.itoa a.lo, Go.Lib.itoa a.hi, hexS a.key]) [32] ++ [10])) := by
  refine line_core (n := 4) (g := 82) (x := fnC 85) a h hw (by decide) (by kernel_rfl) rfl (fun hz => acall_fresh hz (wr9_in a h)) (by simp) (by simp) ?_
  have h1 := itoa_len h.who
  have h2 := itoa_len h.n
  have h3 := itoa_len h.lo
  have h4 := itoa_len h.hi
  have h5 := itoa_len h.ev.time
  have h6 := hexW_len h.ev.bytes
  have h7 := fmtE_len a.ev.six a.ev.ip a.ev.port
  have h8 : (hexS a.key).length = 64 := by rw [hexS_len, h.key]
  have h9 : (hexS [a.xor]).length = 2 := by rw [hexS_len]; rfl
  have hw : (wHandoff).length ≤ 8 := by decide
  simp [Go.Lib.join_cons, Go.Lib.joinTail]
  omega
theorem line_Pick (a : Ac) (h : AcL a) (hw : nameS a = wPick) : PC Tryz.prog true 25 [.agg (acC a)] (.str (Go.Lib.join (wPick :: [Go.Lib.itoa a.who, Go.Lib.itoa a.n]) [32] ++ [10])) := by
  refine line_core (n := 3) (g := 89) (x := .fn (.func 118) [] [.iptr [.int .i64 3]]) a h hw (by decide) (by kernel_rfl) rfl (fun hz => acall_fresh hz (wrN_in a h)) (by simp) (by simp) ?_
  have h1 := itoa_len h.who
  have h2 := itoa_len h.n
  have h3 := itoa_len h.lo
  have h4 := itoa_len h.hi
  have h5 := itoa_len h.ev.time
  have h6 := hexW_len h.ev.bytes
  have h7 := fmtE_len a.ev.six a.ev.ip a.ev.port
  have h8 : (hexS a.key).length = 64 := by rw [hexS_len, h.key]
  have h9 : (hexS [a.xor]).length = 2 := by rw [hexS_len]; rfl
  have hw : (wPick).length ≤ 8 := by decide
  simp [Go.Lib.join_cons, Go.Lib.joinTail]
  omega
theorem line_Cut (a : Ac) (h : AcL a) (hw : nameS a = wCut) : PC Tryz.prog true 25 [.agg (acC a)] (.str (Go.Lib.join (wCut :: [Go.Lib.itoa a.who, Go.Lib.itoa a.n]) [32] ++ [10])) := by
  refine line_core (n := 3) (g := 89) (x := .fn (.func 118) [] [.iptr [.int .i64 7]]) a h hw (by decide) (by kernel_rfl) rfl (fun hz => acall_fresh hz (wrN_in a h)) (by simp) (by simp) ?_
  have h1 := itoa_len h.who
  have h2 := itoa_len h.n
  have h3 := itoa_len h.lo
  have h4 := itoa_len h.hi
  have h5 := itoa_len h.ev.time
  have h6 := hexW_len h.ev.bytes
  have h7 := fmtE_len a.ev.six a.ev.ip a.ev.port
  have h8 : (hexS a.key).length = 64 := by rw [hexS_len, h.key]
  have h9 : (hexS [a.xor]).length = 2 := by rw [hexS_len]; rfl
  have hw : (wCut).length ≤ 8 := by decide
  simp [Go.Lib.join_cons, Go.Lib.joinTail]
  omega
theorem line_Abort (a : Ac) (h : AcL a) (hw : nameS a = wAbort) : PC Tryz.prog true 25 [.agg (acC a)] (.str (Go.Lib.join (wAbort :: [Go.Lib.itoa a.who]) [32] ++ [10])) := by
  refine line_core (n := 2) (g := 120) (x := .fn (.func 121) [] [.iptr [.int .i64 4]]) a h hw (by decide) (by kernel_rfl) rfl (fun hz => acall_fresh hz (wrB_in a h)) (by simp) (by simp) ?_
  have h1 := itoa_len h.who
  have h2 := itoa_len h.n
  have h3 := itoa_len h.lo
  have h4 := itoa_len h.hi
  have h5 := itoa_len h.ev.time
  have h6 := hexW_len h.ev.bytes
  have h7 := fmtE_len a.ev.six a.ev.ip a.ev.port
  have h8 : (hexS a.key).length = 64 := by rw [hexS_len, h.key]
  have h9 : (hexS [a.xor]).length = 2 := by rw [hexS_len]; rfl
  have hw : (wAbort).length ≤ 8 := by decide
  simp [Go.Lib.join_cons, Go.Lib.joinTail]
  omega
theorem line_Kill (a : Ac) (h : AcL a) (hw : nameS a = wKill) : PC Tryz.prog true 25 [.agg (acC a)] (.str (Go.Lib.join (wKill :: [Go.Lib.itoa a.who]) [32] ++ [10])) := by
  refine line_core (n := 2) (g := 120) (x := .fn (.func 121) [] [.iptr [.int .i64 5]]) a h hw (by decide) (by kernel_rfl) rfl (fun hz => acall_fresh hz (wrB_in a h)) (by simp) (by simp) ?_
  have h1 := itoa_len h.who
  have h2 := itoa_len h.n
  have h3 := itoa_len h.lo
  have h4 := itoa_len h.hi
  have h5 := itoa_len h.ev.time
  have h6 := hexW_len h.ev.bytes
  have h7 := fmtE_len a.ev.six a.ev.ip a.ev.port
  have h8 : (hexS a.key).length = 64 := by rw [hexS_len, h.key]
  have h9 : (hexS [a.xor]).length = 2 := by rw [hexS_len]; rfl
  have hw : (wKill).length ≤ 8 := by decide
  simp [Go.Lib.join_cons, Go.Lib.joinTail]
  omega
theorem line_Corrupt (a : Ac) (h : AcL a) (hw : nameS a = wCorrupt) : PC Tryz.prog true 25 [.agg (acC a)] (.str (Go.Lib.join (wCorrupt :: [Go.Lib.itoa a.who, Go.Lib.itoa a.n, hexS [a.xor]]) [32] ++ [10])) := by
  refine line_core (n := 4) (g := 88) (x := fnC 90) a h hw (by decide) (by kernel_rfl) rfl (fun hz => acall_fresh hz (wr10_in a h)) (by simp) (by simp) ?_
  have h1 := itoa_len h.who
  have h2 := itoa_len h.n
  have h3 := itoa_len h.lo
  have h4 := itoa_len h.hi
  have h5 := itoa_len h.ev.time
  have h6 := hexW_len h.ev.bytes
  have h7 := fmtE_len a.ev.six a.ev.ip a.ev.port
  have h8 : (hexS a.key).length = 64 := by rw [hexS_len, h.key]
  have h9 : (hexS [a.xor]).length = 2 := by rw [hexS_len]; rfl
  have hw : (wCorrupt).length ≤ 8 := by decide
  simp [Go.Lib.join_cons, Go.Lib.joinTail]
  omega
theorem nameS_cases (a : Ac) : (nameS a = wControl ∧ a.kind = 1 ∧ a.ev.kind = 5) ∨ nameS a = [] ∨ (a.kind = 1 ∧ a.ev.kind = 1) ∨ (a.kind = 1 ∧ a.ev.kind = 2) ∨ (a.kind = 1 ∧ a.ev.kind = 3) ∨ (a.kind = 1 ∧ a.ev.kind = 4) ∨ a.kind = 2 ∨ a.kind = 3 ∨ a.kind = 4 ∨ a.kind = 5 ∨ a.kind = 6 ∨ a.kind = 7 := by
  unfold nameS nameE nameK
  split
  · rename_i e1
    simp only [e1, true_and]
    repeat' split
    all_goals simp_all
  · repeat' split
    all_goals simp_all
theorem line_in (a : Ac) (h : AcL a) : PC Tryz.prog true 25 [.agg (acC a)] (.str (lineS a)) := by
  have key : ∀ (w : List UInt8) (L : List (List UInt8)), nameS a = w → wordsS a = L → (w == wControl) = false → w ≠ [] → lineS a = Go.Lib.join (w :: L) [32] ++ [10] := by
    intro w L h1 h2 h3 h4
    have h3 : w ≠ wControl := by simpa using h3
    rw [lineS, h1, if_neg h3, if_neg h4, h2]
  rcases nameS_cases a with ⟨e, -, -⟩ | e | ⟨e1, e2⟩ | ⟨e1, e2⟩ | ⟨e1, e2⟩ | ⟨e1, e2⟩ | e1 | e1 | e1 | e1 | e1 | e1
  · rw [lineS, if_pos e]
    exact line_ctl a h e
  · rw [lineS, if_neg (by rw [e]; decide), if_pos e]
    exact line_none a h e
  · have hw : nameS a = wPlain := by simp [nameS, nameE, nameK, e1, e2]
    rw [key _ _ hw (by simp only [wordsS, wordsE, e1, e2]; rfl) (by decide) (by decide)]
    exact line_Plain a h hw
  · have hw : nameS a = wDatagram := by simp [nameS, nameE, nameK, e1, e2]
    rw [key _ _ hw (by simp only [wordsS, wordsE, e1, e2]; rfl) (by decide) (by decide)]
    exact line_Datagram a h hw
  · have hw : nameS a = wTick := by simp [nameS, nameE, nameK, e1, e2]
    rw [key _ _ hw (by simp only [wordsS, wordsE, e1, e2]; rfl) (by decide) (by decide)]
    exact line_Tick a h hw
  · have hw : nameS a = wEntropy := by simp [nameS, nameE, nameK, e1, e2]
    rw [key _ _ hw (by simp only [wordsS, wordsE, e1, e2]; rfl) (by decide) (by decide)]
    exact line_Entropy a h hw
  · have hw : nameS a = wHandoff := by simp [nameS, nameE, nameK, e1]
    rw [key _ _ hw (by simp only [wordsS, wordsE, e1]; rfl) (by decide) (by decide)]
    exact line_Handoff a h hw
  · have hw : nameS a = wPick := by simp [nameS, nameE, nameK, e1]
    rw [key _ _ hw (by simp only [wordsS, wordsE, e1]; rfl) (by decide) (by decide)]
    exact line_Pick a h hw
  · have hw : nameS a = wAbort := by simp [nameS, nameE, nameK, e1]
    rw [key _ _ hw (by simp only [wordsS, wordsE, e1]; rfl) (by decide) (by decide)]
    exact line_Abort a h hw
  · have hw : nameS a = wKill := by simp [nameS, nameE, nameK, e1]
    rw [key _ _ hw (by simp only [wordsS, wordsE, e1]; rfl) (by decide) (by decide)]
    exact line_Kill a h hw
  · have hw : nameS a = wCorrupt := by simp [nameS, nameE, nameK, e1]
    rw [key _ _ hw (by simp only [wordsS, wordsE, e1]; rfl) (by decide) (by decide)]
    exact line_Corrupt a h hw
  · have hw : nameS a = wCut := by simp [nameS, nameE, nameK, e1]
    rw [key _ _ hw (by simp only [wordsS, wordsE, e1]; rfl) (by decide) (by decide)]
    exact line_Cut a h hw
theorem line_at {B : List Box} {args : List CV} {a : Ac} (hz : Is (omap (Go.Sy.fz true false B 6) args) (some [.agg (acC a)])) (h : AcL a) : ACall Tryz.prog 25 args B fun c B' => c = .str (lineS a) ∧ B' = B := acall_fresh hz (line_in a h)
end Go.Proofs.YtcbdghgogmcllaaGreatDoor
end
section
namespace Go.Proofs.YtcbdghgogmcllaaGreatDoor
open Go Go.Sy
open Go.RowKit (Below)
theorem pureRun_under {P : Program} {t : TypeId} {d : TypeDesc} (h : P.underlying t = some d) : pureRun P (underlying t) = some d := by
  show pureRun P (match P.underlying t with | some d => pure d | none => stuck "no such type") = some d
  rw [h]; rfl
theorem pure_eqI {P : Program} {t : TypeId} {ms : Array (String × TypeId)} (h : P.underlying t = some (.interface ms)) : pureRun P (Op.equal t .nilIface .nilIface) = some true := by
  show pureRun P (Op.equalIn (9999 + 1) t .nilIface .nilIface) = some true
  rw [Op.equalIn, pureRun_bind, pureRun_under h]
  rfl
theorem evPure_nilI {P : Program} {fr : Fr} {dst : Option Tmp} {t yt : TypeId} {x : Operand} {ms : Array (String × TypeId)} {ty : TypeId} {pos : String} {after : Array Edge} {g : Option (Nat × Bool)} (ht : P.underlying t = some (.interface ms)) (hx : opv fr x = .nilI) :
    evPure P ⟨dst, .binOp .eql t x (.const .nilIface) yt, ty, pos, after, g⟩ fr = some (.bool true) := by
  have h1 : toV (opv fr x) = some .nilIface := by rw [hx]; rfl
  have h2 : toV (opv fr (.const .nilIface)) = some .nilIface := by simp [opv, ofV, toV]
  unfold evPure
  rw [if_pos (by simp [Op.operands, h1, h2])]
  have e : pureRun P (execOp (fun x => (toV (opv fr x)).getD undef) ⟨dst, .binOp .eql t x (.const .nilIface) yt, ty, pos, after, g⟩) = some (.value (.bool true)) := by
    simp only [execOp, h1, h2, Option.getD_some]
    simp [eqGuard, binOp]
    show pureRun P (Op.equal t .nilIface .nilIface >>= fun a => pure (Next.value (.bool a))) = _
    rw [pureRun_bind, pure_eqI ht]
    rfl
  rw [e]
  rfl
def evPureA (P : Program) (o : Oper) (fr : Fr) : Option CV := evPure P o fr
def nilEq (c : CV) (d : Option CV) : Option CV := match c with
  | .nilI => some (.bool true)
  | _ => d
theorem nilEq_nil (d : Option CV) : nilEq .nilI d = some (.bool true) := rfl
theorem evPure_nil {P : Program} {fr : Fr} {dst : Option Tmp} {t yt : TypeId} {x : Operand} {ms : Array (String × TypeId)} {ty : TypeId} {pos : String} {after : Array Edge} {g : Option (Nat × Bool)} (ht : P.underlying t = some (.interface ms)) :
    evPure P ⟨dst, .binOp .eql t x (.const .nilIface) yt, ty, pos, after, g⟩ fr = nilEq (opv fr x) (evPureA P ⟨dst, .binOp .eql t x (.const .nilIface) yt, ty, pos, after, g⟩ fr) := by
  by_cases h : opv fr x = .nilI
  · rw [h, evPure_nilI ht h]; rfl
  · unfold nilEq
    split
    · rename_i h'; exact absurd h' h
    · rfl
def errC (n : Int) : CV := .tup [.int .i64 n, .iface 203 (.iptr [])]
def endC (e : Go.Lib.NumEnd Int) (sat : Int) : CV := match e with
  | .ok n => .tup [.int .i64 n, .nilI]
  | Go.Lib.NumEnd.syntax => errC 0
  | .range => errC sat
theorem err_val {I : Nat → Nat → Prop} {μ : List (List Go.Sy.Place)} {w : World} {n : Int} {N : Nat} : V I μ w (errC n) (.tuple #[.int .i64 n, .iface 203 (.pointer (some ⟨N, 0, none⟩))]) :=
  .tup (bs := [.int .i64 n, .iface 203 (.pointer (some ⟨N, 0, none⟩))]) (.int _ _ (.iface _ (.iptr N 0 (bs := []) (.nil _) (fun j v hj => by simp at hj) (.nil _)) (.nil _))) (.nil _)
theorem ifs_is {I : Nat → Nat → Prop} {w : World} (h : TabsOk I w) {g : Nat} (hg : g ∈ tabIfs) : ∃ ev, w.cell? ⟨g, 0, none⟩ = some ev ∧ (ev = .nilIface ∨ ∃ te pe, ev = .iface te pe) := by
  obtain ⟨_, t, p, hc⟩ := h.2.2 g hg
  exact ⟨_, hc, .inr ⟨t, p, rfl⟩⟩
theorem bw_below {w w' : World} {t : ByteArray} (h : w' = w ∨ ∃ t, w' = Go.Lib.bytesWorld w 5 t) : Below w.heap.size w w' := by
  rcases h with rfl | ⟨t, rfl⟩
  · exact Below.refl _ _
  · exact Go.Lib.bytesWorld_below _ _ _
theorem atoi_at {B : List Box} {s : List UInt8} (h : s.length < 1000000000) : ACall Tryz.prog 147 [.str s] B fun c B' => c = endC (Go.Lib.atoiAll s) (Go.Lib.atoiSat s) ∧ B' = B :=
  acall_of_calls (Q := fun c => c = endC (Go.Lib.atoiAll s) (Go.Lib.atoiSat s)) (by kernel_rfl) fun I μ w vs ht hI hv => by
    obtain ⟨ws, rfl, hv1⟩ := R.str_cons hv
    obtain rfl := R.none hv1
    have hsz : (⟨s.toArray⟩ : ByteArray).size = s.length := by simp [ByteArray.size]
    obtain ⟨e4, h4, k4⟩ := ifs_is ht (g := 4) (by simp [tabIfs])
    obtain ⟨e5, h5, k5⟩ := ifs_is ht (g := 5) (by simp [tabIfs])
    cases he : Go.Lib.atoiAll s with
    | ok n =>
      refine (Tryz.strconv_Atoi_ok ⟨s.toArray⟩ (by omega) n (by simpa using he) w).mono fun e w' ⟨h1, h2⟩ => ⟨_, _, h1, rfl, bw_below (t := default) h2, ?_⟩
      exact .tup (bs := [.int .i64 n, .nilIface]) (.int _ _ (.nilI (.nil _))) (.nil _)
    | range => exact (Tryz.strconv_Atoi_range ⟨s.toArray⟩ (by omega) (by simpa using he) e5 w h5 k5).mono fun e w' ⟨N, h1, h2, h3, h4⟩ => ⟨_, _, h1, by simp [endC], h4, err_val⟩
    | _ => exact (Tryz.strconv_Atoi_syntax ⟨s.toArray⟩ (by omega) (by simpa using he) e4 w h4 k4).mono fun e w' ⟨N, h1, h2, h3, h4⟩ => ⟨_, _, h1, rfl, h4, err_val⟩
theorem parseInt_at {B : List Box} {s : List UInt8} (h : s.length < 1000000000) : ACall Tryz.prog 115 [.str s, .int .i64 10, .int .i64 64] B fun c B' => c = endC (Go.Lib.parseIntB 64 s) (Go.Lib.intSat 64 s) ∧ B' = B :=
  acall_of_calls (Q := fun c => c = endC (Go.Lib.parseIntB 64 s) (Go.Lib.intSat 64 s)) (by kernel_rfl) fun I μ w vs ht hI hv => by
    obtain ⟨ws, rfl, hv1⟩ := R.str_cons hv
    obtain ⟨ws, rfl, hv2⟩ := R.int_cons hv1
    obtain ⟨ws, rfl, hv3⟩ := R.int_cons hv2
    obtain rfl := R.none hv3
    have hsz : (⟨s.toArray⟩ : ByteArray).size = s.length := by simp [ByteArray.size]
    obtain ⟨e4, h4, k4⟩ := ifs_is ht (g := 4) (by simp [tabIfs])
    obtain ⟨e5, h5, k5⟩ := ifs_is ht (g := 5) (by simp [tabIfs])
    cases he : Go.Lib.parseIntB 64 s with
    | ok n =>
      refine (Tryz.strconv_ParseInt_10_at64_ok ⟨s.toArray⟩ (by omega) n (by simpa using he) w).mono fun e w' ⟨h1, h2⟩ => ⟨_, _, h1, rfl, bw_below (t := default) h2, ?_⟩
      exact .tup (bs := [.int .i64 n, .nilIface]) (.int _ _ (.nilI (.nil _))) (.nil _)
    | range => exact (Tryz.strconv_ParseInt_10_at64_range ⟨s.toArray⟩ (by omega) (by simpa using he) e5 w h5 k5).mono fun e w' ⟨N, h1, h2, h3, h4⟩ => ⟨_, _, h1, by simp [endC], h4, err_val⟩
    | _ => exact (Tryz.strconv_ParseInt_10_at64_syntax ⟨s.toArray⟩ (by omega) (by simpa using he) e4 w h4 k4).mono fun e w' ⟨N, h1, h2, h3, h4⟩ => ⟨_, _, h1, rfl, h4, err_val⟩
theorem cutPrefix_at {B : List Box} {s t : List UInt8} : ACall Tryz.prog 41 [.str s, .str t] B fun c B' => c = .tup [.str (Go.Lib.trimPrefix s t), .bool (Go.Lib.hasPrefix s t)] ∧ B' = B :=
  acall_of_calls (Q := fun c => c = .tup [.str (Go.Lib.trimPrefix s t), .bool (Go.Lib.hasPrefix s t)]) (by kernel_rfl) fun I μ w vs ht hI hv => by
    obtain ⟨ws, rfl, hv1⟩ := R.str_cons hv
    obtain ⟨ws, rfl, hv2⟩ := R.str_cons hv1
    obtain rfl := R.none hv2
    refine (Tryz.strings_CutPrefix ⟨s.toArray⟩ ⟨t.toArray⟩ w).mono fun e w' ⟨he, hw⟩ => ?_
    subst hw
    exact ⟨_, _, he, rfl, Below.refl _ _, .tup (bs := [_, _]) (.str _ (.bool _ (.nil _))) (.nil _)⟩
theorem trimSuffix_at {B : List Box} {s t : List UInt8} (h : s.length ≤ 4611686018427387904) : ACall Tryz.prog 43 [.str s, .str t] B fun c B' => c = .str (Go.Lib.trimSuffix s t) ∧ B' = B :=
  acall_of_calls (Q := fun c => c = .str (Go.Lib.trimSuffix s t)) (by kernel_rfl) fun I μ w vs ht hI hv => by
    obtain ⟨ws, rfl, hv1⟩ := R.str_cons hv
    obtain ⟨ws, rfl, hv2⟩ := R.str_cons hv1
    obtain rfl := R.none hv2
    refine (Tryz.strings_TrimSuffix ⟨s.toArray⟩ ⟨t.toArray⟩ w (by show s.length ≤ _; omega)).mono fun e w' ⟨he, hw⟩ => ?_
    subst hw
    exact ⟨_, _, he, rfl, Below.refl _ _, .str _ (.nil _)⟩
theorem index_at {B : List Box} {s : List UInt8} : ACall Tryz.prog 22 [.str s, .str [10]] B fun c B' => c = .int .i64 (Go.Lib.indexByte s 10) ∧ B' = B :=
  acall_of_calls (Q := fun c => c = .int .i64 (Go.Lib.indexByte s 10)) (by kernel_rfl) fun I μ w vs ht hI hv => by
    obtain ⟨ws, rfl, hv2⟩ := R.str_cons hv
    obtain ⟨ws, rfl, hv3⟩ := R.str_cons hv2
    obtain rfl := R.none hv3
    refine (Tryz.strings_Index_one ⟨s.toArray⟩ 10 w).mono fun e w' ⟨he, hw⟩ => ?_
    subst hw
    exact ⟨_, _, he, by simp, Below.refl _ _, .int _ _ (.nil _)⟩
end Go.Proofs.YtcbdghgogmcllaaGreatDoor
end
