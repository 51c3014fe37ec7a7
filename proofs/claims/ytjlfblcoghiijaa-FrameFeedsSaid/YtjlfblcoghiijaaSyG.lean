/-
  Each operation of the canonical machine is the model's: those that read memory.
-/
import Derived.Test.YtjlfblcoghiijaaSyF
namespace Go.Sy
set_option linter.all false
open Go.RowKit (Below)

section
variable {P : Program} {N : Nat} {I : Nat → Nat → Prop} {μ : List (List Place)} {B : List Box} {w : World} {o : Oper} {a : Act} {fr : Fr} {c : CV}

theorem run_sizeOf' {t : TypeId} {n : Nat} (h : szOf P t = some n) (w : World) : (sizeOf t).run P w = .ok n w := by
  unfold szOf at h
  simp only [Option.map_eq_some_iff] at h
  obtain ⟨i, h1, h2⟩ := h
  simp [sizeOf, typeInfo, h1, h2]
theorem run_isAgg {t : TypeId} {d : TypeDesc} (h : P.underlying t = some d) (w : World) : (isAgg t).run P w = .ok (aggT P t) w := by
  unfold isAgg aggT
  simp only [Sem.run_bind, run_underlying h, Result.andThen_ok, h]
  cases d <;> simp
theorem elemT_some {t e : TypeId} (h : elemT P t = some e) : P.underlying t = some (.slice e) := by
  unfold elemT at h
  split at h
  · rename_i e' h'; simp at h; subst h; exact h'
  · cases h

theorem cells_rel {c : CV} {v : Value} {cs : List CV} (h : V I μ w c v) (hc : cellsC c = some cs) : R I μ w true cs v.cells.toList := by
  cases h with
  | agg h _ => simp [cellsC] at hc; subst hc; simpa [Value.cells] using h
  | tup h _ => simp [cellsC] at hc
  | raw v _ _ =>
    simp [cellsC] at hc
    obtain ⟨h1, rfl⟩ := hc
    cases v <;> first | (simp [Value.oneCell'] at h1; done) | exact .raw _ (fun _ => rfl) (.nil _)
  | bool b _ => simp [cellsC] at hc; subst hc; exact .bool _ (.nil _)
  | int k n _ => simp [cellsC] at hc; subst hc; exact .int _ _ (.nil _)
  | str s _ => simp [cellsC] at hc; subst hc; exact .str _ (.nil _)
  | nilP _ => simp [cellsC] at hc; subst hc; exact .nilP (.nil _)
  | nilS _ => simp [cellsC] at hc; subst hc; exact .nilS (.nil _)
  | nilF _ => simp [cellsC] at hc; subst hc; exact .nilF (.nil _)
  | nilI _ => simp [cellsC] at hc; subst hc; exact .nilI (.nil _)
  | lst n full b o cap h hm hn hf _ => simp [cellsC] at hc; subst hc; exact .lst n full b o cap h hm hn hf (.nil _)
  | lstE full A _ => simp [cellsC] at hc; subst hc; exact .lstE full A (.nil _)
  | view β off n sz full ps p cap hb hp hlo hk hn hf hr _ => simp [cellsC] at hc; subst hc; exact .view β off n sz full ps p cap hb hp hlo hk hn hf hr (.nil _)
  | viewE β off sz full A hb _ => simp [cellsC] at hc; subst hc; exact .viewE β off sz full A hb (.nil _)
  | cview β off n cap sz ps p hb hp hlo hk hn hpl _ => simp [cellsC] at hc; subst hc; exact .cview β off n cap sz ps p hb hp hlo hk hn hpl (.nil _)
  | cviewE β off sz A hb _ => simp [cellsC] at hc; subst hc; exact .cviewE β off sz A hb (.nil _)
  | ptr β off ps p hb hp hlo _ => simp [cellsC] at hc; subst hc; exact .ptr β off ps p hb hp hlo (.nil _)
  | iptr b o h hm _ => simp [cellsC] at hc; subst hc; exact .iptr b o h hm (.nil _)
  | fn f h h' _ => simp [cellsC] at hc; subst hc; exact .fn f h h' (.nil _)
  | iface t h _ => simp [cellsC] at hc; subst hc; exact .iface t h (.nil _)

theorem part_rel {t : TypeId} {cs : List CV} {vs : List Value} {off : Nat} (h : R I μ w true cs vs) (hc : partC P t cs off = some c) : ∃ v, (part t vs.toArray off).run P w = .ok v w ∧ V I μ w c v := by
  unfold partC at hc
  cases hu : P.underlying t with
  | none => simp [hu] at hc
  | some d =>
    have hagg := run_isAgg hu w
    simp only [hu, Option.isNone_some, Bool.false_eq_true, if_false] at hc
    cases ha : aggT P t with
    | true =>
      simp only [ha, if_true, Option.map_eq_some_iff] at hc
      obtain ⟨n, hn, rfl⟩ := hc
      refine ⟨.agg (vs.toArray.extract off (off + n)), by simp [part, hagg, ha, run_sizeOf' hn], ?_⟩
      have : vs.toArray.extract off (off + n) = ((vs.drop off).take n).toArray := by
        apply Array.ext'
        simp [List.extract]
      rw [this]
      exact .agg ((h.drop off).take n) (.nil _)
    | false =>
      simp only [ha, Bool.false_eq_true, if_false] at hc
      obtain ⟨v, h1, h2, _⟩ := h.get hc
      exact ⟨v, by simp [part, hagg, ha, h1], h2⟩

theorem load_rel {t : TypeId} {cs : List CV} {vs : List Value} {b off : Nat} (h : R I μ w true cs vs) (hm : ∀ j v, vs[j]? = some v → w.cell? ⟨b, off + j, none⟩ = some v) (hc : loadC P t cs = some c) :
    ∃ v, (loadVar t ⟨b, off, none⟩).run P w = .ok v w ∧ V I μ w c v := by
  unfold loadC at hc
  cases hu : P.underlying t with
  | none => simp [hu] at hc
  | some d =>
    have hagg := run_isAgg hu w
    simp only [hu, Option.isNone_some, Bool.false_eq_true, if_false] at hc
    cases ha : aggT P t with
    | true =>
      simp only [ha, if_true, Option.bind_eq_some_iff] at hc
      obtain ⟨n, hn, hc⟩ := hc
      split at hc
      · rename_i hle
        simp at hc; subst hc
        have hl := h.len
        have hlen : (vs.take n).length = n := by simp; omega
        have hr := run_loadCells_list (P := P) w ⟨b, off, none⟩ (vs.take n) (fun j v hj => by
          rw [Addr.add_lit]
          rw [List.getElem?_take] at hj
          split at hj
          · exact hm j v hj
          · cases hj)
        rw [hlen] at hr
        refine ⟨.agg (vs.take n).toArray, by simp [loadVar, hagg, ha, run_sizeOf' hn, hr], .agg (h.take n) (.nil _)⟩
      · cases hc
    | false =>
      simp only [ha, Bool.false_eq_true, if_false] at hc
      have hc' : cs[0]? = some c := by rw [← List.head?_eq_getElem?]; exact hc
      obtain ⟨v, h1, h2, _⟩ := h.get hc'
      have := hm 0 v h1
      simp only [Nat.add_zero] at this
      exact ⟨v, by simp [loadVar, hagg, ha, this], h2⟩

/-- A pointer into a box that is written, not appended to. -/
theorem box_ptr (hB : BRel N I μ B w) {b off : Nat} {box : Box} {v : Value} (h : V I μ w (.ptr b off) v) (hb : B[b]? = some box) (hm : box.multi = false) :
    ∃ (p : Place) (vs : List Value), μ[b]? = some [p] ∧ v = .pointer (some ⟨p.b, p.o + off, none⟩) ∧ R I μ w true box.cells vs ∧ (∀ j u, vs[j]? = some u → w.cell? ⟨p.b, p.o + j, none⟩ = some u) := by
  obtain ⟨ps, q, rfl, h1, h2, h3⟩ := h.ptr_inv
  obtain ⟨p, a1, a2, a3, ⟨vs, a4, a5⟩, _⟩ := one_place hB hb hm h1 h2
  have : ps = [p] := by rw [h1] at a1; simpa using a1
  subst this
  have : q = p := by simpa using h2
  subst this
  exact ⟨q, vs, a1, by rw [a2]; rfl, a4, a5⟩

theorem fits_load {t : TypeId} {x : Operand} {r : CV × List Box} (ho : o.op = .load t x) (hB : BRel N I μ B w) (hfr : ∀ i, V I μ w (fr i) (a.tmps.getD i undef))
    (h : ev P o fr B = some r) : Fits P N I μ w o a r.1 r.2 := by
  have hx := opv_rel hfr x
  simp only [ev, ho] at h
  split at h
  · rename_i b off e1
    rw [e1] at hx
    split at h
    · rename_i box hb
      split at h
      · cases h
      · rename_i hm
        simp only [Option.map_eq_some_iff] at h
        obtain ⟨c, hc, rfl⟩ := h
        obtain ⟨p, vs, h1, h2, h3, h4⟩ := box_ptr hB hx hb (by simpa using hm)
        obtain ⟨v, h5, h6⟩ := load_rel (P := P) (b := p.b) (off := p.o + off) (h3.drop off) (fun j u hj => by
          rw [List.getElem?_drop] at hj
          rw [Nat.add_assoc]
          exact h4 _ u hj) hc
        exact fits_value hB (by simp [execOp, ho, Instr.loadAt, Instr.sureAddr, h2, h5]) h6
    · cases h
  · rename_i cs e1
    rw [e1] at hx
    simp only [Option.map_eq_some_iff] at h
    obtain ⟨c, hc, rfl⟩ := h
    obtain ⟨b, o', vs, h1, h2, h3⟩ := hx.iptr_inv
    obtain ⟨v, h5, h6⟩ := load_rel (P := P) h2 (fun j u hj => (h3 j u hj).1) hc
    exact fits_value hB (by simp [execOp, ho, Instr.loadAt, Instr.sureAddr, h1, h5]) h6
  · cases h

theorem fits_field {t : TypeId} {x : Operand} {i : Nat} {r : CV × List Box} (ho : o.op = .field t x i) (hB : BRel N I μ B w) (hfr : ∀ i, V I μ w (fr i) (a.tmps.getD i undef))
    (h : ev P o fr B = some r) : Fits P N I μ w o a r.1 r.2 := by
  have hx := opv_rel hfr x
  simp only [ev, ho] at h
  split at h
  · rename_i cs fs e1 hu
    rw [e1] at hx
    simp only [Option.bind_eq_some_iff, Option.map_eq_some_iff] at h
    obtain ⟨f, hf, c, hc, rfl⟩ := h
    obtain ⟨vs, h1, h2⟩ := hx.agg_inv
    obtain ⟨v, h3, h4⟩ := part_rel h2 hc
    exact fits_value hB (by simp [execOp, ho, Instr.field, run_underlying hu, hf, h1, asAgg, h3]) h4
  · cases h

theorem fits_extract {x : Operand} {i : Nat} {r : CV × List Box} (ho : o.op = .extract x i) (hB : BRel N I μ B w) (hfr : ∀ i, V I μ w (fr i) (a.tmps.getD i undef))
    (h : ev P o fr B = some r) : Fits P N I μ w o a r.1 r.2 := by
  have hx := opv_rel hfr x
  simp only [ev, ho] at h
  split at h
  · rename_i cs e1
    rw [e1] at hx
    simp only [Option.map_eq_some_iff] at h
    obtain ⟨c, hc, rfl⟩ := h
    obtain ⟨vs, h1, h2⟩ := hx.tup_inv
    obtain ⟨v, h3, h4, _⟩ := h2.get hc
    exact fits_value hB (by simp [execOp, ho, Instr.extract, h1, h3]) h4
  · cases h

theorem fits_index {t : TypeId} {x i : Operand} {r : CV × List Box} (ho : o.op = .index t x i) (hB : BRel N I μ B w) (hfr : ∀ i, V I μ w (fr i) (a.tmps.getD i undef))
    (h : ev P o fr B = some r) : Fits P N I μ w o a r.1 r.2 := by
  have hx := opv_rel hfr x
  have hi := opv_rel hfr i
  simp only [ev, ho] at h
  split at h
  · rename_i s k n e1 e2 hu
    rw [e1] at hx
    rw [e2] at hi
    have hx := hx.str_inv
    have hi := hi.int_inv
    split at h
    · rename_i hn
      simp only [Option.map_eq_some_iff] at h
      obtain ⟨b, hb, rfl⟩ := h
      have hb' : (⟨s.toArray⟩ : ByteArray)[n.toNat]? = some b := by
        rw [← hb]
        have hl := (List.getElem?_eq_some_iff.1 hb).1
        rw [getElem?_pos (⟨s.toArray⟩ : ByteArray) n.toNat hl, List.getElem?_eq_getElem hl]
        rfl
      refine fits_value hB (v := .int .u8 b.toNat) ?_ (.int _ _ (.nil _))
      simp only [execOp, ho, Instr.index, hx, hi, asIntOf, Sem.run_bind, Sem.run_pure, Result.andThen_ok, run_underlying hu, hn, if_true, hb']
    · cases h
  · rename_i cs k n m e e1 e2 hu
    rw [e1] at hx
    rw [e2] at hi
    obtain ⟨vs, h1, h2⟩ := hx.agg_inv
    have hi := hi.int_inv
    split at h
    · rename_i hn
      simp only [Option.bind_eq_some_iff, Option.map_eq_some_iff] at h
      obtain ⟨esz, hs, c, hc, rfl⟩ := h
      obtain ⟨v, h3, h4⟩ := part_rel h2 hc
      refine fits_value hB (v := v) ?_ h4
      simp only [execOp, ho, Instr.index, h1, hi, asIntOf, Sem.run_bind, Sem.run_pure, Result.andThen_ok, run_underlying hu, hn, and_self, if_true, run_sizeOf' hs, h3]
    · cases h
  · cases h

theorem fits_nilCheck {x : Operand} {r : CV × List Box} (ho : o.op = .nilCheck x) (hB : BRel N I μ B w) (hfr : ∀ i, V I μ w (fr i) (a.tmps.getD i undef))
    (h : ev P o fr B = some r) : Fits P N I μ w o a r.1 r.2 := by
  have hx := opv_rel hfr x
  simp only [ev, ho] at h
  split at h
  · rename_i e1
    rw [e1] at hx
    simp at h; subst h
    obtain ⟨ps, p, h1, _⟩ := hx.ptr_inv
    exact fits_value hB (v := a.eval x) (by rw [h1]; simp [execOp, ho, h1]) hx
  · rename_i e1
    rw [e1] at hx
    simp at h; subst h
    obtain ⟨_, _, _, h1, _⟩ := hx.iptr_inv
    exact fits_value hB (v := a.eval x) (by rw [h1]; simp [execOp, ho, h1]) hx
  · rename_i e1
    rw [e1] at hx
    simp at h; subst h
    obtain ⟨_, _, h1, _⟩ := hx.fn_inv
    exact fits_value hB (v := a.eval x) (by rw [h1]; simp [execOp, ho, h1]) hx
  · cases h

theorem fits_makeFunc {f : Fn} {first caps : Array Operand} {r : CV × List Box} (ho : o.op = .makeFunc f first caps) (hB : BRel N I μ B w) (hfr : ∀ i, V I μ w (fr i) (a.tmps.getD i undef))
    (h : ev P o fr B = some r) : Fits P N I μ w o a r.1 r.2 := by
  simp only [ev, ho, Option.some.injEq] at h
  subst h
  have hl : ∀ l : List Operand, R I μ w false (l.map (opv fr)) (l.map a.eval) := fun l => by
    induction l with
    | nil => exact .nil _
    | cons x l ih => exact .cons (opv_rel hfr x) (by simp) ih
  refine fits_value hB (v := .func f (first.toList.map a.eval).toArray (caps.toList.map a.eval).toArray) ?_ (.fn f (hl _) (hl _) (.nil _))
  have e : ∀ l : Array Operand, l.map a.eval = (l.toList.map a.eval).toArray := fun l => by apply Array.ext'; simp
  simp only [execOp, ho, Instr.makeFunc, e]
  rfl

theorem fits_makeInterface {t : TypeId} {x : Operand} {r : CV × List Box} (ho : o.op = .makeInterface t x) (hB : BRel N I μ B w) (hfr : ∀ i, V I μ w (fr i) (a.tmps.getD i undef))
    (h : ev P o fr B = some r) : Fits P N I μ w o a r.1 r.2 := by
  have hx := opv_rel hfr x
  simp only [ev, ho] at h
  split at h
  · cases h
  · cases h
  · rename_i hn hs
    simp at h; subst h
    cases hu : P.underlying t with
    | none => exact absurd hu hs
    | some d =>
      refine fits_value hB (v := .iface t (a.eval x)) ?_ (.iface t hx (.nil _))
      cases d with
      | interface ms => exact absurd hu (hn ms)
      | _ => simp [execOp, ho, Instr.makeInterface, run_underlying hu]

theorem fits_fieldAddr {t : TypeId} {x : Operand} {i : Nat} {r : CV × List Box} (ho : o.op = .fieldAddr t x i) (hB : BRel N I μ B w) (hfr : ∀ i, V I μ w (fr i) (a.tmps.getD i undef))
    (h : ev P o fr B = some r) : Fits P N I μ w o a r.1 r.2 := by
  have hx := opv_rel hfr x
  simp only [ev, ho] at h
  split at h
  · rename_i fs hu
    simp only [Option.bind_eq_some_iff] at h
    obtain ⟨f, hf, h⟩ := h
    split at h
    · rename_i n hs
      split at h
      · rename_i b off e1
        rw [e1] at hx
        simp at h; subst h
        obtain ⟨ps, p, h1, h2, h3, h4⟩ := hx.ptr_inv
        have hv := R.ptr (I := I) (w := w) (one := false) b (off + f.offset) ps p h2 h3 (by omega) (.nil _)
        rw [show p.o + (off + f.offset - p.lo) = p.o + (off - p.lo) + f.offset by omega] at hv
        exact fits_value hB (by simp [execOp, ho, Instr.fieldAt, run_underlying hu, hf, h1, Instr.sureAddr, fieldPlace, run_sizeOf' hs, Addr.add_lit]) hv
      · rename_i cs e1
        rw [e1] at hx
        simp at h; subst h
        obtain ⟨b, o', vs, h1, h2, h3⟩ := hx.iptr_inv
        refine fits_value hB (v := .pointer (some ⟨b, o' + f.offset, none⟩)) (by simp [execOp, ho, Instr.fieldAt, run_underlying hu, hf, h1, Instr.sureAddr, fieldPlace, run_sizeOf' hs, Addr.add_lit])
          (.iptr b (o' + f.offset) (h2.drop f.offset) (fun j u hj => ?_) (.nil _))
        rw [List.getElem?_drop] at hj
        rw [Nat.add_assoc]
        exact h3 _ u hj
      · cases h
    · cases h
  · cases h

end
end Go.Sy
