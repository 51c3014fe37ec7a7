/-
  Code over canonical frames: what is to be shown of it, by recursion; and that this gives the model's own word on it.
-/
import Derived.Test.YtjlfblcoghiijaaSyL
namespace Go.Sy
set_option linter.all false
open Go.RowKit (Below)

def callable (P : Program) (f : FuncId) : Bool := match P.funcs[f]? with | some fn => fn.body.isSome && fn.name != "runtime.NumGoroutine" | none => false

/-- WHAT A CALL COMES TO: whatever the memory, it returns, and what it hands back and leaves is as Q says. -/
def ACall (P : Program) (f : FuncId) (args : List CV) (B : List Box) (Q : CV → List Box → Prop) : Prop :=
  callable P f = true ∧ ∀ (N : Nat) (I : Nat → Nat → Prop) (μ : List (List Place)) (w : World) (vs : List Value), BRel N I μ B w → R I μ w false args vs →
    Calls P f vs.toArray w fun e w' => ∃ c v B' I' μ', e = .returned v ∧ Q c B' ∧ Step N I μ w c v B' I' μ' w'

/-- The same of a function without a body that the model gives its word on at once. -/
def ECall (P : Program) (f : FuncId) (args : List CV) (B : List Box) (Q : CV → List Box → Prop) : Prop :=
  ∀ (N : Nat) (I : Nat → Nat → Prop) (μ : List (List Place)) (w : World) (vs : List Value), BRel N I μ B w → R I μ w false args vs →
    ∃ v w' c B' I' μ', (callFunc f vs.toArray).run P w = .ok (.value v) w' ∧ Q c B' ∧ Step N I μ w c v B' I' μ' w'
theorem ECall.mono {P : Program} {f : FuncId} {args : List CV} {B : List Box} {Q Q' : CV → List Box → Prop} (h : ECall P f args B Q) (hq : ∀ c B', Q c B' → Q' c B') : ECall P f args B Q' :=
  fun N I μ w vs hB hv => let ⟨v, w', c, B', I', μ', h1, h2, h3⟩ := h N I μ w vs hB hv; ⟨v, w', c, B', I', μ', h1, hq _ _ h2, h3⟩

theorem ACall.mono {P : Program} {f : FuncId} {args : List CV} {B : List Box} {Q Q' : CV → List Box → Prop} (h : ACall P f args B Q) (hq : ∀ c B', Q c B' → Q' c B') : ACall P f args B Q' :=
  ⟨h.1, fun N I μ w vs hB hv => (h.2 N I μ w vs hB hv).mono fun _ _ ⟨c, v, B', I', μ', he, hQ, hs⟩ => ⟨c, v, B', I', μ', he, hq _ _ hQ, hs⟩⟩

/-- Is the operation carried out? 'none': that is not known. -/
def wantC (ops : Array Oper) (fr : Fr) (o : Oper) : Option Bool :=
  match o.guard with
  | none => some true
  | some (j, want) => match (ops[j]?).bind (·.dst) with
    | none => some false
    | some d => match fr d with
      | .bool b => some (b == want)
      | .tup _ => some false
      | _ => none

/-- An append that has no room, with what the new row's capacity is: whatever it is. -/
def StepG (P : Program) (o : Oper) (fr : Fr) (B : List Box) (K : CV → List Box → Prop) : Prop :=
  match o.op with
  | .call { callee := .builtin .append, args, argTypes } => match argTypes.toList, args.toList.map (opv fr) with
    | [t, tx], [s, x] => ∃ e esz zs m news n olds, elemT P t = some e ∧ szOf P e = some esz ∧ zerosOf P e = some zs ∧ zs.length = esz ∧ esz ≠ 0 ∧ (∃ e', P.underlying tx = some (.slice e')) ∧ srcC B esz x = some (m, news) ∧ (∀ l, x ≠ .str l) ∧ m ≠ 0 ∧
        (s = .nilS ∧ n = 0 ∧ olds = [] ∨ s = .lst n olds true ∧ olds.length = n * esz ∨ ∃ b off c0 box, s = .cview b off n c0 esz ∧ B[b]? = some box ∧ c0 < n + m ∧ olds = (box.cells.drop off).take (n * esz)) ∧ (n + m) * P.bytesOf e ≤ 140737488355328 ∧ n + m ≤ 140737488355328 ∧
        ∀ cap, n + m ≤ cap → K (.cview B.length 0 (n + m) cap esz) (B ++ [{ cells := olds ++ news ++ repC zs (cap - (n + m)) }])
    | _, _ => False
  | .binOp op t x y _ => (∃ e, P.underlying t = some (.slice e)) ∧ opv fr y = .nilS ∧ lenC (opv fr x) = some 0 ∧ (op = .eql ∨ op = .neq) ∧ K (.bool true) B ∧ K (.bool false) B
  | _ => False

def StepC (P : Program) (o : Oper) (fr : Fr) (B : List Box) (K : CV → List Box → Prop) : Prop :=
  match o.op with
  | .call { callee := .value f, args, .. } => match opv fr f with
    | .fn (.func g) first caps => ACall P g (first ++ args.toList.map (opv fr) ++ caps) B K ∨ ECall P g (first ++ args.toList.map (opv fr) ++ caps) B K
    | _ => False
  | _ => (match ev P o fr B with
    | some r => K r.1 r.2
    | none => False) ∨ StepG P o fr B K

def dstOk (n : Nat) (o : Oper) : Bool := match o.dst with | some d => decide (d < n) | none => true

def WPo (P : Program) (n : Nat) (ops : Array Oper) (Q : Fr → List Box → Prop) : List Oper → Fr → List Box → Prop
  | [], fr, B => Q fr B
  | o :: rest, fr, B => dstOk n o = true ∧ match wantC ops fr o with
    | some t => (t = true → StepC P o fr B fun c B' => WPo P n ops Q rest (upd fr o.dst c) B') ∧ (t = false → WPo P n ops Q rest (upd fr o.dst (.tup [])) B)
    | none => False

/-- The deferred calls of a frame: none but the marks of ranges over a function, whose blocks hold no call. -/
def Marks (n0 : Nat) (w : World) (ds : List Deferred) : Prop := ∃ Ds : List Nat, ds = Ds.map (fun D => { target := .collected D, args := #[] }) ∧ Ds.Nodup ∧ ∀ D ∈ Ds, w.heap[D]? = some (.deferred (some [])) ∧ n0 ≤ D
theorem Marks.none (n0 : Nat) (w : World) : Marks n0 w [] := ⟨[], rfl, .nil, by simp⟩
theorem Marks.ext {n0 : Nat} {w w' : World} {ds : List Deferred} (h : Marks n0 w ds) (ho : Oth w w') : Marks n0 w' ds :=
  let ⟨Ds, h1, h2, h3⟩ := h; ⟨Ds, h1, h2, fun D hD => ⟨ho D _ (h3 D hD).1 rfl, (h3 D hD).2⟩⟩

/-- A frame of the model and its canonical one; the boxes; what has become of memory since. -/
structure St (N n : Nat) (I : Nat → Nat → Prop) (μ : List (List Place)) (w : World) (fr : Fr) (B : List Box) (a : Act) (I' : Nat → Nat → Prop) (μ' : List (List Place)) (w' : World) : Prop where
  size : a.tmps.size = n
  defers : Marks w.heap.size w' a.defers
  frame : ∀ i, V I' μ' w' (fr i) (a.tmps.getD i undef)
  box : BRel N I' μ' B w'
  ext : Ext I μ w I' μ' w'
  below : Below N w w'

def AWo (P : Program) (n : Nat) (ops : Array Oper) (Q : Fr → List Box → Prop) (l : List Oper) (fr : Fr) (B : List Box) : Prop :=
  ∀ (N : Nat) (I0 : Nat → Nat → Prop) (μ0 : List (List Place)) (w0 : World) (I : Nat → Nat → Prop) (μ : List (List Place)) (w : World) (a : Act) (Q' : Exit → Act → World → Prop), St N n I0 μ0 w0 fr B a I μ w →
    (∀ fr' B' a' I' μ' w', Q fr' B' → St N n I0 μ0 w0 fr' B' a' I' μ' w' → Q' .normal a' w') → wpList P ops Q' l a w

section
variable {P : Program} {N n : Nat} {I0 I : Nat → Nat → Prop} {μ0 μ : List (List Place)} {B : List Box} {w0 w : World} {o : Oper} {a : Act} {fr : Fr} {ops : Array Oper}

theorem put_getD (a : Act) (d : Option Tmp) (v : Value) (hd : ∀ t, d = some t → t < a.tmps.size) (i : Nat) : (a.put d v).tmps.getD i undef = if d = some i then v else a.tmps.getD i undef := by
  cases d with
  | none => simp [Act.put]
  | some t =>
    have := hd t rfl
    simp only [Act.put, Array.getD_eq_getD_getElem?, Array.getElem?_setIfInBounds]
    by_cases h : t = i
    · subst h; simp [this]
    · simp [h]

theorem St.put {c : CV} {v : Value} {B' : List Box} {I' : Nat → Nat → Prop} {μ' : List (List Place)} {w' : World} (h : St N n I0 μ0 w0 fr B a I μ w) (hs : Step N I μ w c v B' I' μ' w') {d : Option Tmp} (hd : ∀ t, d = some t → t < n) :
    St N n I0 μ0 w0 (upd fr d c) B' (a.put d v) I' μ' w' := by
  refine ⟨by cases d <;> simp [Act.put, h.size], by cases d <;> exact h.defers.ext hs.ext.oth, fun i => ?_, hs.box, h.ext.trans hs.ext, h.below.trans hs.below⟩
  rw [put_getD a d v (fun t ht => by rw [h.size]; exact hd t ht)]
  unfold upd
  cases d with
  | none => simpa using (h.frame i).ext hs.ext.toKeep
  | some t =>
    by_cases ht : i = t
    · subst ht; simpa using hs.val
    · rw [if_neg (by simpa using fun h => ht h.symm)]
      simp only [if_neg ht]
      exact (h.frame i).ext hs.ext.toKeep

theorem want_sound (hfr : ∀ i, V I μ w (fr i) (a.tmps.getD i undef)) {t : Bool} (h : wantC ops fr o = some t) : Region.wanted o (yielded ops a.tmps) = t := by
  unfold wantC at h
  unfold Region.wanted yielded
  split at h
  · rename_i hg
    simp at h
    simp [hg, h]
  · rename_i j want hg
    rw [hg]
    dsimp only
    split at h
    · rename_i hd
      simp at h; subst h
      simp [hd]
    · rename_i d hd
      have hv := hfr d
      split at h
      · rename_i b e1
        rw [e1] at hv
        have hv := hv.bool_inv
        simp at h; subst h
        have : a.tmps[d]? = some (.bool b) := by
          cases hx : a.tmps[d]? with
          | none => simp [Array.getD_eq_getD_getElem?, hx, undef] at hv
          | some x => simp [Array.getD_eq_getD_getElem?, hx] at hv; rw [hv]
        simp [hd, this]
      · rename_i cs e1
        rw [e1] at hv
        obtain ⟨vs, hv, _⟩ := hv.tup_inv
        simp at h; subst h
        have : ∀ b, a.tmps[d]? ≠ some (.bool b) := by
          intro b hx
          simp [Array.getD_eq_getD_getElem?, hx] at hv
        cases hx : a.tmps[d]? with
        | none => simp [hd, hx]
        | some x =>
          cases x <;> simp [hd, hx]
          exact absurd hx (this _)
      · cases h

theorem callable_run {f : FuncId} (h : callable P f = true) (args : Array Value) (w : World) : (callFunc f args).run P w = .ok (.enter f args) w := by
  unfold callable at h
  split at h
  · rename_i fn hf
    simp only [Bool.and_eq_true, bne_iff_ne] at h
    have h3 : ¬ fn.body = none := fun hx => by rw [hx] at h; exact absurd h.1 (by simp)
    simp [callFunc, hf, h.2, h3]
  · cases h

theorem operands_rel (hfr : ∀ i, V I μ w (fr i) (a.tmps.getD i undef)) : ∀ l : List Operand, R I μ w false (l.map (opv fr)) (l.map a.eval)
  | [] => .nil _
  | x :: l => .cons (opv_rel hfr x) (by simp) (operands_rel hfr l)

theorem stepG_sound {K : CV → List Box → Prop} {K' : Act → World → Prop} {Q' : Exit → Act → World → Prop} (hs : St N n I0 μ0 w0 fr B a I μ w) (h : StepG P o fr B K)
    (hk : ∀ c v B' I' μ' w', K c B' → Step N I μ w c v B' I' μ' w' → K' (a.put o.dst v) w') : o.wp P a w K' Q' := by
  unfold StepG at h
  split at h
  · rename_i args ts ho
    split at h
    · rename_i t tx s x e1 e2
      obtain ⟨y, z, e3, rfl, rfl⟩ : ∃ y z, args.toList = [y, z] ∧ opv fr y = s ∧ opv fr z = x := by
        match hl : args.toList with
        | [] => rw [hl] at e2; simp at e2
        | [_] => rw [hl] at e2; simp at e2
        | [y, z] => rw [hl] at e2; simp at e2; exact ⟨y, z, rfl, e2.1, e2.2⟩
        | _ :: _ :: _ :: _ => rw [hl] at e2; simp at e2
      have e4 : args = #[y, z] := by rw [← Array.toArray_toList (xs := args), e3]
      have e5 : ts = #[t, tx] := by rw [← Array.toArray_toList (xs := ts), e1]
      subst e4 e5
      obtain ⟨e, esz, zs, m, news, k, olds, he, hsz, hzs, hzl, hz0, hkind, hsrc, hnstr, hm, hold, hb1, hb2, hK⟩ := h
      have hy := opv_rel hs.frame y
      have hx := opv_rel hs.frame z
      have hB := hs.box
      have ht := elemT_some he
      obtain ⟨vs, hvs, src⟩ := src_rel hB (.inl hkind) hx hsrc (fun ⟨l, hl⟩ => absurd hl (hnstr l))
      obtain ⟨i, hi, rfl⟩ := szOf_info hsz
      obtain ⟨z0, _, hz, hzr⟩ := zeros_rel (I := I) (μ := μ) (w := w) hzs
      have hiz : i.zero = some z0 := by simpa [hi] using hz
      have hby : P.bytesOf e = i.bytes := by simp [Program.bytesOf, hi]
      have hzc : z0.cells.size = i.size := by have := hzr.len; simp at this; omega
      have hvl := hvs.len
      have hnl := src.newsLen
      have core : ∀ (A : Option Addr) (us : List Value) (c0 : Nat), a.eval y = .slice A k c0 → c0 < k + m → R I μ w true olds us → us.length = k * i.size → (us = [] ∨ ∃ b o, A = some ⟨b, o, none⟩ ∧ ∀ j u, us[j]? = some u → w.cell? ⟨b, o + j, none⟩ = some u) → o.wp P a w K' Q' := by
        intro A us c0 h1 hg h3 h4 h5
        have hrun := run_append_grow_src (P := P) w t tx o.type e i z0 ht hi hiz A k c0 us (run_firstCells' (w := w.drew) (P := P) h4 (by
          rcases h5 with h5 | ⟨b, o, h5, h8⟩
          · exact .inl h5
          · exact .inr ⟨b, o, h5, fun j u hj => h8 j u hj⟩)) (a.eval z) m vs src hg (by omega) (growslice_fits hg (by rw [← hby]; exact hb1))
        have hcap := grownCap_ge w (k + m) c0 e
        generalize grownCap w (k + m) c0 e = cap at hrun hcap
        have holds := h3.len
        have hrep : (Builtin.zeroCells z0.cells (cap - (k + m))).toList = repV z0.cells.toList (cap - (k + m)) := zero_row z0.cells _
        have hll : (olds ++ news ++ repC zs (cap - (k + m))).length = cap * i.size := by
          rw [List.length_append, List.length_append, holds, hvl, h4, hnl, repC_length, hzl, ← Nat.add_mul, ← Nat.add_mul]; congr 1; omega
        generalize hW : w.drew.alloc (.cells ((us ++ vs).toArray ++ Builtin.zeroCells z0.cells (cap - (k + m))) e) = W at hrun
        have hp : W.heap = w.heap.push (.cells ((us ++ vs).toArray ++ Builtin.zeroCells z0.cells (cap - (k + m))) e) := by rw [← hW]; rfl
        obtain ⟨g1, g2⟩ := hB.push hp (fun j _ hj => by omega) (cs := olds ++ news ++ repC zs (cap - (k + m))) (vs := us ++ vs ++ repV z0.cells.toList (cap - (k + m))) (rest := []) ((h3.append hvs).append (rep_rel hzr _)) (by simp [hrep])
        have hbel : Below N w W := Below.of_heap hB.low hp (by rw [← hW]; rfl) (by rw [← hW]; rfl) (by rw [← hW]; rfl)
        have hrun2 : (execOp a.eval o).run P w = .ok (.value (.slice (some ⟨w.heap.size, 0, none⟩) (k + m) cap)) W := run_call_append ho h1 hrun
        unfold Oper.wp
        rw [hrun2]
        refine hk _ _ _ _ _ _ (hK cap hcap) ⟨?_, g1, g2, hbel⟩
        have hv := R.cview (I := I) (w := W) (one := false) B.length 0 (k + m) cap i.size _ ⟨w.heap.size, 0, 0, (olds ++ news ++ repC zs (cap - (k + m))).length⟩ (last_place hB _) (List.mem_singleton.2 rfl) (Nat.le_refl _) (by show 0 + cap * i.size ≤ (olds ++ news ++ repC zs (cap - (k + m))).length; rw [hll]; omega) hcap ⟨_, e, push_new hp⟩ (.nil _)
        simpa using hv
      rcases hold with ⟨e1, rfl, rfl⟩ | ⟨e1, hol⟩ | ⟨b, off, c0, box, e1, hbx, hc0, rfl⟩
      · rw [e1] at hy
        exact core none [] 0 hy.nilS_inv (by omega) (.nil _) (by simp) (.inl rfl)
      · rw [e1] at hy
        rcases hy.lst_inv with ⟨b, o', cap, us, h1, h2, h3, h4, h5⟩ | ⟨A, h1, rfl, rfl⟩
        · have hc := h5 rfl
          subst hc
          exact core _ us _ h1 (by omega) h2 (by rw [← h2.len]; exact hol) (.inr ⟨b, o', rfl, fun j u hj => (h3 j u hj).1⟩)
        · exact core A [] _ h1 (by omega) (.nil _) (by simp) (.inl rfl)
      · rw [e1] at hy
        rcases hy.cview_inv with ⟨ps, p, h1, h2, h3, h4, h5, h6, h7⟩ | ⟨A, h1, rfl, rfl, _⟩
        · have hmul : k * i.size ≤ c0 * i.size := Nat.mul_le_mul_right _ h6
          obtain ⟨_, us, g1, g2, g3, _⟩ := view_cells hB hbx h2 h3 h4 (n := k) (sz := i.size) (by omega) (s := off) (e := k * i.size) (Nat.le_refl _) (Nat.le_refl _)
          exact core _ us _ h1 hc0 g1 g2 (.inr ⟨_, _, rfl, g3⟩)
        · exact core A [] _ h1 hc0 (by rw [Nat.zero_mul, List.take_zero]; exact .nil _) (by simp) (.inl rfl)
    · cases h
  · rename_i op t x y yt ho
    obtain ⟨⟨e, ht⟩, hy, hx, hop, k1, k2⟩ := h
    have h1 := opv_rel hs.frame x
    have h2 := opv_rel hs.frame y
    rw [hy] at h2
    have h2 := h2.nilS_inv
    obtain ⟨A, cap, h1, _⟩ := lenC_rel h1 hx
    have key : ∀ b, (execOp a.eval o).run P w = .ok (.value (.bool b)) w → o.wp P a w K' Q' := by
      intro b hr
      unfold Oper.wp
      rw [hr]
      have hst : Step N I μ w (.bool b) (.bool b) B I μ w := ⟨.bool _ (.nil _), hs.box, .refl _ _ _, Below.refl _ _⟩
      cases b
      · exact hk _ _ _ _ _ _ k2 hst
      · exact hk _ _ _ _ _ _ k1 hst
    rcases hop with rfl | rfl
    · exact key A.isNone (by simp [execOp, ho, h1, h2, eqGuard, binOp, equal_slice_nil ht])
    · exact key (!A.isNone) (by simp [execOp, ho, h1, h2, eqGuard, binOp, equal_slice_nil ht])
  · cases h

/-- One operation, carried out. -/
theorem step_sound {K : CV → List Box → Prop} {K' : Act → World → Prop} {Q' : Exit → Act → World → Prop} (hs : St N n I0 μ0 w0 fr B a I μ w) (h : StepC P o fr B K)
    (hk : ∀ c v B' I' μ' w', K c B' → Step N I μ w c v B' I' μ' w' → K' (a.put o.dst v) w') : o.wp P a w K' Q' := by
  have other : ∀ r, ev P o fr B = some r → K r.1 r.2 → o.wp P a w K' Q' := by
    intro r hr hK
    obtain ⟨nx, v, I', μ', w', h1, h2, h3⟩ := ev_sound hs.box hs.frame hr
    unfold Oper.wp
    rw [h1]
    cases nx <;> simp only [nxv] at h2 <;> try cases h2
    · exact hk _ _ _ _ _ _ hK h3
    · exact hk _ _ _ _ _ _ hK h3
  unfold StepC at h
  split at h
  · rename_i f args ts ho
    split at h
    · rename_i g first caps e1
      have hf := opv_rel hs.frame f
      rw [e1] at hf
      obtain ⟨fs, cps, hv, h1, h2⟩ := hf.fn_inv
      have hargs := operands_rel hs.frame args.toList
      have hall := (h1.append hargs).append h2
      rcases h with h | h
      rotate_left
      · obtain ⟨v, w', c, B', I', μ', g1, g2, g3⟩ := h N I μ w _ hs.box hall
        unfold Oper.wp
        have hrun : (execOp a.eval o).run P w = .ok (.value v) w' := by
          have e2 : (args.map a.eval) = (args.toList.map a.eval).toArray := by apply Array.ext'; simp
          simp only [execOp, ho, resolve, hv, Deferred.ofValue, Sem.run_bind, Sem.run_pure, Result.andThen_ok, invoke, e2]
          simpa using g1
        rw [hrun]
        exact hk _ _ _ _ _ _ g2 g3
      obtain ⟨hc, h⟩ := h
      have hc2 := h N I μ w _ hs.box hall
      unfold Oper.wp
      have hrun : (execOp a.eval o).run P w = .ok (.enter g (fs ++ args.toList.map a.eval ++ cps).toArray) w := by
        have e2 : (args.map a.eval) = (args.toList.map a.eval).toArray := by apply Array.ext'; simp
        simp only [execOp, ho, resolve, hv, Deferred.ofValue, Sem.run_bind, Sem.run_pure, Result.andThen_ok, invoke, e2]
        rw [callable_run hc]
        simp
      rw [hrun, Oper.upon_enter]
      exact hc2.mono fun e w' ⟨c, v, B', I', μ', he, hQ, hst⟩ => by
        subst he
        exact hk _ _ _ _ _ _ hQ hst
    · cases h
  · rcases h with h | h
    · split at h
      · rename_i r hr
        exact other r hr h
      · cases h
    · exact stepG_sound hs h hk

theorem WPo_sound {Q : Fr → List Box → Prop} : ∀ (l : List Oper) (fr : Fr) (B : List Box), WPo P n ops Q l fr B → AWo P n ops Q l fr B
  | [], fr, B, h => fun N I0 μ0 w0 I μ w a Q' hs hQ => hQ fr B a I μ w h hs
  | o :: rest, fr, B, h => fun N I0 μ0 w0 I μ w a Q' hs hQ => by
    unfold WPo at h
    obtain ⟨hd, h⟩ := h
    have hd' : ∀ t, o.dst = some t → t < n := fun t ht => by simpa [dstOk, ht] using hd
    split at h
    · rename_i t ht
      have hw := want_sound hs.frame ht
      unfold wpList
      cases t with
      | true =>
        rw [hw, if_pos rfl]
        exact .inl (step_sound hs (h.1 rfl) fun c v B' I' μ' w' hK hst => WPo_sound rest _ _ hK N I0 μ0 w0 I' μ' w' _ Q' (hs.put hst hd') hQ)
      | false =>
        rw [hw, if_neg (by simp)]
        exact WPo_sound rest _ _ (h.2 rfl) N I0 μ0 w0 I μ w _ Q' (hs.put ⟨.tup (.nil _) (.nil _), hs.box, .refl _ _ _, Below.refl _ _⟩ hd') hQ
    · cases h

end
end Go.Sy
