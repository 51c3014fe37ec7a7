/- Lemmas and definitions of this claim (own texts, joined by a program; what the claim does not use is left out). -/
import Derived.Test.YtcbdghgogmcllaaGreatDoorSf2
set_option linter.all false
set_option maxRecDepth 100000
set_option maxHeartbeats 4000000
section
namespace Go.Sy
open Go.RowKit (Below)
def callable (P : Program) (f : FuncId) : Bool := match P.funcs[f]? with | some fn => fn.body.isSome && fn.name != "runtime.NumGoroutine" | none => false
def ACall (P : Program) (f : FuncId) (args : List CV) (B : List Box) (Q : CV → List Box → Prop) : Prop :=
  callable P f = true ∧ ∀ (N : Nat) (I : Nat → Nat → Prop) (μ : List (List Place)) (w : World) (vs : List Value), BRel N I μ B w → R I μ w false args vs →
    Calls P f vs.toArray w fun e w' => ∃ c v B' I' μ', e = .returned v ∧ Q c B' ∧ Step N I μ w c v B' I' μ' w'
def ECall (P : Program) (f : FuncId) (args : List CV) (B : List Box) (Q : CV → List Box → Prop) : Prop :=
  ∀ (N : Nat) (I : Nat → Nat → Prop) (μ : List (List Place)) (w : World) (vs : List Value), BRel N I μ B w → R I μ w false args vs →
    ∃ v w' c B' I' μ', (callFunc f vs.toArray).run P w = .ok (.value v) w' ∧ Q c B' ∧ Step N I μ w c v B' I' μ' w'
theorem ECall.mono {P : Program} {f : FuncId} {args : List CV} {B : List Box} {Q Q' : CV → List Box → Prop} (h : ECall P f args B Q) (hq : ∀ c B', Q c B' → Q' c B') : ECall P f args B Q' :=
  fun N I μ w vs hB hv => let ⟨v, w', c, B', I', μ', h1, h2, h3⟩ := h N I μ w vs hB hv; ⟨v, w', c, B', I', μ', h1, hq _ _ h2, h3⟩
theorem ACall.mono {P : Program} {f : FuncId} {args : List CV} {B : List Box} {Q Q' : CV → List Box → Prop} (h : ACall P f args B Q) (hq : ∀ c B', Q c B' → Q' c B') : ACall P f args B Q' :=
  ⟨h.1, fun N I μ w vs hB hv => (h.2 N I μ w vs hB hv).mono fun _ _ ⟨c, v, B', I', μ', he, hQ, hs⟩ => ⟨c, v, B', I', μ', he, hq _ _ hQ, hs⟩⟩
def wantC (ops : Array Oper) (fr : Fr) (o : Oper) : Option Bool :=
  match o.guard with
  | none => some true
  | some (j, want) => match (ops[j]?).bind (·.dst) with
    | none => some false
    | some d => match fr d with
      | .bool b => some (b == want)
      | .tup _ => some false
      | _ => none
def StepG (P : Program) (o : Oper) (fr : Fr) (B : List Box) (K : CV → List Box → Prop) : Prop :=
  match o.op with
  | .call { callee := .builtin .append, args, argTypes } => match argTypes.toList, args.toList.map (opv fr) with
    | [t, tx], [s, x] => ∃ e esz zs m news n olds, elemT P t = some e ∧ szOf P e = some esz ∧ zerosOf P e = some zs ∧ zs.length = esz ∧ esz ≠ 0 ∧ (∃ e', P.underlying tx = some (.slice e')) ∧ srcC B esz x = some (m, news) ∧ (∀ l, x ≠ .str l) ∧ m ≠ 0 ∧
        (s = .nilS ∧ n = 0 ∧ olds = [] ∨ s = .lst n olds true ∧ olds.length = n * esz ∨ ∃ b off c0 box, s = .cview b off n c0 esz ∧ B[b]? = some box ∧ c0 < n + m ∧ olds = (box.cells.drop off).take (n * esz)) ∧ (n + m) * P.bytesOf e ≤ 140737488355328 ∧ n + m ≤ 140737488355328 ∧
        ∀ cap, n + m ≤ cap → K (.cview B.length 0 (n + m) cap esz) (B ++ [{ cells := olds ++ news ++ repC zs (cap - (n + m)) }])
    | _, _ => False
  | .binOp op t x y _ => (∃ e, P.underlying t = some (.slice e)) ∧ opv fr y = .nilS ∧ lenC (opv fr x) = some 0 ∧ (op = .eql ∨ op = .neq) ∧ K (.bool true) B ∧ K (.bool false) B
  | _ => False
def StepC (P : Program) (o : Oper) (fr : Fr) (B : List Box) (K : CV → List Box → Prop) : Prop :=
  match o.op with
  | .call { callee := .value f, args, .. } => match opv fr f with
    | .fn (.func g) first caps => ACall P g (first ++ args.toList.map (opv fr) ++ caps) B K ∨ ECall P g (first ++ args.toList.map (opv fr) ++ caps) B K
    | _ => False
  | _ => (match ev P o fr B with
    | some r => K r.1 r.2
    | none => False) ∨ StepG P o fr B K
def dstOk (n : Nat) (o : Oper) : Bool := match o.dst with | some d => decide (d < n) | none => true
def WPo (P : Program) (n : Nat) (ops : Array Oper) (Q : Fr → List Box → Prop) : List Oper → Fr → List Box → Prop
  | [], fr, B => Q fr B
  | o :: rest, fr, B => dstOk n o = true ∧ match wantC ops fr o with
    | some t => (t = true → StepC P o fr B fun c B' => WPo P n ops Q rest (upd fr o.dst c) B') ∧ (t = false → WPo P n ops Q rest (upd fr o.dst (.tup [])) B)
    | none => False
def quietOk (d : Deferred) : Prop := ∃ g caps, d = { target := .fn (.func g) caps, args := #[] } ∧ (g, caps.size) ∈ quietD
def defOf : Nat ⊕ Deferred → Deferred
  | .inl D => { target := .collected D, args := #[] }
  | .inr d => d
def Marks (n0 : Nat) (w : World) (ds : List Deferred) : Prop := ∃ L : List (Nat ⊕ Deferred), ds = L.map defOf ∧ (L.filterMap Sum.getLeft?).Nodup ∧ (∀ D, Sum.inl D ∈ L → w.heap[D]? = some (.deferred (some [])) ∧ n0 ≤ D) ∧ ∀ d, Sum.inr d ∈ L → quietOk d
theorem marks_cons (D : Nat) (L : List (Nat ⊕ Deferred)) : List.filterMap Sum.getLeft? (Sum.inl D :: L) = D :: List.filterMap Sum.getLeft? L := rfl
theorem marks_skip (d : Deferred) (L : List (Nat ⊕ Deferred)) : List.filterMap Sum.getLeft? (Sum.inr d :: L) = List.filterMap Sum.getLeft? L := rfl
theorem Marks.none (n0 : Nat) (w : World) : Marks n0 w [] := ⟨[], rfl, .nil, by simp, by simp⟩
theorem Marks.ext {n0 : Nat} {w w' : World} {ds : List Deferred} (h : Marks n0 w ds) (ho : Oth w w') : Marks n0 w' ds :=
  let ⟨L, h1, h2, h3, h4⟩ := h; ⟨L, h1, h2, fun D hD => ⟨ho D _ (h3 D hD).1 rfl, (h3 D hD).2⟩, h4⟩
structure St (N n : Nat) (I : Nat → Nat → Prop) (μ : List (List Place)) (w : World) (fr : Fr) (B : List Box) (a : Act) (I' : Nat → Nat → Prop) (μ' : List (List Place)) (w' : World) : Prop where
  size : a.tmps.size = n
  defers : Marks w.heap.size w' a.defers
  frame : ∀ i, V I' μ' w' (fr i) (a.tmps.getD i undef)
  box : BRel N I' μ' B w'
  ext : Ext I μ w I' μ' w'
  below : Below N w w'
def AWo (P : Program) (n : Nat) (ops : Array Oper) (Q : Fr → List Box → Prop) (l : List Oper) (fr : Fr) (B : List Box) : Prop :=
  ∀ (N : Nat) (I0 : Nat → Nat → Prop) (μ0 : List (List Place)) (w0 : World) (I : Nat → Nat → Prop) (μ : List (List Place)) (w : World) (a : Act) (Q' : Exit → Act → World → Prop), St N n I0 μ0 w0 fr B a I μ w →
    (∀ fr' B' a' I' μ' w', Q fr' B' → St N n I0 μ0 w0 fr' B' a' I' μ' w' → Q' .normal a' w') → wpList P ops Q' l a w
section
variable {P : Program} {N n : Nat} {I0 I : Nat → Nat → Prop} {μ0 μ : List (List Place)} {B : List Box} {w0 w : World} {o : Oper} {a : Act} {fr : Fr} {ops : Array Oper}
theorem put_getD (a : Act) (d : Option Tmp) (v : Value) (hd : ∀ t, d = some t → t < a.tmps.size) (i : Nat) : (a.put d v).tmps.getD i undef = if d = some i then v else a.tmps.getD i undef := by
  cases d with
  | none => simp [Act.put]
  | some t =>
    have := hd t rfl
    simp only [Act.put, Array.getD_eq_getD_getElem?, Array.getElem?_setIfInBounds]
    by_cases h : t = i
    · subst h; simp [this]
    · simp [h]
theorem St.put {c : CV} {v : Value} {B' : List Box} {I' : Nat → Nat → Prop} {μ' : List (List Place)} {w' : World} (h : St N n I0 μ0 w0 fr B a I μ w) (hs : Step N I μ w c v B' I' μ' w') {d : Option Tmp} (hd : ∀ t, d = some t → t < n) :
    St N n I0 μ0 w0 (upd fr d c) B' (a.put d v) I' μ' w' := by
  refine ⟨by cases d <;> simp [Act.put, h.size], by cases d <;> exact h.defers.ext hs.ext.oth, fun i => ?_, hs.box, h.ext.trans hs.ext, h.below.trans hs.below⟩
  rw [put_getD a d v (fun t ht => by rw [h.size]; exact hd t ht)]
  unfold upd
  cases d with
  | none => simpa using (h.frame i).ext hs.ext.toKeep
  | some t =>
    by_cases ht : i = t
    · subst ht; simpa using hs.val
    · rw [if_neg (by simpa using fun h => ht h.symm)]
      simp only [if_neg ht]
      exact (h.frame i).ext hs.ext.toKeep
theorem want_sound (hfr : ∀ i, V I μ w (fr i) (a.tmps.getD i undef)) {t : Bool} (h : wantC ops fr o = some t) : Region.wanted o (yielded ops a.tmps) = t := by
  unfold wantC at h
  unfold Region.wanted yielded
  split at h
  · rename_i hg
    simp at h
    simp [hg, h]
  · rename_i j want hg
    rw [hg]
    dsimp only
    split at h
    · rename_i hd
      simp at h; subst h
      simp [hd]
    · rename_i d hd
      have hv := hfr d
      split at h
      · rename_i b e1
        rw [e1] at hv
        have hv := hv.bool_inv
        simp at h; subst h
        have : a.tmps[d]? = some (.bool b) := by
          cases hx : a.tmps[d]? with
          | none => simp [Array.getD_eq_getD_getElem?, hx, undef] at hv
          | some x => simp [Array.getD_eq_getD_getElem?, hx] at hv; rw [hv]
        simp [hd, this]
      · rename_i cs e1
        rw [e1] at hv
        obtain ⟨vs, hv, _⟩ := hv.tup_inv
        simp at h; subst h
        have : ∀ b, a.tmps[d]? ≠ some (.bool b) := by
          intro b hx
          simp [Array.getD_eq_getD_getElem?, hx] at hv
        cases hx : a.tmps[d]? with
        | none => simp [hd, hx]
        | some x =>
          cases x <;> simp [hd, hx]
          exact absurd hx (this _)
      · cases h
theorem callable_run {f : FuncId} (h : callable P f = true) (args : Array Value) (w : World) : (callFunc f args).run P w = .ok (.enter f args) w := by
  unfold callable at h
  split at h
  · rename_i fn hf
    simp only [Bool.and_eq_true, bne_iff_ne] at h
    have h3 : ¬ fn.body = none := fun hx => by rw [hx] at h; exact absurd h.1 (by simp)
    simp [callFunc, hf, h.2, h3]
  · cases h
theorem operands_rel (hfr : ∀ i, V I μ w (fr i) (a.tmps.getD i undef)) : ∀ l : List Operand, R I μ w false (l.map (opv fr)) (l.map a.eval)
  | [] => .nil _
  | x :: l => .cons (opv_rel hfr x) (by simp) (operands_rel hfr l)
theorem stepGF_sound {K : CV → List Box → Prop} {K' : Act → World → Prop} {Q' : Exit → Act → World → Prop} (hB : BRel N I μ B w) (hfr : ∀ i, V I μ w (fr i) (a.tmps.getD i undef)) (h : StepG P o fr B K)
    (hk : ∀ c v B' I' μ' w', K c B' → Step N I μ w c v B' I' μ' w' → K' (a.put o.dst v) w') : o.wp P a w K' Q' := by
  unfold StepG at h
  split at h
  · rename_i args ts ho
    split at h
    · rename_i t tx s x e1 e2
      obtain ⟨y, z, e3, rfl, rfl⟩ : ∃ y z, args.toList = [y, z] ∧ opv fr y = s ∧ opv fr z = x := by
        match hl : args.toList with
        | [] => rw [hl] at e2; simp at e2
        | [_] => rw [hl] at e2; simp at e2
        | [y, z] => rw [hl] at e2; simp at e2; exact ⟨y, z, rfl, e2.1, e2.2⟩
        | _ :: _ :: _ :: _ => rw [hl] at e2; simp at e2
      have e4 : args = #[y, z] := by rw [← Array.toArray_toList (xs := args), e3]
      have e5 : ts = #[t, tx] := by rw [← Array.toArray_toList (xs := ts), e1]
      subst e4 e5
      obtain ⟨e, esz, zs, m, news, k, olds, he, hsz, hzs, hzl, hz0, hkind, hsrc, hnstr, hm, hold, hb1, hb2, hK⟩ := h
      have hy := opv_rel hfr y
      have hx := opv_rel hfr z
      have ht := elemT_some he
      obtain ⟨vs, hvs, src⟩ := src_rel hB (.inl hkind) hx hsrc (fun ⟨l, hl⟩ => absurd hl (hnstr l))
      obtain ⟨i, hi, rfl⟩ := szOf_info hsz
      obtain ⟨z0, _, hz, hzr⟩ := zeros_rel (I := I) (μ := μ) (w := w) hzs
      have hiz : i.zero = some z0 := by simpa [hi] using hz
      have hby : P.bytesOf e = i.bytes := by simp [Program.bytesOf, hi]
      have hzc : z0.cells.size = i.size := by have := hzr.len; simp at this; omega
      have hvl := hvs.len
      have hnl := src.newsLen
      have core : ∀ (A : Option Addr) (us : List Value) (c0 : Nat), a.eval y = .slice A k c0 → c0 < k + m → R I μ w true olds us → us.length = k * i.size → (us = [] ∨ ∃ b o, A = some ⟨b, o, none⟩ ∧ ∀ j u, us[j]? = some u → w.cell? ⟨b, o + j, none⟩ = some u) → o.wp P a w K' Q' := by
        intro A us c0 h1 hg h3 h4 h5
        have hrun := run_append_grow_src (P := P) w t tx o.type e i z0 ht hi hiz A k c0 us (run_firstCells' (w := w.drew) (P := P) h4 (by
          rcases h5 with h5 | ⟨b, o, h5, h8⟩
          · exact .inl h5
          · exact .inr ⟨b, o, h5, fun j u hj => h8 j u hj⟩)) (a.eval z) m vs src hg (by omega) (growslice_fits hg (by rw [← hby]; exact hb1))
        have hcap := grownCap_ge w (k + m) c0 e
        generalize grownCap w (k + m) c0 e = cap at hrun hcap
        have holds := h3.len
        have hrep : (Builtin.zeroCells z0.cells (cap - (k + m))).toList = repV z0.cells.toList (cap - (k + m)) := zero_row z0.cells _
        have hll : (olds ++ news ++ repC zs (cap - (k + m))).length = cap * i.size := by
          rw [List.length_append, List.length_append, holds, hvl, h4, hnl, repC_length, hzl, ← Nat.add_mul, ← Nat.add_mul]; congr 1; omega
        generalize hW : w.drew.alloc (.cells ((us ++ vs).toArray ++ Builtin.zeroCells z0.cells (cap - (k + m))) e) = W at hrun
        have hp : W.heap = w.heap.push (.cells ((us ++ vs).toArray ++ Builtin.zeroCells z0.cells (cap - (k + m))) e) := by rw [← hW]; rfl
        obtain ⟨g1, g2⟩ := hB.push hp (fun j _ hj => by omega) (cs := olds ++ news ++ repC zs (cap - (k + m))) (vs := us ++ vs ++ repV z0.cells.toList (cap - (k + m))) (rest := []) ((h3.append hvs).append (rep_rel hzr _)) (by simp [hrep])
        have hbel : Below N w W := Below.of_heap hB.low hp (by rw [← hW]; rfl) (by rw [← hW]; rfl) (by rw [← hW]; rfl)
        have hrun2 : (execOp a.eval o).run P w = .ok (.value (.slice (some ⟨w.heap.size, 0, none⟩) (k + m) cap)) W := run_call_append ho h1 hrun
        unfold Oper.wp
        rw [hrun2]
        refine hk _ _ _ _ _ _ (hK cap hcap) ⟨?_, g1, g2, hbel⟩
        have hv := R.cview (I := I) (w := W) (one := false) B.length 0 (k + m) cap i.size _ ⟨w.heap.size, 0, 0, (olds ++ news ++ repC zs (cap - (k + m))).length⟩ (last_place hB _) (List.mem_singleton.2 rfl) (Nat.le_refl _) (by show 0 + cap * i.size ≤ (olds ++ news ++ repC zs (cap - (k + m))).length; rw [hll]; omega) hcap ⟨_, e, push_new hp⟩ (.nil _)
        simpa using hv
      rcases hold with ⟨e1, rfl, rfl⟩ | ⟨e1, hol⟩ | ⟨b, off, c0, box, e1, hbx, hc0, rfl⟩
      · rw [e1] at hy
        exact core none [] 0 hy.nilS_inv (by omega) (.nil _) (by simp) (.inl rfl)
      · rw [e1] at hy
        rcases hy.lst_inv with ⟨b, o', cap, us, h1, h2, h3, h4, h5⟩ | ⟨A, h1, rfl, rfl⟩
        · have hc := h5 rfl
          subst hc
          exact core _ us _ h1 (by omega) h2 (by rw [← h2.len]; exact hol) (.inr ⟨b, o', rfl, fun j u hj => (h3 j u hj).1⟩)
        · exact core A [] _ h1 (by omega) (.nil _) (by simp) (.inl rfl)
      · rw [e1] at hy
        rcases hy.cview_inv with ⟨ps, p, h1, h2, h3, h4, h5, h6, h7⟩ | ⟨A, h1, rfl, rfl, _⟩
        · have hmul : k * i.size ≤ c0 * i.size := Nat.mul_le_mul_right _ h6
          obtain ⟨_, us, g1, g2, g3, _⟩ := view_cells hB hbx h2 h3 h4 (n := k) (sz := i.size) (by omega) (s := off) (e := k * i.size) (Nat.le_refl _) (Nat.le_refl _)
          exact core _ us _ h1 hc0 g1 g2 (.inr ⟨_, _, rfl, g3⟩)
        · exact core A [] _ h1 hc0 (by rw [Nat.zero_mul, List.take_zero]; exact .nil _) (by simp) (.inl rfl)
    · cases h
  · rename_i op t x y yt ho
    obtain ⟨⟨e, ht⟩, hy, hx, hop, k1, k2⟩ := h
    have h1 := opv_rel hfr x
    have h2 := opv_rel hfr y
    rw [hy] at h2
    have h2 := h2.nilS_inv
    obtain ⟨A, cap, h1, _⟩ := lenC_rel h1 hx
    have key : ∀ b, (execOp a.eval o).run P w = .ok (.value (.bool b)) w → o.wp P a w K' Q' := by
      intro b hr
      unfold Oper.wp
      rw [hr]
      have hst : Step N I μ w (.bool b) (.bool b) B I μ w := ⟨.bool _ (.nil _), hB, .refl _ _ _, Below.refl _ _⟩
      cases b
      · exact hk _ _ _ _ _ _ k2 hst
      · exact hk _ _ _ _ _ _ k1 hst
    rcases hop with rfl | rfl
    · exact key A.isNone (by simp [execOp, ho, h1, h2, eqGuard, binOp, equal_slice_nil ht])
    · exact key (!A.isNone) (by simp [execOp, ho, h1, h2, eqGuard, binOp, equal_slice_nil ht])
  · cases h
theorem stepF_sound {K : CV → List Box → Prop} {K' : Act → World → Prop} {Q' : Exit → Act → World → Prop} (hB : BRel N I μ B w) (hfr : ∀ i, V I μ w (fr i) (a.tmps.getD i undef)) (h : StepC P o fr B K)
    (hk : ∀ c v B' I' μ' w', K c B' → Step N I μ w c v B' I' μ' w' → K' (a.put o.dst v) w') : o.wp P a w K' Q' := by
  have other : ∀ r, ev P o fr B = some r → K r.1 r.2 → o.wp P a w K' Q' := by
    intro r hr hK
    obtain ⟨nx, v, I', μ', w', h1, h2, h3⟩ := ev_sound hB hfr hr
    unfold Oper.wp
    rw [h1]
    cases nx <;> simp only [nxv] at h2 <;> try cases h2
    · exact hk _ _ _ _ _ _ hK h3
    · exact hk _ _ _ _ _ _ hK h3
  unfold StepC at h
  split at h
  · rename_i f args ts ho
    split at h
    · rename_i g first caps e1
      have hf := opv_rel hfr f
      rw [e1] at hf
      obtain ⟨fs, cps, hv, h1, h2⟩ := hf.fn_inv
      have hargs := operands_rel hfr args.toList
      have hall := (h1.append hargs).append h2
      rcases h with h | h
      rotate_left
      · obtain ⟨v, w', c, B', I', μ', g1, g2, g3⟩ := h N I μ w _ hB hall
        unfold Oper.wp
        have hrun : (execOp a.eval o).run P w = .ok (.value v) w' := by
          have e2 : (args.map a.eval) = (args.toList.map a.eval).toArray := by apply Array.ext'; simp
          simp only [execOp, ho, resolve, hv, Deferred.ofValue, Sem.run_bind, Sem.run_pure, Result.andThen_ok, invoke, e2]
          simpa using g1
        rw [hrun]
        exact hk _ _ _ _ _ _ g2 g3
      obtain ⟨hc, h⟩ := h
      have hc2 := h N I μ w _ hB hall
      unfold Oper.wp
      have hrun : (execOp a.eval o).run P w = .ok (.enter g (fs ++ args.toList.map a.eval ++ cps).toArray) w := by
        have e2 : (args.map a.eval) = (args.toList.map a.eval).toArray := by apply Array.ext'; simp
        simp only [execOp, ho, resolve, hv, Deferred.ofValue, Sem.run_bind, Sem.run_pure, Result.andThen_ok, invoke, e2]
        rw [callable_run hc]
        simp
      rw [hrun, Oper.upon_enter]
      exact hc2.mono fun e w' ⟨c, v, B', I', μ', he, hQ, hst⟩ => by
        subst he
        exact hk _ _ _ _ _ _ hQ hst
    · cases h
  · rcases h with h | h
    · split at h
      · rename_i r hr
        exact other r hr h
      · cases h
    · exact stepGF_sound hB hfr h hk
theorem step_sound {K : CV → List Box → Prop} {K' : Act → World → Prop} {Q' : Exit → Act → World → Prop} (hs : St N n I0 μ0 w0 fr B a I μ w) (h : StepC P o fr B K)
    (hk : ∀ c v B' I' μ' w', K c B' → Step N I μ w c v B' I' μ' w' → K' (a.put o.dst v) w') : o.wp P a w K' Q' := stepF_sound hs.box hs.frame h hk
theorem WPo_sound {Q : Fr → List Box → Prop} : ∀ (l : List Oper) (fr : Fr) (B : List Box), WPo P n ops Q l fr B → AWo P n ops Q l fr B
  | [], fr, B, h => fun N I0 μ0 w0 I μ w a Q' hs hQ => hQ fr B a I μ w h hs
  | o :: rest, fr, B, h => fun N I0 μ0 w0 I μ w a Q' hs hQ => by
    unfold WPo at h
    obtain ⟨hd, h⟩ := h
    have hd' : ∀ t, o.dst = some t → t < n := fun t ht => by simpa [dstOk, ht] using hd
    split at h
    · rename_i t ht
      have hw := want_sound hs.frame ht
      unfold wpList
      cases t with
      | true =>
        rw [hw, if_pos rfl]
        exact .inl (step_sound hs (h.1 rfl) fun c v B' I' μ' w' hK hst => WPo_sound rest _ _ hK N I0 μ0 w0 I' μ' w' _ Q' (hs.put hst hd') hQ)
      | false =>
        rw [hw, if_neg (by simp)]
        exact WPo_sound rest _ _ (h.2 rfl) N I0 μ0 w0 I μ w _ Q' (hs.put ⟨.tup (.nil _) (.nil _), hs.box, .refl _ _ _, Below.refl _ _⟩ hd') hQ
    · cases h
end
end Go.Sy
end
section
namespace Go.Sy
open Go.RowKit (Below)
def maskOf (o : Oper) (acc : List Nat) : Nat := o.after.toList.foldl (fun s e => if Region.binds .any e then s ||| 2 ^ e.on ||| acc.getD e.on 0 else s) 0
def befs : List Oper → List Nat → List Nat
  | [], acc => acc
  | o :: rest, acc => befs rest (acc ++ [maskOf o acc])
def namesOf (ops : List Oper) (o : Oper) : List Tmp :=
  o.dst.toList ++ (o.op.operands.toList.filterMap fun | .tmp t => some t | _ => none) ++ (match o.guard with | some (j, _) => ((ops[j]?).bind (·.dst)).toList | none => [])
def orders (bs : List Nat) (i j : Nat) : Bool := (bs.getD (max i j) 0).testBit (min i j)
def still (P : Program) : Op → Bool
  | .move _ | .assign _ | .pick .. | .binOp .. | .unOp .. | .extract .. | .field .. | .index .. | .makeFunc .. | .makeInterface .. => true
  | .build .. => true
  | .buildSlice t .. => !boxedT t
  | .fieldAddr .. => true
  | .convert _ d _ => match P.underlying d with | some (.int _) => true | _ => false
  | .slice t .. => match P.underlying t with | some .string | some (.slice _) => true | _ => false
  | .call { callee := .builtin .len, args, argTypes } => args.size == 1 && argTypes.size == 1
  | .lookup .. => true
  | _ => false
def barrier (P : Program) (ops : List Oper) (bs hs : List Nat) (k : Nat) : Bool := (List.range ops.length).all fun i => i == k || orders bs i k || hs.contains i || (match ops[i]? with | some o => still P o.op | none => true)
def drawOk (ops : List Oper) (bs : List Nat) : Bool :=
  (ops.zipIdx.all fun (o, i) => o.after.toList.all fun e => !Region.binds .any e || decide (e.on < i)) &&
  (ops.zipIdx.all fun (o, i) => ops.zipIdx.all fun (p, j) => i == j || orders bs i j || (match p.dst with | some d => !(namesOf ops o).contains d | none => true))
section
variable {P : Program} {N n : Nat} {I0 I : Nat → Nat → Prop} {μ0 μ : List (List Place)} {B : List Box} {w0 w : World} {o : Oper} {a : Act} {fr : Fr} {ops : Array Oper}
theorem befs_prefix : ∀ (l : List Oper) (acc : List Nat) (i : Nat), i < acc.length → (befs l acc)[i]? = acc[i]?
  | [], acc, i, _ => rfl
  | o :: l, acc, i, h => by rw [befs, befs_prefix l _ i (by simp; omega), List.getElem?_append_left h]
theorem befs_get : ∀ (l : List Oper) (acc : List Nat) (i : Nat) (o : Oper), l[i]? = some o → (befs l acc)[acc.length + i]? = some (maskOf o ((befs l acc).take (acc.length + i)))
  | [], acc, i, o, h => by simp at h
  | p :: l, acc, i, o, h => by
    cases i with
    | zero =>
      simp at h; subst h
      rw [befs, Nat.add_zero, befs_prefix l _ _ (by simp)]
      have : ((befs l (acc ++ [maskOf p acc])).take acc.length) = acc := by
        apply List.ext_getElem?
        intro i
        rw [List.getElem?_take]
        split
        · rename_i hi
          rw [befs_prefix l _ i (by simp; omega), List.getElem?_append_left hi]
        · rename_i hi
          rw [List.getElem?_eq_none (by omega)]
      rw [this]
      simp
    | succ i =>
      have := befs_get l (acc ++ [maskOf p acc]) i o (by simpa using h)
      rw [befs]
      simpa [Nat.add_assoc, Nat.add_comm 1 i] using this
theorem mask_bit {o : Oper} {acc : List Nat} {j : Nat} (h : (maskOf o acc).testBit j = true) : ∃ e ∈ o.after, Region.binds .any e = true ∧ (e.on = j ∨ (acc.getD e.on 0).testBit j = true) := by
  have key : ∀ (l : List Edge) (s : Nat), (l.foldl (fun s e => if Region.binds .any e then s ||| 2 ^ e.on ||| acc.getD e.on 0 else s) s).testBit j = true → s.testBit j = true ∨ ∃ e ∈ l, Region.binds .any e = true ∧ (e.on = j ∨ (acc.getD e.on 0).testBit j = true) := by
    intro l
    induction l with
    | nil => intro s h; exact .inl h
    | cons e l ih =>
      intro s h
      rw [List.foldl_cons] at h
      rcases ih _ h with h1 | ⟨e', he, h1⟩
      · split at h1
        · rename_i hb
          simp only [Nat.testBit_or, Bool.or_eq_true, Nat.testBit_two_pow, decide_eq_true_eq] at h1
          rcases h1 with (h1 | h1) | h1
          · exact .inl h1
          · exact .inr ⟨e, by simp, hb, .inl h1⟩
          · exact .inr ⟨e, by simp, hb, .inr h1⟩
        · exact .inl h1
      · exact .inr ⟨e', by simp [he], h1⟩
  rcases key _ _ h with h1 | ⟨e, he, h1⟩
  · simp at h1
  · exact ⟨e, by simpa using he, h1⟩
def Closed (ops : Array Oper) (S : Nat → Bool) : Prop := ∀ (i : Nat) (o : Oper), ops[i]? = some o → S i = true → ∀ e ∈ o.after, Region.binds .any e = true → S e.on = true
theorem anc_in {S : Nat → Bool} (hc : Closed ops S) (hlt : ∀ (i : Nat) (o : Oper), ops[i]? = some o → ∀ e ∈ o.after, Region.binds .any e = true → e.on < i) :
    ∀ (i : Nat) (o : Oper) (j : Nat), ops[i]? = some o → ((befs ops.toList []).getD i 0).testBit j = true → (∀ e ∈ o.after, Region.binds .any e = true → S e.on = true) → S j = true := by
  intro i
  induction i using Nat.strongRecOn with
  | _ i ih =>
    intro o j ho hb hd
    have hg := befs_get ops.toList [] i o (by simpa using ho)
    simp only [List.length_nil, Nat.zero_add] at hg
    rw [List.getD_eq_getElem?_getD, hg, Option.getD_some] at hb
    obtain ⟨e, he, hbd, h1⟩ := mask_bit hb
    have hei := hlt i o ho e he hbd
    have hS := hd e he hbd
    rcases h1 with rfl | h1
    · exact hS
    · have hsz := (Array.getElem?_eq_some_iff.1 ho).1
      have hoe : ops[e.on]? = some ops[e.on] := by simp [show e.on < ops.size by omega]
      refine ih e.on hei _ j hoe ?_ (fun e' he' hb' => hc e.on _ hoe hS e' he' hb')
      rw [List.getD_eq_getElem?_getD, List.getElem?_take, if_pos hei, ← List.getD_eq_getElem?_getD] at h1
      exact h1
theorem evPure_congr {fr fr' : Fr} (hs : ∀ cs b, o.op ≠ .select cs b) (h : ∀ x ∈ o.op.operands, opv fr x = opv fr' x) : evPure P o fr = evPure P o fr' := by
  unfold evPure
  have e1 : (o.op.operands.all fun x => (toV (opv fr x)).isSome) = (o.op.operands.all fun x => (toV (opv fr' x)).isSome) := by
    rw [Bool.eq_iff_iff, Array.all_eq_true_iff_forall_mem, Array.all_eq_true_iff_forall_mem]
    exact ⟨fun hh x hx => by rw [← h x hx]; exact hh x hx, fun hh x hx => by rw [h x hx]; exact hh x hx⟩
  have e2 : execOp (fun x => (toV (opv fr x)).getD undef) o = execOp (fun x => (toV (opv fr' x)).getD undef) o :=
    execOp_congr o hs fun x hx => by rw [h x hx]
  rw [e1, e2]
theorem map_congr' {fr fr' : Fr} {l : List Operand} (h : ∀ x ∈ l, opv fr x = opv fr' x) : l.map (opv fr) = l.map (opv fr') := List.map_congr_left h
theorem ev_congr {fr fr' : Fr} (h : ∀ x ∈ o.op.operands, opv fr x = opv fr' x) : ev P o fr B = ev P o fr' B := by
  have hp : (∀ cs b, o.op ≠ .select cs b) → evPure P o fr = evPure P o fr' := fun hs => evPure_congr hs h
  cases ho : o.op with
  | call c =>
    obtain ⟨callee, args, ts⟩ := c
    cases callee with
    | builtin b =>
      have hp := hp (by simp [ho])
      have ha : args.toList.map (opv fr) = args.toList.map (opv fr') := map_congr' fun x hx => h x (by rw [ho]; simpa [Op.operands, Call.operands] using hx)
      simp only [ev, ho, ha, builtinC, hp]
    | value f => simp [ev, ho]
    | invoke x y => simp [ev, ho]
  | makeFunc f x y =>
    have h1 : x.toList.map (opv fr) = x.toList.map (opv fr') := map_congr' fun z hz => h z (by rw [ho]; simp [Op.operands]; exact .inl (by simpa using hz))
    have h2 : y.toList.map (opv fr) = y.toList.map (opv fr') := map_congr' fun z hz => h z (by rw [ho]; simp [Op.operands]; exact .inr (by simpa using hz))
    simp only [ev, ho, h1, h2]
  | build t ps =>
    have h1 : ps.toList.map (fun p => (p.1, opv fr p.2)) = ps.toList.map (fun p => (p.1, opv fr' p.2)) := List.map_congr_left fun p hp => by
      rw [h p.2 (by rw [ho]; simp only [Op.operands, List.mem_toArray]; exact List.mem_map.2 ⟨p, hp, rfl⟩)]
    simp only [ev, ho, h1]
  | buildSlice t k ps =>
    have h1 : ps.toList.map (fun p => (p.1, opv fr p.2)) = ps.toList.map (fun p => (p.1, opv fr' p.2)) := List.map_congr_left fun p hp => by
      rw [h p.2 (by rw [ho]; simp only [Op.operands, List.mem_toArray]; exact List.mem_map.2 ⟨p, hp, rfl⟩)]
    simp only [ev, ho, h1]
  | slice t x l hi m =>
    have hx := h x (by rw [ho]; simp [Op.operands])
    have hl : l.map (opv fr) = l.map (opv fr') := by
      cases l with
      | none => rfl
      | some y => simp only [Option.map_some]; rw [h y (by rw [ho]; simp [Op.operands])]
    have hh : hi.map (opv fr) = hi.map (opv fr') := by
      cases hi with
      | none => rfl
      | some y => simp only [Option.map_some]; rw [h y (by rw [ho]; simp [Op.operands])]
    have hm : m.map (opv fr) = m.map (opv fr') := by
      cases m with
      | none => rfl
      | some y => simp only [Option.map_some]; rw [h y (by rw [ho]; simp [Op.operands])]
    simp only [ev, ho, hx, hl, hh, hm]
  | pick x y z =>
    have h1 := h x (by rw [ho]; simp [Op.operands])
    have h2 := h y (by rw [ho]; simp [Op.operands])
    have h3 := h z (by rw [ho]; simp [Op.operands])
    simp only [ev, ho, h1, h2, h3]
  | store t x y =>
    have h1 := h x (by rw [ho]; simp [Op.operands])
    have h2 := h y (by rw [ho]; simp [Op.operands])
    simp only [ev, ho, h1, h2]
  | binOp op t x y yt =>
    have h1 := h x (by rw [ho]; simp [Op.operands])
    have h2 := h y (by rw [ho]; simp [Op.operands])
    have hp := hp (by simp [ho])
    simp only [ev, ho, h1, h2, hp]
  | unOp op t x =>
    have h1 := h x (by rw [ho]; simp [Op.operands])
    have hp := hp (by simp [ho])
    simp only [ev, ho, h1, hp]
  | convert s d x =>
    have h1 := h x (by rw [ho]; simp [Op.operands])
    have hp := hp (by simp [ho])
    simp only [ev, ho, h1, hp]
  | makeSlice t x y | indexAddr t x y | index t x y =>
    have h1 := h x (by rw [ho]; simp [Op.operands])
    have h2 := h y (by rw [ho]; simp [Op.operands])
    simp only [ev, ho, h1, h2]
  | lookup t x i ok =>
    have h1 := h x (by rw [ho]; simp [Op.operands])
    have h2 := h i (by rw [ho]; simp [Op.operands])
    simp only [ev, ho, h1, h2]
  | move x | assign x | box t x | load t x | nilCheck x | sliceToArrayPointer t x | makeInterface t x | fieldAddr t x i | field t x i | extract x i =>
    have h1 := h x (by rw [ho]; simp [Op.operands])
    simp only [ev, ho, h1]
  | _ => simp only [ev, ho]
theorem still_ev {o : Oper} {fr : Fr} (h : still P o.op = true) : ∃ r : Option CV, ∀ B : List Box, ev P o fr B = r.map (·, B) := by
  unfold still at h
  split at h
  all_goals first | cases h | skip
  · rename_i x ho; exact ⟨some (opv fr x), fun B => by simp only [ev, ho]; rfl⟩
  · rename_i x ho; exact ⟨some (opv fr x), fun B => by simp only [ev, ho]; rfl⟩
  · rename_i c a b ho
    cases hc : opv fr c with
    | bool t => exact ⟨some (if t then opv fr a else opv fr b), fun B => by simp only [ev, ho, hc]; rfl⟩
    | _ => exact ⟨none, fun B => by simp only [ev, ho, hc]; rfl⟩
  · rename_i op t x y yt ho
    cases h1 : binC P op t (opv fr x) (opv fr y) with
    | some r => exact ⟨r, fun B => by simp only [ev, ho, h1]⟩
    | none =>
      cases h2 : aggEq P op t (opv fr x) (opv fr y) with
      | some c => exact ⟨some c, fun B => by simp only [ev, ho, h1, h2]; rfl⟩
      | none => exact ⟨evPure P o fr, fun B => by simp only [ev, ho, h1, h2]⟩
  · rename_i op t x ho
    cases h1 : unC op (opv fr x) with
    | some r => exact ⟨r, fun B => by simp only [ev, ho, h1]⟩
    | none => exact ⟨evPure P o fr, fun B => by simp only [ev, ho, h1]⟩
  · rename_i x i ho
    cases hc : opv fr x with
    | tup cs => exact ⟨cs[i]?, fun B => by simp only [ev, ho, hc]⟩
    | _ => exact ⟨none, fun B => by simp only [ev, ho, hc]; rfl⟩
  · rename_i t x i ho
    refine ⟨match opv fr x, P.underlying t with | .agg cs, some (.struct fs) => (fs[i]?).bind fun f => partC P f.type cs f.offset | _, _ => none, fun B => ?_⟩
    simp only [ev, ho]
    generalize opv fr x = X
    generalize P.underlying t = U
    split
    · rename_i fs; dsimp only; cases fs[i]? <;> rfl
    · split <;> first | rfl | simp_all
  · rename_i t x i ho
    refine ⟨match opv fr x, opv fr i, P.underlying t with
      | .str s, .int _ i, some .string => if 0 ≤ i then (s[i.toNat]?).map byteC else none
      | .agg cs, .int _ i, some (.array n e) => if 0 ≤ i ∧ i < n then (szOf P e).bind fun esz => partC P e cs (i.toNat * esz) else none
      | _, _, _ => none, fun B => ?_⟩
    simp only [ev, ho]
    generalize opv fr x = X
    generalize opv fr i = Y
    generalize P.underlying t = U
    split
    · rename_i s _ i; dsimp only; split
      · cases s[i.toNat]? <;> rfl
      · rfl
    · rename_i cs _ i n e; dsimp only; split
      · cases szOf P e <;> rfl
      · rfl
    · split <;> first | rfl | (exfalso; simp_all; done) | (exfalso; rename_i hh; exact hh _ _ _ _ _ rfl rfl rfl)
  · rename_i f x y ho; exact ⟨some (.fn f (x.toList.map (opv fr)) (y.toList.map (opv fr))), fun B => by simp only [ev, ho]; rfl⟩
  · rename_i t x ho
    cases hc : P.underlying t with
    | none => exact ⟨none, fun B => by simp only [ev, ho, hc]; rfl⟩
    | some d => cases d with
      | interface _ => exact ⟨none, fun B => by simp only [ev, ho, hc]; rfl⟩
      | _ => exact ⟨some (.iface t (opv fr x)), fun B => by simp only [ev, ho, hc]; rfl⟩
  · rename_i t parts ho
    refine ⟨(zerosOf P t).bind fun zs => match P.underlying t with
      | some (.struct fs) => if fs.toList.all (fun f => (szOf P f.type).isSome) = false then none else (fillC (fun i => (fs[i]?).bind fun f => (szOf P f.type).map (f.offset, ·)) zs (parts.toList.map fun p => (p.1, opv fr p.2))).map .agg
      | some (.array _ e) => (szOf P e).bind fun esz => (fillC (fun i => some (i * esz, esz)) zs (parts.toList.map fun p => (p.1, opv fr p.2))).map .agg
      | _ => none, fun B => ?_⟩
    simp only [ev, ho]
    cases zerosOf P t with
    | none => rfl
    | some zs =>
      simp only [Option.bind_some]
      generalize P.underlying t = U
      split
      · dsimp only; split
        · rfl
        · rw [Option.map_map]; rfl
      · rename_i e; dsimp only; cases szOf P e with
        | none => rfl
        | some z => simp only [Option.bind_some]; rw [Option.map_map]; rfl
      · split <;> first | rfl | simp_all
  · rename_i t k parts ho
    refine ⟨(elemT P t).bind fun e => (szOf P e).bind fun esz => if k * esz > 65536 ∨ esz = 0 then none else (zerosOf P e).bind fun zs => if zs.length ≠ esz then none else
      (fillC (fun i => some (i * esz, esz)) (repC zs k) (parts.toList.map fun p => (p.1, opv fr p.2))).map fun cs => .lst k cs true, fun B => ?_⟩
    have hbx : boxedT t = false := by simpa using h
    simp only [ev, ho, hbx]
    cases elemT P t with
    | none => rfl
    | some e =>
      simp only [Option.bind_some]
      cases szOf P e with
      | none => rfl
      | some esz =>
        simp only [Option.bind_some]
        split
        · rfl
        · cases zerosOf P e with
          | none => rfl
          | some zs =>
            simp only [Option.bind_some]
            split
            · rfl
            · rw [Option.map_map]; rfl
  · rename_i t x i ho
    refine ⟨match P.underlying t with
      | some (.struct fs) => (fs[i]?).bind fun f => match szOf P f.type with
        | some (_ + 1) => match opv fr x with | .ptr b off => some (.ptr b (off + f.offset)) | .iptr cs => some (.iptr (cs.drop f.offset)) | _ => none
        | _ => none
      | _ => none, fun B => ?_⟩
    simp only [ev, ho]
    generalize opv fr x = X
    generalize P.underlying t = U
    split
    · rename_i fs
      dsimp only
      cases fs[i]? with
      | none => rfl
      | some f =>
        simp only [Option.bind_some]
        cases szOf P f.type with
        | none => rfl
        | some z => cases z with
          | zero => rfl
          | succ z => cases X <;> rfl
    · split <;> first | rfl | simp_all
  · rename_i s d x ho
    cases hd : P.underlying d with
    | none => rw [hd] at h; cases h
    | some dd =>
      cases dd with
      | int k =>
        refine ⟨match opv fr x, P.underlying s with | .int _ n, some _ => some (.int k (k.wrap n)) | _, _ => evPure P o fr, fun B => ?_⟩
        simp only [ev, ho, hd]
        generalize opv fr x = X
        generalize P.underlying s = U
        cases X <;> cases U <;> first | rfl | (rename_i dd; cases dd <;> rfl)
      | _ => rw [hd] at h; cases h
  · rename_i t x lo hi mx ho
    cases hd : P.underlying t with
    | none => rw [hd] at h; cases h
    | some dd =>
      cases dd with
      | string =>
        refine ⟨match opv fr x, mx with | .str s, none => (boundsC s.length (lo.map (opv fr)) (hi.map (opv fr)) none).map fun (l, h, _) => .str ((s.drop l).take (h - l)) | _, _ => none, fun B => ?_⟩
        simp only [ev, ho, hd]
        generalize opv fr x = X
        split
        · simp only [Option.map_map]; rfl
        · split <;> first | rfl | simp_all
      | slice e =>
        refine ⟨(szOf P e).bind fun esz => match opv fr x with
          | .nilS => (boundsC 0 (lo.map (opv fr)) (hi.map (opv fr)) (mx.map (opv fr))).map fun _ => .nilS
          | .lst n cs full => (boundsC n (lo.map (opv fr)) (hi.map (opv fr)) (mx.map (opv fr))).map fun (l, h, m) => .lst (h - l) ((cs.drop (l * esz)).take ((h - l) * esz)) (fullC m full h n)
          | .cview b off n cap sz => if sz = esz ∧ mx.isNone then (boundsK n cap (lo.map (opv fr)) (hi.map (opv fr))).map fun (l, h) => .cview b (off + l * sz) (h - l) (cap - l) sz else if sz = esz then (boundsC n (lo.map (opv fr)) (hi.map (opv fr)) (mx.map (opv fr))).map fun (l, h, m) => .cview b (off + l * esz) (h - l) (m.getD cap - l) esz else none
          | .view b off n sz full => if sz = esz then (boundsC n (lo.map (opv fr)) (hi.map (opv fr)) (mx.map (opv fr))).map fun (l, h, m) => .view b (off + l * esz) (h - l) esz (fullC m full h n) else none
          | _ => none, fun B => ?_⟩
        simp only [ev, ho, hd]
        cases szOf P e with
        | none => rfl
        | some esz =>
          simp only [Option.bind_some]
          generalize opv fr x = X
          cases X <;> dsimp only <;> first | rfl | (simp only [Option.map_map]; rfl) | (split <;> first | rfl | (simp only [Option.map_map]; rfl) | (split <;> first | rfl | (simp only [Option.map_map]; rfl)))
      | _ => rw [hd] at h; cases h
  · rename_i args ts ho
    simp only [Bool.and_eq_true, beq_iff_eq] at h
    obtain ⟨h1, h2⟩ := h
    obtain ⟨x, hx⟩ : ∃ x, args = #[x] := by
      match args, h1 with
      | ⟨[x]⟩, _ => exact ⟨x, rfl⟩
    obtain ⟨t, ht⟩ : ∃ t, ts = #[t] := by
      match ts, h2 with
      | ⟨[t]⟩, _ => exact ⟨t, rfl⟩
    subst hx ht
    refine ⟨match opv fr x with
      | .nilS => if (elemT P t).isSome then some (.int .i64 0) else none
      | .lst n _ _ => if (elemT P t).isSome then some (.int .i64 n) else none
      | .view _ _ n _ _ => if (elemT P t).isSome then some (.int .i64 n) else none
      | .cview _ _ n _ _ => if (elemT P t).isSome then some (.int .i64 n) else none
      | .str s => match P.underlying t with | some .string => some (.int .i64 s.length) | _ => none
      | _ => match P.underlying t with | some (.array n _) => some (.int .i64 n) | _ => none, fun B => ?_⟩
    simp only [ev, ho, builtinC, List.map_cons, List.map_nil]
    generalize opv fr x = X
    generalize P.underlying t = U
    cases X <;> dsimp only <;> first | rfl | (split <;> rfl) | (split <;> first | rfl | (split <;> first | rfl | (exfalso; rename_i hh _ _ _; exact hh _ _ rfl) | (exfalso; rename_i hh; exact hh _ _ rfl) | simp_all))
  · rename_i t x i ok ho; exact ⟨lookC P t (opv fr x) (opv fr i) ok, fun B => by simp only [ev, ho]⟩
theorem StepC_still {o : Oper} {fr : Fr} {B B1 : List Box} {v : CV} (h : still P o.op = true) (hs : StepC P o fr B fun c B'' => c = v ∧ B'' = B1) : B1 = B ∧ ∀ B2, StepC P o fr B2 fun c B'' => c = v ∧ B'' = B2 := by
  obtain ⟨r, hr⟩ := still_ev (P := P) (fr := fr) h
  have hnc : ∀ f args ts, o.op ≠ .call { callee := .value f, args, argTypes := ts } := by
    intro f args ts ho
    rw [ho] at h; simp [still] at h
  have back : ∀ (B : List Box) (K : CV → List Box → Prop), (match r with | some c => K c B | none => False) → StepC P o fr B K := by
    intro B K hk
    unfold StepC
    split
    · rename_i f args ts ho
      exact absurd ho (hnc f args ts)
    · left
      rw [hr]
      cases r with
      | none => exact hk
      | some c => exact hk
  unfold StepC at hs
  split at hs
  · rename_i f args ts ho
    exact absurd ho (hnc f args ts)
  · rcases hs with hs | hs
    · rw [hr] at hs
      cases r with
      | none => exact hs.elim
      | some c =>
        obtain ⟨h1, h2⟩ : c = v ∧ B = B1 := hs
        exact ⟨h2.symm, fun B2 => back B2 _ ⟨h1, rfl⟩⟩
    · exfalso
      unfold StepG at hs
      split at hs
      · rename_i args ts ho; rw [ho] at h; simp [still] at h
      · obtain ⟨_, _, _, _, ⟨k1, _⟩, k2, _⟩ := hs
        rw [← k1] at k2; cases k2
      · exact hs
theorem StepC_congr {fr fr' : Fr} {K : CV → List Box → Prop} (h : ∀ x ∈ o.op.operands, opv fr x = opv fr' x) : StepC P o fr B K ↔ StepC P o fr' B K := by
  unfold StepC
  rw [ev_congr h]
  split
  · rename_i f args ts ho
    have h1 := h f (by rw [ho]; simp [Op.operands, Call.operands])
    have h2 : args.toList.map (opv fr) = args.toList.map (opv fr') := map_congr' fun x hx => h x (by rw [ho]; simp only [Op.operands, Call.operands]; exact Array.mem_append.2 (.inr (by simpa using hx)))
    rw [h1, h2]
  · have : StepG P o fr B K = StepG P o fr' B K := by
      unfold StepG
      split
      · rename_i args ts ho
        have h2 : args.toList.map (opv fr) = args.toList.map (opv fr') := map_congr' fun x hx => h x (by rw [ho]; simp only [Op.operands, Call.operands]; simpa using hx)
        rw [h2]
      · rename_i op t x y yt ho
        rw [h x (by rw [ho]; simp [Op.operands]), h y (by rw [ho]; simp [Op.operands])]
      · rfl
    rw [this]
end
end Go.Sy
end
section
namespace Go.Sy
open Go.RowKit (Below)
section
variable {P : Program} {N n : Nat} {I0 I : Nat → Nat → Prop} {μ0 μ : List (List Place)} {B : List Box} {w0 w : World} {o : Oper} {a : Act} {fr : Fr} {ops : Array Oper}
theorem BRel.none_ (w : World) (J : Nat → Nat → Prop) (hJ : ∀ b j, J b j → b < w.heap.size) (ht : TabsOk J w) : BRel w.heap.size J [] [] w :=
  ⟨rfl, Nat.le_refl _, hJ, fun _ _ _ h => by simp at h, fun _ _ _ _ _ _ h => by simp at h, fun _ _ h => by simp at h, fun _ _ _ _ h => by simp at h, ht⟩
theorem BRel.behind {w' : World} {I2 : Nat → Nat → Prop} (hB : BRel N I μ B w) (hb : Below w.heap.size w w') (h1 : ∀ b j, I b j → I2 b j) (h2 : ∀ b j, I2 b j → I b j ∨ (w.heap.size ≤ b ∧ b < w'.heap.size)) :
    BRel N I2 μ B w' ∧ Ext I μ w I2 μ w' ∧ Below N w w' := by
  have hs : ∀ b, b < w.heap.size → w'.heap[b]? = w.heap[b]? := hb.block
  have e0 := hB.ext_same hb.size hs
  have e : Ext I μ w I2 μ w' := ⟨⟨h1, e0.same, e0.free, e0.plain, e0.grow, e0.maps⟩, e0.size, e0.more, e0.news, fun b j hj => by
    rcases h2 b j hj with h | h
    · exact .inl h
    · exact .inr (.inl h.1), fun _ h => h, e0.oth⟩
  have hk := hB.keep hb.size hs
  have k : Keep I μ w' I2 μ w' := ⟨h1, fun _ _ _ => rfl, fun _ _ h => h, fun _ h => h, fun _ ps h => ⟨ps, h, fun _ h => h⟩, fun _ _ _ _ h => h⟩
  refine ⟨⟨hB.len, hk.low, fun b j hj => ?_, hk.places, hB.disj, fun β box h3 h4 => ?_, fun β box ps p h3 h4 h5 h6 => ?_, hB.tabs.keep e.toKeep⟩, e, ⟨hb.os, hb.tape, hb.output, hb.size, fun k hk => hs k (by have := hB.low; omega)⟩⟩
  · rcases h2 b j hj with h | h
    · exact hk.imm b j h
    · exact h.2
  · rcases hk.one β box h3 h4 with a0 | ⟨p, a1, a2, a3, ⟨vs, a4, a5⟩, a6⟩
    · exact .inl a0
    have hl := (hB.places β [p] p a1 (by simp)).2.2.lt
    exact .inr ⟨p, a1, a2, a3, ⟨vs, a4.ext k, a5⟩, fun j hj => by
      rcases h2 _ _ hj with h | h
      · exact a6 j h
      · omega⟩
  · obtain ⟨a1, ⟨vs, a2, a3⟩, a4⟩ := hk.many β box ps p h3 h4 h5 h6
    have hl := (hB.places β ps p h5 h6).2.2.lt
    exact ⟨a1, ⟨vs, a2.ext k, fun j v hj => ⟨(a3 j v hj).1, h1 _ _ (a3 j v hj).2⟩⟩, fun hk j hj hi => by
      rcases h2 _ _ hi with h | h
      · exact a4 hk j hj h
      · omega⟩
theorem opv_eq_of {fr fr' : Fr} {x : Operand} (h : ∀ t, x = .tmp t → fr t = fr' t) : opv fr x = opv fr' x := by
  cases x with
  | tmp t => exact h t rfl
  | _ => rfl
def flat : CV → Bool
  | .bool _ | .int .. | .str _ | .nilP | .nilS | .nilF | .nilI => true
  | _ => false
def flat1 : CV → Bool
  | .lst _ cs _ => cs.all flat
  | c => flat c
theorem flats_any {one : Bool} {I' : Nat → Nat → Prop} {μ' : List (List Place)} {w' : World} : ∀ {cs : List CV} {vs : List Value}, R I μ w one cs vs → cs.all flat = true → R I' μ' w' one cs vs := by
  intro cs vs h
  induction h with
  | nil => intro _; exact .nil _
  | bool b _ ih => intro h; rw [List.all_cons, Bool.and_eq_true] at h; exact .bool b (ih h.2)
  | int k n _ ih => intro h; rw [List.all_cons, Bool.and_eq_true] at h; exact .int k n (ih h.2)
  | str s _ ih => intro h; rw [List.all_cons, Bool.and_eq_true] at h; exact .str s (ih h.2)
  | nilP _ ih => intro h; rw [List.all_cons, Bool.and_eq_true] at h; exact .nilP (ih h.2)
  | nilS _ ih => intro h; rw [List.all_cons, Bool.and_eq_true] at h; exact .nilS (ih h.2)
  | nilF _ ih => intro h; rw [List.all_cons, Bool.and_eq_true] at h; exact .nilF (ih h.2)
  | nilI _ ih => intro h; rw [List.all_cons, Bool.and_eq_true] at h; exact .nilI (ih h.2)
  | _ => intro h; rw [List.all_cons, Bool.and_eq_true] at h; exact absurd h.1 (by simp [flat])
theorem flat1_any {c : CV} {v : Value} {μ' : List (List Place)} (h : V I μ w c v) (hf : flat1 c = true) : V I μ' w c v := by
  cases c with
  | lst n cs full =>
    cases h with
    | lst n full b o cap h hm hn hf' tl => exact .lst n full b o cap (flats_any h hf) hm hn hf' (.nil _)
    | lstE full A tl => exact .lstE full A (.nil _)
  | _ => exact flats_any h (by simpa [flat1] using hf)
def mvC (β : Nat) : CV → Option CV
  | .ptr 0 off => some (.ptr β off)
  | .view 0 off n sz full => some (.view β off n sz full)
  | .cview 0 off n cap sz => some (.cview β off n cap sz)
  | c => if flat1 c then some c else none
theorem mv_rel {ps : List Place} {μ' : List (List Place)} {β : Nat} {c c' : CV} {v : Value} (hβ : μ'[β]? = some ps) (hc : mvC β c = some c') (h : V I [ps] w c v) : V I μ' w c' v := by
  have hl : β < μ'.length := (List.getElem?_eq_some_iff.1 hβ).1
  unfold mvC at hc
  split at hc
  · simp at hc; subst hc
    cases h with
    | ptr _ off qs p hb hp hlo tl =>
      simp at hb; subst hb
      exact .ptr β _ ps p hβ hp hlo (.nil _)
  · simp at hc; subst hc
    cases h with
    | view _ off n sz full qs p cap hb hp hlo hk hn hf hr tl =>
      simp at hb; subst hb
      exact .view β _ _ _ _ ps p cap hβ hp hlo hk hn hf hr (.nil _)
    | viewE _ off sz full A hb tl => obtain ⟨qs, p, h1, h2⟩ := hb; simp at h1; subst h1; exact .viewE β _ _ _ A ⟨ps, p, hβ, h2⟩ (.nil _)
  · simp at hc; subst hc
    cases h with
    | cview _ off n cap sz qs p hb hp hlo hk hn hpl tl =>
      simp at hb; subst hb
      exact .cview β _ _ _ _ ps p hβ hp hlo hk hn hpl (.nil _)
    | cviewE _ off sz A hb tl => obtain ⟨qs, p, h1, h2⟩ := hb; simp at h1; subst h1; exact .cviewE β _ _ A ⟨ps, p, hβ, h2⟩ (.nil _)
  · split at hc
    · rename_i hf
      simp at hc; subst hc
      exact flat1_any h hf
    · cases hc
def flatO (fr : Fr) : Operand → Bool
  | .tmp t => flat1 (fr t)
  | _ => true
theorem flatO_congr {fr fr' : Fr} {x : Operand} (h : opv fr x = opv fr' x) : flatO fr x = flatO fr' x := by
  cases x with
  | tmp t => exact congrArg flat1 h
  | _ => rfl
def Made (P : Program) (o : Oper) (fr : Fr) (c : CV) (bx : Box) : Prop :=
  o.op.operands.toList.all (flatO fr) = true ∧ ev P o fr [] = some (c, [bx]) ∧ bx.multi = false ∧ bx.cells.all flat = true
def FreeOp (P : Program) (J : List Box → Prop) (o : Oper) (fr : Fr) (c : CV) : Prop := ∀ B, J B → StepC P o fr B fun c' B' => c' = c ∧ B' = B
def keepsH (bs : List Nat) (k : Nat) (B B' : List Box) : Nat → List Nat → Prop
  | _, [] => True
  | b, k' :: hs => (orders bs k' k = true ∨ B'[b]? = B[b]?) ∧ keepsH bs k B B' (b + 1) hs
def WPd (P : Program) (n : Nat) (ops : Array Oper) (bs : List Nat) (base : Nat) (hs : List Nat) (J : List Box → Prop) (Q : Fr → List Box → Prop) : Nat → List Oper → Fr → List Box → Prop
  | _, [], fr, B => Q fr B
  | k, o :: rest, fr, B => dstOk n o = true ∧ match wantC ops fr o with
    | some t => (t = true → if hs.contains k then (∃ j c bx c', hs[j]? = some k ∧ Made P o fr c bx ∧ B[base + j]? = some bx ∧ mvC (base + j) c = some c' ∧ WPd P n ops bs base hs J Q (k + 1) rest (upd fr o.dst c') B) ∨
            ∃ c, FreeOp P J o fr c ∧ WPd P n ops bs base hs J Q (k + 1) rest (upd fr o.dst c) B
          else ∃ c B', StepC P o fr B (fun c' B'' => c' = c ∧ B'' = B') ∧ (B' = B ∨ (barrier P ops.toList bs hs k = true ∧ keepsH bs k B B' base hs ∧ J B')) ∧ WPd P n ops bs base hs J Q (k + 1) rest (upd fr o.dst c) B') ∧
        (t = false → WPd P n ops bs base hs J Q (k + 1) rest (upd fr o.dst (.tup [])) B)
    | none => False
def ahead (μ : List (List Place)) (H : List Box) : List (List Place) := μ ++ H.map fun _ => []
theorem ahead_old {H : List Box} {β : Nat} (h : β < μ.length) : (ahead μ H)[β]? = μ[β]? := by unfold ahead; rw [List.getElem?_append_left h]
theorem ahead_new {H : List Box} {β : Nat} (h : μ.length ≤ β) (h2 : β - μ.length < H.length) : (ahead μ H)[β]? = some [] := by
  unfold ahead; rw [List.getElem?_append_right h, List.getElem?_map, List.getElem?_eq_getElem h2]; rfl
theorem ahead_some {H : List Box} {β : Nat} {ps : List Place} {p : Place} (h : (ahead μ H)[β]? = some ps) (hp : p ∈ ps) : μ[β]? = some ps := by
  rcases Nat.lt_or_ge β μ.length with hl | hl
  · rwa [ahead_old hl] at h
  · have h2 : β - μ.length < H.length := by
      have := (List.getElem?_eq_some_iff.1 h).1
      simp [ahead] at this; omega
    rw [ahead_new hl h2] at h; simp at h; subst h; cases hp
theorem BRel.ahead (h : BRel N I μ B w) (H : List Box) : BRel N I (Go.Sy.ahead μ H) (B ++ H) w ∧ Ext I μ w I (Go.Sy.ahead μ H) w := by
  have k : Keep I μ w I (Go.Sy.ahead μ H) w := ⟨fun _ _ h => h, fun _ _ _ => rfl, fun _ _ h => h, fun _ h => h, fun β ps hβ => ⟨ps, by rw [ahead_old (List.getElem?_eq_some_iff.1 hβ).1]; exact hβ, fun _ h => h⟩, fun _ _ _ _ h => h⟩
  refine ⟨⟨by simp [Go.Sy.ahead, h.len], h.low, h.imm, fun β ps p h1 h2 => h.places β ps p (ahead_some h1 h2) h2, fun β β' ps ps' p p' h1 h1' h2 h2' he => h.disj β β' ps ps' p p' (ahead_some h1 h2) (ahead_some h1' h2') h2 h2' he, fun β box h1 h2 => ?_, fun β box ps p h1 h2 h3 h4 => ?_, h.tabs⟩,
    ⟨k, Nat.le_refl _, fun β ps ps' h1 h2 p hp => ?_, fun β ps h1 h2 p hp => ?_, fun _ _ h => .inl h, fun β hβ => by rw [ahead_old (List.getElem?_eq_some_iff.1 hβ).1]; exact hβ, fun _ _ h _ => h⟩⟩
  · rcases Nat.lt_or_ge β B.length with hl | hl
    · rw [List.getElem?_append_left hl] at h1
      rw [ahead_old (by rw [h.len]; exact hl)]
      rcases h.one β box h1 h2 with a0 | ⟨p, a1, a2, a3, ⟨vs, a4, a5⟩, a6⟩
      · exact .inl a0
      · exact .inr ⟨p, a1, a2, a3, ⟨vs, a4.ext k, a5⟩, a6⟩
    · refine .inl (ahead_new (by rw [h.len]; exact hl) ?_)
      have := (List.getElem?_eq_some_iff.1 h1).1
      simp at this; have := h.len; omega
  · have h3' := ahead_some h3 h4
    have hl : β < B.length := by rw [← h.len]; exact (List.getElem?_eq_some_iff.1 h3').1
    rw [List.getElem?_append_left hl] at h1
    obtain ⟨a1, ⟨vs, a2, a3⟩, a4⟩ := h.many β box ps p h1 h2 h3' h4
    exact ⟨a1, ⟨vs, a2.ext k, a3⟩, a4⟩
  · have h2' := ahead_some h2 hp
    rw [h1] at h2'; simp at h2'; subst h2'
    exact .inl ⟨p, hp, rfl⟩
  · have := (List.getElem?_eq_some_iff.1 (ahead_some h2 hp)).1
    omega
theorem Ext.len {I' : Nat → Nat → Prop} {μ' : List (List Place)} {w' : World} (h : Ext I μ w I' μ' w') : μ.length ≤ μ'.length := by
  rcases Nat.lt_or_ge μ'.length μ.length with hl | hl
  · have := h.toKeep.len (β := μ'.length) hl; omega
  · exact hl
theorem St.ahead (h : St N n I0 μ0 w0 fr B a I μ w) (H : List Box) : St N n I0 μ0 w0 fr (B ++ H) a I (Go.Sy.ahead μ H) w :=
  have ⟨h1, h2⟩ := h.box.ahead H
  ⟨h.size, h.defers, fun i => (h.frame i).ext h2.toKeep, h1, h.ext.trans h2, h.below⟩
theorem made_sound {c c' : CV} {bx : Box} {β : Nat} {K : Act → World → Prop} {Q' : Exit → Act → World → Prop} (hs : St N n I0 μ0 w0 fr B a I μ w) (hm : Made P o fr c bx) (hB : B[β]? = some bx) (h0 : μ[β]? = some []) (hβ0 : μ0.length ≤ β)
    (hc : mvC β c = some c') (hd : ∀ t, o.dst = some t → t < n)
    (hk : ∀ v I' w' ps, St N n I0 μ0 w0 (upd fr o.dst c') B (a.put o.dst v) I' (μ.set β ps) w' → K (a.put o.dst v) w') : o.wp P a w K Q' := by
  obtain ⟨m1, m2, m3, m4⟩ := hm
  let fr' : Fr := fun i => if flat1 (fr i) then fr i else .raw (a.tmps.getD i undef)
  have hfr' : ∀ i, V I [] w (fr' i) (a.tmps.getD i undef) := by
    intro i
    show V I [] w (if flat1 (fr i) then fr i else .raw (a.tmps.getD i undef)) _
    split
    · rename_i hf; exact flat1_any (hs.frame i) hf
    · exact .raw _ (by simp) (.nil _)
  have hev : ev P o fr' [] = some (c, [bx]) := by
    rw [← m2]
    refine ev_congr fun x hx => opv_eq_of fun t ht => ?_
    subst ht
    have this : flat1 (fr t) = true := List.all_eq_true.1 m1 (.tmp t) (by simpa using hx)
    show (if flat1 (fr t) then fr t else _) = fr t
    rw [if_pos this]
  obtain ⟨nx, v, I', μ1, w', h1, h2, h3⟩ := ev_sound (a := a) (BRel.none_ w I hs.box.imm hs.box.tabs) hfr' hev
  obtain ⟨ps, rfl⟩ : ∃ ps, μ1 = [ps] := by
    have := h3.box.len
    match μ1, this with
    | [ps], _ => exact ⟨ps, rfl⟩
  have hII : ∀ b j, I' b j → I b j ∨ (w.heap.size ≤ b ∧ b < w'.heap.size) := by
    intro b j hj
    rcases h3.ext.immN b j hj with h | h | ⟨γ, qs, p, h, _⟩
    · exact .inl h
    · exact .inr ⟨h, h3.box.imm b j hj⟩
    · simp at h
  obtain ⟨b1, b2, b3⟩ := hs.box.behind h3.below h3.ext.imm hII
  have hlβ : β < μ.length := (List.getElem?_eq_some_iff.1 h0).1
  have hset : (μ.set β ps)[β]? = some ps := by rw [List.getElem?_set, if_pos rfl, if_pos hlβ]
  have hne : ∀ γ, γ ≠ β → (μ.set β ps)[γ]? = μ[γ]? := fun γ hγ => by rw [List.getElem?_set, if_neg (fun h => hγ h.symm)]
  have hnew : ∀ p ∈ ps, w.heap.size ≤ p.b ∧ p.lo ≤ p.k ∧ Free w' p.b (p.o + (p.k - p.lo)) := fun p hp => h3.box.places 0 ps p rfl hp
  have hk1 : Keep I' μ w' I' (μ.set β ps) w' := ⟨fun _ _ h => h, fun _ _ _ => rfl, fun _ _ h => h, fun _ h => h, fun γ qs hγ => by
    by_cases hγβ : γ = β
    · subst hγβ; rw [h0] at hγ; simp at hγ; subst hγ
      exact ⟨ps, hset, fun _ h => by cases h⟩
    · exact ⟨qs, by rw [hne γ hγβ]; exact hγ, fun _ h => h⟩, fun _ _ _ _ h => h⟩
  have hbox : BRel N I' (μ.set β ps) B w' := by
    refine ⟨by simpa using b1.len, b1.low, b1.imm, fun γ qs p g1 g2 => ?_, fun γ γ' qs qs' p p' g1 g1' g2 g2' he => ?_, fun γ box g1 g2 => ?_, fun γ box qs p g1 g2 g3 g4 => ?_, b1.tabs⟩
    · by_cases hγ : γ = β
      · subst hγ; rw [hset] at g1; simp at g1; subst g1
        obtain ⟨x1, x2, x3⟩ := hnew p g2
        exact ⟨Nat.le_trans hs.box.low x1, x2, x3⟩
      · rw [hne γ hγ] at g1; exact b1.places γ qs p g1 g2
    · by_cases hγ : γ = β <;> by_cases hγ' : γ' = β
      · rw [hγ, hγ']
      · subst hγ; rw [hset] at g1; simp at g1; subst g1
        rw [hne γ' hγ'] at g1'
        have := (hs.box.places γ' qs' p' g1' g2').2.2.lt
        have := (hnew p g2).1
        omega
      · subst hγ'; rw [hset] at g1'; simp at g1'; subst g1'
        rw [hne γ hγ] at g1
        have := (hs.box.places γ qs p g1 g2).2.2.lt
        have := (hnew p' g2').1
        omega
      · rw [hne γ hγ] at g1; rw [hne γ' hγ'] at g1'
        exact b1.disj γ γ' qs qs' p p' g1 g1' g2 g2' he
    · by_cases hγ : γ = β
      · subst hγ; rw [hB] at g1; simp at g1; subst g1
        rcases h3.box.one 0 bx rfl g2 with a0 | ⟨p, a1, a2, a3, ⟨vs, a4, a5⟩, a6⟩
        · exact .inl (by simp at a0; rw [hset, a0])
        · exact .inr ⟨p, by simp at a1; rw [hset, a1], a2, a3, ⟨vs, flats_any a4 m4, a5⟩, a6⟩
      · rcases b1.one γ box g1 g2 with a0 | ⟨p, a1, a2, a3, ⟨vs, a4, a5⟩, a6⟩
        · exact .inl (by rw [hne γ hγ]; exact a0)
        · exact .inr ⟨p, by rw [hne γ hγ]; exact a1, a2, a3, ⟨vs, a4.ext hk1, a5⟩, a6⟩
    · by_cases hγ : γ = β
      · subst hγ; rw [hB] at g1; simp at g1; subst g1; rw [m3] at g2; cases g2
      · rw [hne γ hγ] at g3
        obtain ⟨a1, ⟨vs, a2, a3⟩, a4⟩ := b1.many γ box qs p g1 g2 g3 g4
        exact ⟨a1, ⟨vs, a2.ext hk1, a3⟩, a4⟩
  have hE := hs.ext.trans b2
  have hμ0 : ∀ γ, γ < μ0.length → (μ.set β ps)[γ]? = μ[γ]? := fun γ hγ => hne γ (by omega)
  have hext : Ext I0 μ0 w0 I' (μ.set β ps) w' := by
    refine ⟨⟨hE.imm, hE.same, hE.free, hE.plain, fun γ qs hγ => ?_, hE.maps⟩, hE.size, fun γ qs qs' hγ hγ' p hp => ?_, fun γ qs hγ hγ' p hp => ?_, hE.immN, fun γ hγ => ?_, hE.oth⟩
    · rw [hμ0 γ (List.getElem?_eq_some_iff.1 hγ).1]; exact hE.grow γ qs hγ
    · rw [hμ0 γ (List.getElem?_eq_some_iff.1 hγ).1] at hγ'; exact hE.more γ qs qs' hγ hγ' p hp
    · by_cases h : γ = β
      · subst h; rw [hset] at hγ'; simp at hγ'; subst hγ'
        exact Nat.le_trans hs.ext.size (hnew p hp).1
      · rw [hne γ h] at hγ'; exact hE.news γ qs hγ hγ' p hp
    · rw [hμ0 γ (List.getElem?_eq_some_iff.1 hγ).1]; exact hE.gone γ hγ
  have hv : V I' (μ.set β ps) w' c' v := mv_rel hset hc h3.val
  have hst : St N n I0 μ0 w0 (upd fr o.dst c') B (a.put o.dst v) I' (μ.set β ps) w' := by
    refine ⟨by cases o.dst <;> simp [Act.put, hs.size], by cases o.dst <;> exact hs.defers.ext b2.oth, fun i => ?_, hbox, hext, hs.below.trans b3⟩
    have hold : V I' (μ.set β ps) w' (fr i) (a.tmps.getD i undef) := ((hs.frame i).ext b2.toKeep).ext hk1
    rw [put_getD a o.dst v (fun t ht => by rw [hs.size]; exact hd t ht)]
    unfold upd
    cases hdst : o.dst with
    | none => simpa using hold
    | some t =>
      by_cases ht : i = t
      · subst ht; simpa using hv
      · rw [if_neg (by simpa using fun h => ht h.symm)]
        simp only [if_neg ht]
        exact hold
  unfold Oper.wp
  rw [h1]
  cases nx <;> simp only [nxv] at h2 <;> try cases h2
  · exact hk _ _ _ _ hst
  · exact hk _ _ _ _ hst
end
end Go.Sy
end
section
namespace Go.Sy
open Go.RowKit (Below)
section
variable {P : Program} {N n : Nat} {I0 I : Nat → Nat → Prop} {μ0 μ : List (List Place)} {B : List Box} {w0 w : World} {o : Oper} {a : Act} {fr : Fr} {ops : Array Oper} {bs hs : List Nat} {base : Nat} {J : List Box → Prop}
def dstAt (ops : Array Oper) (k : Nat) : Option Tmp := (ops[k]?).bind (·.dst)
def frS (ops : Array Oper) (S : Nat → Bool) (val : Nat → CV) (fr0 : Fr) : Nat → Fr
  | 0 => fr0
  | k + 1 => if S k then upd (frS ops S val fr0 k) (dstAt ops k) (val k) else frS ops S val fr0 k
def bxS (bar : Nat → Bool) (S : Nat → Bool) (bx : Nat → List Box) : Nat → List Box
  | 0 => bx 0
  | k + 1 => if S k && bar k then bx (k + 1) else bxS bar S bx k
theorem upd_same {fr : Fr} {d : Option Tmp} {c : CV} {t : Nat} (h : d = some t) : upd fr d c t = c := by subst h; simp [upd]
theorem upd_other {fr : Fr} {d : Option Tmp} {c : CV} {t : Nat} (h : d ≠ some t) : upd fr d c t = fr t := by
  cases d with
  | none => rfl
  | some d => simp only [upd]; rw [if_neg (fun e => h (by rw [e]))]
structure Lex (P : Program) (n : Nat) (ops : Array Oper) (bs : List Nat) (base : Nat) (hs : List Nat) (J : List Box → Prop) (k0 : Nat) (Q0 : CV → List Box → Prop) (val : Nat → CV) (fs : Nat → Fr) (bx : Nat → List Box) (k : Nat) (l : List Oper) : Prop where
  each : ∀ (i : Nat) (o : Oper), l[i]? = some o → dstOk n o = true ∧ fs (i + 1) = upd (fs i) o.dst (val i) ∧
    ((wantC ops (fs i) o = some true ∧ hs.contains (k + i) = false ∧ StepC P o (fs i) (bx i) (fun c B'' => c = val i ∧ B'' = bx (i + 1)) ∧ (bx (i + 1) = bx i ∨ (barrier P ops.toList bs hs (k + i) = true ∧ keepsH bs (k + i) (bx i) (bx (i + 1)) base hs ∧ J (bx (i + 1))))) ∨
     (wantC ops (fs i) o = some true ∧ (∃ j c x, hs[j]? = some (k + i) ∧ Made P o (fs i) c x ∧ (bx i)[base + j]? = some x ∧ mvC (base + j) c = some (val i)) ∧ bx (i + 1) = bx i) ∨
     (wantC ops (fs i) o = some true ∧ (hs.contains (k + i) = true ∧ FreeOp P J o (fs i) (val i)) ∧ bx (i + 1) = bx i) ∨
     (wantC ops (fs i) o = some false ∧ val i = .tup [] ∧ bx (i + 1) = bx i) ∨
     (wantC ops (fs i) o = some true ∧ hs.contains (k + i) = false ∧ StepC P o (fs i) (bx i) Q0 ∧ k + i = k0 ∧ still P o.op = false ∧ barrier P ops.toList bs hs (k + i) = true ∧ keepsH bs (k + i) (bx i) (bx (i + 1)) base hs ∧ J (bx (i + 1))))
theorem lex_of_WPd {Q : Fr → List Box → Prop} {k0 : Nat} {Q0 : CV → List Box → Prop} : ∀ (l : List Oper) (k : Nat) (fr : Fr) (B : List Box), WPd P n ops bs base hs J Q k l fr B →
    ∃ val fs bx, fs 0 = fr ∧ bx 0 = B ∧ Q (fs l.length) (bx l.length) ∧ Lex P n ops bs base hs J k0 Q0 val fs bx k l
  | [], k, fr, B, h => ⟨fun _ => .tup [], fun _ => fr, fun _ => B, rfl, rfl, h, ⟨fun i o ho => by simp at ho⟩⟩
  | o :: l, k, fr, B, h => by
    unfold WPd at h
    obtain ⟨hd, h⟩ := h
    have build : ∀ (c : CV) (B' : List Box), WPd P n ops bs base hs J Q (k + 1) l (upd fr o.dst c) B' →
        ((wantC ops fr o = some true ∧ hs.contains k = false ∧ StepC P o fr B (fun c' B'' => c' = c ∧ B'' = B') ∧ (B' = B ∨ (barrier P ops.toList bs hs k = true ∧ keepsH bs k B B' base hs ∧ J B'))) ∨
         (wantC ops fr o = some true ∧ (∃ j c1 x, hs[j]? = some k ∧ Made P o fr c1 x ∧ B[base + j]? = some x ∧ mvC (base + j) c1 = some c) ∧ B' = B) ∨ (wantC ops fr o = some true ∧ (hs.contains k = true ∧ FreeOp P J o fr c) ∧ B' = B) ∨ (wantC ops fr o = some false ∧ c = .tup [] ∧ B' = B) ∨
         (wantC ops fr o = some true ∧ hs.contains k = false ∧ StepC P o fr B Q0 ∧ k = k0 ∧ still P o.op = false ∧ barrier P ops.toList bs hs k = true ∧ keepsH bs k B B' base hs ∧ J B')) →
        ∃ val fs bx, fs 0 = fr ∧ bx 0 = B ∧ Q (fs (o :: l).length) (bx (o :: l).length) ∧ Lex P n ops bs base hs J k0 Q0 val fs bx k (o :: l) := by
      intro c B' hw hc
      obtain ⟨val, fs, bx, h1, h2, h3, h4⟩ := lex_of_WPd (k0 := k0) (Q0 := Q0) l (k + 1) _ _ hw
      refine ⟨fun i => match i with | 0 => c | i + 1 => val i, fun i => match i with | 0 => fr | i + 1 => fs i, fun i => match i with | 0 => B | i + 1 => bx i, rfl, rfl, h3, ⟨fun i p hp => ?_⟩⟩
      cases i with
      | zero =>
        simp at hp; subst hp
        refine ⟨hd, h1, ?_⟩
        simp only [h2, Nat.add_zero]
        exact hc
      | succ i =>
        have := h4.each i p (by simpa using hp)
        simpa [Nat.add_assoc, Nat.add_comm 1 i] using this
    split at h
    · rename_i t ht
      cases t with
      | true =>
        have h := h.1 rfl
        split at h
        · rename_i hcon
          rcases h with ⟨j, c, x, c', h1, h2, h3, h4, h5⟩ | ⟨c, h1, h2⟩
          · exact build c' B h5 (.inr (.inl ⟨ht, ⟨j, c, x, h1, h2, h3, h4⟩, rfl⟩))
          · exact build c B h2 (.inr (.inr (.inl ⟨ht, ⟨hcon, h1⟩, rfl⟩)))
        · rename_i hn
          obtain ⟨c, B', h1, h2, h3⟩ := h
          exact build c B' h3 (.inl ⟨ht, by simpa using hn, h1, h2⟩)
      | false => exact build (.tup []) B (h.2 rfl) (.inr (.inr (.inr (.inl ⟨ht, rfl, rfl⟩))))
    · cases h
theorem StepC_ev_of {v : CV} {B1 : List Box} (hn : ∀ f args ts, o.op ≠ .call { callee := .value f, args, argTypes := ts }) (hs : StepC P o fr B fun c B'' => c = v ∧ B'' = B1) : ev P o fr B = some (v, B1) := by
  unfold StepC at hs
  split at hs
  · rename_i f args ts ho
    exact absurd ho (hn f args ts)
  · rcases hs with hs | hs
    · split at hs
      · rename_i r hr
        rw [hr, ← hs.1, ← hs.2]
      · exact hs.elim
    · exfalso
      unfold StepG at hs
      split at hs
      · split at hs
        · obtain ⟨e, esz, zs, m, news, n, olds, _, _, _, _, _, _, _, _, _, _, _, _, hK⟩ := hs
          have h1 := (hK (n + m) (Nat.le_refl _)).1
          have h2 := (hK (n + m + 1) (by omega)).1
          rw [← h2] at h1
          injection h1 with _ _ _ h1 _
          omega
        · exact hs
      · obtain ⟨_, _, _, _, ⟨k1, _⟩, k2, _⟩ := hs
        rw [← k1] at k2; cases k2
      · exact hs
def isLoad : Op → Bool
  | .load .. | .nilCheck _ | .indexAddr .. => true
  | _ => false
def WPq (P : Program) (n : Nat) (ops : Array Oper) (bs : List Nat) (base : Nat) (hs : List Nat) (J : List Box → Prop) (Q : Fr → List Box → Prop) : Nat → List Oper → Fr → List Box → Prop
  | _, [], _, _ => False
  | k, o :: rest, fr, B => dstOk n o = true ∧ match wantC ops fr o with
    | some t => (t = true → if hs.contains k then (∃ j c bx c', hs[j]? = some k ∧ Made P o fr c bx ∧ B[base + j]? = some bx ∧ mvC (base + j) c = some c' ∧ WPq P n ops bs base hs J Q (k + 1) rest (upd fr o.dst c') B) ∨
            ∃ c, FreeOp P J o fr c ∧ WPq P n ops bs base hs J Q (k + 1) rest (upd fr o.dst c) B
          else (∃ c B', StepC P o fr B (fun c' B'' => c' = c ∧ B'' = B') ∧ (B' = B ∨ (barrier P ops.toList bs hs k = true ∧ keepsH bs k B B' base hs ∧ J B')) ∧ WPq P n ops bs base hs J Q (k + 1) rest (upd fr o.dst c) B') ∨
            ∃ Q0 : CV → List Box → Prop, StepC P o fr B Q0 ∧ (∃ c B', Q0 c B') ∧ still P o.op = false ∧ barrier P ops.toList bs hs k = true ∧ (hs.all fun i => decide (i ≤ k) || (match ops[i]? with | some p => isLoad p.op | none => true)) = true ∧
              ∀ c B', Q0 c B' → keepsH bs k B B' base hs ∧ J B' ∧ WPd P n ops bs base hs J Q (k + 1) rest (upd fr o.dst c) B') ∧
        (t = false → WPq P n ops bs base hs J Q (k + 1) rest (upd fr o.dst (.tup [])) B)
    | none => False
structure Family (P : Program) (n : Nat) (ops : Array Oper) (bs : List Nat) (base : Nat) (hs : List Nat) (J : List Box → Prop) (Q : Fr → List Box → Prop) (k0 : Nat) (Q0 : CV → List Box → Prop) (k : Nat) (l : List Oper) (fr : Fr) (B : List Box) (Fam : (Nat → CV) → (Nat → Fr) → (Nat → List Box) → Prop) : Prop where
  any : ∃ val fs bx, Fam val fs bx
  lex : ∀ val fs bx, Fam val fs bx → fs 0 = fr ∧ bx 0 = B ∧ Q (fs l.length) (bx l.length) ∧ Lex P n ops bs base hs J (k + k0) Q0 val fs bx k l
  pre : ∀ val fs bx val' fs' bx', Fam val fs bx → Fam val' fs' bx' → ∀ i, (i < k0 → val i = val' i) ∧ (i ≤ k0 → bx i = bx' i)
  all : ∀ c B', Q0 c B' → ∃ val fs bx, Fam val fs bx ∧ val k0 = c ∧ bx (k0 + 1) = B'
  rest : ∀ i p, i ∈ hs → k + k0 < i → ops[i]? = some p → isLoad p.op = true
  one : ∀ o, l[k0]? = some o → hs.contains (k + k0) = false ∧ still P o.op = false ∧ barrier P ops.toList bs hs (k + k0) = true
theorem fam_of_WPd {Q : Fr → List Box → Prop} {k : Nat} {l : List Oper} (h : WPd P n ops bs base hs J Q k l fr B) (hl : l.length = ops.size) : ∃ Fam, Family P n ops bs base hs J Q ops.size (fun _ _ => False) k l fr B Fam := by
  obtain ⟨val, fs, bx, e1, e2, hq, hlex⟩ := lex_of_WPd (k0 := k + ops.size) (Q0 := fun _ _ => False) l k fr B h
  refine ⟨fun v f b => v = val ∧ f = fs ∧ b = bx, ⟨val, fs, bx, rfl, rfl, rfl⟩, ?_, ?_, fun c B' h => h.elim, fun i p h1 h2 => ?_, fun o ho => ?_⟩
  · rintro _ _ _ ⟨rfl, rfl, rfl⟩; exact ⟨e1, e2, hq, hlex⟩
  · rintro _ _ _ _ _ _ ⟨rfl, rfl, rfl⟩ ⟨rfl, rfl, rfl⟩ i; exact ⟨fun _ => rfl, fun _ => rfl⟩
  · intro h3; have := (Array.getElem?_eq_some_iff.1 h3).1; omega
  · have := (List.getElem?_eq_some_iff.1 ho).1; omega
theorem fam_of_WPq {Q : Fr → List Box → Prop} : ∀ (l : List Oper) (k : Nat) (fr : Fr) (B : List Box), WPq P n ops bs base hs J Q k l fr B → ∃ k0 Q0 Fam, Family P n ops bs base hs J Q k0 Q0 k l fr B Fam
  | [], k, fr, B, h => by unfold WPq at h; exact h.elim
  | o :: l, k, fr, B, h => by
    unfold WPq at h
    obtain ⟨hd, h⟩ := h
    have build : ∀ (c : CV) (B' : List Box), WPq P n ops bs base hs J Q (k + 1) l (upd fr o.dst c) B' →
        ((wantC ops fr o = some true ∧ hs.contains k = false ∧ StepC P o fr B (fun c' B'' => c' = c ∧ B'' = B') ∧ (B' = B ∨ (barrier P ops.toList bs hs k = true ∧ keepsH bs k B B' base hs ∧ J B'))) ∨
         (wantC ops fr o = some true ∧ (∃ j c1 x, hs[j]? = some k ∧ Made P o fr c1 x ∧ B[base + j]? = some x ∧ mvC (base + j) c1 = some c) ∧ B' = B) ∨ (wantC ops fr o = some true ∧ (hs.contains k = true ∧ FreeOp P J o fr c) ∧ B' = B) ∨ (wantC ops fr o = some false ∧ c = .tup [] ∧ B' = B)) →
        ∃ k0 Q0 Fam, Family P n ops bs base hs J Q k0 Q0 k (o :: l) fr B Fam := by
      intro c B' hw hc
      obtain ⟨k0, Q0, Fam, hF⟩ := fam_of_WPq l (k + 1) _ _ hw
      refine ⟨k0 + 1, Q0, fun val fs bx => fs 0 = fr ∧ bx 0 = B ∧ val 0 = c ∧ Fam (fun i => val (i + 1)) (fun i => fs (i + 1)) (fun i => bx (i + 1)), ?_, ?_, ?_, ?_, ?_, ?_⟩
      · obtain ⟨val, fs, bx, h1⟩ := hF.any
        exact ⟨fun i => match i with | 0 => c | i + 1 => val i, fun i => match i with | 0 => fr | i + 1 => fs i, fun i => match i with | 0 => B | i + 1 => bx i, rfl, rfl, rfl, h1⟩
      · rintro val fs bx ⟨h1, h2, h3, h4⟩
        obtain ⟨g1, g2, g3, g4⟩ := hF.lex _ _ _ h4
        refine ⟨h1, h2, g3, ⟨fun i p hp => ?_⟩⟩
        cases i with
        | zero =>
          simp at hp; subst hp
          have g1 : fs (0 + 1) = _ := g1
          have g2 : bx (0 + 1) = _ := g2
          rw [g1, g2, h1, h2, h3, Nat.add_zero]
          refine ⟨hd, rfl, ?_⟩
          rcases hc with h | h | h | h
          · exact .inl h
          · exact .inr (.inl h)
          · exact .inr (.inr (.inl h))
          · exact .inr (.inr (.inr (.inl h)))
        | succ i =>
          have := g4.each i p (by simpa using hp)
          simpa [Nat.add_assoc, Nat.add_comm 1 i, Nat.add_comm 1 k0] using this
      · rintro val fs bx val' fs' bx' ⟨h1, h2, h3, h4⟩ ⟨g1, g2, g3, g4⟩ i
        cases i with
        | zero => exact ⟨fun _ => by rw [h3, g3], fun _ => by rw [h2, g2]⟩
        | succ i =>
          have := hF.pre _ _ _ _ _ _ h4 g4 i
          exact ⟨fun h => this.1 (by omega), fun h => this.2 (by omega)⟩
      · intro c' B'' hQ
        obtain ⟨val, fs, bx, h1, h2, h3⟩ := hF.all c' B'' hQ
        exact ⟨fun i => match i with | 0 => c | i + 1 => val i, fun i => match i with | 0 => fr | i + 1 => fs i, fun i => match i with | 0 => B | i + 1 => bx i, ⟨rfl, rfl, rfl, h1⟩, h2, h3⟩
      · intro i p h1 h2
        exact hF.rest i p h1 (by omega)
      · intro p hp
        have := hF.one p (by simpa using hp)
        rwa [show k + 1 + k0 = k + (k0 + 1) by omega] at this
    split at h
    · rename_i t ht
      cases t with
      | true =>
        have h := h.1 rfl
        split at h
        · rename_i hcon
          rcases h with ⟨j, c, x, c', h1, h2, h3, h4, h5⟩ | ⟨c, h1, h2⟩
          · exact build c' B h5 (.inr (.inl ⟨ht, ⟨j, c, x, h1, h2, h3, h4⟩, rfl⟩))
          · exact build c B h2 (.inr (.inr (.inl ⟨ht, ⟨hcon, h1⟩, rfl⟩)))
        · rename_i hn
          rcases h with ⟨c, B', h1, h2, h3⟩ | ⟨Q0, h1, ⟨c0, B0, h2⟩, hst, h3, h4, h5⟩
          · exact build c B' h3 (.inl ⟨ht, by simpa using hn, h1, h2⟩)
          · have mem : ∀ c B', Q0 c B' → ∃ val fs bx, (fs 0 = fr ∧ bx 0 = B ∧ Q (fs (o :: l).length) (bx (o :: l).length) ∧ Lex P n ops bs base hs J (k + 0) Q0 val fs bx k (o :: l)) ∧ val 0 = c ∧ bx (0 + 1) = B' := by
              intro c B' hQ
              obtain ⟨g1, g2, g3⟩ := h5 c B' hQ
              obtain ⟨val, fs, bx, e1, e2, hq, hlex⟩ := lex_of_WPd (k0 := k) (Q0 := Q0) l (k + 1) _ _ g3
              refine ⟨fun i => match i with | 0 => c | i + 1 => val i, fun i => match i with | 0 => fr | i + 1 => fs i, fun i => match i with | 0 => B | i + 1 => bx i, ⟨rfl, rfl, hq, ⟨fun i p hp => ?_⟩⟩, rfl, e2⟩
              cases i with
              | zero =>
                simp at hp; subst hp
                refine ⟨hd, e1, .inr (.inr (.inr (.inr ?_)))⟩
                simp only [e2, Nat.add_zero]
                exact ⟨ht, by simpa using hn, h1, trivial, hst, h3, g1, g2⟩
              | succ i =>
                have := hlex.each i p (by simpa using hp)
                simpa [Nat.add_assoc, Nat.add_comm 1 i] using this
            refine ⟨0, Q0, fun val fs bx => fs 0 = fr ∧ bx 0 = B ∧ Q (fs (o :: l).length) (bx (o :: l).length) ∧ Lex P n ops bs base hs J (k + 0) Q0 val fs bx k (o :: l), ?_, fun val fs bx h => h, ?_, mem, ?_, ?_⟩
            · obtain ⟨val, fs, bx, h, _⟩ := mem c0 B0 h2
              exact ⟨val, fs, bx, h⟩
            · rintro val fs bx val' fs' bx' h h' i
              exact ⟨fun h => absurd h (by omega), fun hi => by rw [show i = 0 by omega, h.2.1, h'.2.1]⟩
            · intro i p hi hki hp
              have := List.all_eq_true.1 h4 i hi
              rw [hp] at this
              simpa [show ¬ i ≤ k by omega] using this
            · intro p hp
              simp at hp; subst hp
              exact ⟨by simpa using hn, hst, h3⟩
      | false => exact build (.tup []) B (h.2 rfl) (.inr (.inr (.inr ⟨ht, rfl, rfl⟩)))
    · cases h
theorem frS_at {S : Nat → Bool} {val : Nat → CV} {fs : Nat → Fr} {m i t : Nat} (hfs : ∀ j, j < m → fs (j + 1) = upd (fs j) (dstAt ops j) (val j)) (hi : i ≤ m) (hS : ∀ j, j < m → dstAt ops j = some t → (S j = true ↔ j < i)) :
    ∀ k, k ≤ m → frS ops S val (fs 0) k t = fs (min k i) t
  | 0, _ => by simp [frS]
  | k + 1, hk => by
    have ih := frS_at (val := val) hfs hi hS k (by omega)
    simp only [frS]
    by_cases hd : dstAt ops k = some t
    · by_cases hki : k < i
      · rw [if_pos ((hS k (by omega) hd).2 hki), upd_same hd, Nat.min_eq_left (by omega), hfs k (by omega), upd_same hd]
      · have : ¬ S k = true := fun h => hki ((hS k (by omega) hd).1 h)
        rw [if_neg this, ih, Nat.min_eq_right (by omega), Nat.min_eq_right (by omega)]
    · have e : (if S k = true then upd (frS ops S val (fs 0) k) (dstAt ops k) (val k) else frS ops S val (fs 0) k) t = frS ops S val (fs 0) k t := by
        split
        · exact upd_other hd
        · rfl
      rw [e, ih]
      by_cases hki : k < i
      · rw [Nat.min_eq_left (by omega), Nat.min_eq_left (by omega), hfs k (by omega), upd_other hd]
      · rw [Nat.min_eq_right (by omega), Nat.min_eq_right (by omega)]
theorem frS_put {S S' : Nat → Bool} {val : Nat → CV} {fr0 : Fr} {m i : Nat} (hi : i < m) (hS : ∀ j, S' j = (S j || j == i)) (hlast : ∀ j t, i < j → j < m → dstAt ops i = some t → dstAt ops j = some t → S j = false) :
    frS ops S' val fr0 m = upd (frS ops S val fr0 m) (dstAt ops i) (val i) := by
  funext t
  by_cases hd : dstAt ops i = some t
  · rw [upd_same hd]
    have key : ∀ k, i < k → k ≤ m → frS ops S' val fr0 k t = val i := by
      intro k
      induction k with
      | zero => intro h; omega
      | succ k ih =>
        intro h1 h2
        simp only [frS]
        by_cases hk : k = i
        · subst hk
          rw [if_pos (by simp [hS]), upd_same hd]
        · by_cases hdk : dstAt ops k = some t
          · have : S' k = false := by rw [hS, hlast k t (by omega) (by omega) hd hdk]; simp [hk]
            rw [this]
            simpa using ih (by omega) (by omega)
          · have e : (if S' k = true then upd (frS ops S' val fr0 k) (dstAt ops k) (val k) else frS ops S' val fr0 k) t = frS ops S' val fr0 k t := by
              split
              · exact upd_other hdk
              · rfl
            rw [e]
            exact ih (by omega) (by omega)
    exact key m hi (Nat.le_refl _)
  · rw [upd_other hd]
    have key : ∀ k, frS ops S' val fr0 k t = frS ops S val fr0 k t := by
      intro k
      induction k with
      | zero => rfl
      | succ k ih =>
        simp only [frS]
        by_cases hk : k = i
        · subst hk
          have e1 : (if S' k = true then upd (frS ops S' val fr0 k) (dstAt ops k) (val k) else frS ops S' val fr0 k) t = frS ops S' val fr0 k t := by
            split
            · exact upd_other hd
            · rfl
          have e2 : (if S k = true then upd (frS ops S val fr0 k) (dstAt ops k) (val k) else frS ops S val fr0 k) t = frS ops S val fr0 k t := by
            split
            · exact upd_other hd
            · rfl
          rw [e1, e2, ih]
        · have : S' k = S k := by rw [hS]; simp [hk]
          rw [this]
          split
          · by_cases hdk : dstAt ops k = some t
            · rw [upd_same hdk, upd_same hdk]
            · rw [upd_other hdk, upd_other hdk, ih]
          · exact ih
    exact key m
theorem bxS_at {bar S : Nat → Bool} {bx : Nat → List Box} {m i : Nat} (hb : ∀ k, k < m → bar k = false → bx (k + 1) = bx k) (hi : i ≤ m) (hS : ∀ j, j < m → bar j = true → (S j = true ↔ j < i)) :
    ∀ k, k ≤ m → bxS bar S bx k = bx (min k i)
  | 0, _ => by simp [bxS]
  | k + 1, hk => by
    have ih := bxS_at hb hi hS k (by omega)
    simp only [bxS]
    by_cases hbk : bar k = true
    · by_cases hki : k < i
      · rw [if_pos (by rw [(hS k (by omega) hbk).2 hki, hbk]; rfl), Nat.min_eq_left (by omega)]
      · have : S k = false := by
          cases h : S k with
          | false => rfl
          | true => exact absurd ((hS k (by omega) hbk).1 h) hki
        rw [this, Bool.false_and, if_neg (by simp), ih, Nat.min_eq_right (by omega), Nat.min_eq_right (by omega)]
    · have hbk : bar k = false := by simpa using hbk
      rw [hbk, Bool.and_false, if_neg (by simp), ih]
      by_cases hki : k < i
      · rw [Nat.min_eq_left (by omega), Nat.min_eq_left (by omega), hb k (by omega) hbk]
      · rw [Nat.min_eq_right (by omega), Nat.min_eq_right (by omega)]
theorem keepsH_at {k : Nat} {B B' : List Box} : ∀ {hs : List Nat} {b j k' : Nat}, keepsH bs k B B' b hs → hs[j]? = some k' → orders bs k' k = true ∨ B'[b + j]? = B[b + j]?
  | [], _, _, _, _, h => by simp at h
  | x :: hs, b, 0, k', h, hj => by simp at hj; subst hj; exact h.1
  | x :: hs, b, j + 1, k', h, hj => by
    have := keepsH_at h.2 (j := j) (k' := k') (by simpa using hj)
    rwa [show b + 1 + j = b + (j + 1) by omega] at this
theorem bxS_look {bar S : Nat → Bool} {bx : Nat → List Box} {m i β : Nat} (hb : ∀ k, k < m → bar k = false → bx (k + 1) = bx k) (hk : ∀ k, k < m → bar k = true → (S k = true ↔ k < i) ∨ (bx (k + 1))[β]? = (bx k)[β]?)
    (hp : ∀ s k, s < k → k < m → bar s = true → bar k = true → S k = true → S s = true) :
    ∀ k, k ≤ m → (bxS bar S bx k)[β]? = (bx (min k i))[β]?
  | 0, _ => by simp [bxS]
  | k + 1, hkm => by
    have ih := bxS_look hb hk hp k (by omega)
    have back : S k = true → bar k = true → i ≤ k → ∀ d, i + d ≤ k + 1 → (bx (i + d))[β]? = (bx i)[β]? := by
      intro hS hbk hik d
      induction d with
      | zero => intro _; rfl
      | succ d ihd =>
        intro hd
        rw [← ihd (by omega), show i + (d + 1) = i + d + 1 by omega]
        cases hbd : bar (i + d) with
        | false => rw [hb (i + d) (by omega) hbd]
        | true =>
          rcases hk (i + d) (by omega) hbd with h | h
          · have hSd : S (i + d) = true := by
              rcases Nat.lt_or_ge (i + d) k with hl | hl
              · exact hp (i + d) k hl (by omega) hbd hbk hS
              · rw [show i + d = k by omega]; exact hS
            have := h.1 hSd
            omega
          · exact h
    simp only [bxS]
    cases hbk : bar k with
    | false =>
      rw [Bool.and_false, if_neg (by simp), ih]
      rcases Nat.lt_or_ge k i with hki | hki
      · rw [Nat.min_eq_left (by omega), Nat.min_eq_left (by omega), hb k (by omega) hbk]
      · rw [Nat.min_eq_right (by omega), Nat.min_eq_right (by omega)]
    | true =>
      cases hSk : S k with
      | true =>
        rw [if_pos (by rfl)]
        rcases Nat.lt_or_ge k i with hki | hki
        · rw [Nat.min_eq_left (by omega)]
        · rw [Nat.min_eq_right (by omega)]
          have := back hSk hbk hki (k + 1 - i) (by omega)
          rwa [show i + (k + 1 - i) = k + 1 by omega] at this
      | false =>
        rw [if_neg (by simp), ih]
        rcases Nat.lt_or_ge k i with hki | hki
        · rw [Nat.min_eq_left (by omega), Nat.min_eq_left (by omega)]
          rcases hk k (by omega) hbk with h | h
          · rw [hSk] at h; exact absurd (h.2 hki) (by simp)
          · exact h.symm
        · rw [Nat.min_eq_right (by omega), Nat.min_eq_right (by omega)]
theorem bxS_skip {bar S S' : Nat → Bool} {bx : Nat → List Box} {i : Nat} (hb : bar i = false) (hS : ∀ j, S' j = (S j || j == i)) : ∀ k, bxS bar S' bx k = bxS bar S bx k
  | 0 => rfl
  | k + 1 => by
    simp only [bxS]
    rw [bxS_skip hb hS k, hS]
    by_cases hk : k = i
    · subst hk; rw [hb]; simp
    · have : (k == i) = false := by simpa using hk
      rw [this, Bool.or_false]
theorem countP_lt {l : List Nat} {p q : Nat → Bool} (h : ∀ x, q x = true → p x = true) {i : Nat} (hi : i ∈ l) (h1 : p i = true) (h2 : q i = false) : l.countP q < l.countP p := by
  induction l with
  | nil => cases hi
  | cons x l ih =>
    have hle : l.countP q ≤ l.countP p := List.countP_mono_left fun x _ => h x
    rw [List.countP_cons, List.countP_cons]
    rcases List.mem_cons.1 hi with rfl | hi
    · rw [h1, h2]; simp; omega
    · have := ih hi
      have hx : (if q x = true then 1 else 0) ≤ (if p x = true then 1 else 0) := by
        by_cases hq : q x = true
        · rw [if_pos hq, if_pos (h x hq)]; exact Nat.le_refl _
        · rw [if_neg hq]; exact Nat.zero_le _
      omega
theorem St.keep {w' : World} (h : St N n I0 μ0 w0 fr B a I μ w) (hs : w.heap.size ≤ w'.heap.size) (hb : ∀ b, b < w.heap.size → w'.heap[b]? = w.heap[b]?) (hw : w'.os = w.os ∧ w'.tape = w.tape ∧ w'.output = w.output) :
    St N n I0 μ0 w0 fr B a I μ w' :=
  have e := h.box.ext_same hs hb
  ⟨h.size, h.defers.ext e.oth, fun i => (h.frame i).ext e.toKeep, h.box.keep hs hb, h.ext.trans e, h.below.trans ⟨hw.1, hw.2.1, hw.2.2, hs, fun k hk => hb k (by have := h.box.low; omega)⟩⟩
theorem fam_sound {id : Nat} {Q : Fr → List Box → Prop} {Q' : Exit → Act → World → Prop} {k0 : Nat} {Q0 : CV → List Box → Prop} {Fam : (Nat → CV) → (Nat → Fr) → (Nat → List Box) → Prop} (hm : P.follows .mixedOrders = true) (hok : drawOk ops.toList (befs ops.toList []) = true)
    (hF : Family P n ops (befs ops.toList []) base hs J Q k0 Q0 0 ops.toList fr B Fam) (hJ : J B)
    (hs0 : St N n I0 μ0 w0 fr B a I μ w) (hbase : μ0.length ≤ base) (hgone : ∀ j k, hs[j]? = some k → μ[base + j]? = some []) (hQ : ∀ fr' B' a' I' μ' w', Q fr' B' → St N n I0 μ0 w0 fr' B' a' I' μ' w' → Q' .normal a' w') : (Code.region id ops true).wp P Q' a w := by
  have hl : ops.toList.length = ops.size := Array.length_toList
  simp only [drawOk, Bool.and_eq_true, List.all_eq_true] at hok
  obtain ⟨hok1, hok2⟩ := hok
  have zip : ∀ (i : Nat) (o : Oper), ops[i]? = some o → (o, i) ∈ ops.toList.zipIdx := fun i o ho => by
    rw [List.mem_zipIdx_iff_getElem?]
    simpa using ho
  have hlt : ∀ (i : Nat) (o : Oper), ops[i]? = some o → ∀ e ∈ o.after, Region.binds .any e = true → e.on < i := by
    intro i o ho e he hb
    have := hok1 (o, i) (zip i o ho) e (by simpa using he)
    simpa [hb] using this
  have hord : ∀ (i j : Nat) (o p : Oper) (d : Tmp), ops[i]? = some o → ops[j]? = some p → i ≠ j → p.dst = some d → d ∈ namesOf ops.toList o → orders (befs ops.toList []) i j = true := by
    intro i j o p d ho hp hij hd hn
    have := hok2 (o, i) (zip i o ho) (p, j) (zip j p hp)
    simp only [hd, Bool.or_eq_true, beq_iff_eq] at this
    rcases this with (this | this) | this
    · exact absurd this hij
    · exact this
    · simp [hn] at this
  let bar : Nat → Bool := fun k => barrier P ops.toList (befs ops.toList []) hs k && !hs.contains k && !(match ops[k]? with | some o => still P o.op | none => true)
  have hbar : ∀ (i k : Nat) (o : Oper), ops[i]? = some o → still P o.op = false → hs.contains i = false → bar k = true → i ≠ k → orders (befs ops.toList []) i k = true := by
    intro i k o ho hst hnh hk hik
    have : barrier P ops.toList (befs ops.toList []) hs k = true := by
      have hk : (barrier P ops.toList (befs ops.toList []) hs k && !hs.contains k && !(match ops[k]? with | some o => still P o.op | none => true)) = true := hk
      rw [Bool.and_eq_true, Bool.and_eq_true] at hk; exact hk.1.1
    simp only [barrier, List.all_eq_true, List.mem_range, Bool.or_eq_true, beq_iff_eq] at this
    rcases this i (by rw [hl]; exact (Array.getElem?_eq_some_iff.1 ho).1) with ((h | h) | h) | h
    · exact absurd h hik
    · exact h
    · rw [hnh] at h; cases h
    · have ho' : ops.toList[i]? = some o := by simpa using ho
      rw [ho'] at h
      simp [hst] at h
  have hbarN : ∀ k, bar k = true → hs.contains k = false ∧ ∀ o, ops[k]? = some o → still P o.op = false := by
    intro k hk
    have hk : (barrier P ops.toList (befs ops.toList []) hs k && !hs.contains k && !(match ops[k]? with | some o => still P o.op | none => true)) = true := hk
    rw [Bool.and_eq_true, Bool.and_eq_true] at hk
    refine ⟨by simpa using hk.1.2, fun o ho => ?_⟩
    have := hk.2
    rw [ho] at this
    simpa using this
  have hone : k0 < ops.size → bar k0 = true := by
    intro hk
    have hok : ops[k0]? = some ops[k0] := by simp [hk]
    obtain ⟨h1, h2, h3⟩ := hF.one ops[k0] (by simpa using hok)
    show (barrier P ops.toList (befs ops.toList []) hs k0 && !hs.contains k0 && !(match ops[k0]? with | some o => still P o.op | none => true)) = true
    rw [Nat.zero_add] at h1 h3
    rw [hok, h1, h3]; simp [h2]
  have facts : ∀ val fs bx, Fam val fs bx → (∀ j, j < ops.size → fs (j + 1) = upd (fs j) (dstAt ops j) (val j)) ∧ (∀ k, k < ops.size → bar k = false → bx (k + 1) = bx k) ∧
      (∀ (j k' k : Nat), hs[j]? = some k' → k < ops.size → bar k = true → orders (befs ops.toList []) k' k = true ∨ (bx (k + 1))[base + j]? = (bx k)[base + j]?) ∧ (∀ (S : Nat → Bool) k, k ≤ ops.size → J (bxS bar S bx k)) := by
    intro val fs bx hmem
    obtain ⟨e1, e2, hq, hlex⟩ := hF.lex val fs bx hmem
    have hfs : ∀ j, j < ops.size → fs (j + 1) = upd (fs j) (dstAt ops j) (val j) := by
      intro j hj
      have hoj : ops[j]? = some ops[j] := by simp [hj]
      have := (hlex.each j ops[j] (by simpa using hoj)).2.1
      rw [this]
      simp [dstAt, hoj]
    have hbx : ∀ k, k < ops.size → bar k = false → bx (k + 1) = bx k := by
      intro k hk hb
      have hok : ops[k]? = some ops[k] := by simp [hk]
      rcases (hlex.each k ops[k] (by simpa using hok)).2.2 with ⟨_, hnh, hst0, h3⟩ | ⟨_, _, h3⟩ | ⟨_, _, h3⟩ | ⟨_, _, h3⟩ | ⟨_, hnh, _, _, hst, h3, _, _⟩
      · rcases h3 with h3 | ⟨h3, _, _⟩
        · exact h3
        · cases hst : still P ops[k].op with
          | true => exact (StepC_still hst hst0).1
          | false =>
            have : bar k = true := by
              show (barrier P ops.toList (befs ops.toList []) hs k && !hs.contains k && !(match ops[k]? with | some o => still P o.op | none => true)) = true
              rw [Nat.zero_add] at h3 hnh
              rw [hok, hnh, h3]; simp [hst]
            rw [hb] at this; cases this
      · exact h3
      · exact h3
      · exact h3
      · exfalso
        have : bar k = true := by
          show (barrier P ops.toList (befs ops.toList []) hs k && !hs.contains k && !(match ops[k]? with | some o => still P o.op | none => true)) = true
          rw [Nat.zero_add] at h3 hnh
          rw [hok, hnh, h3]; simp [hst]
        rw [hb] at this; cases this
    have hkeep : ∀ (j k' k : Nat), hs[j]? = some k' → k < ops.size → bar k = true → orders (befs ops.toList []) k' k = true ∨ (bx (k + 1))[base + j]? = (bx k)[base + j]? := by
      intro j k' k hj hk hb
      have hok : ops[k]? = some ops[k] := by simp [hk]
      rcases (hlex.each k ops[k] (by simpa using hok)).2.2 with ⟨_, _, _, h3⟩ | ⟨_, _, h3⟩ | ⟨_, _, h3⟩ | ⟨_, _, h3⟩ | ⟨_, _, _, _, _, _, h3, h4⟩
      · rcases h3 with h3 | ⟨_, h3, _⟩
        · exact .inr (by rw [h3])
        · rw [Nat.zero_add] at h3
          exact keepsH_at h3 hj
      · exact .inr (by rw [h3])
      · exact .inr (by rw [h3])
      · exact .inr (by rw [h3])
      · rw [Nat.zero_add] at h3
        exact keepsH_at h3 hj
    have hinv : ∀ k, k ≤ ops.size → J (bx k) := by
      intro k
      induction k with
      | zero => intro _; rw [e2]; exact hJ
      | succ k ih =>
        intro hk
        have ih := ih (by omega)
        have hok : ops[k]? = some ops[k] := by simp [show k < ops.size by omega]
        rcases (hlex.each k ops[k] (by simpa using hok)).2.2 with ⟨_, _, _, h3⟩ | ⟨_, _, h3⟩ | ⟨_, _, h3⟩ | ⟨_, _, h3⟩ | ⟨_, _, _, _, _, _, h3, h4⟩
        · rcases h3 with h3 | ⟨_, _, h3⟩
          · rw [h3]; exact ih
          · exact h3
        · rw [h3]; exact ih
        · rw [h3]; exact ih
        · rw [h3]; exact ih
        · exact h4
    have hinvS : ∀ (S : Nat → Bool) k, k ≤ ops.size → J (bxS bar S bx k) := by
      intro S k
      induction k with
      | zero => intro _; exact hinv 0 (Nat.zero_le _)
      | succ k ih =>
        intro hk
        simp only [bxS]
        split
        · exact hinv (k + 1) hk
        · exact ih (by omega)
    exact ⟨hfs, hbx, hkeep, hinvS⟩
  have found : ∀ (S : Nat → Bool) (i : Nat) (o : Oper), Closed ops S → ops[i]? = some o → S i = false → (∀ e ∈ o.after, Region.binds .any e = true → S e.on = true) →
      ∀ j, j < ops.size → i ≠ j → orders (befs ops.toList []) i j = true → (S j = true ↔ j < i) := by
    intro S i o hc ho hSi hd j hj hij hor
    unfold orders at hor
    have hoj : ops[j]? = some ops[j] := by simp [hj]
    rcases Nat.lt_or_ge j i with hji | hji
    · rw [Nat.max_eq_left (by omega), Nat.min_eq_right (by omega)] at hor
      exact ⟨fun _ => hji, fun _ => anc_in hc hlt i o j ho hor hd⟩
    · rw [Nat.max_eq_right (by omega), Nat.min_eq_left (by omega)] at hor
      refine ⟨fun hSj => ?_, fun h => by omega⟩
      have := anc_in hc hlt j _ i hoj hor (hc j _ hoj hSj)
      rw [hSi] at this; cases this
  have agree : ∀ val fs bx val' fs' bx', Fam val fs bx → Fam val' fs' bx' → ∀ (S : Nat → Bool), Closed ops S → S k0 = false → (∀ i, ops.size ≤ i → S i = false) →
      frS ops S val (fs 0) ops.size = frS ops S val' (fs' 0) ops.size ∧ bxS bar S bx ops.size = bxS bar S bx' ops.size := by
    intro val fs bx val' fs' bx' hm1 hm2 S hc hk0 hSm
    obtain ⟨e1, e2, _, hlex⟩ := hF.lex val fs bx hm1
    obtain ⟨e1', e2', _, hlex'⟩ := hF.lex val' fs' bx' hm2
    obtain ⟨hfs, hbx, _, hinvS⟩ := facts val fs bx hm1
    obtain ⟨hfs', hbx', _, _⟩ := facts val' fs' bx' hm2
    have hpre := hF.pre val fs bx val' fs' bx' hm1 hm2
    have hno : ∀ i o, ops[i]? = some o → S i = true → k0 < i → orders (befs ops.toList []) i k0 = false := by
      intro i o ho hi hk
      cases hor : orders (befs ops.toList []) i k0 with
      | false => rfl
      | true =>
        unfold orders at hor
        rw [Nat.max_eq_left (by omega), Nat.min_eq_right (by omega)] at hor
        have := anc_in hc hlt i o k0 ho hor (hc i o ho hi)
        rw [hk0] at this; cases this
    have hval : ∀ i, S i = true → val i = val' i := by
      intro i
      induction i using Nat.strongRecOn with
      | _ i ih =>
        intro hi
        have him : i < ops.size := by
          rcases Nat.lt_or_ge i ops.size with h | h
          · exact h
          · rw [hSm i h] at hi; cases hi
        rcases Nat.lt_trichotomy i k0 with hik | rfl | hik
        · exact (hpre i).1 hik
        · rw [hk0] at hi; cases hi
        · have ho : ops[i]? = some ops[i] := by simp [him]
          generalize ops[i] = o at ho
          have hnor := hno i o ho hi hik
          have hslot : ∀ t, t ∈ namesOf ops.toList o → fs i t = fs' i t := by
            intro t ht
            have : ∀ m, m ≤ i → fs m t = fs' m t := by
              intro m
              induction m with
              | zero => intro _; rw [e1, e1']
              | succ m ihm =>
                intro hm'
                have ihm := ihm (by omega)
                rw [hfs m (by omega), hfs' m (by omega)]
                by_cases hd : dstAt ops m = some t
                · have hom : ops[m]? = some ops[m] := by simp [show m < ops.size by omega]
                  have hor := hord i m o ops[m] t ho hom (by omega) (by simpa [dstAt, hom] using hd) ht
                  unfold orders at hor
                  rw [Nat.max_eq_left (by omega), Nat.min_eq_right (by omega)] at hor
                  have hSm' := anc_in hc hlt i o m ho hor (hc i o ho hi)
                  rw [upd_same hd, upd_same hd, ih m (by omega) hSm']
                · rw [upd_other hd, upd_other hd, ihm]
            exact this i (Nat.le_refl _)
          have hops : ∀ x ∈ o.op.operands, opv (fs i) x = opv (fs' i) x := fun x hx =>
            opv_eq_of fun t ht => hslot t (by
              subst ht
              simp only [namesOf, List.mem_append, List.mem_filterMap]
              exact .inl (.inr ⟨.tmp t, by simpa using hx, rfl⟩))
          have hwant : wantC ops (fs i) o = wantC ops (fs' i) o := by
            unfold wantC
            cases hg : o.guard with
            | none => rfl
            | some g =>
              obtain ⟨j, want⟩ := g
              dsimp only
              cases hdj : (ops[j]?).bind (·.dst) with
              | none => rfl
              | some d =>
                dsimp only
                rw [hslot d (by
                  simp only [namesOf, hg, List.mem_append]
                  exact .inr (by simp [hdj]))]
          have hnc : ∀ f args ts, still P o.op = true ∨ isLoad o.op = true → o.op ≠ .call { callee := .value f, args, argTypes := ts } := by
            intro f args ts h ho'
            rw [ho'] at h
            rcases h with h | h
            · simp [still] at h
            · simp [isLoad] at h
          obtain ⟨_, _, g3⟩ := hlex.each i o (by simpa using ho)
          obtain ⟨_, _, g3'⟩ := hlex'.each i o (by simpa using ho)
          rw [Nat.zero_add, Nat.zero_add] at g3 g3'
          have hkb : bar k0 = true ∨ k0 = ops.size ∨ ops.size < k0 := by
            rcases Nat.lt_trichotomy k0 ops.size with h | h | h
            · exact .inl (hone h)
            · exact .inr (.inl h)
            · exact .inr (.inr h)
          have hkind : hs.contains i = true ∨ still P o.op = true := by
            rcases hkb with hkb | h | h
            · cases hx : still P o.op with
              | true => exact .inr rfl
              | false =>
                cases hy : hs.contains i with
                | true => exact .inl rfl
                | false =>
                  have := hbar i k0 o ho hx hy hkb (by omega)
                  rw [hnor] at this; cases this
            · omega
            · omega
          have hload : hs.contains i = true → isLoad o.op = true := fun h => hF.rest i o (List.contains_iff_mem.1 h) (by omega) ho
          have madeNo : ∀ {fr : Fr} {c : CV} {x : Box}, hs.contains i = true → Made P o fr c x → False := by
            intro fr c x hcon hmd
            have h1 := hload hcon
            have h2 := hmd.2.1
            revert h1 h2
            cases hop : o.op <;> intro h1 <;> simp [isLoad] at h1
            all_goals
              unfold ev
              rw [hop]
              dsimp only
              intro h2
              repeat' (first | (cases h2; done) | (simp at h2; done) | split at h2 | (rw [Option.bind_eq_some_iff] at h2; obtain ⟨_, _, h2⟩ := h2))
          rcases g3 with ⟨k1, kn, k2, k3⟩ | ⟨k1, ⟨jh, cm, xm, m1, m2, m3, m4⟩, k3⟩ | ⟨k1, ⟨hcon, m1⟩, k3⟩ | ⟨k1, k2, k3⟩ | ⟨_, _, _, hik0, _⟩
          · have hst : still P o.op = true := by
              rcases hkind with h | h
              · rw [kn] at h; cases h
              · exact h
            rcases g3' with ⟨k1', kn', k2', k3'⟩ | ⟨k1', ⟨jh, cm, xm, m1, m2, m3, m4⟩, k3'⟩ | ⟨k1', ⟨hcon, m1⟩, k3'⟩ | ⟨k1', k2', k3'⟩ | ⟨_, _, _, hik0, _⟩
            · have h1 := StepC_ev_of (fun f args ts => hnc f args ts (.inl hst)) ((StepC_congr hops).1 k2)
              have h2 := StepC_ev_of (fun f args ts => hnc f args ts (.inl hst)) ((StepC_still hst k2').2 (bx i))
              rw [h1] at h2
              simp at h2; exact h2.1
            · have : hs.contains i = true := List.contains_iff_mem.2 (List.mem_of_getElem? m1)
              rw [kn] at this; cases this
            · rw [kn] at hcon; cases hcon
            · rw [hwant, k1'] at k1; cases k1
            · omega
          · have hcon : hs.contains i = true := List.contains_iff_mem.2 (List.mem_of_getElem? m1)
            exact (madeNo hcon m2).elim
          · rcases g3' with ⟨k1', kn', k2', k3'⟩ | ⟨k1', ⟨jh, cm, xm, m1', m2, m3, m4⟩, k3'⟩ | ⟨k1', ⟨_, m1'⟩, k3'⟩ | ⟨k1', k2', k3'⟩ | ⟨_, _, _, hik0, _⟩
            · rw [hcon] at kn'; cases kn'
            · exact (madeNo hcon m2).elim
            · have h1 := StepC_ev_of (fun f args ts => hnc f args ts (.inr (hload hcon))) ((StepC_congr hops).1 (m1 B hJ))
              have h2 := StepC_ev_of (fun f args ts => hnc f args ts (.inr (hload hcon))) (m1' B hJ)
              rw [h1] at h2
              simp at h2; exact h2
            · rw [hwant, k1'] at k1; cases k1
            · omega
          · rcases g3' with ⟨k1', kn', k2', k3'⟩ | ⟨k1', ⟨jh, cm, xm, m1', m2, m3, m4⟩, k3'⟩ | ⟨k1', ⟨_, m1'⟩, k3'⟩ | ⟨k1', k2', k3'⟩ | ⟨_, _, _, hik0, _⟩
            · rw [hwant, k1'] at k1; cases k1
            · rw [hwant, k1'] at k1; cases k1
            · rw [hwant, k1'] at k1; cases k1
            · rw [k2, k2']
            · omega
          · omega
    constructor
    · have : ∀ k, frS ops S val (fs 0) k = frS ops S val' (fs' 0) k := by
        intro k
        induction k with
        | zero => simp only [frS]; rw [e1, e1']
        | succ k ih =>
          simp only [frS]
          cases hk : S k with
          | false => simp [ih]
          | true => simp [ih, hval k hk]
      exact this _
    · have : ∀ k, k ≤ ops.size → bxS bar S bx k = bxS bar S bx' k := by
        intro k
        induction k with
        | zero => intro _; simp only [bxS]; rw [e2, e2']
        | succ k ih =>
          intro hkm
          simp only [bxS]
          have ih := ih (by omega)
          cases hk : S k && bar k with
          | false => simp [ih]
          | true =>
            rw [Bool.and_eq_true] at hk
            simp only [if_true]
            have hkk : k < k0 := by
              rcases Nat.lt_trichotomy k k0 with h | h | h
              · exact h
              · subst h; rw [hk0] at hk; cases hk.1
              · exfalso
                have hok' : ops[k]? = some ops[k] := by simp [show k < ops.size by omega]
                have hok0 : ops[k0]? = some ops[k0] := by simp [show k0 < ops.size by omega]
                have hnor := hno k _ hok' hk.1 h
                have := hbar k0 k _ hok0 ((hbarN k0 (hone (by omega))).2 _ hok0) ((hbarN k0 (hone (by omega))).1) hk.2 (by omega)
                unfold orders at this hnor
                rw [Nat.max_comm, Nat.min_comm] at this
                rw [this] at hnor; cases hnor
            exact (hpre (k + 1)).2 hkk
      exact this _ (Nat.le_refl _)
  refine wp_region_any hm ?_
  have key : ∀ (fuel : Nat) (listed : Array Bool) (a : Act) (w : World), listed.size = ops.size → Closed ops (fun i => listed.getD i false) → (List.range ops.size).countP (fun i => !listed.getD i false) ≤ fuel →
      (∃ val fs bx, Fam val fs bx ∧ ∃ I μ, St N n I0 μ0 w0 (frS ops (fun i => listed.getD i false) val (fs 0) ops.size) (bxS bar (fun i => listed.getD i false) bx ops.size) a I μ w ∧ ∀ j k, hs[j]? = some k → listed.getD k false = false → μ[base + j]? = some []) → wpAny P .any ops Q' fuel listed a w := by
    intro fuel
    induction fuel with
    | zero =>
      intro listed a w hsz hc hcnt ⟨val, fs, bx, hmem, I, μ, hst, hgn⟩
      obtain ⟨e1, e2, hq, hlex⟩ := hF.lex val fs bx hmem
      rw [hl] at hq
      obtain ⟨hfs, hbx, hkeep, hinvS⟩ := facts val fs bx hmem
      have hall : ∀ i, i < ops.size → listed.getD i false = true := by
        intro i hi
        have : (List.range ops.size).countP (fun i => !listed.getD i false) = 0 := by omega
        rw [List.countP_eq_zero] at this
        simpa using this i (List.mem_range.2 hi)
      refine ⟨?_, ?_⟩
      · cases hr : Region.ready .any ops listed with
        | nil => rfl
        | cons j js =>
          exfalso
          obtain ⟨h1, oj, h2, _⟩ := mem_ready.1 (show j ∈ Region.ready .any ops listed by rw [hr]; simp)
          have hj := (Array.getElem?_eq_some_iff.1 h2).1
          have := hall j hj
          simp [Array.getD_eq_getD_getElem?, hsz, hj] at h1 this
          rw [h1] at this; cases this
      · have f1 : frS ops (fun i => listed.getD i false) val (fs 0) ops.size = fs ops.size := by
          funext t
          rw [frS_at hfs (Nat.le_refl _) (fun j hj _ => by simp [hall j hj, hj]) ops.size (Nat.le_refl _), Nat.min_self]
        have f2 : bxS bar (fun i => listed.getD i false) bx ops.size = bx ops.size := by
          rw [bxS_at hbx (Nat.le_refl _) (fun j hj _ => by simp [hall j hj, hj]) ops.size (Nat.le_refl _), Nat.min_self]
        rw [f1, f2] at hst
        exact hQ _ _ _ _ _ _ hq hst
    | succ fuel ih =>
      intro listed a w hsz hc hcnt ⟨val, fs, bx, hmem, I, μ, hst, hgn⟩
      obtain ⟨e1, e2, hq, hlex⟩ := hF.lex val fs bx hmem
      rw [hl] at hq
      obtain ⟨hfs, hbx, hkeep, hinvS⟩ := facts val fs bx hmem
      refine ⟨fun hr => ?_, fun i hi => ?_⟩
      · have hall : ∀ i, i < ops.size → listed.getD i false = true := by
          intro i
          induction i using Nat.strongRecOn with
          | _ i ihi =>
            intro hi
            cases hx : listed.getD i false with
            | true => rfl
            | false =>
              exfalso
              have hoi : ops[i]? = some ops[i] := by simp [hi]
              have : i ∈ Region.ready .any ops listed := mem_ready.2 ⟨by
                simp [Array.getD_eq_getD_getElem?, hsz, hi] at hx ⊢; exact hx, ops[i], hoi, fun e he hb => ihi e.on (hlt i _ hoi e he hb) (by have := hlt i _ hoi e he hb; omega)⟩
              rw [hr] at this
              cases this
        have f1 : frS ops (fun i => listed.getD i false) val (fs 0) ops.size = fs ops.size := by
          funext t
          rw [frS_at hfs (Nat.le_refl _) (fun j hj _ => by simp [hall j hj, hj]) ops.size (Nat.le_refl _), Nat.min_self]
        have f2 : bxS bar (fun i => listed.getD i false) bx ops.size = bx ops.size := by
          rw [bxS_at hbx (Nat.le_refl _) (fun j hj _ => by simp [hall j hj, hj]) ops.size (Nat.le_refl _), Nat.min_self]
        rw [f1, f2] at hst
        exact hQ _ _ _ _ _ _ hq hst
      · obtain ⟨h1, o, ho, hd⟩ := mem_ready.1 hi
        have him := (Array.getElem?_eq_some_iff.1 ho).1
        have hSi : listed.getD i false = false := by
          simp [Array.getD_eq_getD_getElem?, hsz, him] at h1 ⊢; exact h1
        have hfound := found (fun i => listed.getD i false) i o hc ho hSi hd
        obtain ⟨g1, g2, g3⟩ := hlex.each i o (by simpa using ho)
        have hdo : dstAt ops i = o.dst := by simp [dstAt, ho]
        have hd' : ∀ t, o.dst = some t → t < n := fun t ht => by simpa [dstOk, ht] using g1
        have hslot : ∀ t, t ∈ namesOf ops.toList o → frS ops (fun i => listed.getD i false) val (fs 0) ops.size t = fs i t := by
          intro t ht
          have := frS_at (S := fun i => listed.getD i false) (val := val) (t := t) hfs (Nat.le_of_lt him) (fun j hj hdj => by
            by_cases hij : i = j
            · subst hij; simp [hSi]
            · have hoj : ops[j]? = some ops[j] := by simp [hj]
              exact hfound j hj hij (hord i j o ops[j] t ho hoj hij (by simpa [dstAt, hoj] using hdj) ht)) ops.size (Nat.le_refl _)
          rw [this, Nat.min_eq_right (Nat.le_of_lt him)]
        have hbari : still P o.op = true → bar i = false := by
          intro hst
          cases hb : bar i with
          | false => rfl
          | true => have := (hbarN i hb).2 o ho; rw [hst] at this; cases this
        have hbarh : hs.contains i = true → bar i = false := by
          intro hst
          cases hb : bar i with
          | false => rfl
          | true => have := (hbarN i hb).1; rw [hst] at this; cases this
        have hbox : still P o.op = false → hs.contains i = false → bxS bar (fun i => listed.getD i false) bx ops.size = bx i := by
          intro hst hnh
          have := bxS_at (bar := bar) (S := fun i => listed.getD i false) hbx (Nat.le_of_lt him) (fun j hj hbj => by
            by_cases hij : i = j
            · subst hij; simp [hSi]
            · exact hfound j hj hij (hbar i j o ho hst hnh hbj hij)) ops.size (Nat.le_refl _)
          rw [this, Nat.min_eq_right (Nat.le_of_lt him)]
        have hops : ∀ x ∈ o.op.operands, opv (frS ops (fun i => listed.getD i false) val (fs 0) ops.size) x = opv (fs i) x := fun x hx =>
          opv_eq_of fun t ht => hslot t (by
            subst ht
            simp only [namesOf, List.mem_append, List.mem_filterMap]
            exact .inl (.inr ⟨.tmp t, by simpa using hx, rfl⟩))
        have hwant : wantC ops (frS ops (fun i => listed.getD i false) val (fs 0) ops.size) o = wantC ops (fs i) o := by
          unfold wantC
          cases hg : o.guard with
          | none => rfl
          | some g =>
            obtain ⟨j, want⟩ := g
            dsimp only
            cases hdj : (ops[j]?).bind (·.dst) with
            | none => rfl
            | some d =>
              dsimp only
              rw [hslot d (by
                simp only [namesOf, hg, List.mem_append]
                exact .inr (by simp [hdj]))]
        have next : ∀ (val : Nat → CV) (fs : Nat → Fr) (bx : Nat → List Box), Fam val fs bx → ∀ (v : Value) (I' : Nat → Nat → Prop) (μ' : List (List Place)) (w' : World), St N n I0 μ0 w0 (upd (frS ops (fun j => listed.getD j false) val (fs 0) ops.size) o.dst (val i)) (if still P o.op || hs.contains i then bxS bar (fun i => listed.getD i false) bx ops.size else bx (i + 1)) (a.put o.dst v) I' μ' w' →
            (∀ j k, hs[j]? = some k → listed.getD k false = false → k ≠ i → μ'[base + j]? = some []) → wpAny P .any ops Q' fuel (listed.setIfInBounds i true) (a.put o.dst v) w' := by
          intro val fs bx hmem v I' μ' w' hstep hgn'
          obtain ⟨hfs, hbx, _, _⟩ := facts val fs bx hmem
          have hS' : ∀ j, (listed.setIfInBounds i true).getD j false = (listed.getD j false || j == i) := by
            intro j
            simp only [Array.getD_eq_getD_getElem?, Array.getElem?_setIfInBounds]
            by_cases hij : i = j
            · subst hij; simp [hsz, him]
            · have : (j == i) = false := by simp; omega
              simp [hij, this]
          refine ih _ _ _ (by simp [hsz]) (fun j p hp hj e he hb => ?_) ?_ ⟨val, fs, bx, hmem, I', μ', ?_, fun j k hj hk => ?_⟩
          rotate_right
          · rw [hS'] at hk
            simp only [Bool.or_eq_false_iff, beq_eq_false_iff_ne] at hk
            exact hgn' j k hj hk.1 hk.2
          · have hj : (listed.setIfInBounds i true).getD j false = true := hj
            show (listed.setIfInBounds i true).getD e.on false = true
            rw [hS'] at hj ⊢
            simp only [Bool.or_eq_true, beq_iff_eq] at hj ⊢
            rcases hj with hj | rfl
            · exact .inl (hc j p hp hj e he hb)
            · rw [ho] at hp
              simp at hp; subst hp
              exact .inl (hd e he hb)
          · have := countP_lt (l := List.range ops.size) (p := fun j => !listed.getD j false) (q := fun j => !(listed.setIfInBounds i true).getD j false) (fun x hx => by
                rw [hS'] at hx
                simp only [Bool.not_or, Bool.and_eq_true] at hx
                exact hx.1) (List.mem_range.2 him) (by simp [hSi]) (by rw [hS']; simp)
            omega
          · have f1 : frS ops (fun j => (listed.setIfInBounds i true).getD j false) val (fs 0) ops.size = upd (frS ops (fun j => listed.getD j false) val (fs 0) ops.size) (dstAt ops i) (val i) :=
              frS_put him hS' (fun j t hij hj hdi hdj => by
                have hoj : ops[j]? = some ops[j] := by simp [hj]
                have := hfound j hj (by omega) (hord i j o ops[j] t ho hoj (by omega) (by simpa [dstAt, hoj] using hdj) (by
                  rw [hdo] at hdi
                  simp only [namesOf, List.mem_append]
                  exact .inl (.inl (by simp [hdi]))))
                cases hx : listed.getD j false with
                | false => rfl
                | true => have := this.1 hx; omega)
            have f2 : bxS bar (fun j => (listed.setIfInBounds i true).getD j false) bx ops.size = if still P o.op || hs.contains i then bxS bar (fun i => listed.getD i false) bx ops.size else bx (i + 1) := by
              cases hst' : still P o.op with
              | true => rw [if_pos (by simp)]; exact bxS_skip (hbari hst') hS' _
              | false =>
              cases hnh : hs.contains i with
              | true => rw [if_pos (by simp)]; exact bxS_skip (hbarh hnh) hS' _
              | false =>
              rw [if_neg (by simp)]
              have := bxS_at (bar := bar) (S := fun j => (listed.setIfInBounds i true).getD j false) (i := i + 1) hbx (by omega) (fun j hj hbj => by
                rw [hS']
                by_cases hij : i = j
                · subst hij; simp
                · have := hfound j hj hij (hbar i j o ho hst' hnh hbj hij)
                  have h2 : (j == i) = false := by simp; omega
                  rw [h2, Bool.or_false]
                  exact ⟨fun hx => by have := this.1 hx; omega, fun hx => this.2 (by omega)⟩) ops.size (Nat.le_refl _)
              rw [this, Nat.min_eq_right (by omega)]
            rw [f1, f2, hdo]
            exact hstep
        unfold wpOp
        rw [ho]
        dsimp only
        have gn2 : ∀ {c v B' I' μ' w'}, Step N I μ w c v B' I' μ' w' → ∀ j k, hs[j]? = some k → listed.getD k false = false → k ≠ i → μ'[base + j]? = some [] :=
          fun hstep j k hj hk _ => hstep.ext.gone _ (hgn j k hj hk)
        rcases g3 with ⟨k1, kn, k2, k3⟩ | ⟨k1, ⟨jh, cm, xm, m1, m2, m3, m4⟩, k3⟩ | ⟨k1, ⟨hcon, m1⟩, k3⟩ | ⟨k1, k2, k3⟩ | ⟨k1, kn, k2, hik, hst', _⟩
        · rw [Nat.zero_add] at kn
          have hw := want_sound (ops := ops) hst.frame (hwant.trans k1)
          rw [hw, if_pos rfl]
          cases hst' : still P o.op with
          | true =>
            refine .inl (step_sound hst ((StepC_congr hops).2 ((StepC_still hst' k2).2 _)) fun c v B' I' μ' w' hK hstep => ?_)
            obtain ⟨rfl, rfl⟩ := hK
            exact next val fs bx hmem v I' μ' w' (by rw [hst', Bool.true_or, if_pos rfl]; exact hst.put hstep hd') (gn2 hstep)
          | false =>
            have hst2 := hst
            rw [hbox hst' kn] at hst2
            refine .inl (step_sound hst2 ((StepC_congr hops).2 k2) fun c v B' I' μ' w' hK hstep => ?_)
            obtain ⟨rfl, rfl⟩ := hK
            exact next val fs bx hmem v I' μ' w' (by rw [hst', kn, Bool.false_or, if_neg (by simp)]; exact hst2.put hstep hd') (gn2 hstep)
        · rw [Nat.zero_add] at m1
          have hcon : hs.contains i = true := by
            rw [List.contains_iff_mem]; exact List.mem_of_getElem? m1
          have hw := want_sound (ops := ops) hst.frame (hwant.trans k1)
          rw [hw, if_pos rfl]
          have hlook : (bxS bar (fun i => listed.getD i false) bx ops.size)[base + jh]? = some xm := by
            have := bxS_look (bar := bar) (S := fun i => listed.getD i false) (bx := bx) (m := ops.size) (i := i) (β := base + jh) hbx (fun k hk hbk => by
              rcases hkeep jh i k m1 hk hbk with h | h
              · by_cases hik : i = k
                · subst hik; rw [hbarh hcon] at hbk; cases hbk
                · exact .inl (hfound k hk hik h)
              · exact .inr h) (fun s k hsk hk hbs hbk hSk => by
                have hos : ops[s]? = some ops[s] := by simp [show s < ops.size by omega]
                have hok : ops[k]? = some ops[k] := by simp [hk]
                have hor := hbar s k _ hos ((hbarN s hbs).2 _ hos) (hbarN s hbs).1 hbk (by omega)
                unfold orders at hor
                rw [Nat.max_eq_right (by omega), Nat.min_eq_left (by omega)] at hor
                exact anc_in hc hlt k _ s hok hor (hc k _ hok hSk)) ops.size (Nat.le_refl _)
            rw [this, Nat.min_eq_right (Nat.le_of_lt him)]
            exact m3
          have hmade : Made P o (frS ops (fun i => listed.getD i false) val (fs 0) ops.size) cm xm := by
            obtain ⟨q1, q2, q3, q4⟩ := m2
            refine ⟨?_, by rw [ev_congr hops]; exact q2, q3, q4⟩
            exact List.all_eq_true.2 fun x hx => by rw [flatO_congr (hops x (by simpa using hx))]; exact List.all_eq_true.1 q1 x hx
          refine .inl (made_sound hst hmade hlook (hgn jh i m1 hSi) (by omega) m4 hd' fun v I' w' ps hst3 => ?_)
          refine next val fs bx hmem v I' _ w' (by rw [hcon, Bool.or_true, if_pos rfl]; exact hst3) (fun j k hj hk hki => ?_)
          have hne : base + jh ≠ base + j := fun h => hki (by
            have : jh = j := by omega
            subst this; rw [m1] at hj; simpa using hj.symm)
          rw [List.getElem?_set, if_neg hne]
          exact hgn j k hj hk
        · rw [Nat.zero_add] at hcon
          have hw := want_sound (ops := ops) hst.frame (hwant.trans k1)
          rw [hw, if_pos rfl]
          refine .inl (step_sound hst ((StepC_congr hops).2 (m1 _ (hinvS _ _ (Nat.le_refl _)))) fun c v B' I' μ' w' hK hstep => ?_)
          obtain ⟨rfl, rfl⟩ := hK
          exact next val fs bx hmem v I' μ' w' (by rw [hcon, Bool.or_true, if_pos rfl]; exact hst.put hstep hd') (gn2 hstep)
        · have hw := want_sound (ops := ops) hst.frame (hwant.trans k1)
          rw [hw, if_neg (by simp)]
          have hz : ∀ B', BRel N I μ B' w → Step N I μ w (val i) undef B' I μ w := fun B' hB => by rw [k2]; exact ⟨.tup (.nil _) (.nil _), hB, .refl _ _ _, Below.refl _ _⟩
          cases hx : (still P o.op || hs.contains i) with
          | true => exact next val fs bx hmem undef I μ w (by rw [hx, if_pos rfl]; exact hst.put (hz _ hst.box) hd') (fun j k hj hk _ => hgn j k hj hk)
          | false =>
            rw [Bool.or_eq_false_iff] at hx
            have hst2 := hst
            rw [hbox hx.1 hx.2] at hst2
            exact next val fs bx hmem undef I μ w (by rw [hx.1, hx.2, Bool.false_or, if_neg (by simp), k3]; exact hst2.put (hz _ hst2.box) hd') (fun j k hj hk _ => hgn j k hj hk)
        · rw [Nat.zero_add] at kn
          rw [Nat.zero_add, Nat.zero_add] at hik
          subst hik
          have hw := want_sound (ops := ops) hst.frame (hwant.trans k1)
          rw [hw, if_pos rfl]
          have hst2 := hst
          rw [hbox hst' kn] at hst2
          refine .inl (step_sound hst2 ((StepC_congr hops).2 k2) fun c v B' I' μ' w' hK hstep => ?_)
          obtain ⟨val', fs', bx', hm', rfl, rfl⟩ := hF.all c B' hK
          have hag := (agree val fs bx val' fs' bx' hmem hm' (fun i => listed.getD i false) hc hSi (fun j hj => by simp [Array.getD_eq_getD_getElem?, hsz, hj])).1
          refine next val' fs' bx' hm' v I' μ' w' ?_ (gn2 hstep)
          rw [hst', kn, Bool.false_or, if_neg (by simp), ← hag]
          exact hst2.put hstep hd'
  have hrep : ∀ i, (Array.replicate ops.size false).getD i false = false := by
    intro i
    simp only [Array.getD_eq_getD_getElem?, Array.getElem?_replicate]
    split <;> rfl
  obtain ⟨val, fs, bx, hmem⟩ := hF.any
  obtain ⟨e1, e2, _, _⟩ := hF.lex val fs bx hmem
  refine key ops.size _ a _ (by simp) (fun i o ho hx => by have hx : (Array.replicate ops.size false).getD i false = true := hx; rw [hrep] at hx; cases hx) ?_ ⟨val, fs, bx, hmem, I, μ, ?_, fun j k hj _ => hgone j k hj⟩
  · exact Nat.le_trans List.countP_le_length (by simp)
  · have f0 : ∀ k, frS ops (fun i => (Array.replicate ops.size false).getD i false) val (fs 0) k = fs 0 := by
      intro k
      induction k with
      | zero => rfl
      | succ k ih =>
        simp only [frS]
        rw [if_neg (fun hx => by have hx : (Array.replicate ops.size false).getD k false = true := hx; rw [hrep] at hx; cases hx), ih]
    have f1 : ∀ k, bxS bar (fun i => (Array.replicate ops.size false).getD i false) bx k = bx 0 := by
      intro k
      induction k with
      | zero => rfl
      | succ k ih =>
        simp only [bxS]
        rw [if_neg (fun hx => by have hx : ((Array.replicate ops.size false).getD k false && bar k) = true := hx; rw [hrep] at hx; cases hx), ih]
    rw [f0, f1, e1, e2]
    exact hs0.keep (Nat.le_refl _) (fun _ _ => rfl) ⟨rfl, rfl, rfl⟩
theorem WPd_sound {id : Nat} {Q : Fr → List Box → Prop} {Q' : Exit → Act → World → Prop} (hm : P.follows .mixedOrders = true) (hok : drawOk ops.toList (befs ops.toList []) = true) (h : WPd P n ops (befs ops.toList []) base hs J Q 0 ops.toList fr B) (hJ : J B)
    (hs0 : St N n I0 μ0 w0 fr B a I μ w) (hbase : μ0.length ≤ base) (hgone : ∀ j k, hs[j]? = some k → μ[base + j]? = some []) (hQ : ∀ fr' B' a' I' μ' w', Q fr' B' → St N n I0 μ0 w0 fr' B' a' I' μ' w' → Q' .normal a' w') : (Code.region id ops true).wp P Q' a w := by
  obtain ⟨Fam, hF⟩ := fam_of_WPd h (by simp)
  exact fam_sound hm hok hF hJ hs0 hbase hgone hQ
theorem WPq_sound {id : Nat} {Q : Fr → List Box → Prop} {Q' : Exit → Act → World → Prop} (hm : P.follows .mixedOrders = true) (hok : drawOk ops.toList (befs ops.toList []) = true) (h : WPq P n ops (befs ops.toList []) base hs J Q 0 ops.toList fr B) (hJ : J B)
    (hs0 : St N n I0 μ0 w0 fr B a I μ w) (hbase : μ0.length ≤ base) (hgone : ∀ j k, hs[j]? = some k → μ[base + j]? = some []) (hQ : ∀ fr' B' a' I' μ' w', Q fr' B' → St N n I0 μ0 w0 fr' B' a' I' μ' w' → Q' .normal a' w') : (Code.region id ops true).wp P Q' a w := by
  obtain ⟨k0, Q0, Fam, hF⟩ := fam_of_WPq _ _ _ _ h
  exact fam_sound hm hok hF hJ hs0 hbase hgone hQ
end
end Go.Sy
end
