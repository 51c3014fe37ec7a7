/-
  Addresses of elements; lengths; new boxes; stores; values out of parts.
-/
import Derived.Test.YtjlfblcoghiijaaSyH
namespace Go.Sy
set_option linter.all false
open Go.RowKit (Below)

section
variable {P : Program} {N : Nat} {I : Nat → Nat → Prop} {μ : List (List Place)} {B : List Box} {w : World} {o : Oper} {a : Act} {fr : Fr} {c : CV}

theorem fits_indexAddr {t : TypeId} {x i : Operand} {r : CV × List Box} (ho : o.op = .indexAddr t x i) (hB : BRel N I μ B w) (hfr : ∀ i, V I μ w (fr i) (a.tmps.getD i undef))
    (h : ev P o fr B = some r) : Fits P N I μ w o a r.1 r.2 := by
  have hx := opv_rel hfr x
  have hi := opv_rel hfr i
  simp only [ev, ho] at h
  split at h
  · rename_i k i n e e1 hu
    rw [e1] at hi
    have hi := hi.int_inv
    split at h
    · rename_i hin
      simp only [Option.bind_eq_some_iff] at h
      obtain ⟨esz, hs, h⟩ := h
      split at h
      · rename_i b off e2
        rw [e2] at hx
        simp at h; subst h
        obtain ⟨ps, p, h1, h2, h3, h4⟩ := hx.ptr_inv
        have hv := R.ptr (I := I) (w := w) (one := false) b (off + i.toNat * esz) ps p h2 h3 (by omega) (.nil _)
        rw [show p.o + (off + i.toNat * esz - p.lo) = p.o + (off - p.lo) + i.toNat * esz by omega] at hv
        exact fits_value hB (by simp [execOp, ho, Instr.indexAt, run_underlying hu, h1, hi, asIntOf, Instr.sureAddr, hin, run_sizeOf' hs, Addr.add_lit]) hv
      · rename_i cs e2
        rw [e2] at hx
        simp at h; subst h
        obtain ⟨b, o', vs, h1, h2, h3⟩ := hx.iptr_inv
        refine fits_value hB (v := .pointer (some ⟨b, o' + i.toNat * esz, none⟩)) (by simp [execOp, ho, Instr.indexAt, run_underlying hu, h1, hi, asIntOf, Instr.sureAddr, hin, run_sizeOf' hs, Addr.add_lit])
          (.iptr b (o' + i.toNat * esz) (h2.drop _) (fun j u hj => ?_) (.nil _))
        rw [List.getElem?_drop] at hj
        rw [Nat.add_assoc]
        exact h3 _ u hj
      · cases h
    · cases h
  · rename_i k i e e1 hu
    rw [e1] at hi
    have hi := hi.int_inv
    simp only [Option.bind_eq_some_iff] at h
    obtain ⟨esz, hs, h⟩ := h
    split at h
    · rename_i n cs full e2
      rw [e2] at hx
      split at h
      · rename_i hin
        simp at h; subst h
        rcases hx.lst_inv with ⟨b, o', cap, vs, h1, h2, h3, _, _⟩ | ⟨A, _, h1, _⟩
        · refine fits_value hB (v := .pointer (some ⟨b, o' + i.toNat * esz, none⟩)) (by simp [execOp, ho, Instr.indexAt, run_underlying hu, h1, hi, asIntOf, hin, run_sizeOf' hs, Addr.add_lit])
            (.iptr b (o' + i.toNat * esz) (h2.drop _) (fun j u hj => ?_) (.nil _))
          rw [List.getElem?_drop] at hj
          rw [Nat.add_assoc]
          exact h3 _ u hj
        · omega
      · cases h
    · rename_i b off n cap0 sz e2
      rw [e2] at hx
      split at h
      · rename_i hin
        obtain ⟨hi0, hin, rfl⟩ := hin
        split at h
        · rename_i box hbx
          rcases (V.cview_view hB hx).view_inv with ⟨ps, p, cap, h1, h2, h3, h4, h5, h6, _, _⟩ | ⟨A, _, h1, _⟩
          · have hidx : i.toNat * sz + sz ≤ n * sz := by
              rw [← Nat.succ_mul]; exact Nat.mul_le_mul_right _ (by omega)
            have hrun : (execOp a.eval o).run P w = .ok (.value (.pointer (some ⟨p.b, p.o + (off - p.lo) + i.toNat * sz, none⟩))) w := by
              simp [execOp, ho, Instr.indexAt, run_underlying hu, h1, hi, asIntOf, hi0, hin, run_sizeOf' hs, Addr.add_lit]
            split at h
            · rename_i hmul
              simp at h; subst h
              obtain ⟨_, vs, g1, g2, g3, g4⟩ := view_cells hB hbx h2 h3 h4 h5 (s := off + i.toNat * sz) (e := sz) (by omega) (by omega)
              refine fits_value hB hrun ?_
              rw [show p.o + (off - p.lo) + i.toNat * sz = p.o + (off + i.toNat * sz - p.lo) by omega]
              exact .iptr _ _ g1 (fun j u hj => ⟨g3 j u hj, g4 hmul j u hj⟩) (.nil _)
            · simp at h; subst h
              refine fits_value hB hrun ?_
              rw [show p.o + (off - p.lo) + i.toNat * sz = p.o + (off + i.toNat * sz - p.lo) by omega]
              exact .ptr b _ ps p h2 h3 (by omega) (.nil _)
          · omega
        · cases h
      · cases h
    · rename_i b off n sz full e2
      rw [e2] at hx
      split at h
      · rename_i hin
        obtain ⟨hi0, hin, rfl⟩ := hin
        split at h
        · rename_i box hbx
          rcases hx.view_inv with ⟨ps, p, cap, h1, h2, h3, h4, h5, h6, _, _⟩ | ⟨A, _, h1, _⟩
          · have hidx : i.toNat * sz + sz ≤ n * sz := by
              rw [← Nat.succ_mul]; exact Nat.mul_le_mul_right _ (by omega)
            have hrun : (execOp a.eval o).run P w = .ok (.value (.pointer (some ⟨p.b, p.o + (off - p.lo) + i.toNat * sz, none⟩))) w := by
              simp [execOp, ho, Instr.indexAt, run_underlying hu, h1, hi, asIntOf, hi0, hin, run_sizeOf' hs, Addr.add_lit]
            split at h
            · rename_i hmul
              simp at h; subst h
              obtain ⟨_, vs, g1, g2, g3, g4⟩ := view_cells hB hbx h2 h3 h4 h5 (s := off + i.toNat * sz) (e := sz) (by omega) (by omega)
              refine fits_value hB hrun ?_
              rw [show p.o + (off - p.lo) + i.toNat * sz = p.o + (off + i.toNat * sz - p.lo) by omega]
              exact .iptr _ _ g1 (fun j u hj => ⟨g3 j u hj, g4 hmul j u hj⟩) (.nil _)
            · simp at h; subst h
              refine fits_value hB hrun ?_
              rw [show p.o + (off - p.lo) + i.toNat * sz = p.o + (off + i.toNat * sz - p.lo) by omega]
              exact .ptr b _ ps p h2 h3 (by omega) (.nil _)
          · omega
        · cases h
      · cases h
    · cases h
  · cases h

theorem fits_arr {t : TypeId} {x : Operand} {r : CV × List Box} (ho : o.op = .sliceToArrayPointer t x) (hB : BRel N I μ B w) (hfr : ∀ i, V I μ w (fr i) (a.tmps.getD i undef))
    (h : ev P o fr B = some r) : Fits P N I μ w o a r.1 r.2 := by
  have hx := opv_rel hfr x
  simp only [ev, ho] at h
  split at h
  · rename_i n e hu
    simp only [Option.bind_eq_some_iff] at h
    obtain ⟨esz, hs, h⟩ := h
    split at h
    · cases h
    · rename_i hn0
      split at h
      · rename_i m cs full e2
        rw [e2] at hx
        split at h
        · rename_i hin
          simp at h; subst h
          rcases hx.lst_inv with ⟨b, o', cap, vs, h1, h2, h3, _, _⟩ | ⟨A, _, h1, _⟩
          · exact fits_value hB (by simp [execOp, ho, Instr.arrayAt, run_underlying hu, h1]; omega) (.iptr b o' h2 h3 (.nil _))
          · omega
        · cases h
      · rename_i b off m sz full e2
        rw [e2] at hx
        split at h
        · rename_i hin
          obtain ⟨hin, rfl⟩ := hin
          split at h
          · rename_i box hbx
            rcases hx.view_inv with ⟨ps, p, cap, h1, h2, h3, h4, h5, h6, _, _⟩ | ⟨A, _, h1, _⟩
            · have hrun : (execOp a.eval o).run P w = .ok (.value (.pointer (some ⟨p.b, p.o + (off - p.lo), none⟩))) w := by
                simp [execOp, ho, Instr.arrayAt, run_underlying hu, h1]; omega
              split at h
              · rename_i hmul
                simp at h; subst h
                obtain ⟨_, vs, g1, g2, g3, g4⟩ := view_cells hB hbx h2 h3 h4 h5 (s := off) (e := m * sz) (Nat.le_refl _) (by omega)
                exact fits_value hB hrun (.iptr _ _ g1 (fun j u hj => ⟨g3 j u hj, g4 hmul j u hj⟩) (.nil _))
              · simp at h; subst h
                exact fits_value hB hrun (.ptr b _ ps p h2 h3 h4 (.nil _))
            · omega
          · cases h
        · cases h
      · cases h
  · cases h

/-- A new box. -/
theorem fits_push {cs : List CV} {cells : Array Value} {ty : TypeId} {fz : Nat × Nat} {vs rest : List Value} {w' : World} {nx : Next} {v : Value} {c : CV} (hB : BRel N I μ B w)
    (hrun : (execOp a.eval o).run P w = .ok nx w') (hnx : nxv nx = some v) (hp : w'.heap = w.heap.push (.cells cells ty fz)) (hw : w'.os = w.os ∧ w'.tape = w.tape ∧ w'.output = w.output)
    (hfz : ∀ j, j < cells.size → ¬ (fz.1 ≤ j ∧ j < fz.2)) (hr : R I μ w true cs vs) (hc : cells.toList = vs ++ rest)
    (hv : BRel N I (μ ++ [[⟨w.heap.size, 0, 0, cs.length⟩]]) (B ++ [{ cells := cs }]) w' → Free w' w.heap.size cells.size → V I (μ ++ [[⟨w.heap.size, 0, 0, cs.length⟩]]) w' c v) :
    Fits P N I μ w o a c (B ++ [{ cells := cs }]) := by
  obtain ⟨h1, h2⟩ := hB.push hp hfz hr hc
  exact ⟨nx, v, I, _, w', hrun, hnx, hv h1 ⟨cells, ty, fz, push_new hp, Nat.le_refl _, hfz⟩, h1, h2, Below.of_heap hB.low hp hw.1 hw.2.1 hw.2.2⟩

theorem last_place (hB : BRel N I μ B w) (p : Place) : (μ ++ [[p]])[B.length]? = some [p] := by
  rw [List.getElem?_append_right (by rw [hB.len]; exact Nat.le_refl _), hB.len]; simp

theorem zeros_rel {t : TypeId} {zs : List CV} (h : zerosOf P t = some zs) : ∃ z, (zeroValue t).run P w = .ok z w ∧ (P.info? t).bind (·.zero) = some z ∧ R I μ w true zs z.cells.toList := by
  unfold zerosOf at h
  simp only [Option.bind_eq_some_iff] at h
  obtain ⟨z, ⟨i, h1, h2⟩, h3⟩ := h
  exact ⟨z, by simp [zeroValue, typeInfo, h1, h2], by simp [h1, h2], cells_rel (ofV_rel I μ w z) h3⟩

theorem fits_alloc {t : TypeId} {r : CV × List Box} (ho : o.op = .alloc t) (hB : BRel N I μ B w) (h : ev P o fr B = some r) : Fits P N I μ w o a r.1 r.2 := by
  simp only [ev, ho, Option.map_eq_some_iff] at h
  obtain ⟨zs, hz, rfl⟩ := h
  obtain ⟨z, h1, _, h2⟩ := zeros_rel (I := I) (μ := μ) (w := w) hz
  refine fits_push (w' := w.alloc (.cells z.cells t)) (nx := .value (.pointer (some ⟨w.heap.size, 0, none⟩))) hB ?_ rfl rfl ⟨rfl, rfl, rfl⟩ (fun j _ hj => by omega) h2 (rest := []) (by simp) (fun _ _ => ?_)
  · simp [execOp, ho, Instr.alloc, h1, newVar, newRow]
  · exact .ptr B.length 0 _ ⟨w.heap.size, 0, 0, zs.length⟩ (last_place hB _) (by simp) (Nat.le_refl _) (.nil _)

theorem fits_box {t : TypeId} {x : Operand} {r : CV × List Box} (ho : o.op = .box t x) (hB : BRel N I μ B w) (hfr : ∀ i, V I μ w (fr i) (a.tmps.getD i undef))
    (h : ev P o fr B = some r) : Fits P N I μ w o a r.1 r.2 := by
  have hx := opv_rel hfr x
  simp only [ev, ho, Option.map_eq_some_iff] at h
  obtain ⟨cs, hc, rfl⟩ := h
  have h2 := cells_rel hx hc
  refine fits_push (w' := w.alloc (.cells (a.eval x).cells t)) (nx := .value (.pointer (some ⟨w.heap.size, 0, none⟩))) hB ?_ rfl rfl ⟨rfl, rfl, rfl⟩ (fun j _ hj => by omega) h2 (rest := []) (by simp) (fun _ _ => ?_)
  · simp [execOp, ho, Instr.box, newVar, newRow]
  · exact .ptr B.length 0 _ ⟨w.heap.size, 0, 0, cs.length⟩ (last_place hB _) (by simp) (Nat.le_refl _) (.nil _)

theorem fits_store {t : TypeId} {x y : Operand} {r : CV × List Box} (ho : o.op = .store t x y) (hB : BRel N I μ B w) (hfr : ∀ i, V I μ w (fr i) (a.tmps.getD i undef))
    (h : ev P o fr B = some r) : Fits P N I μ w o a r.1 r.2 := by
  have hx := opv_rel hfr x
  have hy := opv_rel hfr y
  simp only [ev, ho] at h
  split at h
  · rename_i b off e1
    rw [e1] at hx
    split at h
    · rename_i box vs hbx hc
      split at h
      · rename_i hcond
        obtain ⟨hm, hsz, hle⟩ := hcond
        simp at h; subst h
        have hr := cells_rel hy hc
        obtain ⟨p, us, p1, p2, p3, p4⟩ := box_ptr hB hx hbx hm
        obtain ⟨p', q1, q2, q3, q4, q5, q6, q8⟩ := one_place hB hbx hm p1 (List.mem_singleton.2 rfl)
        have : p' = p := by rw [p1] at q1; simpa using q1.symm
        subst this
        obtain ⟨w1, w2, w3⟩ := hB.write hbx hm p1 hr hle
        have hlen := hr.len
        refine ⟨.skip, undef, I, μ, _, ?_, rfl, .tup (.nil _) (.nil _), w1, w2, w3⟩
        have hst := run_storeCells_cells (P := P) p'.b (p'.o + off) (a.eval y).cells.toList 0 w (fun j hj => by
            rw [Nat.add_zero]; exact (q8.cell (by omega)).1) (fun j hj => by rw [Nat.add_zero]; exact (q8.cell (by omega)).2) hr.oneCells
        rw [Nat.add_zero] at hst
        have hsz' : (a.eval y).cells.size = vs.length := by rw [hlen]; simp
        simp [execOp, ho, Instr.storeAt, p2, Instr.sureAddr, storeVar, run_sizeOf' hsz, hsz', hst]
      · cases h
    · cases h
  · cases h

/-! ### Values out of parts -/
theorem fold_set (l : List Value) : ∀ (k off : Nat) (cells : Array Value), off + k + l.length ≤ cells.size →
    ((l.zipIdx k).foldl (fun cs (x : Value × Nat) => cs.setIfInBounds (off + x.2) x.1) cells).toList = cells.toList.take (off + k) ++ l ++ cells.toList.drop (off + k + l.length) := by
  induction l with
  | nil => intro k off cells _; simp
  | cons v l ih =>
    intro k off cells h
    simp only [List.length_cons] at h
    have hl : cells.toList.length = cells.size := Array.length_toList
    rw [List.zipIdx_cons, List.foldl_cons, ih (k + 1) off _ (by rw [Array.size_setIfInBounds]; omega)]
    simp only [Array.toList_setIfInBounds, List.length_cons]
    have h1 : off + k < cells.toList.length := by omega
    rw [List.take_set, List.drop_set, if_pos (by omega)]
    have e1 : (cells.toList.take (off + (k + 1))).set (off + k) v = cells.toList.take (off + k) ++ [v] := by
      have hlen : (cells.toList.take (off + k)).length = off + k := by rw [List.length_take]; omega
      rw [show off + (k + 1) = (off + k) + 1 by omega, List.take_succ_eq_append_getElem h1, List.set_append, hlen, if_neg (by omega)]
      simp
    rw [e1, show off + (k + 1) + l.length = off + k + (l.length + 1) by omega]
    simp

theorem fill_cells (vs : Array Value) (off : Nat) (cells : Array Value) (h : off + vs.size ≤ cells.size) :
    (vs.zipIdx.foldl (fun cs (x : Value × Nat) => cs.setIfInBounds (off + x.2) x.1) cells).toList = cells.toList.take off ++ vs.toList ++ cells.toList.drop (off + vs.size) := by
  rw [← Array.foldl_toList, Array.toList_zipIdx]
  have := fold_set vs.toList 0 off cells (by simpa using h)
  simpa using this

theorem fill_rel (hfr : ∀ i, V I μ w (fr i) (a.tmps.getD i undef)) {place : Nat → Option (Nat × Nat)} : ∀ (parts : List (Nat × Operand)) (cs : List CV) (cells : Array Value) (r : List CV), R I μ w true cs cells.toList →
    fillC place cs (parts.map fun p => (p.1, opv fr p.2)) = some r → ∃ cells', Instr.fill place cells (parts.map fun p => (p.1, a.eval p.2)) = some cells' ∧ R I μ w true r cells'.toList
  | [], cs, cells, r, hr, h => by
    simp [fillC] at h; subst h
    exact ⟨cells, rfl, hr⟩
  | (i, x) :: parts, cs, cells, r, hr, h => by
    simp only [List.map_cons, fillC] at h
    split at h
    · rename_i off size vs hpl hc
      split at h
      · cases h
      · rename_i hno
        have hx := cells_rel (opv_rel hfr x) hc
        have h1 := hx.len
        have h2 := hr.len
        simp at h1 h2
        have h3 : ¬ ((a.eval x).cells.size ≠ size ∨ off + (a.eval x).cells.size > cells.size) := by omega
        have hf := fill_cells (a.eval x).cells off cells (by omega)
        obtain ⟨cells', g1, g2⟩ := fill_rel hfr parts (splice cs off vs) _ r (by
          rw [hf, ← h1]
          exact ((hr.take off).append hx).append (hr.drop _)) h
        refine ⟨cells', ?_, g2⟩
        simp only [List.map_cons, Instr.fill, hpl]
        rw [if_neg (by simpa using h3)]
        exact g1
    · cases h

theorem map_toList (parts : Array (Nat × Operand)) : (parts.map fun (x : Nat × Operand) => (x.1, a.eval x.2)).toList = parts.toList.map fun p => (p.1, a.eval p.2) := by simp

theorem mapM_sizes {fs : Array Field} (h : ∀ f ∈ fs, ∃ n, szOf P f.type = some n) :
    (fs.mapM fun f => do pure (f.offset, ← sizeOf f.type) : Sem (Array (Nat × Nat))).run P w = .ok (fs.map fun f => (f.offset, P.cellsOf f.type)) w := by
  have key : ∀ (l : List Field), (∀ f ∈ l, ∃ n, szOf P f.type = some n) → (l.mapM fun f => do pure (f.offset, ← sizeOf f.type) : Sem (List (Nat × Nat))).run P w = .ok (l.map fun f => (f.offset, P.cellsOf f.type)) w := by
    intro l
    induction l with
    | nil => intro _; rfl
    | cons f l ih =>
      intro hl
      obtain ⟨n, hn⟩ := hl f (by simp)
      have hc : P.cellsOf f.type = n := by
        unfold szOf at hn
        simp [Program.cellsOf, hn]
      have := ih (fun f hf => hl f (by simp [hf]))
      rw [List.mapM_cons]
      simp only [Sem.run_bind, run_sizeOf' hn, Result.andThen_ok, Sem.run_pure, this, List.map_cons, hc]
  have h2 := key fs.toList (fun f hf => h f (by simpa using hf))
  rw [Array.mapM_eq_mapM_toList]
  simp only [Sem.run_map, h2, Result.andThen_ok]
  congr 1
  apply Array.ext'
  simp

end
end Go.Sy
