/-
  A literal's bytes: a slice that is built and at once converted to its own type. Its row is marked at its end, so the pair is one step.
-/
import Derived.Test.YtjlfblcoghiijaaSyYi
namespace Go.Sy
set_option linter.all false
open Go.RowKit (Below)

section
variable {P : Program} {N n : Nat} {I0 I : Nat → Nat → Prop} {μ0 μ : List (List Place)} {B : List Box} {w0 w : World} {o : Oper} {a : Act} {fr : Fr} {ops : Array Oper}

theorem build_run {t : TypeId} {m : Nat} {parts : Array (Nat × Operand)} {r : CV × List Box} (ho : o.op = .buildSlice t m parts) (hfr : ∀ i, V I μ w (fr i) (a.tmps.getD i undef))
    (h : ev P o fr B = some r) : ∃ (cs : List CV) (cells' : Array Value) (e : TypeId) (esz : Nat), r = (.lst m cs true, B) ∧ elemT P t = some e ∧ szOf P e = some esz ∧ (execOp a.eval o).run P w = .ok (.value (.slice (some ⟨w.heap.size, 0, none⟩) m m)) (w.alloc (.cells cells' e)) ∧ R I μ w true cs cells'.toList := by
  simp only [ev, ho, Option.bind_eq_some_iff] at h
  obtain ⟨e, he, esz, hs, h⟩ := h
  split at h
  · cases h
  · rename_i hle
    simp only [Option.bind_eq_some_iff] at h
    obtain ⟨zs, hz, h⟩ := h
    split at h
    · cases h
    · rename_i hzl
      simp only [Option.map_eq_some_iff] at h
      obtain ⟨cs, hc, rfl⟩ := h
      obtain ⟨z, h1, _, h2⟩ := zeros_rel (I := I) (μ := μ) (w := w) hz
      have hzs : z.cells.size = esz := by have := h2.len; simp at this; omega
      have hu := elemT_some he
      have hrow := zero_row z.cells m
      rw [hzs] at hrow
      have hp := map_toList (a := a) parts
      have hcells : ∃ cells0 : Array Value, cells0 = (Array.range (m * esz)).map (fun i => (if m * esz = 0 then #[] else z.cells)[i % (if m * esz = 0 then (#[] : Array Value) else z.cells).size]!) ∧ cells0.toList = repV z.cells.toList m := by
        refine ⟨_, rfl, ?_⟩
        by_cases h0 : m * esz = 0
        · have hn0 : m = 0 := by
            rcases Nat.mul_eq_zero.1 h0 with h0 | h0
            · exact h0
            · omega
          subst hn0
          simp [repV]
        · simp only [if_neg h0, hzs]
          exact hrow
      obtain ⟨cells0, e0, e1⟩ := hcells
      obtain ⟨cells', g1, g2⟩ := fill_rel hfr parts.toList (repC zs m) cells0 cs (by rw [e1]; exact rep_rel h2 m) hc
      rw [← hp] at g1
      refine ⟨cs, cells', e, esz, rfl, he, hs, ?_, g2⟩
      · have h24 : ¬ (m * esz > 2 ^ 24) := by omega
        by_cases h0 : m * esz = 0
        · simp only [if_pos h0] at e0
          simp only [execOp, ho, Instr.buildSlice, Sem.run_bind, run_underlying hu, Result.andThen_ok, run_sizeOf' hs, if_neg h24, Sem.run_pure, if_pos h0, ← e0, g1]
          simp [newRow]
        · simp only [if_neg h0] at e0
          simp only [execOp, ho, Instr.buildSlice, Sem.run_bind, run_underlying hu, Result.andThen_ok, run_sizeOf' hs, if_neg h24, Sem.run_pure, if_neg h0, h1, ← e0, g1]
          simp [newRow]
/-- The two operations, as one. -/
def PairOk (P : Program) (n : Nat) (ops : Array Oper) (fr : Fr) (B : List Box) (o1 o2 : Oper) (K : Fr → List Box → Prop) : Prop :=
  ∃ (t : TypeId) (m : Nat) (parts : Array (Nat × Operand)) (d1 : Tmp) (e : TypeId) (cs : List CV), o1.op = .buildSlice t m parts ∧ o1.dst = some d1 ∧ o2.op = .convert t t (.tmp d1) ∧ P.underlying t = some (.slice e) ∧ P.underlying e = some (.int .u8) ∧
    dstOk n o1 = true ∧ dstOk n o2 = true ∧ wantC ops fr o1 = some true ∧ ev P o1 fr B = some (.lst m cs true, B) ∧ cs.length = m ∧ wantC ops (upd fr (some d1) (.lst m cs true)) o2 = some true ∧
    K (upd (upd fr (some d1) (.lst m cs true)) o2.dst (.lst m cs true)) B
theorem freeze_end {w : World} {cells : Array Value} {e : TypeId} : ((w.alloc (.cells cells e)).freeze ⟨w.heap.size, cells.size, none⟩ 1).heap = w.heap.push (.cells cells e (cells.size, cells.size + 1)) := by
  apply Array.ext
  · simp [World.freeze]
  · intro i h1 h2
    have hh : ((w.alloc (.cells cells e)).freeze ⟨w.heap.size, cells.size, none⟩ 1).heap[i]? = (w.heap.push (.cells cells e (cells.size, cells.size + 1)))[i]? := by
      simp only [World.freeze]
      rw [if_neg (by omega)]
      rw [Array.getElem?_modify, alloc_heap, Array.getElem?_push, Array.getElem?_push]
      by_cases hi : w.heap.size = i
      · subst hi; simp
      · rw [if_neg hi, if_neg (fun h => hi h.symm), if_neg (fun h => hi h.symm)]
    rw [Array.getElem?_eq_getElem h1, Array.getElem?_eq_getElem h2] at hh
    simpa using hh
theorem pair_sound {o1 o2 : Oper} {K : Fr → List Box → Prop} {Q' : Exit → Act → World → Prop} {rest : List Oper} (hs : St N n I0 μ0 w0 fr B a I μ w) (h : PairOk P n ops fr B o1 o2 K)
    (hk : ∀ fr' B' a' I' μ' w', K fr' B' → St N n I0 μ0 w0 fr' B' a' I' μ' w' → wpListIn (freeF none) 0 P ops Q' rest a' w') : wpListIn (freeF none) 0 P ops Q' (o1 :: o2 :: rest) a w := by
  obtain ⟨t, m, parts, d1, e, cs, h1, hd1, h2, h3, h4, h5, h6, h7, h8, h9, h10, h11⟩ := h
  have hd1' : ∀ t, o1.dst = some t → t < n := fun t ht => by simpa [dstOk, ht] using h5
  have hd2' : ∀ t, o2.dst = some t → t < n := fun t ht => by simpa [dstOk, ht] using h6
  obtain ⟨cs', cells, e', esz, hr, he, _, hrun, hrel⟩ := build_run h1 hs.frame h8
  simp only [Prod.mk.injEq, CV.lst.injEq, and_true, true_and] at hr
  subst hr
  have hsz : cells.size = m := by have := hrel.len; simp at this; omega
  -- behind the first one
  obtain ⟨b1, b2⟩ := hs.box.fresh (w' := w.alloc (.cells cells e')) (cells := cells) (ty := e') (fz := (0, 0)) rfl
  have st1 : Step N I μ w (.lst m cs true) (.slice (some ⟨w.heap.size, 0, none⟩) m m) B _ μ (w.alloc (.cells cells e')) := ⟨by
    refine .lst m true w.heap.size 0 m (hrel.ext b2.toKeep) (fun j v hj => ⟨?_, .inr rfl⟩) (Nat.le_refl _) (fun _ => rfl) (.nil _)
    simp only [World.cell?, push_new (alloc_heap w _), Nat.zero_add]
    simpa using hj, b1, b2, Below.of_heap hs.box.low rfl rfl rfl rfl⟩
  have hs1 := hs.put st1 (d := o1.dst) hd1'
  -- behind both
  obtain ⟨c1, c2⟩ := hs.box.fresh (w' := (w.alloc (.cells cells e')).freeze ⟨w.heap.size, cells.size, none⟩ 1) (cells := cells) (ty := e') (fz := (cells.size, cells.size + 1)) freeze_end
  have st2 : Step N I μ w (.lst m cs true) (.slice (some ⟨w.heap.size, 0, none⟩) m m) B _ μ ((w.alloc (.cells cells e')).freeze ⟨w.heap.size, cells.size, none⟩ 1) := ⟨by
    refine .lst m true w.heap.size 0 m (hrel.ext c2.toKeep) (fun j v hj => ⟨?_, .inr rfl⟩) (Nat.le_refl _) (fun _ => rfl) (.nil _)
    simp only [World.cell?, push_new freeze_end, Nat.zero_add]
    simpa using hj, c1, c2, Below.of_heap hs.box.low freeze_end rfl rfl rfl⟩
  have hs2 := hs.put st2 (d := o1.dst) hd1'
  have hs3 := hs2.put (⟨st2.val, st2.box, .refl _ _ _, Below.refl _ _⟩ : Step N _ μ ((w.alloc (.cells cells e')).freeze ⟨w.heap.size, cells.size, none⟩ 1) (.lst m cs true) (.slice (some ⟨w.heap.size, 0, none⟩) m m) B _ μ ((w.alloc (.cells cells e')).freeze ⟨w.heap.size, cells.size, none⟩ 1)) (d := o2.dst) hd2'
  rw [hd1] at hs3 hs1
  unfold wpListIn
  rw [want_sound hs.frame h7, if_pos rfl]
  refine wp_free (by simp [noDefer, h1]) ?_
  unfold Oper.wp
  rw [hrun, Oper.upon_value, hd1]
  unfold wpListIn
  rw [want_sound hs1.frame h10, if_pos rfl]
  refine wp_free (by simp [noDefer, h2]) ?_
  unfold Oper.wp
  have hev : (a.put (some d1) (.slice (some ⟨w.heap.size, 0, none⟩) m m)).eval (.tmp d1) = .slice (some ⟨w.heap.size, 0, none⟩) m m := by
    have := put_getD a (some d1) (.slice (some ⟨w.heap.size, 0, none⟩) m m) (fun t ht => by rw [hs.size]; exact hd1' t (hd1.trans ht)) d1
    rw [if_pos rfl] at this
    exact this
  have hsh : (w.alloc (.cells cells e')).shape? w.heap.size = some (e', cells.size) := by
    simp only [World.shape?, push_new (alloc_heap w _)]
  have hrun2 : (execOp (a.put (some d1) (.slice (some ⟨w.heap.size, 0, none⟩) m m)).eval o2).run P (w.alloc (.cells cells e')) = .ok (.value (.slice (some ⟨w.heap.size, 0, none⟩) m m)) ((w.alloc (.cells cells e')).freeze ⟨w.heap.size, cells.size, none⟩ 1) := by
    simp only [execOp, h2, convert, hev, Sem.run_bind, run_underlying h3, Result.andThen_ok, run_underlying h4, beq_self_eq_true, markStringish, run_shape, hsh, Sem.run_pure]
    rfl
  rw [hrun2, Oper.upon_value]
  exact hk _ _ _ _ _ _ h11 hs3

/-- A region that holds such a pair behind the operations l1, then the end. -/
theorem AWc_pair {id : Nat} {l1 l2 : List Oper} {o1 o2 : Oper} {Q : Exit → Fr → List Box → Prop} {ops : List Oper} (he : ops = l1 ++ o1 :: o2 :: l2) (n1 : l1.all noDefer = true) (n2 : l2.all noDefer = true)
    (h : WPo P n ops.toArray (fun fr1 B1 => PairOk P n ops.toArray fr1 B1 o1 o2 fun fr2 B2 => WPo P n ops.toArray (fun fr B => Q .normal fr B) l2 fr2 B2) l1 fr B) : AWc P n (.region id ops.toArray false) Q fr B := by
  intro N I0 μ0 w0 I μ w a Q' hs hq
  refine (wpIn_wide (n := 0)).1 (wpIn_region_list (F := freeF none) ?_)
  rw [show ops.toArray.toList = l1 ++ o1 :: o2 :: l2 by simpa using he]
  refine WPo_in (o1 :: o2 :: l2) l1 fr B n1 h I μ w a hs fun fr1 B1 a1 I1 μ1 w1 hp hs1 => ?_
  refine pair_sound hs1 hp fun fr2 B2 a2 I2 μ2 w2 hK hs2 => ?_
  have := WPo_in (r := none) (Q' := Q') [] l2 _ _ n2 hK I2 μ2 w2 a2 hs2 fun fr' B' a' I' μ' w' hQ hst => hq _ _ _ _ _ _ _ hQ hst
  rw [List.append_nil] at this
  exact this
/-- Code of which the last part but the return is not walked by WPc. -/
theorem acall_seq4 {f : FuncId} {fn : Func} {x y z u v : Code} {args : List CV} {B : List Box} {Q : CV → List Box → Prop} (hm : P.follows .mixedOrders = true) (hf : P.funcs[f]? = some fn) (hb : fn.body = some (.seq x (.seq y (.seq z (.seq u v))))) (hc : callable P f = true)
    (hd : drawsOk x = true ∧ drawsOk y = true ∧ drawsOk z = true ∧ drawsOk v = true) (hn : args.length ≤ fn.ntmps) (Iv : Fr → List Box → Prop)
    (h1 : WPc P fn.ntmps x (thenC (fun fr B => WPc P fn.ntmps y (thenC (fun fr B => WPc P fn.ntmps z (thenC Iv fun _ _ _ => False) fr B) fun _ _ _ => False) fr B) fun _ _ _ => False) (frOf args) B)
    (h2 : ∀ fr B, Iv fr B → AWc P fn.ntmps u (thenC (fun fr B => WPc P fn.ntmps v (retC P fn.results.toList Q) fr B) fun _ _ _ => False) fr B) : ACall P f args B Q := by
  refine ⟨hc, fun N I μ w vs hB hv => call_intro hf hb hB hv hn fun a Q' hst hq => ?_⟩
  refine wp_seq (WPc_sound hm x _ _ _ hd.1 h1 N I μ w I μ w a _ hst fun ex fr1 B1 a1 I1 μ1 w1 hQ1 hs1 => ?_)
  cases ex with
  | normal =>
    refine wp_seq (WPc_sound hm y _ _ _ hd.2.1 hQ1 N I μ w I1 μ1 w1 a1 _ hs1 fun ex fr2 B2 a2 I2 μ2 w2 hQ2 hs2 => ?_)
    cases ex with
    | normal =>
      refine wp_seq (WPc_sound hm z _ _ _ hd.2.2.1 hQ2 N I μ w I2 μ2 w2 a2 _ hs2 fun ex fr3 B3 a3 I3 μ3 w3 hQ3 hs3 => ?_)
      cases ex with
      | normal =>
        refine wp_seq (h2 _ _ hQ3 N I μ w I3 μ3 w3 a3 _ hs3 fun ex fr4 B4 a4 I4 μ4 w4 hQ4 hs4 => ?_)
        cases ex with
        | normal => exact WPc_sound hm v _ _ _ hd.2.2.2 hQ4 N I μ w I4 μ4 w4 a4 _ hs4 hq
        | _ => exact hQ4.elim
      | _ => exact hQ3.elim
    | _ => exact hQ2.elim
  | _ => exact hQ1.elim
end
end Go.Sy
