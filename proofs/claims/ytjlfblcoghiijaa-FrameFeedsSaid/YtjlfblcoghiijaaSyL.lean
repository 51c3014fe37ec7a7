/-
  Copies, lengths, conversions; all operations together.
-/
import Derived.Test.YtjlfblcoghiijaaSyK
namespace Go.Sy
set_option linter.all false
open Go.RowKit (Below)

section
variable {P : Program} {N : Nat} {I : Nat → Nat → Prop} {μ : List (List Place)} {B : List Box} {w : World} {o : Oper} {a : Act} {fr : Fr} {c : CV}

def lenC : CV → Option Nat
  | .nilS => some 0
  | .lst n _ _ => some n
  | .view _ _ n _ _ => some n
  | .cview _ _ n _ _ => some n
  | _ => none

theorem lenC_rel {c : CV} {v : Value} {n : Nat} (h : V I μ w c v) (hn : lenC c = some n) : ∃ A cap, v = .slice A n cap ∧ n ≤ cap := by
  unfold lenC at hn
  split at hn <;> simp at hn <;> subst hn
  · exact ⟨none, 0, h.nilS_inv, Nat.le_refl _⟩
  · rcases h.lst_inv with ⟨b, o, cap, vs, h1, _, _, h2, _⟩ | ⟨A, h1, rfl, _⟩
    · exact ⟨_, cap, h1, h2⟩
    · exact ⟨A, 0, h1, Nat.le_refl _⟩
  · rcases h.view_inv with ⟨ps, p, cap, h1, _, _, _, _, h2, _⟩ | ⟨A, h1, rfl, _⟩
    · exact ⟨_, cap, h1, h2⟩
    · exact ⟨A, 0, h1, Nat.le_refl _⟩
  · rcases h.cview_inv with ⟨ps, p, h1, _, _, _, _, h2, _⟩ | ⟨A, h1, rfl, _, _⟩
    · exact ⟨_, _, h1, h2⟩
    · exact ⟨A, 0, h1, Nat.le_refl _⟩

/-- Cells are written into a slice: what the model's 'storeCells' leaves. -/
theorem write_rel (hB : BRel N I μ B w) {d : CV} {v : Value} {n dn : Nat} {cs : List CV} {vs : List Value} {B' : List Box} (h : V I μ w d v) (hd : lenC d = some dn) (hn : n ≤ dn) (hw : writeC B d n cs = some B') (hr : R I μ w true cs vs) (h0 : n = 0 → vs = []) :
    ∃ A cap w', v = .slice A dn cap ∧ (∀ ad, A = some ad → (storeCells ad vs).run P w = .ok () w') ∧ (A = none → w' = w ∧ vs = []) ∧ BRel N I μ B' w' ∧ Ext I μ w I μ w' ∧ Below N w w' := by
  obtain ⟨A, cap, hv, _⟩ := lenC_rel h hd
  unfold writeC at hw
  split at hw
  · rename_i hz
    have hvs := h0 hz
    subst hvs
    have : B' = B := by
      split at hw <;> first | (simp at hw; exact hw.symm) | cases hw
    subst this
    exact ⟨A, cap, w, hv, fun ad _ => rfl, fun _ => ⟨rfl, rfl⟩, hB, .refl _ _ _, Below.refl _ _⟩
  · rename_i hz
    split at hw
    · rename_i b off m cap0 sz
      split at hw
      · rename_i box hb
        split at hw
        · rename_i hcond
          simp at hw; subst hw
          rcases (V.cview_view hB h).view_inv with ⟨ps, p, cap', h1, h2, h3, _⟩ | ⟨A', _, h1, _⟩
          · obtain ⟨p', q1, q2, q3, q4, q5, q6, q8⟩ := one_place hB hb hcond.1 h2 h3
            have hps : ps = [p'] := by rw [h2] at q1; simpa using q1
            subst hps
            have : p = p' := by simpa using h3
            subst this
            obtain ⟨g1, g2, g3⟩ := hB.write hb hcond.1 q1 hr hcond.2
            rw [h1] at hv
            simp only [Value.slice.injEq] at hv
            obtain ⟨hA, _, _⟩ := hv
            have hlen := hr.len
            refine ⟨some ⟨p.b, p.o + (off - p.lo), none⟩, cap', _, by rw [h1]; simp_all, fun ad had => ?_, fun hx => (by cases hx), g1, g2, g3⟩
            cases had
            have hst := run_storeCells_cells (P := P) p.b (p.o + off) vs 0 w (fun j hj => by rw [Nat.add_zero]; exact (q8.cell (by omega)).1) (fun j hj => by rw [Nat.add_zero]; exact (q8.cell (by omega)).2) hr.oneCells
            rw [Nat.add_zero] at hst
            rw [q2, Nat.sub_zero]
            exact hst
          · simp [lenC] at hd; omega
        · cases hw
      · cases hw
    · rename_i b off m sz full
      split at hw
      · rename_i box hb
        split at hw
        · rename_i hcond
          simp at hw; subst hw
          rcases h.view_inv with ⟨ps, p, cap', h1, h2, h3, _⟩ | ⟨A', _, h1, _⟩
          · obtain ⟨p', q1, q2, q3, q4, q5, q6, q8⟩ := one_place hB hb hcond.1 h2 h3
            have hps : ps = [p'] := by rw [h2] at q1; simpa using q1
            subst hps
            have : p = p' := by simpa using h3
            subst this
            obtain ⟨g1, g2, g3⟩ := hB.write hb hcond.1 q1 hr hcond.2
            rw [h1] at hv
            simp only [Value.slice.injEq] at hv
            obtain ⟨hA, _, _⟩ := hv
            have hlen := hr.len
            refine ⟨some ⟨p.b, p.o + (off - p.lo), none⟩, cap', _, by rw [h1]; simp_all, fun ad had => ?_, fun hx => (by cases hx), g1, g2, g3⟩
            cases had
            have hst := run_storeCells_cells (P := P) p.b (p.o + off) vs 0 w (fun j hj => by rw [Nat.add_zero]; exact (q8.cell (by omega)).1) (fun j hj => by rw [Nat.add_zero]; exact (q8.cell (by omega)).2) hr.oneCells
            rw [Nat.add_zero] at hst
            rw [q2, Nat.sub_zero]
            exact hst
          · simp [lenC] at hd; omega
        · cases hw
      · cases hw
    · cases hw

theorem run_firstCells_take (hB : BRel N I μ B w) {c : CV} {v : Value} {esz n k : Nat} {cs : List CV} (h : V I μ w c v) (hr : srcC B esz c = some (n, cs)) (hk : k ≤ n) :
    (∀ w' : World, (Builtin.lenOf v).run P w' = .ok n w') ∧ ∃ vs, R I μ w true (cs.take (k * esz)) vs ∧ (Builtin.firstCells esz k v).run P w = .ok vs.toArray w ∧ (k = 0 → vs = []) := by
  unfold srcC at hr
  split at hr
  · rename_i s
    split at hr
    · rename_i h1
      subst h1
      simp at hr
      obtain ⟨rfl, rfl⟩ := hr
      rw [h.str_inv]
      have hl : ∀ l : List UInt8, R I μ w true (l.map byteC) (l.map fun b => Value.int .u8 b.toNat) := fun l => by
        induction l with
        | nil => exact .nil _
        | cons b l ih => exact .int _ _ ih
      refine ⟨fun w' => by simp [Builtin.lenOf, ByteArray.size], (s.take k).map (fun b => Value.int .u8 b.toNat), ?_, ?_, fun hk => by simp [hk]⟩
      · rw [Nat.mul_one, ← List.map_take]; exact hl _
      · simp [Builtin.firstCells]
    · cases hr
  · obtain ⟨A, cap, vs, rfl, h1, h2, h3, h4⟩ := read_rel hB h hr
    have hkn : k * esz ≤ n * esz := Nat.mul_le_mul_right _ hk
    have hl2 : (vs.take (k * esz)).length = k * esz := by rw [List.length_take]; omega
    refine ⟨fun _ => rfl, vs.take (k * esz), h2.take _, run_firstCells' hl2 ?_, fun hk => by simp [hk]⟩
    rcases h4 with rfl | ⟨b, o, h5, h6⟩
    · exact .inl (by simp)
    · refine .inr ⟨b, o, h5, fun j u hj => ?_⟩
      rw [List.getElem?_take] at hj
      split at hj
      · exact h6 j u hj
      · cases hj

theorem fits_copy {t tx : TypeId} {d x : Operand} {r : CV × List Box} (ho : o.op = .call { callee := .builtin .copy, args := #[d, x], argTypes := #[t, tx] }) (hB : BRel N I μ B w) (hfr : ∀ i, V I μ w (fr i) (a.tmps.getD i undef))
    (h : builtinC P o fr B .copy [t, tx] [opv fr d, opv fr x] = some r) : Fits P N I μ w o a r.1 r.2 := by
  have hd := opv_rel hfr d
  have hx := opv_rel hfr x
  simp only [builtinC, Option.bind_eq_some_iff, Option.map_eq_some_iff] at h
  obtain ⟨e, he, esz, hs, ⟨m, news⟩, hsrc, dn, hdn, B', hw, rfl⟩ := h
  have hdn' : lenC (opv fr d) = some dn := hdn
  have hu := elemT_some he
  obtain ⟨hlen, vs, h1, h2, h3⟩ := run_firstCells_take (P := P) (k := min m dn) hB hx hsrc (Nat.min_le_left _ _)
  obtain ⟨A, cap, w', hv, h4, h5, h6, h7, h8⟩ := write_rel (P := P) hB hd hdn' (Nat.min_le_right m dn) hw h1 h3
  refine ⟨_, .int .i64 (min m dn : Nat), I, μ, w', run_call_builtin ho (v := .int .i64 (min m dn : Nat)) ?_, rfl, .int _ _ (.nil _), h6, h7, h8⟩
  have hmin : Nat.min m dn = min m dn := rfl
  cases A with
  | none =>
    obtain ⟨rfl, hvs⟩ := h5 rfl
    simp [builtin, hv, Builtin.copy_, run_underlying hu, hlen, run_sizeOf' hs, hmin, h2, goInt]
  | some ad =>
    have := h4 ad rfl
    simp [builtin, hv, Builtin.copy_, run_underlying hu, hlen, run_sizeOf' hs, hmin, h2, this, goInt]

theorem fits_clear {t : TypeId} {d : Operand} {r : CV × List Box} (ho : o.op = .call { callee := .builtin .clear, args := #[d], argTypes := #[t] }) (hB : BRel N I μ B w) (hfr : ∀ i, V I μ w (fr i) (a.tmps.getD i undef))
    (h : builtinC P o fr B .clear [t] [opv fr d] = some r) : Fits P N I μ w o a r.1 r.2 := by
  have hd := opv_rel hfr d
  simp only [builtinC, Option.bind_eq_some_iff] at h
  obtain ⟨e, he, zs, hz, esz, hs, h⟩ := h
  split at h
  · cases h
  · rename_i hzl
    simp only [Option.bind_eq_some_iff, Option.map_eq_some_iff] at h
    obtain ⟨dn, hdn, B', hw, rfl⟩ := h
    have hdn' : lenC (opv fr d) = some dn := hdn
    have hu := elemT_some he
    obtain ⟨z, h1, _, h2⟩ := zeros_rel (I := I) (μ := μ) (w := w) hz
    have hzr := zero_row z.cells dn
    obtain ⟨A, cap, w', hv, h4, h5, h6, h7, h8⟩ := write_rel (P := P) hB hd hdn' (Nat.le_refl dn) hw (rep_rel h2 dn) (fun h0 => by simp [h0, repV])
    refine ⟨_, .tuple #[], I, μ, w', run_call_builtin ho (v := .tuple #[]) ?_, rfl, .tup (bs := []) (.nil _) (.nil _), h6, h7, h8⟩
    cases dn with
    | zero =>
      have hw' : w' = w := by
        cases A with
        | none => exact (h5 rfl).1
        | some ad => have := h4 ad rfl; simp [repV, storeCells] at this; exact this.symm
      subst hw'
      cases A <;> simp [builtin, hv, Builtin.clear_, run_underlying hu]
    | succ k =>
      cases A with
      | none =>
        obtain ⟨rfl, hvs⟩ := h5 rfl
        simp [builtin, hv, Builtin.clear_, run_underlying hu]
      | some ad =>
        have := h4 ad rfl
        have e1 : (Builtin.zeroCells z.cells (k + 1)).toList = repV z.cells.toList (k + 1) := hzr
        simp [builtin, hv, Builtin.clear_, run_underlying hu, h1, e1, this]

theorem bytesC_rel : ∀ {cs : List CV} {l : List UInt8} {vs : List Value}, R I μ w true cs vs → bytesC cs = some l → ∃ ns : List Int, vs = ns.map (Value.int .u8) ∧ l = ns.map fun n => UInt8.ofNat n.toNat
  | [], l, vs, h, hb => by
    simp [bytesC] at hb; subst hb
    rw [R.nil_iff] at h
    exact ⟨[], h, rfl⟩
  | c :: cs, l, vs, h, hb => by
    unfold bytesC at hb
    split at hb
    · simp_all
    · rename_i n l' heq
      simp only [List.cons.injEq] at heq
      obtain ⟨rfl, rfl⟩ := heq
      simp only [Option.map_eq_some_iff] at hb
      obtain ⟨l2, h2, rfl⟩ := hb
      obtain ⟨v, vs', rfl, h3, _, h4⟩ := R.cons_iff.1 h
      obtain ⟨ns, rfl, rfl⟩ := bytesC_rel h4 h2
      exact ⟨n :: ns, by simp [h3.int_inv], rfl⟩
    · cases hb

theorem foldl_push (ns : List Int) (s : ByteArray) : ns.foldl (fun r n => r.push (UInt8.ofNat n.toNat)) s = ⟨(s.data.toList ++ ns.map fun n => UInt8.ofNat n.toNat).toArray⟩ := by
  induction ns generalizing s with
  | nil => simp
  | cons n ns ih =>
    rw [List.foldl_cons, ih]
    simp [ByteArray.push]

theorem fits_convert {src dst : TypeId} {x : Operand} {r : CV × List Box} (ho : o.op = .convert src dst x) (hB : BRel N I μ B w) (hfr : ∀ i, V I μ w (fr i) (a.tmps.getD i undef))
    (h : ev P o fr B = some r) : Fits P N I μ w o a r.1 r.2 := by
  have hx := opv_rel hfr x
  simp only [ev, ho] at h
  split at h
  · rename_i k n d k' e1 hs hd
    rw [e1] at hx
    have hx := hx.int_inv
    simp at h; subst h
    refine fits_value hB (v := .int k' (k'.wrap n)) ?_ (.int _ _ (.nil _))
    simp only [execOp, ho, convert, hx, Sem.run_bind, run_underlying hs, run_underlying hd, Result.andThen_ok]
    cases d <;> rfl
  · rename_i s d e1 hs hd
    rw [e1] at hx
    have hx := hx.str_inv
    simp at h; subst h
    refine fits_value hB (v := .string ⟨s.toArray⟩) ?_ (.str _ (.nil _))
    simp only [execOp, ho, convert, hx, Sem.run_bind, run_underlying hs, run_underlying hd, Result.andThen_ok]
    cases d <;> rfl
  · rename_i s d e e1 hs hd
    rw [e1] at hx
    have hx := hx.str_inv
    split at h
    · rename_i he
      simp at h; subst h
      have hl : ∀ l : List UInt8, R I μ w true (l.map byteC) (l.map fun b => Value.int .u8 b.toNat) := fun l => by
        induction l with
        | nil => exact .nil _
        | cons b l ih => exact .int _ _ ih
      have hcap := grownCap_ge w s.length 0 e
      obtain ⟨cap, hcp⟩ : ∃ cap, cap = grownCap w s.length 0 e := ⟨_, rfl⟩
      rw [← hcp] at hcap
      obtain ⟨cells, hce⟩ : ∃ cells : Array Value, cells = (s.map fun b => Value.int .u8 (b.toNat : Int)).toArray ++ Array.replicate (cap - s.length) (.int .u8 0) := ⟨_, rfl⟩
      have hcl : cells.size = cap := by rw [hce]; simp; omega
      have hrun : (Conv.stringToBytes e ⟨s.toArray⟩).run P w = .ok (.slice (some ⟨w.heap.size, 0, none⟩) s.length cap) ((w.drew.alloc (.cells cells e)).freeze ⟨w.heap.size, cap, none⟩ 1) := by
        have e2 : (⟨s.toArray⟩ : ByteArray).size = s.length := by simp [ByteArray.size]
        have hsh : (w.drew.alloc (.cells cells e)).shape? w.heap.size = some (e, cap) := by
          have hph : (w.drew.alloc (.cells cells e)).heap[w.heap.size]? = some (.cells cells e) := push_new (w := w) rfl
          simp only [World.shape?, hph, hcl]
        simp only [Conv.stringToBytes, Sem.run_bind, run_choose, Question.forced, e2]
        simp only [Bool.false_eq_true, if_false, Result.andThen_ok]
        rw [show (Question.appendCap s.length 0 e).cut (w.tape w.drawn (.appendCap s.length 0 e)) = cap from hcp.symm]
        have e3 : (Array.map (fun b : UInt8 => Value.int .u8 (b.toNat : Int)) s.toArray ++ Array.replicate (cap - s.length) (.int .u8 0)) = cells := by rw [hce]; simp
        simp only [newRow, Sem.run_bind, run_newObj, Result.andThen_ok, Sem.run_pure, markStringish, run_shape, e3]
        have : ({ w with drawn := w.drawn + 1 } : World).heap.size = w.heap.size := rfl
        have hw2 : ({ ({ w with drawn := w.drawn + 1 } : World) with heap := ({ w with drawn := w.drawn + 1 } : World).heap.push (.cells cells e) } : World) = w.drew.alloc (.cells cells e) := rfl
        rw [hw2]
        simp only [hsh]
        rfl
      have hheap : ((w.drew.alloc (.cells cells e)).freeze ⟨w.heap.size, cap, none⟩ 1).heap = w.heap.push (.cells cells e (cap, cap + 1)) := by
        apply Array.ext
        · simp [World.freeze]
        · intro i h1 h2
          have hh : ((w.drew.alloc (.cells cells e)).freeze ⟨w.heap.size, cap, none⟩ 1).heap[i]? = (w.heap.push (.cells cells e (cap, cap + 1)))[i]? := by
            simp only [World.freeze]
            rw [if_neg (by omega)]
            rw [Array.getElem?_modify, alloc_heap, drew_heap, Array.getElem?_push, Array.getElem?_push]
            by_cases hi : w.heap.size = i
            · subst hi; simp
            · rw [if_neg hi, if_neg (fun h => hi h.symm), if_neg (fun h => hi h.symm)]
          rw [Array.getElem?_eq_getElem h1, Array.getElem?_eq_getElem h2] at hh
          simpa using hh
      refine fits_push (w' := (w.drew.alloc (.cells cells e)).freeze ⟨w.heap.size, cap, none⟩ 1) (nx := .value (.slice (some ⟨w.heap.size, 0, none⟩) s.length cap)) (rest := List.replicate (cap - s.length) (.int .u8 0)) hB ?_ rfl hheap
        ⟨rfl, rfl, rfl⟩ (fun j hj hx => by simp only at hx; omega) (hl s) (by rw [hce]; simp) (fun _ hf => ?_)
      · simp only [execOp, ho, convert, hx, Sem.run_bind, run_underlying hs, run_underlying hd, Result.andThen_ok]
        cases d <;> simp [run_underlying he, hrun]
      · have hv := R.view (I := I) (one := false) B.length 0 s.length 1 false [⟨w.heap.size, 0, 0, (s.map byteC).length⟩] ⟨w.heap.size, 0, 0, (s.map byteC).length⟩ cap (last_place hB _) (List.mem_singleton.2 rfl) (Nat.le_refl _) (by simp) hcap (by simp)
          (by simpa [hcl] using hf) (.nil _)
        simpa using hv
    · cases h
  · rename_i e hs hd hn
    split at h
    · rename_i he
      simp only [Option.bind_eq_some_iff, Option.map_eq_some_iff] at h
      obtain ⟨⟨n, cs⟩, hr, l, hb, rfl⟩ := h
      obtain ⟨A, cap, vs, h1, _, h2, h3, h4⟩ := read_rel hB hx hr
      obtain ⟨ns, rfl, rfl⟩ := bytesC_rel h2 hb
      refine fits_value hB (v := .string ⟨(ns.map fun n => UInt8.ofNat n.toNat).toArray⟩) ?_ (.str _ (.nil _))
      have hb2 : (Conv.bytesToString (.slice A n cap)).run P w = .ok (.string ⟨(ns.map fun n => UInt8.ofNat n.toNat).toArray⟩) w := by
        have hlen : n = ns.length := by simpa using h3.symm
        cases A with
        | none =>
          rcases h4 with h4 | ⟨_, _, h5, _⟩
          · have : ns = [] := by simpa using h4
            subst this
            simp [Conv.bytesToString]
            rfl
          · cases h5
        | some ad =>
          have hload : (loadCells ad n).run P w = .ok (ns.map (Value.int .u8)).toArray w := by
            have := run_firstCells' (P := P) (w := w) (size := 1) (n := n) (m := n) (A := some ad) (cap := cap) (vs := ns.map (Value.int .u8)) (by simpa using h3) h4
            simpa [Builtin.firstCells] using this
          rw [run_bytesToString w ad n cap ns hload, foldl_push]
          simp
      simp only [execOp, ho, h1, Sem.run_bind, run_convert_bytes_string w src dst e A n cap hs he hd, hb2, Result.andThen_ok, Sem.run_pure]
    · cases h
  · simp only [Option.map_eq_some_iff] at h
    obtain ⟨c, hc, rfl⟩ := h
    exact fits_pure hB hfr hc


theorem fits_len {t : TypeId} {x : Operand} {r : CV × List Box} (ho : o.op = .call { callee := .builtin .len, args := #[x], argTypes := #[t] }) (hB : BRel N I μ B w) (hfr : ∀ i, V I μ w (fr i) (a.tmps.getD i undef))
    (h : builtinC P o fr B .len [t] [opv fr x] = some r) : Fits P N I μ w o a r.1 r.2 := by
  have hx := opv_rel hfr x
  have key : ∀ n : Nat, lenC (opv fr x) = some n → (elemT P t).isSome → Fits P N I μ w o a (.int .i64 n) B := by
    intro n hn he
    obtain ⟨e, he⟩ := Option.isSome_iff_exists.1 he
    have hu := elemT_some he
    obtain ⟨A, cap, hv, _⟩ := lenC_rel hx hn
    exact fits_value hB (run_call_builtin ho (v := .int .i64 n) (by simp [builtin, hv, Builtin.len_, run_underlying hu, goInt])) (.int _ _ (.nil _))
  simp only [builtinC] at h
  split at h
  · rename_i e1
    split at h
    · rename_i he; simp at h; subst h; exact key 0 (by rw [e1]; rfl) he
    · cases h
  · rename_i e1
    split at h
    · rename_i he; simp at h; subst h; exact key _ (by rw [e1]; rfl) he
    · cases h
  · rename_i e1
    split at h
    · rename_i he; simp at h; subst h; exact key _ (by rw [e1]; rfl) he
    · cases h
  · rename_i e1
    split at h
    · rename_i he; simp at h; subst h; exact key _ (by rw [e1]; rfl) he
    · cases h
  · rename_i s e1
    split at h
    · rename_i hu
      simp at h; subst h
      rw [e1] at hx
      have hx := hx.str_inv
      have e2 : (⟨s.toArray⟩ : ByteArray).size = s.length := by simp [ByteArray.size]
      exact fits_value hB (run_call_builtin ho (v := .int .i64 s.length) (by simp [builtin, hx, Builtin.len_, run_underlying hu, goInt, e2])) (.int _ _ (.nil _))
    · cases h
  · split at h
    · rename_i n e hu
      simp at h; subst h
      exact fits_value hB (run_call_builtin ho (v := .int .i64 n) (by simp [builtin, Builtin.len_, run_underlying hu, goInt])) (.int _ _ (.nil _))
    · cases h

theorem fits_cap {t : TypeId} {x : Operand} {r : CV × List Box} (ho : o.op = .call { callee := .builtin .cap, args := #[x], argTypes := #[t] }) (hB : BRel N I μ B w) (hfr : ∀ i, V I μ w (fr i) (a.tmps.getD i undef))
    (h : builtinC P o fr B .cap [t] [opv fr x] = some r) : Fits P N I μ w o a r.1 r.2 := by
  have hx := opv_rel hfr x
  simp only [builtinC] at h
  split at h
  · rename_i b off n c sz e1
    rw [e1] at hx
    split at h
    · rename_i he
      obtain ⟨e, he⟩ := Option.isSome_iff_exists.1 he
      have hu := elemT_some he
      simp at h; subst h
      rcases hx.cview_inv with ⟨ps, p, h1, _⟩ | ⟨A, h1, rfl, rfl, _⟩
      · exact fits_value hB (run_call_builtin ho (v := .int .i64 c) (by simp [builtin, h1, Builtin.cap_, run_underlying hu, goInt])) (.int _ _ (.nil _))
      · exact fits_value hB (run_call_builtin ho (v := .int .i64 (0 : Nat)) (by simp [builtin, h1, Builtin.cap_, run_underlying hu, goInt])) (.int _ _ (.nil _))
    · cases h
  · simp only [Option.map_eq_some_iff] at h
    obtain ⟨c, hc, rfl⟩ := h
    exact fits_pure hB hfr hc

/-- EVERY OPERATION of the canonical machine is the model's. -/
theorem ev_sound {r : CV × List Box} (hB : BRel N I μ B w) (hfr : ∀ i, V I μ w (fr i) (a.tmps.getD i undef)) (h : ev P o fr B = some r) : Fits P N I μ w o a r.1 r.2 := by
  have h' := h
  cases ho : o.op with
  | move x =>
    simp only [ev, ho, Option.some.injEq] at h; subst h
    exact fits_value hB (by simp [execOp, ho]) (opv_rel hfr x)
  | assign x =>
    simp only [ev, ho, Option.some.injEq] at h; subst h
    exact fits_value hB (by simp [execOp, ho]) (opv_rel hfr x)
  | pick x y z =>
    have hx := opv_rel hfr x
    simp only [ev, ho] at h
    split at h
    · rename_i t e1
      rw [e1] at hx
      have hx := hx.bool_inv
      simp at h; subst h
      cases t
      · exact fits_value hB (v := a.eval z) (by simp [execOp, ho, hx, asBool]) (opv_rel hfr z)
      · exact fits_value hB (v := a.eval y) (by simp [execOp, ho, hx, asBool]) (opv_rel hfr y)
    · cases h
  | binOp op t x y yt =>
    simp only [ev, ho] at h
    split at h
    · rename_i r' hr
      simp only [Option.map_eq_some_iff] at h
      obtain ⟨c, rfl, rfl⟩ := h
      exact fits_bin ho hB hfr hr
    · split at h
      · rename_i c hc
        simp at h; subst h
        exact fits_aggEq ho hB hfr hc
      simp only [Option.map_eq_some_iff] at h
      obtain ⟨c, hc, rfl⟩ := h
      exact fits_pure hB hfr hc
  | unOp op t x =>
    simp only [ev, ho] at h
    split at h
    · rename_i r' hr
      simp only [Option.map_eq_some_iff] at h
      obtain ⟨c, rfl, rfl⟩ := h
      exact fits_un ho hB hfr hr
    · simp only [Option.map_eq_some_iff] at h
      obtain ⟨c, hc, rfl⟩ := h
      exact fits_pure hB hfr hc
  | convert s d x => exact fits_convert ho hB hfr h'
  | extract x i => exact fits_extract ho hB hfr h'
  | field t x i => exact fits_field ho hB hfr h'
  | index t x i => exact fits_index ho hB hfr h'
  | build t ps => exact fits_build ho hB hfr h'
  | buildSlice t n ps => exact fits_buildSlice ho hB hfr h'
  | makeInterface t x => exact fits_makeInterface ho hB hfr h'
  | makeFunc f x y => exact fits_makeFunc ho hB hfr h'
  | nilCheck x => exact fits_nilCheck ho hB hfr h'
  | alloc t => exact fits_alloc ho hB h'
  | box t x => exact fits_box ho hB hfr h'
  | load t x => exact fits_load ho hB hfr h'
  | store t x y => exact fits_store ho hB hfr h'
  | fieldAddr t x i => exact fits_fieldAddr ho hB hfr h'
  | indexAddr t x i => exact fits_indexAddr ho hB hfr h'
  | slice t x l h m => exact fits_slice ho hB hfr h'
  | sliceToArrayPointer t x => exact fits_arr ho hB hfr h'
  | makeSlice t l c => exact fits_makeSlice ho hB hfr h'
  | call cl =>
    obtain ⟨callee, args, ts⟩ := cl
    cases callee with
    | builtin b =>
      simp only [ev, ho] at h
      have hargs : ∀ (l : List Operand), args.toList = l → args = l.toArray := fun l hl => by rw [← hl]
      have htss : ∀ (l : List TypeId), ts.toList = l → ts = l.toArray := fun l hl => by rw [← hl]
      unfold builtinC at h
      split at h
      · rename_i t x e1 e2
        obtain ⟨y, e3, rfl⟩ : ∃ y, args.toList = [y] ∧ opv fr y = x := by
          cases hl : args.toList with
          | nil => rw [hl] at e2; simp at e2
          | cons y l => rw [hl] at e2; simp at e2; obtain ⟨h1, rfl⟩ := e2; exact ⟨y, rfl, h1⟩
        rw [hargs _ e3, htss _ e1] at ho
        exact fits_len ho hB hfr (by simpa only [builtinC] using h)
      · rename_i t x e1 e2
        obtain ⟨y, e3, rfl⟩ : ∃ y, args.toList = [y] ∧ opv fr y = x := by
          cases hl : args.toList with
          | nil => rw [hl] at e2; simp at e2
          | cons y l => rw [hl] at e2; simp at e2; obtain ⟨h1, rfl⟩ := e2; exact ⟨y, rfl, h1⟩
        rw [hargs _ e3, htss _ e1] at ho
        exact fits_cap ho hB hfr (by simpa only [builtinC] using h)
      · rename_i t tx s x e1 e2
        obtain ⟨y, z, e3, rfl, rfl⟩ : ∃ y z, args.toList = [y, z] ∧ opv fr y = s ∧ opv fr z = x := by
          match hl : args.toList with
          | [] => rw [hl] at e2; simp at e2
          | [_] => rw [hl] at e2; simp at e2
          | [y, z] => rw [hl] at e2; simp at e2; exact ⟨y, z, rfl, e2.1, e2.2⟩
          | _ :: _ :: _ :: _ => rw [hl] at e2; simp at e2
        rw [hargs _ e3, htss _ e1] at ho
        split at h
        · rename_i kn he
          split at h
          · rename_i k m hm
            split at h
            · rename_i h0
              exact fits_appendZ ho hB hfr he hm h0 h
            · cases h
          · cases h
        · rename_i e he
          split at h
          · cases h
          · rename_i hns
            exact fits_append ho hB hfr (.inl ⟨e, he⟩) (fun ⟨l, hl⟩ => absurd hl (hns l)) h
        · rename_i he
          exact fits_append ho hB hfr (.inr he) (fun _ => he) h
        · cases h
      · rename_i t tx s x e1 e2
        obtain ⟨y, z, e3, rfl, rfl⟩ : ∃ y z, args.toList = [y, z] ∧ opv fr y = s ∧ opv fr z = x := by
          match hl : args.toList with
          | [] => rw [hl] at e2; simp at e2
          | [_] => rw [hl] at e2; simp at e2
          | [y, z] => rw [hl] at e2; simp at e2; exact ⟨y, z, rfl, e2.1, e2.2⟩
          | _ :: _ :: _ :: _ => rw [hl] at e2; simp at e2
        rw [hargs _ e3, htss _ e1] at ho
        exact fits_copy ho hB hfr (by simpa only [builtinC] using h)
      · rename_i t x e1 e2
        obtain ⟨y, e3, rfl⟩ : ∃ y, args.toList = [y] ∧ opv fr y = x := by
          cases hl : args.toList with
          | nil => rw [hl] at e2; simp at e2
          | cons y l => rw [hl] at e2; simp at e2; obtain ⟨h1, rfl⟩ := e2; exact ⟨y, rfl, h1⟩
        rw [hargs _ e3, htss _ e1] at ho
        exact fits_clear ho hB hfr (by simpa only [builtinC] using h)
      · rename_i t tx k x k' y e1 e2
        obtain ⟨u, z, e3, hu, hz⟩ : ∃ u z, args.toList = [u, z] ∧ opv fr u = .int k x ∧ opv fr z = .int k' y := by
          match hl : args.toList with
          | [] => rw [hl] at e2; simp at e2
          | [_] => rw [hl] at e2; simp at e2
          | [y, z] => rw [hl] at e2; simp at e2; exact ⟨y, z, rfl, e2.1, e2.2⟩
          | _ :: _ :: _ :: _ => rw [hl] at e2; simp at e2
        rw [hargs _ e3, htss _ e1] at ho
        have g1 := opv_rel hfr u; rw [hu] at g1; have g1 := g1.int_inv
        have g2 := opv_rel hfr z; rw [hz] at g2; have g2 := g2.int_inv
        simp at h; subst h
        have hm : (if y < x then y else x) = min x y := by rw [Int.min_def]; split <;> split <;> omega
        exact fits_value hB (run_call_builtin ho (v := .int k (min x y)) (by simp [builtin, g1, g2, Builtin.min_, Builtin.min2, hm])) (.int k _ (.nil _))
      · rename_i t tx k x k' y e1 e2
        obtain ⟨u, z, e3, hu, hz⟩ : ∃ u z, args.toList = [u, z] ∧ opv fr u = .int k x ∧ opv fr z = .int k' y := by
          match hl : args.toList with
          | [] => rw [hl] at e2; simp at e2
          | [_] => rw [hl] at e2; simp at e2
          | [y, z] => rw [hl] at e2; simp at e2; exact ⟨y, z, rfl, e2.1, e2.2⟩
          | _ :: _ :: _ :: _ => rw [hl] at e2; simp at e2
        rw [hargs _ e3, htss _ e1] at ho
        have g1 := opv_rel hfr u; rw [hu] at g1; have g1 := g1.int_inv
        have g2 := opv_rel hfr z; rw [hz] at g2; have g2 := g2.int_inv
        simp at h; subst h
        have hm : (if x < y then y else x) = max x y := by rw [Int.max_def]; split <;> split <;> omega
        exact fits_value hB (run_call_builtin ho (v := .int k (max x y)) (by simp [builtin, g1, g2, Builtin.max_, Builtin.max2, hm])) (.int k _ (.nil _))
      · simp only [Option.map_eq_some_iff] at h
        obtain ⟨c, hc, rfl⟩ := h
        exact fits_pure hB hfr hc
    | value f => simp [ev, ho] at h
    | invoke x y => simp [ev, ho] at h
  | _ => simp [ev, ho] at h

end
end Go.Sy
