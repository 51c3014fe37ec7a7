/- Lemmas and definitions of this claim (own texts, joined by a program; what the claim does not use is left out). -/
import Derived.Test.YtdceppjoipoohaaGreatDoorCr11
section
namespace Go.Proofs.YtdceppjoipoohaaGreatDoor
open Go Go.Sy
set_option linter.all false
set_option maxRecDepth 100000
set_option maxHeartbeats 4000000
open Go.RowKit (Below)
section
variable {N n : Nat} {I0 I : Nat → Nat → Prop} {μ0 μ : List (List Sy.Place)} {B : List Box} {w0 w : World} {a : Act} {fr : Fr} {ops : Array Oper}
theorem want_none {o : Oper} (h : o.guard = none) : Region.wanted o (yielded ops a.tmps) = true := by unfold Region.wanted; rw [h]
theorem AWz_new {id1 id2 : Nat} {d d2 : Tmp} {o1 o2 : Oper} {ts : Array TypeId} {rest : Code} {Q : Exit → Fr → List Box → Prop} {s : List UInt8} (h1 : o1.op = .alloc 68) (e1 : o1.dst = some d) (g1 : o1.guard = none) (k1 : d < n)
    (h2 : o2.op = .call { callee := .value (.func 24), args := #[.tmp d, .const (.string ⟨s.toArray⟩)], argTypes := ts }) (e2 : o2.dst = some d2) (g2 : o2.guard = none) (k2 : d2 < n) (hs0 : s ≠ []) (hsl : s.length < 1000000000)
    (h : AWz Tryz.prog n rest Q (upd (upd fr (some d) (.ptr B.length 0)) (some d2) (.tup [.int .i64 s.length, .nilI])) (B ++ [⟨[.ptr B.length 0, .bview (B.length + 1) s.length 5], false⟩, ⟨s.map byteC, false⟩])) :
    AWz Tryz.prog n (.seq (.region id1 [o1].toArray false) (.seq (.region id2 [o2].toArray false) rest)) Q fr B := by
  intro N I0 w0 I μ w a Q' h0 hs hq
  refine wp_seq (run_region ?_)
  obtain ⟨z, hz1, hz2, hz3⟩ := zeros_rel (I := I) (μ := μ) (w := w) (show zerosOf Tryz.prog 68 = some [.nilP, .nilS] by kernel_rfl)
  have hzs : z.cells.size = 2 := by have := hz3.len; simp at this; omega
  obtain ⟨b1, b2⟩ := hs.box.push (alloc_heap w (.cells z.cells 68 (0, 0))) (fun j _ hj => by omega) hz3 (rest := []) (by simp)
  have hv : V I (μ ++ [[⟨w.heap.size, 0, 0, 2⟩]]) (w.alloc (.cells z.cells 68)) (.ptr B.length 0) (.pointer (some ⟨w.heap.size, 0, none⟩)) := .ptr B.length 0 _ ⟨w.heap.size, 0, 0, 2⟩ (last_place hs.box _) (by simp) (Nat.le_refl _) (.nil _)
  have st : Step N I μ w (.ptr B.length 0) (.pointer (some ⟨w.heap.size, 0, none⟩)) _ I _ (w.alloc (.cells z.cells 68)) := ⟨hv, b1, b2, Below.of_heap hs.box.low (alloc_heap w _) rfl rfl rfl⟩
  have s1 := hs.put st (d := some d) (fun t ht => by cases ht; exact k1)
  unfold wpListIn
  rw [want_none g1, if_pos rfl]
  refine wp_free (by simp [noDefer, h1]) ?_
  unfold Oper.wp
  rw [show (execOp a.eval o1).run Tryz.prog w = .ok (.value (.pointer (some ⟨w.heap.size, 0, none⟩))) (w.alloc (.cells z.cells 68)) by simp [execOp, h1, Instr.alloc, hz1, newVar, newRow], Oper.upon_value, e1]
  unfold wpListIn
  refine wp_seq (run_region ?_)
  unfold wpListIn
  rw [want_none g2, if_pos rfl]
  refine wp_free (by simp [noDefer, h2]) ?_
  unfold Oper.wp
  have t1 : (a.put (some d) (.pointer (some ⟨w.heap.size, 0, none⟩))).tmps.getD d undef = .pointer (some ⟨w.heap.size, 0, none⟩) := by
    rw [put_getD a (some d) _ (fun t ht => by cases ht; rw [hs.size]; exact k1), if_pos rfl]
  have hrun : ∀ (a2 : Act) (w2 : World), a2.tmps.getD d undef = .pointer (some ⟨w.heap.size, 0, none⟩) → (execOp a2.eval o2).run Tryz.prog w2 = .ok (.enter 24 #[.pointer (some ⟨w.heap.size, 0, none⟩), .string ⟨s.toArray⟩]) w2 := fun a2 w2 ht => by
    simp only [execOp, h2, resolve, Act.eval, Deferred.ofValue, Sem.run_bind, Sem.run_pure, Result.andThen_ok, invoke]
    rw [callable_run (by kernel_rfl)]
    simp [Act.eval, ht]
  rw [hrun _ _ t1, Oper.upon_enter]
  refine (ws_first s1.box hv (by rw [List.getElem?_append_right (Nat.le_refl _), Nat.sub_self]; rfl) ⟨w.heap.size, rfl, by rw [World.shape?, push_new (alloc_heap w _)]; simp only [hzs]⟩ hs0 hsl).mono fun e w' ⟨c, v', B', I', μ', he, ⟨hc, hB'⟩, hst⟩ => ?_
  subst he hc hB'
  have s2 := s1.put hst (d := some d2) (fun t ht => by cases ht; exact k2)
  rw [e2]
  unfold wpListIn
  refine h N I0 w0 I' μ' w' _ Q' h0 ?_ hq
  have hb : (B ++ [({ cells := [.nilP, .nilS] } : Box)]).set B.length ⟨[.ptr B.length 0, .bview (B ++ [({ cells := [.nilP, .nilS] } : Box)]).length s.length 5], false⟩ ++ [⟨s.map byteC, false⟩] = B ++ [⟨[.ptr B.length 0, .bview (B.length + 1) s.length 5], false⟩, ⟨s.map byteC, false⟩] := by
    rw [bx_set0 rfl]; simp
  rw [← hb]
  exact s2
theorem string_run (b o g cap : Nat) (l : List UInt8) (w : World) (hg : N ≤ g) (c1 : w.cell? ⟨b, o + 1, none⟩ = some (.slice (some ⟨g, 0, none⟩) l.length cap)) (hcap : cap ≠ 0) (hl : l ≠ []) (hlen : l.length < 1000000000) (hsh : ∃ c, w.shape? g = some (5, c) ∧ l.length ≤ c) (hcells : ∀ (j : Nat) (x : UInt8), l[j]? = some x → w.cell? ⟨g, j, none⟩ = some (.int .u8 x.toNat)) :
    Calls Tryz.prog 31 #[.pointer (some ⟨b, o, none⟩)] w fun e w' => e = .returned (.string ⟨l.toArray⟩) ∧ Below N w w' ∧ ∀ k, k ≠ g → w'.heap[k]? = w.heap[k]? := by
  have hl0 : l.length ≠ 0 := by simpa using hl
  obtain ⟨c, hs1, hs2⟩ := hsh
  have c1' : w.drew.cell? ⟨b, o + 1, none⟩ = some (.slice (some ⟨g, 0, none⟩) l.length cap) := c1
  have tP : Tryz.prog.underlying 102 = some (.pointer 5) := by kernel_rfl
  have hSD : (Builtin.unsafeSliceData_ #[33] 102 #[.slice (some ⟨g, 0, none⟩) l.length cap]).run Tryz.prog w.drew = .ok (.pointer (some ⟨g, 0, none⟩)) w.drew := Lib.run_unsafeSliceData_row _ _ _ _ _ _ hcap
  have hUS : (Builtin.unsafeString_ #[102, 3] 9 #[.pointer (some ⟨g, 0, none⟩), .int .i64 l.length]).run Tryz.prog w.drew = .ok (.string ⟨l.toArray⟩) (w.drew.freeze ⟨g, 0, none⟩ l.length) :=
    Lib.run_unsafeString_row w.drew 102 3 9 5 tP (by kernel_rfl) g c hs1 l hl hs2 (by omega) (fun j x hx => by rw [Addr.add_lit, Nat.zero_add]; exact hcells j x hx)
  go_enter Tryz.func31, Tryz.ntmps31
  go_wp2
  go_region
  all_goals (go_wp2; go_ret)
  all_goals
    refine ⟨rfl, Lib.below_freeze (Below.drew (Below.refl N w)) (p := ⟨g, 0, none⟩) hg _, fun k hk => ?_⟩
    simp only [World.freeze]
    split
    · rfl
    · rw [Array.getElem?_modify, if_neg (Ne.symm hk)]; rfl
theorem AWz_string {id : Nat} {d d1 : Tmp} {β γ : Nat} {mm : Bool} {l : List UInt8} {o : Oper} {ts : Array TypeId} {l2 : List Oper} {Q : Exit → Fr → List Box → Prop} (h1 : o.op = .call { callee := .value (.func 31), args := #[.tmp d], argTypes := ts }) (e1 : o.dst = some d1) (g1 : o.guard = none) (k1 : d1 < n) (n2 : l2.all noDefer = true)
    (hd : fr d = .ptr β 0) (hβ : B[β]? = some ⟨[.ptr β 0, .bview γ l.length 5], false⟩) (hγ : B[γ]? = some ⟨l.map byteC, mm⟩) (hl : l ≠ []) (hlen : l.length < 1000000000)
    (h : ∀ vs : Nat → Value, WPo Tryz.prog n (o :: l2).toArray (fun fr B => Q .normal fr B) l2 (upd (fun i => .raw (vs i)) (some d1) (.str l)) []) : AWz Tryz.prog n (.region id (o :: l2).toArray false) Q fr B := by
  intro N I0 w0 I μ w a Q' h0 hs hq
  refine (wpIn_wide (n := 0)).1 (wpIn_region_list (F := freeF none) ?_)
  rw [show (o :: l2).toArray.toList = o :: l2 by simp]
  have hB := hs.box
  have hv := hs.frame d
  rw [hd] at hv
  obtain ⟨p, us, p1, p2, p3, p4⟩ := box_ptr hB hv hβ rfl
  obtain ⟨u0, us0, rfl, _, _, r3⟩ := R.cons_iff.1 p3
  obtain ⟨u1, us1, rfl, r4, _, _⟩ := R.cons_iff.1 r3
  have c1 := p4 1 _ rfl
  obtain ⟨ps, q, cap, rfl, q1, q2, q3, q4, q5, q6, q7, q8, q9⟩ := r4.bview_inv
  obtain ⟨_, vs, g1', g2', g3', _⟩ := view_cells hB hγ q1 q2 (off := 0) (n := l.length) (sz := 1) (by omega) (by omega) (s := 0) (e := l.length) (Nat.le_refl _) (by omega)
  have hnew : w0.heap.size ≤ q.b := hs.ext.news γ ps (Nat.zero_le _) q1 q q2
  have hNq : N ≤ q.b := (hB.places γ ps q q1 q2).1
  have hcells : ∀ (j : Nat) (x : UInt8), l[j]? = some x → w.cell? ⟨q.b, j, none⟩ = some (.int .u8 x.toNat) := fun j x hx => by
    have hjl := (List.getElem?_eq_some_iff.1 hx).1
    obtain ⟨v, k1, k2, _⟩ := g1'.get (i := j) (c := byteC x) (by rw [List.getElem?_take, if_pos hjl, List.drop_zero, List.getElem?_map, hx]; rfl)
    have k3 := g3' j v k1
    rw [q3, q4, k2.int_inv] at k3
    simpa using k3
  obtain ⟨cs, hqc⟩ := q9
  have hfc : l.length ≤ cs.size := by
    obtain ⟨cells, ty, fz, f1, f2, _⟩ := q8
    rw [hqc] at f1; cases f1; omega
  unfold wpListIn
  rw [want_none g1, if_pos rfl]
  refine wp_free (by simp [noDefer, h1]) ?_
  unfold Oper.wp
  have hrun : (execOp a.eval o).run Tryz.prog w = .ok (.enter 31 #[.pointer (some ⟨p.b, p.o + 0, none⟩)]) w := by
    simp only [execOp, h1, resolve, Act.eval, Deferred.ofValue, Sem.run_bind, Sem.run_pure, Result.andThen_ok, invoke]
    rw [callable_run (by kernel_rfl)]
    simp only [← p2]
    simp [Act.eval]
  rw [hrun, Oper.upon_enter]
  refine (string_run (N := N) p.b (p.o + 0) q.b cap l w hNq c1 q7 hl hlen ⟨_, by rw [World.shape?, hqc], hfc⟩ hcells).mono fun e w' ⟨he, hbel, hsame⟩ => ?_
  subst he
  have hold : ∀ b, b < w0.heap.size → w'.heap[b]? = w.heap[b]? := fun b hb => hsame b (by omega)
  have hext : Ext I0 [] w0 I0 [] w' := ⟨⟨fun _ _ h => h, fun b j hj => (cell_same (hold b (h0.imm b j hj))).trans (hs.ext.same b j hj), fun b n hf => (hs.ext.free b n hf).of_same (hold b hf.lt), fun b hf => (hs.ext.plain b hf).of_same (hold b hf.lt), fun β ps h => by simp at h⟩,
    Nat.le_trans hs.ext.size hbel.size, fun β ps ps' h => by simp at h, fun β ps _ h => by simp at h, fun _ _ h => .inl h, fun β h => by simp at h, fun b ob k1 k2 => (hold b (Array.getElem?_eq_some_iff.1 k1).1).trans (hs.ext.oth b ob k1 k2)⟩
  have hbr : BRel N I0 [] [] w' := ⟨rfl, Nat.le_trans h0.low hext.size, fun b j hj => Nat.lt_of_lt_of_le (h0.imm b j hj) hext.size, fun β ps p h => by simp at h, fun β β' ps ps' p p' h => by simp at h, fun β box h => by simp at h, fun β box ps p h => by simp at h, h0.tabs.keep hext.toKeep⟩
  have hoth : Oth w w' := fun b ob k1 k2 => (hsame b (by rintro rfl; rw [hqc] at k1; cases k1; simp [Obj.isCells] at k2)).trans k1
  have hst : St N n I0 [] w0 (upd (fun i => .raw (a.tmps.getD i undef)) (some d1) (.str l)) [] (a.put o.dst (.string ⟨l.toArray⟩)) I0 [] w' := by
    refine ⟨by rw [e1]; simp [Act.put, hs.size], by rw [e1]; exact hs.defers.ext hoth, fun i => ?_, hbr, hext, hs.below.trans hbel⟩
    rw [e1, put_getD a (some d1) _ (fun t ht => by cases ht; rw [hs.size]; exact k1)]
    unfold upd
    by_cases hi : i = d1
    · subst hi; simp; exact .str l (.nil _)
    · rw [if_neg (by simpa using fun h => hi h.symm)]
      simp only [if_neg hi]
      exact .raw _ (by simp) (.nil _)
  have := WPo_in (r := none) (Q' := Q') [] l2 _ _ n2 (h _) I0 [] w' _ hst fun fr' B' a' I' μ' w' hQ hst => hq _ _ _ _ _ _ _ hQ hst
  rw [List.append_nil] at this
  exact this
end
end Go.Proofs.YtdceppjoipoohaaGreatDoor
end
section
namespace Go.Proofs.YtdceppjoipoohaaGreatDoor
open Go Go.Sy
set_option linter.all false
set_option maxRecDepth 100000
set_option maxHeartbeats 4000000
def lnT (a b : List UInt8) : List UInt8 := a ++ ([32, 61, 32] ++ (b ++ [10]))
theorem lnT_len (a b : List UInt8) : (lnT a b).length = a.length + b.length + 4 := by simp [lnT]; omega
theorem lnT_ne (a b : List UInt8) : lnT a b ≠ [] := fun h => by have := congrArg List.length h; rw [lnT_len] at this; simp at this
theorem line_at {B : List Box} {a b : List UInt8} (h : a.length + b.length < 2147480000) : ACall Tryz.prog 25 [.str a, .str b] B fun c B' => c = .str (lnT a b) ∧ B' = B := by
  refine acall_intro mixed Tryz.func25 rfl ca25 (by kernel_rfl) (by rw [Tryz.ntmps25]; simp) ?_
  repeat' (first | (with_reducible first | apply jA | apply jB | apply jC | apply jD | apply jE | apply jF | apply jG | apply jH | apply jI | apply jJ | apply jK | apply jL | apply jM | apply jN | apply jO) | ((with_reducible first | apply jP | apply jQ); rfl) | ((first | ((with_reducible first | apply jR | apply jS | apply jT); rfl; rfl) | (with_reducible first | apply jU | apply jV | apply jW) | ((with_reducible first | apply jX | apply jY | apply jZ); rfl)); all_goals (first | ((with_reducible show Is _ _); exact kE) | ((with_reducible refine fun (hc : (_ : Bool) = _) => ?_); (try simp only [xZ, xY, xP, reduceCtorEq] at hc); (try (have hx : True := hc; clear hx hc)); (try exact kX)) | ((fail_if_success (with_reducible first | show Is _ _ | show ACall _ _ _ _ _)); (try ((with_reducible show _ ∨ _); exact kT))))))
  exact ⟨by simp [lnT], rfl⟩
def zK : List UInt8 := List.replicate 32 0
def peT1 (p : Pe) : List UInt8 := [10, 91, 80, 101, 101, 114, 93, 10] ++ lnT [80, 117, 98, 108, 105, 99, 75, 101, 121] (textS p.1)
def peT2 (p : Pe) : List UInt8 := if p.2.1 = zK then [] else lnT [80, 114, 101, 115, 104, 97, 114, 101, 100, 75, 101, 121] (textS p.2.1)
def peT3 (p : Pe) : List UInt8 := if p.2.2.1 = true then lnT [69, 110, 100, 112, 111, 105, 110, 116] (fmtE p.2.2.2.1.1.1 p.2.2.2.1.1.2 p.2.2.2.1.2) else []
def peT4 (p : Pe) : List UInt8 := if p.2.2.2.2.1 = 0 then [] else lnT [80, 101, 114, 115, 105, 115, 116, 101, 110, 116, 75, 101, 101, 112, 97, 108, 105, 118, 101] (Go.Lib.itoa p.2.2.2.2.1)
def fmtPs (al : List Pf) : List (List UInt8) := al.map fun q => fmtP q.1.1 q.1.2 q.2
def peT5 (p : Pe) : List UInt8 := if p.2.2.2.2.2 = [] then [] else lnT [65, 108, 108, 111, 119, 101, 100, 73, 80, 115] (Go.Lib.join (fmtPs p.2.2.2.2.2) [44, 32])
def peT (p : Pe) : List UInt8 := peT1 p ++ (peT2 p ++ (peT3 p ++ (peT4 p ++ peT5 p)))
def cfH (K : List UInt8) (port : Int) : List UInt8 := [91, 73, 110, 116, 101, 114, 102, 97, 99, 101, 93, 10] ++ (lnT [80, 114, 105, 118, 97, 116, 101, 75, 101, 121] (textS K) ++ lnT [76, 105, 115, 116, 101, 110, 80, 111, 114, 116] (Go.Lib.itoa port))
def cfT (K : List UInt8) (port : Int) (ps : List Pe) : List UInt8 := cfH K port ++ ps.flatMap peT
def fmtR (K : List UInt8) (port : Int) (ps : List Pe) : CV := .tup [.str (if valC port ps = 0 then cfT K port ps else []), .int .i64 (valC port ps)]
theorem dd_len : ∀ (k n : Nat), n < 10 ^ k → (Go.Lib.decDigits n).length ≤ k + 1
  | 0, n, h => by rw [Go.Lib.decDigits, dif_pos (by omega)]; simp
  | k + 1, n, h => by
    rw [Go.Lib.decDigits]
    split
    · simp
    · have := dd_len k (n / 10) (by rw [Nat.pow_succ] at h; omega)
      simp; omega
theorem itoa_len {n : Int} (h : -9223372036854775808 ≤ n ∧ n ≤ 9223372036854775807) : (Go.Lib.itoa n).length ≤ 30 := by
  unfold Go.Lib.itoa
  split
  · have := dd_len 20 n.natAbs (by omega)
    simp; omega
  · have := dd_len 20 n.toNat (by omega)
    omega
theorem join_len (t : List UInt8) : ∀ (L : List (List UInt8)) (k : Nat), (∀ x ∈ L, x.length ≤ k) → (Go.Lib.join L t).length ≤ L.length * (k + t.length)
  | [], k, _ => by simp [Go.Lib.join_nil]
  | x :: r, k, h => by
    have hr : ∀ (r : List (List UInt8)), (∀ y ∈ r, y.length ≤ k) → (Go.Lib.joinTail t r).length ≤ r.length * (k + t.length) := fun r hr => by
      induction r with
      | nil => simp [Go.Lib.joinTail]
      | cons y r ih =>
        have h1 := hr y (by simp)
        have h2 := ih fun z hz => hr z (by simp [hz])
        simp only [Go.Lib.joinTail, List.map_cons, List.flatten_cons, List.length_append, List.length_cons] at h2 ⊢
        rw [Nat.succ_mul]
        omega
    rw [Go.Lib.join_cons, List.length_append, List.length_cons, Nat.succ_mul]
    have := hr r fun y hy => h y (by simp [hy])
    have := h x (by simp)
    omega
theorem fmtPs_len (al : List Pf) : (fmtPs al).length = al.length := List.length_map _
theorem fmtJ_len (al : List Pf) : (Go.Lib.join (fmtPs al) [44, 32]).length ≤ al.length * 1002 := by
  have := join_len [44, 32] (fmtPs al) 1000 fun x hx => by
    obtain ⟨q, _, rfl⟩ := List.mem_map.1 hx
    exact Nat.le_of_lt (fmtP_len _ _ _)
  rwa [fmtPs_len] at this
theorem peT_len {p : Pe} (h : PeL p) (ha : p.2.2.2.2.2.length ≤ 100) : (peT p).length ≤ 200000 := by
  have h1 : (peT1 p).length ≤ 100 := by simp [peT1, lnT_len, textS_len]
  have h2 : (peT2 p).length ≤ 100 := by unfold peT2; split <;> simp [lnT_len, textS_len]
  have h3 : (peT3 p).length ≤ 1100 := by
    have := fmtE_len p.2.2.2.1.1.1 p.2.2.2.1.1.2 p.2.2.2.1.2
    unfold peT3; split <;> simp [lnT_len]; omega
  have h4 : (peT4 p).length ≤ 100 := by
    have := itoa_len h.2.2.2.1
    unfold peT4; split <;> simp [lnT_len]; omega
  have h5 : (peT5 p).length ≤ 110000 := by
    have := fmtJ_len p.2.2.2.2.2
    unfold peT5; split <;> simp [lnT_len]; omega
  simp only [peT, List.length_append]
  omega
theorem cfH_len (K : List UInt8) {port : Int} (h : -9223372036854775808 ≤ port ∧ port ≤ 9223372036854775807) : (cfH K port).length ≤ 200 := by
  have := itoa_len h
  simp [cfH, lnT_len, textS_len]; omega
theorem peTs_len : ∀ {ps : List Pe}, (∀ p ∈ ps, PeL p) → (∀ p ∈ ps, p.2.2.2.2.2.length ≤ 100) → (ps.flatMap peT).length ≤ ps.length * 200000
  | [], _, _ => by simp
  | p :: ps, h1, h2 => by
    have := peT_len (h1 p (by simp)) (h2 p (by simp))
    have := peTs_len (ps := ps) (fun q hq => h1 q (by simp [hq])) (fun q hq => h2 q (by simp [hq]))
    rw [List.flatMap_cons, List.length_append, List.length_cons, Nat.succ_mul]
    omega
theorem valC_zero {port : Int} {ps : List Pe} (h : valC port ps = 0) : (ps.length ≤ 8 ∧ (alls ps).length ≤ 16) ∧ (0 ≤ port ∧ port ≤ 65535) ∧ ps.all okPe = true := by
  unfold valC at h
  split at h
  · cases h
  · rename_i h1
    split at h
    · cases h
    · rename_i h2
      rw [not_or, not_or] at h2
      exact ⟨by omega, by omega, by simpa using h2.2.2⟩
theorem al_le_alls {p : Pe} : ∀ {ps : List Pe}, p ∈ ps → p.2.2.2.2.2.length ≤ (alls ps).length
  | q :: ps, h => by
    rw [alls, List.flatMap_cons, List.length_append]
    rcases List.mem_cons.1 h with rfl | h
    · omega
    · have := al_le_alls h
      rw [alls] at this
      omega
end Go.Proofs.YtdceppjoipoohaaGreatDoor
end
section
namespace Go.Proofs.YtdceppjoipoohaaGreatDoor
open Go Go.Sy
set_option linter.all false
set_option maxRecDepth 100000
set_option maxHeartbeats 4000000
theorem kE_VR0 {α : Type} {x y : α} (h : Is x y := by first | ((try simp (disch := first | omega | (simp only [yZ, yB] <;> omega) | fail) [go_sem, yY, *, lnT_len, if_pos, if_neg, -List.map_take, -List.map_drop, -List.map_append, -List.map_reverse]); exact rfl) | fail) : Is x y := h
theorem kD_VR0 {p : Prop} (h : p := by (first | omega | assumption | exact rfl | ((simp (disch := first | omega | (simp only [yZ, yB] <;> omega) | fail) [go_sem, yY, *, lnT_len, -List.map_take, -List.map_drop, -List.map_append, -List.map_reverse]) <;> (first | done | omega | exact rfl)) | fail)) : p := h
theorem key_eqV {p q : List UInt8} (hp : p.length = 32) (hq : q.length = 32) : eqV Tryz.prog 20 23 (.agg (p.map byteC)) (.agg (q.map byteC)) = some (p == q) := eqV_bytes (e := 5) (n := 32) (by kernel_rfl) (by kernel_rfl) (by kernel_rfl) (by kernel_rfl) p q hp hq
def SL (c : CV) (G : List Box) (L : List (List UInt8)) : Prop := (L = [] ∧ c = .nilS) ∨ ∃ b m, L ≠ [] ∧ c = .view (b + 1 + 1 + 1) 0 L.length 1 false ∧ G[b]? = some ⟨L.map .str, m⟩
def FmI (C : List CV) (n : Nat) (Y : List CV) (i : Nat) (X : List CV) (t : List UInt8) (fr : Fr) (B : List Box) : Prop :=
  ∃ m G b, fr 28 = .lst n Y false ∧ fr 29 = .int .i64 n ∧ fr 30 = .int .i64 i ∧ fr 5 = .ptr 1 0 ∧ fr 7 = .ptr (b + 1 + 1 + 1) 0 ∧
    B = ⟨C, false⟩ :: ⟨[.ptr 1 0, .bview 2 t.length 5], false⟩ :: ⟨t.map byteC, m⟩ :: G ∧ G[b]? = some ⟨X, false⟩
def hdI : List UInt8 := [91, 73, 110, 116, 101, 114, 102, 97, 99, 101, 93, 10]
def hdP : List UInt8 := [10, 91, 80, 101, 101, 114, 93, 10]
theorem format_in (K : List UInt8) (port : Int) (ps : List Pe) (hK : K.length = 32) (hpo : -9223372036854775808 ≤ port ∧ port ≤ 9223372036854775807) (hps : ∀ p ∈ ps, PeL p) (hl : ps.length < 1000000) (hal : ∀ p ∈ ps, p.2.2.2.2.2.length < 1000000) :
    PC Tryz.prog true 10 [.agg (cfC (K, port, ps))] (fmtR K port ps) := by
  obtain ⟨c32, c33, c0, cl⟩ := cf_parts (c := (K, port, ps)) hK
  dsimp only at c32 c33 c0
  have hvd : ∀ {B : List Box} {args : List CV}, Is (omap (Go.Sy.fz true false B 6) args) (some [.agg (cfC (K, port, ps))]) → ACall Tryz.prog 13 args B fun c B' => c = .int .i64 (valC port ps) ∧ B' = B := fun hz => acall_fresh hz (validate_in K port ps hK hpo hps hl hal)
  have hom : ∀ {nz : Bool} {B : List Box} {k : Nat}, omap (Go.Sy.fz nz false B (k + 3)) (cfC (K, port, ps)) = some (cfC (K, port, ps)) := cf_om _
  have hct : (cfC (K, port, ps)).take 34 = cfC (K, port, ps) := List.take_of_length_le (by omega)
  obtain ⟨C, hC⟩ : ∃ C, cfC (K, port, ps) = C := ⟨_, rfl⟩
  have hgoal : PC Tryz.prog true 10 [.agg C] (fmtR K port ps) := by
    rw [hC] at c32 c33 c0 cl hvd hom hct
    replace hC : Hid _ := hC
    refine acall_AWz mixed Tryz.func10 rfl (by kernel_rfl) (by rw [Tryz.ntmps10]; simp) ?_
    refine AWz_w mixed (by kernel_rfl) (fun fr B => fr 1 = .ptr 0 0 ∧ B = [⟨C, false⟩]) ?_ ?_
    · repeat' (first | (with_reducible first | apply jA | apply jB | apply jC | apply jD | apply jE | apply jF | apply jG | apply jH | apply jI | apply jJ | apply jK | apply jL | apply jM | apply jN | apply jO) | ((with_reducible first | apply jP | apply jQ); rfl) | ((first | ((with_reducible first | apply jR | apply jS | apply jT); rfl; rfl) | (with_reducible first | apply jU | apply jV | apply jW) | ((with_reducible first | apply jX | apply jY | apply jZ); rfl)); all_goals (first | ((with_reducible show Is _ _); exact kE) | ((with_reducible refine fun (hc : (_ : Bool) = _) => ?_); (try simp only [xZ, xY, xP, reduceCtorEq] at hc); (try (have hx : True := hc; clear hx hc)); (try exact kX)) | ((fail_if_success (with_reducible first | show Is _ _ | show ACall _ _ _ _ _)); (try ((with_reducible show _ ∨ _); exact kT))))))
      exact ⟨by (simp (disch := omega) [go_sem, *]) <;> (try omega), by (simp (disch := omega) [go_sem, *]) <;> (try omega)⟩
    rintro fr B ⟨f1, rfl⟩
    refine AWz_w mixed (by kernel_rfl) (fun fr B => valC port ps = 0 ∧ fr 1 = .ptr 0 0 ∧ B = [⟨C, false⟩]) ?_ ?_
    · by_cases hv : valC port ps = 0
      · rw [hv] at hvd
        repeat' (first | (with_reducible first | apply jA | apply jB | apply jC | apply jD | apply jE | apply jF | apply jG | apply jH | apply jI | apply jJ | apply jK | apply jL | apply jM | apply jN | apply jO) | ((with_reducible first | apply jP | apply jQ); rfl) | ((first | ((with_reducible first | apply jR | apply jS | apply jT); rfl; rfl) | (with_reducible first | apply jU | apply jV | apply jW) | ((with_reducible first | apply jX | apply jY | apply jZ); rfl) | ((with_reducible first | apply kA | apply kB | apply kC); rfl)); all_goals (first | ((with_reducible show Is _ _); exact kE) | ((with_reducible refine fun (hc : (_ : Bool) = _) => ?_); (try simp only [xZ, xY, xP, reduceCtorEq] at hc); (try (have hx : True := hc; clear hx hc)); (try exact kX)) | ((with_reducible show ACall _ _ _ _ _); (first | ((with_reducible apply hvd) <;> exact kD))) | ((fail_if_success (with_reducible first | show Is _ _ | show ACall _ _ _ _ _)); (try ((with_reducible show _ ∨ _); exact kT))))))
        exact ⟨hv, by (simp (disch := omega) [go_sem, *]) <;> (try omega), rfl⟩
      · repeat' (first | (with_reducible first | apply jA | apply jB | apply jC | apply jD | apply jE | apply jF | apply jG | apply jH | apply jI | apply jJ | apply jK | apply jL | apply jM | apply jN | apply jO) | ((with_reducible first | apply jP | apply jQ); rfl) | ((first | ((with_reducible first | apply jR | apply jS | apply jT); rfl; rfl) | (with_reducible first | apply jU | apply jV | apply jW) | ((with_reducible first | apply jX | apply jY | apply jZ); rfl) | ((with_reducible first | apply kA | apply kB | apply kC); rfl)); all_goals (first | ((with_reducible show Is _ _); exact kE) | ((with_reducible refine fun (hc : (_ : Bool) = _) => ?_); (try simp only [xZ, xY, xP, reduceCtorEq] at hc); (try (have hx : True := hc; clear hx hc)); (try exact kX)) | ((with_reducible show ACall _ _ _ _ _); (first | ((with_reducible apply hvd) <;> exact kD))) | ((fail_if_success (with_reducible first | show Is _ _ | show ACall _ _ _ _ _)); (try ((with_reducible show _ ∨ _); exact kT))))))
        rw [fmtR, if_neg hv]
        rfl
    clear f1 fr hvd
    rintro fr B ⟨hv, f1, rfl⟩
    have hfl := peTs_len hps (fun p hp => Nat.le_trans (al_le_alls hp) (by have := (valC_zero hv).1; omega))
    obtain ⟨⟨hp8, hal16⟩, ⟨hpo1, hpo2⟩, hok⟩ := valC_zero hv
    have hH := cfH_len K hpo
    have hws : ∀ {n : Nat} {t s : List UInt8} {m : Bool} {G : List Box} {args : List CV}, Is args [.ptr 1 0, .str s] → n = t.length → s ≠ [] → n + s.length < 1000000000 → ACall Tryz.prog 24 args (⟨C, false⟩ :: ⟨[.ptr 1 0, .bview 2 n 5], false⟩ :: ⟨t.map byteC, m⟩ :: G) fun c B' => c = .tup [.int .i64 s.length, .nilI] ∧ B' = ⟨C, false⟩ :: ⟨[.ptr 1 0, .bview 2 (n + s.length) 5], false⟩ :: ⟨(t ++ s).map byteC, true⟩ :: G := fun h hn h0 hl => by
      subst hn
      exact ws_at (β := 1) (γ := 2) h rfl rfl (by decide) h0 hl
    have hln : ∀ {B : List Box} {a b : List UInt8}, a.length + b.length < 2147480000 → ACall Tryz.prog 25 [.str a, .str b] B fun c B' => c = .str (lnT a b) ∧ B' = B := fun h => line_at h
    have htx : ∀ {B : List Box} {args : List CV} {k : List UInt8}, Is (omap (Go.Sy.fz true false B 6) args) (some [.agg (k.map byteC)]) → k.length = 32 → ACall Tryz.prog 26 args B fun c B' => c = .str (textS k) ∧ B' = B := fun hz hk => acall_fresh hz (text_in _ hk)
    have hit : ∀ {B : List Box} {n : Int}, -9223372036854775808 ≤ n ∧ n ≤ 9223372036854775807 → ACall Tryz.prog 27 [.int .i64 n] B fun c B' => c = .str (Go.Lib.itoa n) ∧ B' = B := fun h => itoa_at h
    have hil := itoa_len hpo
    have hkl := textS_len K
    have hlne := lnT_ne
    have hI12 : hdI.length = 12 := rfl
    refine AWz_new (d := 5) (d2 := 16) (s := hdI) rfl rfl rfl (by decide) rfl rfl rfl (by decide) (by simp [hdI]) (by simp [hdI]) ?_
    refine AWz_w mixed (by kernel_rfl) (fun fr B => fr 1 = .ptr 0 0 ∧ fr 5 = .ptr 1 0 ∧ ∃ t, t = hdI ++ lnT [80, 114, 105, 118, 97, 116, 101, 75, 101, 121] (textS K) ∧ B = [⟨C, false⟩, ⟨[.ptr 1 0, .bview 2 t.length 5], false⟩, ⟨t.map byteC, true⟩]) ?_ ?_
    · repeat' (first | (with_reducible first | apply jA | apply jB | apply jC | apply jD | apply jE | apply jF | apply jG | apply jH | apply jI | apply jJ | apply jK | apply jL | apply jM | apply jN | apply jO) | ((with_reducible first | apply jP | apply jQ); rfl) | ((first | ((with_reducible first | apply jR | apply jS | apply jT); rfl; rfl) | (with_reducible first | apply jU | apply jV | apply jW) | ((with_reducible first | apply jX | apply jY | apply jZ); rfl) | ((with_reducible first | apply kA | apply kB | apply kC); rfl)); all_goals (first | ((with_reducible show Is _ _); exact kE_VR0) | ((with_reducible refine fun (hc : (_ : Bool) = _) => ?_); (try simp only [xZ, xY, xP, reduceCtorEq] at hc); (try (have hx : True := hc; clear hx hc)); (try exact kX)) | ((with_reducible show ACall _ _ _ _ _); (first | ((with_reducible apply htx) <;> exact kD_VR0) | ((with_reducible apply hln) <;> exact kD_VR0) | ((with_reducible apply hws) <;> exact kD_VR0))) | ((fail_if_success (with_reducible first | show Is _ _ | show ACall _ _ _ _ _)); (try ((with_reducible show _ ∨ _); exact kT))))))
      exact ⟨by (simp (disch := omega) [go_sem, *]) <;> (try omega), by (simp (disch := omega) [go_sem, *]) <;> (try omega), _, rfl, by (simp (disch := omega) [go_sem, *, lnT_len]) <;> (try omega)⟩
    clear f1 fr
    rintro fr B ⟨f1, f5, t, ht, rfl⟩
    have htl : t.length = 70 := by rw [ht, List.length_append, hI12, lnT_len, hkl]; rfl
    refine AWz_w mixed (by kernel_rfl) (fun fr B => fr 1 = .ptr 0 0 ∧ fr 5 = .ptr 1 0 ∧ ∃ t, t = cfH K port ∧ B = [⟨C, false⟩, ⟨[.ptr 1 0, .bview 2 t.length 5], false⟩, ⟨t.map byteC, true⟩]) ?_ ?_
    · have ht2 : cfH K port = t ++ lnT [76, 105, 115, 116, 101, 110, 80, 111, 114, 116] (Go.Lib.itoa port) := by rw [ht]; simp [cfH, hdI]
      replace ht : Hid _ := ht
      replace ht2 : Hid _ := ht2
      repeat' (first | (with_reducible first | apply jA | apply jB | apply jC | apply jD | apply jE | apply jF | apply jG | apply jH | apply jI | apply jJ | apply jK | apply jL | apply jM | apply jN | apply jO) | ((with_reducible first | apply jP | apply jQ); rfl) | ((first | ((with_reducible first | apply jR | apply jS | apply jT); rfl; rfl) | (with_reducible first | apply jU | apply jV | apply jW) | ((with_reducible first | apply jX | apply jY | apply jZ); rfl) | ((with_reducible first | apply kA | apply kB | apply kC); rfl)); all_goals (first | ((with_reducible show Is _ _); exact kE_VR0) | ((with_reducible refine fun (hc : (_ : Bool) = _) => ?_); (try simp only [xZ, xY, xP, reduceCtorEq] at hc); (try (have hx : True := hc; clear hx hc)); (try exact kX)) | ((with_reducible show ACall _ _ _ _ _); (first | ((with_reducible apply hit) <;> exact kD_VR0) | ((with_reducible apply hln) <;> exact kD_VR0) | ((with_reducible apply hws) <;> exact kD_VR0))) | ((fail_if_success (with_reducible first | show Is _ _ | show ACall _ _ _ _ _)); (try ((with_reducible show _ ∨ _); exact kT))))))
      refine ⟨by (simp (disch := omega) [go_sem, *]) <;> (try omega), by (simp (disch := omega) [go_sem, *]) <;> (try omega), _, (show cfH K port = _ from ht2).symm, by (simp (disch := omega) [go_sem, *, lnT_len]) <;> (try omega)⟩
    clear f1 f5 fr ht htl t
    rintro fr B ⟨f1, f5, t, rfl, rfl⟩
    have hpc := cells_all (f := peC) (z := 85) (L := ps) fun p hp => peC_len (hps p hp)
    refine AWz_w mixed (by kernel_rfl) (fun fr B => fr 5 = .ptr 1 0 ∧ ∃ m G, B = ⟨C, false⟩ :: ⟨[.ptr 1 0, .bview 2 (cfT K port ps).length 5], false⟩ :: ⟨(cfT K port ps).map byteC, m⟩ :: G) ?_ ?_
    rotate_left
    · rintro fr B ⟨f5, m, G, rfl⟩
      have hT : (cfT K port ps).length ≤ 2000000 := by
        rw [cfT, List.length_append]
        have h8 : ps.length * 200000 ≤ 8 * 200000 := Nat.mul_le_mul_right _ hp8
        omega
      have hTne : cfT K port ps ≠ [] := by simp [cfT, cfH]
      refine AWz_seq (AWz_string (d := 5) (d1 := 85) (β := 1) (γ := 2) (l := cfT K port ps) rfl rfl rfl (by decide) (by rfl) f5 rfl rfl hTne (by omega) ?_)
      intro vs
      repeat' (first | (with_reducible first | apply jA | apply jB | apply jC | apply jD | apply jE | apply jF | apply jG | apply jH | apply jI | apply jJ | apply jK | apply jL | apply jM | apply jN | apply jO) | ((with_reducible first | apply jP | apply jQ); rfl) | ((first | ((with_reducible first | apply jR | apply jS | apply jT); rfl; rfl) | (with_reducible first | apply jU | apply jV | apply jW) | ((with_reducible first | apply jX | apply jY | apply jZ); rfl)); all_goals (first | ((with_reducible show Is _ _); exact kE) | ((with_reducible refine fun (hc : (_ : Bool) = _) => ?_); (try simp only [xZ, xY, xP, reduceCtorEq] at hc); (try (have hx : True := hc; clear hx hc)); (try exact kX)) | ((fail_if_success (with_reducible first | show Is _ _ | show ACall _ _ _ _ _)); (try ((with_reducible show _ ∨ _); exact kT))))))
      refine AWz.of (WPc_sound mixed.mixed _ _ _ _ (by kernel_rfl) ?_)
      repeat' (first | (with_reducible first | apply jA | apply jB | apply jC | apply jD | apply jE | apply jF | apply jG | apply jH | apply jI | apply jJ | apply jK | apply jL | apply jM | apply jN | apply jO) | ((with_reducible first | apply jP | apply jQ); rfl) | ((first | ((with_reducible first | apply jR | apply jS | apply jT); rfl; rfl) | (with_reducible first | apply jU | apply jV | apply jW) | ((with_reducible first | apply jX | apply jY | apply jZ); rfl)); all_goals (first | ((with_reducible show Is _ _); exact kE) | ((with_reducible refine fun (hc : (_ : Bool) = _) => ?_); (try simp only [xZ, xY, xP, reduceCtorEq] at hc); (try (have hx : True := hc; clear hx hc)); (try exact kX)) | ((fail_if_success (with_reducible first | show Is _ _ | show ACall _ _ _ _ _)); (try ((with_reducible show _ ∨ _); exact kT))))))
      rw [fmtR, hv, if_pos rfl]
      rfl
    have hpl1 : ∀ p ∈ ps, (peT p).length ≤ 200000 := fun p hp => peT_len (hps p hp) (Nat.le_trans (al_le_alls hp) (by omega))
    have hpfx : ∀ k, (cfT K port (ps.take k)).length ≤ 2000000 := fun k => by
      have := peTs_len (ps := ps.take k) (fun p hp => hps p (List.mem_of_mem_take hp)) (fun p hp => Nat.le_trans (al_le_alls (List.mem_of_mem_take hp)) (by omega))
      rw [List.length_take] at this
      have h8 : min k ps.length * 200000 ≤ 8 * 200000 := Nat.mul_le_mul_right _ (by omega)
      rw [cfT, List.length_append]
      omega
    obtain ⟨t0, ht0⟩ : ∃ t0, cfH K port = t0 := ⟨_, rfl⟩
    rw [ht0]
    have hT0 : t0 = cfT K port (ps.take 0) := by rw [← ht0]; simp [cfT]
    obtain ⟨Y, hY⟩ : ∃ Y, ps.flatMap peC = Y := ⟨_, rfl⟩
    rw [hY] at hpc c33
    replace hY : Hid _ := hY
    replace hpc : Hid _ := hpc
    replace hps : Hid _ := hps
    replace hT0 : Hid _ := hT0
    clear hH ht0 c32 hom hct
    repeat' (first | (with_reducible first | apply jA | apply jB | apply jC | apply jD | apply jE | apply jF | apply jG | apply jH | apply jI | apply jJ | apply jK | apply jL | apply jM | apply jN | apply jO) | ((with_reducible first | apply jP | apply jQ); rfl) | ((first | ((with_reducible first | apply jR | apply jS | apply jT); rfl; rfl) | (with_reducible first | apply jU | apply jV | apply jW) | ((with_reducible first | apply jX | apply jY | apply jZ); rfl)); all_goals (first | ((with_reducible show Is _ _); exact kE) | ((with_reducible refine fun (hc : (_ : Bool) = _) => ?_); (try simp only [xZ, xY, xP, reduceCtorEq] at hc); (try (have hx : True := hc; clear hx hc)); (try exact kX)) | ((fail_if_success (with_reducible first | show Is _ _ | show ACall _ _ _ _ _)); (try ((with_reducible show _ ∨ _); exact kT))))))
    refine w_loop (fun fr B => ∃ (i : Nat) (m : Bool) (G : List Box) (t : List UInt8), i ≤ ps.length ∧ t = cfT K port (ps.take i) ∧ fr 28 = .lst ps.length Y false ∧ fr 29 = .int .i64 ps.length ∧ fr 30 = .int .i64 i ∧ fr 5 = .ptr 1 0 ∧ B = ⟨C, false⟩ :: ⟨[.ptr 1 0, .bview 2 t.length 5], false⟩ :: ⟨t.map byteC, m⟩ :: G) (fun fr _ => ps.length - natOf (fr 30)) ?_ ?_
    · exact ⟨0, true, [], t0, by omega, hT0, by (simp (disch := omega) [go_sem, *]) <;> (try omega), by (simp (disch := omega) [go_sem, *]) <;> (try omega), by (simp (disch := omega) [go_sem, *]) <;> (try omega), by (simp (disch := omega) [go_sem, *]) <;> (try omega), rfl⟩
    clear f1 f5 fr hT0 t0
    rintro fr B ⟨i, m, G, t, hi, ht, f28, f29, f30, f5, rfl⟩
    have hm0 : natOf (fr 30) = i := by rw [f30]; rfl
    have htl : t.length ≤ 2000000 := by rw [ht]; exact hpfx i
    by_cases hci : i < ps.length
    rotate_left
    · obtain rfl : i = ps.length := by omega
      rw [List.take_length] at ht
      replace ht : Hid _ := ht
      repeat' (first | (with_reducible first | apply jA | apply jB | apply jC | apply jD | apply jE | apply jF | apply jG | apply jH | apply jI | apply jJ | apply jK | apply jL | apply jM | apply jN | apply jO) | ((with_reducible first | apply jP | apply jQ); rfl) | ((first | ((with_reducible first | apply jR | apply jS | apply jT); rfl; rfl) | (with_reducible first | apply jU | apply jV | apply jW) | ((with_reducible first | apply jX | apply jY | apply jZ); rfl)); all_goals (first | ((with_reducible show Is _ _); exact kE) | ((with_reducible refine fun (hc : (_ : Bool) = _) => ?_); (try simp only [xZ, xY, xP, reduceCtorEq] at hc); (try (have hx : True := hc; clear hx hc)); (try exact kX)) | ((fail_if_success (with_reducible first | show Is _ _ | show ACall _ _ _ _ _)); (try ((with_reducible show _ ∨ _); exact kT))))))
      exact ⟨by (simp (disch := omega) [go_sem, *]) <;> (try omega), m, G, by rw [← (show t = cfT K port ps from ht)]⟩
    have hp := (show ∀ p ∈ ps, PeL p from hps) ps[i] (List.getElem_mem hci)
    have hpal : ps[i].2.2.2.2.2.length ≤ 16 := Nat.le_trans (al_le_alls (List.getElem_mem hci)) hal16
    obtain ⟨y1, y2⟩ := (show Cells peC 85 Y ps from hpc) i hci
    obtain ⟨e64, e65, e83, e84, e0, e32⟩ := pe_parts hp
    have hXl := peC_len hp
    have hnext : cfT K port (ps.take (i + 1)) = t ++ peT ps[i] := by
      rw [ht, List.take_succ_eq_append_getElem hci, cfT, cfT, List.flatMap_append, List.flatMap_singleton, List.append_assoc]
    have hPl := peT_len hp (Nat.le_trans hpal (by omega))
    rw [hm0]
    clear hm0 hpl1 hpfx hit hil
    replace ht : Hid _ := ht
    replace hnext : Hid _ := hnext
    generalize ps[i] = p at *
    obtain ⟨X, hX⟩ : ∃ X, peC p = X := ⟨_, rfl⟩
    rw [hX] at y2 e64 e65 e83 e84 e0 e32 hXl
    have hXt : X.take 85 = X := List.take_of_length_le (by omega)
    replace hX : Hid _ := hX
    refine w_cut (fun fr B => fr 28 = .lst ps.length Y false ∧ fr 29 = .int .i64 ps.length ∧ fr 30 = .int .i64 i ∧ fr 5 = .ptr 1 0 ∧ fr 31 = .bool true ∧ B = ⟨C, false⟩ :: ⟨[.ptr 1 0, .bview 2 t.length 5], false⟩ :: ⟨t.map byteC, m⟩ :: G) ?_ ?_
    · repeat' (first | (with_reducible first | apply jA | apply jB | apply jC | apply jD | apply jE | apply jF | apply jG | apply jH | apply jI | apply jJ | apply jK | apply jL | apply jM | apply jN | apply jO) | ((with_reducible first | apply jP | apply jQ); rfl) | ((first | ((with_reducible first | apply jR | apply jS | apply jT); rfl; rfl) | (with_reducible first | apply jU | apply jV | apply jW) | ((with_reducible first | apply jX | apply jY | apply jZ); rfl)); all_goals (first | ((with_reducible show Is _ _); exact kE) | ((with_reducible refine fun (hc : (_ : Bool) = _) => ?_); (try simp only [xZ, xY, xP, reduceCtorEq] at hc); (try (have hx : True := hc; clear hx hc)); (try exact kX)) | ((fail_if_success (with_reducible first | show Is _ _ | show ACall _ _ _ _ _)); (try ((with_reducible show _ ∨ _); exact kT))))))
      exact ⟨by (simp (disch := omega) [go_sem, *]) <;> (try omega), by (simp (disch := omega) [go_sem, *]) <;> (try omega), by (simp (disch := omega) [go_sem, *]) <;> (try omega), by (simp (disch := omega) [go_sem, *]) <;> (try omega), by (simp (disch := omega) [go_sem, *]) <;> (try omega), rfl⟩
    clear f28 f29 f30 f5 fr
    rintro fr B ⟨f28, f29, f30, f5, f31, rfl⟩
    refine w_cut (fun fr B => fr 28 = .lst ps.length Y false ∧ fr 29 = .int .i64 ps.length ∧ fr 30 = .int .i64 i ∧ fr 5 = .ptr 1 0 ∧ B = ⟨C, false⟩ :: ⟨[.ptr 1 0, .bview 2 t.length 5], false⟩ :: ⟨t.map byteC, m⟩ :: G) ?_ ?_
    · repeat' (first | (with_reducible first | apply jA | apply jB | apply jC | apply jD | apply jE | apply jF | apply jG | apply jH | apply jI | apply jJ | apply jK | apply jL | apply jM | apply jN | apply jO) | ((with_reducible first | apply jP | apply jQ); rfl) | ((first | ((with_reducible first | apply jR | apply jS | apply jT); rfl; rfl) | (with_reducible first | apply jU | apply jV | apply jW) | ((with_reducible first | apply jX | apply jY | apply jZ); rfl)); all_goals (first | ((with_reducible show Is _ _); exact kE) | ((with_reducible refine fun (hc : (_ : Bool) = _) => ?_); (try simp only [xZ, xY, xP, reduceCtorEq] at hc); (try (have hx : True := hc; clear hx hc)); (try exact kX)) | ((fail_if_success (with_reducible first | show Is _ _ | show ACall _ _ _ _ _)); (try ((with_reducible show _ ∨ _); exact kT))))))
      exact ⟨by (simp (disch := omega) [go_sem, *]) <;> (try omega), by (simp (disch := omega) [go_sem, *]) <;> (try omega), by (simp (disch := omega) [go_sem, *]) <;> (try omega), by (simp (disch := omega) [go_sem, *]) <;> (try omega), rfl⟩
    clear f28 f29 f30 f5 f31 fr
    rintro fr B ⟨f28, f29, f30, f5, rfl⟩
    refine w_seq (w_block ?_)
    refine w_cut (FmI C ps.length Y i X t) ?_ ?_
    · repeat' (first | (with_reducible first | apply jA | apply jB | apply jC | apply jD | apply jE | apply jF | apply jG | apply jH | apply jI | apply jJ | apply jK | apply jL | apply jM | apply jN | apply jO) | ((with_reducible first | apply jP | apply jQ); rfl) | ((first | ((with_reducible first | apply jR | apply jS | apply jT); rfl; rfl) | (with_reducible first | apply jU | apply jV | apply jW) | ((with_reducible first | apply jX | apply jY | apply jZ); rfl)); all_goals (first | ((with_reducible show Is _ _); exact kE) | ((with_reducible refine fun (hc : (_ : Bool) = _) => ?_); (try simp only [xZ, xY, xP, reduceCtorEq] at hc); (try (have hx : True := hc; clear hx hc)); (try exact kX)) | ((fail_if_success (with_reducible first | show Is _ _ | show ACall _ _ _ _ _)); (try ((with_reducible show _ ∨ _); exact kT))))))
      exact ⟨m, G ++ [⟨X, false⟩], G.length, by (simp (disch := omega) [go_sem, *]) <;> (try omega), by (simp (disch := omega) [go_sem, *]) <;> (try omega), by (simp (disch := omega) [go_sem, *]) <;> (try omega), by (simp (disch := omega) [go_sem, *]) <;> (try omega), by (simp (disch := omega) [go_sem, *]) <;> (try omega), by (simp (disch := omega) [go_sem, *]) <;> (try omega), by simp⟩
    clear f28 f29 f30 f5 y1 y2 fr
    have h1l : (peT1 p).length = 65 := by simp [peT1, lnT_len, textS_len]
    have hPl2 : (peT p).length = (peT1 p).length + ((peT2 p).length + ((peT3 p).length + ((peT4 p).length + (peT5 p).length))) := by simp [peT]
    refine fun fr B h => w_cut (FmI C ps.length Y i X (t ++ hdP)) ?_ ?_ (fr := fr) (B := B)
    · revert fr B h
      rintro fr B ⟨m, G, b, f28, f29, f30, f5, f7, rfl, hG⟩
      have xG := bx_pack hG
      repeat' (first | (with_reducible first | apply jA | apply jB | apply jC | apply jD | apply jE | apply jF | apply jG | apply jH | apply jI | apply jJ | apply jK | apply jL | apply jM | apply jN | apply jO) | ((with_reducible first | apply jP | apply jQ); rfl) | ((first | ((with_reducible first | apply jR | apply jS | apply jT); rfl; rfl) | (with_reducible first | apply jU | apply jV | apply jW) | ((with_reducible first | apply jX | apply jY | apply jZ); rfl) | ((with_reducible first | apply kA | apply kB | apply kC); rfl)); all_goals (first | ((with_reducible show Is _ _); exact kE) | ((with_reducible refine fun (hc : (_ : Bool) = _) => ?_); (try simp only [xZ, xY, xP, reduceCtorEq] at hc); (try (have hx : True := hc; clear hx hc)); (try exact kX)) | ((with_reducible show ACall _ _ _ _ _); (first | ((with_reducible apply hws) <;> exact kD))) | ((fail_if_success (with_reducible first | show Is _ _ | show ACall _ _ _ _ _)); (try ((with_reducible show _ ∨ _); exact kT))))))
      exact ⟨true, G, b, by (simp (disch := omega) [go_sem, *]) <;> (try omega), by (simp (disch := omega) [go_sem, *]) <;> (try omega), by (simp (disch := omega) [go_sem, *]) <;> (try omega), by (simp (disch := omega) [go_sem, *]) <;> (try omega), by (simp (disch := omega) [go_sem, *]) <;> (try omega), by simp [lnT_len, hdP], hG⟩
    clear h fr B
    refine fun fr B h => w_cut (FmI C ps.length Y i X (t ++ peT1 p)) ?_ ?_ (fr := fr) (B := B)
    · revert fr B h
      rw [show t ++ peT1 p = (t ++ hdP) ++ lnT [80, 117, 98, 108, 105, 99, 75, 101, 121] (textS p.1) by rw [peT1, List.append_assoc]; rfl]
      have h8 : hdP.length = 8 := rfl
      obtain ⟨t1, ht1⟩ : ∃ t1, t ++ hdP = t1 := ⟨_, rfl⟩
      have htl1 : t1.length ≤ 2300000 := by rw [← ht1]; simp only [List.length_append] at hPl2 ⊢; omega
      rw [ht1]
      clear ht1
      rintro fr B ⟨m, G, b, f28, f29, f30, f5, f7, rfl, hG⟩
      have xG := bx_pack hG
      have hkl := textS_len p.1
      have hp32 := hp.1
      repeat' (first | (with_reducible first | apply jA | apply jB | apply jC | apply jD | apply jE | apply jF | apply jG | apply jH | apply jI | apply jJ | apply jK | apply jL | apply jM | apply jN | apply jO) | ((with_reducible first | apply jP | apply jQ); rfl) | ((first | ((with_reducible first | apply jR | apply jS | apply jT); rfl; rfl) | (with_reducible first | apply jU | apply jV | apply jW) | ((with_reducible first | apply jX | apply jY | apply jZ); rfl) | ((with_reducible first | apply kA | apply kB | apply kC); rfl)); all_goals (first | ((with_reducible show Is _ _); exact kE_VR0) | ((with_reducible refine fun (hc : (_ : Bool) = _) => ?_); (try simp only [xZ, xY, xP, reduceCtorEq] at hc); (try (have hx : True := hc; clear hx hc)); (try exact kX)) | ((with_reducible show ACall _ _ _ _ _); (first | ((with_reducible apply htx) <;> exact kD_VR0) | ((with_reducible apply hln) <;> exact kD_VR0) | ((with_reducible apply hws) <;> exact kD_VR0))) | ((fail_if_success (with_reducible first | show Is _ _ | show ACall _ _ _ _ _)); (try ((with_reducible show _ ∨ _); exact kT))))))
      exact ⟨true, G, b, by (simp (disch := omega) [go_sem, *]) <;> (try omega), by (simp (disch := omega) [go_sem, *]) <;> (try omega), by (simp (disch := omega) [go_sem, *]) <;> (try omega), by (simp (disch := omega) [go_sem, *]) <;> (try omega), by (simp (disch := omega) [go_sem, *]) <;> (try omega), by simp [lnT_len], hG⟩
    clear h fr B
    refine fun fr B h => w_cut (FmI C ps.length Y i X ((t ++ peT1 p) ++ peT2 p)) ?_ ?_ (fr := fr) (B := B)
    · revert fr B h
      rw [peT2]
      rw [peT2] at hPl2
      obtain ⟨t1, ht1⟩ : ∃ t1, t ++ peT1 p = t1 := ⟨_, rfl⟩
      have htl1 : t1.length ≤ 2300000 := by rw [← ht1]; simp only [List.length_append] at hPl2 ⊢; omega
      rw [ht1]
      clear ht1
      rintro fr B ⟨m, G, b, f28, f29, f30, f5, f7, rfl, hG⟩
      have xG := bx_pack hG
      have hkl := textS_len p.2.1
      have hp32 := hp.2.1
      have hke : eqV Tryz.prog 20 23 (.agg (p.2.1.map byteC)) (.agg [.int .u8 0, .int .u8 0, .int .u8 0, .int .u8 0, .int .u8 0, .int .u8 0, .int .u8 0, .int .u8 0, .int .u8 0, .int .u8 0, .int .u8 0, .int .u8 0, .int .u8 0, .int .u8 0, .int .u8 0, .int .u8 0, .int .u8 0, .int .u8 0, .int .u8 0, .int .u8 0, .int .u8 0, .int .u8 0, .int .u8 0, .int .u8 0, .int .u8 0, .int .u8 0, .int .u8 0, .int .u8 0, .int .u8 0, .int .u8 0, .int .u8 0, .int .u8 0]) = some (p.2.1 == zK) := key_eqV (q := zK) hp.2.1 rfl
      by_cases hz : p.2.1 = zK
      · have hzb : (p.2.1 == zK) = true := by simpa using hz
        rw [if_pos hz, List.append_nil]
        rw [hzb] at hke
        replace hz : Hid _ := hz
        repeat' (first | (with_reducible first | apply jA | apply jB | apply jC | apply jD | apply jE | apply jF | apply jG | apply jH | apply jI | apply jJ | apply jK | apply jL | apply jM | apply jN | apply jO) | ((with_reducible first | apply jP | apply jQ); rfl) | ((first | ((with_reducible first | apply jR | apply jS | apply jT); rfl; rfl) | (with_reducible first | apply jU | apply jV | apply jW) | ((with_reducible first | apply jX | apply jY | apply jZ); rfl)); all_goals (first | ((with_reducible show Is _ _); exact kE) | ((with_reducible refine fun (hc : (_ : Bool) = _) => ?_); (try simp only [xZ, xY, xP, reduceCtorEq] at hc); (try (have hx : True := hc; clear hx hc)); (try exact kX)) | ((fail_if_success (with_reducible first | show Is _ _ | show ACall _ _ _ _ _)); (try ((with_reducible show _ ∨ _); exact kT))))))
        exact ⟨m, G, b, by (simp (disch := omega) [go_sem, *]) <;> (try omega), by (simp (disch := omega) [go_sem, *]) <;> (try omega), by (simp (disch := omega) [go_sem, *]) <;> (try omega), by (simp (disch := omega) [go_sem, *]) <;> (try omega), by (simp (disch := omega) [go_sem, *]) <;> (try omega), rfl, hG⟩
      · have hzb : (p.2.1 == zK) = false := by simpa using hz
        rw [if_neg hz]
        rw [hzb] at hke
        replace hz : Hid _ := hz
        repeat' (first | (with_reducible first | apply jA | apply jB | apply jC | apply jD | apply jE | apply jF | apply jG | apply jH | apply jI | apply jJ | apply jK | apply jL | apply jM | apply jN | apply jO) | ((with_reducible first | apply jP | apply jQ); rfl) | ((first | ((with_reducible first | apply jR | apply jS | apply jT); rfl; rfl) | (with_reducible first | apply jU | apply jV | apply jW) | ((with_reducible first | apply jX | apply jY | apply jZ); rfl) | ((with_reducible first | apply kA | apply kB | apply kC); rfl)); all_goals (first | ((with_reducible show Is _ _); exact kE_VR0) | ((with_reducible refine fun (hc : (_ : Bool) = _) => ?_); (try simp only [xZ, xY, xP, reduceCtorEq] at hc); (try (have hx : True := hc; clear hx hc)); (try exact kX)) | ((with_reducible show ACall _ _ _ _ _); (first | ((with_reducible apply htx) <;> exact kD_VR0) | ((with_reducible apply hln) <;> exact kD_VR0) | ((with_reducible apply hws) <;> exact kD_VR0))) | ((fail_if_success (with_reducible first | show Is _ _ | show ACall _ _ _ _ _)); (try ((with_reducible show _ ∨ _); exact kT))))))
        exact ⟨true, G, b, by (simp (disch := omega) [go_sem, *]) <;> (try omega), by (simp (disch := omega) [go_sem, *]) <;> (try omega), by (simp (disch := omega) [go_sem, *]) <;> (try omega), by (simp (disch := omega) [go_sem, *]) <;> (try omega), by (simp (disch := omega) [go_sem, *]) <;> (try omega), by simp [lnT_len], hG⟩
    clear h fr B
    refine fun fr B h => w_cut (FmI C ps.length Y i X (((t ++ peT1 p) ++ peT2 p) ++ peT3 p)) ?_ ?_ (fr := fr) (B := B)
    · revert fr B h
      rw [peT3]
      rw [peT3] at hPl2
      obtain ⟨t1, ht1⟩ : ∃ t1, (t ++ peT1 p) ++ peT2 p = t1 := ⟨_, rfl⟩
      have htl1 : t1.length ≤ 2300000 := by rw [← ht1]; simp only [List.length_append] at hPl2 ⊢; omega
      rw [ht1]
      clear ht1
      rintro fr B ⟨m, G, b, f28, f29, f30, f5, f7, rfl, hG⟩
      have xG := bx_pack hG
      have hfe : ∀ {B : List Box} {args : List CV}, Is (omap (Go.Sy.fz true false B 6) args) (some [.agg (pfC p.2.2.2.1)]) → ACall Tryz.prog 28 args B fun c B' => c = .str (fmtE p.2.2.2.1.1.1 p.2.2.2.1.1.2 p.2.2.2.1.2) ∧ B' = B := fun hz => fmtE_at (by exact hz) hp.2.2.1.1 hp.2.2.1.2
      have hel := fmtE_len p.2.2.2.1.1.1 p.2.2.2.1.1.2 p.2.2.2.1.2
      generalize fmtE p.2.2.2.1.1.1 p.2.2.2.1.1.2 p.2.2.2.1.2 = E at *
      have hom : ∀ {nz fr : Bool} {B : List Box} {k : Nat}, omap (Go.Sy.fz nz fr B (k + 1)) (pfC p.2.2.2.1) = some (pfC p.2.2.2.1) := pf_om1 _
      have hql := pfC_len hp.2.2.1
      generalize pfC p.2.2.2.1 = Q at *
      cases hz : p.2.2.1 with
      | false =>
        rw [hz] at e64
        rw [if_neg (by simp), List.append_nil]
        replace hz : Hid _ := hz
        repeat' (first | (with_reducible first | apply jA | apply jB | apply jC | apply jD | apply jE | apply jF | apply jG | apply jH | apply jI | apply jJ | apply jK | apply jL | apply jM | apply jN | apply jO) | ((with_reducible first | apply jP | apply jQ); rfl) | ((first | ((with_reducible first | apply jR | apply jS | apply jT); rfl; rfl) | (with_reducible first | apply jU | apply jV | apply jW) | ((with_reducible first | apply jX | apply jY | apply jZ); rfl)); all_goals (first | ((with_reducible show Is _ _); exact kE) | ((with_reducible refine fun (hc : (_ : Bool) = _) => ?_); (try simp only [xZ, xY, xP, reduceCtorEq] at hc); (try (have hx : True := hc; clear hx hc)); (try exact kX)) | ((fail_if_success (with_reducible first | show Is _ _ | show ACall _ _ _ _ _)); (try ((with_reducible show _ ∨ _); exact kT))))))
        exact ⟨m, G, b, by (simp (disch := omega) [go_sem, *]) <;> (try omega), by (simp (disch := omega) [go_sem, *]) <;> (try omega), by (simp (disch := omega) [go_sem, *]) <;> (try omega), by (simp (disch := omega) [go_sem, *]) <;> (try omega), by (simp (disch := omega) [go_sem, *]) <;> (try omega), rfl, hG⟩
      | true =>
        rw [hz] at e64
        rw [if_pos rfl]
        replace hz : Hid _ := hz
        repeat' (first | (with_reducible first | apply jA | apply jB | apply jC | apply jD | apply jE | apply jF | apply jG | apply jH | apply jI | apply jJ | apply jK | apply jL | apply jM | apply jN | apply jO) | ((with_reducible first | apply jP | apply jQ); rfl) | ((first | ((with_reducible first | apply jR | apply jS | apply jT); rfl; rfl) | (with_reducible first | apply jU | apply jV | apply jW) | ((with_reducible first | apply jX | apply jY | apply jZ); rfl) | ((with_reducible first | apply kA | apply kB | apply kC); rfl)); all_goals (first | ((with_reducible show Is _ _); exact kE_VR0) | ((with_reducible refine fun (hc : (_ : Bool) = _) => ?_); (try simp only [xZ, xY, xP, reduceCtorEq] at hc); (try (have hx : True := hc; clear hx hc)); (try exact kX)) | ((with_reducible show ACall _ _ _ _ _); (first | ((with_reducible apply hfe) <;> exact kD_VR0) | ((with_reducible apply hln) <;> exact kD_VR0) | ((with_reducible apply hws) <;> exact kD_VR0))) | ((fail_if_success (with_reducible first | show Is _ _ | show ACall _ _ _ _ _)); (try ((with_reducible show _ ∨ _); exact kT))))))
        exact ⟨true, G, b, by (simp (disch := omega) [go_sem, *]) <;> (try omega), by (simp (disch := omega) [go_sem, *]) <;> (try omega), by (simp (disch := omega) [go_sem, *]) <;> (try omega), by (simp (disch := omega) [go_sem, *]) <;> (try omega), by (simp (disch := omega) [go_sem, *]) <;> (try omega), by simp [lnT_len], hG⟩
    clear h fr B
    refine fun fr B h => w_cut (FmI C ps.length Y i X ((((t ++ peT1 p) ++ peT2 p) ++ peT3 p) ++ peT4 p)) ?_ ?_ (fr := fr) (B := B)
    · revert fr B h
      rw [peT4]
      rw [peT4] at hPl2
      obtain ⟨t1, ht1⟩ : ∃ t1, ((t ++ peT1 p) ++ peT2 p) ++ peT3 p = t1 := ⟨_, rfl⟩
      have htl1 : t1.length ≤ 2300000 := by rw [← ht1]; simp only [List.length_append] at hPl2 ⊢; omega
      rw [ht1]
      clear ht1
      rintro fr B ⟨m, G, b, f28, f29, f30, f5, f7, rfl, hG⟩
      have xG := bx_pack hG
      have hkr := hp.2.2.2.1
      have hfi : ∀ {B : List Box} {n : Int}, -9223372036854775808 ≤ n ∧ n ≤ 9223372036854775807 → ACall Tryz.prog 29 [.int .i64 n, .int .i64 10] B fun c B' => c = .str (Go.Lib.itoa n) ∧ B' = B := fun h => fmt10_at h
      have hil := itoa_len hkr
      generalize p.2.2.2.2.1 = kp at *
      by_cases hz : kp = 0
      · subst hz
        rw [if_pos rfl, List.append_nil]
        repeat' (first | (with_reducible first | apply jA | apply jB | apply jC | apply jD | apply jE | apply jF | apply jG | apply jH | apply jI | apply jJ | apply jK | apply jL | apply jM | apply jN | apply jO) | ((with_reducible first | apply jP | apply jQ); rfl) | ((first | ((with_reducible first | apply jR | apply jS | apply jT); rfl; rfl) | (with_reducible first | apply jU | apply jV | apply jW) | ((with_reducible first | apply jX | apply jY | apply jZ); rfl)); all_goals (first | ((with_reducible show Is _ _); exact kE) | ((with_reducible refine fun (hc : (_ : Bool) = _) => ?_); (try simp only [xZ, xY, xP, reduceCtorEq] at hc); (try (have hx : True := hc; clear hx hc)); (try exact kX)) | ((fail_if_success (with_reducible first | show Is _ _ | show ACall _ _ _ _ _)); (try ((with_reducible show _ ∨ _); exact kT))))))
        exact ⟨m, G, b, by (simp (disch := omega) [go_sem, *]) <;> (try omega), by (simp (disch := omega) [go_sem, *]) <;> (try omega), by (simp (disch := omega) [go_sem, *]) <;> (try omega), by (simp (disch := omega) [go_sem, *]) <;> (try omega), by (simp (disch := omega) [go_sem, *]) <;> (try omega), rfl, hG⟩
      · rw [if_neg hz]
        have hzb : (kp != 0) = true := by simpa using hz
        repeat' (first | (with_reducible first | apply jA | apply jB | apply jC | apply jD | apply jE | apply jF | apply jG | apply jH | apply jI | apply jJ | apply jK | apply jL | apply jM | apply jN | apply jO) | ((with_reducible first | apply jP | apply jQ); rfl) | ((first | ((with_reducible first | apply jR | apply jS | apply jT); rfl; rfl) | (with_reducible first | apply jU | apply jV | apply jW) | ((with_reducible first | apply jX | apply jY | apply jZ); rfl) | ((with_reducible first | apply kA | apply kB | apply kC); rfl)); all_goals (first | ((with_reducible show Is _ _); exact kE_VR0) | ((with_reducible refine fun (hc : (_ : Bool) = _) => ?_); (try simp only [xZ, xY, xP, reduceCtorEq] at hc); (try (have hx : True := hc; clear hx hc)); (try exact kX)) | ((with_reducible show ACall _ _ _ _ _); (first | ((with_reducible apply hfi) <;> exact kD_VR0) | ((with_reducible apply hln) <;> exact kD_VR0) | ((with_reducible apply hws) <;> exact kD_VR0))) | ((fail_if_success (with_reducible first | show Is _ _ | show ACall _ _ _ _ _)); (try ((with_reducible show _ ∨ _); exact kT))))))
        exact ⟨true, G, b, by (simp (disch := omega) [go_sem, *]) <;> (try omega), by (simp (disch := omega) [go_sem, *]) <;> (try omega), by (simp (disch := omega) [go_sem, *]) <;> (try omega), by (simp (disch := omega) [go_sem, *]) <;> (try omega), by (simp (disch := omega) [go_sem, *]) <;> (try omega), by simp [lnT_len], hG⟩
    clear h fr B
    have hfin : cfT K port (ps.take (i + 1)) = (((((t ++ peT1 p) ++ peT2 p) ++ peT3 p) ++ peT4 p) ++ peT5 p) := by rw [show cfT K port (ps.take (i + 1)) = _ from hnext, peT]; simp
    rw [peT5] at hPl2 hfin
    obtain ⟨t1, ht1⟩ : ∃ t1, (((t ++ peT1 p) ++ peT2 p) ++ peT3 p) ++ peT4 p = t1 := ⟨_, rfl⟩
    have htl1 : t1.length ≤ 2300000 := by rw [← ht1]; simp only [List.length_append] at hPl2 ⊢; omega
    rw [ht1] at hfin ⊢
    clear ht1 hPl2 hPl h1l htl hnext
    rintro fr B ⟨m, G, b, f28, f29, f30, f5, f7, rfl, hG⟩
    have xG := bx_pack hG
    have hjl := fmtJ_len p.2.2.2.2.2
    have hqs := hp.2.2.2.2
    generalize p.2.2.2.2.2 = al at *
    replace hfin : Hid _ := hfin
    have hac := cells_all (f := pfC) (z := 18) (L := al) fun q hq => pfC_len (hqs q hq)
    obtain ⟨A, hA⟩ : ∃ A, al.flatMap pfC = A := ⟨_, rfl⟩
    rw [hA] at hac e64 e83 e84
    replace hA : Hid _ := hA
    replace hac : Hid _ := hac
    replace hqs : Hid _ := hqs
    replace hjl : Hid _ := hjl
    repeat' (first | (with_reducible first | apply jA | apply jB | apply jC | apply jD | apply jE | apply jF | apply jG | apply jH | apply jI | apply jJ | apply jK | apply jL | apply jM | apply jN | apply jO) | ((with_reducible first | apply jP | apply jQ); rfl) | ((first | ((with_reducible first | apply jR | apply jS | apply jT); rfl; rfl) | (with_reducible first | apply jU | apply jV | apply jW) | ((with_reducible first | apply jX | apply jY | apply jZ); rfl)); all_goals (first | ((with_reducible show Is _ _); exact kE) | ((with_reducible refine fun (hc : (_ : Bool) = _) => ?_); (try simp only [xZ, xY, xP, reduceCtorEq] at hc); (try (have hx : True := hc; clear hx hc)); (try exact kX)) | ((fail_if_success (with_reducible first | show Is _ _ | show ACall _ _ _ _ _)); (try ((with_reducible show _ ∨ _); exact kT))))))
    refine w_loop (fun fr B => ∃ (k : Nat) (G : List Box) (lc : CV), k ≤ al.length ∧ fr 28 = .lst ps.length Y false ∧ fr 29 = .int .i64 ps.length ∧ fr 30 = .int .i64 i ∧ fr 5 = .ptr 1 0 ∧ fr 8 = lc ∧ fr 65 = .lst al.length A false ∧ fr 66 = .int .i64 al.length ∧ fr 67 = .int .i64 k ∧
      B = ⟨C, false⟩ :: ⟨[.ptr 1 0, .bview 2 t1.length 5], false⟩ :: ⟨t1.map byteC, m⟩ :: G ∧ SL lc G (fmtPs (al.take k))) (fun fr _ => al.length - natOf (fr 67)) ?_ ?_
    · exact ⟨0, G, .nilS, by omega, by (simp (disch := omega) [go_sem, *]) <;> (try omega), by (simp (disch := omega) [go_sem, *]) <;> (try omega), by (simp (disch := omega) [go_sem, *]) <;> (try omega), by (simp (disch := omega) [go_sem, *]) <;> (try omega), by (simp (disch := omega) [go_sem, *]) <;> (try omega), by (simp (disch := omega) [go_sem, *]) <;> (try omega), by (simp (disch := omega) [go_sem, *]) <;> (try omega), by (simp (disch := omega) [go_sem, *]) <;> (try omega), rfl, .inl ⟨rfl, rfl⟩⟩
    clear f28 f29 f30 f5 f7 fr xG hG e64 e65 e83 e84 e0 e32 G
    rintro fr B ⟨k, G, lc, hk, f28, f29, f30, f5, f8, f65, f66, f67, rfl, hS⟩
    have hm0 : natOf (fr 67) = k := by rw [f67]; rfl
    have hm1 : natOf (fr 30) = i := by rw [f30]; rfl
    by_cases hck : k < al.length
    · obtain ⟨a1, a2⟩ := (show Cells pfC 18 A al from hac) k hck
      have hq := (show ∀ q ∈ al, PfL q from hqs) al[k] (List.getElem_mem hck)
      have hfp : ∀ {B : List Box} {args : List CV}, Is (omap (Go.Sy.fz true false B 6) args) (some [.agg (pfC al[k])]) → ACall Tryz.prog 17 args B fun c B' => c = .str (fmtP al[k].1.1 al[k].1.2 al[k].2) ∧ B' = B := fun hz => fmtP_at (by exact hz) hq.1 hq.2
      have hnx : fmtPs (al.take (k + 1)) = fmtPs (al.take k) ++ [fmtP al[k].1.1 al[k].1.2 al[k].2] := by rw [List.take_succ_eq_append_getElem hck, fmtPs, fmtPs, List.map_append]; rfl
      have hql := pfC_len hq
      have hom : ∀ {nz fr : Bool} {B : List Box} {k2 : Nat}, omap (Go.Sy.fz nz fr B (k2 + 1)) (pfC al[k]) = some (pfC al[k]) := pf_om1 _
      have hfl9 : (fmtPs (al.take k)).length = k := by rw [fmtPs_len, List.length_take]; omega
      generalize fmtP al[k].1.1 al[k].1.2 al[k].2 = E at *
      generalize pfC al[k] = Q at *
      have hQt : Q.take 18 = Q := List.take_of_length_le (by omega)
      generalize fmtPs (al.take k) = L at *
      replace hnx : Hid _ := hnx
      rcases hS with ⟨rfl, rfl⟩ | ⟨b2, m2, hne, rfl, hb2⟩
      · repeat' (first | (with_reducible first | apply jA | apply jB | apply jC | apply jD | apply jE | apply jF | apply jG | apply jH | apply jI | apply jJ | apply jK | apply jL | apply jM | apply jN | apply jO) | ((with_reducible first | apply jP | apply jQ); rfl) | ((first | ((with_reducible first | apply jR | apply jS | apply jT); rfl; rfl) | (with_reducible first | apply jU | apply jV | apply jW) | ((with_reducible first | apply jX | apply jY | apply jZ); rfl) | ((with_reducible first | apply kA | apply kB | apply kC); rfl)); all_goals (first | ((with_reducible show Is _ _); exact kE) | ((with_reducible refine fun (hc : (_ : Bool) = _) => ?_); (try simp only [xZ, xY, xP, reduceCtorEq] at hc); (try (have hx : True := hc; clear hx hc)); (try exact kX)) | ((with_reducible show ACall _ _ _ _ _); (first | ((with_reducible apply hfp) <;> exact kD))) | ((fail_if_success (with_reducible first | show Is _ _ | show ACall _ _ _ _ _)); (try ((with_reducible show _ ∨ _); exact kT))))))
        refine ⟨⟨k + 1, G ++ [⟨Q, false⟩, ⟨[.str E], false⟩, ⟨[.str E], false⟩], .view (G.length + 2 + 1 + 1 + 1) 0 1 1 false, by omega, by (simp (disch := omega) [go_sem, *]) <;> (try omega), by (simp (disch := omega) [go_sem, *]) <;> (try omega), by (simp (disch := omega) [go_sem, *]) <;> (try omega), by (simp (disch := omega) [go_sem, *]) <;> (try omega), by (simp (disch := omega) [go_sem, *]) <;> (try omega), by (simp (disch := omega) [go_sem, *]) <;> (try omega), by (simp (disch := omega) [go_sem, *]) <;> (try omega), by (simp (disch := omega) [go_sem, *]) <;> (try omega), by simp, .inr ⟨G.length + 2, false, ?_, ?_, ?_⟩⟩, by (simp (disch := omega) [go_sem, *]) <;> (try omega)⟩
        · rw [show fmtPs (al.take (k + 1)) = _ from hnx]; simp
        · rw [show fmtPs (al.take (k + 1)) = _ from hnx]; rfl
        · rw [show fmtPs (al.take (k + 1)) = _ from hnx, bx_get rfl]; rfl
      · have xb := bx_pack hb2
        have hLl : (L.map CV.str).length = L.length := List.length_map _
        repeat' (first | (with_reducible first | apply jA | apply jB | apply jC | apply jD | apply jE | apply jF | apply jG | apply jH | apply jI | apply jJ | apply jK | apply jL | apply jM | apply jN | apply jO) | ((with_reducible first | apply jP | apply jQ); rfl) | ((first | ((with_reducible first | apply jR | apply jS | apply jT); rfl; rfl) | (with_reducible first | apply jU | apply jV | apply jW) | ((with_reducible first | apply jX | apply jY | apply jZ); rfl) | ((with_reducible first | apply kA | apply kB | apply kC); rfl)); all_goals (first | ((with_reducible show Is _ _); exact kE) | ((with_reducible refine fun (hc : (_ : Bool) = _) => ?_); (try simp only [xZ, xY, xP, reduceCtorEq] at hc); (try (have hx : True := hc; clear hx hc)); (try exact kX)) | ((with_reducible show ACall _ _ _ _ _); (first | ((with_reducible apply hfp) <;> exact kD))) | ((fail_if_success (with_reducible first | show Is _ _ | show ACall _ _ _ _ _)); (try ((with_reducible show _ ∨ _); exact kT))))))
        refine ⟨⟨k + 1, G.set b2 ⟨L.map .str ++ [.str E], true⟩ ++ [⟨Q, false⟩, ⟨[.str E], false⟩], .view (b2 + 1 + 1 + 1) 0 (k + 1) 1 false, by omega, by (simp (disch := omega) [go_sem, *]) <;> (try omega), by (simp (disch := omega) [go_sem, *]) <;> (try omega), by (simp (disch := omega) [go_sem, *]) <;> (try omega), by (simp (disch := omega) [go_sem, *]) <;> (try omega), by (simp (disch := omega) [go_sem, *]) <;> (try omega), by (simp (disch := omega) [go_sem, *]) <;> (try omega), by (simp (disch := omega) [go_sem, *]) <;> (try omega), by (simp (disch := omega) [go_sem, *]) <;> (try omega), ?_, .inr ⟨b2, true, ?_, ?_, ?_⟩⟩, by (simp (disch := omega) [go_sem, *]) <;> (try omega)⟩
        · rfl
        · rw [show fmtPs (al.take (k + 1)) = _ from hnx]; simp
        · rw [show fmtPs (al.take (k + 1)) = _ from hnx]; simp [hfl9]
        · rw [show fmtPs (al.take (k + 1)) = _ from hnx, xb.2.2.2.1]; simp
    · obtain rfl : k = al.length := by omega
      rw [List.take_length] at hS
      have hfl9 := fmtPs_len al
      have hjn : ∀ {B : List Box} {args : List CV} {n : Nat}, Is (omap (Go.Sy.fz true false B 6) args) (some [.lst n ((fmtPs al).map .str) false, .str [44, 32]]) → n = al.length → ACall Tryz.prog 30 args B fun c B' => c = .str (Go.Lib.join (fmtPs al) [44, 32]) ∧ B' = B := fun hz hn => join_at hz (by rw [hn, hfl9]) (by rw [hfl9]; omega) (by have := (show (Go.Lib.join (fmtPs al) [44, 32]).length ≤ al.length * 1002 from hjl); omega)
      have hjl' : (Go.Lib.join (fmtPs al) [44, 32]).length ≤ 16032 := by have := (show (Go.Lib.join (fmtPs al) [44, 32]).length ≤ al.length * 1002 from hjl); omega
      generalize Go.Lib.join (fmtPs al) [44, 32] = J at *
      generalize fmtPs al = L at *
      rcases hS with ⟨rfl, rfl⟩ | ⟨b2, m2, hne, rfl, hb2⟩
      · have hal0 : al = [] := List.eq_nil_of_length_eq_zero (by simpa using hfl9.symm)
        have hfin' := (show cfT K port (ps.take (i + 1)) = _ from hfin)
        rw [if_pos hal0, List.append_nil] at hfin'
        replace hfin' : Hid _ := hfin'
        replace hal0 : Hid _ := hal0
        repeat' (first | (with_reducible first | apply jA | apply jB | apply jC | apply jD | apply jE | apply jF | apply jG | apply jH | apply jI | apply jJ | apply jK | apply jL | apply jM | apply jN | apply jO) | ((with_reducible first | apply jP | apply jQ); rfl) | ((first | ((with_reducible first | apply jR | apply jS | apply jT); rfl; rfl) | (with_reducible first | apply jU | apply jV | apply jW) | ((with_reducible first | apply jX | apply jY | apply jZ); rfl)); all_goals (first | ((with_reducible show Is _ _); exact kE) | ((with_reducible refine fun (hc : (_ : Bool) = _) => ?_); (try simp only [xZ, xY, xP, reduceCtorEq] at hc); (try (have hx : True := hc; clear hx hc)); (try exact kX)) | ((fail_if_success (with_reducible first | show Is _ _ | show ACall _ _ _ _ _)); (try ((with_reducible show _ ∨ _); exact kT))))))
        exact ⟨⟨i + 1, m, G, t1, by omega, (show cfT K port (ps.take (i + 1)) = t1 from hfin').symm, by (simp (disch := omega) [go_sem, *]) <;> (try omega), by (simp (disch := omega) [go_sem, *]) <;> (try omega), by (simp (disch := omega) [go_sem, *]) <;> (try omega), by (simp (disch := omega) [go_sem, *]) <;> (try omega), rfl⟩, by (simp (disch := omega) [go_sem, *]) <;> (try omega)⟩
      · have hal0 : al ≠ [] := fun h => hne (List.eq_nil_of_length_eq_zero (by rw [hfl9, h]; rfl))
        have hall : al.length ≠ 0 := by simpa using hal0
        have hfin' := (show cfT K port (ps.take (i + 1)) = _ from hfin)
        rw [if_neg hal0] at hfin'
        replace hfin' : Hid _ := hfin'
        have hLl : (L.map CV.str).length = al.length := by rw [List.length_map, hfl9]
        have hLt : (L.map CV.str).take al.length = L.map CV.str := List.take_of_length_le (by omega)
        have hLo : ∀ {nz fr : Bool} {B : List Box} {k2 : Nat}, omap (Go.Sy.fz nz fr B (k2 + 1)) (L.map CV.str) = some (L.map CV.str) := omap_strs L
        have xb := bx_pack hb2
        repeat' (first | (with_reducible first | apply jA | apply jB | apply jC | apply jD | apply jE | apply jF | apply jG | apply jH | apply jI | apply jJ | apply jK | apply jL | apply jM | apply jN | apply jO) | ((with_reducible first | apply jP | apply jQ); rfl) | ((first | ((with_reducible first | apply jR | apply jS | apply jT); rfl; rfl) | (with_reducible first | apply jU | apply jV | apply jW) | ((with_reducible first | apply jX | apply jY | apply jZ); rfl) | ((with_reducible first | apply kA | apply kB | apply kC); rfl)); all_goals (first | ((with_reducible show Is _ _); exact kE_VR0) | ((with_reducible refine fun (hc : (_ : Bool) = _) => ?_); (try simp only [xZ, xY, xP, reduceCtorEq] at hc); (try (have hx : True := hc; clear hx hc)); (try exact kX)) | ((with_reducible show ACall _ _ _ _ _); (first | ((with_reducible apply hjn) <;> exact kD_VR0) | ((with_reducible apply hln) <;> exact kD_VR0) | ((with_reducible apply hws) <;> exact kD_VR0))) | ((fail_if_success (with_reducible first | show Is _ _ | show ACall _ _ _ _ _)); (try ((with_reducible show _ ∨ _); exact kT))))))
        refine ⟨⟨i + 1, true, G, _, by omega, (show cfT K port (ps.take (i + 1)) = _ from hfin').symm, by (simp (disch := omega) [go_sem, *]) <;> (try omega), by (simp (disch := omega) [go_sem, *]) <;> (try omega), by (simp (disch := omega) [go_sem, *]) <;> (try omega), by (simp (disch := omega) [go_sem, *]) <;> (try omega), ?_⟩, by (simp (disch := omega) [go_sem, *]) <;> (try omega)⟩
        simp [lnT_len]
  rw [hC]; exact hgoal
end Go.Proofs.YtdceppjoipoohaaGreatDoor
end
section
namespace Go.Proofs.YtdceppjoipoohaaGreatDoor
open Go Go.Sy
set_option linter.all false
set_option maxRecDepth 100000
set_option maxHeartbeats 4000000
theorem kE_WF0 {α : Type} {x y : α} (h : Is x y := by first | ((try simp (disch := first | omega | (simp only [yZ, yB] <;> omega) | fail) [go_sem, yY, *, peZ, pfC, pfO, if_pos, if_neg, -List.map_take, -List.map_drop, -List.map_append, -List.map_reverse]); exact rfl) | fail) : Is x y := h
theorem ep_eqV {t : Pf} (ht : t.1.2.length = 16) : eqV Tryz.prog 20 62 (.agg (pfC t)) (.agg (pfC t)) = some true := by
  obtain ⟨⟨a, p⟩, k⟩ := t
  dsimp only at ht
  have h1 := bmidP ht
  have h3 := pgetP ht
  have h7 : (p.map byteC).take 16 = p.map byteC := List.take_of_length_le (by rw [List.length_map]; omega)
  simp (disch := omega) [go_sem, pfC, h1, h3, h7, ht, -List.map_take]
theorem same_in (K : List UInt8) (port : Int) (ps : List Pe) (hK : K.length = 32) (hps : ∀ p ∈ ps, PeL p) (hl : ps.length < 1000000) (hal : ∀ p ∈ ps, p.2.2.2.2.2.length < 1000000) :
    PC Tryz.prog true 11 [.agg (cfC (K, port, ps)), .agg (cfC (K, port, ps))] (.bool true) := by
  have hcs := cells_all (f := peC) (z := 85) (L := ps) fun p hp => peC_len (hps p hp)
  obtain ⟨d32, d33, t32, hCl⟩ := cf_parts (c := (K, port, ps)) hK
  dsimp only at d32 d33 t32
  have hkk := key_eqV hK hK
  rw [beq_self_eq_true] at hkk
  generalize cfC (K, port, ps) = C at *
  have hCt : C.take 34 = C := List.take_of_length_le (by omega)
  obtain ⟨Y, hY⟩ : ∃ Y, ps.flatMap peC = Y := ⟨_, rfl⟩
  rw [hY] at hcs d32 d33
  replace hY : Hid _ := hY
  replace hcs : Hid _ := hcs
  replace hps : Hid _ := hps
  replace hal : Hid _ := hal
  generalize K.map byteC = kc at *
  refine acall_intro mixed Tryz.func11 rfl ca11 (by kernel_rfl) (by rw [Tryz.ntmps11]; simp) ?_
  repeat' (first | (with_reducible first | apply jA | apply jB | apply jC | apply jD | apply jE | apply jF | apply jG | apply jH | apply jI | apply jJ | apply jK | apply jL | apply jM | apply jN | apply jO) | ((with_reducible first | apply jP | apply jQ); rfl) | ((first | ((with_reducible first | apply jR | apply jS | apply jT); rfl; rfl) | (with_reducible first | apply jU | apply jV | apply jW) | ((with_reducible first | apply jX | apply jY | apply jZ); rfl)); all_goals (first | ((with_reducible show Is _ _); exact kE) | ((with_reducible refine fun (hc : (_ : Bool) = _) => ?_); (try simp only [xZ, xY, xP, reduceCtorEq] at hc); (try (have hx : True := hc; clear hx hc)); (try exact kX)) | ((fail_if_success (with_reducible first | show Is _ _ | show ACall _ _ _ _ _)); (try ((with_reducible show _ ∨ _); exact kT))))))
  refine w_loop (fun fr B => ∃ (j : Nat) (G : List Box), j ≤ ps.length ∧ fr 33 = .int .i64 j ∧ fr 32 = .int .i64 ps.length ∧ fr 2 = .ptr 0 0 ∧ fr 3 = .ptr 1 0 ∧ B = ⟨C, false⟩ :: ⟨C, false⟩ :: G) (fun fr _ => ps.length - natOf (fr 33)) ?_ ?_
  · exact ⟨0, [], by omega, by (simp (disch := omega) [go_sem, *]) <;> (try omega), by (simp (disch := omega) [go_sem, *]) <;> (try omega), by (simp (disch := omega) [go_sem, *]) <;> (try omega), by (simp (disch := omega) [go_sem, *]) <;> (try omega), rfl⟩
  rintro fr B ⟨j, G, hj, f33, f32, f2, f3, rfl⟩
  have hm0 : natOf (fr 33) = j := by rw [f33]; rfl
  by_cases hc : j < ps.length
  · have hcs : Cells peC 85 Y ps := hcs
    have hps : ∀ p ∈ ps, PeL p := hps
    have hal : ∀ p ∈ ps, p.2.2.2.2.2.length < 1000000 := hal
    obtain ⟨c1, c2⟩ := hcs j hc
    have hp := hps ps[j] (List.getElem_mem hc)
    have hpl := peC_len hp
    have hpa := hal ps[j] (List.getElem_mem hc)
    obtain ⟨e64, e65, e83, e84, e0, e32⟩ := pe_parts hp
    have k1 := key_eqV hp.1 hp.1
    have k2 := key_eqV hp.2.1 hp.2.1
    have k3 := ep_eqV hp.2.2.1.1
    rw [beq_self_eq_true] at k1 k2
    have hPt : (peC ps[j]).take 85 = peC ps[j] := List.take_of_length_le (by omega)
    have hcs2 := cells_all (f := pfC) (z := 18) (L := ps[j].2.2.2.2.2) fun p hp' => pfC_len (hp.2.2.2.2 p hp')
    have heq : ∀ q ∈ ps[j].2.2.2.2.2, eqV Tryz.prog 20 49 (.agg (pfC q)) (.agg (pfC q)) = some true ∧ (pfC q).length = 18 ∧ (pfC q).take 18 = pfC q := fun q hq => by
      have h16 := hp.2.2.2.2 q hq
      have := pf_eqV h16.1 h16.1
      rw [beq_self_eq_true] at this
      exact ⟨this, pfC_len h16, List.take_of_length_le (by rw [pfC_len h16]; exact Nat.le_refl _)⟩
    replace hcs2 : Hid _ := hcs2
    replace heq : Hid _ := heq
    clear hp hcs hps hal
    generalize peC ps[j] = Q at *
    generalize hR : ps[j].2.2.2.2.2.flatMap pfC = R at *
    generalize ps[j].1.map byteC = q1 at *
    generalize ps[j].2.1.map byteC = q2 at *
    generalize pfC ps[j].2.2.2.1 = q3 at *
    generalize ps[j].2.2.2.2.1 = q4 at *
    generalize ps[j].2.2.1 = q5 at *
    generalize ps[j].2.2.2.2.2 = al at *
    repeat' (first | (with_reducible first | apply jA | apply jB | apply jC | apply jD | apply jE | apply jF | apply jG | apply jH | apply jI | apply jJ | apply jK | apply jL | apply jM | apply jN | apply jO) | ((with_reducible apply jP); rfl) | ((first | ((with_reducible first | apply jR | apply jS | apply jT); rfl; rfl) | (with_reducible first | apply jU | apply jV | apply jW) | ((with_reducible first | apply jX | apply jY | apply jZ); rfl)); all_goals (first | ((with_reducible show Is _ _); exact kE) | ((with_reducible refine fun (hc : (_ : Bool) = _) => ?_); (try simp only [xZ, xY, xP, reduceCtorEq] at hc); (try (have hx : True := hc; clear hx hc)); (try exact kX)) | ((fail_if_success (with_reducible first | show Is _ _ | show ACall _ _ _ _ _)); (try ((with_reducible show _ ∨ _); exact kT))))))
    refine w_drawJ [6, 8, 9, 10, 11] [⟨[], false⟩, ⟨[], false⟩, ⟨[], false⟩, ⟨peZ, false⟩, ⟨peZ, false⟩] (fun B' => B'[1]? = some ⟨C, false⟩) rfl (by simp (disch := first | omega | (simp only [yZ, yB] <;> omega) | fail) [go_sem, yY, *, -List.map_take, -List.map_drop, -List.map_append, -List.map_reverse]; exact rfl) rfl ?_
    repeat' (first | (with_reducible first | apply jA | apply jB | apply jC | apply jD | apply jE | apply jF | apply jG | apply jH | apply jI | apply jJ | apply jK | apply jL | apply jM | apply jN | apply jO) | ((with_reducible apply jP); rfl) | ((first | ((with_reducible first | apply d_made | apply q_made); rfl; rfl)); (iterate 6 exact kE_WF0)) | ((first | ((with_reducible first | apply d_fop | apply q_fop); rfl; rfl)); (intro Bx hJ; (first | (obtain ⟨_, hJ1, hJ2⟩ := hJ) | (try simp only at hJ)); exact kE_WF0)) | ((first | ((with_reducible first | apply jR | apply jS | apply jT); rfl; rfl) | (with_reducible first | apply jU | apply jV | apply jW) | ((with_reducible first | apply jX | apply jY | apply jZ); rfl)); all_goals (first | ((with_reducible show Is _ _); exact kE_WF0) | ((with_reducible refine fun (hc : (_ : Bool) = _) => ?_); (try simp only [xZ, xY, xP, reduceCtorEq] at hc); (try (have hx : True := hc; clear hx hc)); (try exact kX)) | ((fail_if_success (with_reducible first | show Is _ _ | show ACall _ _ _ _ _)); (try ((with_reducible show _ ∨ _); first | exact .inl rfl | (refine .inr ⟨rfl, ?_, ?_⟩; (focus (repeat (first | exact trivial | refine ⟨.inl rfl, ?_⟩ | refine ⟨.inr rfl, ?_⟩ | refine ⟨.inr (by (simp (disch := first | omega | (simp only [yZ, yB] <;> omega) | fail) [go_sem, yY, *, peZ, pfC, pfO, -List.map_take, -List.map_drop, -List.map_append, -List.map_reverse])), ?_⟩))); (first | exact trivial | exact rfl | (refine ⟨_, ?_, ?_⟩; (focus (simp (disch := first | omega | (simp only [yZ, yB] <;> omega) | fail) [go_sem, yY, *, peZ, pfC, pfO, -List.map_take, -List.map_drop, -List.map_append, -List.map_reverse]; (try exact rfl))); (simp (disch := first | omega | (simp only [yZ, yB] <;> omega) | fail) [go_sem, yY, *, peZ, pfC, pfO, -List.map_take, -List.map_drop, -List.map_append, -List.map_reverse])) | (simp (disch := first | omega | (simp only [yZ, yB] <;> omega) | fail) [go_sem, yY, *, peZ, pfC, pfO, -List.map_take, -List.map_drop, -List.map_append, -List.map_reverse]))) | exact .inl (by (simp (disch := first | omega | (simp only [yZ, yB] <;> omega) | fail) [go_sem, yY, *, peZ, pfC, pfO, -List.map_take, -List.map_drop, -List.map_append, -List.map_reverse]))))))))
    refine w_loop (fun fr B => ∃ k : Nat, k ≤ al.length ∧ fr 91 = .int .i64 k ∧ fr 90 = .int .i64 al.length ∧ fr 6 = .ptr (G.length + 1 + 1 + 3) 0 ∧ fr 7 = .ptr (G.length + 1 + 1 + 4) 0 ∧ fr 33 = .int .i64 j ∧ fr 32 = .int .i64 ps.length ∧ fr 2 = .ptr 0 0 ∧ fr 3 = .ptr 1 0 ∧ B = ⟨C, false⟩ :: ⟨C, false⟩ :: (G ++ [⟨[], false⟩, ⟨[], false⟩, ⟨[], false⟩, ⟨Q, false⟩, ⟨Q, false⟩])) (fun fr _ => al.length - natOf (fr 91)) ?_ ?_
    · exact ⟨0, by omega, by (simp (disch := omega) [go_sem, *]) <;> (try omega), by (simp (disch := omega) [go_sem, *]) <;> (try omega), by (simp (disch := omega) [go_sem, *]) <;> (try omega), by (simp (disch := omega) [go_sem, *]) <;> (try omega), by (simp (disch := omega) [go_sem, *]) <;> (try omega), by (simp (disch := omega) [go_sem, *]) <;> (try omega), by (simp (disch := omega) [go_sem, *]) <;> (try omega), by (simp (disch := omega) [go_sem, *]) <;> (try omega), rfl⟩
    clear f33 f32 f2 f3
    rintro fr2 B ⟨k, hk, f91, f90, f6, f7, f33, f32, f2, f3, rfl⟩
    have hm1 : natOf (fr2 91) = k := by rw [f91]; rfl
    by_cases hck : k < al.length
    · have hcs2 : Cells pfC 18 R al := hcs2
      obtain ⟨a1, a2⟩ := hcs2 k hck
      obtain ⟨g1, g2, g3⟩ := (show ∀ q ∈ al, _ from heq) al[k] (List.getElem_mem hck)
      clear hcs2 heq
      generalize pfC al[k] = u at *
      repeat' (first | (with_reducible first | apply jA | apply jB | apply jC | apply jD | apply jE | apply jF | apply jG | apply jH | apply jI | apply jJ | apply jK | apply jL | apply jM | apply jN | apply jO) | ((with_reducible first | apply jP | apply jQ); rfl) | ((first | ((with_reducible first | apply jR | apply jS | apply jT); rfl; rfl) | (with_reducible first | apply jU | apply jV | apply jW) | ((with_reducible first | apply jX | apply jY | apply jZ); rfl)); all_goals (first | ((with_reducible show Is _ _); exact kE) | ((with_reducible refine fun (hc : (_ : Bool) = _) => ?_); (try simp only [xZ, xY, xP, reduceCtorEq] at hc); (try (have hx : True := hc; clear hx hc)); (try exact kX)) | ((fail_if_success (with_reducible first | show Is _ _ | show ACall _ _ _ _ _)); (try ((with_reducible show _ ∨ _); exact kT))))))
      exact ⟨⟨k + 1, by omega, by (simp (disch := omega) [go_sem, *]) <;> (try omega), by (simp (disch := omega) [go_sem, *]) <;> (try omega), by (simp (disch := omega) [go_sem, *]) <;> (try omega), by (simp (disch := omega) [go_sem, *]) <;> (try omega), by (simp (disch := omega) [go_sem, *]) <;> (try omega), by (simp (disch := omega) [go_sem, *]) <;> (try omega), by (simp (disch := omega) [go_sem, *]) <;> (try omega), by (simp (disch := omega) [go_sem, *]) <;> (try omega), rfl⟩, by (simp (disch := omega) [go_sem, *]) <;> (try omega)⟩
    · obtain rfl : k = al.length := by omega
      repeat' (first | (with_reducible first | apply jA | apply jB | apply jC | apply jD | apply jE | apply jF | apply jG | apply jH | apply jI | apply jJ | apply jK | apply jL | apply jM | apply jN | apply jO) | ((with_reducible first | apply jP | apply jQ); rfl) | ((first | ((with_reducible first | apply jR | apply jS | apply jT); rfl; rfl) | (with_reducible first | apply jU | apply jV | apply jW) | ((with_reducible first | apply jX | apply jY | apply jZ); rfl)); all_goals (first | ((with_reducible show Is _ _); exact kE) | ((with_reducible refine fun (hc : (_ : Bool) = _) => ?_); (try simp only [xZ, xY, xP, reduceCtorEq] at hc); (try (have hx : True := hc; clear hx hc)); (try exact kX)) | ((fail_if_success (with_reducible first | show Is _ _ | show ACall _ _ _ _ _)); (try ((with_reducible show _ ∨ _); exact kT))))))
      exact ⟨⟨j + 1, _, by omega, by (simp (disch := omega) [go_sem, *]) <;> (try omega), by (simp (disch := omega) [go_sem, *]) <;> (try omega), by (simp (disch := omega) [go_sem, *]) <;> (try omega), by (simp (disch := omega) [go_sem, *]) <;> (try omega), rfl⟩, by (simp (disch := omega) [go_sem, *]) <;> (try omega)⟩
  · obtain rfl : j = ps.length := by omega
    repeat' (first | (with_reducible first | apply jA | apply jB | apply jC | apply jD | apply jE | apply jF | apply jG | apply jH | apply jI | apply jJ | apply jK | apply jL | apply jM | apply jN | apply jO) | ((with_reducible first | apply jP | apply jQ); rfl) | ((first | ((with_reducible first | apply jR | apply jS | apply jT); rfl; rfl) | (with_reducible first | apply jU | apply jV | apply jW) | ((with_reducible first | apply jX | apply jY | apply jZ); rfl)); all_goals (first | ((with_reducible show Is _ _); exact kE) | ((with_reducible refine fun (hc : (_ : Bool) = _) => ?_); (try simp only [xZ, xY, xP, reduceCtorEq] at hc); (try (have hx : True := hc; clear hx hc)); (try exact kX)) | ((fail_if_success (with_reducible first | show Is _ _ | show ACall _ _ _ _ _)); (try ((with_reducible show _ ∨ _); exact kT))))))
    rfl
theorem same_at {B : List Box} {args : List CV} {K : List UInt8} {port : Int} {ps : List Pe} (hz : Is (omap (Go.Sy.fz true false B 6) args) (some [.agg (cfC (K, port, ps)), .agg (cfC (K, port, ps))])) (hK : K.length = 32) (hps : ∀ p ∈ ps, PeL p) (hl : ps.length < 1000000) (hal : ∀ p ∈ ps, p.2.2.2.2.2.length < 1000000) :
    ACall Tryz.prog 11 args B fun c B' => c = .bool true ∧ B' = B := acall_fresh hz (same_in K port ps hK hps hl hal)
end Go.Proofs.YtdceppjoipoohaaGreatDoor
end
section
namespace Go.Proofs.YtdceppjoipoohaaGreatDoor
open Go Go.Sy
set_option linter.all false
set_option maxRecDepth 100000
set_option maxHeartbeats 4000000
theorem lnsT_app (L L' : List (List UInt8 × Option (List UInt8))) : lnsT (L ++ L') = lnsT L ++ lnsT L' := List.flatMap_append
def peLn (p : Pe) : List (List UInt8 × Option (List UInt8)) := [([], none), (sPeer, none), (sPub, some (textS p.1))] ++ ((if p.2.1 = zK then [] else [(sShared, some (textS p.2.1))]) ++ ((if p.2.2.1 = false then [] else [(sEnd, some (fmtE p.2.2.2.1.1.1 p.2.2.2.1.1.2 p.2.2.2.1.2))]) ++ ((if p.2.2.2.2.1 = 0 then [] else [(sKeep, some (Go.Lib.itoa p.2.2.2.2.1))]) ++
  (if p.2.2.2.2.2 = [] then [] else [(sAllow, some (Go.Lib.join (fmtPs p.2.2.2.2.2) [44, 32]))]))))
def cfLn (K : List UInt8) (port : Int) (ps : List Pe) : List (List UInt8 × Option (List UInt8)) := [(sIface, none), (sPriv, some (textS K)), (sPort, some (Go.Lib.itoa port))] ++ ps.flatMap peLn
theorem lnsT_opt {c : Prop} [Decidable c] {x : List UInt8 × Option (List UInt8)} : lnsT (if c then [] else [x]) = if c then [] else lnS x ++ [10] := by
  split <;> simp [lnsT]
theorem lnT_eq (a b : List UInt8) : lnS (a, some b) ++ [10] = lnT a b := by simp [lnS, lnT]
theorem lnsT_pe (p : Pe) : lnsT (peLn p) = peT p := by
  have h3 : (if p.2.2.1 = false then [] else lnT sEnd (fmtE p.2.2.2.1.1.1 p.2.2.2.1.1.2 p.2.2.2.1.2)) = peT3 p := by
    rw [peT3]; cases p.2.2.1 <;> rfl
  rw [peLn, lnsT_app, lnsT_app, lnsT_app, lnsT_app, lnsT_opt, lnsT_opt, lnsT_opt, lnsT_opt, lnT_eq, lnT_eq, lnT_eq, lnT_eq, h3]
  have h1 : lnsT [([], none), (sPeer, none), (sPub, some (textS p.1))] = peT1 p := by simp [lnsT, lnS, peT1, lnT, sPeer, sPub]
  rw [h1]
  rfl
theorem lnsT_cf (K : List UInt8) (port : Int) (ps : List Pe) : lnsT (cfLn K port ps) = cfT K port ps := by
  have h1 : lnsT [(sIface, none), (sPriv, some (textS K)), (sPort, some (Go.Lib.itoa port))] = cfH K port := by simp [lnsT, lnS, cfH, lnT, sIface, sPriv, sPort]
  have h2 : ∀ ps : List Pe, lnsT (ps.flatMap peLn) = ps.flatMap peT := fun ps => by
    induction ps with
    | nil => rfl
    | cons p ps ih => rw [List.flatMap_cons, lnsT_app, lnsT_pe, ih, List.flatMap_cons]
  rw [cfLn, lnsT_app, h1, h2]; rfl
def ValOk (v : List UInt8) : Prop := Edge v ∧ ∃ w, (v = w ∨ v = w ++ [61]) ∧ (61 : UInt8) ∉ w ∧ (10 : UInt8) ∉ w
def NameOk (n : List UInt8) : Prop := Edge n ∧ (∃ c u, n = c :: u ∧ c.toNat ≠ 35) ∧ (61 : UInt8) ∉ n ∧ (10 : UInt8) ∉ n
def Solid (l : List UInt8) : Prop := l ≠ [] ∧ ∀ c ∈ l, blank c = false ∧ c ≠ 10 ∧ c ≠ 61 ∧ c ≠ 44
theorem edge_all {l : List UInt8} (h0 : l ≠ []) (h : ∀ c ∈ l, blank c = false) : Edge l := by
  refine ⟨?_, ?_⟩
  · obtain ⟨c, u, rfl⟩ := List.exists_cons_of_ne_nil h0
    exact ⟨c, u, rfl, h c (by simp)⟩
  · obtain ⟨u, d, rfl⟩ : ∃ u d, l = u ++ [d] := ⟨l.dropLast, l.getLast h0, (List.dropLast_concat_getLast h0).symm⟩
    exact ⟨u, d, rfl, h d (by simp)⟩
theorem Solid.edge {l : List UInt8} (h : Solid l) : Edge l := edge_all h.1 fun c hc => (h.2 c hc).1
theorem Solid.val {l : List UInt8} (h : Solid l) : ValOk l := ⟨h.edge, l, .inl rfl, fun h1 => (h.2 _ h1).2.2.1 rfl, fun h1 => (h.2 _ h1).2.1 rfl⟩
theorem solid_c {c : UInt8} (h : c.toNat ≠ 32 ∧ c.toNat ≠ 9 ∧ c.toNat ≠ 10 ∧ c.toNat ≠ 61 ∧ c.toNat ≠ 44) : blank c = false ∧ c ≠ 10 ∧ c ≠ 61 ∧ c ≠ 44 := by
  have k : ∀ d : UInt8, c.toNat ≠ d.toNat → c ≠ d := fun d hd e => hd (by rw [e])
  refine ⟨?_, k 10 h.2.2.1, k 61 h.2.2.2.1, k 44 h.2.2.2.2⟩
  have h1 := k 32 h.1
  have h2 := k 9 h.2.1
  simp [blank, h1, h2]
theorem dec_solid (n : Nat) : Solid (Go.Lib.decDigits n) := ⟨decDigits_ne n, fun c hc => solid_c (by have := dec_mem hc; omega)⟩
theorem fmtA_c {six : Bool} {A : List UInt8} {c : UInt8} (h : c ∈ fmtA six A) : 46 ≤ c.toNat ∧ c.toNat ≤ 102 ∧ c.toNat ≠ 61 := by have := fmtA_mem h; omega
theorem fmtE_solid {six : Bool} {A : List UInt8} {p : Nat} (hok : okA six A = true) (h1 : 1 ≤ p) (h2 : p ≤ 65535) : Solid (fmtE six A p) := by
  have e : fmtE six A p = brk six (fmtA six A) ++ 58 :: Go.Lib.decDigits p := by rw [fmtE, if_pos ⟨hok, by omega, by omega⟩]; rfl
  rw [e]
  refine ⟨by simp, fun c hc => ?_⟩
  rcases List.mem_append.1 hc with hc | hc
  · cases six with
    | true =>
      have hc : c ∈ 91 :: (fmtA true A ++ [93]) := hc
      simp only [List.mem_cons, List.mem_append, List.mem_singleton, List.not_mem_nil, or_false] at hc
      rcases hc with rfl | hc | rfl
      · decide
      · exact solid_c (by have := fmtA_c hc; omega)
      · decide
    | false => exact solid_c (by have := fmtA_c (six := false) (A := A) hc; omega)
  · rcases List.mem_cons.1 hc with rfl | hc
    · decide
    · exact (dec_solid p).2 c hc
theorem fmtP_solid {six : Bool} {A : List UInt8} {p : Nat} (hok : vld six A p = true) : Solid (fmtP six A p) := by
  have e : fmtP six A p = fmtA six A ++ 47 :: Go.Lib.decDigits p := by rw [fmtP, if_pos hok]; rfl
  rw [e]
  refine ⟨by simp, fun c hc => ?_⟩
  rcases List.mem_append.1 hc with hc | hc
  · exact solid_c (by have := fmtA_c hc; omega)
  · rcases List.mem_cons.1 hc with rfl | hc
    · decide
    · exact (dec_solid p).2 c hc
theorem mk64_61 : ∀ j : Fin 64, mk64 j.1 ≠ 61 := by decide
theorem text_val (k : List UInt8) : ValOk (textS k) := by
  obtain ⟨c, m, h, hc⟩ := text_shape k
  refine ⟨⟨⟨c, _, h, hc⟩, c :: m, 61, by rw [h]; simp, by decide⟩, textP k 43, .inr rfl, fun h => ?_, fun h => (text_mem (k := k) (c := 10) (by rw [textS]; exact List.mem_append_left _ h)).1 rfl⟩
  simp only [textP, List.mem_map, List.mem_range] at h
  obtain ⟨i, _, e⟩ := h
  exact mk64_61 ⟨sixP k i 6, six_lt k i⟩ e
theorem join_next (x y : List UInt8) (r : List (List UInt8)) : Go.Lib.join (x :: y :: r) [44, 32] = x ++ 44 :: Go.Lib.join ((32 :: y) :: r) [44, 32] := by
  rw [Go.Lib.join_cons, Go.Lib.join_cons]; simp [Go.Lib.joinTail]
theorem join_next2 (x y : List UInt8) (r : List (List UInt8)) : Go.Lib.join (x :: y :: r) [44, 32] = x ++ 44 :: 32 :: Go.Lib.join (y :: r) [44, 32] := by
  rw [Go.Lib.join_cons, Go.Lib.join_cons]; simp [Go.Lib.joinTail]
theorem split_join : ∀ (r : List (List UInt8)) (x : List UInt8), (44 : UInt8) ∉ x → (∀ y ∈ r, (44 : UInt8) ∉ y) → splitL 44 (Go.Lib.join (x :: r) [44, 32]) = x :: r.map (32 :: ·)
  | [], x, hx, _ => by rw [Go.Lib.join_one, splitL_has 44 x hx]; rfl
  | y :: r, x, hx, h => by
    rw [join_next, splitL_app 44 _ x hx, split_join r (32 :: y) (fun hm => by
      rcases List.mem_cons.1 hm with hm | hm
      · exact absurd hm (by decide)
      · exact h y (by simp) hm) fun z hz => h z (by simp [hz])]
    rfl
theorem join_val : ∀ (r : List (List UInt8)) (x : List UInt8), (∀ y ∈ x :: r, Solid y) → Edge (Go.Lib.join (x :: r) [44, 32]) ∧ (61 : UInt8) ∉ Go.Lib.join (x :: r) [44, 32] ∧ (10 : UInt8) ∉ Go.Lib.join (x :: r) [44, 32]
  | [], x, h => by
    have hx := h x (by simp)
    rw [Go.Lib.join_one]
    exact ⟨hx.edge, fun h1 => (hx.2 _ h1).2.2.1 rfl, fun h1 => (hx.2 _ h1).2.1 rfl⟩
  | y :: r, x, h => by
    have hx := h x (by simp)
    obtain ⟨⟨_, w, d, hw, hd⟩, i2, i3⟩ := join_val r y fun z hz => h z (by simp [hz])
    rw [join_next2]
    obtain ⟨⟨c, u, hu, hc⟩, _⟩ := hx.edge
    refine ⟨⟨⟨c, _, by rw [hu, List.cons_append], hc⟩, x ++ 44 :: 32 :: w, d, by rw [hw]; simp, hd⟩, fun hm => ?_, fun hm => ?_⟩
    all_goals
      rcases List.mem_append.1 hm with hm | hm
      · first | exact (hx.2 _ hm).2.2.1 rfl | exact (hx.2 _ hm).2.1 rfl
      · rcases List.mem_cons.1 hm with hm | hm
        · exact absurd hm (by decide)
        · rcases List.mem_cons.1 hm with hm | hm
          · exact absurd hm (by decide)
          · first | exact i2 hm | exact i3 hm
theorem sv_named {S S1 : Ps} {n v : List UInt8} (hn : NameOk n) (hv : ValOk v) (h : ∀ l, Named l n v → LStep S l S1) : StepV S (n, some v) S1 := by
  obtain ⟨en, ⟨c, u, hc, h35⟩, h61, h10⟩ := hn
  refine ⟨⟨h61, h10, hv.2⟩, fun l pre post hl hp hq => ?_⟩
  obtain ⟨p1, p2, b1, b2, rfl⟩ := hl
  exact h _ (named_of hc h35 h61 en hv.1 b1 b2 hp hq)
theorem sv_plain {S S1 : Ps} {t : List UInt8} (h61 : (61 : UInt8) ∉ t) (h10 : (10 : UInt8) ∉ t) (he : t = [] ∨ Edge t) (h : ∀ l, trimT l = t → LStep S l S1) : StepV S (t, none) S1 := by
  refine ⟨⟨h61, h10, trivial⟩, fun l pre post hl hp hq => ?_⟩
  have hl : l = t := hl
  subst hl
  rcases he with rfl | he
  · refine h _ (trim_blank fun c hc => ?_)
    rcases List.mem_append.1 hc with hc | hc
    · exact hp c hc
    · exact hq c hc
  · exact h _ (trim_core hp hq he)
theorem nameOk {n : List UInt8} (c : UInt8) (u w : List UInt8) (d : UInt8) (h1 : n = c :: u) (h2 : n = w ++ [d]) (hc : blank c = false) (hd : blank d = false) (h35 : c.toNat ≠ 35) (h61 : (61 : UInt8) ∉ n) (h10 : (10 : UInt8) ∉ n) : NameOk n := ⟨⟨⟨c, u, h1, hc⟩, w, d, h2, hd⟩, ⟨c, u, h1, h35⟩, h61, h10⟩
theorem ok_priv : NameOk sPriv := nameOk 80 _ [80, 114, 105, 118, 97, 116, 101, 75, 101] 121 rfl rfl (by decide) (by decide) (by decide) (by decide) (by decide)
theorem ok_port : NameOk sPort := nameOk 76 _ [76, 105, 115, 116, 101, 110, 80, 111, 114] 116 rfl rfl (by decide) (by decide) (by decide) (by decide) (by decide)
theorem ok_pub : NameOk sPub := nameOk 80 _ [80, 117, 98, 108, 105, 99, 75, 101] 121 rfl rfl (by decide) (by decide) (by decide) (by decide) (by decide)
theorem ok_shared : NameOk sShared := nameOk 80 _ [80, 114, 101, 115, 104, 97, 114, 101, 100, 75, 101] 121 rfl rfl (by decide) (by decide) (by decide) (by decide) (by decide)
theorem ok_end : NameOk sEnd := nameOk 69 _ [69, 110, 100, 112, 111, 105, 110] 116 rfl rfl (by decide) (by decide) (by decide) (by decide) (by decide)
theorem ok_keep : NameOk sKeep := nameOk 80 _ [80, 101, 114, 115, 105, 115, 116, 101, 110, 116, 75, 101, 101, 112, 97, 108, 105, 118] 101 rfl rfl (by decide) (by decide) (by decide) (by decide) (by decide)
theorem ok_allow : NameOk sAllow := nameOk 65 _ [65, 108, 108, 111, 119, 101, 100, 73, 80] 115 rfl rfl (by decide) (by decide) (by decide) (by decide) (by decide)
def ordN : List (List UInt8) := [sPub, sShared, sEnd, sKeep, sAllow]
def NmB (k : Nat) (nm : List (List UInt8)) : Prop := sPub ∈ nm ∧ nm.length ≤ k ∧ ∀ x ∈ nm, x ∈ ordN.take k
theorem opt_step {K : List UInt8} {port : Int} {ps : List Pe} {p p' : Pe} {nm : List (List UInt8)} {k : Nat} {c : Prop} [Decidable c] {s v : List UInt8} (hk : ordN[k]? = some s) (hnot : s ∉ ordN.take k) (hk9 : k ≤ 9) (h : NmB k nm) (hs : NameOk s) (hp : ps.length ≤ 9) (h1 : c → p = p') (h2 : ¬ c → ValOk v ∧ ValP p s v p') :
    ∃ nm', NmB (k + 1) nm' ∧ StepsV ⟨K, port, ps ++ [p], nm, true⟩ (if c then [] else [(s, some v)]) ⟨K, port, ps ++ [p'], nm', true⟩ := by
  have ht : ordN.take (k + 1) = ordN.take k ++ [s] := by
    obtain ⟨hl, he⟩ := List.getElem?_eq_some_iff.1 hk
    rw [List.take_succ_eq_append_getElem hl, he]
  obtain ⟨a1, a2, a3⟩ := h
  by_cases hc : c
  · rw [if_pos hc, h1 hc]
    exact ⟨nm, ⟨a1, by omega, fun x hx => by rw [ht]; exact List.mem_append_left _ (a3 x hx)⟩, rfl⟩
  · rw [if_neg hc]
    obtain ⟨hv, hvp⟩ := h2 hc
    refine ⟨nm ++ [s], ⟨List.mem_append_left _ a1, by simp; omega, fun x hx => ?_⟩, _, sv_named hs hv fun l hl => .val hl (fun hm => hnot (a3 s hm)) (by omega) hvp hp, rfl⟩
    rw [ht]
    rcases List.mem_append.1 hx with hx | hx
    · exact List.mem_append_left _ (a3 x hx)
    · exact List.mem_append_right _ hx
theorem itoa_dec {n : Int} (h : 0 ≤ n) : Go.Lib.itoa n = Go.Lib.decDigits n.toNat := by
  rw [Go.Lib.itoa]; split
  · omega
  · rfl
theorem okPe_parts {p : Pe} (h : okPe p = true) : (p.2.2.1 = false → p.2.2.2.1 = pfO) ∧ (p.2.2.1 = true → okEP p.2.2.2.1 = true) ∧ (p.2.2.2.2.1 = 0 ∨ (1000 ≤ p.2.2.2.2.1 ∧ p.2.2.2.2.1 ≤ 1073741824)) ∧ ∀ q ∈ p.2.2.2.2.2, vld q.1.1 q.1.2 q.2 = true := by
  simp only [okPe, Bool.and_eq_true, timed, Bool.or_eq_true, beq_iff_eq, decide_eq_true_eq, List.all_eq_true, vldP] at h
  obtain ⟨h1, h2, h3⟩ := h
  refine ⟨fun hf => ?_, fun hf => ?_, h2, h3⟩
  · rw [hf] at h1; simpa using h1
  · rw [hf] at h1; simpa using h1
theorem peer_steps {K : List UInt8} {port : Int} {ps : List Pe} {p : Pe} {nm : List (List UInt8)} (hc : closes ps nm) (hps : ps.length ≤ 9) (hp : PeG p) :
    ∃ nm', closes (ps ++ [p]) nm' ∧ StepsV ⟨K, port, ps, nm, true⟩ (peLn p) ⟨K, port, ps ++ [p], nm', true⟩ := by
  obtain ⟨hl, hok⟩ := hp
  obtain ⟨o1, o2, o3, o4⟩ := okPe_parts hok
  obtain ⟨pub, shared, has, ep, keep, al⟩ := p
  obtain ⟨l1, l2, l3, l4, l5⟩ := hl
  dsimp only at *
  have s0 : StepsV ⟨K, port, ps, nm, true⟩ [([], none), (sPeer, none), (sPub, some (textS pub))] ⟨K, port, ps ++ [(pub, peO.2)], [sPub], true⟩ :=
    ⟨_, sv_plain (by simp) (by simp) (.inl rfl) fun l hl => .skip (.inl hl), _, sv_plain (t := sPeer) (by decide) (by decide) (.inr ⟨⟨91, _, rfl, by decide⟩, [91, 80, 101, 101, 114], 93, rfl, by decide⟩) fun l hl => .peer hl hc hps, _,
     sv_named ok_pub (text_val pub) fun l hl => .val (nm := []) hl (by simp) (by simp) (.pub (unkey_text l1) l1) hps, rfl⟩
  have b0 : NmB 1 [sPub] := ⟨by simp, by simp, fun x hx => hx⟩
  obtain ⟨n1, b1, s1⟩ := opt_step (K := K) (port := port) (ps := ps) (p := (pub, peO.2)) (p' := (pub, shared, peO.2.2)) (k := 1) (c := shared = zK) (s := sShared) (v := textS shared) rfl (by decide) (by decide) b0 ok_shared hps (fun h => by rw [h]; rfl) fun _ => ⟨text_val shared, .shared (unkey_text l2) l2⟩
  obtain ⟨n2, b2, s2⟩ := opt_step (K := K) (port := port) (ps := ps) (p := (pub, shared, peO.2.2)) (p' := (pub, shared, has, ep, 0, [])) (k := 2) (c := has = false) (s := sEnd) (v := fmtE ep.1.1 ep.1.2 ep.2) rfl (by decide) (by decide) b1 ok_end hps (fun h => by rw [h, o1 h]; rfl) fun h => by
    have hh : has = true := by simpa using h
    subst hh
    have hk := o2 rfl
    simp only [okEP, Bool.and_eq_true, decide_eq_true_eq] at hk
    obtain ⟨k1, k2, k3⟩ := hk
    obtain ⟨⟨six, A⟩, n⟩ := ep
    dsimp only at *
    obtain ⟨m, rfl⟩ : ∃ m : Nat, n = m := ⟨n.toNat, by omega⟩
    exact ⟨(fmtE_solid k1 (by omega) (by omega)).val, .endp (parseE_back l3.1 k1 (by omega) (by omega)) l3⟩
  obtain ⟨n3, b3, s3⟩ := opt_step (K := K) (port := port) (ps := ps) (p := (pub, shared, has, ep, 0, [])) (p' := (pub, shared, has, ep, keep, [])) (k := 3) (c := keep = 0) (s := sKeep) (v := Go.Lib.itoa keep) rfl (by decide) (by decide) b2 ok_keep hps (fun h => by rw [h]) fun h => by
    obtain ⟨m, rfl⟩ : ∃ m : Nat, keep = m := ⟨keep.toNat, by omega⟩
    rw [itoa_dec (by omega), Int.toNat_natCast]
    have hv := (dec_all m).2.1
    have := ValP.keep (p := (pub, shared, has, ep, 0, [])) (T := Go.Lib.decDigits m) (decOk_dec 9 m (by omega)) (by rw [hv]; omega)
    rw [hv] at this
    exact ⟨(dec_solid m).val, this⟩
  obtain ⟨n4, b4, s4⟩ := opt_step (K := K) (port := port) (ps := ps) (p := (pub, shared, has, ep, keep, [])) (p' := (pub, shared, has, ep, keep, al)) (k := 4) (c := al = []) (s := sAllow) (v := Go.Lib.join (fmtPs al) [44, 32]) rfl (by decide) (by decide) b3 ok_allow hps (fun h => by rw [h]) fun h => by
    have key : ∀ q ∈ al, Solid (fmtP q.1.1 q.1.2 q.2) ∧ parseP (fmtP q.1.1 q.1.2 q.2) = some (q.1.1, q.1.2, q.2.toNat) ∧ qP (q.1.1, q.1.2, q.2.toNat) = q := fun q hq => by
      have hv := o4 q hq
      have hq16 := (l5 q hq).1
      obtain ⟨⟨six, A⟩, n⟩ := q
      dsimp only at *
      have := vld_range hv
      obtain ⟨m, rfl⟩ : ∃ m : Nat, n = m := ⟨n.toNat, by omega⟩
      exact ⟨fmtP_solid hv, parseP_back hq16 hv, rfl⟩
    obtain ⟨q, r, rfl⟩ := List.exists_cons_of_ne_nil h
    have hsol : ∀ y ∈ fmtPs (q :: r), Solid y := fun y hy => by
      obtain ⟨z, hz, rfl⟩ := List.mem_map.1 hy
      exact (key z hz).1
    obtain ⟨j1, j2, j3⟩ := join_val (fmtPs r) (fmtP q.1.1 q.1.2 q.2) hsol
    refine ⟨⟨j1, _, .inl rfl, j2, j3⟩, ?_⟩
    have hsp : splitL 44 (Go.Lib.join (fmtPs (q :: r)) [44, 32]) = fmtP q.1.1 q.1.2 q.2 :: (fmtPs r).map (32 :: ·) := split_join (fmtPs r) _ (fun hm => ((hsol _ (by simp [fmtPs])).2 _ hm).2.2.2 rfl) fun y hy hm => ((hsol y (List.mem_cons_of_mem _ hy)).2 _ hm).2.2.2 rfl
    have h1 : (splitL 44 (Go.Lib.join (fmtPs (q :: r)) [44, 32])).map (fun t => parseP (trimT t)) = ((q :: r).map fun q => (q.1.1, q.1.2, q.2.toNat)).map some := by
      rw [hsp]
      have e1 : parseP (trimT (fmtP q.1.1 q.1.2 q.2)) = some (q.1.1, q.1.2, q.2.toNat) := by
        have := trim_core (pre := []) (post := []) allB_nil allB_nil (key q (by simp)).1.edge
        rw [List.nil_append, List.append_nil] at this
        rw [this]; exact (key q (by simp)).2.1
      rw [List.map_cons, e1, List.map_cons, List.map_cons]
      congr 1
      rw [fmtPs, List.map_map, List.map_map, List.map_map]
      refine List.map_congr_left fun z hz => ?_
      have hz2 := key z (by simp [hz])
      have := trim_core (pre := [32]) (post := []) (fun c hc => by rw [List.mem_singleton] at hc; subst hc; decide) allB_nil hz2.1.edge
      rw [List.append_nil] at this
      show parseP (trimT ([32] ++ fmtP z.1.1 z.1.2 z.2)) = some _
      rw [this]; exact hz2.2.1
    have h2 : ((q :: r).map fun q => (q.1.1, q.1.2, q.2.toNat)).map qP = q :: r := by
      rw [List.map_map]
      conv => rhs; rw [← List.map_id (q :: r)]
      exact List.map_congr_left fun z hz => (key z hz).2.2
    have := ValP.allow (p := (pub, shared, has, ep, keep, [])) (T := Go.Lib.join (fmtPs (q :: r)) [44, 32]) rfl h1 fun x hx => by
      obtain ⟨z, hz, rfl⟩ := List.mem_map.1 hx
      rw [(key z hz).2.2]; exact l5 z hz
    rw [h2] at this
    exact this
  exact ⟨n4, ⟨by have := b4.2.1; omega, .inr ⟨by simp, b4.1⟩⟩, s0.app (s1.app (s2.app (s3.app s4)))⟩
theorem peers_steps {K : List UInt8} {port : Int} : ∀ {ps2 ps : List Pe} {nm : List (List UInt8)}, closes ps nm → ps.length + ps2.length ≤ 8 → (∀ p ∈ ps2, PeG p) →
    ∃ nm', closes (ps ++ ps2) nm' ∧ StepsV ⟨K, port, ps, nm, true⟩ (ps2.flatMap peLn) ⟨K, port, ps ++ ps2, nm', true⟩
  | [], ps, nm, hc, _, _ => ⟨nm, by rw [List.append_nil]; exact hc, by rw [List.append_nil]; rfl⟩
  | p :: ps2, ps, nm, hc, hl, hp => by
    simp only [List.length_cons] at hl
    obtain ⟨n1, c1, s1⟩ := peer_steps (K := K) (port := port) hc (by omega) (hp p (by simp))
    obtain ⟨n2, c2, s2⟩ := peers_steps (K := K) (port := port) (ps2 := ps2) c1 (by simp; omega) fun q hq => hp q (by simp [hq])
    rw [List.append_assoc, List.singleton_append] at c2 s2
    exact ⟨n2, c2, by rw [List.flatMap_cons]; exact s1.app s2⟩
theorem cf_steps {K : List UInt8} {port : Int} {ps : List Pe} (h : CfGood K port ps) : ∃ nm, closes ps nm ∧ StepsV ⟨z32, 0, [], [], false⟩ (cfLn K port ps) ⟨K, port, ps, nm, true⟩ := by
  obtain ⟨h1, h2, h3, _, _, _, h7⟩ := h
  obtain ⟨m, rfl⟩ : ∃ m : Nat, port = m := ⟨port.toNat, by omega⟩
  have hv := (dec_all m).2.1
  have s0 : StepsV ⟨z32, 0, [], [], false⟩ [(sIface, none), (sPriv, some (textS K)), (sPort, some (Go.Lib.itoa m))] ⟨K, m, [], [sPriv, sPort], true⟩ := by
    refine ⟨_, sv_plain (t := sIface) (by decide) (by decide) (.inr ⟨⟨91, _, rfl, by decide⟩, [91, 73, 110, 116, 101, 114, 102, 97, 99, 101], 93, rfl, by decide⟩) fun l hl => .iface hl, _,
      sv_named ok_priv (text_val K) fun l hl => .priv (nm := []) hl (by simp) (by simp) (unkey_text h1) h1, _, ?_, rfl⟩
    rw [itoa_dec (by omega), Int.toNat_natCast]
    refine sv_named ok_port (dec_solid m).val fun l hl => ?_
    have := LStep.port (K := K) (port := 0) (nm := [sPriv]) hl (by decide) (by decide) (decOk_dec 9 m (by omega)) (by rw [hv]; omega)
    rw [hv] at this
    exact this
  obtain ⟨nm, c, s⟩ := peers_steps (K := K) (port := m) (ps2 := ps) (ps := []) (nm := [sPriv, sPort]) ⟨by decide, .inl ⟨rfl, by decide, by decide⟩⟩ (by simpa using h7) h3
  exact ⟨nm, c, s0.app s⟩
theorem cf_read {K : List UInt8} {port : Int} {ps : List Pe} (h : CfGood K port ps) (sp : List UInt8) : ∃ nm, closes ps nm ∧ Steps ⟨z32, 0, [], [], false⟩ (splitL 10 (Go.Lib.trimSuffix (varT sp (cfT K port ps)) [10])) ⟨K, port, ps, nm, true⟩ := by
  obtain ⟨nm, c, s⟩ := cf_steps h
  have := run_var s sp [] allB_nil
  rw [lnsT_cf, List.nil_append] at this
  exact ⟨nm, c, steps_suffix this⟩
end Go.Proofs.YtdceppjoipoohaaGreatDoor
end
section
namespace Go.Proofs.YtdceppjoipoohaaGreatDoor
open Go Go.Sy
set_option linter.all false
set_option maxRecDepth 100000
set_option maxHeartbeats 4000000
theorem fmtA_len2 (six : Bool) (A : List UInt8) : (fmtA six A).length ≤ 40 := by
  rw [fmtA]
  split
  · split
    · have := join_len [58] (parts6 A 8) 4 fun x hx => by
        simp only [parts6, List.mem_map, List.mem_range] at hx
        obtain ⟨i, _, rfl⟩ := hx
        exact hexT_len 3 _ (by have := grp_lt A i; omega)
      have hl : (parts6 A 8).length = 8 := by simp [parts6]
      rw [hl] at this
      simpa using this
    · have := join_len [46] (parts4 A 4) 3 fun x hx => by
        simp only [parts4, List.mem_map, List.mem_range] at hx
        obtain ⟨i, _, rfl⟩ := hx
        exact decDigits_len 2 _ (by have := (A.getD i 0).toNat_lt; omega)
      have hl : (parts4 A 4).length = 4 := by simp [parts4]
      rw [hl] at this
      simp at this
      omega
  · simp
theorem fmtP_len2 {six : Bool} {A : List UInt8} {p : Int} (hok : vld six A p = true) : (fmtP six A p).length ≤ 44 := by
  have hr := vld_range hok
  obtain ⟨m, rfl⟩ : ∃ m : Nat, p = m := ⟨p.toNat, by omega⟩
  have e : fmtP six A m = fmtA six A ++ 47 :: Go.Lib.decDigits m := by rw [fmtP, if_pos hok]; rfl
  have := fmtA_len2 six A
  have := decDigits_len 2 m (by omega)
  rw [e]; simp; omega
theorem fmtE_len2 {six : Bool} {A : List UInt8} {p : Int} (hok : okA six A = true) (h1 : 1 ≤ p) (h2 : p ≤ 65535) : (fmtE six A p).length ≤ 48 := by
  obtain ⟨m, rfl⟩ : ∃ m : Nat, p = m := ⟨p.toNat, by omega⟩
  have e : fmtE six A m = brk six (fmtA six A) ++ 58 :: Go.Lib.decDigits m := by rw [fmtE, if_pos ⟨hok, by omega, by omega⟩]; rfl
  have := fmtA_len2 six A
  have := decDigits_len 4 m (by omega)
  rw [e, brk]
  split <;> simp <;> omega
theorem peT_len2 {p : Pe} (h : PeG p) : (peT p).length ≤ 260 + p.2.2.2.2.2.length * 46 := by
  obtain ⟨o1, o2, o3, o4⟩ := okPe_parts h.2
  have h1 : (peT1 p).length ≤ 70 := by simp [peT1, lnT_len, textS_len]
  have h2 : (peT2 p).length ≤ 60 := by unfold peT2; split <;> simp [lnT_len, textS_len]
  have h3 : (peT3 p).length ≤ 60 := by
    unfold peT3
    split
    · rename_i hh
      have hk := o2 hh
      simp only [okEP, Bool.and_eq_true, decide_eq_true_eq] at hk
      have := fmtE_len2 hk.1 hk.2.1 hk.2.2
      simp [lnT_len]; omega
    · simp
  have h4 : (peT4 p).length ≤ 40 := by
    unfold peT4
    split
    · simp
    · have : (Go.Lib.itoa p.2.2.2.2.1).length ≤ 11 := by
        rw [itoa_dec (by omega)]; exact Nat.le_succ_of_le (decDigits_len 9 _ (by omega))
      simp [lnT_len]; omega
  have h5 : (peT5 p).length ≤ 14 + p.2.2.2.2.2.length * 46 := by
    unfold peT5
    split
    · simp
    · have := join_len [44, 32] (fmtPs p.2.2.2.2.2) 44 fun x hx => by
        obtain ⟨q, hq, rfl⟩ := List.mem_map.1 hx
        exact fmtP_len2 (o4 q hq)
      rw [fmtPs_len] at this
      simp [lnT_len] at this ⊢
      omega
  simp only [peT, List.length_append]
  omega
theorem peTs_len2 : ∀ {ps : List Pe}, (∀ p ∈ ps, PeG p) → (ps.flatMap peT).length ≤ ps.length * 260 + (alls ps).length * 46
  | [], _ => by simp [alls]
  | p :: ps, h => by
    have h1 := peT_len2 (h p (by simp))
    have h2 := peTs_len2 (ps := ps) fun q hq => h q (by simp [hq])
    have h3 : (alls (p :: ps)).length = p.2.2.2.2.2.length + (alls ps).length := by simp [alls]
    rw [List.flatMap_cons, List.length_append, List.length_cons, h3, Nat.succ_mul, Nat.add_mul]
    omega
theorem cfT_len {K : List UInt8} {port : Int} {ps : List Pe} (h : CfGood K port ps) : (cfT K port ps).length ≤ 4000 ∧ cfT K port ps ≠ [] := by
  obtain ⟨h1, h2, h3, _, _, h6, h7⟩ := h
  have a := cfH_len K (port := port) (by omega)
  have b := peTs_len2 h3
  refine ⟨?_, fun he => ?_⟩
  · rw [cfT, List.length_append]; omega
  · have := congrArg List.length he
    simp [cfT, cfH] at this
theorem varT_len : ∀ (s sp : List UInt8), (varT sp s).length ≤ s.length * 9
  | [], sp => by simp [varT]
  | c :: r, sp => by
    have hp : ∀ o, (pc c o).length ≤ 9 := fun o => by
      cases o with
      | none => simp [pc]
      | some k => unfold pc; dsimp only; split; · simp [note]
                  · split; · simp
                    · split; · simp
                      · split <;> simp
    rw [varT]
    split
    · have := hp sp.head?
      have := varT_len r sp.tail
      rw [List.length_append, List.length_cons, Nat.succ_mul]; omega
    · have := varT_len r sp
      rw [List.length_cons, List.length_cons, Nat.succ_mul]; omega
theorem varT_ne : ∀ {s sp : List UInt8}, s ≠ [] → varT sp s ≠ []
  | [], _, h => absurd rfl h
  | c :: r, sp, _ => by
    have hp : ∀ o, pc c o ≠ [] := fun o => by
      cases o with
      | none => simp [pc]
      | some k => unfold pc; dsimp only; split; · simp [note]
                  · split; · simp
                    · split; · simp
                      · split <;> simp
    rw [varT]
    split
    · intro he
      exact hp _ (List.append_eq_nil_iff.1 he).1
    · simp
end Go.Proofs.YtdceppjoipoohaaGreatDoor
end
section
namespace Go.Proofs.YtdceppjoipoohaaGreatDoor
open Go Go.Sy
set_option linter.all false
set_option maxRecDepth 100000
set_option maxHeartbeats 4000000
theorem readLong_in (s : List UInt8) (hm : 4000 < s.length) (hs : s.length < 1000000) : PC Tryz.prog false 6 [.str s] (.tup [cfgC z32 0 (.lst 0 [] false), .int .i64 0, .int .i64 3]) := by
  refine acall_intro mixed Tryz.func6 rfl ca6 (by kernel_rfl) (by rw [Tryz.ntmps6]; simp) ?_
  repeat' (first | (with_reducible first | apply jA | apply jB | apply jC | apply jD | apply jE | apply jF | apply jG | apply jH | apply jI | apply jJ | apply jK | apply jL | apply jM | apply jN | apply jO) | ((with_reducible first | apply jP | apply jQ); rfl) | ((first | ((with_reducible first | apply jR | apply jS | apply jT); rfl; rfl) | (with_reducible first | apply jU | apply jV | apply jW) | ((with_reducible first | apply jX | apply jY | apply jZ); rfl)); all_goals (first | ((with_reducible show Is _ _); exact kE) | ((with_reducible refine fun (hc : (_ : Bool) = _) => ?_); (try simp only [xZ, xY, xP, reduceCtorEq] at hc); (try (have hx : True := hc; clear hx hc)); (try exact kX)) | ((fail_if_success (with_reducible first | show Is _ _ | show ACall _ _ _ _ _)); (try ((with_reducible show _ ∨ _); exact kT))))))
  rfl
end Go.Proofs.YtdceppjoipoohaaGreatDoor
end
