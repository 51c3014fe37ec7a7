/- Lemmas and definitions of this claim (own texts, joined by a program; what the claim does not use is left out). -/
import Derived.Test.YtdceppjoipoohaaDoorCc10
section
namespace Go.Sy
open Go.RowKit (Below)
section
variable {P : Program} {N n : Nat} {I0 I : Nat → Nat → Prop} {μ0 μ : List (List Place)} {B : List Box} {w0 w : World} {o : Oper} {a : Act} {fr : Fr} {ops : Array Oper}
def TwoOk (P : Program) (n : Nat) (fr : Fr) (B : List Box) (o1 o2 : Oper) (K : Fr → List Box → Prop) : Prop :=
  ∃ (nz : Bool) (live : List (Nat × CV)), dstOk n o1 = true ∧ dstOk n o2 = true ∧ noDefer o1 = true ∧ noDefer o2 = true ∧ o1.guard = none ∧ o2.guard = none ∧
    (∀ p ∈ live, fz nz false B 6 (fr p.1) = some p.2) ∧
    ∀ fr' : Fr, (∀ p ∈ live, fr' p.1 = p.2) → StepC P o1 fr' [] fun c1 B1 => StepC P o2 (upd fr' o1.dst c1) B1 fun c2 B2 => ∃ c', fz true true B2 6 c2 = some c' ∧ ∀ v, K (upd (upd fr o1.dst (.raw v)) o2.dst c') B
theorem frame_put {v : Value} {c : CV} (hfr : ∀ i, V I μ w (fr i) (a.tmps.getD i undef)) {d : Option Tmp} (hd : ∀ t, d = some t → t < a.tmps.size) {I' : Nat → Nat → Prop} {μ' : List (List Place)} {w' : World} (hk : Keep I μ w I' μ' w') (hv : V I' μ' w' c v) :
    ∀ i, V I' μ' w' (upd fr d c i) ((a.put d v).tmps.getD i undef) := fun i => by
  rw [put_getD a d v hd]
  unfold upd
  cases d with
  | none => simpa using (hfr i).ext hk
  | some t =>
    by_cases ht : i = t
    · subst ht; simpa using hv
    · rw [if_neg (by simpa using fun h => ht h.symm)]
      simp only [if_neg ht]
      exact (hfr i).ext hk
theorem two_sound {o1 o2 : Oper} {K : Fr → List Box → Prop} {Q' : Exit → Act → World → Prop} {rest : List Oper} (hs : St N n I0 μ0 w0 fr B a I μ w) (h : TwoOk P n fr B o1 o2 K)
    (hk : ∀ fr' B' a' I' μ' w', K fr' B' → St N n I0 μ0 w0 fr' B' a' I' μ' w' → wpListIn (freeF none) 0 P ops Q' rest a' w') : wpListIn (freeF none) 0 P ops Q' (o1 :: o2 :: rest) a w := by
  obtain ⟨nz, live, h5, h6, n1, n2, g1, g2, hl, h⟩ := h
  have hd1 : ∀ t, o1.dst = some t → t < n := fun t ht => by simpa [dstOk, ht] using h5
  have hd2 : ∀ t, o2.dst = some t → t < n := fun t ht => by simpa [dstOk, ht] using h6
  have hB := hs.box
  let fr' : Fr := fun i => match live.find? (fun p => p.1 == i) with | some p => p.2 | none => .raw (a.tmps.getD i undef)
  have hfr' : ∀ i, V (fun b _ => b < w.heap.size) [] w (fr' i) (a.tmps.getD i undef) := fun i => by
    show V _ _ _ (match live.find? (fun p => p.1 == i) with | some p => p.2 | none => .raw (a.tmps.getD i undef)) _
    split
    · rename_i p hp
      have h1 := List.mem_of_find?_eq_some hp
      have h2 : p.1 = i := by simpa using List.find?_some hp
      have h3 := hl p h1
      rw [h2] at h3
      exact fz_rel (J := fun b _ => b < w.heap.size) hB (fun _ b j h => hB.imm b j h) (fun β ps p _ h1 h2 => (hB.places β ps p h1 h2).2.2.lt) 6 false [fr i] [a.tmps.getD i undef] [p.2] (hs.frame i) (omap_one h3)
    · exact .raw _ (by simp) (.nil _)
  have hl2 : ∀ p ∈ live, fr' p.1 = p.2 := fun p hp => by
    show (match live.find? (fun q => q.1 == p.1) with | some q => q.2 | none => .raw (a.tmps.getD p.1 undef)) = p.2
    split
    · rename_i q hq
      have h1 := List.mem_of_find?_eq_some hq
      have h2 : q.1 = p.1 := by simpa using List.find?_some hq
      have h3 := hl q h1
      have h4 := hl p hp
      rw [h2, h4] at h3
      simpa using h3.symm
    · rename_i hq
      have := List.find?_eq_none.1 hq p hp
      simp at this
  have hB0 : BRel w.heap.size (fun b _ => b < w.heap.size) [] [] w := BRel.none_ w _ (fun _ _ h => h) (hB.tabs.mono hB.imm)
  have hw : ∀ {o : Oper} {a : Act}, o.guard = none → Region.wanted o (yielded ops a.tmps) = true := fun hg => by unfold Region.wanted; rw [hg]
  unfold wpListIn
  rw [hw g1, if_pos rfl]
  refine wp_free n1 ?_
  refine stepF_sound hB0 hfr' (h fr' hl2) fun c1 v1 B1 I1 μ1 w1 hK1 st1 => ?_
  unfold wpListIn
  rw [hw g2, if_pos rfl]
  refine wp_free n2 ?_
  have hfr1 := frame_put hfr' (d := o1.dst) (fun t ht => by rw [hs.size]; exact hd1 t ht) st1.ext.toKeep st1.val
  refine stepF_sound st1.box hfr1 hK1 fun c2 v2 B2 I2 μ2 w2 ⟨c', hz, hK2⟩ st2 => ?_
  have hbel : Below w.heap.size w w2 := st1.below.trans st2.below
  obtain ⟨b1, b2, b3⟩ := hB.behind (I2 := fun b j => I b j ∨ (w.heap.size ≤ b ∧ b < w2.heap.size)) hbel (fun _ _ h => .inl h) (fun _ _ h => h)
  have hv2 := fz_rel (J := fun b j => I b j ∨ (w.heap.size ≤ b ∧ b < w2.heap.size)) st2.box (fun h => by cases h) (fun β ps p _ h1 h2 => .inr ⟨(st2.box.places β ps p h1 h2).1, (st2.box.places β ps p h1 h2).2.2.lt⟩) 6 false [c2] [v2] [c'] st2.val (omap_one hz)
  have hv3 : V (fun b j => I b j ∨ (w.heap.size ≤ b ∧ b < w2.heap.size)) μ w2 c' v2 := hv2.ext ⟨fun _ _ h => h, fun _ _ _ => rfl, fun _ _ h => h, fun _ h => h, fun _ _ h => by simp at h⟩
  have sA := hs.put (⟨.raw v1 (by simp) (.nil _), b1, b2, b3⟩ : Step N I μ w (.raw v1) v1 B _ μ w2) (d := o1.dst) hd1
  have sB := sA.put (⟨hv3, b1, .refl _ _ _, Below.refl _ _⟩ : Step N _ μ w2 c' v2 B _ μ w2) (d := o2.dst) hd2
  exact hk _ _ _ _ _ _ (hK2 v1) sB
theorem AWc_two {id : Nat} {l1 l2 : List Oper} {o1 o2 : Oper} {Q : Exit → Fr → List Box → Prop} {ops : List Oper} (he : ops = l1 ++ o1 :: o2 :: l2) (n1 : l1.all noDefer = true) (n2 : l2.all noDefer = true)
    (h : WPo P n ops.toArray (fun fr1 B1 => TwoOk P n fr1 B1 o1 o2 fun fr2 B2 => WPo P n ops.toArray (fun fr B => Q .normal fr B) l2 fr2 B2) l1 fr B) : AWc P n (.region id ops.toArray false) Q fr B := by
  intro N I0 μ0 w0 I μ w a Q' hs hq
  refine (wpIn_wide (n := 0)).1 (wpIn_region_list (F := freeF none) ?_)
  rw [show ops.toArray.toList = l1 ++ o1 :: o2 :: l2 by simpa using he]
  refine WPo_in (o1 :: o2 :: l2) l1 fr B n1 h I μ w a hs fun fr1 B1 a1 I1 μ1 w1 hp hs1 => ?_
  refine two_sound hs1 hp fun fr2 B2 a2 I2 μ2 w2 hK hs2 => ?_
  have := WPo_in (r := none) (Q' := Q') [] l2 _ _ n2 hK I2 μ2 w2 a2 hs2 fun fr' B' a' I' μ' w' hQ hst => hq _ _ _ _ _ _ _ hQ hst
  rw [List.append_nil] at this
  exact this
end
end Go.Sy
end
section
namespace Go.Sy
theorem w_cut {P : Program} {n : Nat} {a rest : Code} {Q : Exit → Fr → List Box → Prop} {fr : Fr} {B : List Box} (I : Fr → List Box → Prop) (h1 : WPc P n a (thenC I Q) fr B) (h2 : ∀ fr B, I fr B → WPc P n rest Q fr B) : WPc P n (.seq a rest) Q fr B := by
  have key : ∀ {K K' : Fr → List Box → Prop} (_ : ∀ fr B, K fr B → K' fr B) (e : Exit) (fr : Fr) (B : List Box), thenC K Q e fr B → thenC K' Q e fr B := fun hk e fr B h => by
    cases e with
    | normal => exact hk _ _ h
    | _ => exact h
  exact WPc_mono a (key h2) fr B h1
end Go.Sy
namespace Go.Proofs.YtdceppjoipoohaaDoor
open Go Go.Sy
set_option linter.all false
set_option maxRecDepth 100000
set_option maxHeartbeats 4000000
theorem bool_at {B : List Box} {β : Nat} {args : List CV} {l : List UInt8} {a : Nat} (ha : Is args [.ptr β 0]) (hB : B[β]? = some (cb l a)) (hl : a ≤ l.length ∧ l.length < 4611686018427387904) : ACall Tryd.prog 55 args B fun c B' => c = .bool (decide (nxV l a 2 = 1)) ∧ B' = B.set β (cb l (nxA l a 2)) := by
  have ha : args = _ := ha
  subst ha
  have hs : ∀ y, (B.set β y)[β]? = some y := fun y => bx_self (List.getElem?_eq_some_iff.1 hB).1
  have hn : ∀ {B : List Box} {args : List CV}, Is args [.ptr β 0, .int .i64 2] → B[β]? = some (cb l a) → ACall Tryd.prog 29 args B fun c B' => c = .int .i64 (nxV l a 2) ∧ B' = B.set β (cb l (nxA l a 2)) := fun h h2 => next_at (n := 2) h rfl h2 hl
  have hv : ((nxV l a 2 : Nat) : Int) = 1 ↔ nxV l a 2 = 1 := by omega
  generalize nxV l a 2 = v at *
  refine acall_intro mixed Tryd.func55 rfl ca55 (by kernel_rfl) (by rw [Tryd.ntmps55]; simp) ?_
  repeat' (first | (with_reducible first | apply jA | apply jB | apply jC | apply jD | apply jE | apply jF | apply jG | apply jH | apply jI | apply jJ | apply jK | apply jL | apply jM | apply jN | apply jO) | ((with_reducible first | apply jP | apply jQ); rfl) | ((first | ((with_reducible first | apply jR | apply jS | apply jT); rfl; rfl) | (with_reducible first | apply jU | apply jV | apply jW) | ((with_reducible first | apply jX | apply jY | apply jZ); rfl) | ((with_reducible first | apply kA | apply kB | apply kC); rfl)); all_goals (first | ((with_reducible show Is _ _); exact kE) | ((with_reducible refine fun (hc : (_ : Bool) = _) => ?_); (try simp only [xZ, xY, xP, reduceCtorEq] at hc); (try (have hx : True := hc; clear hx hc)); (try exact kX)) | ((with_reducible show ACall _ _ _ _ _); (first | ((with_reducible apply hn) <;> exact kD))) | ((fail_if_success (with_reducible first | show Is _ _ | show ACall _ _ _ _ _)); (try ((with_reducible show _ ∨ _); exact kT))))))
  refine ⟨?_, rfl⟩
  congr 1
  rw [Bool.eq_iff_iff, beq_iff_eq, decide_eq_true_eq]
  exact hv
def Dr (β : Nat) (l : List UInt8) (W W' : List Box) : Prop := (∃ a, a ≤ l.length ∧ W'[β]? = some (cb l a)) ∧ (∀ k, k < W.length → k ≠ β → W'[k]? = W[k]?) ∧ W.length ≤ W'.length
theorem Dr.of {β : Nat} {l : List UInt8} {W : List Box} {a : Nat} (ha : a ≤ l.length) (h : β < W.length) (G : List Box) : Dr β l W (W.set β (cb l a) ++ G) :=
  ⟨⟨a, ha, by rw [List.getElem?_append_left (by simpa using h)]; exact List.getElem?_set_self h⟩, fun k h1 h2 => by rw [List.getElem?_append_left (by simpa using h1), List.getElem?_set_ne (Ne.symm h2)], by simp⟩
theorem Dr.of' {β : Nat} {l : List UInt8} {W : List Box} {a : Nat} (ha : a ≤ l.length) (h : β < W.length) : Dr β l W (W.set β (cb l a)) := by simpa using Dr.of ha h []
theorem Dr.trans {β : Nat} {l : List UInt8} {W W1 W2 : List Box} (h : Dr β l W W1) (k : Dr β l W1 W2) : Dr β l W W2 := ⟨k.1, fun i h1 h2 => by rw [k.2.1 i (by have := h.2.2; omega) h2, h.2.1 i h1 h2], by have := h.2.2; have := k.2.2; omega⟩
theorem Dr.app {β : Nat} {l : List UInt8} {W W1 : List Box} (h : Dr β l W W1) (hβ : β < W.length) (G : List Box) : Dr β l W (W1 ++ G) := by
  have h0 := h.2.2
  refine ⟨?_, fun k h1 h2 => ?_, by rw [List.length_append]; omega⟩
  · obtain ⟨a, h1, h2⟩ := h.1
    exact ⟨a, h1, by rw [List.getElem?_append_left (by omega), h2]⟩
  · rw [List.getElem?_append_left (by omega), h.2.1 k h1 h2]
theorem Dr.set {β : Nat} {l : List UInt8} {W W1 : List Box} (h : Dr β l W W1) (hβ : β < W.length) {j : Nat} (hj : W.length ≤ j) (y : Box) : Dr β l W (W1.set j y) := by
  have h0 := h.2.2
  refine ⟨?_, fun k h1 h2 => ?_, by simpa using h0⟩
  · obtain ⟨a, h1, h2⟩ := h.1
    exact ⟨a, h1, by rw [List.getElem?_set_ne (by omega), h2]⟩
  · rw [List.getElem?_set_ne (by omega), h.2.1 k h1 h2]
section
variable {W : List Box} {β : Nat} {args : List CV} {l : List UInt8}
theorem dr_bool (ha : Is args [.ptr β 0]) (hB : ∃ a, a ≤ l.length ∧ W[β]? = some (cb l a)) (hl : l.length < 1000000) : ACall Tryd.prog 55 args W fun c W' => (∃ t, c = .bool t) ∧ Dr β l W W' := by
  obtain ⟨a, h1, h2⟩ := hB
  refine (bool_at ha h2 ⟨h1, by omega⟩).mono fun c W' ⟨hc, hW⟩ => ?_
  rw [hW]
  exact ⟨⟨_, hc⟩, .of' (nxA_le h1) (List.getElem?_eq_some_iff.1 h2).1⟩
theorem dr_next {n : Nat} {m : Int} (ha : Is args [.ptr β 0, .int .i64 m]) (hm : m = n) (hn : 0 < n) (hB : ∃ a, a ≤ l.length ∧ W[β]? = some (cb l a)) (hl : l.length < 1000000) : ACall Tryd.prog 29 args W fun c W' => (∃ v : Nat, v < n ∧ c = .int .i64 v) ∧ Dr β l W W' := by
  obtain ⟨a, h1, h2⟩ := hB
  refine (next_at ha hm h2 ⟨h1, by omega⟩).mono fun c W' ⟨hc, hW⟩ => ?_
  rw [hW]
  exact ⟨⟨_, nxV_lt hn, hc⟩, .of' (nxA_le h1) (List.getElem?_eq_some_iff.1 h2).1⟩
theorem dr_big {n : Nat} {m : Int} (ha : Is args [.ptr β 0, .int .i64 m]) (hm : m = n) (hn : 1 ≤ n ∧ n ≤ 16777216) (hB : ∃ a, a ≤ l.length ∧ W[β]? = some (cb l a)) (hl : l.length < 1000000) : ACall Tryd.prog 31 args W fun c W' => (∃ v : Nat, v < n ∧ c = .int .i64 v) ∧ Dr β l W W' := by
  obtain ⟨a, h1, h2⟩ := hB
  refine (big_at ha hm hn h2 ⟨h1, hl⟩).mono fun c W' ⟨hc, hW⟩ => ?_
  rw [hW]
  exact ⟨⟨_, bgV_lt (by omega), hc⟩, .of' (bgA_le h1) (List.getElem?_eq_some_iff.1 h2).1⟩
theorem dr_key (ha : Is args [.ptr β 0]) (hB : ∃ a, a ≤ l.length ∧ W[β]? = some (cb l a)) (hl : l.length < 1000000) : ACall Tryd.prog 53 args W fun c W' => (∃ K : List UInt8, K.length = 32 ∧ c = .agg (K.map byteC)) ∧ Dr β l W W' := by
  obtain ⟨a, h1, h2⟩ := hB
  refine (dkey_at ha h2 ⟨h1, hl⟩).mono fun c W' ⟨K, a2, G, hK, ha2, hc, hW⟩ => ?_
  rw [hW]
  exact ⟨⟨_, hK, hc⟩, .of ha2 (List.getElem?_eq_some_iff.1 h2).1 G⟩
theorem dr_endp (ha : Is args [.ptr β 0]) (hB : ∃ a, a ≤ l.length ∧ W[β]? = some (cb l a)) (hl : l.length < 1000000) : ACall Tryd.prog 8 args W fun c W' => (∃ q : Pf, PfL q ∧ okEP q = true ∧ c = .agg (pfC q)) ∧ Dr β l W W' := by
  obtain ⟨a, h1, h2⟩ := hB
  refine (endpoint_at ha h2 ⟨h1, hl⟩).mono fun c W' ⟨hc, hW⟩ => ?_
  rw [hW]
  have hp := epP_le l a
  refine ⟨⟨((adSix l a, adIP l a), (epP l a : Nat)), ⟨adIP_len l a, by simp only; omega, by simp only; omega⟩, ?_, hc⟩, .of (epA_le h1) (List.getElem?_eq_some_iff.1 h2).1 _⟩
  rw [okEP, okA_ad, decide_eq_true (by simp only; omega), decide_eq_true (by simp only; omega)]
  rfl
theorem dr_prefixes {n : Nat} {m : Int} (ha : Is args [.ptr β 0, .int .i64 m]) (hm : m = n) (hn : n ≤ 1000) (hB : ∃ a, a ≤ l.length ∧ W[β]? = some (cb l a)) (hl : l.length < 1000000) : ACall Tryd.prog 54 args W fun c W' => (∃ ps, PsG ps ∧ ps.length ≤ n ∧ GrowX W.length c W' ps) ∧ Dr β l W W' := by
  obtain ⟨a, h1, h2⟩ := hB
  exact (prefixes_at ha hm h2 ⟨h1, hl⟩ hn).mono fun c W' ⟨ps, a', g1, g2, g3, g4, g5, g6, g7⟩ => ⟨⟨ps, g2, g3, g4⟩, ⟨a', g1, g5⟩, g6, g7⟩
end
def peX (p : Pe) (v : CV) : List CV := peH p ++ [v]
def PeG (p : Pe) : Prop := PeL p ∧ okPe p = true
theorem peX_eq (p : Pe) (v : CV) : peX p v = p.1.map byteC ++ (p.2.1.map byteC ++ (.bool p.2.2.1 :: (pfC p.2.2.2.1 ++ [.int .i64 p.2.2.2.2.1, v]))) := by simp [peX, peH]
theorem peX_len {p : Pe} (h : PeL p) (v : CV) : (peX p v).length = 85 := by rw [peX, List.length_append, peH_len h]; rfl
theorem splice_at {A M E vs : List CV} {o : Nat} (ho : A.length = o) (hM : M.length = vs.length) : splice (A ++ (M ++ E)) o vs = A ++ (vs ++ E) := by
  subst ho
  rw [splice, List.take_left' rfl, ← List.drop_drop, List.drop_left' rfl, ← hM, List.drop_left' rfl, List.append_assoc]
theorem px_shared {p : Pe} (h : PeL p) {u : List UInt8} (hu : u.length = 32) (v : CV) : splice (peX p v) 32 (u.map byteC) = peX (p.1, u, p.2.2) v := by
  rw [peX_eq, peX_eq]
  exact splice_at (by simp [h.1]) (by simp [h.2.1, hu])
theorem px_has {p : Pe} (h : PeL p) (b : Bool) (v : CV) : splice (peX p v) 64 [.bool b] = peX (p.1, p.2.1, b, p.2.2.2) v := by
  rw [peX_eq, peX_eq, ← List.append_assoc, ← List.append_assoc]
  exact splice_at (M := [_]) (by simp [h.1, h.2.1]) rfl
theorem px_end {p : Pe} (h : PeL p) {q : Pf} (hq : PfL q) (v : CV) : splice (peX p v) 65 (pfC q) = peX (p.1, p.2.1, p.2.2.1, q, p.2.2.2.2) v := by
  have e : ∀ q, peX (p.1, p.2.1, p.2.2.1, q, p.2.2.2.2) v = (p.1.map byteC ++ (p.2.1.map byteC ++ [.bool p.2.2.1])) ++ (pfC q ++ [.int .i64 p.2.2.2.2.1, v]) := fun q => by rw [peX_eq]; simp
  rw [show peX p v = _ from e p.2.2.2.1, e]
  exact splice_at (by simp [h.1, h.2.1]) (by rw [pfC_len h.2.2.1, pfC_len hq])
theorem px_keep {p : Pe} (h : PeL p) (n : Int) (v : CV) : splice (peX p v) 83 [.int .i64 n] = peX (p.1, p.2.1, p.2.2.1, p.2.2.2.1, n, p.2.2.2.2.2) v := by
  have e : ∀ n, peX (p.1, p.2.1, p.2.2.1, p.2.2.2.1, n, p.2.2.2.2.2) v = (p.1.map byteC ++ (p.2.1.map byteC ++ (.bool p.2.2.1 :: pfC p.2.2.2.1))) ++ ([.int .i64 n] ++ [v]) := fun n => by rw [peX_eq]; simp
  rw [show peX p v = _ from e p.2.2.2.2.1, e]
  exact splice_at (by simp [h.1, h.2.1, pfC_len h.2.2.1]) rfl
theorem px_all {p : Pe} (h : PeL p) (v w : CV) : splice (peX p v) 84 [w] = peX p w := by
  have := splice_at (A := peH p) (M := [v]) (E := []) (vs := [w]) (o := 84) (peH_len h) rfl
  simpa [peX] using this
theorem px_get {p : Pe} (h : PeL p) (v : CV) : (peX p v)[84]? = some v ∧ (peX p v).drop 84 = [v] ∧ (peX p v).take 85 = peX p v := by
  have hl := peH_len h
  refine ⟨by rw [peX, List.getElem?_append_right (by omega), hl]; rfl, by rw [peX, List.drop_left' hl], List.take_of_length_le (by rw [peX_len h]; omega)⟩
end Go.Proofs.YtdceppjoipoohaaDoor
end
section
namespace Go.Proofs.YtdceppjoipoohaaDoor
open Go Go.Sy
set_option linter.all false
set_option maxRecDepth 100000
set_option maxHeartbeats 4000000
theorem GrowX.keep {o : Nat} {c : CV} {W W' : List Box} {al : List Pf} (h : GrowX o c W al) (hk : ∀ i m, o ≤ i → al ≠ [] → W[i]? = some ⟨al.flatMap pfC, m⟩ → W'[i]? = W[i]?) : GrowX o c W' al := by
  rcases h with h | ⟨b, m, h1, h2, h3, h4⟩
  · exact .inl h
  · exact .inr ⟨b, m, h1, h2, h3, by rw [hk b m h1 h2 h4, h4]⟩
theorem GrowX.low {o o' : Nat} {c : CV} {W : List Box} {al : List Pf} (h : GrowX o c W al) (ho : o' ≤ o) : GrowX o' c W al := by
  rcases h with h | ⟨b, m, h1, h2, h3, h4⟩
  · exact .inl h
  · exact .inr ⟨b, m, by omega, h2, h3, h4⟩
def RestP (o : Nat) (W : List Box) (c : CV) (ps : List Pf) (k : Nat) : Prop := k ≤ ps.length ∧ ((ps = [] ∧ c = .nilS) ∨ ∃ b m, o ≤ b ∧ ps ≠ [] ∧ c = .view b (k * 18) (ps.length - k) 18 false ∧ W[b]? = some ⟨ps.flatMap pfC, m⟩)
theorem RestP.keep {o : Nat} {c : CV} {W W' : List Box} {ps : List Pf} {k : Nat} (h : RestP o W c ps k) (hk : ∀ i m, o ≤ i → ps ≠ [] → W[i]? = some ⟨ps.flatMap pfC, m⟩ → W'[i]? = W[i]?) : RestP o W' c ps k := by
  refine ⟨h.1, ?_⟩
  rcases h.2 with h | ⟨b, m, h1, h2, h3, h4⟩
  · exact .inl h
  · exact .inr ⟨b, m, h1, h2, h3, by rw [hk b m h1 h2 h4, h4]⟩
def pqC (q : Pe × CV) : List CV := peX q.1 q.2
def PeersB (o : Nat) (W : List Box) (c : CV) (Q : List (Pe × CV)) : Prop := (∀ q ∈ Q, PeG q.1 ∧ GrowX o q.2 W q.1.2.2.2.2.2) ∧ ((Q = [] ∧ c = .nilS) ∨ ∃ b m, o ≤ b ∧ Q ≠ [] ∧ c = .view b 0 Q.length 85 false ∧ W[b]? = some ⟨Q.flatMap pqC, m⟩)
theorem PeersB.keep {o : Nat} {c : CV} {W W' : List Box} {Q : List (Pe × CV)} (h : PeersB o W c Q) (hk : ∀ i, o ≤ i → i < W.length → W'[i]? = W[i]?) : PeersB o W' c Q := by
  refine ⟨fun q hq => ⟨(h.1 q hq).1, (h.1 q hq).2.keep fun i m h1 _ h2 => hk i h1 (List.getElem?_eq_some_iff.1 h2).1⟩, ?_⟩
  rcases h.2 with h | ⟨b, m, h1, h2, h3, h4⟩
  · exact .inl h
  · exact .inr ⟨b, m, h1, h2, h3, by rw [hk b h1 (List.getElem?_eq_some_iff.1 h4).1, h4]⟩
theorem gx_ne {W : List Box} {b b' : Nat} {m m' : Bool} {ps : List Pf} {Q : List (Pe × CV)} (h1 : W[b']? = some ⟨ps.flatMap pfC, m⟩) (hne : ps ≠ []) (h2 : W[b]? = some ⟨Q.flatMap pqC, m'⟩) (hQ : Q ≠ []) (hp : ∀ q ∈ Q, PeL q.1) : b' ≠ b := by
  rintro rfl
  rw [h1] at h2
  cases ps with
  | nil => exact hne rfl
  | cons p ps => cases Q with
    | nil => exact hQ rfl
    | cons q Q =>
      have hq := (hp q (by simp)).1
      obtain ⟨x, xs, hx⟩ : ∃ x xs, q.1.1 = x :: xs := by
        cases hc : q.1.1 with
        | nil => rw [hc] at hq; simp at hq
        | cons x xs => exact ⟨x, xs, rfl⟩
      simp [pfC, pqC, peX, peH, hx, byteC] at h2
theorem PeersB.snoc {o : Nat} {c : CV} {W W' : List Box} {Q : List (Pe × CV)} {p : Pe} {av : CV} (h : PeersB o W c Q) (hp : PeG p) (hav : GrowX o av W p.2.2.2.2.2) (hl : o ≤ W.length) (hW : (Q = [] ∧ W' = W ++ [⟨peX p av, false⟩]) ∨ (∃ b, Q ≠ [] ∧ c = .view b 0 Q.length 85 false ∧ W' = W.set b ⟨Q.flatMap pqC ++ peX p av, true⟩)) :
    PeersB o W' (if Q = [] then .view W.length 0 1 85 false else match c with | .view b .. => .view b 0 (Q.length + 1) 85 false | _ => c) (Q ++ [(p, av)]) := by
  rcases hW with ⟨rfl, rfl⟩ | ⟨b, hQ, rfl, rfl⟩
  · refine ⟨fun q hq => ?_, .inr ⟨W.length, false, hl, by simp, rfl, ?_⟩⟩
    · simp at hq
      subst hq
      exact ⟨hp, hav.keep fun i m h1 _ h2 => List.getElem?_append_left (List.getElem?_eq_some_iff.1 h2).1⟩
    · simp [pqC]
  · rcases h.2 with ⟨h0, _⟩ | ⟨b', m, h1, h2, h3, h4⟩
    · exact absurd h0 hQ
    obtain rfl : b = b' := by simpa using h3
    have hbl := (List.getElem?_eq_some_iff.1 h4).1
    have key : ∀ {al : List Pf} {av : CV}, GrowX o av W al → GrowX o av (W.set b ⟨Q.flatMap pqC ++ peX p av, true⟩) al := fun {al av'} hg => hg.keep fun i m' k1 k2 k3 => by
      rw [List.getElem?_set_ne (Ne.symm (gx_ne k3 k2 h4 h2 fun q hq => (h.1 q hq).1.1))]
    have key2 : ∀ {al : List Pf} {a2 : CV} (y : Box), GrowX o a2 W al → GrowX o a2 (W.set b y) al := fun {al a2} y hg => hg.keep fun i m' k1 k2 k3 => by
      rw [List.getElem?_set_ne (Ne.symm (gx_ne k3 k2 h4 h2 fun q hq => (h.1 q hq).1.1))]
    rw [if_neg hQ]
    refine ⟨fun q hq => ?_, .inr ⟨b, true, h1, by simp, by simp, ?_⟩⟩
    · rcases List.mem_append.1 hq with hq | hq
      · exact ⟨(h.1 q hq).1, key2 _ (h.1 q hq).2⟩
      · rw [List.mem_singleton.1 hq]; exact ⟨hp, key2 _ hav⟩
    · rw [List.getElem?_set_self hbl, List.flatMap_append, List.flatMap_singleton]; rfl
theorem pfs_om {W : List Box} (al : List Pf) {k : Nat} : omap (Go.Sy.fz true true W (k + 1)) (al.flatMap pfC) = some (al.flatMap pfC) := pf_om al
theorem gx_fz {o : Nat} {W : List Box} {c : CV} {al : List Pf} (h : GrowX o c W al) (hl : ∀ q ∈ al, q.1.2.length = 16) {k : Nat} : fz true true W (k + 2) c = some (.lst al.length (al.flatMap pfC) false) := by
  rcases h with ⟨rfl, rfl⟩ | ⟨b, m, h1, h2, rfl, h4⟩
  · rfl
  · have hf : (al.flatMap pfC).length = al.length * 18 := fl_len fun p hp => by simp [pfC, hl p hp]
    rw [fz_view, h4]
    simp only [List.drop_zero]
    rw [List.take_of_length_le (by omega), pfs_om]
    rfl
theorem pqs_fz {o : Nat} {W : List Box} {k : Nat} : ∀ {Q : List (Pe × CV)}, (∀ q ∈ Q, PeG q.1 ∧ GrowX o q.2 W q.1.2.2.2.2.2) → omap (Go.Sy.fz true true W (k + 2)) (Q.flatMap pqC) = some ((Q.map (·.1)).flatMap peC)
  | [], _ => rfl
  | q :: Q, h => by
    have hq := h q (by simp)
    rw [List.flatMap_cons, omap_app, pqs_fz fun q hq => h q (by simp [hq])]
    have hh : omap (Go.Sy.fz true true W (k + 2)) (peH q.1) = some (peH q.1) := by simp [peH, pfC, go_sem]
    rw [pqC, peX, omap_app, hh, omap_one (gx_fz hq.2 fun r hr => (hq.1.1.2.2.2.2 r hr).1)]
    simp [peC_eq]
theorem peers_fz {o : Nat} {W : List Box} {c : CV} {Q : List (Pe × CV)} {K : List UInt8} {port : Int} (h : PeersB o W c Q) : fz true true W 6 (.agg (K.map byteC ++ [.int .i64 port, c])) = some (.agg (cfC (K, port, Q.map (·.1)))) := by
  have hr : fz true true W 5 c = some (.lst Q.length ((Q.map (·.1)).flatMap peC) false) := by
    rcases h.2 with ⟨rfl, rfl⟩ | ⟨b, m, h1, h2, rfl, h4⟩
    · rfl
    · have hf : (Q.flatMap pqC).length = Q.length * 85 := fl_len fun q hq => peX_len (h.1 q hq).1.1 _
      rw [fz_view, h4]
      simp only [List.drop_zero]
      rw [List.take_of_length_le (by omega), pqs_fz h.1]
      rfl
  rw [fz_agg, omap_app, omap_bytes, omap_two, omap_two, hr]
  simp [cfC]
  rfl
def CfGood (K : List UInt8) (port : Int) (ps : List Pe) : Prop := K.length = 32 ∧ (0 ≤ port ∧ port ≤ 65535) ∧ (∀ p ∈ ps, PeG p) ∧ (pubs ps).Nodup ∧ (alls ps).Nodup ∧ (alls ps).length ≤ 6 ∧ ps.length ≤ 8
theorem CfGood.val {K : List UInt8} {port : Int} {ps : List Pe} (h : CfGood K port ps) : valC port ps = 0 := by
  obtain ⟨_, h2, h3, h4, h5, h6, h7⟩ := h
  unfold valC
  have h8 : ps.all okPe = true := List.all_eq_true.2 fun p hp => (h3 p hp).2
  rw [if_neg (by omega), if_neg (by rw [h8]; simp; omega), if_pos ⟨h4, h5⟩]
end Go.Proofs.YtdceppjoipoohaaDoor
end
section
namespace Go.Proofs.YtdceppjoipoohaaDoor
open Go Go.Sy
set_option linter.all false
set_option maxRecDepth 100000
set_option maxHeartbeats 4000000
theorem PfG.l {q : Pf} (h : PfG q) : PfL q ∧ vldP q = true := by
  have hr := vld_range h.2
  exact ⟨⟨h.1, by omega, by omega⟩, h.2⟩
theorem PeG.al {p : Pe} (h : PeG p) {al : List Pf} (ha : ∀ q ∈ al, PfG q) : PeG (p.1, p.2.1, p.2.2.1, p.2.2.2.1, p.2.2.2.2.1, al) := by
  obtain ⟨⟨h1, h2, h3, h4, h5⟩, h6⟩ := h
  refine ⟨⟨h1, h2, h3, h4, fun q hq => (ha q hq).l.1⟩, ?_⟩
  simp only [okPe, Bool.and_eq_true] at h6 ⊢
  exact ⟨h6.1, h6.2.1, List.all_eq_true.2 fun q hq => (ha q hq).l.2⟩
def peNew (pub : List UInt8) : Pe := (pub, List.replicate 32 0, false, pfO, 0, [])
theorem peNew_ok {pub : List UInt8} (h : pub.length = 32) : PeG (peNew pub) := by
  refine ⟨⟨h, by simp [peNew], ⟨by simp [peNew, pfO], by simp [peNew, pfO], by simp [peNew, pfO]⟩, by simp [peNew], by simp [peNew]⟩, ?_⟩
  simp [peNew, okPe, timed]
theorem PeG.sh {p : Pe} (h : PeG p) {u : List UInt8} (hu : u.length = 32) : PeG (p.1, u, p.2.2) := ⟨⟨h.1.1, hu, h.1.2.2⟩, h.2⟩
theorem PeG.ep {p : Pe} (h : PeG p) {q : Pf} (hq : PfL q) (ho : okEP q = true) : PeG (p.1, p.2.1, true, q, p.2.2.2.2) := by
  refine ⟨⟨h.1.1, h.1.2.1, hq, h.1.2.2.2⟩, ?_⟩
  have h6 := h.2
  simp only [okPe, Bool.and_eq_true] at h6 ⊢
  exact ⟨by simpa using ho, h6.2⟩
theorem PeG.kp {p : Pe} (h : PeG p) {v : Nat} (hv : v < 30000) : PeG (p.1, p.2.1, p.2.2.1, p.2.2.2.1, 1000 + (v : Int), p.2.2.2.2.2) := by
  refine ⟨⟨h.1.1, h.1.2.1, h.1.2.2.1, by simp only; omega, h.1.2.2.2.2⟩, ?_⟩
  have h6 := h.2
  simp only [okPe, Bool.and_eq_true] at h6 ⊢
  refine ⟨h6.1, ?_, h6.2.2⟩
  simp only [timed, Bool.or_eq_true, Bool.and_eq_true, decide_eq_true_eq]
  omega
theorem qx_shared {p : Pe} (h : PeL p) {u : List UInt8} (hu : u.length = 32) (v : CV) : (peX p v).take 32 ++ (u.map byteC ++ (peX p v).drop 64) = peX (p.1, u, p.2.2) v := by have := px_shared h hu v; simpa [splice, hu] using this
theorem qx_has {p : Pe} (h : PeL p) (b : Bool) (v : CV) : (peX p v).take 64 ++ .bool b :: (peX p v).drop 65 = peX (p.1, p.2.1, b, p.2.2.2) v := by have := px_has h b v; simpa [splice] using this
theorem qx_end {p : Pe} (h : PeL p) {q : Pf} (hq : PfL q) (v : CV) : (peX p v).take 65 ++ (pfC q ++ (peX p v).drop 83) = peX (p.1, p.2.1, p.2.2.1, q, p.2.2.2.2) v := by have := px_end h hq v; simpa [splice, pfC_len hq] using this
theorem qx_keep {p : Pe} (h : PeL p) (n : Int) (v : CV) : (peX p v).take 83 ++ .int .i64 n :: (peX p v).drop 84 = peX (p.1, p.2.1, p.2.2.1, p.2.2.2.1, n, p.2.2.2.2.2) v := by have := px_keep h n v; simpa [splice] using this
theorem qx_all {p : Pe} (h : PeL p) (v w : CV) : (peX p v).take 84 ++ [w] = peX p w := by have := px_all h v w; simpa [splice, List.drop_eq_nil_of_le (Nat.le_of_eq (peX_len h v))] using this
def RdI (β : Nat) (l : List UInt8) (r x i bp : Nat) (lc : CV) (pub : List UInt8) (W0 : List Box) (fr : Fr) (W : List Box) : Prop :=
  ∃ p : Pe, PeG p ∧ p.1 = pub ∧ p.2.2.2.2.2 = [] ∧ fr 0 = .ptr β 0 ∧ fr 4 = .ptr r 0 ∧ fr 5 = .ptr x 0 ∧ fr 6 = lc ∧ fr 7 = .int .i64 i ∧ fr 8 = .ptr bp 0 ∧ W[bp]? = some ⟨peX p .nilS, false⟩ ∧ Dr β l W0 W
theorem config_at {B : List Box} {β : Nat} {args : List CV} {l : List UInt8} {n : Nat} {m : Int} (ha : Is args [.ptr β 0, .int .i64 m]) (hm : m = n) (hn : n ≤ 8) (hB : ∃ a, a ≤ l.length ∧ B[β]? = some (cb l a)) (hl : l.length < 1000000) :
    ACall Tryd.prog 22 args B fun c B' => ∃ (K : List UInt8) (port : Int) (ps : List Pe), CfGood K port ps ∧ fz true true B' 6 c = some (.agg (cfC (K, port, ps))) := by
  have ha : args = _ := ha
  subst ha hm
  have hβ : β < B.length := by obtain ⟨a, _, h⟩ := hB; exact (List.getElem?_eq_some_iff.1 h).1
  have hbo : ∀ {W : List Box} {args : List CV}, Is args [.ptr β 0] → (∃ a, a ≤ l.length ∧ W[β]? = some (cb l a)) → ACall Tryd.prog 55 args W fun c W' => (∃ t, c = .bool t) ∧ Dr β l W W' := fun h h2 => dr_bool h h2 hl
  have hky : ∀ {W : List Box} {args : List CV}, Is args [.ptr β 0] → (∃ a, a ≤ l.length ∧ W[β]? = some (cb l a)) → ACall Tryd.prog 53 args W fun c W' => (∃ K : List UInt8, K.length = 32 ∧ c = .agg (K.map byteC)) ∧ Dr β l W W' := fun h h2 => dr_key h h2 hl
  have hep : ∀ {W : List Box} {args : List CV}, Is args [.ptr β 0] → (∃ a, a ≤ l.length ∧ W[β]? = some (cb l a)) → ACall Tryd.prog 8 args W fun c W' => (∃ q : Pf, PfL q ∧ okEP q = true ∧ c = .agg (pfC q)) ∧ Dr β l W W' := fun h h2 => dr_endp h h2 hl
  have hbg : ∀ {W : List Box} {args : List CV}, Is args [.ptr β 0, .int .i64 65536] → (∃ a, a ≤ l.length ∧ W[β]? = some (cb l a)) → ACall Tryd.prog 31 args W fun c W' => (∃ v : Nat, v < 65536 ∧ c = .int .i64 v) ∧ Dr β l W W' := fun h h2 => dr_big (n := 65536) h rfl (by omega) h2 hl
  have hbk : ∀ {W : List Box} {args : List CV}, Is args [.ptr β 0, .int .i64 30000] → (∃ a, a ≤ l.length ∧ W[β]? = some (cb l a)) → ACall Tryd.prog 31 args W fun c W' => (∃ v : Nat, v < 30000 ∧ c = .int .i64 v) ∧ Dr β l W W' := fun h h2 => dr_big (n := 30000) h rfl (by omega) h2 hl
  have hnn : ∀ {W : List Box} {args : List CV}, Is args [.ptr β 0, .int .i64 ((n : Int) + 1)] → (∃ a, a ≤ l.length ∧ W[β]? = some (cb l a)) → ACall Tryd.prog 29 args W fun c W' => (∃ v : Nat, v < n + 1 ∧ c = .int .i64 v) ∧ Dr β l W W' := fun h h2 => dr_next (n := n + 1) h (by omega) (by omega) h2 hl
  have hn2 : ∀ {W : List Box} {args : List CV}, Is args [.ptr β 0, .int .i64 256] → (∃ a, a ≤ l.length ∧ W[β]? = some (cb l a)) → ACall Tryd.prog 29 args W fun c W' => (∃ v : Nat, v < 256 ∧ c = .int .i64 v) ∧ Dr β l W W' := fun h h2 => dr_next (n := 256) h rfl (by omega) h2 hl
  have hn3 : ∀ {W : List Box} {args : List CV}, Is args [.ptr β 0, .int .i64 3] → (∃ a, a ≤ l.length ∧ W[β]? = some (cb l a)) → ACall Tryd.prog 29 args W fun c W' => (∃ v : Nat, v < 3 ∧ c = .int .i64 v) ∧ Dr β l W W' := fun h h2 => dr_next (n := 3) h rfl (by omega) h2 hl
  have hpx : ∀ {W : List Box} {args : List CV}, Is args [.ptr β 0, .int .i64 6] → (∃ a, a ≤ l.length ∧ W[β]? = some (cb l a)) → ACall Tryd.prog 54 args W fun c W' => (∃ ps, PsG ps ∧ ps.length ≤ 6 ∧ GrowX W.length c W' ps) ∧ Dr β l W W' := fun h h2 => dr_prefixes (n := 6) h rfl (by omega) h2 hl
  refine acall_intro mixed Tryd.func22 rfl ca22 (by kernel_rfl) (by rw [Tryd.ntmps22]; simp) ?_
  refine w_cut (fun fr W => fr 0 = .ptr β 0 ∧ fr 1 = .int .i64 n ∧ fr 4 = .ptr B.length 0 ∧ (∃ a, a ≤ l.length ∧ W[β]? = some (cb l a)) ∧ (∃ Z, W[B.length]? = some ⟨Z, false⟩ ∧ Z.length = 34) ∧ W.length = B.length + 1) ?_ ?_
  · repeat' (first | (with_reducible first | apply jA | apply jB | apply jC | apply jD | apply jE | apply jF | apply jG | apply jH | apply jI | apply jJ | apply jK | apply jL | apply jM | apply jN | apply jO) | ((with_reducible first | apply jP | apply jQ); rfl) | ((first | ((with_reducible first | apply jR | apply jS | apply jT); rfl; rfl) | (with_reducible first | apply jU | apply jV | apply jW) | ((with_reducible first | apply jX | apply jY | apply jZ); rfl)); all_goals (first | ((with_reducible show Is _ _); exact kE) | ((with_reducible refine fun (hc : (_ : Bool) = _) => ?_); (try simp only [xZ, xY, xP, reduceCtorEq] at hc); (try (have hx : True := hc; clear hx hc)); (try exact kX)) | ((fail_if_success (with_reducible first | show Is _ _ | show ACall _ _ _ _ _)); (try ((with_reducible show _ ∨ _); exact kT))))))
    refine ⟨by (simp (disch := omega) [go_sem, *]) <;> (try omega), by (simp (disch := omega) [go_sem, *]) <;> (try omega), by (simp (disch := omega) [go_sem, *]) <;> (try omega), ?_, ⟨_, by rw [bx_get0 rfl]; rfl, rfl⟩, by simp⟩
    obtain ⟨a, h1, h2⟩ := hB
    exact ⟨a, h1, by rw [List.getElem?_append_left hβ, h2]⟩
  generalize B.length = r at *
  clear hB B
  rintro fr W ⟨f0, f1, f4, hW, ⟨Z, hZ, hZl⟩, hlen⟩
  have hβW : β < W.length := by omega
  refine w_cut (fun fr W => fr 0 = .ptr β 0 ∧ fr 1 = .int .i64 n ∧ fr 4 = .ptr r 0 ∧ (∃ a, a ≤ l.length ∧ W[β]? = some (cb l a)) ∧ W[r]? = some ⟨Z, false⟩ ∧ ∃ (x : Nat) (K : List UInt8) (port : Nat), fr 5 = .ptr x 0 ∧ r < x ∧ W.length = x + 1 ∧ K.length = 32 ∧ port < 65536 ∧ W[x]? = some ⟨K.map byteC ++ [.int .i64 port, .nilS], false⟩) ?_ ?_
  ·
    repeat' (first | (with_reducible first | apply jA | apply jB | apply jC | apply jD | apply jE | apply jF | apply jG | apply jH | apply jI | apply jJ | apply jK | apply jL | apply jM | apply jN | apply jO) | ((with_reducible first | apply jP | apply jQ); rfl) | ((first | ((with_reducible first | apply jR | apply jS | apply jT); rfl; rfl) | (with_reducible first | apply jU | apply jV | apply jW) | ((with_reducible first | apply jX | apply jY | apply jZ); rfl)); all_goals (first | ((with_reducible show Is _ _); exact kE) | ((with_reducible refine fun (hc : (_ : Bool) = _) => ?_); (try simp only [xZ, xY, xP, reduceCtorEq] at hc); (try (have hx : True := hc; clear hx hc)); (try exact kX)) | ((fail_if_success (with_reducible first | show Is _ _ | show ACall _ _ _ _ _)); (try ((with_reducible show _ ∨ _); exact kT))))) | (((with_reducible first | apply o_callQ | apply q_callQ); rfl); (iterate 2 exact kE); (first | ((with_reducible apply hky) <;> exact kD))))
    rintro _ W1 ⟨⟨K, hK, rfl⟩, hd1⟩
    have hW1 := hd1.1
    repeat' (first | (with_reducible first | apply jA | apply jB | apply jC | apply jD | apply jE | apply jF | apply jG | apply jH | apply jI | apply jJ | apply jK | apply jL | apply jM | apply jN | apply jO) | ((with_reducible first | apply jP | apply jQ); rfl) | ((first | ((with_reducible first | apply jR | apply jS | apply jT); rfl; rfl) | (with_reducible first | apply jU | apply jV | apply jW) | ((with_reducible first | apply jX | apply jY | apply jZ); rfl)); all_goals (first | ((with_reducible show Is _ _); exact kE) | ((with_reducible refine fun (hc : (_ : Bool) = _) => ?_); (try simp only [xZ, xY, xP, reduceCtorEq] at hc); (try (have hx : True := hc; clear hx hc)); (try exact kX)) | ((fail_if_success (with_reducible first | show Is _ _ | show ACall _ _ _ _ _)); (try ((with_reducible show _ ∨ _); exact kT))))) | (((with_reducible first | apply o_callQ | apply q_callQ); rfl); (iterate 2 exact kE); (first | ((with_reducible apply hbg) <;> exact kD))))
    rintro _ W2 ⟨⟨port, hport, rfl⟩, hd2⟩
    have hd := hd1.trans hd2
    have hl2 := hd.2.2
    repeat' (first | (with_reducible first | apply jA | apply jB | apply jC | apply jD | apply jE | apply jF | apply jG | apply jH | apply jI | apply jJ | apply jK | apply jL | apply jM | apply jN | apply jO) | ((with_reducible first | apply jP | apply jQ); rfl) | ((first | ((with_reducible first | apply jR | apply jS | apply jT); rfl; rfl) | (with_reducible first | apply jU | apply jV | apply jW) | ((with_reducible first | apply jX | apply jY | apply jZ); rfl)); all_goals (first | ((with_reducible show Is _ _); exact kE) | ((with_reducible refine fun (hc : (_ : Bool) = _) => ?_); (try simp only [xZ, xY, xP, reduceCtorEq] at hc); (try (have hx : True := hc; clear hx hc)); (try exact kX)) | ((fail_if_success (with_reducible first | show Is _ _ | show ACall _ _ _ _ _)); (try ((with_reducible show _ ∨ _); exact kT))))))
    refine ⟨by (simp (disch := omega) [go_sem, *]) <;> (try omega), by (simp (disch := omega) [go_sem, *]) <;> (try omega), by (simp (disch := omega) [go_sem, *]) <;> (try omega), (hd.app hβW _).1, ?_, W2.length, K, port, by (simp (disch := omega) [go_sem, *]) <;> (try omega), by omega, by simp, hK, hport, ?_⟩
    · rw [List.getElem?_append_left (by omega), hd.2.1 r (by omega) (by omega), hZ]
    · rw [bx_get0 rfl]; rfl
  rintro fr W0 ⟨f0, f1, f4, hW, hZ0, x, K, port, f5, hrx, hln, hK, hport, hx⟩
  clear hZ hβW hlen
  have hβW : β < W0.length := by omega
  refine w_cut (fun fr W => fr 0 = .ptr β 0 ∧ fr 1 = .int .i64 n ∧ fr 4 = .ptr r 0 ∧ fr 5 = .ptr x 0 ∧ Dr β l W0 W ∧ ∃ ps, PsG ps ∧ ps.length ≤ 6 ∧ RestP (x + 1) W (fr 6) ps 0) ?_ ?_
  ·
    repeat' (first | (with_reducible first | apply jA | apply jB | apply jC | apply jD | apply jE | apply jF | apply jG | apply jH | apply jI | apply jJ | apply jK | apply jL | apply jM | apply jN | apply jO) | ((with_reducible first | apply jP | apply jQ); rfl) | ((first | ((with_reducible first | apply jR | apply jS | apply jT); rfl; rfl) | (with_reducible first | apply jU | apply jV | apply jW) | ((with_reducible first | apply jX | apply jY | apply jZ); rfl)); all_goals (first | ((with_reducible show Is _ _); exact kE) | ((with_reducible refine fun (hc : (_ : Bool) = _) => ?_); (try simp only [xZ, xY, xP, reduceCtorEq] at hc); (try (have hx : True := hc; clear hx hc)); (try exact kX)) | ((fail_if_success (with_reducible first | show Is _ _ | show ACall _ _ _ _ _)); (try ((with_reducible show _ ∨ _); exact kT))))) | (((with_reducible first | apply o_callQ | apply q_callQ); rfl); (iterate 2 exact kE); (first | ((with_reducible apply hpx) <;> exact kD))))
    rintro c W1 ⟨⟨ps, hps, hpl, hg⟩, hd⟩
    rw [hln] at hg
    have hrest : RestP (x + 1) W1 c ps 0 := ⟨Nat.zero_le _, by
      rcases hg with h | ⟨b, m, h1, h2, h3, h4⟩
      · exact .inl h
      · exact .inr ⟨b, m, h1, h2, by rw [h3]; simp, h4⟩⟩
    replace hrest : Hid _ := hrest
    repeat' (first | (with_reducible first | apply jA | apply jB | apply jC | apply jD | apply jE | apply jF | apply jG | apply jH | apply jI | apply jJ | apply jK | apply jL | apply jM | apply jN | apply jO) | ((with_reducible first | apply jP | apply jQ); rfl) | ((first | ((with_reducible first | apply jR | apply jS | apply jT); rfl; rfl) | (with_reducible first | apply jU | apply jV | apply jW) | ((with_reducible first | apply jX | apply jY | apply jZ); rfl)); all_goals (first | ((with_reducible show Is _ _); exact kE) | ((with_reducible refine fun (hc : (_ : Bool) = _) => ?_); (try simp only [xZ, xY, xP, reduceCtorEq] at hc); (try (have hx : True := hc; clear hx hc)); (try exact kX)) | ((fail_if_success (with_reducible first | show Is _ _ | show ACall _ _ _ _ _)); (try ((with_reducible show _ ∨ _); exact kT))))))
    exact ⟨by (simp (disch := omega) [go_sem, *]) <;> (try omega), by (simp (disch := omega) [go_sem, *]) <;> (try omega), by (simp (disch := omega) [go_sem, *]) <;> (try omega), by (simp (disch := omega) [go_sem, *]) <;> (try omega), hd, ps, hps, hpl, by (simp (disch := omega) [go_sem, *]) <;> (try omega); exact hrest⟩
  rintro fr W ⟨f0, f1, f4, f5, hd, ps, hps, hpl, hrest⟩
  have hZ1 : W[r]? = some ⟨Z, false⟩ := by rw [hd.2.1 r (by omega) (by omega), hZ0]
  have hx1 : W[x]? = some ⟨K.map byteC ++ [.int .i64 port, .nilS], false⟩ := by rw [hd.2.1 x (by omega) (by omega), hx]
  have hWx : x < W.length := by have := hd.2.2; omega
  have hW2 := hd.1
  clear hx hZ0 hd hW hpx
  refine w_cut (fun fr W => ∃ (Q : List (Pe × CV)) (pc : CV), fr 4 = .ptr r 0 ∧ fr 5 = .ptr x 0 ∧ W[r]? = some ⟨Z, false⟩ ∧ W[x]? = some ⟨K.map byteC ++ [.int .i64 port, pc], false⟩ ∧ PeersB (x + 1) W pc Q ∧ (pubs (Q.map (·.1))).Nodup ∧ Q.length ≤ n ∧ ∃ k, alls (Q.map (·.1)) = ps.take k) ?_ ?_
  rotate_left
  · rintro fr W ⟨Q, pc, f4, f5, hZ, hx, hQ, hpu, hQn, k, hal⟩
    obtain ⟨C, hC⟩ : ∃ C, K.map byteC ++ [.int .i64 port, pc] = C := ⟨_, rfl⟩
    rw [hC] at hx
    have hCl : C.length = 34 := by rw [← hC]; simp [hK]
    have hCt : C.take 34 = C := List.take_of_length_le (by omega)
    have hrx' : r ≠ x := by omega
    have xr := bx_pack hZ
    replace hQ : Hid _ := hQ
    replace hpu : Hid _ := hpu
    replace hal : Hid _ := hal
    replace hC : Hid _ := hC
    repeat' (first | (with_reducible first | apply jA | apply jB | apply jC | apply jD | apply jE | apply jF | apply jG | apply jH | apply jI | apply jJ | apply jK | apply jL | apply jM | apply jN | apply jO) | ((with_reducible first | apply jP | apply jQ); rfl) | ((first | ((with_reducible first | apply jR | apply jS | apply jT); rfl; rfl) | (with_reducible first | apply jU | apply jV | apply jW) | ((with_reducible first | apply jX | apply jY | apply jZ); rfl)); all_goals (first | ((with_reducible show Is _ _); exact kE) | ((with_reducible refine fun (hc : (_ : Bool) = _) => ?_); (try simp only [xZ, xY, xP, reduceCtorEq] at hc); (try (have hx : True := hc; clear hx hc)); (try exact kX)) | ((fail_if_success (with_reducible first | show Is _ _ | show ACall _ _ _ _ _)); (try ((with_reducible show _ ∨ _); exact kT))))))
    have hal' := show alls (Q.map (·.1)) = ps.take k from hal
    have hQ' := show PeersB (x + 1) W pc Q from hQ
    refine ⟨K, port, Q.map (·.1), ⟨hK, ⟨by omega, by omega⟩, fun p hp => ?_, show (pubs (Q.map (·.1))).Nodup from hpu, ?_, ?_, by rw [List.length_map]; omega⟩, ?_⟩
    · obtain ⟨q, hq, rfl⟩ := List.mem_map.1 hp
      exact (hQ'.1 q hq).1
    · rw [hal']; exact hps.1.sublist (List.take_sublist _ _)
    · rw [hal', List.length_take]; omega
    · rw [← (show K.map byteC ++ [.int .i64 port, pc] = C from hC)]
      exact peers_fz (hQ'.keep fun j h1 h2 => by rw [List.getElem?_set_ne (by omega)])
  have hwn : IntKind.i64.wrap ((n : Int) + 1) = (n : Int) + 1 := wi64 (by omega)
  repeat' (first | (with_reducible first | apply jA | apply jB | apply jC | apply jD | apply jE | apply jF | apply jG | apply jH | apply jI | apply jJ | apply jK | apply jL | apply jM | apply jN | apply jO) | ((with_reducible first | apply jP | apply jQ); rfl) | ((first | ((with_reducible first | apply jR | apply jS | apply jT); rfl; rfl) | (with_reducible first | apply jU | apply jV | apply jW) | ((with_reducible first | apply jX | apply jY | apply jZ); rfl)); all_goals (first | ((with_reducible show Is _ _); exact kE) | ((with_reducible refine fun (hc : (_ : Bool) = _) => ?_); (try simp only [xZ, xY, xP, reduceCtorEq] at hc); (try (have hx : True := hc; clear hx hc)); (try exact kX)) | ((fail_if_success (with_reducible first | show Is _ _ | show ACall _ _ _ _ _)); (try ((with_reducible show _ ∨ _); exact kT))))) | (((with_reducible first | apply o_callQ | apply q_callQ); rfl); (iterate 2 exact kE); (first | ((with_reducible apply hnn) <;> exact kD))))
  rintro _ W3 ⟨⟨i0, hi0, rfl⟩, hd⟩
  have hlc : RestP (x + 1) W3 (fr 6) ps 0 := hrest.keep fun i m h1 _ h2 => hd.2.1 i (List.getElem?_eq_some_iff.1 h2).1 (by omega)
  have hZ3 : W3[r]? = some ⟨Z, false⟩ := by rw [hd.2.1 r (by omega) (by omega), hZ1]
  have hx3 : W3[x]? = some ⟨K.map byteC ++ [.int .i64 port, .nilS], false⟩ := by rw [hd.2.1 x (by omega) (by omega), hx1]
  have hlen3 : x < W3.length := by have := hd.2.2; omega
  have hc3 := hd.1
  clear hd hZ1 hx1 hWx hW2 hrest
  replace hlc : Hid _ := hlc
  repeat' (first | (with_reducible first | apply jA | apply jB | apply jC | apply jD | apply jE | apply jF | apply jG | apply jH | apply jI | apply jJ | apply jK | apply jL | apply jM | apply jN | apply jO) | ((with_reducible first | apply jP | apply jQ); rfl) | ((first | ((with_reducible first | apply jR | apply jS | apply jT); rfl; rfl) | (with_reducible first | apply jU | apply jV | apply jW) | ((with_reducible first | apply jX | apply jY | apply jZ); rfl)); all_goals (first | ((with_reducible show Is _ _); exact kE) | ((with_reducible refine fun (hc : (_ : Bool) = _) => ?_); (try simp only [xZ, xY, xP, reduceCtorEq] at hc); (try (have hx : True := hc; clear hx hc)); (try exact kX)) | ((fail_if_success (with_reducible first | show Is _ _ | show ACall _ _ _ _ _)); (try ((with_reducible show _ ∨ _); exact kT))))))
  refine w_loop (fun fr W => ∃ (i : Nat) (Q : List (Pe × CV)) (pc : CV) (k : Nat), i + Q.length ≤ n ∧ fr 0 = .ptr β 0 ∧ fr 4 = .ptr r 0 ∧ fr 5 = .ptr x 0 ∧ fr 7 = .int .i64 i ∧ (∃ a, a ≤ l.length ∧ W[β]? = some (cb l a)) ∧ W[r]? = some ⟨Z, false⟩ ∧ W[x]? = some ⟨K.map byteC ++ [.int .i64 port, pc], false⟩ ∧ x < W.length ∧
    RestP (x + 1) W (fr 6) ps k ∧ PeersB (x + 1) W pc Q ∧ alls (Q.map (·.1)) = ps.take k ∧ (pubs (Q.map (·.1))).Nodup ∧ ∀ q ∈ Q, ∃ j : Nat, i < j ∧ j ≤ n ∧ q.1.1.head? = some (UInt8.ofNat (10 * j))) (fun fr _ => natOf (fr 7)) ?_ ?_
  · exact ⟨i0, [], .nilS, 0, by simp; omega, by (simp (disch := omega) [go_sem, *]) <;> (try omega), by (simp (disch := omega) [go_sem, *]) <;> (try omega), by (simp (disch := omega) [go_sem, *]) <;> (try omega), by (simp (disch := omega) [go_sem, *]) <;> (try omega), hc3, hZ3, hx3, hlen3, (by have h : RestP (x + 1) W3 (fr 6) ps 0 := hlc; simpa [upd] using h), ⟨by simp, .inl ⟨rfl, rfl⟩⟩, by simp [alls], by simp [pubs], by simp⟩
  clear hlc hZ3 hx3 hlen3 hc3 f0 f1 f4 f5 fr W3 hwn hi0 hnn W
  rintro fr W0 ⟨i, Q, pc, k, hi, f0, f4, f5, f7, hW, hZ, hx, hxl, hlc, hQ, hal, hpu, hq⟩
  have hm0 : natOf (fr 7) = i := by rw [f7]; rfl
  by_cases hci : 0 < i
  rotate_left
  · obtain rfl : i = 0 := by omega
    replace hQ : Hid _ := hQ
    replace hlc : Hid _ := hlc
    replace hal : Hid _ := hal
    replace hq : Hid _ := hq
    replace hpu : Hid _ := hpu
    repeat' (first | (with_reducible first | apply jA | apply jB | apply jC | apply jD | apply jE | apply jF | apply jG | apply jH | apply jI | apply jJ | apply jK | apply jL | apply jM | apply jN | apply jO) | ((with_reducible first | apply jP | apply jQ); rfl) | ((first | ((with_reducible first | apply jR | apply jS | apply jT); rfl; rfl) | (with_reducible first | apply jU | apply jV | apply jW) | ((with_reducible first | apply jX | apply jY | apply jZ); rfl)); all_goals (first | ((with_reducible show Is _ _); exact kE) | ((with_reducible refine fun (hc : (_ : Bool) = _) => ?_); (try simp only [xZ, xY, xP, reduceCtorEq] at hc); (try (have hx : True := hc; clear hx hc)); (try exact kX)) | ((fail_if_success (with_reducible first | show Is _ _ | show ACall _ _ _ _ _)); (try ((with_reducible show _ ∨ _); exact kT))))))
    exact ⟨Q, pc, by (simp (disch := omega) [go_sem, *]) <;> (try omega), by (simp (disch := omega) [go_sem, *]) <;> (try omega), hZ, hx, hQ, hpu, by omega, k, hal⟩
  obtain ⟨lc, f6⟩ : ∃ lc, fr 6 = lc := ⟨_, rfl⟩
  rw [f6] at hlc
  have hβW : β < W0.length := by omega
  replace hQ : Hid _ := hQ
  replace hlc : Hid _ := hlc
  replace hal : Hid _ := hal
  replace hq : Hid _ := hq
  replace hpu : Hid _ := hpu
  refine w_cut (fun fr W => fr 0 = .ptr β 0 ∧ fr 4 = .ptr r 0 ∧ fr 5 = .ptr x 0 ∧ fr 6 = lc ∧ fr 7 = .int .i64 i ∧ W = W0) ?_ ?_
  · repeat' (first | (with_reducible first | apply jA | apply jB | apply jC | apply jD | apply jE | apply jF | apply jG | apply jH | apply jI | apply jJ | apply jK | apply jL | apply jM | apply jN | apply jO) | ((with_reducible first | apply jP | apply jQ); rfl) | ((first | ((with_reducible first | apply jR | apply jS | apply jT); rfl; rfl) | (with_reducible first | apply jU | apply jV | apply jW) | ((with_reducible first | apply jX | apply jY | apply jZ); rfl)); all_goals (first | ((with_reducible show Is _ _); exact kE) | ((with_reducible refine fun (hc : (_ : Bool) = _) => ?_); (try simp only [xZ, xY, xP, reduceCtorEq] at hc); (try (have hx : True := hc; clear hx hc)); (try exact kX)) | ((fail_if_success (with_reducible first | show Is _ _ | show ACall _ _ _ _ _)); (try ((with_reducible show _ ∨ _); exact kT))))))
    exact ⟨by (simp (disch := omega) [go_sem, *]) <;> (try omega), by (simp (disch := omega) [go_sem, *]) <;> (try omega), by (simp (disch := omega) [go_sem, *]) <;> (try omega), by (simp (disch := omega) [go_sem, *]) <;> (try omega), by (simp (disch := omega) [go_sem, *]) <;> (try omega), rfl⟩
  rw [hm0]
  clear f0 f4 f5 f6 f7 hm0 fr
  rintro fr W ⟨f0, f4, f5, f6, f7, hWW⟩
  obtain rfl := hWW.symm
  clear hWW
  refine w_seq (w_block ?_)
  refine w_cut (fun fr W => ∃ (bp : Nat) (v : UInt8), W.length = bp + 1 ∧ W0.length ≤ bp ∧ RdI β l r x i bp lc (UInt8.ofNat (10 * i) :: v :: List.replicate 30 0) W0 fr W) ?_ ?_
  ·
    repeat' (first | (with_reducible first | apply jA | apply jB | apply jC | apply jD | apply jE | apply jF | apply jG | apply jH | apply jI | apply jJ | apply jK | apply jL | apply jM | apply jN | apply jO) | ((with_reducible first | apply jP | apply jQ); rfl) | ((first | ((with_reducible first | apply jR | apply jS | apply jT); rfl; rfl) | (with_reducible first | apply jU | apply jV | apply jW) | ((with_reducible first | apply jX | apply jY | apply jZ); rfl)); all_goals (first | ((with_reducible show Is _ _); exact kE) | ((with_reducible refine fun (hc : (_ : Bool) = _) => ?_); (try simp only [xZ, xY, xP, reduceCtorEq] at hc); (try (have hx : True := hc; clear hx hc)); (try exact kX)) | ((fail_if_success (with_reducible first | show Is _ _ | show ACall _ _ _ _ _)); (try ((with_reducible show _ ∨ _); exact kT))))) | (((with_reducible first | apply o_callQ | apply q_callQ); rfl); (iterate 2 exact kE); (first | ((with_reducible apply hn2) <;> exact kD))))
    rintro _ W1 ⟨⟨v, hv, rfl⟩, hd⟩
    repeat' (first | (with_reducible first | apply jA | apply jB | apply jC | apply jD | apply jE | apply jF | apply jG | apply jH | apply jI | apply jJ | apply jK | apply jL | apply jM | apply jN | apply jO) | ((with_reducible first | apply jP | apply jQ); rfl) | ((first | ((with_reducible first | apply jR | apply jS | apply jT); rfl; rfl) | (with_reducible first | apply jU | apply jV | apply jW) | ((with_reducible first | apply jX | apply jY | apply jZ); rfl)); all_goals (first | ((with_reducible show Is _ _); exact kE) | ((with_reducible refine fun (hc : (_ : Bool) = _) => ?_); (try simp only [xZ, xY, xP, reduceCtorEq] at hc); (try (have hx : True := hc; clear hx hc)); (try exact kX)) | ((fail_if_success (with_reducible first | show Is _ _ | show ACall _ _ _ _ _)); (try ((with_reducible show _ ∨ _); exact kT))))))
    refine ⟨W1.length, UInt8.ofNat v, by simp, hd.2.2, peNew (UInt8.ofNat (10 * i) :: UInt8.ofNat v :: List.replicate 30 0), peNew_ok (by simp), rfl, rfl, by (simp (disch := omega) [go_sem, *]) <;> (try omega), by (simp (disch := omega) [go_sem, *]) <;> (try omega), by (simp (disch := omega) [go_sem, *]) <;> (try omega), by (simp (disch := omega) [go_sem, *]) <;> (try omega), by (simp (disch := omega) [go_sem, *]) <;> (try omega), by (simp (disch := omega) [go_sem, *]) <;> (try omega), ?_, hd.app hβW _⟩
    rw [bx_get0 rfl, peX_eq]
    have e1 : byteC (UInt8.ofNat (10 * i)) = .int .u8 (10 * (i : Int)) := by
      unfold byteC
      rw [UInt8.toNat_ofNat', Nat.mod_eq_of_lt (by omega)]
      first | (congr 1; done) | (congr 1; omega)
    have e2 : byteC (UInt8.ofNat v) = .int .u8 v := by
      unfold byteC
      rw [UInt8.toNat_ofNat', Nat.mod_eq_of_lt (by omega)]
    simp only [peNew, List.map_cons, e1, e2]
    rfl
  rintro fr W ⟨bp, v, hbl, hbp, hrd⟩
  clear hW hn2
  obtain ⟨pub, hpub⟩ : ∃ pub, UInt8.ofNat (10 * i) :: v :: List.replicate 30 0 = pub := ⟨_, rfl⟩
  rw [hpub] at hrd
  clear f0 f4 f5 f6 f7
  refine w_cut (RdI β l r x i bp lc pub W0) ?_ ?_
  ·
    obtain ⟨p, hp, hp1, hp5, f0, f4, f5, f6, f7, f8, hb, hd⟩ := hrd
    have hW1 := hd.1
    have hbW := (List.getElem?_eq_some_iff.1 hb).1
    obtain ⟨X, hX⟩ : ∃ X, peX p .nilS = X := ⟨_, rfl⟩
    have hXl := peX_len hp.1 .nilS
    rw [hX] at hb hXl
    replace hX : Hid _ := hX
    replace hp : Hid _ := hp
    replace hp1 : Hid _ := hp1
    replace hp5 : Hid _ := hp5
    repeat' (first | (with_reducible first | apply jA | apply jB | apply jC | apply jD | apply jE | apply jF | apply jG | apply jH | apply jI | apply jJ | apply jK | apply jL | apply jM | apply jN | apply jO) | ((with_reducible first | apply jP | apply jQ); rfl) | ((first | ((with_reducible first | apply jR | apply jS | apply jT); rfl; rfl) | (with_reducible first | apply jU | apply jV | apply jW) | ((with_reducible first | apply jX | apply jY | apply jZ); rfl)); all_goals (first | ((with_reducible show Is _ _); exact kE) | ((with_reducible refine fun (hc : (_ : Bool) = _) => ?_); (try simp only [xZ, xY, xP, reduceCtorEq] at hc); (try (have hx : True := hc; clear hx hc)); (try exact kX)) | ((fail_if_success (with_reducible first | show Is _ _ | show ACall _ _ _ _ _)); (try ((with_reducible show _ ∨ _); exact kT))))) | (((with_reducible first | apply o_callQ | apply q_callQ); rfl); (iterate 2 exact kE); (first | ((with_reducible apply hbo) <;> exact kD))))
    rintro _ W2 ⟨⟨t, rfl⟩, hd2⟩
    have hb2 : W2[bp]? = some ⟨X, false⟩ := by rw [hd2.2.1 bp hbW (by omega), hb]
    have hW2 := hd2.1
    cases t
    · repeat' (first | (with_reducible first | apply jA | apply jB | apply jC | apply jD | apply jE | apply jF | apply jG | apply jH | apply jI | apply jJ | apply jK | apply jL | apply jM | apply jN | apply jO) | ((with_reducible first | apply jP | apply jQ); rfl) | ((first | ((with_reducible first | apply jR | apply jS | apply jT); rfl; rfl) | (with_reducible first | apply jU | apply jV | apply jW) | ((with_reducible first | apply jX | apply jY | apply jZ); rfl)); all_goals (first | ((with_reducible show Is _ _); exact kE) | ((with_reducible refine fun (hc : (_ : Bool) = _) => ?_); (try simp only [xZ, xY, xP, reduceCtorEq] at hc); (try (have hx : True := hc; clear hx hc)); (try exact kX)) | ((fail_if_success (with_reducible first | show Is _ _ | show ACall _ _ _ _ _)); (try ((with_reducible show _ ∨ _); exact kT))))))
      exact ⟨p, hp, hp1, hp5, by (simp (disch := omega) [go_sem, *]) <;> (try omega), by (simp (disch := omega) [go_sem, *]) <;> (try omega), by (simp (disch := omega) [go_sem, *]) <;> (try omega), by (simp (disch := omega) [go_sem, *]) <;> (try omega), by (simp (disch := omega) [go_sem, *]) <;> (try omega), by (simp (disch := omega) [go_sem, *]) <;> (try omega), by rw [show peX p .nilS = X from hX]; exact hb2, hd.trans hd2⟩
    · repeat' (first | (with_reducible first | apply jA | apply jB | apply jC | apply jD | apply jE | apply jF | apply jG | apply jH | apply jI | apply jJ | apply jK | apply jL | apply jM | apply jN | apply jO) | ((with_reducible first | apply jP | apply jQ); rfl) | ((first | ((with_reducible first | apply jR | apply jS | apply jT); rfl; rfl) | (with_reducible first | apply jU | apply jV | apply jW) | ((with_reducible first | apply jX | apply jY | apply jZ); rfl)); all_goals (first | ((with_reducible show Is _ _); exact kE) | ((with_reducible refine fun (hc : (_ : Bool) = _) => ?_); (try simp only [xZ, xY, xP, reduceCtorEq] at hc); (try (have hx : True := hc; clear hx hc)); (try exact kX)) | ((fail_if_success (with_reducible first | show Is _ _ | show ACall _ _ _ _ _)); (try ((with_reducible show _ ∨ _); exact kT))))) | (((with_reducible first | apply o_callQ | apply q_callQ); rfl); (iterate 2 exact kE); (first | ((with_reducible apply hky) <;> exact kD))))
      rintro _ W3 ⟨⟨u, hu, rfl⟩, hd3⟩
      have hb3 : W3[bp]? = some ⟨X, false⟩ := by rw [hd3.2.1 bp (by have := hd2.2.2; omega) (by omega), hb2]
      repeat' (first | (with_reducible first | apply jA | apply jB | apply jC | apply jD | apply jE | apply jF | apply jG | apply jH | apply jI | apply jJ | apply jK | apply jL | apply jM | apply jN | apply jO) | ((with_reducible first | apply jP | apply jQ); rfl) | ((first | ((with_reducible first | apply jR | apply jS | apply jT); rfl; rfl) | (with_reducible first | apply jU | apply jV | apply jW) | ((with_reducible first | apply jX | apply jY | apply jZ); rfl)); all_goals (first | ((with_reducible show Is _ _); exact kE) | ((with_reducible refine fun (hc : (_ : Bool) = _) => ?_); (try simp only [xZ, xY, xP, reduceCtorEq] at hc); (try (have hx : True := hc; clear hx hc)); (try exact kX)) | ((fail_if_success (with_reducible first | show Is _ _ | show ACall _ _ _ _ _)); (try ((with_reducible show _ ∨ _); exact kT))))))
      refine ⟨(p.1, u, p.2.2), PeG.sh hp hu, hp1, hp5, by (simp (disch := omega) [go_sem, *]) <;> (try omega), by (simp (disch := omega) [go_sem, *]) <;> (try omega), by (simp (disch := omega) [go_sem, *]) <;> (try omega), by (simp (disch := omega) [go_sem, *]) <;> (try omega), by (simp (disch := omega) [go_sem, *]) <;> (try omega), by (simp (disch := omega) [go_sem, *]) <;> (try omega), ?_, ((hd.trans hd2).trans hd3).set hβW hbp _⟩
      rw [List.getElem?_set_self (List.getElem?_eq_some_iff.1 hb3).1, ← (show peX p .nilS = X from hX), qx_shared (show PeG p from hp).1 hu]
  clear hrd fr W hbl
  rintro fr W hrd
  refine w_cut (RdI β l r x i bp lc pub W0) ?_ ?_
  ·
    obtain ⟨p, hp, hp1, hp5, f0, f4, f5, f6, f7, f8, hb, hd⟩ := hrd
    have hW1 := hd.1
    have hbW := (List.getElem?_eq_some_iff.1 hb).1
    obtain ⟨X, hX⟩ : ∃ X, peX p .nilS = X := ⟨_, rfl⟩
    have hXl := peX_len hp.1 .nilS
    rw [hX] at hb hXl
    replace hX : Hid _ := hX
    replace hp : Hid _ := hp
    replace hp1 : Hid _ := hp1
    replace hp5 : Hid _ := hp5
    repeat' (first | (with_reducible first | apply jA | apply jB | apply jC | apply jD | apply jE | apply jF | apply jG | apply jH | apply jI | apply jJ | apply jK | apply jL | apply jM | apply jN | apply jO) | ((with_reducible first | apply jP | apply jQ); rfl) | ((first | ((with_reducible first | apply jR | apply jS | apply jT); rfl; rfl) | (with_reducible first | apply jU | apply jV | apply jW) | ((with_reducible first | apply jX | apply jY | apply jZ); rfl)); all_goals (first | ((with_reducible show Is _ _); exact kE) | ((with_reducible refine fun (hc : (_ : Bool) = _) => ?_); (try simp only [xZ, xY, xP, reduceCtorEq] at hc); (try (have hx : True := hc; clear hx hc)); (try exact kX)) | ((fail_if_success (with_reducible first | show Is _ _ | show ACall _ _ _ _ _)); (try ((with_reducible show _ ∨ _); exact kT))))) | (((with_reducible first | apply o_callQ | apply q_callQ); rfl); (iterate 2 exact kE); (first | ((with_reducible apply hbo) <;> exact kD))))
    rintro _ W2 ⟨⟨t, rfl⟩, hd2⟩
    have hb2 : W2[bp]? = some ⟨X, false⟩ := by rw [hd2.2.1 bp hbW (by omega), hb]
    have hW2 := hd2.1
    cases t
    · repeat' (first | (with_reducible first | apply jA | apply jB | apply jC | apply jD | apply jE | apply jF | apply jG | apply jH | apply jI | apply jJ | apply jK | apply jL | apply jM | apply jN | apply jO) | ((with_reducible first | apply jP | apply jQ); rfl) | ((first | ((with_reducible first | apply jR | apply jS | apply jT); rfl; rfl) | (with_reducible first | apply jU | apply jV | apply jW) | ((with_reducible first | apply jX | apply jY | apply jZ); rfl)); all_goals (first | ((with_reducible show Is _ _); exact kE) | ((with_reducible refine fun (hc : (_ : Bool) = _) => ?_); (try simp only [xZ, xY, xP, reduceCtorEq] at hc); (try (have hx : True := hc; clear hx hc)); (try exact kX)) | ((fail_if_success (with_reducible first | show Is _ _ | show ACall _ _ _ _ _)); (try ((with_reducible show _ ∨ _); exact kT))))))
      exact ⟨p, hp, hp1, hp5, by (simp (disch := omega) [go_sem, *]) <;> (try omega), by (simp (disch := omega) [go_sem, *]) <;> (try omega), by (simp (disch := omega) [go_sem, *]) <;> (try omega), by (simp (disch := omega) [go_sem, *]) <;> (try omega), by (simp (disch := omega) [go_sem, *]) <;> (try omega), by (simp (disch := omega) [go_sem, *]) <;> (try omega), by rw [show peX p .nilS = X from hX]; exact hb2, hd.trans hd2⟩
    · repeat' (first | (with_reducible first | apply jA | apply jB | apply jC | apply jD | apply jE | apply jF | apply jG | apply jH | apply jI | apply jJ | apply jK | apply jL | apply jM | apply jN | apply jO) | ((with_reducible first | apply jP | apply jQ); rfl) | ((first | ((with_reducible first | apply jR | apply jS | apply jT); rfl; rfl) | (with_reducible first | apply jU | apply jV | apply jW) | ((with_reducible first | apply jX | apply jY | apply jZ); rfl)); all_goals (first | ((with_reducible show Is _ _); exact kE) | ((with_reducible refine fun (hc : (_ : Bool) = _) => ?_); (try simp only [xZ, xY, xP, reduceCtorEq] at hc); (try (have hx : True := hc; clear hx hc)); (try exact kX)) | ((fail_if_success (with_reducible first | show Is _ _ | show ACall _ _ _ _ _)); (try ((with_reducible show _ ∨ _); exact kT))))) | (((with_reducible first | apply o_callQ | apply q_callQ); rfl); (iterate 2 exact kE); (first | ((with_reducible apply hep) <;> exact kD))))
      rintro _ W3 ⟨⟨q, hq1, hq2, rfl⟩, hd3⟩
      have hb3 : W3[bp]? = some ⟨X, false⟩ := by rw [hd3.2.1 bp (by have := hd2.2.2; omega) (by omega), hb2]
      have hql := pfC_len hq1
      have hp' := show PeG p from hp
      obtain ⟨X2, hX2e⟩ : ∃ X2, X.take 64 ++ .bool true :: X.drop 65 = X2 := ⟨_, rfl⟩
      have hX2p : X2 = peX (p.1, p.2.1, true, p.2.2.2) .nilS := by rw [← hX2e, ← (show peX p .nilS = X from hX), qx_has hp'.1]
      have hX2 : X2.length = 85 := by rw [hX2p]; exact peX_len (p := (p.1, p.2.1, true, p.2.2.2)) ⟨hp'.1.1, hp'.1.2.1, hp'.1.2.2⟩ _
      have hX3 : X2.take 65 ++ (pfC q ++ X2.drop 83) = peX (p.1, p.2.1, true, q, p.2.2.2.2) .nilS := by
        rw [hX2p, qx_end (p := (p.1, p.2.1, true, p.2.2.2)) ⟨hp'.1.1, hp'.1.2.1, hp'.1.2.2⟩ hq1]
      replace hX2p : Hid _ := hX2p
      replace hp' : Hid _ := hp'
      obtain ⟨qc, hqc⟩ : ∃ qc, pfC q = qc := ⟨_, rfl⟩
      rw [hqc] at hql hX3
      rw [hqc]
      replace hX3 : Hid _ := hX3
      have hs3 := (bx_pack hb3).2.2.1
      replace hqc : Hid _ := hqc
      replace hq1 : Hid _ := hq1
      replace hq2 : Hid _ := hq2
      repeat' (first | (with_reducible first | apply jA | apply jB | apply jC | apply jD | apply jE | apply jF | apply jG | apply jH | apply jI | apply jJ | apply jK | apply jL | apply jM | apply jN | apply jO) | ((with_reducible first | apply jP | apply jQ); rfl) | ((first | ((with_reducible first | apply jR | apply jS | apply jT); rfl; rfl) | (with_reducible first | apply jU | apply jV | apply jW) | ((with_reducible first | apply jX | apply jY | apply jZ); rfl)); all_goals (first | ((with_reducible show Is _ _); exact kE) | ((with_reducible refine fun (hc : (_ : Bool) = _) => ?_); (try simp only [xZ, xY, xP, reduceCtorEq] at hc); (try (have hx : True := hc; clear hx hc)); (try exact kX)) | ((fail_if_success (with_reducible first | show Is _ _ | show ACall _ _ _ _ _)); (try ((with_reducible show _ ∨ _); exact kT))))))
      refine ⟨(p.1, p.2.1, true, q, p.2.2.2.2), PeG.ep hp hq1 hq2, hp1, hp5, by (simp (disch := omega) [go_sem, *]) <;> (try omega), by (simp (disch := omega) [go_sem, *]) <;> (try omega), by (simp (disch := omega) [go_sem, *]) <;> (try omega), by (simp (disch := omega) [go_sem, *]) <;> (try omega), by (simp (disch := omega) [go_sem, *]) <;> (try omega), by (simp (disch := omega) [go_sem, *]) <;> (try omega), ?_, ((hd.trans hd2).trans hd3).set hβW hbp _⟩
      rw [hs3, ← (show pfC q = qc from hqc)]
      exact congrArg (fun x => some (Box.mk x false)) ((show X2.take 65 ++ (qc ++ X2.drop 83) = _ from hX3) ▸ (by rw [show pfC q = qc from hqc]))
  clear hrd fr W
  rintro fr W hrd
  refine w_cut (RdI β l r x i bp lc pub W0) ?_ ?_
  ·
    obtain ⟨p, hp, hp1, hp5, f0, f4, f5, f6, f7, f8, hb, hd⟩ := hrd
    have hW1 := hd.1
    have hbW := (List.getElem?_eq_some_iff.1 hb).1
    obtain ⟨X, hX⟩ : ∃ X, peX p .nilS = X := ⟨_, rfl⟩
    have hXl := peX_len hp.1 .nilS
    rw [hX] at hb hXl
    replace hX : Hid _ := hX
    replace hp : Hid _ := hp
    replace hp1 : Hid _ := hp1
    replace hp5 : Hid _ := hp5
    repeat' (first | (with_reducible first | apply jA | apply jB | apply jC | apply jD | apply jE | apply jF | apply jG | apply jH | apply jI | apply jJ | apply jK | apply jL | apply jM | apply jN | apply jO) | ((with_reducible first | apply jP | apply jQ); rfl) | ((first | ((with_reducible first | apply jR | apply jS | apply jT); rfl; rfl) | (with_reducible first | apply jU | apply jV | apply jW) | ((with_reducible first | apply jX | apply jY | apply jZ); rfl)); all_goals (first | ((with_reducible show Is _ _); exact kE) | ((with_reducible refine fun (hc : (_ : Bool) = _) => ?_); (try simp only [xZ, xY, xP, reduceCtorEq] at hc); (try (have hx : True := hc; clear hx hc)); (try exact kX)) | ((fail_if_success (with_reducible first | show Is _ _ | show ACall _ _ _ _ _)); (try ((with_reducible show _ ∨ _); exact kT))))) | (((with_reducible first | apply o_callQ | apply q_callQ); rfl); (iterate 2 exact kE); (first | ((with_reducible apply hn3) <;> exact kD))))
    rintro _ W2 ⟨⟨t, ht, rfl⟩, hd2⟩
    have hb2 : W2[bp]? = some ⟨X, false⟩ := by rw [hd2.2.1 bp hbW (by omega), hb]
    have hW2 := hd2.1
    by_cases ht1 : t = 1
    rotate_left
    · have ht2 : ((t : Int) == 1) = false := by simpa using (by omega : (t : Int) ≠ 1)
      repeat' (first | (with_reducible first | apply jA | apply jB | apply jC | apply jD | apply jE | apply jF | apply jG | apply jH | apply jI | apply jJ | apply jK | apply jL | apply jM | apply jN | apply jO) | ((with_reducible first | apply jP | apply jQ); rfl) | ((first | ((with_reducible first | apply jR | apply jS | apply jT); rfl; rfl) | (with_reducible first | apply jU | apply jV | apply jW) | ((with_reducible first | apply jX | apply jY | apply jZ); rfl)); all_goals (first | ((with_reducible show Is _ _); exact kE) | ((with_reducible refine fun (hc : (_ : Bool) = _) => ?_); (try simp only [xZ, xY, xP, reduceCtorEq] at hc); (try (have hx : True := hc; clear hx hc)); (try exact kX)) | ((fail_if_success (with_reducible first | show Is _ _ | show ACall _ _ _ _ _)); (try ((with_reducible show _ ∨ _); exact kT))))))
      exact ⟨p, hp, hp1, hp5, by (simp (disch := omega) [go_sem, *]) <;> (try omega), by (simp (disch := omega) [go_sem, *]) <;> (try omega), by (simp (disch := omega) [go_sem, *]) <;> (try omega), by (simp (disch := omega) [go_sem, *]) <;> (try omega), by (simp (disch := omega) [go_sem, *]) <;> (try omega), by (simp (disch := omega) [go_sem, *]) <;> (try omega), by rw [show peX p .nilS = X from hX]; exact hb2, hd.trans hd2⟩
    · subst ht1
      repeat' (first | (with_reducible first | apply jA | apply jB | apply jC | apply jD | apply jE | apply jF | apply jG | apply jH | apply jI | apply jJ | apply jK | apply jL | apply jM | apply jN | apply jO) | ((with_reducible first | apply jP | apply jQ); rfl) | ((first | ((with_reducible first | apply jR | apply jS | apply jT); rfl; rfl) | (with_reducible first | apply jU | apply jV | apply jW) | ((with_reducible first | apply jX | apply jY | apply jZ); rfl)); all_goals (first | ((with_reducible show Is _ _); exact kE) | ((with_reducible refine fun (hc : (_ : Bool) = _) => ?_); (try simp only [xZ, xY, xP, reduceCtorEq] at hc); (try (have hx : True := hc; clear hx hc)); (try exact kX)) | ((fail_if_success (with_reducible first | show Is _ _ | show ACall _ _ _ _ _)); (try ((with_reducible show _ ∨ _); exact kT))))) | (((with_reducible first | apply o_callQ | apply q_callQ); rfl); (iterate 2 exact kE); (first | ((with_reducible apply hbk) <;> exact kD))))
      rintro _ W3 ⟨⟨u, hu, rfl⟩, hd3⟩
      have hb3 : W3[bp]? = some ⟨X, false⟩ := by rw [hd3.2.1 bp (by have := hd2.2.2; omega) (by omega), hb2]
      have hw3 : IntKind.i64.wrap (1000 + (u : Int)) = 1000 + (u : Int) := wi64 (by omega)
      repeat' (first | (with_reducible first | apply jA | apply jB | apply jC | apply jD | apply jE | apply jF | apply jG | apply jH | apply jI | apply jJ | apply jK | apply jL | apply jM | apply jN | apply jO) | ((with_reducible first | apply jP | apply jQ); rfl) | ((first | ((with_reducible first | apply jR | apply jS | apply jT); rfl; rfl) | (with_reducible first | apply jU | apply jV | apply jW) | ((with_reducible first | apply jX | apply jY | apply jZ); rfl)); all_goals (first | ((with_reducible show Is _ _); exact kE) | ((with_reducible refine fun (hc : (_ : Bool) = _) => ?_); (try simp only [xZ, xY, xP, reduceCtorEq] at hc); (try (have hx : True := hc; clear hx hc)); (try exact kX)) | ((fail_if_success (with_reducible first | show Is _ _ | show ACall _ _ _ _ _)); (try ((with_reducible show _ ∨ _); exact kT))))))
      refine ⟨(p.1, p.2.1, p.2.2.1, p.2.2.2.1, 1000 + (u : Int), p.2.2.2.2.2), PeG.kp hp hu, hp1, hp5, by (simp (disch := omega) [go_sem, *]) <;> (try omega), by (simp (disch := omega) [go_sem, *]) <;> (try omega), by (simp (disch := omega) [go_sem, *]) <;> (try omega), by (simp (disch := omega) [go_sem, *]) <;> (try omega), by (simp (disch := omega) [go_sem, *]) <;> (try omega), by (simp (disch := omega) [go_sem, *]) <;> (try omega), ?_, ((hd.trans hd2).trans hd3).set hβW hbp _⟩
      rw [List.getElem?_set_self (List.getElem?_eq_some_iff.1 hb3).1, ← (show peX p .nilS = X from hX), qx_keep (show PeG p from hp).1]
  clear hrd fr W
  rintro fr W hrd
  refine w_cut (fun fr W => ∃ (p : Pe) (av : CV) (k' : Nat), PeG p ∧ p.1 = pub ∧ fr 0 = .ptr β 0 ∧ fr 4 = .ptr r 0 ∧ fr 5 = .ptr x 0 ∧ RestP (x + 1) W0 (fr 6) ps k' ∧ fr 7 = .int .i64 i ∧ fr 8 = .ptr bp 0 ∧ W[bp]? = some ⟨peX p av, false⟩ ∧ Dr β l W0 W ∧ GrowX (bp + 1) av W p.2.2.2.2.2 ∧ ps.take k ++ p.2.2.2.2.2 = ps.take k') ?_ ?_
  · obtain ⟨p, hp, hp1, hp5, f0, f4, f5, f6, f7, f8, hb, hd⟩ := hrd
    have hW1 := hd.1
    have hbW := (List.getElem?_eq_some_iff.1 hb).1
    obtain ⟨X, hX⟩ : ∃ X, peX p .nilS = X := ⟨_, rfl⟩
    have hXl := peX_len hp.1 .nilS
    rw [hX] at hb hXl
    replace hX : Hid _ := hX
    replace hp : Hid _ := hp
    replace hp1 : Hid _ := hp1
    replace hp5 : Hid _ := hp5
    repeat' (first | (with_reducible first | apply jA | apply jB | apply jC | apply jD | apply jE | apply jF | apply jG | apply jH | apply jI | apply jJ | apply jK | apply jL | apply jM | apply jN | apply jO) | ((with_reducible first | apply jP | apply jQ); rfl) | ((first | ((with_reducible first | apply jR | apply jS | apply jT); rfl; rfl) | (with_reducible first | apply jU | apply jV | apply jW) | ((with_reducible first | apply jX | apply jY | apply jZ); rfl)); all_goals (first | ((with_reducible show Is _ _); exact kE) | ((with_reducible refine fun (hc : (_ : Bool) = _) => ?_); (try simp only [xZ, xY, xP, reduceCtorEq] at hc); (try (have hx : True := hc; clear hx hc)); (try exact kX)) | ((fail_if_success (with_reducible first | show Is _ _ | show ACall _ _ _ _ _)); (try ((with_reducible show _ ∨ _); exact kT))))) | (((with_reducible first | apply o_callQ | apply q_callQ); rfl); (iterate 2 exact kE); (first | ((with_reducible apply hn3) <;> exact kD))))
    rintro _ W2 ⟨⟨t, ht, rfl⟩, hd2⟩
    have hb2 : W2[bp]? = some ⟨X, false⟩ := by rw [hd2.2.1 bp hbW (by omega), hb]
    have hdd := hd.trans hd2
    clear hW1 hd hd2 hb
    repeat' (first | (with_reducible first | apply jA | apply jB | apply jC | apply jD | apply jE | apply jF | apply jG | apply jH | apply jI | apply jJ | apply jK | apply jL | apply jM | apply jN | apply jO) | ((with_reducible first | apply jP | apply jQ); rfl) | ((first | ((with_reducible first | apply jR | apply jS | apply jT); rfl; rfl) | (with_reducible first | apply jU | apply jV | apply jW) | ((with_reducible first | apply jX | apply jY | apply jZ); rfl)); all_goals (first | ((with_reducible show Is _ _); exact kE) | ((with_reducible refine fun (hc : (_ : Bool) = _) => ?_); (try simp only [xZ, xY, xP, reduceCtorEq] at hc); (try (have hx : True := hc; clear hx hc)); (try exact kX)) | ((fail_if_success (with_reducible first | show Is _ _ | show ACall _ _ _ _ _)); (try ((with_reducible show _ ∨ _); exact kT))))))
    refine w_loop (fun fr W => ∃ (j k' : Nat) (al : List Pf) (av : CV), fr 0 = .ptr β 0 ∧ fr 4 = .ptr r 0 ∧ fr 5 = .ptr x 0 ∧ RestP (x + 1) W0 (fr 6) ps k' ∧ fr 7 = .int .i64 i ∧ fr 8 = .ptr bp 0 ∧ fr 9 = .int .i64 j ∧ j < 3 ∧ W[bp]? = some ⟨peX p av, false⟩ ∧ Dr β l W0 W ∧ GrowX (bp + 1) av W al ∧ ps.take k ++ al = ps.take k') (fun fr _ => natOf (fr 9)) ?_ ?_
    · refine ⟨t, k, [], .nilS, by (simp (disch := omega) [go_sem, *]) <;> (try omega), by (simp (disch := omega) [go_sem, *]) <;> (try omega), by (simp (disch := omega) [go_sem, *]) <;> (try omega), ?_, by (simp (disch := omega) [go_sem, *]) <;> (try omega), by (simp (disch := omega) [go_sem, *]) <;> (try omega), by (simp (disch := omega) [go_sem, *]) <;> (try omega), ht, by rw [show peX p .nilS = X from hX]; exact hb2, hdd, .inl ⟨rfl, rfl⟩, by simp⟩
      have h6 : RestP (x + 1) W0 lc ps k := hlc
      simpa [upd, f6] using h6
    · clear f0 f4 f5 f6 f7 f8 hb2 hdd ht hbW hX hXl fr W W2 X
      rintro fr W ⟨j, k', al, av, f0, f4, f5, hr6, f7, f8, f9, hj, hb, hd, hg, htk⟩
      have hm0 : natOf (fr 9) = j := by rw [f9]; rfl
      obtain ⟨lc2, f6⟩ : ∃ lc2, fr 6 = lc2 := ⟨_, rfl⟩
      rw [f6] at hr6
      have hX84 := px_get (show PeG p from hp).1 av
      have hXl := peX_len (show PeG p from hp).1 av
      have hXw : ∀ w, (peX p av).take 84 ++ [w] = peX p w := qx_all (show PeG p from hp).1 av
      have hps16 : ∀ q ∈ ps, (pfC q).length = 18 := fun q hq => pfC_l (hps.2 q hq).1
      have hfin : ∃ (p : Pe), PeG p ∧ p.1 = pub ∧ W[bp]? = some ⟨peX p av, false⟩ ∧ GrowX (bp + 1) av W p.2.2.2.2.2 ∧ ps.take k ++ p.2.2.2.2.2 = ps.take k' := ⟨(p.1, p.2.1, p.2.2.1, p.2.2.2.1, p.2.2.2.2.1, al), PeG.al hp (fun q hq => hps.2 q (List.mem_of_mem_take (i := k') (by rw [← htk]; exact List.mem_append_right _ hq))), hp1, hb, hg, htk⟩
      by_cases hj0 : 0 < j
      rotate_left
      · obtain rfl : j = 0 := by omega
        replace hfin : Hid _ := hfin
        replace hr6 : Hid _ := hr6
        replace hp : Hid _ := hp
        repeat' (first | (with_reducible first | apply jA | apply jB | apply jC | apply jD | apply jE | apply jF | apply jG | apply jH | apply jI | apply jJ | apply jK | apply jL | apply jM | apply jN | apply jO) | ((with_reducible first | apply jP | apply jQ); rfl) | ((first | ((with_reducible first | apply jR | apply jS | apply jT); rfl; rfl) | (with_reducible first | apply jU | apply jV | apply jW) | ((with_reducible first | apply jX | apply jY | apply jZ); rfl)); all_goals (first | ((with_reducible show Is _ _); exact kE) | ((with_reducible refine fun (hc : (_ : Bool) = _) => ?_); (try simp only [xZ, xY, xP, reduceCtorEq] at hc); (try (have hx : True := hc; clear hx hc)); (try exact kX)) | ((fail_if_success (with_reducible first | show Is _ _ | show ACall _ _ _ _ _)); (try ((with_reducible show _ ∨ _); exact kT))))))
        obtain ⟨p', k1, k2, k3, k4, k5⟩ := (show ∃ (p : Pe), PeG p ∧ p.1 = pub ∧ W[bp]? = some ⟨peX p av, false⟩ ∧ GrowX (bp + 1) av W p.2.2.2.2.2 ∧ ps.take k ++ p.2.2.2.2.2 = ps.take k' from hfin)
        exact ⟨p', av, k', k1, k2, by (simp (disch := omega) [go_sem, *]) <;> (try omega), by (simp (disch := omega) [go_sem, *]) <;> (try omega), by (simp (disch := omega) [go_sem, *]) <;> (try omega), by simpa [upd, f6] using (show RestP (x + 1) W0 _ ps k' from hr6), by (simp (disch := omega) [go_sem, *]) <;> (try omega), by (simp (disch := omega) [go_sem, *]) <;> (try omega), k3, hd, k4, k5⟩
      rcases hr6.2 with ⟨hps0, rfl⟩ | ⟨b, m, hbx, hpne, rfl, hbb⟩
      · replace hfin : Hid _ := hfin
        replace hr6 : Hid _ := hr6
        replace hp : Hid _ := hp
        repeat' (first | (with_reducible first | apply jA | apply jB | apply jC | apply jD | apply jE | apply jF | apply jG | apply jH | apply jI | apply jJ | apply jK | apply jL | apply jM | apply jN | apply jO) | ((with_reducible first | apply jP | apply jQ); rfl) | ((first | ((with_reducible first | apply jR | apply jS | apply jT); rfl; rfl) | (with_reducible first | apply jU | apply jV | apply jW) | ((with_reducible first | apply jX | apply jY | apply jZ); rfl)); all_goals (first | ((with_reducible show Is _ _); exact kE) | ((with_reducible refine fun (hc : (_ : Bool) = _) => ?_); (try simp only [xZ, xY, xP, reduceCtorEq] at hc); (try (have hx : True := hc; clear hx hc)); (try exact kX)) | ((fail_if_success (with_reducible first | show Is _ _ | show ACall _ _ _ _ _)); (try ((with_reducible show _ ∨ _); exact kT))))))
        obtain ⟨p', k1, k2, k3, k4, k5⟩ := (show ∃ (p : Pe), PeG p ∧ p.1 = pub ∧ W[bp]? = some ⟨peX p av, false⟩ ∧ GrowX (bp + 1) av W p.2.2.2.2.2 ∧ ps.take k ++ p.2.2.2.2.2 = ps.take k' from hfin)
        exact ⟨p', av, k', k1, k2, by (simp (disch := omega) [go_sem, *]) <;> (try omega), by (simp (disch := omega) [go_sem, *]) <;> (try omega), by (simp (disch := omega) [go_sem, *]) <;> (try omega), by simpa [upd, f6] using (show RestP (x + 1) W0 _ ps k' from hr6), by (simp (disch := omega) [go_sem, *]) <;> (try omega), by (simp (disch := omega) [go_sem, *]) <;> (try omega), k3, hd, k4, k5⟩
      by_cases hkk : k' < ps.length
      rotate_left
      · have hk0 : ps.length - k' = 0 := by omega
        rw [hk0] at hr6 f6
        replace hfin : Hid _ := hfin
        replace hr6 : Hid _ := hr6
        replace hp : Hid _ := hp
        repeat' (first | (with_reducible first | apply jA | apply jB | apply jC | apply jD | apply jE | apply jF | apply jG | apply jH | apply jI | apply jJ | apply jK | apply jL | apply jM | apply jN | apply jO) | ((with_reducible first | apply jP | apply jQ); rfl) | ((first | ((with_reducible first | apply jR | apply jS | apply jT); rfl; rfl) | (with_reducible first | apply jU | apply jV | apply jW) | ((with_reducible first | apply jX | apply jY | apply jZ); rfl)); all_goals (first | ((with_reducible show Is _ _); exact kE) | ((with_reducible refine fun (hc : (_ : Bool) = _) => ?_); (try simp only [xZ, xY, xP, reduceCtorEq] at hc); (try (have hx : True := hc; clear hx hc)); (try exact kX)) | ((fail_if_success (with_reducible first | show Is _ _ | show ACall _ _ _ _ _)); (try ((with_reducible show _ ∨ _); exact kT))))))
        obtain ⟨p', k1, k2, k3, k4, k5⟩ := (show ∃ (p : Pe), PeG p ∧ p.1 = pub ∧ W[bp]? = some ⟨peX p av, false⟩ ∧ GrowX (bp + 1) av W p.2.2.2.2.2 ∧ ps.take k ++ p.2.2.2.2.2 = ps.take k' from hfin)
        exact ⟨p', av, k', k1, k2, by (simp (disch := omega) [go_sem, *]) <;> (try omega), by (simp (disch := omega) [go_sem, *]) <;> (try omega), by (simp (disch := omega) [go_sem, *]) <;> (try omega), by simpa [upd, f6] using (show RestP (x + 1) W0 _ ps k' from hr6), by (simp (disch := omega) [go_sem, *]) <;> (try omega), by (simp (disch := omega) [go_sem, *]) <;> (try omega), k3, hd, k4, k5⟩
      have hbl := (List.getElem?_eq_some_iff.1 hbb).1
      have hb6 : W[b]? = some ⟨ps.flatMap pfC, m⟩ := by rw [hd.2.1 b hbl (by omega), hbb]
      have hbbp : b ≠ bp := by omega
      obtain ⟨g1, g2⟩ := cells_all (f := pfC) (z := 18) (L := ps) hps16 k' hkk
      have hql := hps16 ps[k'] (List.getElem_mem hkk)
      have htk2 : ps.take k ++ (al ++ [ps[k']]) = ps.take (k' + 1) := by rw [← List.append_assoc, htk, List.take_succ_eq_append_getElem hkk]
      have hfl2 : (al ++ [ps[k']]).flatMap pfC = al.flatMap pfC ++ pfC ps[k'] := by rw [List.flatMap_append, List.flatMap_singleton]
      have hal16 : (al.flatMap pfC).length = al.length * 18 := fl_len fun q hq => hps16 q (List.mem_of_mem_take (i := k') (by rw [← htk]; exact List.mem_append_right _ hq))
      have hr7 : RestP (x + 1) W0 (.view b ((k' + 1) * 18) (ps.length - (k' + 1)) 18 false) ps (k' + 1) := ⟨hkk, .inr ⟨b, m, hbx, hpne, rfl, hbb⟩⟩
      have hall : al.length ≤ 6 := by have := congrArg List.length htk; rw [List.length_append, List.length_take, List.length_take] at this; omega
      have hXl2 : ∀ w, (peX p w).length = 85 := fun w => peX_len (show PeG p from hp).1 w
      obtain ⟨Q1, hQ1⟩ : ∃ Q1, pfC ps[k'] = Q1 := ⟨_, rfl⟩
      rw [hQ1] at hql g2 hfl2
      obtain ⟨cs, hcs⟩ : ∃ cs, ps.flatMap pfC = cs := ⟨_, rfl⟩
      rw [hcs] at hb6 g1 g2
      obtain ⟨X, hX⟩ : ∃ X, peX p av = X := ⟨_, rfl⟩
      rw [hX] at hb hX84 hXl hXw
      obtain ⟨hX1, hX2, -⟩ := hX84
      replace hcs : Hid _ := hcs
      replace hX : Hid _ := hX
      replace hQ1 : Hid _ := hQ1
      replace hr6 : Hid _ := hr6
      replace hr7 : Hid _ := hr7
      replace hp : Hid _ := hp
      replace hfin : Hid _ := hfin
      replace htk : Hid _ := htk
      replace htk2 : Hid _ := htk2
      replace hbb : Hid _ := hbb
      replace hps16 : Hid _ := hps16
      replace hXw : Hid _ := hXw
      have xb := bx_pack hb
      rcases hg with ⟨rfl, rfl⟩ | ⟨bA, m2, hbA, hane, rfl, hgb⟩
      ·
        cases m
        all_goals
          repeat' (first | (with_reducible first | apply jA | apply jB | apply jC | apply jD | apply jE | apply jF | apply jG | apply jH | apply jI | apply jJ | apply jK | apply jL | apply jM | apply jN | apply jO) | ((with_reducible first | apply jP | apply jQ); rfl) | ((first | ((with_reducible first | apply jR | apply jS | apply jT); rfl; rfl) | (with_reducible first | apply jU | apply jV | apply jW) | ((with_reducible first | apply jX | apply jY | apply jZ); rfl)); all_goals (first | ((with_reducible show Is _ _); exact kE) | ((with_reducible refine fun (hc : (_ : Bool) = _) => ?_); (try simp only [xZ, xY, xP, reduceCtorEq] at hc); (try (have hx : True := hc; clear hx hc)); (try exact kX)) | ((fail_if_success (with_reducible first | show Is _ _ | show ACall _ _ _ _ _)); (try ((with_reducible show _ ∨ _); exact kT))))))
          refine ⟨⟨j - 1, k' + 1, [ps[k']], .view W.length 0 1 18 false, by (simp (disch := omega) [go_sem, *]) <;> (try omega), by (simp (disch := omega) [go_sem, *]) <;> (try omega), by (simp (disch := omega) [go_sem, *]) <;> (try omega), ?_, by (simp (disch := omega) [go_sem, *]) <;> (try omega), by (simp (disch := omega) [go_sem, *]) <;> (try omega), by (simp (disch := omega) [go_sem, *]) <;> (try omega), by omega, ?_, ?_, ?_, htk2⟩, by (simp (disch := omega) [go_sem, *]) <;> (try omega)⟩
          · refine (congrArg (fun c => RestP (x + 1) W0 c ps (k' + 1)) (?_ : _ = _)).mpr (show RestP (x + 1) W0 (.view b ((k' + 1) * 18) (ps.length - (k' + 1)) 18 false) ps (k' + 1) from hr7)
            (simp (disch := omega) [go_sem, *]) <;> (try omega)
          · rw [xb.2.2.2.1, (show ∀ w, X.take 84 ++ [w] = peX p w from hXw)]
          · exact (hd.set hβW hbp _).app hβW _
          · exact .inr ⟨W.length, false, by have := (List.getElem?_eq_some_iff.1 hb).1; omega, by simp, rfl, by rw [bx_get0 (by simp)]; simp [show pfC ps[k'] = Q1 from hQ1]⟩
      · have xA := bx_pack hgb
        have hAbp : bA ≠ bp := by omega
        have hAl : Hid (bA < W.length) := (List.getElem?_eq_some_iff.1 hgb).1
        cases m
        all_goals
          repeat' (first | (with_reducible first | apply jA | apply jB | apply jC | apply jD | apply jE | apply jF | apply jG | apply jH | apply jI | apply jJ | apply jK | apply jL | apply jM | apply jN | apply jO) | ((with_reducible first | apply jP | apply jQ); rfl) | ((first | ((with_reducible first | apply jR | apply jS | apply jT); rfl; rfl) | (with_reducible first | apply jU | apply jV | apply jW) | ((with_reducible first | apply jX | apply jY | apply jZ); rfl)); all_goals (first | ((with_reducible show Is _ _); exact kE) | ((with_reducible refine fun (hc : (_ : Bool) = _) => ?_); (try simp only [xZ, xY, xP, reduceCtorEq] at hc); (try (have hx : True := hc; clear hx hc)); (try exact kX)) | ((fail_if_success (with_reducible first | show Is _ _ | show ACall _ _ _ _ _)); (try ((with_reducible show _ ∨ _); exact kT))))))
          refine ⟨⟨j - 1, k' + 1, al ++ [ps[k']], .view bA 0 (al.length + 1) 18 false, by (simp (disch := omega) [go_sem, *]) <;> (try omega), by (simp (disch := omega) [go_sem, *]) <;> (try omega), by (simp (disch := omega) [go_sem, *]) <;> (try omega), ?_, by (simp (disch := omega) [go_sem, *]) <;> (try omega), by (simp (disch := omega) [go_sem, *]) <;> (try omega), by (simp (disch := omega) [go_sem, *]) <;> (try omega), by omega, ?_, ?_, ?_, htk2⟩, by (simp (disch := omega) [go_sem, *]) <;> (try omega)⟩
          · refine (congrArg (fun c => RestP (x + 1) W0 c ps (k' + 1)) (?_ : _ = _)).mpr (show RestP (x + 1) W0 (.view b ((k' + 1) * 18) (ps.length - (k' + 1)) 18 false) ps (k' + 1) from hr7)
            (simp (disch := omega) [go_sem, *]) <;> (try omega)
          · rw [List.getElem?_set_self (by rw [List.length_set]; exact (List.getElem?_eq_some_iff.1 hb).1), (show ∀ w, X.take 84 ++ [w] = peX p w from hXw)]
          · exact (hd.set hβW (by omega) _).set hβW hbp _
          · exact .inr ⟨bA, true, hbA, by simp, by simp, by rw [List.getElem?_set_ne (Ne.symm hAbp), List.getElem?_set_self (show bA < W.length from hAl), hfl2]⟩
  clear hrd fr W
  rintro fr W ⟨p, av, k', hp, hp1, f0, f4, f5, hr6, f7, f8, hb, hd, hg, htk⟩
  have hZ2 : W[r]? = some ⟨Z, false⟩ := by rw [hd.2.1 r (by omega) (by omega), hZ]
  have hx2 : W[x]? = some ⟨K.map byteC ++ [.int .i64 port, pc], false⟩ := by rw [hd.2.1 x (by omega) (by omega), hx]
  have hQ2 : PeersB (x + 1) W pc Q := PeersB.keep (show PeersB (x + 1) W0 pc Q from hQ) fun j h1 h2 => hd.2.1 j h2 (by omega)
  have hr2 : RestP (x + 1) W (fr 6) ps k' := hr6.keep fun j m h1 _ h2 => hd.2.1 j (List.getElem?_eq_some_iff.1 h2).1 (by omega)
  have hXl := peX_len hp.1 av
  have hX85 := (px_get hp.1 av).2.2
  have hK32 : (K.map byteC).length = 32 := by simp [hK]
  have hdrop : (K.map byteC ++ [.int .i64 port, pc]).drop 33 = [pc] := by rw [show (33 : Nat) = 32 + 1 from rfl, ← List.drop_drop, List.drop_left' hK32]; rfl
  have hspl : ∀ w, (K.map byteC ++ [.int .i64 port, pc]).take 33 ++ [w] = K.map byteC ++ [.int .i64 port, w] := fun w => by
    rw [List.take_append, hK32, List.take_of_length_le (by omega)]; simp
  have hpc : cellsC pc = some [pc] := by
    rcases (show PeersB (x + 1) W pc Q from hQ2).2 with ⟨_, rfl⟩ | ⟨b, m, _, _, rfl, _⟩ <;> rfl
  obtain ⟨X, hX⟩ : ∃ X, peX p av = X := ⟨_, rfl⟩
  rw [hX] at hb hXl hX85
  obtain ⟨C, hC⟩ : ∃ C, K.map byteC ++ [.int .i64 port, pc] = C := ⟨_, rfl⟩
  rw [hC] at hx2 hdrop hspl
  have hCl : C.length = 34 := by rw [← hC]; simp [hK]
  have xx := bx_pack hx2
  have hbW : Hid (bp < W.length) := (List.getElem?_eq_some_iff.1 hb).1
  have hxW : Hid (x < W.length) := (List.getElem?_eq_some_iff.1 hx2).1
  replace hX : Hid _ := hX
  replace hC : Hid _ := hC
  replace hr2 : Hid _ := hr2
  replace hr6 : Hid _ := hr6
  replace hp : Hid _ := hp
  replace hg : Hid _ := hg
  replace htk : Hid _ := htk
  replace hspl : Hid _ := hspl
  have halls : alls ((Q ++ [(p, av)]).map (·.1)) = ps.take k' := by
    rw [List.map_append, alls, List.flatMap_append, ← (show ps.take k ++ p.2.2.2.2.2 = ps.take k' from htk), ← (show alls (Q.map (·.1)) = ps.take k from hal)]
    simp [alls]
  have hhead : p.1.head? = some (UInt8.ofNat (10 * i)) := by rw [hp1, ← hpub]; rfl
  have hpubs : (pubs ((Q ++ [(p, av)]).map (·.1))).Nodup := by
    rw [List.map_append, pubs, List.map_append]
    refine List.nodup_append.2 ⟨show (pubs (Q.map (·.1))).Nodup from hpu, by simp, fun a ha b hb e => ?_⟩
    rw [List.map_map, List.mem_map] at ha
    obtain ⟨q, hq1, rfl⟩ := ha
    obtain ⟨j, hj1, hj2, hj3⟩ := (show ∀ q ∈ Q, ∃ j : Nat, i < j ∧ j ≤ n ∧ q.1.1.head? = some (UInt8.ofNat (10 * j)) from hq) q hq1
    simp only [List.map_cons, List.map_nil, List.mem_singleton] at hb
    have e1 : q.1.1 = p.1 := by rw [← hb]; exact e
    rw [e1, hhead] at hj3
    have e2 := congrArg UInt8.toNat (Option.some.inj hj3)
    rw [UInt8.toNat_ofNat', UInt8.toNat_ofNat', Nat.mod_eq_of_lt (by omega), Nat.mod_eq_of_lt (by omega)] at e2
    omega
  have hqs : ∀ q ∈ Q ++ [(p, av)], ∃ j : Nat, i - 1 < j ∧ j ≤ n ∧ q.1.1.head? = some (UInt8.ofNat (10 * j)) := fun q hq1 => by
    rcases List.mem_append.1 hq1 with h | h
    · obtain ⟨j, hj1, hj2, hj3⟩ := (show ∀ q ∈ Q, ∃ j : Nat, i < j ∧ j ≤ n ∧ q.1.1.head? = some (UInt8.ofNat (10 * j)) from hq) q h
      exact ⟨j, by omega, hj2, hj3⟩
    · rw [List.mem_singleton.1 h]; exact ⟨i, by omega, by omega, hhead⟩
  replace halls : Hid _ := halls
  replace hhead : Hid _ := hhead
  replace hpubs : Hid _ := hpubs
  replace hqs : Hid _ := hqs
  replace hp1 : Hid _ := hp1
  rcases hQ2.2 with ⟨hQ0, hpc0⟩ | ⟨bP, m, hbP, hQne, hpc0, hbPc⟩
  · replace hQ2 : Hid _ := hQ2
    replace hQ0 : Hid _ := hQ0
    subst hpc0
    repeat' (first | (with_reducible first | apply jA | apply jB | apply jC | apply jD | apply jE | apply jF | apply jG | apply jH | apply jI | apply jJ | apply jK | apply jL | apply jM | apply jN | apply jO) | ((with_reducible first | apply jP | apply jQ); rfl) | ((first | ((with_reducible first | apply jR | apply jS | apply jT); rfl; rfl) | (with_reducible first | apply jU | apply jV | apply jW) | ((with_reducible first | apply jX | apply jY | apply jZ); rfl)); all_goals (first | ((with_reducible show Is _ _); exact kE) | ((with_reducible refine fun (hc : (_ : Bool) = _) => ?_); (try simp only [xZ, xY, xP, reduceCtorEq] at hc); (try (have hx : True := hc; clear hx hc)); (try exact kX)) | ((fail_if_success (with_reducible first | show Is _ _ | show ACall _ _ _ _ _)); (try ((with_reducible show _ ∨ _); exact kT))))))
    have hxW' := show x < W.length from hxW
    have hQ0' := show Q = [] from hQ0
    have hout : ∀ (y z : Box) (j : Nat), j < W.length → j ≠ x → (W.set x y ++ [z])[j]? = W[j]? := fun y z j h1 h2 => by rw [List.getElem?_append_left (by simpa using h1), List.getElem?_set_ne (Ne.symm h2)]
    refine ⟨⟨i - 1, Q ++ [(p, av)], .view W.length 0 1 85 false, k', by rw [List.length_append]; simp; omega, by (simp (disch := omega) [go_sem, *]) <;> (try omega), by (simp (disch := omega) [go_sem, *]) <;> (try omega), by (simp (disch := omega) [go_sem, *]) <;> (try omega), by (simp (disch := omega) [go_sem, *]) <;> (try omega), ?_, ?_, ?_, ?_, ?_, ?_, halls, hpubs, hqs⟩, by (simp (disch := omega) [go_sem, *]) <;> (try omega)⟩
    · obtain ⟨a, h1, h2⟩ := hd.1
      exact ⟨a, h1, by rw [hout _ _ β (by omega) (by omega), h2]⟩
    · rw [hout _ _ r (by omega) (by omega), hZ2]
    · rw [xx.2.2.2.1, (show ∀ w, C.take 33 ++ [w] = K.map byteC ++ [.int .i64 port, w] from hspl)]
    · simp; omega
    · have h9 : RestP (x + 1) (W.set x ⟨C.take 33 ++ [.view W.length 0 1 85 false], false⟩ ++ [⟨X, false⟩]) (fr 6) ps k' := (show RestP (x + 1) W (fr 6) ps k' from hr2).keep fun j m h1 _ h2 => hout _ _ j (List.getElem?_eq_some_iff.1 h2).1 (by omega)
      simpa [upd] using h9
    · have h9 := PeersB.snoc (show PeersB (x + 1) W .nilS Q from hQ2) hp (GrowX.low (show GrowX (bp + 1) av W p.2.2.2.2.2 from hg) (by omega)) (by omega) (.inl ⟨hQ0', rfl⟩)
      rw [if_pos hQ0', (show peX p av = X from hX)] at h9
      rw [← xx.2.1]
      exact h9.keep fun j h1 h2 => by rw [List.getElem?_set_ne (by omega)]
  · have hPx : bP ≠ x := by omega
    have hfQ : (Q.flatMap pqC).length = Q.length * 85 := fl_len fun q hq => peX_len ((show PeersB (x + 1) W pc Q from hQ2).1 q hq).1.1 _
    obtain ⟨CQ, hCQ⟩ : ∃ CQ, Q.flatMap pqC = CQ := ⟨_, rfl⟩
    rw [hCQ] at hbPc hfQ
    have hQl : Q.length ≠ 0 := by simpa using hQne
    replace hCQ : Hid _ := hCQ
    replace hQ2 : Hid _ := hQ2
    have xP := bx_pack hbPc
    subst hpc0
    repeat' (first | (with_reducible first | apply jA | apply jB | apply jC | apply jD | apply jE | apply jF | apply jG | apply jH | apply jI | apply jJ | apply jK | apply jL | apply jM | apply jN | apply jO) | ((with_reducible first | apply jP | apply jQ); rfl) | ((first | ((with_reducible first | apply jR | apply jS | apply jT); rfl; rfl) | (with_reducible first | apply jU | apply jV | apply jW) | ((with_reducible first | apply jX | apply jY | apply jZ); rfl)); all_goals (first | ((with_reducible show Is _ _); exact kE) | ((with_reducible refine fun (hc : (_ : Bool) = _) => ?_); (try simp only [xZ, xY, xP, reduceCtorEq] at hc); (try (have hx : True := hc; clear hx hc)); (try exact kX)) | ((fail_if_success (with_reducible first | show Is _ _ | show ACall _ _ _ _ _)); (try ((with_reducible show _ ∨ _); exact kT))))))
    have hxW' := show x < W.length from hxW
    have hPW := (List.getElem?_eq_some_iff.1 hbPc).1
    have hout : ∀ (y z : Box) (j : Nat), j ≠ x → j ≠ bP → ((W.set bP z).set x y)[j]? = W[j]? := fun y z j h1 h2 => by rw [List.getElem?_set_ne (Ne.symm h1), List.getElem?_set_ne (Ne.symm h2)]
    refine ⟨⟨i - 1, Q ++ [(p, av)], .view bP 0 (Q.length + 1) 85 false, k', by rw [List.length_append]; simp; omega, by (simp (disch := omega) [go_sem, *]) <;> (try omega), by (simp (disch := omega) [go_sem, *]) <;> (try omega), by (simp (disch := omega) [go_sem, *]) <;> (try omega), by (simp (disch := omega) [go_sem, *]) <;> (try omega), ?_, ?_, ?_, ?_, ?_, ?_, halls, hpubs, hqs⟩, by (simp (disch := omega) [go_sem, *]) <;> (try omega)⟩
    · obtain ⟨a, h1, h2⟩ := hd.1
      exact ⟨a, h1, by rw [hout _ _ β (by omega) (by omega), h2]⟩
    · rw [hout _ _ r (by omega) (by omega), hZ2]
    · rw [List.getElem?_set_self (by simpa using hxW'), (show ∀ w, C.take 33 ++ [w] = K.map byteC ++ [.int .i64 port, w] from hspl)]
    · simp; omega
    · have h9 : RestP (x + 1) ((W.set bP ⟨CQ ++ X, true⟩).set x ⟨C.take 33 ++ [.view bP 0 (Q.length + 1) 85 false], false⟩) (fr 6) ps k' := (show RestP (x + 1) W (fr 6) ps k' from hr2).keep fun j m h1 hne h2 => hout _ _ j (by omega) (gx_ne h2 hne (by rw [(show Q.flatMap pqC = CQ from hCQ)]; exact hbPc) hQne fun q hq => ((show PeersB (x + 1) W _ Q from hQ2).1 q hq).1.1)
      simpa [upd] using h9
    · have h9 := PeersB.snoc (show PeersB (x + 1) W (.view bP 0 Q.length 85 false) Q from hQ2) hp (GrowX.low (show GrowX (bp + 1) av W p.2.2.2.2.2 from hg) (by omega)) (by omega) (.inr ⟨bP, hQne, rfl, rfl⟩)
      rw [if_neg hQne, (show peX p av = X from hX), (show Q.flatMap pqC = CQ from hCQ)] at h9
      exact h9.keep fun j h1 h2 => by rw [List.getElem?_set_ne (by omega)]
end Go.Proofs.YtdceppjoipoohaaDoor
end
section
namespace Go.Proofs.YtdceppjoipoohaaDoor
open Go Go.Sy
set_option linter.all false
set_option maxRecDepth 100000
set_option maxHeartbeats 4000000
theorem kE_YCT0 {α : Type} {x y : α} (h : Is x y := by first | ((try simp (disch := first | omega | (simp only [yZ, yB] <;> omega) | fail) [go_sem, yY, *, and1_u8, or_even, if_pos, if_neg, -List.map_take, -List.map_drop, -List.map_append, -List.map_reverse]); exact rfl) | fail) : Is x y := h
theorem kE_YCT1 {α : Type} {x y : α} (h : Is x y := by first | ((try simp (disch := first | omega | (simp only [yZ, yB] <;> omega) | fail) [go_sem, yY, *, hix, if_pos, if_neg, -List.map_take, -List.map_drop, -List.map_append, -List.map_reverse]); exact rfl) | fail) : Is x y := h
theorem kE_YCT2 {α : Type} {x y : α} (h : Is x y := by first | ((try simp (disch := first | omega | (simp only [yZ, yB] <;> omega) | fail) [go_sem, yY, *, and1_u8, if_pos, if_neg, -List.map_take, -List.map_drop, -List.map_append, -List.map_reverse]); exact rfl) | fail) : Is x y := h
def bitAt (k : List UInt8) (j : Nat) : Nat := (k.getD (j / 8) 0).toNat / 2 ^ (7 - j % 8) % 2
def sixP (k : List UInt8) (i : Nat) : Nat → Nat
  | 0 => 0
  | n + 1 => 2 * sixP k i n + bitAt k (6 * i + n)
theorem bitAt_lt (k : List UInt8) (j : Nat) : bitAt k j < 2 := Nat.mod_lt _ (by omega)
theorem sixP_lt (k : List UInt8) (i n : Nat) : sixP k i n < 2 ^ n := by
  induction n with
  | zero => simp [sixP]
  | succ n ih => have := bitAt_lt k (6 * i + n); simp only [sixP, Nat.pow_succ]; omega
def marks : List UInt8 := [65, 66, 67, 68, 69, 70, 71, 72, 73, 74, 75, 76, 77, 78, 79, 80, 81, 82, 83, 84, 85, 86, 87, 88, 89, 90, 97, 98, 99, 100, 101, 102, 103, 104, 105, 106, 107, 108, 109, 110, 111, 112, 113, 114, 115, 116, 117, 118, 119, 120, 121, 122, 48, 49, 50, 51, 52, 53, 54, 55, 56, 57, 43, 47]
def mk64 (n : Nat) : UInt8 := marks.getD n 0
theorem marks_len : marks.length = 64 := rfl
theorem marks_get (k : Nat) (h : k < 64) : marks[k]? = some (mk64 k) := by
  rw [mk64, List.getD_eq_getElem?_getD, List.getElem?_eq_getElem (by rw [marks_len]; exact h), Option.getD_some]
theorem marks_ix {k : Nat} (h : k < 64) (h' : k < marks.length) : marks[k]'h' = mk64 k := by
  have := marks_get k h
  rw [List.getElem?_eq_getElem h'] at this
  exact Option.some.inj this
theorem marks_sub (k : Nat) (h : k < 64) : (marks.drop k).take 1 = [mk64 k] := by
  rw [List.drop_eq_getElem_cons (by rw [marks_len]; exact h), marks_ix h]; rfl
def textP (k : List UInt8) (n : Nat) : List UInt8 := (List.range n).map fun i => mk64 (sixP k i 6)
def textS (k : List UInt8) : List UInt8 := textP k 43 ++ [61]
theorem textP_succ (k : List UInt8) (n : Nat) : textP k (n + 1) = textP k n ++ [mk64 (sixP k n 6)] := by simp [textP, List.range_succ]
theorem textP_len (k : List UInt8) (n : Nat) : (textP k n).length = n := by simp [textP]
theorem text_in (k : List UInt8) (hk : k.length = 32) : PC Tryd.prog true 58 [.agg (k.map byteC)] (.str (textS k)) := by
  refine acall_intro mixed Tryd.func58 rfl ca58 (by kernel_rfl) (by rw [Tryd.ntmps58]; simp) ?_
  repeat' (first | (with_reducible first | apply jA | apply jB | apply jC | apply jD | apply jE | apply jF | apply jG | apply jH | apply jI | apply jJ | apply jK | apply jL | apply jM | apply jN | apply jO) | ((with_reducible first | apply jP | apply jQ); rfl) | ((first | ((with_reducible first | apply jR | apply jS | apply jT); rfl; rfl) | (with_reducible first | apply jU | apply jV | apply jW) | ((with_reducible first | apply jX | apply jY | apply jZ); rfl)); all_goals (first | ((with_reducible show Is _ _); exact kE) | ((with_reducible refine fun (hc : (_ : Bool) = _) => ?_); (try simp only [xZ, xY, xP, reduceCtorEq] at hc); (try (have hx : True := hc; clear hx hc)); (try exact kX)) | ((fail_if_success (with_reducible first | show Is _ _ | show ACall _ _ _ _ _)); (try ((with_reducible show _ ∨ _); exact kT))))))
  refine w_loop (fun fr B => ∃ i : Nat, i ≤ 43 ∧ fr 8 = .int .i64 i ∧ fr 1 = .ptr 0 0 ∧ GrowB [⟨k.map byteC, false⟩] (fr 3) B (textP k i)) (fun fr _ => 43 - natOf (fr 8)) ?_ ?_
  · exact ⟨0, by omega, by (simp (disch := omega) [go_sem, *]) <;> (try omega), by (simp (disch := omega) [go_sem, *]) <;> (try omega), by (simp (disch := omega) [go_sem, *]) <;> (try omega); exact .nil _ _⟩
  · rintro fr B ⟨i, hi, h8, h1, h⟩
    obtain ⟨c3, h3⟩ : ∃ c, fr 3 = c := ⟨_, rfl⟩
    rw [h3] at h
    have hb := h.old (b := 0) rfl
    by_cases hc : i < 43
    · repeat' (first | (with_reducible first | apply jA | apply jB | apply jC | apply jD | apply jE | apply jF | apply jG | apply jH | apply jI | apply jJ | apply jK | apply jL | apply jM | apply jN | apply jO) | ((with_reducible first | apply jP | apply jQ); rfl) | ((first | ((with_reducible first | apply jR | apply jS | apply jT); rfl; rfl) | (with_reducible first | apply jU | apply jV | apply jW) | ((with_reducible first | apply jX | apply jY | apply jZ); rfl)); all_goals (first | ((with_reducible show Is _ _); exact kE) | ((with_reducible refine fun (hc : (_ : Bool) = _) => ?_); (try simp only [xZ, xY, xP, reduceCtorEq] at hc); (try (have hx : True := hc; clear hx hc)); (try exact kX)) | ((fail_if_success (with_reducible first | show Is _ _ | show ACall _ _ _ _ _)); (try ((with_reducible show _ ∨ _); exact kT))))))
      refine w_loop (fun fr B1 => ∃ j : Nat, j ≤ 6 ∧ fr 11 = .int .i64 j ∧ fr 5 = .int .i64 (sixP k i j) ∧ fr 4 = .int .i64 i ∧ fr 8 = .int .i64 i ∧ fr 3 = c3 ∧ fr 1 = .ptr 0 0 ∧ B1 = B) (fun fr _ => 6 - natOf (fr 11)) ?_ ?_
      · exact ⟨0, by omega, by (simp (disch := omega) [go_sem, *]) <;> (try omega), by (simp (disch := omega) [go_sem, sixP]) <;> (try omega), by (simp (disch := omega) [go_sem, *]) <;> (try omega), by (simp (disch := omega) [go_sem, *]) <;> (try omega), by (simp (disch := omega) [go_sem, *]) <;> (try omega), by (simp (disch := omega) [go_sem, *]) <;> (try omega), rfl⟩
      · have hn : natOf (fr 8) = i := by rw [h8]; simp [natOf]
        clear h8 h3 h1
        rintro fr B1 ⟨j, hj, h11, h5, h4, h8, h3, h1, rfl⟩
        by_cases hj6 : j < 6
        · have hlt : sixP k i j < 64 := Nat.lt_of_lt_of_le (sixP_lt k i j) (Nat.pow_le_pow_right (by omega) (show j ≤ 6 by omega))
          obtain ⟨q, r, hq, hr, hr8, hqr⟩ : ∃ q r : Nat, (6 * (i : Int) + (j : Int)) / 8 = q ∧ (6 * (i : Int) + (j : Int)) % 8 = 7 - (r : Int) ∧ r ≤ 7 ∧ 6 * i + j = 8 * q + (7 - r) := ⟨(6 * i + j) / 8, 7 - (6 * i + j) % 8, by omega, by omega, by omega, by omega⟩
          have e7 : 7 - (7 - (r : Int)) = r := by omega
          have hbit : bitAt k (6 * i + j) = (k.getD q 0).toNat / 2 ^ r % 2 := by rw [bitAt, show (6 * i + j) / 8 = q by omega, show 7 - (6 * i + j) % 8 = r by omega]
          have hbl := bitAt_lt k (6 * i + j)
          have hdl : (k.getD q 0).toNat / 2 ^ r < 256 := Nat.lt_of_le_of_lt (Nat.div_le_self _ _) (UInt8.toNat_lt _)
          have hsix : sixP k i (j + 1) = 2 * sixP k i j + bitAt k (6 * i + j) := rfl
          rw [hbit] at hsix hbl
          have hkq : q < k.length → (k.getD q 0) = k.getD q 0 := fun _ => rfl
          by_cases hin : 6 * i + j < 256
          · rw [List.getD_eq_getElem?_getD, List.getElem?_eq_getElem (show q < k.length by omega), Option.getD_some] at hsix hbl hdl
            clear hbit hkq
            have hd := div_pow_lt (n := k[q].toNat) r (b := 256) (by have := k[q].toNat_lt; omega)
            repeat' (first | (with_reducible first | apply jA | apply jB | apply jC | apply jD | apply jE | apply jF | apply jG | apply jH | apply jI | apply jJ | apply jK | apply jL | apply jM | apply jN | apply jO) | ((with_reducible first | apply jP | apply jQ); rfl) | ((first | ((with_reducible first | apply jR | apply jS | apply jT); rfl; rfl) | (with_reducible first | apply jU | apply jV | apply jW) | ((with_reducible first | apply jX | apply jY | apply jZ); rfl)); all_goals (first | ((with_reducible show Is _ _); exact kE_YCT0) | ((with_reducible refine fun (hc : (_ : Bool) = _) => ?_); (try simp only [xZ, xY, xP, reduceCtorEq] at hc); (try (have hx : True := hc; clear hx hc)); (try exact kX)) | ((fail_if_success (with_reducible first | show Is _ _ | show ACall _ _ _ _ _)); (try ((with_reducible show _ ∨ _); exact kT))))))
            refine ⟨⟨j + 1, by omega, ?_, ?_, ?_, ?_, ?_, ?_, rfl⟩, ?_⟩ <;> (simp (disch := omega) [go_sem, *]) <;> (try omega)
          · have h0 : (k.getD q 0).toNat = 0 := by rw [List.getD_eq_getElem?_getD, List.getElem?_eq_none (by omega)]; rfl
            rw [h0, Nat.zero_div, Nat.zero_mod, Nat.add_zero] at hsix
            clear hbit hkq hbl hdl h0
            repeat' (first | (with_reducible first | apply jA | apply jB | apply jC | apply jD | apply jE | apply jF | apply jG | apply jH | apply jI | apply jJ | apply jK | apply jL | apply jM | apply jN | apply jO) | ((with_reducible first | apply jP | apply jQ); rfl) | ((first | ((with_reducible first | apply jR | apply jS | apply jT); rfl; rfl) | (with_reducible first | apply jU | apply jV | apply jW) | ((with_reducible first | apply jX | apply jY | apply jZ); rfl)); all_goals (first | ((with_reducible show Is _ _); exact kE) | ((with_reducible refine fun (hc : (_ : Bool) = _) => ?_); (try simp only [xZ, xY, xP, reduceCtorEq] at hc); (try (have hx : True := hc; clear hx hc)); (try exact kX)) | ((fail_if_success (with_reducible first | show Is _ _ | show ACall _ _ _ _ _)); (try ((with_reducible show _ ∨ _); exact kT))))))
            refine ⟨⟨j + 1, by omega, ?_, ?_, ?_, ?_, ?_, ?_, rfl⟩, ?_⟩ <;> (simp (disch := omega) [go_sem, *]) <;> (try omega)
        · have hj' : j = 6 := by omega
          subst hj'
          have hlt := sixP_lt k i 6
          have hl := textP_len k i
          have hts := textP_succ k i
          generalize sixP k i 6 = v at *
          obtain ⟨c', B', happ, hg⟩ := h.app (P := Tryd.prog) (e := 5) (.lst 1 [byteC (mk64 v)] true) [mk64 v] rfl (by kernel_rfl) (by simp only [List.length_cons, List.length_nil]; omega)
          rw [← hts] at hg
          clear hts
          have hix := fun h' => marks_ix (k := v) (by omega) h'
          rw [marks] at hix
          repeat' (first | (with_reducible first | apply jA | apply jB | apply jC | apply jD | apply jE | apply jF | apply jG | apply jH | apply jI | apply jJ | apply jK | apply jL | apply jM | apply jN | apply jO) | ((with_reducible first | apply jP | apply jQ); rfl) | ((first | ((with_reducible first | apply jR | apply jS | apply jT); rfl; rfl) | (with_reducible first | apply jU | apply jV | apply jW) | ((with_reducible first | apply jX | apply jY | apply jZ); rfl)); all_goals (first | ((with_reducible show Is _ _); exact kE_YCT1) | ((with_reducible refine fun (hc : (_ : Bool) = _) => ?_); (try simp only [xZ, xY, xP, reduceCtorEq] at hc); (try (have hx : True := hc; clear hx hc)); (try exact kX)) | ((fail_if_success (with_reducible first | show Is _ _ | show ACall _ _ _ _ _)); (try ((with_reducible show _ ∨ _); exact kT))))))
          clear hix
          refine ⟨⟨i + 1, by omega, ?_, ?_, ?_⟩, ?_⟩ <;> (simp (disch := omega) [go_sem, *]) <;> (try omega)
    · have hi' : i = 43 := by omega
      subst hi'
      have hl := textP_len k 43
      obtain ⟨c', B', happ, hg⟩ := h.app (P := Tryd.prog) (e := 5) (.lst 1 [.int .u8 61] true) [61] rfl (by kernel_rfl) (by simp only [List.length_cons, List.length_nil]; omega)
      have hl2 : (textS k).length = 44 := by rw [textS, List.length_append, hl]; rfl
      rw [← textS] at hg
      obtain ⟨m, rfl, rfl⟩ := hg.view (by omega)
      generalize textS k = l at *
      repeat' (first | (with_reducible first | apply jA | apply jB | apply jC | apply jD | apply jE | apply jF | apply jG | apply jH | apply jI | apply jJ | apply jK | apply jL | apply jM | apply jN | apply jO) | ((with_reducible first | apply jP | apply jQ); rfl) | ((first | ((with_reducible first | apply jR | apply jS | apply jT); rfl; rfl) | (with_reducible first | apply jU | apply jV | apply jW) | ((with_reducible first | apply jX | apply jY | apply jZ); rfl)); all_goals (first | ((with_reducible show Is _ _); exact kE) | ((with_reducible refine fun (hc : (_ : Bool) = _) => ?_); (try simp only [xZ, xY, xP, reduceCtorEq] at hc); (try (have hx : True := hc; clear hx hc)); (try exact kX)) | ((fail_if_success (with_reducible first | show Is _ _ | show ACall _ _ _ _ _)); (try ((with_reducible show _ ∨ _); exact kT))))))
      all_goals rfl
theorem rtext_in (k : List UInt8) (hk : k.length = 32) : PC Tryd.prog true 60 [.agg (k.map byteC)] (.str (textS k)) := by
  refine acall_intro mixed Tryd.func60 rfl ca60 (by kernel_rfl) (by rw [Tryd.ntmps60]; simp) ?_
  repeat' (first | (with_reducible first | apply jA | apply jB | apply jC | apply jD | apply jE | apply jF | apply jG | apply jH | apply jI | apply jJ | apply jK | apply jL | apply jM | apply jN | apply jO) | ((with_reducible first | apply jP | apply jQ); rfl) | ((first | ((with_reducible first | apply jR | apply jS | apply jT); rfl; rfl) | (with_reducible first | apply jU | apply jV | apply jW) | ((with_reducible first | apply jX | apply jY | apply jZ); rfl)); all_goals (first | ((with_reducible show Is _ _); exact kE) | ((with_reducible refine fun (hc : (_ : Bool) = _) => ?_); (try simp only [xZ, xY, xP, reduceCtorEq] at hc); (try (have hx : True := hc; clear hx hc)); (try exact kX)) | ((fail_if_success (with_reducible first | show Is _ _ | show ACall _ _ _ _ _)); (try ((with_reducible show _ ∨ _); exact kT))))))
  refine w_loop (fun fr B => ∃ i : Nat, i ≤ 43 ∧ fr 4 = .int .i64 i ∧ fr 1 = .ptr 0 0 ∧ fr 3 = .str (textP k i) ∧ B = [⟨k.map byteC, false⟩]) (fun fr _ => 43 - natOf (fr 4)) ?_ ?_
  · exact ⟨0, by omega, by (simp (disch := omega) [go_sem, *]) <;> (try omega), by (simp (disch := omega) [go_sem, *]) <;> (try omega), by (simp (disch := omega) [go_sem, textP]) <;> (try omega), rfl⟩
  · rintro fr B ⟨i, hi, h8, h1, h3, rfl⟩
    by_cases hc : i < 43
    · repeat' (first | (with_reducible first | apply jA | apply jB | apply jC | apply jD | apply jE | apply jF | apply jG | apply jH | apply jI | apply jJ | apply jK | apply jL | apply jM | apply jN | apply jO) | ((with_reducible first | apply jP | apply jQ); rfl) | ((first | ((with_reducible first | apply jR | apply jS | apply jT); rfl; rfl) | (with_reducible first | apply jU | apply jV | apply jW) | ((with_reducible first | apply jX | apply jY | apply jZ); rfl)); all_goals (first | ((with_reducible show Is _ _); exact kE) | ((with_reducible refine fun (hc : (_ : Bool) = _) => ?_); (try simp only [xZ, xY, xP, reduceCtorEq] at hc); (try (have hx : True := hc; clear hx hc)); (try exact kX)) | ((fail_if_success (with_reducible first | show Is _ _ | show ACall _ _ _ _ _)); (try ((with_reducible show _ ∨ _); exact kT))))))
      refine w_loop (fun fr B1 => ∃ j : Nat, j ≤ 6 ∧ fr 6 = .int .i64 (6 * i + j : Nat) ∧ fr 5 = .int .i64 (sixP k i j) ∧ fr 4 = .int .i64 i ∧ fr 3 = .str (textP k i) ∧ fr 1 = .ptr 0 0 ∧ B1 = [⟨k.map byteC, false⟩]) (fun fr _ => 6 * i + 6 - natOf (fr 6)) ?_ ?_
      · exact ⟨0, by omega, by (simp (disch := omega) [go_sem, *]) <;> (try omega), by (simp (disch := omega) [go_sem, sixP]) <;> (try omega), by (simp (disch := omega) [go_sem, *]) <;> (try omega), by (simp (disch := omega) [go_sem, *]) <;> (try omega), by (simp (disch := omega) [go_sem, *]) <;> (try omega), rfl⟩
      · have hn : natOf (fr 4) = i := by rw [h8]; simp [natOf]
        clear h8 h3 h1
        rintro fr B1 ⟨j, hj, h11, h5, h4, h3, h1, rfl⟩
        by_cases hj6 : j < 6
        · have hlt : sixP k i j < 64 := Nat.lt_of_lt_of_le (sixP_lt k i j) (Nat.pow_le_pow_right (by omega) (show j ≤ 6 by omega))
          obtain ⟨q, r, hq, hr, hr8, hqr⟩ : ∃ q r : Nat, (6 * (i : Int) + (j : Int)) / 8 = q ∧ (6 * (i : Int) + (j : Int)) % 8 = 7 - (r : Int) ∧ r ≤ 7 ∧ 6 * i + j = 8 * q + (7 - r) := ⟨(6 * i + j) / 8, 7 - (6 * i + j) % 8, by omega, by omega, by omega, by omega⟩
          have e7 : 7 - (7 - (r : Int)) = r := by omega
          have hbit : bitAt k (6 * i + j) = (k.getD q 0).toNat / 2 ^ r % 2 := by rw [bitAt, show (6 * i + j) / 8 = q by omega, show 7 - (6 * i + j) % 8 = r by omega]
          have hsix : sixP k i (j + 1) = 2 * sixP k i j + bitAt k (6 * i + j) := rfl
          rw [hbit] at hsix
          clear hbit hqr
          by_cases hin : 6 * i + j < 256
          · rw [List.getD_eq_getElem?_getD, List.getElem?_eq_getElem (show q < k.length by omega), Option.getD_some] at hsix
            have hd := div_pow_lt (n := k[q].toNat) r (b := 256) (by have := k[q].toNat_lt; omega)
            have hcast : (((k[q].toNat / 2 ^ r % 2 : Nat)) : Int) = (k[q].toNat : Int) / 2 ^ r % 2 := by rw [Int.natCast_emod, Int.natCast_ediv]; simp
            by_cases hb1 : (k[q].toNat : Int) / 2 ^ r % 2 = 1
            · have hsix2 : sixP k i (j + 1) = 2 * sixP k i j + 1 := by omega
              clear hsix hcast
              repeat' (first | (with_reducible first | apply jA | apply jB | apply jC | apply jD | apply jE | apply jF | apply jG | apply jH | apply jI | apply jJ | apply jK | apply jL | apply jM | apply jN | apply jO) | ((with_reducible first | apply jP | apply jQ); rfl) | ((first | ((with_reducible first | apply jR | apply jS | apply jT); rfl; rfl) | (with_reducible first | apply jU | apply jV | apply jW) | ((with_reducible first | apply jX | apply jY | apply jZ); rfl)); all_goals (first | ((with_reducible show Is _ _); exact kE_YCT2) | ((with_reducible refine fun (hc : (_ : Bool) = _) => ?_); (try simp only [xZ, xY, xP, reduceCtorEq] at hc); (try (have hx : True := hc; clear hx hc)); (try exact kX)) | ((fail_if_success (with_reducible first | show Is _ _ | show ACall _ _ _ _ _)); (try ((with_reducible show _ ∨ _); exact kT))))))
              refine ⟨⟨j + 1, by omega, ?_, ?_, ?_, ?_, ?_, rfl⟩, ?_⟩ <;> (simp (disch := omega) [go_sem, *]) <;> (try omega)
            · have hsix2 : sixP k i (j + 1) = 2 * sixP k i j := by omega
              clear hsix hcast
              repeat' (first | (with_reducible first | apply jA | apply jB | apply jC | apply jD | apply jE | apply jF | apply jG | apply jH | apply jI | apply jJ | apply jK | apply jL | apply jM | apply jN | apply jO) | ((with_reducible first | apply jP | apply jQ); rfl) | ((first | ((with_reducible first | apply jR | apply jS | apply jT); rfl; rfl) | (with_reducible first | apply jU | apply jV | apply jW) | ((with_reducible first | apply jX | apply jY | apply jZ); rfl)); all_goals (first | ((with_reducible show Is _ _); exact kE_YCT2) | ((with_reducible refine fun (hc : (_ : Bool) = _) => ?_); (try simp only [xZ, xY, xP, reduceCtorEq] at hc); (try (have hx : True := hc; clear hx hc)); (try exact kX)) | ((fail_if_success (with_reducible first | show Is _ _ | show ACall _ _ _ _ _)); (try ((with_reducible show _ ∨ _); exact kT))))))
              refine ⟨⟨j + 1, by omega, ?_, ?_, ?_, ?_, ?_, rfl⟩, ?_⟩ <;> (simp (disch := omega) [go_sem, *]) <;> (try omega)
          · have h0 : (k.getD q 0).toNat = 0 := by rw [List.getD_eq_getElem?_getD, List.getElem?_eq_none (by omega)]; rfl
            rw [h0, Nat.zero_div, Nat.zero_mod, Nat.add_zero] at hsix
            clear h0
            repeat' (first | (with_reducible first | apply jA | apply jB | apply jC | apply jD | apply jE | apply jF | apply jG | apply jH | apply jI | apply jJ | apply jK | apply jL | apply jM | apply jN | apply jO) | ((with_reducible first | apply jP | apply jQ); rfl) | ((first | ((with_reducible first | apply jR | apply jS | apply jT); rfl; rfl) | (with_reducible first | apply jU | apply jV | apply jW) | ((with_reducible first | apply jX | apply jY | apply jZ); rfl)); all_goals (first | ((with_reducible show Is _ _); exact kE) | ((with_reducible refine fun (hc : (_ : Bool) = _) => ?_); (try simp only [xZ, xY, xP, reduceCtorEq] at hc); (try (have hx : True := hc; clear hx hc)); (try exact kX)) | ((fail_if_success (with_reducible first | show Is _ _ | show ACall _ _ _ _ _)); (try ((with_reducible show _ ∨ _); exact kT))))))
            refine ⟨⟨j + 1, by omega, ?_, ?_, ?_, ?_, ?_, rfl⟩, ?_⟩ <;> (simp (disch := omega) [go_sem, *]) <;> (try omega)
        · have hj' : j = 6 := by omega
          subst hj'
          have hlt := sixP_lt k i 6
          have hl := textP_len k i
          have hts := textP_succ k i
          generalize sixP k i 6 = v at *
          have hix := marks_sub v (by omega)
          rw [marks] at hix
          repeat' (first | (with_reducible first | apply jA | apply jB | apply jC | apply jD | apply jE | apply jF | apply jG | apply jH | apply jI | apply jJ | apply jK | apply jL | apply jM | apply jN | apply jO) | ((with_reducible first | apply jP | apply jQ); rfl) | ((first | ((with_reducible first | apply jR | apply jS | apply jT); rfl; rfl) | (with_reducible first | apply jU | apply jV | apply jW) | ((with_reducible first | apply jX | apply jY | apply jZ); rfl)); all_goals (first | ((with_reducible show Is _ _); exact kE_YCT1) | ((with_reducible refine fun (hc : (_ : Bool) = _) => ?_); (try simp only [xZ, xY, xP, reduceCtorEq] at hc); (try (have hx : True := hc; clear hx hc)); (try exact kX)) | ((fail_if_success (with_reducible first | show Is _ _ | show ACall _ _ _ _ _)); (try ((with_reducible show _ ∨ _); exact kT))))))
          clear hix
          refine ⟨⟨i + 1, by omega, ?_, ?_, ?_, rfl⟩, ?_⟩ <;> (simp (disch := omega) [go_sem, *]) <;> (try omega)
    · have hi' : i = 43 := by omega
      subst hi'
      have hl := textP_len k 43
      repeat' (first | (with_reducible first | apply jA | apply jB | apply jC | apply jD | apply jE | apply jF | apply jG | apply jH | apply jI | apply jJ | apply jK | apply jL | apply jM | apply jN | apply jO) | ((with_reducible first | apply jP | apply jQ); rfl) | ((first | ((with_reducible first | apply jR | apply jS | apply jT); rfl; rfl) | (with_reducible first | apply jU | apply jV | apply jW) | ((with_reducible first | apply jX | apply jY | apply jZ); rfl)); all_goals (first | ((with_reducible show Is _ _); exact kE) | ((with_reducible refine fun (hc : (_ : Bool) = _) => ?_); (try simp only [xZ, xY, xP, reduceCtorEq] at hc); (try (have hx : True := hc; clear hx hc)); (try exact kX)) | ((fail_if_success (with_reducible first | show Is _ _ | show ACall _ _ _ _ _)); (try ((with_reducible show _ ∨ _); exact kT))))))
      all_goals rfl
end Go.Proofs.YtdceppjoipoohaaDoor
end
section
namespace Go.Sy
set_option linter.all false
open Go.RowKit (Below)
section
variable {P : Program} {N n : Nat} {I0 I : Nat → Nat → Prop} {μ0 μ : List (List Place)} {B : List Box} {w0 w : World} {o : Oper} {a : Act} {fr : Fr} {ops : Array Oper}
theorem V.bview_inv {b n : Nat} {ty : TypeId} {v : Value} (h : V I μ w (.bview b n ty) v) : ∃ ps p cap, v = .slice (some ⟨p.b, 0, none⟩) n cap ∧ μ[b]? = some ps ∧ p ∈ ps ∧ p.lo = 0 ∧ p.o = 0 ∧ n ≤ p.k ∧ n ≤ cap ∧ cap ≠ 0 ∧ Free w p.b cap ∧ PlainT w p.b ty := by
  cases h with | bview _ _ _ ps p cap hb hp hlo ho hk hn hc hr hpl _ => exact ⟨ps, p, cap, rfl, hb, hp, hlo, ho, hk, hn, hc, hr, hpl⟩
theorem V.bview_view {b n : Nat} {ty : TypeId} {v : Value} (h : V I μ w (.bview b n ty) v) : V I μ w (.view b 0 n 1 false) v := by
  obtain ⟨ps, p, cap, rfl, hb, hp, hlo, ho, hk, hn, hc, hr, hpl⟩ := h.bview_inv
  have := R.view (I := I) (one := false) b 0 n 1 false ps p cap hb hp (by omega) (by omega) hn (by simp) (by rw [ho, hlo]; simpa using hr) (.nil _)
  rw [ho] at this
  simpa using this
def BldIn (B : List Box) (e : TypeId) (S l : List UInt8) (γ : Nat) (c : CV) (B' : List Box) : Prop :=
  (c = .nilS ∧ l = [] ∧ γ = B.length ∧ B' = B ++ [{ cells := S.map byteC }]) ∨ ∃ m, c = .bview γ l.length e ∧ B[γ]? = some ⟨l.map byteC, m⟩ ∧ B' = B.set γ { cells := (l ++ S).map byteC, multi := true }
theorem bld_append {js : Tmp} {x : Operand} {t tx e : TypeId} {l S : List UInt8} {γ : Nat} {c : CV} {B' : List Box} {i : TypeInfo} {z : Value} (ho : o.op = .call { callee := .builtin .append, args := #[.tmp js, x], argTypes := #[t, tx] }) (hB : BRel N I μ B w) (hs : V I μ w c (a.eval (.tmp js))) (hx : a.eval x = .string ⟨S.toArray⟩)
    (ht : P.underlying t = some (.slice e)) (htx : P.underlying tx = some .string) (hi : P.info? e = some i) (hi1 : i.size = 1) (hib : i.bytes = 1) (hiz : i.zero = some z) (hz1 : z.cells.size = 1) (hS : S ≠ []) (hl : l.length + S.length ≤ 140737488355328) (hc : BldIn B e S l γ c B') :
    ∃ v I' μ' w', (execOp a.eval o).run P w = .ok (.value v) w' ∧ Step N I μ w (.bview γ (l.length + S.length) e) v B' I' μ' w' := by
  have hS0 : S.length ≠ 0 := by simpa using hS
  have hxv : V I μ w (.str S) (a.eval x) := by rw [hx]; exact .str S (.nil _)
  obtain ⟨vs, hvs, src0⟩ := src_rel (esz := 1) (tx := tx) hB (.inr htx) hxv rfl (fun _ => htx)
  have src : ASrc P t tx o.type e i (a.eval x) S.length vs w := ASrc.of ht hi (by rw [hi1]; exact src0)
  have hby : P.bytesOf e = 1 := by simp [Program.bytesOf, hi, hib]
  have hvl := hvs.len
  have hrl : l.length + S.length ≤ 140737488355328 ∧ (l.length + S.length) * 1 ≤ 140737488355328 := ⟨hl, by omega⟩
  have fin : ∀ (nx : Next) (v : Value) (I' : Nat → Nat → Prop) (μ' : List (List Place)) (w' W : World) (g cap : Nat), (execOp a.eval o).run P w = .ok nx w' → nxv nx = some v → Step N I μ w (.view γ 0 (l.length + S.length) 1 false) v B' I' μ' w' →
      (execOp a.eval o).run P w = .ok (.value (.slice (some ⟨g, 0, none⟩) (l.length + S.length) cap)) W → PlainT W g e → ∃ v I' μ' w', (execOp a.eval o).run P w = .ok (.value v) w' ∧ Step N I μ w (.bview γ (l.length + S.length) e) v B' I' μ' w' := by
    intro nx v I' μ' w' W g cap h1 h2 h3 h4 h5
    rw [h1] at h4
    cases h4
    cases h2
    refine ⟨_, I', μ', _, h1, ⟨?_, h3.box, h3.ext, h3.below⟩⟩
    rcases h3.val.view_inv with ⟨ps, p, cap', k1, k2, k3, k4, k5, k6, -, k8⟩ | ⟨A, -, k, -⟩
    · injection k1 with e1 e2 e3
      injection e1 with e1
      injection e1 with e1 e4
      subst e1 e3
      have hlo : p.lo = 0 := by omega
      have := R.bview (I := I') (one := false) γ (l.length + S.length) e ps p cap k2 k3 hlo (by omega) (by omega) k6 (by omega) (k8.less (by omega)) h5 (.nil _)
      exact this
    · omega
  rcases hc with ⟨rfl, rfl, rfl, rfl⟩ | ⟨m, rfl, hbx, rfl⟩
  · simp only [List.length_nil, Nat.zero_add] at hl hrl fin ⊢
    have happ : appendM P e i.size B .nilS S.length (S.map byteC) = some (.view B.length 0 S.length 1 false, B ++ [{ cells := S.map byteC }]) := by
      unfold appendM
      rw [if_neg hS0]
      simp only
      rw [if_pos ⟨by rw [hby]; omega, by omega⟩, hi1]
    obtain ⟨nx, v, I', μ', w', h1, h2, h3⟩ := fits_appendM (fr := fun _ => .nilS) ho hB (by exact hs) hi hiz (by omega) (by omega) hvs src (by exact happ)
    have he := hs.nilS_inv
    have hrun := src.grow (by omega) z hiz none 0 0 [] (by simp [Builtin.firstCells]) (by omega) (by rw [hib]; omega) (by omega)
    rw [Nat.zero_add] at hrun
    exact fin nx v I' μ' w' _ w.heap.size _ h1 h2 h3 (run_call_append ho he hrun) ⟨_, push_new (alloc_heap w.drew _)⟩
  · have happ : appendM P e i.size B (.view γ 0 l.length 1 false) S.length (S.map byteC) = some (.view γ 0 (l.length + S.length) 1 false, B.set γ { cells := (l ++ S).map byteC, multi := true }) := by
      unfold appendM
      rw [if_neg hS0]
      simp only [hbx]
      rw [if_pos ⟨hi1.symm, by rw [hby]; omega, by omega⟩, if_neg (by simp), if_pos (by rw [hi1]; simp), hi1, List.map_append]
    obtain ⟨nx, v, I', μ', w', h1, h2, h3⟩ := fits_appendM (fr := fun _ => .view γ 0 l.length 1 false) ho hB (by exact hs.bview_view) hi hiz (by omega) (by omega) hvs src (by exact happ)
    obtain ⟨ps, p, cap, he, k1, k2, k3, k4, k5, k6, k7, k8, k9⟩ := hs.bview_inv
    by_cases hroom : l.length + S.length ≤ cap
    · have hrun := src.room (by omega) p.b 0 l.length cap hroom (by rw [hib]; omega) (by omega) (fun j hj => (k8.cell (by rw [hi1]; simp at hvl; omega)).1) (fun j hj => (k8.cell (by rw [hi1]; simp at hvl; omega)).2)
      exact fin nx v I' μ' w' _ p.b _ h1 h2 h3 (run_call_append ho he hrun) (setCells_plain _ _ _ _ k9)
    · obtain ⟨_, us, g1, g2, g3, _⟩ := view_cells hB hbx k1 k2 (off := 0) (n := l.length) (sz := 1) (by omega) (by omega) (s := 0) (e := l.length) (Nat.le_refl _) (by omega)
      have hrun := src.grow (by omega) z hiz (some ⟨p.b, 0, none⟩) l.length cap us (run_firstCells' (w := w.drew) (P := P) (by rw [g2, hi1]; omega) (.inr ⟨p.b, 0, rfl, fun j u hj => by
        have := g3 j u hj
        rw [k3, k4] at this
        simpa using this⟩)) (by omega) (by rw [hib]; omega) (by omega)
      exact fin nx v I' μ' w' _ w.heap.size _ h1 h2 h3 (run_call_append ho he hrun) ⟨_, push_new (alloc_heap w.drew _)⟩
theorem AWc_seq {x y : Code} {Q : Exit → Fr → List Box → Prop} (h : AWc P n x (thenC (fun fr B => AWc P n y Q fr B) Q) fr B) : AWc P n (.seq x y) Q fr B := fun N I0 μ0 w0 I μ w a Q' hs hq =>
  wp_seq (h N I0 μ0 w0 I μ w a _ hs fun ex fr1 B1 a1 I1 μ1 w1 hQ1 hs1 => by
    cases ex with
    | normal => exact hQ1 N I0 μ0 w0 I1 μ1 w1 a1 _ hs1 hq
    | _ => exact hq _ _ _ _ _ _ _ hQ1 hs1)
theorem AWc.mono {c : Code} {Q Q2 : Exit → Fr → List Box → Prop} (h : AWc P n c Q fr B) (hk : ∀ e fr B, Q e fr B → Q2 e fr B) : AWc P n c Q2 fr B := fun N I0 μ0 w0 I μ w a Q' hs hq => h N I0 μ0 w0 I μ w a Q' hs fun ex fr' B' a' I' μ' w' hQ hst => hq _ _ _ _ _ _ _ (hk _ _ _ hQ) hst
theorem acall_AWc {f : FuncId} {fn : Func} {c : Code} {args : List CV} {B : List Box} {Q : CV → List Box → Prop} (hm : Fit P) (hf : P.funcs[f]? = some fn) (hb : fn.body = some c) (hc : callable P f = true) (hn : args.length ≤ fn.ntmps)
    (h : AWc P fn.ntmps c (retC P fn.results.toList Q) (frOf args) B) : ACall P f args B Q :=
  ⟨hc, fun N I μ w vs hB hv => call_intro hm.quiet hf hb hB hv hn fun a Q' hst hq => h N I μ w I μ w a Q' hst hq⟩
theorem AWc_w {x y : Code} {Q : Exit → Fr → List Box → Prop} (hm : Fit P) (hd : drawsOk x = true) (J : Fr → List Box → Prop) (h : WPc P n x (thenC J Q) fr B) (k : ∀ fr B, J fr B → AWc P n y Q fr B) : AWc P n (.seq x y) Q fr B :=
  AWc_seq ((WPc_sound hm.mixed x _ fr B hd h).mono fun e fr1 B1 hh => by
    cases e with
    | normal => exact k _ _ hh
    | _ => exact hh)
def BldOk (P : Program) (n : Nat) (o : Oper) (fr : Fr) (B : List Box) (K : Fr → List Box → Prop) : Prop :=
  ∃ (js jx : Tmp) (t tx e : TypeId) (i : TypeInfo) (z : Value) (l S : List UInt8) (γ : Nat) (B' : List Box), o.op = .call { callee := .builtin .append, args := #[.tmp js, .tmp jx], argTypes := #[t, tx] } ∧ o.guard = none ∧ dstOk n o = true ∧ P.underlying t = some (.slice e) ∧ P.underlying tx = some .string ∧ P.info? e = some i ∧ i.size = 1 ∧ i.bytes = 1 ∧ i.zero = some z ∧ z.cells.size = 1 ∧
    S ≠ [] ∧ l.length + S.length ≤ 140737488355328 ∧ fr jx = .str S ∧ BldIn B e S l γ (fr js) B' ∧ K (upd fr o.dst (.bview γ (l.length + S.length) e)) B'
theorem AWc_bld {id : Nat} {l1 l2 : List Oper} {o : Oper} {Q : Exit → Fr → List Box → Prop} {ops : List Oper} (he : ops = l1 ++ o :: l2) (n1 : l1.all noDefer = true) (n2 : l2.all noDefer = true)
    (h : WPo P n ops.toArray (fun fr1 B1 => BldOk P n o fr1 B1 fun fr2 B2 => WPo P n ops.toArray (fun fr B => Q .normal fr B) l2 fr2 B2) l1 fr B) : AWc P n (.region id ops.toArray false) Q fr B := by
  intro N I0 μ0 w0 I μ w a Q' hs hq
  refine (wpIn_wide (n := 0)).1 (wpIn_region_list (F := freeF none) ?_)
  rw [show ops.toArray.toList = l1 ++ o :: l2 by simpa using he]
  refine WPo_in (o :: l2) l1 fr B n1 h I μ w a hs fun fr1 B1 a1 I1 μ1 w1 hp hs1 => ?_
  obtain ⟨js, jx, t, tx, e, i, z, l, S, γ, B', ho, hg, hd, ht, htx, hi, hi1, hib, hiz, hz1, hS, hl, hfx, hc, hK⟩ := hp
  have hd' : ∀ t, o.dst = some t → t < n := fun t ht => by simpa [dstOk, ht] using hd
  have hx := hs1.frame jx
  rw [hfx] at hx
  obtain ⟨v, I2, μ2, w2, hrun, hst⟩ := bld_append ho hs1.box (hs1.frame js) hx.str_inv ht htx hi hi1 hib hiz hz1 hS hl hc
  unfold wpListIn
  rw [show Region.wanted o (yielded ops.toArray a1.tmps) = true by unfold Region.wanted; rw [hg], if_pos rfl]
  refine wp_free (by simp [noDefer, ho]) ?_
  unfold Oper.wp
  rw [hrun, Oper.upon_value]
  have := WPo_in (r := none) (Q' := Q') [] l2 _ _ n2 hK I2 μ2 w2 _ (hs1.put hst hd') fun fr' B' a' I' μ' w' hQ hst => hq _ _ _ _ _ _ _ hQ hst
  rw [List.append_nil] at this
  exact this
def AWz (P : Program) (n : Nat) (c : Code) (Q : Exit → Fr → List Box → Prop) (fr : Fr) (B : List Box) : Prop :=
  ∀ (N : Nat) (I0 : Nat → Nat → Prop) (w0 : World) (I : Nat → Nat → Prop) (μ : List (List Place)) (w : World) (a : Act) (Q' : Exit → Act → World → Prop), BRel N I0 [] [] w0 → St N n I0 [] w0 fr B a I μ w →
    (∀ ex fr' B' a' I' μ' w', Q ex fr' B' → St N n I0 [] w0 fr' B' a' I' μ' w' → Q' ex a' w') → c.wp P Q' a w
theorem AWz.of {c : Code} {Q : Exit → Fr → List Box → Prop} (h : AWc P n c Q fr B) : AWz P n c Q fr B := fun N I0 w0 I μ w a Q' _ hs hq => h N I0 [] w0 I μ w a Q' hs hq
theorem AWz_seq {x y : Code} {Q : Exit → Fr → List Box → Prop} (h : AWz P n x (thenC (fun fr B => AWz P n y Q fr B) Q) fr B) : AWz P n (.seq x y) Q fr B := fun N I0 w0 I μ w a Q' h0 hs hq =>
  wp_seq (h N I0 w0 I μ w a _ h0 hs fun ex fr1 B1 a1 I1 μ1 w1 hQ1 hs1 => by
    cases ex with
    | normal => exact hQ1 N I0 w0 I1 μ1 w1 a1 _ h0 hs1 hq
    | _ => exact hq _ _ _ _ _ _ _ hQ1 hs1)
theorem acall_AWz {f : FuncId} {fn : Func} {c : Code} {args : List CV} {Q : CV → List Box → Prop} (hm : Fit P) (hf : P.funcs[f]? = some fn) (hb : fn.body = some c) (hc : callable P f = true) (hn : args.length ≤ fn.ntmps)
    (h : AWz P fn.ntmps c (retC P fn.results.toList Q) (frOf args) []) : ACall P f args [] Q :=
  ⟨hc, fun N I μ w vs hB hv => call_intro hm.quiet hf hb hB hv hn fun a Q' hst hq => by
    obtain rfl : μ = [] := List.eq_nil_of_length_eq_zero hB.len
    exact h N I w I [] w a Q' hB hst hq⟩
theorem AWz_w {x y : Code} {Q : Exit → Fr → List Box → Prop} (hm : Fit P) (hd : drawsOk x = true) (J : Fr → List Box → Prop) (h : WPc P n x (thenC J Q) fr B) (k : ∀ fr B, J fr B → AWz P n y Q fr B) : AWz P n (.seq x y) Q fr B :=
  AWz_seq (AWz.of ((WPc_sound hm.mixed x _ fr B hd h).mono fun e fr1 B1 hh => by
    cases e with
    | normal => exact k _ _ hh
    | _ => exact hh))
end
end Go.Sy
end
