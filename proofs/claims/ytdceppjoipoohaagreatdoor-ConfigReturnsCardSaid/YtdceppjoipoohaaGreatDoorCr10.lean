/- Lemmas and definitions of this claim (own texts, joined by a program; what the claim does not use is left out). -/
import Derived.Test.YtdceppjoipoohaaGreatDoorCr9
section
namespace Go.Sy
open Go.RowKit (Below)
section
variable {P : Program} {N n : Nat} {I0 I : Nat → Nat → Prop} {μ0 μ : List (List Place)} {B : List Box} {w0 w : World} {o : Oper} {a : Act} {fr : Fr} {ops : Array Oper}
def TwoOk (P : Program) (n : Nat) (fr : Fr) (B : List Box) (o1 o2 : Oper) (K : Fr → List Box → Prop) : Prop :=
  ∃ (nz : Bool) (live : List (Nat × CV)), dstOk n o1 = true ∧ dstOk n o2 = true ∧ noDefer o1 = true ∧ noDefer o2 = true ∧ o1.guard = none ∧ o2.guard = none ∧
    (∀ p ∈ live, fz nz false B 6 (fr p.1) = some p.2) ∧
    ∀ fr' : Fr, (∀ p ∈ live, fr' p.1 = p.2) → StepC P o1 fr' [] fun c1 B1 => StepC P o2 (upd fr' o1.dst c1) B1 fun c2 B2 => ∃ c', fz true true B2 6 c2 = some c' ∧ ∀ v, K (upd (upd fr o1.dst (.raw v)) o2.dst c') B
theorem frame_put {v : Value} {c : CV} (hfr : ∀ i, V I μ w (fr i) (a.tmps.getD i undef)) {d : Option Tmp} (hd : ∀ t, d = some t → t < a.tmps.size) {I' : Nat → Nat → Prop} {μ' : List (List Place)} {w' : World} (hk : Keep I μ w I' μ' w') (hv : V I' μ' w' c v) :
    ∀ i, V I' μ' w' (upd fr d c i) ((a.put d v).tmps.getD i undef) := fun i => by
  rw [put_getD a d v hd]
  unfold upd
  cases d with
  | none => simpa using (hfr i).ext hk
  | some t =>
    by_cases ht : i = t
    · subst ht; simpa using hv
    · rw [if_neg (by simpa using fun h => ht h.symm)]
      simp only [if_neg ht]
      exact (hfr i).ext hk
theorem two_sound {o1 o2 : Oper} {K : Fr → List Box → Prop} {Q' : Exit → Act → World → Prop} {rest : List Oper} (hs : St N n I0 μ0 w0 fr B a I μ w) (h : TwoOk P n fr B o1 o2 K)
    (hk : ∀ fr' B' a' I' μ' w', K fr' B' → St N n I0 μ0 w0 fr' B' a' I' μ' w' → wpListIn (freeF none) 0 P ops Q' rest a' w') : wpListIn (freeF none) 0 P ops Q' (o1 :: o2 :: rest) a w := by
  obtain ⟨nz, live, h5, h6, n1, n2, g1, g2, hl, h⟩ := h
  have hd1 : ∀ t, o1.dst = some t → t < n := fun t ht => by simpa [dstOk, ht] using h5
  have hd2 : ∀ t, o2.dst = some t → t < n := fun t ht => by simpa [dstOk, ht] using h6
  have hB := hs.box
  let fr' : Fr := fun i => match live.find? (fun p => p.1 == i) with | some p => p.2 | none => .raw (a.tmps.getD i undef)
  have hfr' : ∀ i, V (fun b _ => b < w.heap.size) [] w (fr' i) (a.tmps.getD i undef) := fun i => by
    show V _ _ _ (match live.find? (fun p => p.1 == i) with | some p => p.2 | none => .raw (a.tmps.getD i undef)) _
    split
    · rename_i p hp
      have h1 := List.mem_of_find?_eq_some hp
      have h2 : p.1 = i := by simpa using List.find?_some hp
      have h3 := hl p h1
      rw [h2] at h3
      exact fz_rel (J := fun b _ => b < w.heap.size) hB (fun _ b j h => hB.imm b j h) (fun β ps p _ h1 h2 => (hB.places β ps p h1 h2).2.2.lt) 6 false [fr i] [a.tmps.getD i undef] [p.2] (hs.frame i) (omap_one h3)
    · exact .raw _ (by simp) (.nil _)
  have hl2 : ∀ p ∈ live, fr' p.1 = p.2 := fun p hp => by
    show (match live.find? (fun q => q.1 == p.1) with | some q => q.2 | none => .raw (a.tmps.getD p.1 undef)) = p.2
    split
    · rename_i q hq
      have h1 := List.mem_of_find?_eq_some hq
      have h2 : q.1 = p.1 := by simpa using List.find?_some hq
      have h3 := hl q h1
      have h4 := hl p hp
      rw [h2, h4] at h3
      simpa using h3.symm
    · rename_i hq
      have := List.find?_eq_none.1 hq p hp
      simp at this
  have hB0 : BRel w.heap.size (fun b _ => b < w.heap.size) [] [] w := BRel.none_ w _ (fun _ _ h => h) (hB.tabs.mono hB.imm)
  have hw : ∀ {o : Oper} {a : Act}, o.guard = none → Region.wanted o (yielded ops a.tmps) = true := fun hg => by unfold Region.wanted; rw [hg]
  unfold wpListIn
  rw [hw g1, if_pos rfl]
  refine wp_free n1 ?_
  refine stepF_sound hB0 hfr' (h fr' hl2) fun c1 v1 B1 I1 μ1 w1 hK1 st1 => ?_
  unfold wpListIn
  rw [hw g2, if_pos rfl]
  refine wp_free n2 ?_
  have hfr1 := frame_put hfr' (d := o1.dst) (fun t ht => by rw [hs.size]; exact hd1 t ht) st1.ext.toKeep st1.val
  refine stepF_sound st1.box hfr1 hK1 fun c2 v2 B2 I2 μ2 w2 ⟨c', hz, hK2⟩ st2 => ?_
  have hbel : Below w.heap.size w w2 := st1.below.trans st2.below
  obtain ⟨b1, b2, b3⟩ := hB.behind (I2 := fun b j => I b j ∨ (w.heap.size ≤ b ∧ b < w2.heap.size)) hbel (fun _ _ h => .inl h) (fun _ _ h => h)
  have hv2 := fz_rel (J := fun b j => I b j ∨ (w.heap.size ≤ b ∧ b < w2.heap.size)) st2.box (fun h => by cases h) (fun β ps p _ h1 h2 => .inr ⟨(st2.box.places β ps p h1 h2).1, (st2.box.places β ps p h1 h2).2.2.lt⟩) 6 false [c2] [v2] [c'] st2.val (omap_one hz)
  have hv3 : V (fun b j => I b j ∨ (w.heap.size ≤ b ∧ b < w2.heap.size)) μ w2 c' v2 := hv2.ext ⟨fun _ _ h => h, fun _ _ _ => rfl, fun _ _ h => h, fun _ h => h, fun _ _ h => by simp at h⟩
  have sA := hs.put (⟨.raw v1 (by simp) (.nil _), b1, b2, b3⟩ : Step N I μ w (.raw v1) v1 B _ μ w2) (d := o1.dst) hd1
  have sB := sA.put (⟨hv3, b1, .refl _ _ _, Below.refl _ _⟩ : Step N _ μ w2 c' v2 B _ μ w2) (d := o2.dst) hd2
  exact hk _ _ _ _ _ _ (hK2 v1) sB
theorem AWc_two {id : Nat} {l1 l2 : List Oper} {o1 o2 : Oper} {Q : Exit → Fr → List Box → Prop} {ops : List Oper} (he : ops = l1 ++ o1 :: o2 :: l2) (n1 : l1.all noDefer = true) (n2 : l2.all noDefer = true)
    (h : WPo P n ops.toArray (fun fr1 B1 => TwoOk P n fr1 B1 o1 o2 fun fr2 B2 => WPo P n ops.toArray (fun fr B => Q .normal fr B) l2 fr2 B2) l1 fr B) : AWc P n (.region id ops.toArray false) Q fr B := by
  intro N I0 μ0 w0 I μ w a Q' hs hq
  refine (wpIn_wide (n := 0)).1 (wpIn_region_list (F := freeF none) ?_)
  rw [show ops.toArray.toList = l1 ++ o1 :: o2 :: l2 by simpa using he]
  refine WPo_in (o1 :: o2 :: l2) l1 fr B n1 h I μ w a hs fun fr1 B1 a1 I1 μ1 w1 hp hs1 => ?_
  refine two_sound hs1 hp fun fr2 B2 a2 I2 μ2 w2 hK hs2 => ?_
  have := WPo_in (r := none) (Q' := Q') [] l2 _ _ n2 hK I2 μ2 w2 a2 hs2 fun fr' B' a' I' μ' w' hQ hst => hq _ _ _ _ _ _ _ hQ hst
  rw [List.append_nil] at this
  exact this
end
end Go.Sy
end
section
namespace Go.Sy
theorem w_cut {P : Program} {n : Nat} {a rest : Code} {Q : Exit → Fr → List Box → Prop} {fr : Fr} {B : List Box} (I : Fr → List Box → Prop) (h1 : WPc P n a (thenC I Q) fr B) (h2 : ∀ fr B, I fr B → WPc P n rest Q fr B) : WPc P n (.seq a rest) Q fr B := by
  have key : ∀ {K K' : Fr → List Box → Prop} (_ : ∀ fr B, K fr B → K' fr B) (e : Exit) (fr : Fr) (B : List Box), thenC K Q e fr B → thenC K' Q e fr B := fun hk e fr B h => by
    cases e with
    | normal => exact hk _ _ h
    | _ => exact h
  exact WPc_mono a (key h2) fr B h1
end Go.Sy
namespace Go.Proofs.YtdceppjoipoohaaGreatDoor
open Go Go.Sy
set_option linter.all false
set_option maxRecDepth 100000
set_option maxHeartbeats 4000000
theorem bool_at {B : List Box} {β : Nat} {args : List CV} {l : List UInt8} {a : Nat} (ha : Is args [.ptr β 0]) (hB : B[β]? = some (cb l a)) (hl : a ≤ l.length ∧ l.length < 4611686018427387904) : ACall Tryz.prog 22 args B fun c B' => c = .bool (decide (nxV l a 2 = 1)) ∧ B' = B.set β (cb l (nxA l a 2)) := by
  have ha : args = _ := ha
  subst ha
  have hs : ∀ y, (B.set β y)[β]? = some y := fun y => bx_self (List.getElem?_eq_some_iff.1 hB).1
  have hn : ∀ {B : List Box} {args : List CV}, Is args [.ptr β 0, .int .i64 2] → B[β]? = some (cb l a) → ACall Tryz.prog 21 args B fun c B' => c = .int .i64 (nxV l a 2) ∧ B' = B.set β (cb l (nxA l a 2)) := fun h h2 => next_at (n := 2) h rfl h2 hl
  have hv : ((nxV l a 2 : Nat) : Int) = 1 ↔ nxV l a 2 = 1 := by omega
  generalize nxV l a 2 = v at *
  refine acall_intro mixed Tryz.func22 rfl ca22 (by kernel_rfl) (by rw [Tryz.ntmps22]; simp) ?_
  repeat' (first | (with_reducible first | apply jA | apply jB | apply jC | apply jD | apply jE | apply jF | apply jG | apply jH | apply jI | apply jJ | apply jK | apply jL | apply jM | apply jN | apply jO) | ((with_reducible first | apply jP | apply jQ); rfl) | ((first | ((with_reducible first | apply jR | apply jS | apply jT); rfl; rfl) | (with_reducible first | apply jU | apply jV | apply jW) | ((with_reducible first | apply jX | apply jY | apply jZ); rfl) | ((with_reducible first | apply kA | apply kB | apply kC); rfl)); all_goals (first | ((with_reducible show Is _ _); exact kE) | ((with_reducible refine fun (hc : (_ : Bool) = _) => ?_); (try simp only [xZ, xY, xP, reduceCtorEq] at hc); (try (have hx : True := hc; clear hx hc)); (try exact kX)) | ((with_reducible show ACall _ _ _ _ _); (first | ((with_reducible apply hn) <;> exact kD))) | ((fail_if_success (with_reducible first | show Is _ _ | show ACall _ _ _ _ _)); (try ((with_reducible show _ ∨ _); exact kT))))))
  refine ⟨?_, rfl⟩
  congr 1
  rw [Bool.eq_iff_iff, beq_iff_eq, decide_eq_true_eq]
  exact hv
def Dr (β : Nat) (l : List UInt8) (W W' : List Box) : Prop := (∃ a, a ≤ l.length ∧ W'[β]? = some (cb l a)) ∧ (∀ k, k < W.length → k ≠ β → W'[k]? = W[k]?) ∧ W.length ≤ W'.length
theorem Dr.of {β : Nat} {l : List UInt8} {W : List Box} {a : Nat} (ha : a ≤ l.length) (h : β < W.length) (G : List Box) : Dr β l W (W.set β (cb l a) ++ G) :=
  ⟨⟨a, ha, by rw [List.getElem?_append_left (by simpa using h)]; exact List.getElem?_set_self h⟩, fun k h1 h2 => by rw [List.getElem?_append_left (by simpa using h1), List.getElem?_set_ne (Ne.symm h2)], by simp⟩
theorem Dr.of' {β : Nat} {l : List UInt8} {W : List Box} {a : Nat} (ha : a ≤ l.length) (h : β < W.length) : Dr β l W (W.set β (cb l a)) := by simpa using Dr.of ha h []
theorem Dr.trans {β : Nat} {l : List UInt8} {W W1 W2 : List Box} (h : Dr β l W W1) (k : Dr β l W1 W2) : Dr β l W W2 := ⟨k.1, fun i h1 h2 => by rw [k.2.1 i (by have := h.2.2; omega) h2, h.2.1 i h1 h2], by have := h.2.2; have := k.2.2; omega⟩
theorem Dr.app {β : Nat} {l : List UInt8} {W W1 : List Box} (h : Dr β l W W1) (hβ : β < W.length) (G : List Box) : Dr β l W (W1 ++ G) := by
  have h0 := h.2.2
  refine ⟨?_, fun k h1 h2 => ?_, by rw [List.length_append]; omega⟩
  · obtain ⟨a, h1, h2⟩ := h.1
    exact ⟨a, h1, by rw [List.getElem?_append_left (by omega), h2]⟩
  · rw [List.getElem?_append_left (by omega), h.2.1 k h1 h2]
theorem Dr.set {β : Nat} {l : List UInt8} {W W1 : List Box} (h : Dr β l W W1) (hβ : β < W.length) {j : Nat} (hj : W.length ≤ j) (y : Box) : Dr β l W (W1.set j y) := by
  have h0 := h.2.2
  refine ⟨?_, fun k h1 h2 => ?_, by simpa using h0⟩
  · obtain ⟨a, h1, h2⟩ := h.1
    exact ⟨a, h1, by rw [List.getElem?_set_ne (by omega), h2]⟩
  · rw [List.getElem?_set_ne (by omega), h.2.1 k h1 h2]
section
variable {W : List Box} {β : Nat} {args : List CV} {l : List UInt8}
theorem dr_bool (ha : Is args [.ptr β 0]) (hB : ∃ a, a ≤ l.length ∧ W[β]? = some (cb l a)) (hl : l.length < 1000000) : ACall Tryz.prog 22 args W fun c W' => (∃ t, c = .bool t) ∧ Dr β l W W' := by
  obtain ⟨a, h1, h2⟩ := hB
  refine (bool_at ha h2 ⟨h1, by omega⟩).mono fun c W' ⟨hc, hW⟩ => ?_
  rw [hW]
  exact ⟨⟨_, hc⟩, .of' (nxA_le h1) (List.getElem?_eq_some_iff.1 h2).1⟩
theorem dr_next {n : Nat} {m : Int} (ha : Is args [.ptr β 0, .int .i64 m]) (hm : m = n) (hn : 0 < n) (hB : ∃ a, a ≤ l.length ∧ W[β]? = some (cb l a)) (hl : l.length < 1000000) : ACall Tryz.prog 21 args W fun c W' => (∃ v : Nat, v < n ∧ c = .int .i64 v) ∧ Dr β l W W' := by
  obtain ⟨a, h1, h2⟩ := hB
  refine (next_at ha hm h2 ⟨h1, by omega⟩).mono fun c W' ⟨hc, hW⟩ => ?_
  rw [hW]
  exact ⟨⟨_, nxV_lt hn, hc⟩, .of' (nxA_le h1) (List.getElem?_eq_some_iff.1 h2).1⟩
theorem dr_big {n : Nat} {m : Int} (ha : Is args [.ptr β 0, .int .i64 m]) (hm : m = n) (hn : 1 ≤ n ∧ n ≤ 16777216) (hB : ∃ a, a ≤ l.length ∧ W[β]? = some (cb l a)) (hl : l.length < 1000000) : ACall Tryz.prog 19 args W fun c W' => (∃ v : Nat, v < n ∧ c = .int .i64 v) ∧ Dr β l W W' := by
  obtain ⟨a, h1, h2⟩ := hB
  refine (big_at ha hm hn h2 ⟨h1, hl⟩).mono fun c W' ⟨hc, hW⟩ => ?_
  rw [hW]
  exact ⟨⟨_, bgV_lt (by omega), hc⟩, .of' (bgA_le h1) (List.getElem?_eq_some_iff.1 h2).1⟩
theorem dr_key (ha : Is args [.ptr β 0]) (hB : ∃ a, a ≤ l.length ∧ W[β]? = some (cb l a)) (hl : l.length < 1000000) : ACall Tryz.prog 18 args W fun c W' => (∃ K : List UInt8, K.length = 32 ∧ c = .agg (K.map byteC)) ∧ Dr β l W W' := by
  obtain ⟨a, h1, h2⟩ := hB
  refine (dkey_at ha h2 ⟨h1, hl⟩).mono fun c W' ⟨K, a2, G, hK, ha2, hc, hW⟩ => ?_
  rw [hW]
  exact ⟨⟨_, hK, hc⟩, .of ha2 (List.getElem?_eq_some_iff.1 h2).1 G⟩
theorem dr_endp (ha : Is args [.ptr β 0]) (hB : ∃ a, a ≤ l.length ∧ W[β]? = some (cb l a)) (hl : l.length < 1000000) : ACall Tryz.prog 23 args W fun c W' => (∃ q : Pf, PfL q ∧ okEP q = true ∧ c = .agg (pfC q)) ∧ Dr β l W W' := by
  obtain ⟨a, h1, h2⟩ := hB
  refine (endpoint_at ha h2 ⟨h1, hl⟩).mono fun c W' ⟨hc, hW⟩ => ?_
  rw [hW]
  have hp := epP_le l a
  refine ⟨⟨((adSix l a, adIP l a), (epP l a : Nat)), ⟨adIP_len l a, by simp only; omega, by simp only; omega⟩, ?_, hc⟩, .of (epA_le h1) (List.getElem?_eq_some_iff.1 h2).1 _⟩
  rw [okEP, okA_ad, decide_eq_true (by simp only; omega), decide_eq_true (by simp only; omega)]
  rfl
theorem dr_prefixes {n : Nat} {m : Int} (ha : Is args [.ptr β 0, .int .i64 m]) (hm : m = n) (hn : n ≤ 1000) (hB : ∃ a, a ≤ l.length ∧ W[β]? = some (cb l a)) (hl : l.length < 1000000) : ACall Tryz.prog 20 args W fun c W' => (∃ ps, PsG ps ∧ ps.length ≤ n ∧ GrowX W.length c W' ps) ∧ Dr β l W W' := by
  obtain ⟨a, h1, h2⟩ := hB
  exact (prefixes_at ha hm h2 ⟨h1, hl⟩ hn).mono fun c W' ⟨ps, a', g1, g2, g3, g4, g5, g6, g7⟩ => ⟨⟨ps, g2, g3, g4⟩, ⟨a', g1, g5⟩, g6, g7⟩
end
def peX (p : Pe) (v : CV) : List CV := peH p ++ [v]
def PeG (p : Pe) : Prop := PeL p ∧ okPe p = true
theorem peX_eq (p : Pe) (v : CV) : peX p v = p.1.map byteC ++ (p.2.1.map byteC ++ (.bool p.2.2.1 :: (pfC p.2.2.2.1 ++ [.int .i64 p.2.2.2.2.1, v]))) := by simp [peX, peH]
theorem peX_len {p : Pe} (h : PeL p) (v : CV) : (peX p v).length = 85 := by rw [peX, List.length_append, peH_len h]; rfl
theorem splice_at {A M E vs : List CV} {o : Nat} (ho : A.length = o) (hM : M.length = vs.length) : splice (A ++ (M ++ E)) o vs = A ++ (vs ++ E) := by
  subst ho
  rw [splice, List.take_left' rfl, ← List.drop_drop, List.drop_left' rfl, ← hM, List.drop_left' rfl, List.append_assoc]
theorem px_shared {p : Pe} (h : PeL p) {u : List UInt8} (hu : u.length = 32) (v : CV) : splice (peX p v) 32 (u.map byteC) = peX (p.1, u, p.2.2) v := by
  rw [peX_eq, peX_eq]
  exact splice_at (by simp [h.1]) (by simp [h.2.1, hu])
theorem px_has {p : Pe} (h : PeL p) (b : Bool) (v : CV) : splice (peX p v) 64 [.bool b] = peX (p.1, p.2.1, b, p.2.2.2) v := by
  rw [peX_eq, peX_eq, ← List.append_assoc, ← List.append_assoc]
  exact splice_at (M := [_]) (by simp [h.1, h.2.1]) rfl
theorem px_end {p : Pe} (h : PeL p) {q : Pf} (hq : PfL q) (v : CV) : splice (peX p v) 65 (pfC q) = peX (p.1, p.2.1, p.2.2.1, q, p.2.2.2.2) v := by
  have e : ∀ q, peX (p.1, p.2.1, p.2.2.1, q, p.2.2.2.2) v = (p.1.map byteC ++ (p.2.1.map byteC ++ [.bool p.2.2.1])) ++ (pfC q ++ [.int .i64 p.2.2.2.2.1, v]) := fun q => by rw [peX_eq]; simp
  rw [show peX p v = _ from e p.2.2.2.1, e]
  exact splice_at (by simp [h.1, h.2.1]) (by rw [pfC_len h.2.2.1, pfC_len hq])
theorem px_keep {p : Pe} (h : PeL p) (n : Int) (v : CV) : splice (peX p v) 83 [.int .i64 n] = peX (p.1, p.2.1, p.2.2.1, p.2.2.2.1, n, p.2.2.2.2.2) v := by
  have e : ∀ n, peX (p.1, p.2.1, p.2.2.1, p.2.2.2.1, n, p.2.2.2.2.2) v = (p.1.map byteC ++ (p.2.1.map byteC ++ (.bool p.2.2.1 :: pfC p.2.2.2.1))) ++ ([.int .i64 n] ++ [v]) := fun n => by rw [peX_eq]; simp
  rw [show peX p v = _ from e p.2.2.2.2.1, e]
  exact splice_at (by simp [h.1, h.2.1, pfC_len h.2.2.1]) rfl
theorem px_all {p : Pe} (h : PeL p) (v w : CV) : splice (peX p v) 84 [w] = peX p w := by
  have := splice_at (A := peH p) (M := [v]) (E := []) (vs := [w]) (o := 84) (peH_len h) rfl
  simpa [peX] using this
theorem px_get {p : Pe} (h : PeL p) (v : CV) : (peX p v)[84]? = some v ∧ (peX p v).drop 84 = [v] ∧ (peX p v).take 85 = peX p v := by
  have hl := peH_len h
  refine ⟨by rw [peX, List.getElem?_append_right (by omega), hl]; rfl, by rw [peX, List.drop_left' hl], List.take_of_length_le (by rw [peX_len h]; omega)⟩
end Go.Proofs.YtdceppjoipoohaaGreatDoor
end
section
namespace Go.Proofs.YtdceppjoipoohaaGreatDoor
open Go Go.Sy
set_option linter.all false
set_option maxRecDepth 100000
set_option maxHeartbeats 4000000
theorem GrowX.keep {o : Nat} {c : CV} {W W' : List Box} {al : List Pf} (h : GrowX o c W al) (hk : ∀ i m, o ≤ i → al ≠ [] → W[i]? = some ⟨al.flatMap pfC, m⟩ → W'[i]? = W[i]?) : GrowX o c W' al := by
  rcases h with h | ⟨b, m, h1, h2, h3, h4⟩
  · exact .inl h
  · exact .inr ⟨b, m, h1, h2, h3, by rw [hk b m h1 h2 h4, h4]⟩
theorem GrowX.low {o o' : Nat} {c : CV} {W : List Box} {al : List Pf} (h : GrowX o c W al) (ho : o' ≤ o) : GrowX o' c W al := by
  rcases h with h | ⟨b, m, h1, h2, h3, h4⟩
  · exact .inl h
  · exact .inr ⟨b, m, by omega, h2, h3, h4⟩
def RestP (o : Nat) (W : List Box) (c : CV) (ps : List Pf) (k : Nat) : Prop := k ≤ ps.length ∧ ((ps = [] ∧ c = .nilS) ∨ ∃ b m, o ≤ b ∧ ps ≠ [] ∧ c = .view b (k * 18) (ps.length - k) 18 false ∧ W[b]? = some ⟨ps.flatMap pfC, m⟩)
theorem RestP.keep {o : Nat} {c : CV} {W W' : List Box} {ps : List Pf} {k : Nat} (h : RestP o W c ps k) (hk : ∀ i m, o ≤ i → ps ≠ [] → W[i]? = some ⟨ps.flatMap pfC, m⟩ → W'[i]? = W[i]?) : RestP o W' c ps k := by
  refine ⟨h.1, ?_⟩
  rcases h.2 with h | ⟨b, m, h1, h2, h3, h4⟩
  · exact .inl h
  · exact .inr ⟨b, m, h1, h2, h3, by rw [hk b m h1 h2 h4, h4]⟩
def pqC (q : Pe × CV) : List CV := peX q.1 q.2
def PeersB (o : Nat) (W : List Box) (c : CV) (Q : List (Pe × CV)) : Prop := (∀ q ∈ Q, PeG q.1 ∧ GrowX o q.2 W q.1.2.2.2.2.2) ∧ ((Q = [] ∧ c = .nilS) ∨ ∃ b m, o ≤ b ∧ Q ≠ [] ∧ c = .view b 0 Q.length 85 false ∧ W[b]? = some ⟨Q.flatMap pqC, m⟩)
theorem PeersB.keep {o : Nat} {c : CV} {W W' : List Box} {Q : List (Pe × CV)} (h : PeersB o W c Q) (hk : ∀ i, o ≤ i → i < W.length → W'[i]? = W[i]?) : PeersB o W' c Q := by
  refine ⟨fun q hq => ⟨(h.1 q hq).1, (h.1 q hq).2.keep fun i m h1 _ h2 => hk i h1 (List.getElem?_eq_some_iff.1 h2).1⟩, ?_⟩
  rcases h.2 with h | ⟨b, m, h1, h2, h3, h4⟩
  · exact .inl h
  · exact .inr ⟨b, m, h1, h2, h3, by rw [hk b h1 (List.getElem?_eq_some_iff.1 h4).1, h4]⟩
theorem gx_ne {W : List Box} {b b' : Nat} {m m' : Bool} {ps : List Pf} {Q : List (Pe × CV)} (h1 : W[b']? = some ⟨ps.flatMap pfC, m⟩) (hne : ps ≠ []) (h2 : W[b]? = some ⟨Q.flatMap pqC, m'⟩) (hQ : Q ≠ []) (hp : ∀ q ∈ Q, PeL q.1) : b' ≠ b := by
  rintro rfl
  rw [h1] at h2
  cases ps with
  | nil => exact hne rfl
  | cons p ps => cases Q with
    | nil => exact hQ rfl
    | cons q Q =>
      have hq := (hp q (by simp)).1
      obtain ⟨x, xs, hx⟩ : ∃ x xs, q.1.1 = x :: xs := by
        cases hc : q.1.1 with
        | nil => rw [hc] at hq; simp at hq
        | cons x xs => exact ⟨x, xs, rfl⟩
      simp [pfC, pqC, peX, peH, hx, byteC] at h2
theorem PeersB.snoc {o : Nat} {c : CV} {W W' : List Box} {Q : List (Pe × CV)} {p : Pe} {av : CV} (h : PeersB o W c Q) (hp : PeG p) (hav : GrowX o av W p.2.2.2.2.2) (hl : o ≤ W.length) (hW : (Q = [] ∧ W' = W ++ [⟨peX p av, false⟩]) ∨ (∃ b, Q ≠ [] ∧ c = .view b 0 Q.length 85 false ∧ W' = W.set b ⟨Q.flatMap pqC ++ peX p av, true⟩)) :
    PeersB o W' (if Q = [] then .view W.length 0 1 85 false else match c with | .view b .. => .view b 0 (Q.length + 1) 85 false | _ => c) (Q ++ [(p, av)]) := by
  rcases hW with ⟨rfl, rfl⟩ | ⟨b, hQ, rfl, rfl⟩
  · refine ⟨fun q hq => ?_, .inr ⟨W.length, false, hl, by simp, rfl, ?_⟩⟩
    · simp at hq
      subst hq
      exact ⟨hp, hav.keep fun i m h1 _ h2 => List.getElem?_append_left (List.getElem?_eq_some_iff.1 h2).1⟩
    · simp [pqC]
  · rcases h.2 with ⟨h0, _⟩ | ⟨b', m, h1, h2, h3, h4⟩
    · exact absurd h0 hQ
    obtain rfl : b = b' := by simpa using h3
    have hbl := (List.getElem?_eq_some_iff.1 h4).1
    have key : ∀ {al : List Pf} {av : CV}, GrowX o av W al → GrowX o av (W.set b ⟨Q.flatMap pqC ++ peX p av, true⟩) al := fun {al av'} hg => hg.keep fun i m' k1 k2 k3 => by
      rw [List.getElem?_set_ne (Ne.symm (gx_ne k3 k2 h4 h2 fun q hq => (h.1 q hq).1.1))]
    have key2 : ∀ {al : List Pf} {a2 : CV} (y : Box), GrowX o a2 W al → GrowX o a2 (W.set b y) al := fun {al a2} y hg => hg.keep fun i m' k1 k2 k3 => by
      rw [List.getElem?_set_ne (Ne.symm (gx_ne k3 k2 h4 h2 fun q hq => (h.1 q hq).1.1))]
    rw [if_neg hQ]
    refine ⟨fun q hq => ?_, .inr ⟨b, true, h1, by simp, by simp, ?_⟩⟩
    · rcases List.mem_append.1 hq with hq | hq
      · exact ⟨(h.1 q hq).1, key2 _ (h.1 q hq).2⟩
      · rw [List.mem_singleton.1 hq]; exact ⟨hp, key2 _ hav⟩
    · rw [List.getElem?_set_self hbl, List.flatMap_append, List.flatMap_singleton]; rfl
theorem pfs_om {W : List Box} (al : List Pf) {k : Nat} : omap (Go.Sy.fz true true W (k + 1)) (al.flatMap pfC) = some (al.flatMap pfC) := pf_om al
theorem gx_fz {o : Nat} {W : List Box} {c : CV} {al : List Pf} (h : GrowX o c W al) (hl : ∀ q ∈ al, q.1.2.length = 16) {k : Nat} : fz true true W (k + 2) c = some (.lst al.length (al.flatMap pfC) false) := by
  rcases h with ⟨rfl, rfl⟩ | ⟨b, m, h1, h2, rfl, h4⟩
  · rfl
  · have hf : (al.flatMap pfC).length = al.length * 18 := fl_len fun p hp => by simp [pfC, hl p hp]
    rw [fz_view, h4]
    simp only [List.drop_zero]
    rw [List.take_of_length_le (by omega), pfs_om]
    rfl
theorem pqs_fz {o : Nat} {W : List Box} {k : Nat} : ∀ {Q : List (Pe × CV)}, (∀ q ∈ Q, PeG q.1 ∧ GrowX o q.2 W q.1.2.2.2.2.2) → omap (Go.Sy.fz true true W (k + 2)) (Q.flatMap pqC) = some ((Q.map (·.1)).flatMap peC)
  | [], _ => rfl
  | q :: Q, h => by
    have hq := h q (by simp)
    rw [List.flatMap_cons, omap_app, pqs_fz fun q hq => h q (by simp [hq])]
    have hh : omap (Go.Sy.fz true true W (k + 2)) (peH q.1) = some (peH q.1) := by simp [peH, pfC, go_sem]
    rw [pqC, peX, omap_app, hh, omap_one (gx_fz hq.2 fun r hr => (hq.1.1.2.2.2.2 r hr).1)]
    simp [peC_eq]
theorem peers_fz {o : Nat} {W : List Box} {c : CV} {Q : List (Pe × CV)} {K : List UInt8} {port : Int} (h : PeersB o W c Q) : fz true true W 6 (.agg (K.map byteC ++ [.int .i64 port, c])) = some (.agg (cfC (K, port, Q.map (·.1)))) := by
  have hr : fz true true W 5 c = some (.lst Q.length ((Q.map (·.1)).flatMap peC) false) := by
    rcases h.2 with ⟨rfl, rfl⟩ | ⟨b, m, h1, h2, rfl, h4⟩
    · rfl
    · have hf : (Q.flatMap pqC).length = Q.length * 85 := fl_len fun q hq => peX_len (h.1 q hq).1.1 _
      rw [fz_view, h4]
      simp only [List.drop_zero]
      rw [List.take_of_length_le (by omega), pqs_fz h.1]
      rfl
  rw [fz_agg, omap_app, omap_bytes, omap_two, omap_two, hr]
  simp [cfC]
  rfl
def CfGood (K : List UInt8) (port : Int) (ps : List Pe) : Prop := K.length = 32 ∧ (0 ≤ port ∧ port ≤ 65535) ∧ (∀ p ∈ ps, PeG p) ∧ (pubs ps).Nodup ∧ (alls ps).Nodup ∧ (alls ps).length ≤ 6 ∧ ps.length ≤ 8
theorem CfGood.val {K : List UInt8} {port : Int} {ps : List Pe} (h : CfGood K port ps) : valC port ps = 0 := by
  obtain ⟨_, h2, h3, h4, h5, h6, h7⟩ := h
  unfold valC
  have h8 : ps.all okPe = true := List.all_eq_true.2 fun p hp => (h3 p hp).2
  rw [if_neg (by omega), if_neg (by rw [h8]; simp; omega), if_pos ⟨h4, h5⟩]
end Go.Proofs.YtdceppjoipoohaaGreatDoor
end
section
namespace Go.Proofs.YtdceppjoipoohaaGreatDoor
open Go Go.Sy
set_option linter.all false
set_option maxRecDepth 100000
set_option maxHeartbeats 4000000
theorem kE_WA0 {α : Type} {x y : α} (h : Is x y := by first | ((try simp (disch := first | omega | (simp only [yZ, yB] <;> omega) | fail) [go_sem, yY, *, sPub, if_pos, if_neg, -List.map_take, -List.map_drop, -List.map_append, -List.map_reverse]); exact rfl) | fail) : Is x y := h
theorem kD_WA0 {p : Prop} (h : p := by (first | omega | assumption | exact rfl | ((simp (disch := first | omega | (simp only [yZ, yB] <;> omega) | fail) [go_sem, yY, *, sPub, -List.map_take, -List.map_drop, -List.map_append, -List.map_reverse]) <;> (first | done | omega | exact rfl)) | fail)) : p := h
theorem kE_WA1 {α : Type} {x y : α} (h : Is x y := by first | ((try simp (disch := first | omega | (simp only [yZ, yB] <;> omega) | fail) [go_sem, yY, *, sShared, if_pos, if_neg, -List.map_take, -List.map_drop, -List.map_append, -List.map_reverse]); exact rfl) | fail) : Is x y := h
theorem kD_WA1 {p : Prop} (h : p := by (first | omega | assumption | exact rfl | ((simp (disch := first | omega | (simp only [yZ, yB] <;> omega) | fail) [go_sem, yY, *, sShared, -List.map_take, -List.map_drop, -List.map_append, -List.map_reverse]) <;> (first | done | omega | exact rfl)) | fail)) : p := h
theorem kE_WA2 {α : Type} {x y : α} (h : Is x y := by first | ((try simp (disch := first | omega | (simp only [yZ, yB] <;> omega) | fail) [go_sem, yY, *, sKeep, if_pos, if_neg, -List.map_take, -List.map_drop, -List.map_append, -List.map_reverse]); exact rfl) | fail) : Is x y := h
theorem kD_WA2 {p : Prop} (h : p := by (first | omega | assumption | exact rfl | ((simp (disch := first | omega | (simp only [yZ, yB] <;> omega) | fail) [go_sem, yY, *, sKeep, -List.map_take, -List.map_drop, -List.map_append, -List.map_reverse]) <;> (first | done | omega | exact rfl)) | fail)) : p := h
theorem kE_WA3 {α : Type} {x y : α} (h : Is x y := by first | ((try simp (disch := first | omega | (simp only [yZ, yB] <;> omega) | fail) [go_sem, yY, *, sAllow, if_pos, if_neg, -List.map_take, -List.map_drop, -List.map_append, -List.map_reverse]); exact rfl) | fail) : Is x y := h
theorem kD_WA3 {p : Prop} (h : p := by (first | omega | assumption | exact rfl | ((simp (disch := first | omega | (simp only [yZ, yB] <;> omega) | fail) [go_sem, yY, *, sAllow, -List.map_take, -List.map_drop, -List.map_append, -List.map_reverse]) <;> (first | done | omega | exact rfl)) | fail)) : p := h
theorem kE_WA4 {α : Type} {x y : α} (h : Is x y := by first | ((try simp (disch := first | omega | (simp only [yZ, yB] <;> omega) | fail) [go_sem, yY, *, sEnd, if_pos, if_neg, -List.map_take, -List.map_drop, -List.map_append, -List.map_reverse]); exact rfl) | fail) : Is x y := h
theorem kD_WA4 {p : Prop} (h : p := by (first | omega | assumption | exact rfl | ((simp (disch := first | omega | (simp only [yZ, yB] <;> omega) | fail) [go_sem, yY, *, sEnd, -List.map_take, -List.map_drop, -List.map_append, -List.map_reverse]) <;> (first | done | omega | exact rfl)) | fail)) : p := h
theorem row_sp {A X E vs : List CV} {o off : Nat} (hA : A.length = o) (h : off + vs.length ≤ X.length) : (A ++ (X ++ E)).take (o + off) ++ (vs ++ (A ++ (X ++ E)).drop (o + (off + vs.length))) = A ++ ((X.take off ++ (vs ++ X.drop (off + vs.length))) ++ E) := by
  subst hA
  rw [List.take_length_add_append, List.take_append_of_le_length (by omega), ← List.drop_drop, List.drop_left' rfl, List.drop_append_of_le_length h]
  simp only [List.append_assoc]
theorem row_pe {A E D vs X : List CV} {o off n : Nat} {p : Pe} {av : CV} (hA : A.length = o) (hp : PeL p) (hD : A ++ (peX p av ++ E) = D) (hs : splice (peX p av) off vs = X) (ho : off + vs.length ≤ 85) (hn : n = off + vs.length) : D.take (o + off) ++ (vs ++ D.drop (o + n)) = A ++ (X ++ E) := by
  subst hn
  rw [← hD, row_sp hA (by rw [peX_len hp]; exact ho), ← hs]
  simp [splice]
theorem px_pub {p : Pe} (h : PeL p) {u : List UInt8} (hu : u.length = 32) (v : CV) : splice (peX p v) 0 (u.map byteC) = peX (u, p.2) v := by
  rw [peX_eq, peX_eq]
  exact splice_at (A := []) rfl (by simp [h.1, hu])
section
variable {W : List Box} {β b o : Nat} {args : List CV} {A E : List CV} {p : Pe} {av : CV} {t : List UInt8}
theorem peer_pub {K : List UInt8} (ha : Is args [.ptr β 0, .ptr b o, .str sPub, .str t]) (hB : W[b]? = some ⟨A ++ (peX p av ++ E), false⟩) (hA : A.length = o) (hp : PeL p) (ht : t.length < 1073741823) (hk : unkey t = some K) (hl : K.length = 32) :
    ACall Tryz.prog 88 args W fun c W' => c = .tup [] ∧ W' = W.set b ⟨A ++ (peX (K, p.2) av ++ E), false⟩ ++ [⟨K.map byteC, false⟩, ⟨K.map byteC, false⟩] := by
  have ha : args = _ := ha
  subst ha
  have hky : ∀ {B : List Box} {args : List CV}, Is args [.ptr β 0, .str t] → ACall Tryz.prog 86 args B fun c B' => c = .agg (K.map byteC) ∧ B' = B ++ [⟨K.map byteC, false⟩, ⟨K.map byteC, false⟩] := fun h => key_at h ht hk hl
  obtain ⟨D, hD⟩ : ∃ D, A ++ (peX p av ++ E) = D := ⟨_, rfl⟩
  have hrow := row_pe (n := 32) hA hp hD (px_pub hp hl av) (by simp [hl]) (by simp [hl])
  have hbb : (W ++ [(⟨K.map byteC, false⟩ : Box), ⟨K.map byteC, false⟩])[b]? = some ⟨A ++ (peX p av ++ E), false⟩ := by rw [List.getElem?_append_left (List.getElem?_eq_some_iff.1 hB).1, hB]
  have hDl : (A ++ (peX p av ++ E)).length = o + (85 + E.length) := by simp [hA, peX_len hp]
  rw [hD] at hB hDl hbb
  have xb := bx_pack hB
  replace hrow : Hid _ := hrow
  replace hp : Hid _ := hp
  clear hD
  refine acall_intro mixed Tryz.func88 rfl ca88 (by kernel_rfl) (by rw [Tryz.ntmps88]; simp) ?_
  repeat' (first | (with_reducible first | apply jA | apply jB | apply jC | apply jD | apply jE | apply jF | apply jG | apply jH | apply jI | apply jJ | apply jK | apply jL | apply jM | apply jN | apply jO) | ((with_reducible first | apply jP | apply jQ); rfl) | ((first | ((with_reducible first | apply jR | apply jS | apply jT); rfl; rfl) | (with_reducible first | apply jU | apply jV | apply jW) | ((with_reducible first | apply jX | apply jY | apply jZ); rfl) | ((with_reducible first | apply kA | apply kB | apply kC); rfl)); all_goals (first | ((with_reducible show Is _ _); exact kE_WA0) | ((with_reducible refine fun (hc : (_ : Bool) = _) => ?_); (try simp only [xZ, xY, xP, reduceCtorEq] at hc); (try (have hx : True := hc; clear hx hc)); (try exact kX)) | ((with_reducible show ACall _ _ _ _ _); (first | ((with_reducible apply hky) <;> exact kD_WA0))) | ((fail_if_success (with_reducible first | show Is _ _ | show ACall _ _ _ _ _)); (try ((with_reducible show _ ∨ _); exact kT))))))
  refine ⟨rfl, ?_⟩
  have hrow : _ = _ := hrow
  rw [← hrow]
  try rfl
theorem peer_shared {K : List UInt8} (ha : Is args [.ptr β 0, .ptr b o, .str sShared, .str t]) (hB : W[b]? = some ⟨A ++ (peX p av ++ E), false⟩) (hA : A.length = o) (hp : PeL p) (ht : t.length < 1073741823) (hk : unkey t = some K) (hl : K.length = 32) :
    ACall Tryz.prog 88 args W fun c W' => c = .tup [] ∧ W' = W.set b ⟨A ++ (peX (p.1, K, p.2.2) av ++ E), false⟩ ++ [⟨K.map byteC, false⟩, ⟨K.map byteC, false⟩] := by
  have ha : args = _ := ha
  subst ha
  have hky : ∀ {B : List Box} {args : List CV}, Is args [.ptr β 0, .str t] → ACall Tryz.prog 86 args B fun c B' => c = .agg (K.map byteC) ∧ B' = B ++ [⟨K.map byteC, false⟩, ⟨K.map byteC, false⟩] := fun h => key_at h ht hk hl
  obtain ⟨D, hD⟩ : ∃ D, A ++ (peX p av ++ E) = D := ⟨_, rfl⟩
  have hrow := row_pe (n := 64) hA hp hD (px_shared hp hl av) (by simp [hl]) (by simp [hl])
  have hbb : (W ++ [(⟨K.map byteC, false⟩ : Box), ⟨K.map byteC, false⟩])[b]? = some ⟨A ++ (peX p av ++ E), false⟩ := by rw [List.getElem?_append_left (List.getElem?_eq_some_iff.1 hB).1, hB]
  have hDl : (A ++ (peX p av ++ E)).length = o + (85 + E.length) := by simp [hA, peX_len hp]
  rw [hD] at hB hDl hbb
  have xb := bx_pack hB
  replace hrow : Hid _ := hrow
  replace hp : Hid _ := hp
  clear hD
  refine acall_intro mixed Tryz.func88 rfl ca88 (by kernel_rfl) (by rw [Tryz.ntmps88]; simp) ?_
  repeat' (first | (with_reducible first | apply jA | apply jB | apply jC | apply jD | apply jE | apply jF | apply jG | apply jH | apply jI | apply jJ | apply jK | apply jL | apply jM | apply jN | apply jO) | ((with_reducible first | apply jP | apply jQ); rfl) | ((first | ((with_reducible first | apply jR | apply jS | apply jT); rfl; rfl) | (with_reducible first | apply jU | apply jV | apply jW) | ((with_reducible first | apply jX | apply jY | apply jZ); rfl) | ((with_reducible first | apply kA | apply kB | apply kC); rfl)); all_goals (first | ((with_reducible show Is _ _); exact kE_WA1) | ((with_reducible refine fun (hc : (_ : Bool) = _) => ?_); (try simp only [xZ, xY, xP, reduceCtorEq] at hc); (try (have hx : True := hc; clear hx hc)); (try exact kX)) | ((with_reducible show ACall _ _ _ _ _); (first | ((with_reducible apply hky) <;> exact kD_WA1))) | ((fail_if_success (with_reducible first | show Is _ _ | show ACall _ _ _ _ _)); (try ((with_reducible show _ ∨ _); exact kT))))))
  refine ⟨rfl, ?_⟩
  have hrow : _ = _ := hrow
  rw [← hrow]
  try rfl
theorem peer_keep (ha : Is args [.ptr β 0, .ptr b o, .str sKeep, .str t]) (hB : W[b]? = some ⟨A ++ (peX p av ++ E), false⟩) (hA : A.length = o) (hp : PeL p) (ht : t.length < 1073741823) (hd : decOk 10 t = true) (hv : decV t ≤ 9999999999) :
    ACall Tryz.prog 88 args W fun c W' => c = .tup [] ∧ W' = W.set b ⟨A ++ (peX (p.1, p.2.1, p.2.2.1, p.2.2.2.1, (decV t : Int), p.2.2.2.2.2) av ++ E), false⟩ := by
  have ha : args = _ := ha
  subst ha
  have hnu : ∀ {B : List Box} {args : List CV}, Is args [.ptr β 0, .str t] → ACall Tryz.prog 87 args B fun c B' => c = .int .i64 (decV t) ∧ B' = B := fun h => number_at h ht hd hv
  obtain ⟨D, hD⟩ : ∃ D, A ++ (peX p av ++ E) = D := ⟨_, rfl⟩
  have hrow := row_pe (n := 84) hA hp hD (px_keep hp (decV t) av) (by simp) rfl
  have hDl : (A ++ (peX p av ++ E)).length = o + (85 + E.length) := by simp [hA, peX_len hp]
  rw [hD] at hB hDl
  have xb := bx_pack hB
  replace hrow : Hid _ := hrow
  replace hp : Hid _ := hp
  clear hD
  generalize decV t = v at *
  refine acall_intro mixed Tryz.func88 rfl ca88 (by kernel_rfl) (by rw [Tryz.ntmps88]; simp) ?_
  repeat' (first | (with_reducible first | apply jA | apply jB | apply jC | apply jD | apply jE | apply jF | apply jG | apply jH | apply jI | apply jJ | apply jK | apply jL | apply jM | apply jN | apply jO) | ((with_reducible first | apply jP | apply jQ); rfl) | ((first | ((with_reducible first | apply jR | apply jS | apply jT); rfl; rfl) | (with_reducible first | apply jU | apply jV | apply jW) | ((with_reducible first | apply jX | apply jY | apply jZ); rfl) | ((with_reducible first | apply kA | apply kB | apply kC); rfl)); all_goals (first | ((with_reducible show Is _ _); exact kE_WA2) | ((with_reducible refine fun (hc : (_ : Bool) = _) => ?_); (try simp only [xZ, xY, xP, reduceCtorEq] at hc); (try (have hx : True := hc; clear hx hc)); (try exact kX)) | ((with_reducible show ACall _ _ _ _ _); (first | ((with_reducible apply hnu) <;> exact kD_WA2))) | ((fail_if_success (with_reducible first | show Is _ _ | show ACall _ _ _ _ _)); (try ((with_reducible show _ ∨ _); exact kT))))))
  refine ⟨rfl, ?_⟩
  have hrow : _ = _ := hrow
  rw [← hrow]
  rfl
theorem peer_end {x : Bool × List UInt8 × Nat} (ha : Is args [.ptr β 0, .ptr b o, .str sEnd, .str t]) (hB : W[b]? = some ⟨A ++ (peX p av ++ E), false⟩) (hA : A.length = o) (hp : PeL p) (ht : t.length < 1000000000) (he : parseE t = some x) (hx : PfL (qP x)) :
    ACall Tryz.prog 88 args W fun c W' => c = .tup [] ∧ W' = W.set b ⟨A ++ (peX (p.1, p.2.1, true, qP x, p.2.2.2.2) av ++ E), false⟩ ++ [⟨pfC (qP x), false⟩, ⟨[], false⟩] := by
  have ha : args = _ := ha
  subst ha
  have hq : ∀ {B : List Box}, ACall Tryz.prog 106 [.str t] B fun c B' => c = .tup [.agg (pfC (qP x)), .int .i64 0] ∧ B' = B := by
    intro B
    have := @parseE_at B t ht
    rw [he] at this
    exact this
  have hrq : ∀ {B : List Box} {args : List CV}, Is args [.ptr β 0, .bool true] → ACall Tryz.prog 57 args B fun c B' => c = .tup [] ∧ B' = B := require_at
  have hql := pfC_len hx
  have hq18 : (pfC (qP x)).take 18 = pfC (qP x) := List.take_of_length_le (by omega)
  obtain ⟨D, hD⟩ : ∃ D, A ++ (peX p av ++ E) = D := ⟨_, rfl⟩
  have hrow := row_pe (n := 65) hA hp hD (px_has hp true av) (by simp) rfl
  have hrow2 := row_pe (E := E) (n := 83) hA (p := (p.1, p.2.1, true, p.2.2.2)) hp rfl (px_end (p := (p.1, p.2.1, true, p.2.2.2)) hp hx av) (by omega) (by omega)
  have hDl : (A ++ (peX p av ++ E)).length = o + (85 + E.length) := by simp [hA, peX_len hp]
  have hDl2 : (A ++ (peX (p.1, p.2.1, true, p.2.2.2) av ++ E)).length = o + (85 + E.length) := by simp [hA, peX_len (p := (p.1, p.2.1, true, p.2.2.2)) hp]
  rw [hD] at hB hDl
  generalize A ++ (peX (p.1, p.2.1, true, p.2.2.2) av ++ E) = D2 at *
  have xb := bx_pack hB
  replace hrow2 : Hid _ := hrow2
  replace hp : Hid _ := hp
  replace hx : Hid _ := hx
  clear hD he
  generalize pfC (qP x) = Y at *
  refine acall_intro mixed Tryz.func88 rfl ca88 (by kernel_rfl) (by rw [Tryz.ntmps88]; simp) ?_
  repeat' (first | (with_reducible first | apply jA | apply jB | apply jC | apply jD | apply jE | apply jF | apply jG | apply jH | apply jI | apply jJ | apply jK | apply jL | apply jM | apply jN | apply jO) | ((with_reducible apply jP); rfl) | ((first | ((with_reducible first | apply jR | apply jS | apply jT); rfl; rfl) | (with_reducible first | apply jU | apply jV | apply jW) | ((with_reducible first | apply jX | apply jY | apply jZ); rfl) | ((with_reducible first | apply kA | apply kB | apply kC); rfl)); all_goals (first | ((with_reducible show Is _ _); exact kE_WA4) | ((with_reducible refine fun (hc : (_ : Bool) = _) => ?_); (try simp only [xZ, xY, xP, reduceCtorEq] at hc); (try (have hx : True := hc; clear hx hc)); (try exact kX)) | ((with_reducible show ACall _ _ _ _ _); (first | ((with_reducible apply hq) <;> exact kD_WA4) | ((with_reducible apply hrq) <;> exact kD_WA4))) | ((fail_if_success (with_reducible first | show Is _ _ | show ACall _ _ _ _ _)); (try ((with_reducible show _ ∨ _); exact kT))))))
  refine w_drawJ [2] [⟨[], false⟩] (fun B' => B'[W.length]? = some ⟨Y, false⟩) rfl rfl (by simp) ?_
  repeat' (first | (with_reducible first | apply jA | apply jB | apply jC | apply jD | apply jE | apply jF | apply jG | apply jH | apply jI | apply jJ | apply jK | apply jL | apply jM | apply jN | apply jO) | ((with_reducible apply jP); rfl) | ((first | ((with_reducible first | apply d_made | apply q_made); rfl; rfl)); (iterate 6 exact kE)) | ((first | ((with_reducible first | apply d_fop | apply q_fop); rfl; rfl)); (intro Bx hJ; (first | (obtain ⟨_, hJ1, hJ2⟩ := hJ) | (try simp only at hJ)); exact kE)) | ((with_reducible first | apply d_free | apply q_free); rfl; (iterate 2 exact kE); (intro Bx hJ); (first | ((with_reducible apply hq) <;> exact kD) | ((with_reducible apply hrq) <;> exact kD))) | ((first | ((with_reducible first | apply jR | apply jS | apply jT); rfl; rfl) | (with_reducible first | apply jU | apply jV | apply jW) | ((with_reducible first | apply jX | apply jY | apply jZ); rfl) | ((with_reducible first | apply kA | apply kB | apply kC); rfl)); all_goals (first | ((with_reducible show Is _ _); exact kE) | ((with_reducible refine fun (hc : (_ : Bool) = _) => ?_); (try simp only [xZ, xY, xP, reduceCtorEq] at hc); (try (have hx : True := hc; clear hx hc)); (try exact kX)) | ((with_reducible show ACall _ _ _ _ _); (first | ((with_reducible apply hq) <;> exact kD) | ((with_reducible apply hrq) <;> exact kD))) | ((fail_if_success (with_reducible first | show Is _ _ | show ACall _ _ _ _ _)); (try ((with_reducible show _ ∨ _); first | exact .inl rfl | (refine .inr ⟨rfl, ?_, ?_⟩; (focus (repeat (first | exact trivial | refine ⟨.inl rfl, ?_⟩ | refine ⟨.inr rfl, ?_⟩ | refine ⟨.inr (by (simp (disch := first | omega | (simp only [yZ, yB] <;> omega) | fail) [go_sem, yY, *, -List.map_take, -List.map_drop, -List.map_append, -List.map_reverse])), ?_⟩))); (first | exact trivial | exact rfl | (refine ⟨_, ?_, ?_⟩; (focus (simp (disch := first | omega | (simp only [yZ, yB] <;> omega) | fail) [go_sem, yY, *, -List.map_take, -List.map_drop, -List.map_append, -List.map_reverse]; (try exact rfl))); (simp (disch := first | omega | (simp only [yZ, yB] <;> omega) | fail) [go_sem, yY, *, -List.map_take, -List.map_drop, -List.map_append, -List.map_reverse])) | (simp (disch := first | omega | (simp only [yZ, yB] <;> omega) | fail) [go_sem, yY, *, -List.map_take, -List.map_drop, -List.map_append, -List.map_reverse]))) | exact .inl (by (simp (disch := first | omega | (simp only [yZ, yB] <;> omega) | fail) [go_sem, yY, *, -List.map_take, -List.map_drop, -List.map_append, -List.map_reverse]))))))))
  refine ⟨rfl, ?_⟩
  have hrow2 : _ = _ := hrow2
  rw [← hrow2, ← hrow]
  rfl
theorem peer_allow {L : List (Bool × List UInt8 × Nat)} (ha : Is args [.ptr β 0, .ptr b o, .str sAllow, .str t]) (hB : W[b]? = some ⟨A ++ (peX p .nilS ++ E), false⟩) (hA : A.length = o) (hp : PeL p) (ht : t.length < 1000000) (h0 : p.2.2.2.2.2 = []) (h : (splitL 44 t).map (fun t => parseP (trimT t)) = L.map some) (hx : ∀ x ∈ L, PfL (qP x)) :
    ACall Tryz.prog 88 args W fun c W' => c = .tup [] ∧ ∃ av', GrowX W.length av' W' (L.map qP) ∧ W'[b]? = some ⟨A ++ (peX (p.1, p.2.1, p.2.2.1, p.2.2.2.1, p.2.2.2.2.1, L.map qP) av' ++ E), false⟩ ∧ (∀ k, k < W.length → k ≠ b → W'[k]? = W[k]?) ∧ W.length ≤ W'.length := by
  have ha : args = _ := ha
  subst ha
  have hsp : ∀ {B : List Box}, ACall Tryz.prog 54 [.str t, .str [44]] B fun c B' => c = .lst (splitL 44 t).length ((splitL 44 t).map .str) true ∧ B' = B := split_at (b := 44) (by omega)
  have hsl : ∀ x ∈ splitL 44 t, x.length ≤ t.length := fun x hx => splitL_mem 44 t x hx
  have hLt := splitL_num 44 t
  have hLl : (splitL 44 t).length = L.length := by have := congrArg List.length h; simpa using this
  generalize splitL 44 t = T at *
  refine acall_intro mixed Tryz.func88 rfl ca88 (by kernel_rfl) (by rw [Tryz.ntmps88]; simp) ?_
  repeat' (first | (with_reducible first | apply jA | apply jB | apply jC | apply jD | apply jE | apply jF | apply jG | apply jH | apply jI | apply jJ | apply jK | apply jL | apply jM | apply jN | apply jO) | ((with_reducible first | apply jP | apply jQ); rfl) | ((first | ((with_reducible first | apply jR | apply jS | apply jT); rfl; rfl) | (with_reducible first | apply jU | apply jV | apply jW) | ((with_reducible first | apply jX | apply jY | apply jZ); rfl) | ((with_reducible first | apply kA | apply kB | apply kC); rfl)); all_goals (first | ((with_reducible show Is _ _); exact kE_WA3) | ((with_reducible refine fun (hc : (_ : Bool) = _) => ?_); (try simp only [xZ, xY, xP, reduceCtorEq] at hc); (try (have hx : True := hc; clear hx hc)); (try exact kX)) | ((with_reducible show ACall _ _ _ _ _); (first | ((with_reducible apply hsp) <;> exact kD_WA3))) | ((fail_if_success (with_reducible first | show Is _ _ | show ACall _ _ _ _ _)); (try ((with_reducible show _ ∨ _); exact kT))))))
  have hbl := (List.getElem?_eq_some_iff.1 hB).1
  have hrq : ∀ {B : List Box} {args : List CV}, Is args [.ptr β 0, .bool true] → ACall Tryz.prog 57 args B fun c B' => c = .tup [] ∧ B' = B := require_at
  have hDl : ∀ av, (A ++ (peX p av ++ E)).length = o + (85 + E.length) := fun av => by simp [hA, peX_len hp]
  have hg : ∀ av, (A ++ (peX p av ++ E))[o + 84]? = some av := fun av => by
    rw [← hA, List.getElem?_append_right (by omega), show A.length + 84 - A.length = 84 by omega, List.getElem?_append_left (by rw [peX_len hp]; omega), (px_get hp av).1]
  have hdr : ∀ av, (A ++ (peX p av ++ E)).drop (o + 84) = av :: E := fun av => by
    rw [← hA, ← List.drop_drop, List.drop_left' rfl, List.drop_append_of_le_length (by rw [peX_len hp]; omega), (px_get hp av).2.1]; rfl
  have hst : ∀ av w, (A ++ (peX p av ++ E)).take (o + 84) ++ ([w] ++ (A ++ (peX p av ++ E)).drop (o + 85)) = A ++ (peX p w ++ E) := fun av w => row_pe hA hp rfl (px_all hp av w) (by simp) rfl
  obtain ⟨D, hD⟩ : ∃ D : CV → List CV, D = fun av => A ++ (peX p av ++ E) := ⟨_, rfl⟩
  have hD2 : ∀ av, A ++ (peX p av ++ E) = D av := fun av => by rw [hD]
  have hpe : ∀ av', A ++ (peX (p.1, p.2.1, p.2.2.1, p.2.2.2.1, p.2.2.2.2.1, L.map qP) av' ++ E) = D av' := fun av' => by rw [hD]; rfl
  simp only [hpe]
  simp only [hD2] at hB hDl hg hst hdr
  clear hD hD2 hpe hp hA hsp
  refine w_loop (fun fr B' => ∃ (j : Nat) (av : CV), j ≤ L.length ∧ fr 64 = .int .i64 j ∧ fr 63 = .int .i64 L.length ∧ fr 62 = .lst L.length (T.map .str) true ∧ fr 0 = .ptr β 0 ∧ fr 1 = .ptr b o ∧ GrowX W.length av B' ((L.take j).map qP) ∧ B'[b]? = some ⟨D av, false⟩ ∧ (∀ k, k < W.length → k ≠ b → B'[k]? = W[k]?) ∧ W.length ≤ B'.length) (fun fr _ => L.length - natOf (fr 64)) ?_ ?_
  · exact ⟨0, .nilS, by omega, by (simp (disch := omega) [go_sem, *]) <;> (try omega), by rw [← hLl]; (simp (disch := omega) [go_sem, *]) <;> (try omega), by rw [← hLl]; (simp (disch := omega) [go_sem, *]) <;> (try omega), by (simp (disch := omega) [go_sem, *]) <;> (try omega), by (simp (disch := omega) [go_sem, *]) <;> (try omega), .inl ⟨rfl, rfl⟩, hB, fun k _ _ => rfl, Nat.le_refl _⟩
  rintro fr X ⟨j, av, hj, f64, f63, f62, f0, f1, hgr, hXb, hk, hl⟩
  have hm : natOf (fr 64) = j := by rw [f64]; rfl
  by_cases hc : j < L.length
  · have hcT : j < T.length := by omega
    have hd : (T.map CV.str).drop j = .str T[j] :: (T.map CV.str).drop (j + 1) := by
      rw [List.drop_eq_getElem_cons (by simp; omega)]; simp
    have hxl := hsl T[j] (List.getElem_mem hcT)
    have hpx : parseP (trimT T[j]) = some L[j] := by
      have h1 : (T.map (fun t => parseP (trimT t)))[j]? = (L.map some)[j]? := by rw [h]
      rw [List.getElem?_map, List.getElem?_map, List.getElem?_eq_getElem hcT, List.getElem?_eq_getElem hc] at h1
      exact Option.some.inj h1
    have hqx := hx L[j] (List.getElem_mem hc)
    have hnx : (L.take (j + 1)).map qP = (L.take j).map qP ++ [qP L[j]] := by rw [List.take_succ_eq_append_getElem hc, List.map_append]; rfl
    have hx2 : ∀ p ∈ (L.take j).map qP, PfL p := fun p hp => by
      obtain ⟨z, hz, rfl⟩ := List.mem_map.1 hp
      exact hx z (List.mem_of_mem_take hz)
    have hql := pfC_len hqx
    have hq18 : (pfC (qP L[j])).take 18 = pfC (qP L[j]) := List.take_of_length_le (by omega)
    have htr : ∀ {B : List Box} {args : List CV}, Is (omap (Go.Sy.fz true false B 6) args) (some [.str T[j], .str [32, 9]]) → ACall Tryz.prog 56 args B fun c B' => c = .str (trimT T[j]) ∧ B' = B := fun h => trim_at h (by omega)
    have hq : ∀ {B : List Box}, ACall Tryz.prog 16 [.str (trimT T[j])] B fun c B' => c = .tup [.agg (pfC (qP L[j])), .int .i64 0] ∧ B' = B := by
      intro B
      have := @parseP_at B (trimT T[j]) (by have := trimT_le T[j]; omega)
      rw [hpx] at this
      exact this
    clear hpx hsl h hx
    generalize T[j] = x at *
    generalize qP L[j] = q at *
    generalize trimT x = x' at *
    have hal : ∀ al : List Pf, al.length = j → (al ++ [q]).length = j + 1 := fun al e => by simp [e]
    have hjl : ((L.take j).map qP).length = j := by simp; omega
    have hk2 : ∀ y G, ∀ k, k < W.length → k ≠ b → (X.set b y ++ G)[k]? = W[k]? := fun y G k h1 h2 => by rw [List.getElem?_append_left (by rw [List.length_set]; omega), List.getElem?_set_ne (Ne.symm h2), hk k h1 h2]
    rcases hgr with ⟨he, rfl⟩ | ⟨b2, m, hb2, hne, rfl, hX2⟩
    · obtain rfl : j = 0 := by rw [he] at hjl; simpa using hjl.symm
      rw [he, List.nil_append] at hnx
      replace hnx : Hid _ := hnx
      have xb := bx_pack hXb
      have g1 := hg .nilS
      have g2 := hdr .nilS
      have g3 := hDl .nilS
      have g4 := fun w => hst .nilS w
      obtain ⟨D1, hD1⟩ : ∃ D1, D .nilS = D1 := ⟨_, rfl⟩
      rw [hD1] at g1 g2 g3 hXb
      simp only [hD1] at g4 xb
      replace g4 : Hid _ := g4
      replace hk2 : Hid _ := hk2
      replace hbl : Hid _ := hbl
      clear hg hdr hDl hst hk he hjl hal hqx
      repeat' (first | (with_reducible first | apply jA | apply jB | apply jC | apply jD | apply jE | apply jF | apply jG | apply jH | apply jI | apply jJ | apply jK | apply jL | apply jM | apply jN | apply jO) | ((with_reducible first | apply jP | apply jQ); rfl) | ((first | ((with_reducible first | apply jR | apply jS | apply jT); rfl; rfl) | (with_reducible first | apply jU | apply jV | apply jW) | ((with_reducible first | apply jX | apply jY | apply jZ); rfl) | ((with_reducible first | apply kA | apply kB | apply kC); rfl)); all_goals (first | ((with_reducible show Is _ _); exact kE) | ((with_reducible refine fun (hc : (_ : Bool) = _) => ?_); (try simp only [xZ, xY, xP, reduceCtorEq] at hc); (try (have hx : True := hc; clear hx hc)); (try exact kX)) | ((with_reducible show ACall _ _ _ _ _); (first | ((with_reducible apply htr) <;> exact kD) | ((with_reducible apply hq) <;> exact kD) | ((with_reducible apply hrq) <;> exact kD))) | ((fail_if_success (with_reducible first | show Is _ _ | show ACall _ _ _ _ _)); (try ((with_reducible show _ ∨ _); exact kT))))))
      refine ⟨⟨1, .view (X.length + 1) 0 1 18 false, by omega, by (simp (disch := omega) [go_sem, *]) <;> (try omega), by (simp (disch := omega) [go_sem, *]) <;> (try omega), by (simp (disch := omega) [go_sem, *]) <;> (try omega), by (simp (disch := omega) [go_sem, *]) <;> (try omega), by (simp (disch := omega) [go_sem, *]) <;> (try omega), by rw [show (L.take 1).map qP = [q] from hnx]; exact .inr ⟨X.length + 1, false, by omega, by simp, rfl, by rw [xb.2.2.2.2.2.2.1, List.flatMap_singleton]; rfl⟩, ?_, (show ∀ y G, ∀ k, k < W.length → k ≠ b → (X.set b y ++ G)[k]? = W[k]? from hk2) _ _, by rw [List.length_append, List.length_set]; omega⟩, by (simp (disch := omega) [go_sem, *]) <;> (try omega)⟩
      rw [xb.2.2.2.1, ← (show ∀ w, _ = D w from g4)]; rfl
    · have hbb : b2 ≠ b := by omega
      have hne2 : ((L.take j).map qP).length ≠ 0 := by simpa using hne
      have hfl := fl_len (f := pfC) (n := 18) (l := (L.take j).map qP) fun p hp => pfC_len (hx2 p hp)
      have hfs : ((L.take j).map qP ++ [q]).flatMap pfC = ((L.take j).map qP).flatMap pfC ++ pfC q := by rw [List.flatMap_append, List.flatMap_singleton]
      have xb := bx_pack hXb
      have yb := bx_pack hX2
      replace hnx : Hid _ := hnx
      obtain ⟨cs, hcs⟩ : ∃ cs, ((L.take j).map qP).flatMap pfC = cs := ⟨_, rfl⟩
      rw [hcs] at hfl hfs hX2 yb
      rw [hjl] at *
      have g1 := hg (.view b2 0 j 18 false)
      have g2 := hdr (.view b2 0 j 18 false)
      have g3 := hDl (.view b2 0 j 18 false)
      have g4 := fun w => hst (.view b2 0 j 18 false) w
      obtain ⟨D1, hD1⟩ : ∃ D1, D (.view b2 0 j 18 false) = D1 := ⟨_, rfl⟩
      rw [hD1] at g1 g2 g3 hXb
      simp only [hD1] at g4 xb
      replace g4 : Hid _ := g4
      obtain ⟨X2, hX2e⟩ : ∃ X2, X.set b2 ⟨cs ++ pfC q, true⟩ = X2 := ⟨_, rfl⟩
      have hX2b : X2[b]? = some ⟨D1, false⟩ := by rw [← hX2e, List.getElem?_set_ne hbb]; exact hXb
      have hX2l : X2.length = X.length := by rw [← hX2e, List.length_set]
      have zb := bx_pack hX2b
      have h1 : ∀ y G, ∀ k, k < W.length → k ≠ b → (X2.set b y ++ G)[k]? = W[k]? := fun y G k h1 h2 => by rw [List.getElem?_append_left (by rw [List.length_set]; omega), List.getElem?_set_ne (Ne.symm h2), ← hX2e, List.getElem?_set_ne (by omega), hk k h1 h2]
      have h2 : ∀ y G, (X2.set b y ++ G)[b2]? = some ⟨cs ++ pfC q, true⟩ := fun y G => by
        have hl2 := (List.getElem?_eq_some_iff.1 hX2).1
        rw [List.getElem?_append_left (by rw [List.length_set]; omega), List.getElem?_set_ne (Ne.symm hbb), ← hX2e, List.getElem?_set_self hl2]
      replace h1 : Hid _ := h1
      replace h2 : Hid _ := h2
      replace hX2l : Hid _ := hX2l
      clear hk2
      replace hfs : Hid _ := hfs
      replace hbl : Hid _ := hbl
      replace hne : Hid _ := hne
      clear hg hdr hDl hst hk hqx hcs hjl hal
      cases m
      all_goals
        repeat' (first | (with_reducible first | apply jA | apply jB | apply jC | apply jD | apply jE | apply jF | apply jG | apply jH | apply jI | apply jJ | apply jK | apply jL | apply jM | apply jN | apply jO) | ((with_reducible first | apply jP | apply jQ); rfl) | ((first | ((with_reducible first | apply jR | apply jS | apply jT); rfl; rfl) | (with_reducible first | apply jU | apply jV | apply jW) | ((with_reducible first | apply jX | apply jY | apply jZ); rfl) | ((with_reducible first | apply kA | apply kB | apply kC); rfl)); all_goals (first | ((with_reducible show Is _ _); exact kE) | ((with_reducible refine fun (hc : (_ : Bool) = _) => ?_); (try simp only [xZ, xY, xP, reduceCtorEq] at hc); (try (have hx : True := hc; clear hx hc)); (try exact kX)) | ((with_reducible show ACall _ _ _ _ _); (first | ((with_reducible apply htr) <;> exact kD) | ((with_reducible apply hq) <;> exact kD) | ((with_reducible apply hrq) <;> exact kD))) | ((fail_if_success (with_reducible first | show Is _ _ | show ACall _ _ _ _ _)); (try ((with_reducible show _ ∨ _); exact kT))))))
        refine ⟨⟨j + 1, .view b2 0 (j + 1) 18 false, by omega, by (simp (disch := omega) [go_sem, *]) <;> (try omega), by (simp (disch := omega) [go_sem, *]) <;> (try omega), by (simp (disch := omega) [go_sem, *]) <;> (try omega), by (simp (disch := omega) [go_sem, *]) <;> (try omega), by (simp (disch := omega) [go_sem, *]) <;> (try omega), by rw [show (L.take (j + 1)).map qP = (L.take j).map qP ++ [q] from hnx]; exact .inr ⟨b2, true, hb2, by simp, by rw [List.length_append]; (simp (disch := omega) [go_sem, *]) <;> (try omega), by rw [show ((L.take j).map qP ++ [q]).flatMap pfC = _ from hfs]; exact (show ∀ y G, (X2.set b y ++ G)[b2]? = some ⟨cs ++ pfC q, true⟩ from h2) _ _⟩, ?_, (show ∀ y G, ∀ k, k < W.length → k ≠ b → (X2.set b y ++ G)[k]? = W[k]? from h1) _ _, by rw [List.length_append, List.length_set, show X2.length = X.length from hX2l]; omega⟩, by (simp (disch := omega) [go_sem, *]) <;> (try omega)⟩
        rw [zb.2.2.2.1, ← (show ∀ w, _ = D w from g4)]; rfl
  · obtain rfl : j = L.length := by omega
    rw [List.take_length] at hgr
    replace hk : Hid _ := hk
    repeat' (first | (with_reducible first | apply jA | apply jB | apply jC | apply jD | apply jE | apply jF | apply jG | apply jH | apply jI | apply jJ | apply jK | apply jL | apply jM | apply jN | apply jO) | ((with_reducible first | apply jP | apply jQ); rfl) | ((first | ((with_reducible first | apply jR | apply jS | apply jT); rfl; rfl) | (with_reducible first | apply jU | apply jV | apply jW) | ((with_reducible first | apply jX | apply jY | apply jZ); rfl)); all_goals (first | ((with_reducible show Is _ _); exact kE) | ((with_reducible refine fun (hc : (_ : Bool) = _) => ?_); (try simp only [xZ, xY, xP, reduceCtorEq] at hc); (try (have hx : True := hc; clear hx hc)); (try exact kX)) | ((fail_if_success (with_reducible first | show Is _ _ | show ACall _ _ _ _ _)); (try ((with_reducible show _ ∨ _); exact kT))))))
    exact ⟨rfl, av, hgr, hXb, hk, hl⟩
end
end Go.Proofs.YtdceppjoipoohaaGreatDoor
end
section
namespace Go.Proofs.YtdceppjoipoohaaGreatDoor
open Go Go.Sy
set_option linter.all false
set_option maxRecDepth 100000
set_option maxHeartbeats 4000000
def StrB (y : Box) : Prop := ∃ s cs, y.cells = .str s :: cs
def PeersW (o : Nat) (W : List Box) (c : CV) (ps : List Pe) : Prop := (ps = [] ∧ c = .nilS) ∨ ∃ (b cap : Nat) (Q : List (Pe × CV)) (E : List CV), o ≤ b ∧ Q.map (·.1) = ps ∧ Q ≠ [] ∧ c = .cview b 0 ps.length cap 85 ∧ ps.length ≤ cap ∧ E.length = (cap - ps.length) * 85 ∧ W[b]? = some ⟨Q.flatMap pqC ++ E, false⟩ ∧ ∀ q ∈ Q, PeL q.1 ∧ GrowX o q.2 W q.1.2.2.2.2.2
def NmsW (o : Nat) (W : List Box) (c : CV) (nm : List (List UInt8)) : Prop := (nm = [] ∧ c = .nilS) ∨ ∃ g m, o ≤ g ∧ nm ≠ [] ∧ c = .view g 0 nm.length 1 false ∧ W[g]? = some ⟨nm.map .str, m⟩
def PStW (β : Nat) (S : Ps) (n : Int) (W : List Box) : Prop := ∃ pe nc, W[β]? = some (pz S.K S.port pe n nc S.st) ∧ S.K.length = 32 ∧ PeersW (β + 1) W pe S.ps ∧ NmsW (β + 1) W nc S.nm
theorem pe_first {q : Pe × CV} (h : PeL q.1) : ∃ x cs, pqC q = byteC x :: cs := by
  have h1 := h.1
  cases hc : q.1.1 with
  | nil => rw [hc] at h1; cases h1
  | cons x xs => exact ⟨x, _, by simp [pqC, peX_eq, hc]; rfl⟩
theorem row_first {Q : List (Pe × CV)} {E : List CV} (hQ : Q ≠ []) (h : ∀ q ∈ Q, PeL q.1) : ∃ x cs, Q.flatMap pqC ++ E = byteC x :: cs := by
  cases Q with
  | nil => exact absurd rfl hQ
  | cons q Q =>
    obtain ⟨x, cs, hx⟩ := pe_first (h q (by simp))
    exact ⟨x, cs ++ (Q.flatMap pqC ++ E), by rw [List.flatMap_cons, hx]; simp⟩
theorem alw_first {al : List Pf} (h : al ≠ []) : ∃ x cs, al.flatMap pfC = .bool x :: cs := by
  cases al with
  | nil => exact absurd rfl h
  | cons q al => exact ⟨q.1.1, _, by rw [List.flatMap_cons, pfC, List.cons_append, List.cons_append]⟩
theorem PeersW.keep {o : Nat} {c : CV} {W W' : List Box} {ps : List Pe} (h : PeersW o W c ps) (hk : ∀ i y, o ≤ i → W[i]? = some y → ¬ StrB y → W'[i]? = some y) : PeersW o W' c ps := by
  rcases h with h | ⟨b, cap, Q, E, h1, h2, h3, h4, h5, h6, h7, h8⟩
  · exact .inl h
  · refine .inr ⟨b, cap, Q, E, h1, h2, h3, h4, h5, h6, hk _ _ h1 h7 ?_, fun q hq => ⟨(h8 q hq).1, ?_⟩⟩
    · rintro ⟨s, cs, hs⟩
      obtain ⟨x, cs', hx⟩ := row_first (E := E) h3 fun q hq => (h8 q hq).1
      rw [show (⟨Q.flatMap pqC ++ E, false⟩ : Box).cells = Q.flatMap pqC ++ E from rfl, hx] at hs
      cases hs
    · refine (h8 q hq).2.keep fun i m g1 g2 g3 => ?_
      rw [hk i _ g1 g3, g3]
      rintro ⟨s, cs, hs⟩
      obtain ⟨x, cs', hx⟩ := alw_first g2
      rw [hx] at hs
      cases hs
theorem NmsW.keep {o : Nat} {c : CV} {W W' : List Box} {nm : List (List UInt8)} (h : NmsW o W c nm) (hk : ∀ i y, o ≤ i → W[i]? = some y → StrB y → W'[i]? = some y) : NmsW o W' c nm := by
  rcases h with h | ⟨g, m, h1, h2, h3, h4⟩
  · exact .inl h
  · refine .inr ⟨g, m, h1, h2, h3, hk _ _ h1 h4 ?_⟩
    cases nm with
    | nil => exact absurd rfl h2
    | cons x l => exact ⟨x, _, rfl⟩
theorem keep_set {β : Nat} {W : List Box} (y : Box) (G : List Box) {i : Nat} {z : Box} (h : β + 1 ≤ i) (hz : W[i]? = some z) : (W.set β y ++ G)[i]? = some z := by
  rw [List.getElem?_append_left (by rw [List.length_set]; exact (List.getElem?_eq_some_iff.1 hz).1), List.getElem?_set_ne (by omega), hz]
theorem PStW.own {β : Nat} {S S' : Ps} {n n' : Int} {W : List Box} {pe nc : CV} (hB : W[β]? = some (pz S.K S.port pe n nc S.st)) (hp : PeersW (β + 1) W pe S.ps) (hn : NmsW (β + 1) W nc S.nm) (hK : S'.K.length = 32) (h1 : S'.ps = S.ps) (h2 : S'.nm = S.nm) (G : List Box) :
    PStW β S' n' (W.set β (pz S'.K S'.port pe n' nc S'.st) ++ G) :=
  ⟨pe, nc, by rw [List.getElem?_append_left (by rw [List.length_set]; exact (List.getElem?_eq_some_iff.1 hB).1), List.getElem?_set_self (List.getElem?_eq_some_iff.1 hB).1], hK, by rw [h1]; exact hp.keep fun i y a b _ => keep_set _ _ a b, by rw [h2]; exact hn.keep fun i y a b _ => keep_set _ _ a b⟩
theorem low_set {β : Nat} {W : List Box} (y : Box) (G : List Box) (h : β < W.length) : ∀ i, i < β → (W.set β y ++ G)[i]? = W[i]? := fun i hi => by
  rw [List.getElem?_append_left (by rw [List.length_set]; omega), List.getElem?_set_ne (by omega)]
theorem peer_at {W : List Box} {β b o lo : Nat} {args : List CV} {A E : List CV} {p p' : Pe} {av : CV} {x t : List UInt8} (ha : Is args [.ptr β 0, .ptr b o, .str x, .str t]) (hB : W[b]? = some ⟨A ++ (peX p av ++ E), false⟩) (hA : A.length = o) (hp : PeL p) (hg : GrowX lo av W p.2.2.2.2.2) (ht : t.length < 1000000) (hlo : lo ≤ W.length)
    (hne : ∀ i m, p.2.2.2.2.2 ≠ [] → W[i]? = some ⟨p.2.2.2.2.2.flatMap pfC, m⟩ → i ≠ b) (hv : ValP p x t p') :
    ACall Tryz.prog 88 args W fun c W' => c = .tup [] ∧ ∃ av', PeL p' ∧ GrowX lo av' W' p'.2.2.2.2.2 ∧ W'[b]? = some ⟨A ++ (peX p' av' ++ E), false⟩ ∧ (∀ k, k < W.length → k ≠ b → W'[k]? = W[k]?) := by
  have hbl := (List.getElem?_eq_some_iff.1 hB).1
  have key : ∀ (p' : Pe) (W' : List Box) (G : List Box), PeL p' → p'.2.2.2.2.2 = p.2.2.2.2.2 → W' = W.set b ⟨A ++ (peX p' av ++ E), false⟩ ++ G → ∃ av', PeL p' ∧ GrowX lo av' W' p'.2.2.2.2.2 ∧ W'[b]? = some ⟨A ++ (peX p' av' ++ E), false⟩ ∧ (∀ k, k < W.length → k ≠ b → W'[k]? = W[k]?) := by
    intro p' W' G h1 h2 hW
    have hk : ∀ k, k < W.length → k ≠ b → W'[k]? = W[k]? := fun k k1 k2 => by rw [hW, List.getElem?_append_left (by rw [List.length_set]; omega), List.getElem?_set_ne (Ne.symm k2)]
    refine ⟨av, h1, ?_, by rw [hW, List.getElem?_append_left (by rw [List.length_set]; omega), List.getElem?_set_self hbl], hk⟩
    rw [h2]
    exact hg.keep fun i m g1 g2 g3 => hk i (List.getElem?_eq_some_iff.1 g3).1 (hne i m g2 g3)
  cases hv with
  | pub h hl => exact (peer_pub ha hB hA hp (by omega) h hl).mono fun c W' ⟨hc, hW⟩ => ⟨hc, key _ W' _ ⟨hl, hp.2⟩ rfl hW⟩
  | shared h hl => exact (peer_shared ha hB hA hp (by omega) h hl).mono fun c W' ⟨hc, hW⟩ => ⟨hc, key _ W' _ ⟨hp.1, hl, hp.2.2⟩ rfl hW⟩
  | endp h hx => exact (peer_end ha hB hA hp (by omega) h hx).mono fun c W' ⟨hc, hW⟩ => ⟨hc, key _ W' _ ⟨hp.1, hp.2.1, hx, hp.2.2.2⟩ rfl hW⟩
  | keep h hv => exact (peer_keep ha hB hA hp (by omega) h hv).mono fun c W' ⟨hc, hW⟩ => ⟨hc, key _ W' [] ⟨hp.1, hp.2.1, hp.2.2.1, by simp only; omega, hp.2.2.2.2⟩ rfl (by rw [List.append_nil]; exact hW)⟩
  | @allow _ L h0 h hx =>
    obtain rfl : av = .nilS := by
      rcases hg with ⟨_, h⟩ | ⟨_, _, _, h, _⟩
      · exact h
      · exact absurd h0 h
    exact (peer_allow ha hB hA hp ht h0 h hx).mono fun c W' ⟨hc, av', g1, g2, g3, g4⟩ => ⟨hc, av', ⟨hp.1, hp.2.1, hp.2.2.1, hp.2.2.2.1, fun q hq => by
      obtain ⟨z, hz, rfl⟩ := List.mem_map.1 hq
      exact hx z hz⟩, g1.low hlo, g2, g3⟩
end Go.Proofs.YtdceppjoipoohaaGreatDoor
end
section
namespace Go.Proofs.YtdceppjoipoohaaGreatDoor
open Go Go.Sy
set_option linter.all false
set_option maxRecDepth 100000
set_option maxHeartbeats 4000000
theorem kE_WC0 {α : Type} {x y : α} (h : Is x y := by first | ((try simp (disch := first | omega | (simp only [yZ, yB] <;> omega) | fail) [go_sem, yY, *, bx_get0, bx_get, if_pos, if_neg, -List.map_take, -List.map_drop, -List.map_append, -List.map_reverse]); exact rfl) | fail) : Is x y := h
theorem kD_WC0 {p : Prop} (h : p := by (first | omega | assumption | exact rfl | ((simp (disch := first | omega | (simp only [yZ, yB] <;> omega) | fail) [go_sem, yY, *, bx_get0, bx_get, -List.map_take, -List.map_drop, -List.map_append, -List.map_reverse]) <;> (first | done | omega | exact rfl)) | fail)) : p := h
theorem kE_WC1 {α : Type} {x y : α} (h : Is x y := by first | ((try simp (disch := first | omega | (simp only [yZ, yB] <;> omega) | fail) [go_sem, yY, *, bx_get0, bx_get, bx_set0, bx_set, if_pos, if_neg, -List.map_take, -List.map_drop, -List.map_append, -List.map_reverse]); exact rfl) | fail) : Is x y := h
theorem kD_WC1 {p : Prop} (h : p := by (first | omega | assumption | exact rfl | ((simp (disch := first | omega | (simp only [yZ, yB] <;> omega) | fail) [go_sem, yY, *, bx_get0, bx_get, bx_set0, bx_set, -List.map_take, -List.map_drop, -List.map_append, -List.map_reverse]) <;> (first | done | omega | exact rfl)) | fail)) : p := h
theorem value_at {W : List Box} {β : Nat} {args : List CV} {K : List UInt8} {port n : Int} {ps : List Pe} {p p' : Pe} {nm : List (List UInt8)} {x T : List UInt8} (ha : Is args [.ptr β 0, .str x, .str T]) (h : PStW β ⟨K, port, ps ++ [p], nm, true⟩ n W) (hps : ps.length ≤ 9) (hT : T.length < 1000000) (hv : ValP p x T p') :
    ACall Tryz.prog 59 args W fun c W' => c = .tup [] ∧ PStW β ⟨K, port, ps ++ [p'], nm, true⟩ n W' ∧ ∀ i, i < β → W'[i]? = W[i]? := by
  have ha : args = _ := ha
  subst ha
  obtain ⟨pe, nc, hB, hK, hp, hn⟩ := h
  dsimp only at hB hK hp hn
  rcases hp with ⟨h0, _⟩ | ⟨b, cap, Q, E, h1, h2, h3, rfl, h5, h6, h7, h8⟩
  · simp at h0
  obtain ⟨Q0, q, rfl⟩ : ∃ Q0 q, Q = Q0 ++ [q] := ⟨Q.dropLast, Q.getLast h3, (List.dropLast_concat_getLast h3).symm⟩
  rw [List.map_append, List.map_singleton] at h2
  obtain ⟨e1, e2⟩ := List.append_inj' h2 rfl
  obtain ⟨p0, av⟩ := q
  obtain rfl : p0 = p := by simpa using e2
  have hq := h8 (p0, av) (by simp)
  have hbβ : b ≠ β := by omega
  have hl0 : Q0.length = ps.length := by rw [← e1, List.length_map]
  have hAl : (Q0.flatMap pqC).length = ps.length * 85 := by rw [← hl0]; exact fl_len fun q hq => peX_len (h8 q (by simp [hq])).1 _
  have hrow : W[b]? = some ⟨Q0.flatMap pqC ++ (peX p0 av ++ E), false⟩ := by
    rw [h7, List.flatMap_append, List.flatMap_singleton, List.append_assoc]; rfl
  obtain ⟨y, ys, hy⟩ := row_first (Q := Q0 ++ [(p0, av)]) (E := E) h3 fun q hq => (h8 q hq).1
  have halw : ∀ {al : List Pf} {i : Nat} {m : Bool}, al ≠ [] → W[i]? = some ⟨al.flatMap pfC, m⟩ → i ≠ b := by
    rintro al i m g1 g2 rfl
    obtain ⟨z, zs, hz⟩ := alw_first g1
    rw [h7, hy, hz] at g2
    simp [byteC] at g2
  have hpe : ∀ args, Is args [.ptr β 0, .ptr b (ps.length * 85), .str x, .str T] → ACall Tryz.prog 88 args W fun c W' => c = .tup [] ∧ ∃ av', PeL p' ∧ GrowX (β + 1) av' W' p'.2.2.2.2.2 ∧ W'[b]? = some ⟨Q0.flatMap pqC ++ (peX p' av' ++ E), false⟩ ∧ (∀ k, k < W.length → k ≠ b → W'[k]? = W[k]?) :=
    fun args ha => peer_at ha hrow hAl hq.1 hq.2 hT (by have := (List.getElem?_eq_some_iff.1 hB).1; omega) (fun i m g1 g2 => halw g1 g2) hv
  have hfin : ∀ W', (∃ av', PeL p' ∧ GrowX (β + 1) av' W' p'.2.2.2.2.2 ∧ W'[b]? = some ⟨Q0.flatMap pqC ++ (peX p' av' ++ E), false⟩ ∧ (∀ k, k < W.length → k ≠ b → W'[k]? = W[k]?)) → PStW β ⟨K, port, ps ++ [p'], nm, true⟩ n W' ∧ ∀ i, i < β → W'[i]? = W[i]? := by
    rintro W' ⟨av', k1, k2, k3, k4⟩
    have hβl := (List.getElem?_eq_some_iff.1 hB).1
    refine ⟨⟨_, _, by rw [k4 β hβl (by omega)]; exact hB, hK, .inr ⟨b, cap, Q0 ++ [(p', av')], E, h1, by rw [List.map_append, e1]; rfl, by simp, by simp, by simpa using h5, by simpa using h6, by rw [k3, List.flatMap_append, List.flatMap_singleton, List.append_assoc]; rfl, fun q hq => ?_⟩, hn.keep fun i y a c d => ?_⟩, fun i hi => k4 i (by omega) (by omega)⟩
    · rcases List.mem_append.1 hq with hq | hq
      · have := h8 q (by simp [hq])
        exact ⟨this.1, this.2.keep fun i m g1 g2 g3 => k4 i (List.getElem?_eq_some_iff.1 g3).1 (halw g2 g3)⟩
      · rw [List.mem_singleton.1 hq]; exact ⟨k1, k2⟩
    · rw [k4 i (List.getElem?_eq_some_iff.1 c).1 ?_, c]
      rintro rfl
      rw [h7, hy] at c
      obtain ⟨s, cs, hs⟩ := d
      rw [← Option.some.inj c] at hs
      simp [byteC] at hs
  have hlen : (ps ++ [p0]).length = ps.length + 1 := by simp
  rw [hlen] at *
  have hwr : IntKind.i64.wrap (((ps.length + 1 : Nat) : Int) - 1) = (ps.length : Nat) := by rw [wi64 ⟨by omega, by omega⟩]; omega
  have hw2 : IntKind.i64.wrap ((ps.length : Int) + 1 - 1) = (ps.length : Nat) := by rw [wi64 ⟨by omega, by omega⟩]; omega
  replace hfin : Hid _ := hfin
  rw [pz] at hB
  have xb := bx_pack hB
  have yb := bx_pack hrow
  clear hn h8 h7 halw hy e1 h2 e2 hq h3
  refine acall_intro mixed Tryz.func59 rfl ca59 (by kernel_rfl) (by rw [Tryz.ntmps59]; simp) ?_
  repeat' (first | (with_reducible first | apply jA | apply jB | apply jC | apply jD | apply jE | apply jF | apply jG | apply jH | apply jI | apply jJ | apply jK | apply jL | apply jM | apply jN | apply jO) | ((with_reducible first | apply jP | apply jQ); rfl) | ((first | ((with_reducible first | apply jR | apply jS | apply jT); rfl; rfl) | (with_reducible first | apply jU | apply jV | apply jW) | ((with_reducible first | apply jX | apply jY | apply jZ); rfl)); all_goals (first | ((with_reducible show Is _ _); exact kE_WC0) | ((with_reducible refine fun (hc : (_ : Bool) = _) => ?_); (try simp only [xZ, xY, xP, reduceCtorEq] at hc); (try (have hx : True := hc; clear hx hc)); (try exact kX)) | ((fail_if_success (with_reducible first | show Is _ _ | show ACall _ _ _ _ _)); (try ((with_reducible show _ ∨ _); exact kT))))) | (((with_reducible first | apply o_callQ | apply q_callQ); rfl); (iterate 2 exact kE_WC0); (first | ((with_reducible apply hpe) <;> exact kD_WC0))))
  rintro c W' ⟨rfl, hW⟩
  have hf := (show ∀ W', _ → _ from hfin) W' hW
  clear hfin hW hpe xb yb hB hrow
  replace hf : Hid _ := hf
  repeat' (first | (with_reducible first | apply jA | apply jB | apply jC | apply jD | apply jE | apply jF | apply jG | apply jH | apply jI | apply jJ | apply jK | apply jL | apply jM | apply jN | apply jO) | ((with_reducible first | apply jP | apply jQ); rfl) | ((first | ((with_reducible first | apply jR | apply jS | apply jT); rfl; rfl) | (with_reducible first | apply jU | apply jV | apply jW) | ((with_reducible first | apply jX | apply jY | apply jZ); rfl)); all_goals (first | ((with_reducible show Is _ _); exact kE) | ((with_reducible refine fun (hc : (_ : Bool) = _) => ?_); (try simp only [xZ, xY, xP, reduceCtorEq] at hc); (try (have hx : True := hc; clear hx hc)); (try exact kX)) | ((fail_if_success (with_reducible first | show Is _ _ | show ACall _ _ _ _ _)); (try ((with_reducible show _ ∨ _); exact kT))))))
  exact ⟨rfl, hf⟩
theorem peers_nil {o : Nat} {W : List Box} {c : CV} (h : PeersW o W c []) : c = .nilS := by
  rcases h with ⟨_, h⟩ | ⟨b, cap, Q, E, _, h, h2, _⟩
  · exact h
  · simp at h; exact absurd h h2
theorem value_priv {W : List Box} {β : Nat} {args : List CV} {K K' : List UInt8} {port n : Int} {nm : List (List UInt8)} {T : List UInt8} (ha : Is args [.ptr β 0, .str sPriv, .str T]) (h : PStW β ⟨K, port, [], nm, true⟩ n W) (hT : T.length < 1000000) (hk : unkey T = some K') (hl : K'.length = 32) :
    ACall Tryz.prog 59 args W fun c W' => c = .tup [] ∧ PStW β ⟨K', port, [], nm, true⟩ n W' ∧ ∀ i, i < β → W'[i]? = W[i]? := by
  obtain ⟨pe, nc, hB, hK, hp, hn⟩ := h
  obtain rfl := peers_nil hp
  refine (valueK_at ha hB hK (by omega) hk hl).mono fun c W' ⟨hc, hW⟩ => ?_
  rw [hW]
  exact ⟨hc, PStW.own (S := ⟨K, port, [], nm, true⟩) (S' := ⟨K', port, [], nm, true⟩) hB hp hn hl rfl rfl _, low_set _ _ (List.getElem?_eq_some_iff.1 hB).1⟩
theorem value_port {W : List Box} {β : Nat} {args : List CV} {K : List UInt8} {port n : Int} {nm : List (List UInt8)} {T : List UInt8} (ha : Is args [.ptr β 0, .str sPort, .str T]) (h : PStW β ⟨K, port, [], nm, true⟩ n W) (hT : T.length < 1000000) (hd : decOk 10 T = true) (hv : decV T ≤ 9999999999) :
    ACall Tryz.prog 59 args W fun c W' => c = .tup [] ∧ PStW β ⟨K, (decV T : Int), [], nm, true⟩ n W' ∧ ∀ i, i < β → W'[i]? = W[i]? := by
  obtain ⟨pe, nc, hB, hK, hp, hn⟩ := h
  obtain rfl := peers_nil hp
  refine (valueP_at ha hB hK (by omega) hd hv).mono fun c W' ⟨hc, hW⟩ => ?_
  have h1 := PStW.own (S := ⟨K, port, [], nm, true⟩) (S' := ⟨K, (decV T : Int), [], nm, true⟩) (n' := n) hB hp hn hK rfl rfl []
  have h2 := low_set (pz K (decV T : Int) .nilS n nc true) [] (List.getElem?_eq_some_iff.1 hB).1
  rw [List.append_nil] at h1 h2
  rw [hW]
  exact ⟨hc, h1, h2⟩
theorem contains_of {nm : List (List UInt8)} {x : List UInt8} {b : Bool} (hb : decide (x ∈ nm) = b) (hl : nm.length < 1000000) {cs : List CV} (hcs : cs = nm.map .str) : ∀ {B : List Box} {args : List CV}, Is (omap (Go.Sy.fz true false B 6) args) (some [.lst nm.length cs false, .str x]) → ACall Tryz.prog 58 args B fun c B' => c = .bool b ∧ B' = B := fun h => by
  subst hcs
  exact containsS_at h rfl hb hl
theorem closeG_at {B : List Box} {args : List CV} {β γ : Nat} {K : List UInt8} {port n : Int} {nm : List (List UInt8)} {m : Bool} {pe : CV} (ha : Is args [.ptr β 0]) (hB : B[β]? = some (pz K port pe n (.view γ 0 nm.length 1 false) true)) (hγ : B[γ]? = some ⟨nm.map .str, m⟩) (hK : K.length = 32) (hm : nm.length ≤ 9)
    (hc : (pe = .nilS ∧ sPriv ∈ nm ∧ sPort ∈ nm) ∨ (∃ b np cap, pe = .cview b 0 (np + 1) cap 85 ∧ sPub ∈ nm)) : ACall Tryz.prog 35 args B fun c B' => c = .tup [] ∧ B' = B.set β (pz K port pe n .nilS true) := by
  have ha : args = _ := ha
  subst ha
  obtain ⟨cs, hcs⟩ : ∃ cs, cs = nm.map CV.str := ⟨_, rfl⟩
  have hom : ∀ {B : List Box} {k : Nat}, omap (Go.Sy.fz true false B (k + 1)) cs = some cs := by
    intro B k; rw [hcs]; exact omap_strs _
  have htk : cs.take nm.length = cs := List.take_of_length_le (by rw [hcs, List.length_map]; exact Nat.le_refl _)
  have hrq : ∀ {B : List Box} {args : List CV}, Is args [.ptr β 0, .bool true] → ACall Tryz.prog 57 args B fun c B' => c = .tup [] ∧ B' = B := require_at
  rw [pz] at hB
  rw [← hcs] at hγ
  obtain ⟨p1, p2, p3, p4, p5, p6, p7, p8, p9, p10, p11, p12, p13⟩ := bx_pack hB
  obtain ⟨q1, q2, q3, q4, q5, q6, q7, q8, q9, q10, q11, q12, q13⟩ := bx_pack hγ
  rcases hc with ⟨rfl, h1, h2⟩ | ⟨b, np, cap, rfl, h1⟩
  · have k1 := @contains_of nm sPriv true (decide_eq_true h1) (by omega) cs hcs
    have k2 := @contains_of nm sPort true (decide_eq_true h2) (by omega) cs hcs
    rw [sPriv] at k1
    rw [sPort] at k2
    clear h1 h2 hcs
    generalize nm.length = z at *
    refine acall_intro mixed Tryz.func35 rfl ca35 (by kernel_rfl) (by rw [Tryz.ntmps35]; simp) ?_
    repeat' (first | (with_reducible first | apply jA | apply jB | apply jC | apply jD | apply jE | apply jF | apply jG | apply jH | apply jI | apply jJ | apply jK | apply jL | apply jM | apply jN | apply jO) | ((with_reducible first | apply jP | apply jQ); rfl) | ((first | ((with_reducible first | apply jR | apply jS | apply jT); rfl; rfl) | (with_reducible first | apply jU | apply jV | apply jW) | ((with_reducible first | apply jX | apply jY | apply jZ); rfl) | ((with_reducible first | apply kA | apply kB | apply kC); rfl)); all_goals (first | ((with_reducible show Is _ _); exact kE_WC1) | ((with_reducible refine fun (hc : (_ : Bool) = _) => ?_); (try simp only [xZ, xY, xP, reduceCtorEq] at hc); (try (have hx : True := hc; clear hx hc)); (try exact kX)) | ((with_reducible show ACall _ _ _ _ _); (first | ((with_reducible apply k1) <;> exact kD_WC1) | ((with_reducible apply k2) <;> exact kD_WC1) | ((with_reducible apply hrq) <;> exact kD_WC1))) | ((fail_if_success (with_reducible first | show Is _ _ | show ACall _ _ _ _ _)); (try ((with_reducible show _ ∨ _); exact kT))))))
    exact ⟨rfl, rfl⟩
  · have k1 := @contains_of nm sPub true (decide_eq_true h1) (by omega) cs hcs
    rw [sPub] at k1
    clear h1 hcs
    generalize nm.length = z at *
    refine acall_intro mixed Tryz.func35 rfl ca35 (by kernel_rfl) (by rw [Tryz.ntmps35]; simp) ?_
    repeat' (first | (with_reducible first | apply jA | apply jB | apply jC | apply jD | apply jE | apply jF | apply jG | apply jH | apply jI | apply jJ | apply jK | apply jL | apply jM | apply jN | apply jO) | ((with_reducible first | apply jP | apply jQ); rfl) | ((first | ((with_reducible first | apply jR | apply jS | apply jT); rfl; rfl) | (with_reducible first | apply jU | apply jV | apply jW) | ((with_reducible first | apply jX | apply jY | apply jZ); rfl) | ((with_reducible first | apply kA | apply kB | apply kC); rfl)); all_goals (first | ((with_reducible show Is _ _); exact kE_WC1) | ((with_reducible refine fun (hc : (_ : Bool) = _) => ?_); (try simp only [xZ, xY, xP, reduceCtorEq] at hc); (try (have hx : True := hc; clear hx hc)); (try exact kX)) | ((with_reducible show ACall _ _ _ _ _); (first | ((with_reducible apply k1) <;> exact kD_WC1) | ((with_reducible apply hrq) <;> exact kD_WC1))) | ((fail_if_success (with_reducible first | show Is _ _ | show ACall _ _ _ _ _)); (try ((with_reducible show _ ∨ _); exact kT))))))
    exact ⟨rfl, rfl⟩
end Go.Proofs.YtdceppjoipoohaaGreatDoor
end
section
namespace Go.Proofs.YtdceppjoipoohaaGreatDoor
open Go Go.Sy
set_option linter.all false
set_option maxRecDepth 100000
set_option maxHeartbeats 4000000
theorem kE_WD0 {α : Type} {x y : α} (h : Is x y := by first | ((try simp (disch := first | omega | (simp only [yZ, yB] <;> omega) | fail) [go_sem, yY, *, sPeer, bx_get0, bx_get, bx_set0, bx_set, if_pos, if_neg, -List.map_take, -List.map_drop, -List.map_append, -List.map_reverse]); exact rfl) | fail) : Is x y := h
theorem kD_WD0 {p : Prop} (h : p := by (first | omega | assumption | exact rfl | ((simp (disch := first | omega | (simp only [yZ, yB] <;> omega) | fail) [go_sem, yY, *, sPeer, bx_get0, bx_get, bx_set0, bx_set, -List.map_take, -List.map_drop, -List.map_append, -List.map_reverse]) <;> (first | done | omega | exact rfl)) | fail)) : p := h
theorem kE_WD1 {α : Type} {x y : α} (h : Is x y := by first | ((try simp (disch := first | omega | (simp only [yZ, yB] <;> omega) | fail) [go_sem, yY, *, bx_get0, bx_get, bx_set0, bx_set, if_pos, if_neg, -List.map_take, -List.map_drop, -List.map_append, -List.map_reverse]); exact rfl) | fail) : Is x y := h
theorem kD_WD1 {p : Prop} (h : p := by (first | omega | assumption | exact rfl | ((simp (disch := first | omega | (simp only [yZ, yB] <;> omega) | fail) [go_sem, yY, *, bx_get0, bx_get, bx_set0, bx_set, -List.map_take, -List.map_drop, -List.map_append, -List.map_reverse]) <;> (first | done | omega | exact rfl)) | fail)) : p := h
theorem readE_at {B : List Box} {args : List CV} {β : Nat} {s : List UInt8} (ha : Is args [.ptr β 0, .str s]) (hs : s.length < 1073741823) (ht : trimT s = []) : ACall Tryz.prog 34 args B fun c B' => c = .tup [] ∧ B' = B := by
  have ha : args = _ := ha
  subst ha
  have htr : ∀ {B : List Box} {args : List CV}, Is (omap (Go.Sy.fz true false B 6) args) (some [.str s, .str [32, 9]]) → ACall Tryz.prog 56 args B fun c B' => c = .str [] ∧ B' = B := fun h => by
    rw [← ht]; exact trim_at h (by omega)
  clear ht
  refine acall_intro mixed Tryz.func34 rfl ca34 (by kernel_rfl) (by rw [Tryz.ntmps34]; simp) ?_
  repeat' (first | (with_reducible first | apply jA | apply jB | apply jC | apply jD | apply jE | apply jF | apply jG | apply jH | apply jI | apply jJ | apply jK | apply jL | apply jM | apply jN | apply jO) | ((with_reducible first | apply jP | apply jQ); rfl) | ((first | ((with_reducible first | apply jR | apply jS | apply jT); rfl; rfl) | (with_reducible first | apply jU | apply jV | apply jW) | ((with_reducible first | apply jX | apply jY | apply jZ); rfl) | ((with_reducible first | apply kA | apply kB | apply kC); rfl)); all_goals (first | ((with_reducible show Is _ _); exact kE) | ((with_reducible refine fun (hc : (_ : Bool) = _) => ?_); (try simp only [xZ, xY, xP, reduceCtorEq] at hc); (try (have hx : True := hc; clear hx hc)); (try exact kX)) | ((with_reducible show ACall _ _ _ _ _); (first | ((with_reducible apply htr) <;> exact kD))) | ((fail_if_success (with_reducible first | show Is _ _ | show ACall _ _ _ _ _)); (try ((with_reducible show _ ∨ _); exact kT))))))
  exact ⟨rfl, rfl⟩
theorem peO_l : PeL peO := ⟨rfl, rfl, ⟨rfl, by decide, by decide⟩, ⟨by decide, by decide⟩, fun q hq => by cases hq⟩
theorem post_new {β : Nat} {W : List Box} {K : List UInt8} {port n : Int} {ps : List Pe} {Q : List (Pe × CV)} {cap : Nat} {Z : List CV} (hβ : β < W.length) (hK : K.length = 32) (hQ : Q.map (·.1) = ps) (h8 : ∀ q ∈ Q, PeL q.1 ∧ GrowX (β + 1) q.2 W q.1.2.2.2.2.2) (hc : ps.length + 1 ≤ cap) (hZ : Z.length = (cap - (ps.length + 1)) * 85) :
    PStW β ⟨K, port, ps ++ [peO], [], true⟩ n (W.set β (pz K port (.cview W.length 0 (ps.length + 1) cap 85) n .nilS true) ++ [⟨Q.flatMap pqC ++ peZ ++ Z, false⟩]) := by
  refine ⟨_, _, by rw [List.getElem?_append_left (by rw [List.length_set]; exact hβ), List.getElem?_set_self hβ], hK, .inr ⟨W.length, cap, Q ++ [(peO, .nilS)], Z, by omega, by rw [List.map_append, hQ]; rfl, by simp, by simp, by simpa using hc, by simpa using hZ, ?_, fun q hq => ?_⟩, .inl ⟨rfl, rfl⟩⟩
  · rw [List.getElem?_append_right (by rw [List.length_set]; omega), List.length_set, Nat.sub_self, List.flatMap_append, List.flatMap_singleton]; rfl
  · rcases List.mem_append.1 hq with hq | hq
    · exact ⟨(h8 q hq).1, (h8 q hq).2.keep fun i m g1 _ g3 => by rw [keep_set _ _ g1 g3, g3]⟩
    · rw [List.mem_singleton.1 hq]; exact ⟨peO_l, .inl ⟨rfl, rfl⟩⟩
theorem post_room {β b : Nat} {W : List Box} {K : List UInt8} {port n : Int} {ps : List Pe} {Q : List (Pe × CV)} {cap : Nat} {E : List CV} {y : Box} (hβ : β < W.length) (hK : K.length = 32) (hb : β + 1 ≤ b) (hQ : Q.map (·.1) = ps) (h3 : Q ≠ []) (h7 : W[b]? = some ⟨Q.flatMap pqC ++ E, false⟩) (h8 : ∀ q ∈ Q, PeL q.1 ∧ GrowX (β + 1) q.2 W q.1.2.2.2.2.2) (hc : ps.length + 1 ≤ cap) (hE : E.length = (cap - ps.length) * 85)
    (hy : y = ⟨splice (Q.flatMap pqC ++ E) (ps.length * 85) peZ, false⟩) : PStW β ⟨K, port, ps ++ [peO], [], true⟩ n ((W.set b y).set β (pz K port (.cview b 0 (ps.length + 1) cap 85) n .nilS true)) := by
  subst hy
  have hbl := (List.getElem?_eq_some_iff.1 h7).1
  have hl : (Q.flatMap pqC).length = ps.length * 85 := by rw [← hQ, List.length_map]; exact fl_len fun q hq => peX_len (h8 q hq).1 _
  have hZl : peZ.length = 85 := rfl
  have hE2 : E.length = 85 + (cap - (ps.length + 1)) * 85 := by rw [hE, show cap - ps.length = (cap - (ps.length + 1)) + 1 by omega, Nat.add_mul]; omega
  obtain ⟨z, zs, hz⟩ := row_first (E := E) h3 fun q hq => (h8 q hq).1
  refine ⟨_, _, List.getElem?_set_self (by rw [List.length_set]; exact hβ), hK, .inr ⟨b, cap, Q ++ [(peO, .nilS)], E.drop 85, hb, by rw [List.map_append, hQ]; rfl, by simp, by simp, by simpa using hc, by rw [List.length_drop]; simp; omega, ?_, fun q hq => ?_⟩, .inl ⟨rfl, rfl⟩⟩
  · rw [List.getElem?_set_ne (by omega), List.getElem?_set_self hbl, splice, ← hl, List.take_left' rfl, hZl, ← List.drop_drop, List.drop_left' rfl, List.flatMap_append, List.flatMap_singleton, List.append_assoc, List.append_assoc]; rfl
  · rcases List.mem_append.1 hq with hq | hq
    · refine ⟨(h8 q hq).1, (h8 q hq).2.keep fun i m g1 g2 g3 => ?_⟩
      have hib : i ≠ b := by
        rintro rfl
        obtain ⟨x, xs, hx⟩ := alw_first g2
        rw [h7, hz, hx] at g3
        simp [byteC] at g3
      rw [List.getElem?_set_ne (by omega), List.getElem?_set_ne (Ne.symm hib)]
    · rw [List.mem_singleton.1 hq]; exact ⟨peO_l, .inl ⟨rfl, rfl⟩⟩
theorem read_peer {W : List Box} {β : Nat} {args : List CV} {K : List UInt8} {port n : Int} {ps : List Pe} {nm : List (List UInt8)} {l : List UInt8} (ha : Is args [.ptr β 0, .str l]) (h : PStW β ⟨K, port, ps, nm, true⟩ n W) (hl : l.length < 1000000) (ht : trimT l = sPeer) (hc : closes ps nm) (hps : ps.length ≤ 9) :
    ACall Tryz.prog 34 args W fun c W' => c = .tup [] ∧ PStW β ⟨K, port, ps ++ [peO], [], true⟩ n W' ∧ ∀ i, i < β → W'[i]? = W[i]? := by
  have ha : args = _ := ha
  subst ha
  obtain ⟨pe, nc, hB, hK, hp, hn⟩ := h
  dsimp only at hB hK hp hn
  obtain ⟨hm, hc⟩ := hc
  rcases hn with ⟨rfl, _⟩ | ⟨γ, m, hγo, hne, rfl, hγ⟩
  · simp at hc
  have hcl : ∀ {args : List CV}, Is args [.ptr β 0] → ACall Tryz.prog 35 args W fun c B' => c = .tup [] ∧ B' = W.set β ⟨K.map byteC ++ [.int .i64 port, pe, .int .i64 n, .nilS, .bool true], false⟩ := fun ha => closeG_at ha hB hγ hK hm (by
    rcases hp with ⟨rfl, rfl⟩ | ⟨b, cap, Q, E, h1, h2, h3, rfl, _⟩
    · simp at hc; exact .inl ⟨rfl, hc⟩
    · have : ps ≠ [] := by rintro rfl; simp at h2; exact h3 h2
      obtain ⟨q, r, rfl⟩ := List.exists_cons_of_ne_nil this
      simp at hc
      exact .inr ⟨b, r.length, cap, rfl, hc⟩)
  have htr : ∀ {B : List Box} {args : List CV}, Is (omap (Go.Sy.fz true false B 6) args) (some [.str l, .str [32, 9]]) → ACall Tryz.prog 56 args B fun c B' => c = .str sPeer ∧ B' = B := fun h => by
    rw [← ht]; exact trim_at h (by omega)
  have hβl := (List.getElem?_eq_some_iff.1 hB).1
  obtain ⟨W1, hW1⟩ : ∃ W1, W.set β ⟨K.map byteC ++ [.int .i64 port, pe, .int .i64 n, .nilS, .bool true], false⟩ = W1 := ⟨_, rfl⟩
  rw [hW1] at hcl
  have hB1 : W1[β]? = some ⟨K.map byteC ++ [.int .i64 port, pe, .int .i64 n, .nilS, .bool true], false⟩ := by rw [← hW1, List.getElem?_set_self hβl]
  have hp1 : PeersW (β + 1) W1 pe ps := by
    rw [← hW1]
    have := hp.keep (W' := W.set β ⟨K.map byteC ++ [.int .i64 port, pe, .int .i64 n, .nilS, .bool true], false⟩ ++ []) fun i y a b _ => keep_set _ _ a b
    rwa [List.append_nil] at this
  have hlow : ∀ i, i < β → W1[i]? = W[i]? := fun i hi => by rw [← hW1, List.getElem?_set_ne (by omega)]
  have xb := bx_pack hB1
  replace hlow : Hid _ := hlow
  replace hp1 : Hid _ := hp1
  replace hc : Hid _ := hc
  clear hW1 hp hγ ht hB hβl hγo hne
  refine acall_intro mixed Tryz.func34 rfl ca34 (by kernel_rfl) (by rw [Tryz.ntmps34]; simp) ?_
  repeat' (first | (with_reducible first | apply jA | apply jB | apply jC | apply jD | apply jE | apply jF | apply jG | apply jH | apply jI | apply jJ | apply jK | apply jL | apply jM | apply jN | apply jO) | ((with_reducible first | apply jP | apply jQ); rfl) | ((first | ((with_reducible first | apply jR | apply jS | apply jT); rfl; rfl) | (with_reducible first | apply jU | apply jV | apply jW) | ((with_reducible first | apply jX | apply jY | apply jZ); rfl) | ((with_reducible first | apply kA | apply kB | apply kC); rfl)); all_goals (first | ((with_reducible show Is _ _); exact kE_WD0) | ((with_reducible refine fun (hc : (_ : Bool) = _) => ?_); (try simp only [xZ, xY, xP, reduceCtorEq] at hc); (try (have hx : True := hc; clear hx hc)); (try exact kX)) | ((with_reducible show ACall _ _ _ _ _); (first | ((with_reducible apply htr) <;> exact kD_WD0) | ((with_reducible apply hcl) <;> exact kD_WD0))) | ((fail_if_success (with_reducible first | show Is _ _ | show ACall _ _ _ _ _)); (try ((with_reducible show _ ∨ _); exact kT))))))
  have hp1 : PeersW (β + 1) W1 pe ps := hp1
  have hlow : ∀ i, i < β → W1[i]? = W[i]? := hlow
  have hβl := (List.getElem?_eq_some_iff.1 hB1).1
  have hlow2 : ∀ y G i, i < β → (W1.set β y ++ G)[i]? = W[i]? := fun y G i hi => by rw [low_set y G hβl i hi, hlow i hi]
  rcases hp1 with ⟨rfl, rfl⟩ | ⟨b, cap, Q, E, h1, h2, h3, rfl, h5, h6, h7, h8⟩
  · refine o_appendG (P := Tryz.prog) (e := 64) (esz := 85) (m := 1) (k := 0) (zs := peZ) (olds := []) (news := peZ) rfl (by (try simp (disch := first | omega | (simp only [yZ, yB] <;> omega) | fail) [go_sem, yY, *, -List.map_take, -List.map_drop, -List.map_append, -List.map_reverse]); exact rfl) (by (try simp (disch := first | omega | (simp only [yZ, yB] <;> omega) | fail) [go_sem, yY, *, -List.map_take, -List.map_drop, -List.map_append, -List.map_reverse]); exact rfl) (by simp (disch := first | omega | (simp only [yZ, yB] <;> omega) | fail) [go_sem, yY, *, -List.map_take, -List.map_drop, -List.map_append, -List.map_reverse]) (by simp (disch := first | omega | (simp only [yZ, yB] <;> omega) | fail) [go_sem, yY, *, -List.map_take, -List.map_drop, -List.map_append, -List.map_reverse]) pe_zo rfl (by decide) ⟨_, by simp (disch := first | omega | (simp only [yZ, yB] <;> omega) | fail) [go_sem, yY, *, -List.map_take, -List.map_drop, -List.map_append, -List.map_reverse]; rfl⟩ (by rfl) (by simp) (by decide) (.inl ⟨rfl, rfl, rfl⟩) (by simp (disch := first | omega | (simp only [yZ, yB] <;> omega) | fail) [go_sem, yY, *, -List.map_take, -List.map_drop, -List.map_append, -List.map_reverse]) (by omega) ?_
    intro cap hcap
    have hf := post_new (β := β) (W := W1) (K := K) (port := port) (n := n) (ps := []) (Q := []) (cap := cap) (Z := repC peZ (cap - 1)) hβl hK rfl (by simp) hcap (by rw [repC_length]; rfl)
    replace hf : Hid _ := hf
    replace hlow2 : Hid _ := hlow2
    replace hβl : Hid _ := hβl
    replace hcap : Hid _ := hcap
    clear hlow
    generalize repC peZ (cap - 1) = Z at *
    repeat' (first | (with_reducible first | apply jA | apply jB | apply jC | apply jD | apply jE | apply jF | apply jG | apply jH | apply jI | apply jJ | apply jK | apply jL | apply jM | apply jN | apply jO) | ((with_reducible first | apply jP | apply jQ); rfl) | ((first | ((with_reducible first | apply jR | apply jS | apply jT); rfl; rfl) | (with_reducible first | apply jU | apply jV | apply jW) | ((with_reducible first | apply jX | apply jY | apply jZ); rfl)); all_goals (first | ((with_reducible show Is _ _); exact kE_WD1) | ((with_reducible refine fun (hc : (_ : Bool) = _) => ?_); (try simp only [xZ, xY, xP, reduceCtorEq] at hc); (try (have hx : True := hc; clear hx hc)); (try exact kX)) | ((fail_if_success (with_reducible first | show Is _ _ | show ACall _ _ _ _ _)); (try ((with_reducible show _ ∨ _); exact kT))))))
    exact ⟨rfl, hf, (show ∀ y G i, i < β → (W1.set β y ++ G)[i]? = W[i]? from hlow2) _ _⟩
  · have hl : (Q.flatMap pqC).length = ps.length * 85 := by rw [← h2, List.length_map]; exact fl_len fun q hq => peX_len (h8 q hq).1 _
    by_cases hcap : ps.length + 1 ≤ cap
    · have hf := fun y => @post_room β b W1 K port n ps Q cap E y hβl hK h1 h2 h3 h7 h8 hcap h6
      have hbβ : b ≠ β := by omega
      have hDl : (Q.flatMap pqC ++ E).length = cap * 85 := by
        rw [List.length_append, hl, h6, ← Nat.add_mul, show ps.length + (cap - ps.length) = cap by omega]
      have hps8 : ps.length ≤ 9 := hps
      have hlow3 : ∀ i y z, i < β → ((W1.set b y).set β z)[i]? = W[i]? := fun i y z hi => by rw [List.getElem?_set_ne (by omega), List.getElem?_set_ne (by omega), hlow i hi]
      have hX2 : ∀ y, (W1.set b y)[β]? = some ⟨K.map byteC ++ [.int .i64 port, .cview b 0 ps.length cap 85, .int .i64 n, .nilS, .bool true], false⟩ := fun y => by rw [List.getElem?_set_ne hbβ]; exact hB1
      generalize hD : Q.flatMap pqC ++ E = D at *
      replace hf : Hid _ := hf
      replace hlow3 : Hid _ := hlow3
      replace hβl : Hid _ := hβl
      clear hlow h8 h3 h5 h6 hlow2 hl hD
      generalize ps.length = np at *
      repeat' (first | (with_reducible first | apply jA | apply jB | apply jC | apply jD | apply jE | apply jF | apply jG | apply jH | apply jI | apply jJ | apply jK | apply jL | apply jM | apply jN | apply jO) | ((with_reducible first | apply jP | apply jQ); rfl) | ((first | ((with_reducible first | apply jR | apply jS | apply jT); rfl; rfl) | (with_reducible first | apply jU | apply jV | apply jW) | ((with_reducible first | apply jX | apply jY | apply jZ); rfl)); all_goals (first | ((with_reducible show Is _ _); exact kE_WD1) | ((with_reducible refine fun (hc : (_ : Bool) = _) => ?_); (try simp only [xZ, xY, xP, reduceCtorEq] at hc); (try (have hx : True := hc; clear hx hc)); (try exact kX)) | ((fail_if_success (with_reducible first | show Is _ _ | show ACall _ _ _ _ _)); (try ((with_reducible show _ ∨ _); exact kT))))))
      exact ⟨rfl, (show ∀ y, _ → _ from hf) _ (by first | rfl | (rw [splice]; rfl) | (rw [splice, List.append_assoc]; rfl)), fun i hi => (show ∀ i y z, i < β → _ from hlow3) i _ _ hi⟩
    · refine o_appendG (P := Tryz.prog) (e := 64) (esz := 85) (m := 1) (k := ps.length) (zs := peZ) (olds := Q.flatMap pqC) (news := peZ) rfl (by (try simp (disch := first | omega | (simp only [yZ, yB] <;> omega) | fail) [go_sem, yY, *, -List.map_take, -List.map_drop, -List.map_append, -List.map_reverse]); exact rfl) (by (try simp (disch := first | omega | (simp only [yZ, yB] <;> omega) | fail) [go_sem, yY, *, -List.map_take, -List.map_drop, -List.map_append, -List.map_reverse]); exact rfl) (by simp (disch := first | omega | (simp only [yZ, yB] <;> omega) | fail) [go_sem, yY, *, -List.map_take, -List.map_drop, -List.map_append, -List.map_reverse]) (by simp (disch := first | omega | (simp only [yZ, yB] <;> omega) | fail) [go_sem, yY, *, -List.map_take, -List.map_drop, -List.map_append, -List.map_reverse]) pe_zo rfl (by decide) ⟨_, by simp (disch := first | omega | (simp only [yZ, yB] <;> omega) | fail) [go_sem, yY, *, -List.map_take, -List.map_drop, -List.map_append, -List.map_reverse]; rfl⟩ (by rfl) (by simp) (by decide) (.inr (.inr ⟨b, 0, cap, _, rfl, h7, by omega, by rw [List.drop_zero, List.take_left' hl]⟩)) (by simp (disch := first | omega | (simp only [yZ, yB] <;> omega) | fail) [go_sem, yY, *, -List.map_take, -List.map_drop, -List.map_append, -List.map_reverse]; omega) (by omega) ?_
      intro cap2 hcap2
      have hf := post_new (β := β) (W := W1) (K := K) (port := port) (n := n) (ps := ps) (Q := Q) (cap := cap2) (Z := repC peZ (cap2 - (ps.length + 1))) hβl hK h2 h8 hcap2 (by rw [repC_length]; rfl)
      rw [List.append_assoc] at hf
      replace hf : Hid _ := hf
      replace hlow2 : Hid _ := hlow2
      replace hβl : Hid _ := hβl
      replace hcap2 : Hid _ := hcap2
      clear hlow h8 h7 h3 hcap h5 h6
      generalize repC peZ (cap2 - (ps.length + 1)) = Z at *
      repeat' (first | (with_reducible first | apply jA | apply jB | apply jC | apply jD | apply jE | apply jF | apply jG | apply jH | apply jI | apply jJ | apply jK | apply jL | apply jM | apply jN | apply jO) | ((with_reducible first | apply jP | apply jQ); rfl) | ((first | ((with_reducible first | apply jR | apply jS | apply jT); rfl; rfl) | (with_reducible first | apply jU | apply jV | apply jW) | ((with_reducible first | apply jX | apply jY | apply jZ); rfl)); all_goals (first | ((with_reducible show Is _ _); exact kE_WD1) | ((with_reducible refine fun (hc : (_ : Bool) = _) => ?_); (try simp only [xZ, xY, xP, reduceCtorEq] at hc); (try (have hx : True := hc; clear hx hc)); (try exact kX)) | ((fail_if_success (with_reducible first | show Is _ _ | show ACall _ _ _ _ _)); (try ((with_reducible show _ ∨ _); exact kT))))))
      exact ⟨rfl, hf, (show ∀ y G i, i < β → (W1.set β y ++ G)[i]? = W[i]? from hlow2) _ _⟩
theorem cutG_le (b : UInt8) (s : List UInt8) : (Go.Lib.cut s [b]).1.length ≤ s.length ∧ (Go.Lib.cut s [b]).2.1.length ≤ s.length := by
  rw [Go.Lib.cut]
  split
  · exact ⟨by simp only [List.length_take]; omega, by simp only [List.length_drop]; omega⟩
  · exact ⟨Nat.le_refl _, by simp⟩
theorem read_named {W : List Box} {β : Nat} {args : List CV} {K : List UInt8} {port n : Int} {ps : List Pe} {nm : List (List UInt8)} {l x T : List UInt8} {S' : Ps} (ha : Is args [.ptr β 0, .str l]) (h : PStW β ⟨K, port, ps, nm, true⟩ n W) (hl : l.length < 1000000) (hnm : Named l x T) (hx : x ∉ nm) (hm : nm.length ≤ 9)
    (hva : ∀ (W1 : List Box) (args : List CV), Is args [.ptr β 0, .str x, .str T] → T.length < 1000000 → PStW β ⟨K, port, ps, nm ++ [x], true⟩ n W1 → ACall Tryz.prog 59 args W1 fun c W' => c = .tup [] ∧ PStW β S' n W' ∧ ∀ i, i < β → W'[i]? = W1[i]?) :
    ACall Tryz.prog 34 args W fun c W' => c = .tup [] ∧ PStW β S' n W' ∧ ∀ i, i < β → W'[i]? = W[i]? := by
  have ha : args = _ := ha
  subst ha
  obtain ⟨c0, u, x0, v, ht, hc0, hI, hP, hcut, hx0, hv⟩ := hnm
  obtain ⟨pe, nc, hB, hK, hp, hn⟩ := h
  dsimp only at hB hK hp hn
  have hul : (c0 :: u).length ≤ l.length := by rw [← ht]; exact trimT_le l
  have hcl := cutG_le 61 (c0 :: u)
  rw [hcut] at hcl
  have hTl : T.length < 1000000 := by have := trimT_le v; rw [hv] at this; have := hcl.2; dsimp only at this; omega
  have hva := fun W1 args h => hva W1 args h hTl
  have htr : ∀ {B : List Box} {args : List CV}, Is (omap (Go.Sy.fz true false B 6) args) (some [.str l, .str [32, 9]]) → ACall Tryz.prog 56 args B fun c B' => c = .str (c0 :: u) ∧ B' = B := fun h => by
    rw [← ht]; exact trim_at h (by omega)
  have htn : ∀ {B : List Box} {args : List CV}, Is (omap (Go.Sy.fz true false B 6) args) (some [.str x0, .str [32, 9]]) → ACall Tryz.prog 56 args B fun c B' => c = .str x ∧ B' = B := fun h => by
    rw [← hx0]; exact trim_at h (by have := hcl.1; dsimp only at this; omega)
  have htv : ∀ {B : List Box} {args : List CV}, Is (omap (Go.Sy.fz true false B 6) args) (some [.str v, .str [32, 9]]) → ACall Tryz.prog 56 args B fun c B' => c = .str T ∧ B' = B := fun h => by
    rw [← hv]; exact trim_at h (by have := hcl.2; dsimp only at this; omega)
  have hcu : ∀ {B : List Box}, ACall Tryz.prog 41 [.str (c0 :: u), .str [61]] B fun c B' => c = .tup [.str x0, .str v, .bool true] ∧ B' = B := by
    intro B
    have := @cutS_at B (c0 :: u) [61] (by omega)
    rwa [hcut] at this
  have hrq : ∀ {B : List Box} {args : List CV}, Is args [.ptr β 0, .bool true] → ACall Tryz.prog 57 args B fun c B' => c = .tup [] ∧ B' = B := require_at
  have hic : (c0.toNat : Int) ≠ 35 := by omega
  have hβl := (List.getElem?_eq_some_iff.1 hB).1
  clear ht hcut hv hx0 hcl hul
  rw [pz] at hB
  rw [sIface] at hI
  rw [sPeer] at hP
  rcases hn with ⟨rfl, rfl⟩ | ⟨γ, m, hγo, hne, rfl, hγ⟩
  · have hco : ∀ {B : List Box}, ACall Tryz.prog 58 [.nilS, .str x] B fun c B' => c = .bool false ∧ B' = B := containsN_at
    obtain ⟨W1, hW1⟩ : ∃ W1, W.set β ⟨K.map byteC ++ [.int .i64 port, pe, .int .i64 n, .view (W.length + 1) 0 1 1 false, .bool true], false⟩ ++ [⟨[CV.str x], false⟩, ⟨[CV.str x], false⟩] = W1 := ⟨_, rfl⟩
    have hs1 : PStW β ⟨K, port, ps, [] ++ [x], true⟩ n W1 := by
      rw [← hW1]
      exact ⟨_, _, by rw [List.getElem?_append_left (by rw [List.length_set]; exact hβl), List.getElem?_set_self hβl]; rfl, hK, hp.keep fun i y a b _ => keep_set _ _ a b, .inr ⟨W.length + 1, false, by omega, by simp, rfl, by rw [List.getElem?_append_right (by rw [List.length_set]; omega), List.length_set, Nat.add_sub_cancel_left]; rfl⟩⟩
    have hlow : ∀ i, i < β → W1[i]? = W[i]? := fun i hi => by rw [← hW1]; exact low_set _ _ hβl i hi
    have hv1 := fun args h => hva W1 args h hs1
    obtain ⟨p1, p2, p3, p4, p5, p6, p7, p8, p9, p10, p11, p12, p13⟩ := bx_pack hB
    replace hlow : Hid _ := hlow
    clear hva hs1 hp hβl
    refine acall_intro mixed Tryz.func34 rfl ca34 (by kernel_rfl) (by rw [Tryz.ntmps34]; simp) ?_
    repeat' (first | (with_reducible first | apply jA | apply jB | apply jC | apply jD | apply jE | apply jF | apply jG | apply jH | apply jI | apply jJ | apply jK | apply jL | apply jM | apply jN | apply jO) | ((with_reducible first | apply jP | apply jQ); rfl) | ((first | ((with_reducible first | apply jR | apply jS | apply jT); rfl; rfl) | (with_reducible first | apply jU | apply jV | apply jW) | ((with_reducible first | apply jX | apply jY | apply jZ); rfl) | ((with_reducible first | apply kA | apply kB | apply kC); rfl)); all_goals (first | ((with_reducible show Is _ _); exact kE_WD1) | ((with_reducible refine fun (hc : (_ : Bool) = _) => ?_); (try simp only [xZ, xY, xP, reduceCtorEq] at hc); (try (have hx : True := hc; clear hx hc)); (try exact kX)) | ((with_reducible show ACall _ _ _ _ _); (first | ((with_reducible apply htr) <;> exact kD_WD1) | ((with_reducible apply htn) <;> exact kD_WD1) | ((with_reducible apply htv) <;> exact kD_WD1) | ((with_reducible apply hcu) <;> exact kD_WD1) | ((with_reducible apply hrq) <;> exact kD_WD1) | ((with_reducible apply hco) <;> exact kD_WD1))) | ((fail_if_success (with_reducible first | show Is _ _ | show ACall _ _ _ _ _)); (try ((with_reducible show _ ∨ _); exact kT))))) | (((with_reducible first | apply o_callQ | apply q_callQ); rfl); (iterate 2 exact kE_WD1); (first | ((with_reducible apply hv1) <;> exact kD_WD1))))
    rintro c W' ⟨rfl, h1, h2⟩
    have hlow : ∀ i, i < β → W1[i]? = W[i]? := hlow
    have h3 : ∀ i, i < β → W'[i]? = W[i]? := fun i hi => by rw [h2 i hi, hlow i hi]
    clear hlow h2 hv1 hB htr htn htv hcu hrq hco p1 p2 p3 p4 p5 p6 p7 p8 p9 p10 p11 p12 p13 hW1
    replace h1 : Hid _ := h1
    replace h3 : Hid _ := h3
    repeat' (first | (with_reducible first | apply jA | apply jB | apply jC | apply jD | apply jE | apply jF | apply jG | apply jH | apply jI | apply jJ | apply jK | apply jL | apply jM | apply jN | apply jO) | ((with_reducible first | apply jP | apply jQ); rfl) | ((first | ((with_reducible first | apply jR | apply jS | apply jT); rfl; rfl) | (with_reducible first | apply jU | apply jV | apply jW) | ((with_reducible first | apply jX | apply jY | apply jZ); rfl)); all_goals (first | ((with_reducible show Is _ _); exact kE) | ((with_reducible refine fun (hc : (_ : Bool) = _) => ?_); (try simp only [xZ, xY, xP, reduceCtorEq] at hc); (try (have hx : True := hc; clear hx hc)); (try exact kX)) | ((fail_if_success (with_reducible first | show Is _ _ | show ACall _ _ _ _ _)); (try ((with_reducible show _ ∨ _); exact kT))))))
    exact ⟨rfl, h1, h3⟩
  · have hml : (nm.map CV.str).length = nm.length := List.length_map _
    have hco := @contains_of nm x false (by simpa using hx) (by omega) (nm.map CV.str) rfl
    have hγl := (List.getElem?_eq_some_iff.1 hγ).1
    obtain ⟨X2, hX2e⟩ : ∃ X2, W.set γ ⟨nm.map CV.str ++ [CV.str x], true⟩ = X2 := ⟨_, rfl⟩
    have hX2 : X2[β]? = some ⟨K.map byteC ++ [.int .i64 port, pe, .int .i64 n, .view γ 0 nm.length 1 false, .bool true], false⟩ := by rw [← hX2e, List.getElem?_set_ne (by omega)]; exact hB
    have hX2l : X2.length = W.length := by rw [← hX2e, List.length_set]
    have hX2g : X2[γ]? = some ⟨nm.map CV.str ++ [CV.str x], true⟩ := by rw [← hX2e, List.getElem?_set_self hγl]
    obtain ⟨W1, hW1⟩ : ∃ W1, X2.set β ⟨K.map byteC ++ [.int .i64 port, pe, .int .i64 n, .view γ 0 (nm.length + 1) 1 false, .bool true], false⟩ ++ [⟨[CV.str x], false⟩] = W1 := ⟨_, rfl⟩
    have hs1 : PStW β ⟨K, port, ps, nm ++ [x], true⟩ n W1 := by
      rw [← hW1]
      refine ⟨_, _, by rw [List.getElem?_append_left (by rw [List.length_set]; omega), List.getElem?_set_self (by omega)]; rfl, hK, hp.keep fun i y a b d => keep_set _ _ a ?_, .inr ⟨γ, true, hγo, by simp, by rw [List.length_append]; rfl, ?_⟩⟩
      · have : i ≠ γ := by
          rintro rfl
          rw [hγ] at b
          refine d ?_
          rw [← Option.some.inj b]
          cases nm with
          | nil => exact absurd rfl hne
          | cons z zs => exact ⟨z, _, rfl⟩
        rw [← hX2e, List.getElem?_set_ne (Ne.symm this), b]
      · rw [keep_set _ _ hγo hX2g, List.map_append]; rfl
    have hlow : ∀ i, i < β → W1[i]? = W[i]? := fun i hi => by rw [← hW1, low_set _ _ (by omega) i hi, ← hX2e, List.getElem?_set_ne (by omega)]
    have hv1 := fun args h => hva W1 args h hs1
    have xb := bx_pack hB
    have yb := bx_pack hγ
    have zb := bx_pack hX2
    have hom : ∀ {B : List Box} {k : Nat}, omap (Go.Sy.fz true false B (k + 1)) (nm.map CV.str) = some (nm.map CV.str) := fun {B k} => omap_strs nm
    have htk : (nm.map CV.str).take nm.length = nm.map CV.str := List.take_of_length_le (by omega)
    replace hlow : Hid _ := hlow
    replace hne : Hid _ := hne
    replace hX2l : Hid _ := hX2l
    replace hβl : Hid _ := hβl
    replace hγl : Hid _ := hγl
    clear hva hs1 hp hX2g hx
    generalize nm.map CV.str = cs at *
    generalize nm.length = z at *
    refine acall_intro mixed Tryz.func34 rfl ca34 (by kernel_rfl) (by rw [Tryz.ntmps34]; simp) ?_
    repeat' (first | (with_reducible first | apply jA | apply jB | apply jC | apply jD | apply jE | apply jF | apply jG | apply jH | apply jI | apply jJ | apply jK | apply jL | apply jM | apply jN | apply jO) | ((with_reducible first | apply jP | apply jQ); rfl) | ((first | ((with_reducible first | apply jR | apply jS | apply jT); rfl; rfl) | (with_reducible first | apply jU | apply jV | apply jW) | ((with_reducible first | apply jX | apply jY | apply jZ); rfl) | ((with_reducible first | apply kA | apply kB | apply kC); rfl)); all_goals (first | ((with_reducible show Is _ _); exact kE_WD1) | ((with_reducible refine fun (hc : (_ : Bool) = _) => ?_); (try simp only [xZ, xY, xP, reduceCtorEq] at hc); (try (have hx : True := hc; clear hx hc)); (try exact kX)) | ((with_reducible show ACall _ _ _ _ _); (first | ((with_reducible apply htr) <;> exact kD_WD1) | ((with_reducible apply htn) <;> exact kD_WD1) | ((with_reducible apply htv) <;> exact kD_WD1) | ((with_reducible apply hcu) <;> exact kD_WD1) | ((with_reducible apply hrq) <;> exact kD_WD1) | ((with_reducible apply hco) <;> exact kD_WD1))) | ((fail_if_success (with_reducible first | show Is _ _ | show ACall _ _ _ _ _)); (try ((with_reducible show _ ∨ _); exact kT))))) | (((with_reducible first | apply o_callQ | apply q_callQ); rfl); (iterate 2 exact kE_WD1); (first | ((with_reducible apply hv1) <;> exact kD_WD1))))
    rintro c W' ⟨rfl, h1, h2⟩
    have hlow : ∀ i, i < β → W1[i]? = W[i]? := hlow
    have h3 : ∀ i, i < β → W'[i]? = W[i]? := fun i hi => by rw [h2 i hi, hlow i hi]
    clear hlow h2 hv1 hB htr htn htv hcu hrq hco hW1 xb yb zb hX2 hX2e hγ hom htk
    replace h1 : Hid _ := h1
    replace h3 : Hid _ := h3
    repeat' (first | (with_reducible first | apply jA | apply jB | apply jC | apply jD | apply jE | apply jF | apply jG | apply jH | apply jI | apply jJ | apply jK | apply jL | apply jM | apply jN | apply jO) | ((with_reducible first | apply jP | apply jQ); rfl) | ((first | ((with_reducible first | apply jR | apply jS | apply jT); rfl; rfl) | (with_reducible first | apply jU | apply jV | apply jW) | ((with_reducible first | apply jX | apply jY | apply jZ); rfl)); all_goals (first | ((with_reducible show Is _ _); exact kE) | ((with_reducible refine fun (hc : (_ : Bool) = _) => ?_); (try simp only [xZ, xY, xP, reduceCtorEq] at hc); (try (have hx : True := hc; clear hx hc)); (try exact kX)) | ((fail_if_success (with_reducible first | show Is _ _ | show ACall _ _ _ _ _)); (try ((with_reducible show _ ∨ _); exact kT))))))
    exact ⟨rfl, h1, h3⟩
end Go.Proofs.YtdceppjoipoohaaGreatDoor
end
