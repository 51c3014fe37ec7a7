/-
  Rules for walking canonical code, one step at a time.
-/
import Derived.Test.YtjlfblcoghiijaaSyQ
namespace Go.Sy
set_option linter.all false
open Go.RowKit (Below)

section
/-- An equation that simp works on from the left alone. -/
def Is {α : Type} (x y : α) : Prop := x = y

variable {P : Program} {n : Nat} {ops : Array Oper} {Q : Exit → Fr → List Box → Prop} {K : Fr → List Box → Prop} {fr : Fr} {B : List Box} {J : List Box → Prop}

theorem w_seq {a b : Code} (h : WPc P n a (thenC (fun fr B => WPc P n b Q fr B) Q) fr B) : WPc P n (.seq a b) Q fr B := h
theorem w_region {id : Nat} {l : List Oper} (h : WPo P n l.toArray (fun fr B => Q .normal fr B) l fr B) : WPc P n (.region id l.toArray false) Q fr B := by
  simpa [WPc] using h
/-- The allocations of a drawn region that nothing orders. -/
def hoistsOf (P : Program) (l : List Oper) (bs : List Nat) : List Nat := (List.range l.length).filter fun k => (match l[k]? with | some o => (match o.op with | .alloc _ => true | _ => false) | none => false) && !barrier P l bs [] k
def boxesOf (P : Program) (l : List Oper) : List Nat → Option (List Box)
  | [] => some []
  | k :: ks => match l[k]? with
    | some o => match o.op with
      | .alloc t => (zerosOf P t).bind fun zs => (boxesOf P l ks).map ({ cells := zs } :: ·)
      | _ => none
    | none => none
theorem boxesOf_length {l : List Oper} : ∀ {hs : List Nat} {H : List Box}, boxesOf P l hs = some H → hs.length = H.length
  | [], H, h => by simp [boxesOf] at h; subst h; rfl
  | k :: ks, H, h => by
    simp only [boxesOf] at h
    split at h
    · split at h
      · rename_i t _
        cases hz : zerosOf P t with
        | none => rw [hz] at h; cases h
        | some zs =>
          rw [hz] at h
          simp only [Option.bind_some, Option.map_eq_some_iff] at h
          obtain ⟨H', h1, rfl⟩ := h
          simp [boxesOf_length h1]
      · cases h
    · cases h
theorem w_drawJ {id : Nat} {l : List Oper} (hs : List Nat) (H : List Box) (J : List Box → Prop) {B1 : List Box} (hl : hs.length = H.length) (hB : Is (B ++ H) B1) (hJ : J B1) (h : WPd P n l.toArray (befs l []) B.length hs J (fun fr B => Q .normal fr B) 0 l fr B1) : WPc P n (.region id l.toArray true) Q fr B := by
  have hB : B ++ H = B1 := hB
  subst hB
  simp only [WPc, if_true]
  exact ⟨hs, H, J, hl, hJ, .inl h⟩
/-- A region one of whose calls has a result that is told by a relation. -/
theorem w_drawQ {id : Nat} {l : List Oper} (hs : List Nat) (H : List Box) (J : List Box → Prop) {B1 : List Box} (hl : hs.length = H.length) (hB : Is (B ++ H) B1) (hJ : J B1) (h : WPq P n l.toArray (befs l []) B.length hs J (fun fr B => Q .normal fr B) 0 l fr B1) : WPc P n (.region id l.toArray true) Q fr B := by
  have hB : B ++ H = B1 := hB
  subst hB
  simp only [WPc, if_true]
  exact ⟨hs, H, J, hl, hJ, .inr h⟩
theorem w_drawH {id : Nat} {l : List Oper} (hs : List Nat) (H : List Box) {B1 : List Box} (hl : hs.length = H.length) (hB : Is (B ++ H) B1) (h : WPd P n l.toArray (befs l []) B.length hs (fun _ => True) (fun fr B => Q .normal fr B) 0 l fr B1) : WPc P n (.region id l.toArray true) Q fr B :=
  w_drawJ hs H _ hl hB trivial h
theorem w_draw {id : Nat} {l : List Oper} (h0 : (hoistsOf P l (befs l [])).isEmpty = true) (h : WPd P n l.toArray (befs l []) B.length [] (fun _ => True) (fun fr B => Q .normal fr B) 0 l fr B) : WPc P n (.region id l.toArray true) Q fr B :=
  w_drawH [] [] rfl (List.append_nil B) h
theorem w_drawA {id : Nat} {l : List Oper} {hs : List Nat} {H B1 : List Box} (h0 : hoistsOf P l (befs l []) = hs) (hH : Is (boxesOf P l hs) (some H)) (hB : Is (B ++ H) B1)
    (h : WPd P n l.toArray (befs l []) B.length hs (fun _ => True) (fun fr B => Q .normal fr B) 0 l fr B1) : WPc P n (.region id l.toArray true) Q fr B :=
  w_drawH hs H (boxesOf_length hH) hB h
theorem w_block {id : Nat} {c : Code} (h : WPc P n c (inBlockC id Q) fr B) : WPc P n (.block id c) Q fr B := h
theorem w_cond {c : Operand} {x y : Code} {t : Bool} (hc : Is (opv fr c) (.bool t)) (h1 : t = true → WPc P n x Q fr B) (h2 : t = false → WPc P n y Q fr B) : WPc P n (.cond c x y) Q fr B := by
  have hc : opv fr c = .bool t := hc
  simp only [WPc, hc]; exact ⟨h1, h2⟩
theorem w_true {c : Operand} {x y : Code} (hc : Is (opv fr c) (.bool true)) (h1 : WPc P n x Q fr B) : WPc P n (.cond c x y) Q fr B := w_cond hc (fun _ => h1) (fun h => by cases h)
theorem w_false {c : Operand} {x y : Code} (hc : Is (opv fr c) (.bool false)) (h1 : WPc P n y Q fr B) : WPc P n (.cond c x y) Q fr B := w_cond hc (fun h => by cases h) (fun _ => h1)
theorem w_loop {c : Code} (Inv : Fr → List Box → Prop) (m : Fr → List Box → Nat) (h0 : Inv fr B) (h : ∀ fr B, Inv fr B → WPc P n c (thenC (fun fr' B' => Inv fr' B' ∧ m fr' B' < m fr B) Q) fr B) : WPc P n (.loop c) Q fr B := ⟨Inv, m, h0, h⟩
theorem w_skip (h : Q .normal fr B) : WPc P n .skip Q fr B := h
theorem w_exit {id : Nat} (h : Q (.exit id) fr B) : WPc P n (.exit id) Q fr B := h
theorem w_ret (h : Q .ret fr B) : WPc P n .ret Q fr B := h

-- what stands behind
theorem w_then (h : K fr B) : thenC K Q .normal fr B := h
theorem w_then_exit {id : Nat} (h : Q (.exit id) fr B) : thenC K Q (.exit id) fr B := h
theorem w_then_ret (h : Q .ret fr B) : thenC K Q .ret fr B := h
theorem w_in {id : Nat} (h : Q .normal fr B) : inBlockC id Q .normal fr B := h
theorem w_in_here {id : Nat} (h : Q .normal fr B) : inBlockC id Q (.exit id) fr B := by simpa [inBlockC] using h
theorem w_in_exit {id i : Nat} (hne : (i == id) = false) (h : Q (.exit i) fr B) : inBlockC id Q (.exit i) fr B := by
  simp only [inBlockC]; rw [if_neg (by simpa using hne)]; exact h
theorem w_in_ret {id : Nat} (h : Q .ret fr B) : inBlockC id Q .ret fr B := h
theorem w_end {rs : List ResultVar} {q : CV → List Box → Prop} {c : CV} (hc : Is (resC P rs fr B) (some c)) (h : q c B) : retC P rs q .normal fr B := by
  have hc : resC P rs fr B = some c := hc
  simp only [retC, hc]; exact h
theorem w_return {rs : List ResultVar} {q : CV → List Box → Prop} {c : CV} (hc : Is (resC P rs fr B) (some c)) (h : q c B) : retC P rs q .ret fr B := by
  have hc : resC P rs fr B = some c := hc
  simp only [retC, hc]; exact h

def isCall : Op → Bool
  | .call { callee := .value _, .. } => true
  | _ => false
theorem StepC_ev {o : Oper} {k : CV → List Box → Prop} (hn : isCall o.op = false) (r : CV × List Box) (he : ev P o fr B = some r) (h : k r.1 r.2) : StepC P o fr B k := by
  unfold StepC
  split
  · rename_i f args ts ho; rw [ho] at hn; simp [isCall] at hn
  · rw [he]; exact .inl h

theorem o_nil {q : Fr → List Box → Prop} (h : q fr B) : WPo P n ops q [] fr B := h
/-- One operation that calls nothing. -/
theorem o_op {q : Fr → List Box → Prop} {rest : List Oper} {dst : Option Tmp} {op : Op} {ty : TypeId} {pos : String} {after : Array Edge} {c : CV} {B' : List Box}
    (hd : dstOk n ⟨dst, op, ty, pos, after, none⟩ = true) (hn : isCall op = false) (he : Is (ev P ⟨dst, op, ty, pos, after, none⟩ fr B) (some (c, B'))) (h : WPo P n ops q rest (upd fr dst c) B') : WPo P n ops q (⟨dst, op, ty, pos, after, none⟩ :: rest) fr B := by
  unfold WPo
  exact ⟨hd, fun _ => StepC_ev hn _ he h, fun h => by cases h⟩
/-- One operation under a guard. -/
theorem o_guard {q : Fr → List Box → Prop} {rest : List Oper} {dst : Option Tmp} {op : Op} {ty : TypeId} {pos : String} {after : Array Edge} {g : Nat × Bool} {t : Bool}
    (hd : dstOk n ⟨dst, op, ty, pos, after, some g⟩ = true) (hw : Is (wantC ops fr ⟨dst, op, ty, pos, after, some g⟩) (some t))
    (h1 : t = true → WPo P n ops q (⟨dst, op, ty, pos, after, none⟩ :: rest) fr B) (h2 : t = false → WPo P n ops q rest (upd fr dst (.tup [])) B) : WPo P n ops q (⟨dst, op, ty, pos, after, some g⟩ :: rest) fr B := by
  have hw : wantC ops fr ⟨dst, op, ty, pos, after, some g⟩ = some t := hw
  unfold WPo
  rw [hw]
  refine ⟨hd, fun ht => ?_, h2⟩
  have := h1 ht
  unfold WPo at this
  exact this.2.1 rfl
/-- A call. -/
theorem o_call {q : Fr → List Box → Prop} {rest : List Oper} {dst : Option Tmp} {f : Operand} {args : Array Operand} {ts : Array TypeId} {ty : TypeId} {pos : String} {after : Array Edge} {g : FuncId} {first caps all : List CV}
    (hd : dstOk n ⟨dst, .call { callee := .value f, args, argTypes := ts }, ty, pos, after, none⟩ = true) (hf : Is (opv fr f) (.fn (.func g) first caps)) (ha : Is (first ++ args.toList.map (opv fr) ++ caps) all)
    (h : ACall P g all B fun c B' => WPo P n ops q rest (upd fr dst c) B') : WPo P n ops q (⟨dst, .call { callee := .value f, args, argTypes := ts }, ty, pos, after, none⟩ :: rest) fr B := by
  have hf : opv fr f = .fn (.func g) first caps := hf
  have ha : first ++ args.toList.map (opv fr) ++ caps = all := ha
  unfold WPo
  refine ⟨hd, fun _ => ?_, fun h => by cases h⟩
  simp only [StepC, hf]
  rw [ha]
  exact .inl h
/-- A call of a function without a body. -/
theorem o_ecall {q : Fr → List Box → Prop} {rest : List Oper} {dst : Option Tmp} {f : Operand} {args : Array Operand} {ts : Array TypeId} {ty : TypeId} {pos : String} {after : Array Edge} {g : FuncId} {first caps all : List CV} {c : CV} {B' : List Box}
    (hd : dstOk n ⟨dst, .call { callee := .value f, args, argTypes := ts }, ty, pos, after, none⟩ = true) (hf : Is (opv fr f) (.fn (.func g) first caps)) (ha : Is (first ++ args.toList.map (opv fr) ++ caps) all)
    (hc : ECall P g all B fun c' B'' => c' = c ∧ B'' = B') (h : WPo P n ops q rest (upd fr dst c) B') : WPo P n ops q (⟨dst, .call { callee := .value f, args, argTypes := ts }, ty, pos, after, none⟩ :: rest) fr B := by
  have hf : opv fr f = .fn (.func g) first caps := hf
  have ha : first ++ args.toList.map (opv fr) ++ caps = all := ha
  unfold WPo
  refine ⟨hd, fun _ => ?_, fun h => by cases h⟩
  simp only [StepC, hf]
  rw [ha]
  exact .inr (hc.mono fun _ _ ⟨h1, h2⟩ => by rw [h1, h2]; exact h)

theorem d_nil {bs hs : List Nat} {base k : Nat} {q : Fr → List Box → Prop} (h : q fr B) : WPd P n ops bs base hs J q k [] fr B := h
theorem d_op {bs hs : List Nat} {base k : Nat} {q : Fr → List Box → Prop} {rest : List Oper} {dst : Option Tmp} {op : Op} {ty : TypeId} {pos : String} {after : Array Edge} {c : CV} {B' : List Box}
    (hd : dstOk n ⟨dst, op, ty, pos, after, none⟩ = true) (hn : (isCall op || hs.contains k) = false) (he : Is (ev P ⟨dst, op, ty, pos, after, none⟩ fr B) (some (c, B'))) (hb : B' = B ∨ (barrier P ops.toList bs hs k = true ∧ keepsH bs k B B' base hs ∧ J B'))
    (h : WPd P n ops bs base hs J q (k + 1) rest (upd fr dst c) B') : WPd P n ops bs base hs J q k (⟨dst, op, ty, pos, after, none⟩ :: rest) fr B := by
  rw [Bool.or_eq_false_iff] at hn
  unfold WPd
  refine ⟨hd, fun _ => ?_, fun h => by cases h⟩
  rw [if_neg (by rw [hn.2]; simp)]
  exact ⟨c, B', StepC_ev hn.1 _ he ⟨rfl, rfl⟩, hb, h⟩
def idx : List Nat → Nat → Nat
  | [], _ => 0
  | x :: hs, k => if x = k then 0 else idx hs k + 1
theorem idx_nil {k : Nat} : idx [] k = 0 := rfl
theorem idx_cons {x k : Nat} {hs : List Nat} : idx (x :: hs) k = if x = k then 0 else idx hs k + 1 := rfl
theorem idx_get {k : Nat} : ∀ {hs : List Nat}, hs.contains k = true → hs[idx hs k]? = some k
  | [], h => by simp at h
  | x :: hs, h => by
    rw [idx_cons]
    split
    · rename_i hx; simp [hx]
    · rename_i hx
      rw [List.getElem?_cons_succ]
      refine idx_get ?_
      simp only [List.contains_cons, Bool.or_eq_true, beq_iff_eq] at h
      rcases h with h | h
      · exact absurd h.symm hx
      · exact h
theorem d_made {bs hs : List Nat} {base k β : Nat} {q : Fr → List Box → Prop} {rest : List Oper} {dst : Option Tmp} {op : Op} {ty : TypeId} {pos : String} {after : Array Edge} {c c' : CV} {bx : Box}
    (hd : dstOk n ⟨dst, op, ty, pos, after, none⟩ = true) (hn : hs.contains k = true) (hf : Is (op.operands.toList.all (flatO fr)) true) (he : Is (ev P ⟨dst, op, ty, pos, after, none⟩ fr []) (some (c, [bx]))) (hm : Is (bx.multi, bx.cells.all flat) (false, true))
    (hβ : Is (base + idx hs k) β) (hB : Is B[β]? (some bx)) (hc : Is (mvC β c) (some c'))
    (h : WPd P n ops bs base hs J q (k + 1) rest (upd fr dst c') B) : WPd P n ops bs base hs J q k (⟨dst, op, ty, pos, after, none⟩ :: rest) fr B := by
  have hβ : base + idx hs k = β := hβ
  subst hβ
  unfold WPd
  refine ⟨hd, fun _ => ?_, fun h => by cases h⟩
  rw [if_pos hn]
  have hm1 : (bx.multi, bx.cells.all flat) = (false, true) := hm
  rw [Prod.mk.injEq] at hm1
  exact .inl ⟨idx hs k, c, bx, c', idx_get hn, ⟨hf, he, hm1.1, hm1.2⟩, hB, hc, h⟩
/-- A call that looks at no box and makes none, whenever it comes up. -/
theorem d_free {bs hs : List Nat} {base k : Nat} {q : Fr → List Box → Prop} {rest : List Oper} {dst : Option Tmp} {f : Operand} {args : Array Operand} {ts : Array TypeId} {ty : TypeId} {pos : String} {after : Array Edge} {g : FuncId} {first caps all : List CV} {c : CV}
    (hd : (dstOk n ⟨dst, .call { callee := .value f, args, argTypes := ts }, ty, pos, after, none⟩ && hs.contains k) = true) (hf : Is (opv fr f) (.fn (.func g) first caps)) (ha : Is (first ++ args.toList.map (opv fr) ++ caps) all)
    (hc : ∀ B, J B → ACall P g all B fun c' B' => c' = c ∧ B' = B) (h : WPd P n ops bs base hs J q (k + 1) rest (upd fr dst c) B) : WPd P n ops bs base hs J q k (⟨dst, .call { callee := .value f, args, argTypes := ts }, ty, pos, after, none⟩ :: rest) fr B := by
  have hf : opv fr f = .fn (.func g) first caps := hf
  have ha : first ++ args.toList.map (opv fr) ++ caps = all := ha
  unfold WPd
  rw [Bool.and_eq_true] at hd
  refine ⟨hd.1, fun _ => ?_, fun h => by cases h⟩
  rw [if_pos hd.2]
  refine .inr ⟨c, fun B hJ => ?_, h⟩
  simp only [StepC, hf]
  rw [ha]
  exact .inl (hc B hJ)
/-- An operation that comes to the same over all boxes that the region ever has. -/
theorem d_fop {bs hs : List Nat} {base k : Nat} {q : Fr → List Box → Prop} {rest : List Oper} {dst : Option Tmp} {op : Op} {ty : TypeId} {pos : String} {after : Array Edge} {c : CV}
    (hd : dstOk n ⟨dst, op, ty, pos, after, none⟩ = true) (hn : (!isCall op && hs.contains k) = true) (he : ∀ B, J B → Is (ev P ⟨dst, op, ty, pos, after, none⟩ fr B) (some (c, B)))
    (h : WPd P n ops bs base hs J q (k + 1) rest (upd fr dst c) B) : WPd P n ops bs base hs J q k (⟨dst, op, ty, pos, after, none⟩ :: rest) fr B := by
  rw [Bool.and_eq_true] at hn
  unfold WPd
  refine ⟨hd, fun _ => ?_, fun h => by cases h⟩
  rw [if_pos hn.2]
  exact .inr ⟨c, fun B hJ => StepC_ev (by simpa using hn.1) _ (he B hJ) ⟨rfl, rfl⟩, h⟩
theorem d_guard {bs hs : List Nat} {base k : Nat} {q : Fr → List Box → Prop} {rest : List Oper} {dst : Option Tmp} {op : Op} {ty : TypeId} {pos : String} {after : Array Edge} {g : Nat × Bool} {t : Bool}
    (hd : dstOk n ⟨dst, op, ty, pos, after, some g⟩ = true) (hw : Is (wantC ops fr ⟨dst, op, ty, pos, after, some g⟩) (some t))
    (h1 : t = true → WPd P n ops bs base hs J q k (⟨dst, op, ty, pos, after, none⟩ :: rest) fr B) (h2 : t = false → WPd P n ops bs base hs J q (k + 1) rest (upd fr dst (.tup [])) B) : WPd P n ops bs base hs J q k (⟨dst, op, ty, pos, after, some g⟩ :: rest) fr B := by
  have hw : wantC ops fr ⟨dst, op, ty, pos, after, some g⟩ = some t := hw
  unfold WPd
  rw [hw]
  refine ⟨hd, fun ht => ?_, h2⟩
  have := h1 ht
  unfold WPd at this
  exact this.2.1 rfl
theorem d_call {bs hs : List Nat} {base k : Nat} {q : Fr → List Box → Prop} {rest : List Oper} {dst : Option Tmp} {f : Operand} {args : Array Operand} {ts : Array TypeId} {ty : TypeId} {pos : String} {after : Array Edge} {g : FuncId} {first caps all : List CV} {c : CV} {B' : List Box}
    (hd : (dstOk n ⟨dst, .call { callee := .value f, args, argTypes := ts }, ty, pos, after, none⟩ && !hs.contains k) = true) (hf : Is (opv fr f) (.fn (.func g) first caps)) (ha : Is (first ++ args.toList.map (opv fr) ++ caps) all)
    (hc : ACall P g all B fun c' B'' => c' = c ∧ B'' = B') (hb : B' = B ∨ (barrier P ops.toList bs hs k = true ∧ keepsH bs k B B' base hs ∧ J B')) (h : WPd P n ops bs base hs J q (k + 1) rest (upd fr dst c) B') : WPd P n ops bs base hs J q k (⟨dst, .call { callee := .value f, args, argTypes := ts }, ty, pos, after, none⟩ :: rest) fr B := by
  have hf : opv fr f = .fn (.func g) first caps := hf
  have ha : first ++ args.toList.map (opv fr) ++ caps = all := ha
  unfold WPd
  rw [Bool.and_eq_true] at hd
  refine ⟨hd.1, fun _ => ?_, fun h => by cases h⟩
  rw [if_neg (by simpa using hd.2)]
  refine ⟨c, B', ?_, hb, h⟩
  simp only [StepC, hf]
  rw [ha]
  exact .inl hc

theorem q_op {bs hs : List Nat} {base k : Nat} {q : Fr → List Box → Prop} {rest : List Oper} {dst : Option Tmp} {op : Op} {ty : TypeId} {pos : String} {after : Array Edge} {c : CV} {B' : List Box}
    (hd : dstOk n ⟨dst, op, ty, pos, after, none⟩ = true) (hn : (isCall op || hs.contains k) = false) (he : Is (ev P ⟨dst, op, ty, pos, after, none⟩ fr B) (some (c, B'))) (hb : B' = B ∨ (barrier P ops.toList bs hs k = true ∧ keepsH bs k B B' base hs ∧ J B'))
    (h : WPq P n ops bs base hs J q (k + 1) rest (upd fr dst c) B') : WPq P n ops bs base hs J q k (⟨dst, op, ty, pos, after, none⟩ :: rest) fr B := by
  rw [Bool.or_eq_false_iff] at hn
  unfold WPq
  refine ⟨hd, fun _ => ?_, fun h => by cases h⟩
  rw [if_neg (by rw [hn.2]; simp)]
  exact .inl ⟨c, B', StepC_ev hn.1 _ he ⟨rfl, rfl⟩, hb, h⟩
theorem q_made {bs hs : List Nat} {base k β : Nat} {q : Fr → List Box → Prop} {rest : List Oper} {dst : Option Tmp} {op : Op} {ty : TypeId} {pos : String} {after : Array Edge} {c c' : CV} {bx : Box}
    (hd : dstOk n ⟨dst, op, ty, pos, after, none⟩ = true) (hn : hs.contains k = true) (hf : Is (op.operands.toList.all (flatO fr)) true) (he : Is (ev P ⟨dst, op, ty, pos, after, none⟩ fr []) (some (c, [bx]))) (hm : Is (bx.multi, bx.cells.all flat) (false, true))
    (hβ : Is (base + idx hs k) β) (hB : Is B[β]? (some bx)) (hc : Is (mvC β c) (some c'))
    (h : WPq P n ops bs base hs J q (k + 1) rest (upd fr dst c') B) : WPq P n ops bs base hs J q k (⟨dst, op, ty, pos, after, none⟩ :: rest) fr B := by
  have hβ : base + idx hs k = β := hβ
  subst hβ
  unfold WPq
  refine ⟨hd, fun _ => ?_, fun h => by cases h⟩
  rw [if_pos hn]
  have hm1 : (bx.multi, bx.cells.all flat) = (false, true) := hm
  rw [Prod.mk.injEq] at hm1
  exact .inl ⟨idx hs k, c, bx, c', idx_get hn, ⟨hf, he, hm1.1, hm1.2⟩, hB, hc, h⟩
/-- A call that looks at no box and makes none, whenever it comes up. -/
theorem q_free {bs hs : List Nat} {base k : Nat} {q : Fr → List Box → Prop} {rest : List Oper} {dst : Option Tmp} {f : Operand} {args : Array Operand} {ts : Array TypeId} {ty : TypeId} {pos : String} {after : Array Edge} {g : FuncId} {first caps all : List CV} {c : CV}
    (hd : (dstOk n ⟨dst, .call { callee := .value f, args, argTypes := ts }, ty, pos, after, none⟩ && hs.contains k) = true) (hf : Is (opv fr f) (.fn (.func g) first caps)) (ha : Is (first ++ args.toList.map (opv fr) ++ caps) all)
    (hc : ∀ B, J B → ACall P g all B fun c' B' => c' = c ∧ B' = B) (h : WPq P n ops bs base hs J q (k + 1) rest (upd fr dst c) B) : WPq P n ops bs base hs J q k (⟨dst, .call { callee := .value f, args, argTypes := ts }, ty, pos, after, none⟩ :: rest) fr B := by
  have hf : opv fr f = .fn (.func g) first caps := hf
  have ha : first ++ args.toList.map (opv fr) ++ caps = all := ha
  unfold WPq
  rw [Bool.and_eq_true] at hd
  refine ⟨hd.1, fun _ => ?_, fun h => by cases h⟩
  rw [if_pos hd.2]
  refine .inr ⟨c, fun B hJ => ?_, h⟩
  simp only [StepC, hf]
  rw [ha]
  exact .inl (hc B hJ)
/-- An operation that comes to the same over all boxes that the region ever has. -/
theorem q_fop {bs hs : List Nat} {base k : Nat} {q : Fr → List Box → Prop} {rest : List Oper} {dst : Option Tmp} {op : Op} {ty : TypeId} {pos : String} {after : Array Edge} {c : CV}
    (hd : dstOk n ⟨dst, op, ty, pos, after, none⟩ = true) (hn : (!isCall op && hs.contains k) = true) (he : ∀ B, J B → Is (ev P ⟨dst, op, ty, pos, after, none⟩ fr B) (some (c, B)))
    (h : WPq P n ops bs base hs J q (k + 1) rest (upd fr dst c) B) : WPq P n ops bs base hs J q k (⟨dst, op, ty, pos, after, none⟩ :: rest) fr B := by
  rw [Bool.and_eq_true] at hn
  unfold WPq
  refine ⟨hd, fun _ => ?_, fun h => by cases h⟩
  rw [if_pos hn.2]
  exact .inr ⟨c, fun B hJ => StepC_ev (by simpa using hn.1) _ (he B hJ) ⟨rfl, rfl⟩, h⟩
theorem q_guard {bs hs : List Nat} {base k : Nat} {q : Fr → List Box → Prop} {rest : List Oper} {dst : Option Tmp} {op : Op} {ty : TypeId} {pos : String} {after : Array Edge} {g : Nat × Bool} {t : Bool}
    (hd : dstOk n ⟨dst, op, ty, pos, after, some g⟩ = true) (hw : Is (wantC ops fr ⟨dst, op, ty, pos, after, some g⟩) (some t))
    (h1 : t = true → WPq P n ops bs base hs J q k (⟨dst, op, ty, pos, after, none⟩ :: rest) fr B) (h2 : t = false → WPq P n ops bs base hs J q (k + 1) rest (upd fr dst (.tup [])) B) : WPq P n ops bs base hs J q k (⟨dst, op, ty, pos, after, some g⟩ :: rest) fr B := by
  have hw : wantC ops fr ⟨dst, op, ty, pos, after, some g⟩ = some t := hw
  unfold WPq
  rw [hw]
  refine ⟨hd, fun ht => ?_, h2⟩
  have := h1 ht
  unfold WPq at this
  exact this.2.1 rfl
theorem q_call {bs hs : List Nat} {base k : Nat} {q : Fr → List Box → Prop} {rest : List Oper} {dst : Option Tmp} {f : Operand} {args : Array Operand} {ts : Array TypeId} {ty : TypeId} {pos : String} {after : Array Edge} {g : FuncId} {first caps all : List CV} {c : CV} {B' : List Box}
    (hd : (dstOk n ⟨dst, .call { callee := .value f, args, argTypes := ts }, ty, pos, after, none⟩ && !hs.contains k) = true) (hf : Is (opv fr f) (.fn (.func g) first caps)) (ha : Is (first ++ args.toList.map (opv fr) ++ caps) all)
    (hc : ACall P g all B fun c' B'' => c' = c ∧ B'' = B') (hb : B' = B ∨ (barrier P ops.toList bs hs k = true ∧ keepsH bs k B B' base hs ∧ J B')) (h : WPq P n ops bs base hs J q (k + 1) rest (upd fr dst c) B') : WPq P n ops bs base hs J q k (⟨dst, .call { callee := .value f, args, argTypes := ts }, ty, pos, after, none⟩ :: rest) fr B := by
  have hf : opv fr f = .fn (.func g) first caps := hf
  have ha : first ++ args.toList.map (opv fr) ++ caps = all := ha
  unfold WPq
  rw [Bool.and_eq_true] at hd
  refine ⟨hd.1, fun _ => ?_, fun h => by cases h⟩
  rw [if_neg (by simpa using hd.2)]
  refine .inl ⟨c, B', ?_, hb, h⟩
  simp only [StepC, hf]
  rw [ha]
  exact .inl hc

/-- The call whose result is told by a relation. -/
theorem q_callQ {bs hs : List Nat} {base k : Nat} {q : Fr → List Box → Prop} {rest : List Oper} {dst : Option Tmp} {f : Operand} {args : Array Operand} {ts : Array TypeId} {ty : TypeId} {pos : String} {after : Array Edge} {g : FuncId} {first caps all : List CV} {Q0 : CV → List Box → Prop}
    (hd : (dstOk n ⟨dst, .call { callee := .value f, args, argTypes := ts }, ty, pos, after, none⟩ && !hs.contains k && barrier P ops.toList bs hs k && (hs.all fun i => decide (i ≤ k) || (match ops[i]? with | some p => isLoad p.op | none => true))) = true)
    (hf : Is (opv fr f) (.fn (.func g) first caps)) (ha : Is (first ++ args.toList.map (opv fr) ++ caps) all)
    (hc : ACall P g all B Q0) (hne : ∃ c B', Q0 c B') (h : ∀ c B', Q0 c B' → keepsH bs k B B' base hs ∧ J B' ∧ WPd P n ops bs base hs J q (k + 1) rest (upd fr dst c) B') : WPq P n ops bs base hs J q k (⟨dst, .call { callee := .value f, args, argTypes := ts }, ty, pos, after, none⟩ :: rest) fr B := by
  have hf : opv fr f = .fn (.func g) first caps := hf
  have ha : first ++ args.toList.map (opv fr) ++ caps = all := ha
  unfold WPq
  simp only [Bool.and_eq_true] at hd
  refine ⟨hd.1.1.1, fun _ => ?_, fun h => by cases h⟩
  rw [if_neg (by simpa using hd.1.1.2)]
  refine .inr ⟨Q0, ?_, hne, rfl, hd.1.2, hd.2, h⟩
  simp only [StepC, hf]
  rw [ha]
  exact .inl hc

theorem opv_tmp {fr : Fr} {t : Tmp} : opv fr (.tmp t) = fr t := rfl
theorem opv_const {fr : Fr} {v : Value} : opv fr (.const v) = ofV v := rfl
theorem opv_global {fr : Fr} {g : Nat} : opv fr (.global g) = .raw (.pointer (some ⟨g, 0, none⟩)) := rfl
theorem opv_func {fr : Fr} {f : FuncId} : opv fr (.func f) = .fn (.func f) [] [] := rfl
theorem upd_get (fr : Fr) (d : Tmp) (c : CV) (t : Nat) : upd fr (some d) c t = if t = d then c else fr t := rfl
theorem upd_none (fr : Fr) (c : CV) : upd fr none c = fr := rfl
theorem frOf_get (args : List CV) (i : Nat) : frOf args i = args.getD i (.tup []) := rfl

theorem fdiv_pow (v m : Nat) : (v : Int).fdiv (2 ^ m) = ((v / 2 ^ m : Nat) : Int) := by
  rw [Int.fdiv_eq_ediv_of_nonneg _ (by exact_mod_cast Nat.zero_le _)]; norm_cast
theorem tmod_pos {a b : Int} (h : 0 ≤ a) : a.tmod b = a % b := Int.tmod_eq_emod_of_nonneg h
theorem tdiv_pos {a b : Int} (h : 0 ≤ a) : a.tdiv b = a / b := Int.tdiv_eq_ediv_of_nonneg h
def appOk (P : Program) (e : TypeId) (esz : Nat) : Bool := match (P.info? e).bind (·.zero) with | some z => z.cells.size == esz && esz != 0 | none => false
def appendK (P : Program) (e : TypeId) (esz : Nat) (B : List Box) (s x : CV) : Option (CV × List Box) :=
  (srcC B esz x).bind fun (m, news) => appendM P e esz B s m news
theorem appendC_eq {ts e : TypeId} {esz : Nat} (h1 : elemT P ts = some e) (h2 : szOf P e = some esz) (h3 : appOk P e esz = true) (B : List Box) (s x : CV) : appendC P ts B s x = appendK P e esz B s x := by
  unfold appendC appendK
  unfold appOk at h3
  rw [h1]; simp only [Option.bind_some]; rw [h2]; simp only [Option.bind_some]
  cases hz : (P.info? e).bind (·.zero) with
  | none => simp [hz] at h3
  | some z =>
    simp only [hz, Bool.and_eq_true, beq_iff_eq, bne_iff_ne] at h3
    congr 1
    funext p
    simp only [h3.1, ne_eq, not_true_eq_false, false_or, if_neg h3.2]

section
variable {P : Program} {e : TypeId} {esz : Nat} {B : List Box} {x : CV}
theorem appendK_nilS : appendK P e esz B .nilS x = (srcC B esz x).bind fun (m, news) => if m = 0 then some (.nilS, B) else if m * P.bytesOf e ≤ 140737488355328 ∧ m ≤ 140737488355328 then some (.view B.length 0 m esz false, B ++ [{ cells := news }]) else none := rfl
theorem appendK_lst {n : Nat} {cs : List CV} : appendK P e esz B (.lst n cs true) x = (srcC B esz x).bind fun (m, news) => if m = 0 then some (.lst n cs true, B) else if (n + m) * P.bytesOf e ≤ 140737488355328 ∧ n + m ≤ 140737488355328 ∧ cs.length = n * esz then some (.view B.length 0 (n + m) esz false, B ++ [{ cells := cs ++ news }]) else none := rfl
theorem appendK_view {b off n sz : Nat} {full : Bool} : appendK P e esz B (.view b off n sz full) x = (srcC B esz x).bind fun (m, news) => if m = 0 then some (.view b off n sz full, B) else match B[b]? with
    | none => none
    | some box =>
      if sz = esz ∧ (n + m) * P.bytesOf e ≤ 140737488355328 ∧ n + m ≤ 140737488355328 then
        if full then some (.view B.length 0 (n + m) esz false, B ++ [{ cells := (box.cells.drop off).take (n * esz) ++ news }])
        else if off + n * esz = box.cells.length then some (.view b off (n + m) esz false, B.set b { cells := box.cells ++ news, multi := true }) else none
      else none := rfl
theorem appendK_cview {b off n cap sz : Nat} : appendK P e esz B (.cview b off n cap sz) x = (srcC B esz x).bind fun (m, news) => if m = 0 then some (.cview b off n cap sz, B) else match B[b]? with
    | none => none
    | some box =>
      if sz = esz ∧ (n + m) * P.bytesOf e ≤ 140737488355328 ∧ n + m ≤ 140737488355328 ∧ box.multi = false ∧ off + cap * esz ≤ box.cells.length then
        if n + m ≤ cap then some (.cview b off (n + m) cap esz, B.set b { cells := splice box.cells (off + n * esz) news })
        else some (.view B.length 0 (n + m) esz false, B ++ [{ cells := (box.cells.drop off).take (n * esz) ++ news }])
      else none := rfl
variable {m : Nat} {news : List CV}
theorem appendM_nilS : appendM P e esz B .nilS m news = if m = 0 then some (.nilS, B) else if m * P.bytesOf e ≤ 140737488355328 ∧ m ≤ 140737488355328 then some (.view B.length 0 m esz false, B ++ [{ cells := news }]) else none := rfl
theorem appendM_lst {n : Nat} {cs : List CV} : appendM P e esz B (.lst n cs true) m news = if m = 0 then some (.lst n cs true, B) else if (n + m) * P.bytesOf e ≤ 140737488355328 ∧ n + m ≤ 140737488355328 ∧ cs.length = n * esz then some (.view B.length 0 (n + m) esz false, B ++ [{ cells := cs ++ news }]) else none := rfl
theorem appendM_view {b off n sz : Nat} {full : Bool} : appendM P e esz B (.view b off n sz full) m news = if m = 0 then some (.view b off n sz full, B) else match B[b]? with
    | none => none
    | some box =>
      if sz = esz ∧ (n + m) * P.bytesOf e ≤ 140737488355328 ∧ n + m ≤ 140737488355328 then
        if full then some (.view B.length 0 (n + m) esz false, B ++ [{ cells := (box.cells.drop off).take (n * esz) ++ news }])
        else if off + n * esz = box.cells.length then some (.view b off (n + m) esz false, B.set b { cells := box.cells ++ news, multi := true }) else none
      else none := rfl
theorem appendM_cview {b off n cap sz : Nat} : appendM P e esz B (.cview b off n cap sz) m news = if m = 0 then some (.cview b off n cap sz, B) else match B[b]? with
    | none => none
    | some box =>
      if sz = esz ∧ (n + m) * P.bytesOf e ≤ 140737488355328 ∧ n + m ≤ 140737488355328 ∧ box.multi = false ∧ off + cap * esz ≤ box.cells.length then
        if n + m ≤ cap then some (.cview b off (n + m) cap esz, B.set b { cells := splice box.cells (off + n * esz) news })
        else some (.view B.length 0 (n + m) esz false, B ++ [{ cells := (box.cells.drop off).take (n * esz) ++ news }])
      else none := rfl
end
def putC (place : Nat → Option (Nat × Nat)) (cells : List CV) (i : Nat) (c : CV) (rest : List (Nat × CV)) : Option (List CV) :=
  match place i with | some (off, size) => if size = 1 ∧ off < cells.length then fillC place (cells.set off c) rest else none | none => none
theorem fillC_c {place : Nat → Option (Nat × Nat)} {cells : List CV} {i : Nat} {c : CV} {rest : List (Nat × CV)} (h : cellsC c = some [c]) : fillC place cells ((i, c) :: rest) = putC place cells i c rest := by
  rw [fillC, putC, h]
  cases place i with
  | none => rfl
  | some p =>
    obtain ⟨off, size⟩ := p
    simp only [List.length_cons, List.length_nil]
    by_cases h1 : size = 1
    · by_cases h2 : off < cells.length
      · rw [if_neg (by omega), if_pos ⟨h1, h2⟩]
        congr 1
        rw [splice, List.set_eq_take_append_cons_drop, if_pos h2]
        simp
      · rw [if_pos (by omega), if_neg (by omega)]
    · rw [if_pos (by omega), if_neg (by omega)]
section
variable {place : Nat → Option (Nat × Nat)} {cells : List CV} {i : Nat} {rest : List (Nat × CV)}
theorem fillC_nil : fillC place cells [] = some cells := rfl
theorem fillC_int {k : IntKind} {n : Int} : fillC place cells ((i, .int k n) :: rest) = putC place cells i (.int k n) rest := fillC_c rfl
theorem fillC_byte {b : UInt8} : fillC place cells ((i, byteC b) :: rest) = putC place cells i (byteC b) rest := fillC_c rfl
theorem fillC_bool {b : Bool} : fillC place cells ((i, .bool b) :: rest) = putC place cells i (.bool b) rest := fillC_c rfl
theorem fillC_str {b : List UInt8} : fillC place cells ((i, .str b) :: rest) = putC place cells i (.str b) rest := fillC_c rfl
theorem fillC_nilS : fillC place cells ((i, .nilS) :: rest) = putC place cells i .nilS rest := fillC_c rfl
theorem fillC_nilP : fillC place cells ((i, .nilP) :: rest) = putC place cells i .nilP rest := fillC_c rfl
theorem fillC_nilF : fillC place cells ((i, .nilF) :: rest) = putC place cells i .nilF rest := fillC_c rfl
theorem fillC_nilI : fillC place cells ((i, .nilI) :: rest) = putC place cells i .nilI rest := fillC_c rfl
theorem fillC_lst {n : Nat} {cs : List CV} {f : Bool} : fillC place cells ((i, .lst n cs f) :: rest) = putC place cells i (.lst n cs f) rest := fillC_c rfl
theorem fillC_view {b o n z : Nat} {f : Bool} : fillC place cells ((i, .view b o n z f) :: rest) = putC place cells i (.view b o n z f) rest := fillC_c rfl
theorem fillC_cview {b o n c z : Nat} : fillC place cells ((i, .cview b o n c z) :: rest) = putC place cells i (.cview b o n c z) rest := fillC_c rfl
theorem fillC_ptr {b o : Nat} : fillC place cells ((i, .ptr b o) :: rest) = putC place cells i (.ptr b o) rest := fillC_c rfl
theorem fillC_iptr {cs : List CV} : fillC place cells ((i, .iptr cs) :: rest) = putC place cells i (.iptr cs) rest := fillC_c rfl
theorem fillC_fn {f : Fn} {x y : List CV} : fillC place cells ((i, .fn f x y) :: rest) = putC place cells i (.fn f x y) rest := fillC_c rfl
theorem fillC_iface {t : TypeId} {v : CV} : fillC place cells ((i, .iface t v) :: rest) = putC place cells i (.iface t v) rest := fillC_c rfl
theorem fillC_agg {as : List CV} : fillC place cells ((i, .agg as) :: rest) = match place i with | some (off, size) => (if as.length ≠ size ∨ off + as.length > cells.length then none else fillC place (splice cells off as) rest) | none => none := by
  rw [fillC]; cases place i <;> rfl
end
/-! Structs side by side: all places filled at once. -/
theorem fillC_all {n : Nat} : ∀ (ps : List (List CV)) (k : Nat) (pre suf : List CV), pre.length = k * n → (∀ p ∈ ps, p.length = n) → suf.length = ps.length * n →
    fillC (fun i => some (i * n, n)) (pre ++ suf) (ps.zipIdx k |>.map fun p => (p.2, CV.agg p.1)) = some (pre ++ ps.flatten)
  | [], k, pre, suf, _, _, hs => by
    have : suf = [] := List.eq_nil_of_length_eq_zero (by simpa using hs)
    subst this; rfl
  | p :: ps, k, pre, suf, hp, hn, hs => by
    have hpl := hn p (by simp)
    have hs' : suf.length = ps.length * n + n := by rw [hs, List.length_cons, Nat.succ_mul]
    rw [List.zipIdx_cons, List.map_cons, fillC_agg]
    dsimp only
    rw [if_neg (by rw [List.length_append]; omega)]
    have e : splice (pre ++ suf) (k * n) p = (pre ++ p) ++ suf.drop n := by
      rw [splice, List.take_left' hp, ← List.drop_drop, List.drop_left' hp, hpl]
    rw [e, fillC_all ps (k + 1) (pre ++ p) (suf.drop n) (by rw [List.length_append, hp, hpl, Nat.succ_mul]) (fun q hq => hn q (by simp [hq])) (by rw [List.length_drop]; omega)]
    rw [List.flatten_cons, List.append_assoc]
section
variable {n : Nat} {a b c d e : List CV} {Z : List CV}
theorem fill_agg1 (ha : a.length = n) (hz : Z.length = 1 * n) : fillC (fun i => some (i * n, n)) Z [(0, .agg a)] = some a := by
  have := fillC_all (n := n) [a] 0 [] Z (by simp) (by simp [ha]) (by simpa using hz)
  simpa using this
theorem fill_agg2 (ha : a.length = n) (hb : b.length = n) (hz : Z.length = 2 * n) : fillC (fun i => some (i * n, n)) Z [(0, .agg a), (1, .agg b)] = some (a ++ b) := by
  have := fillC_all (n := n) [a, b] 0 [] Z (by simp) (by simp [ha, hb]) (by simpa using hz)
  simpa using this
theorem fill_agg3 (ha : a.length = n) (hb : b.length = n) (hc : c.length = n) (hz : Z.length = 3 * n) : fillC (fun i => some (i * n, n)) Z [(0, .agg a), (1, .agg b), (2, .agg c)] = some (a ++ (b ++ c)) := by
  have := fillC_all (n := n) [a, b, c] 0 [] Z (by simp) (by simp [ha, hb, hc]) (by simpa using hz)
  simpa using this
theorem fill_agg4 (ha : a.length = n) (hb : b.length = n) (hc : c.length = n) (hd : d.length = n) (hz : Z.length = 4 * n) : fillC (fun i => some (i * n, n)) Z [(0, .agg a), (1, .agg b), (2, .agg c), (3, .agg d)] = some (a ++ (b ++ (c ++ d))) := by
  have := fillC_all (n := n) [a, b, c, d] 0 [] Z (by simp) (by simp [ha, hb, hc, hd]) (by simpa using hz)
  simpa using this
theorem fill_agg5 (ha : a.length = n) (hb : b.length = n) (hc : c.length = n) (hd : d.length = n) (he : e.length = n) (hz : Z.length = 5 * n) : fillC (fun i => some (i * n, n)) Z [(0, .agg a), (1, .agg b), (2, .agg c), (3, .agg d), (4, .agg e)] = some (a ++ (b ++ (c ++ (d ++ e)))) := by
  have := fillC_all (n := n) [a, b, c, d, e] 0 [] Z (by simp) (by simp [ha, hb, hc, hd, he]) (by simpa using hz)
  simpa using this
end
section
theorem cellsC_int {k : IntKind} {n : Int} : cellsC (.int k n) = some [.int k n] := rfl
theorem cellsC_byte {b : UInt8} : cellsC (byteC b) = some [byteC b] := rfl
theorem cellsC_bool {b : Bool} : cellsC (.bool b) = some [.bool b] := rfl
theorem cellsC_str {b : List UInt8} : cellsC (.str b) = some [.str b] := rfl
theorem cellsC_nilS : cellsC .nilS = some [.nilS] := rfl
theorem cellsC_nilP : cellsC .nilP = some [.nilP] := rfl
theorem cellsC_nilF : cellsC .nilF = some [.nilF] := rfl
theorem cellsC_nilI : cellsC .nilI = some [.nilI] := rfl
theorem cellsC_lst {n : Nat} {cs : List CV} {f : Bool} : cellsC (.lst n cs f) = some [.lst n cs f] := rfl
theorem cellsC_view {b o n z : Nat} {f : Bool} : cellsC (.view b o n z f) = some [.view b o n z f] := rfl
theorem cellsC_cview {b o n c z : Nat} : cellsC (.cview b o n c z) = some [.cview b o n c z] := rfl
theorem cellsC_ptr {b o : Nat} : cellsC (.ptr b o) = some [.ptr b o] := rfl
theorem cellsC_iptr {cs : List CV} : cellsC (.iptr cs) = some [.iptr cs] := rfl
theorem cellsC_fn {f : Fn} {x y : List CV} : cellsC (.fn f x y) = some [.fn f x y] := rfl
theorem cellsC_iface {t : TypeId} {v : CV} : cellsC (.iface t v) = some [.iface t v] := rfl
theorem cellsC_agg {cs : List CV} : cellsC (.agg cs) = some cs := rfl
end
def natOf : CV → Nat | .int _ n => n.toNat | _ => 0
theorem natOf_int (k : IntKind) (n : Int) : natOf (.int k n) = n.toNat := rfl

theorem wi64 {x : Int} (h : -9223372036854775808 ≤ x ∧ x < 9223372036854775808) : IntKind.i64.wrap x = x := IntWalk.i64_in _ (by omega)
theorem wu64 {x : Int} (h : 0 ≤ x ∧ x < 18446744073709551616) : IntKind.u64.wrap x = x := IntWalk.u64_in _ (by omega)
theorem wu8 {x : Int} (h : 0 ≤ x ∧ x < 256) : IntKind.u8.wrap x = x := by simp [IntKind.wrap, IntKind.bits, IntKind.signed]; omega
theorem wu16 {x : Int} (h : 0 ≤ x ∧ x < 65536) : IntKind.u16.wrap x = x := by simp [IntKind.wrap, IntKind.bits, IntKind.signed]; omega
theorem wu32 {x : Int} (h : 0 ≤ x ∧ x < 4294967296) : IntKind.u32.wrap x = x := by simp [IntKind.wrap, IntKind.bits, IntKind.signed]; omega
theorem u8lt (b : UInt8) : (b.toNat : Int) < 256 := by have := b.toNat_lt; omega
theorem wbyte64 (b : UInt8) : IntKind.i64.wrap (b.toNat : Int) = b.toNat := wi64 ⟨by omega, by have := u8lt b; omega⟩
theorem wbyteu64 (b : UInt8) : IntKind.u64.wrap (b.toNat : Int) = b.toNat := wu64 ⟨by omega, by have := u8lt b; omega⟩
theorem wbyte8 (b : UInt8) : IntKind.u8.wrap (b.toNat : Int) = b.toNat := wu8 ⟨by omega, by have := u8lt b; omega⟩

end
attribute [go_sem] tmod_pos tdiv_pos fdiv_pow natOf_int wi64 wu64 wu8 wu16 wu32 wbyte64 wbyteu64 wbyte8
attribute [go_sem] opv_tmp opv_const opv_global opv_func repC ev builtinC aggEq binC unC binInt shiftC strC ofV_int ofV_bool ofV_nilS ofV_nilP ofV_string upd_get upd_none frOf_get srcC readC loadC partC writeC boundC boundsC boundsK appendZ fullC splice bytesC wantC putC fillC_nil fillC_int fillC_byte fillC_bool fillC_str fillC_nilS fillC_nilP fillC_nilF fillC_nilI fillC_lst fillC_view fillC_cview fillC_ptr fillC_iptr fillC_fn fillC_iface fillC_agg resC resAll resOne
attribute [go_sem high] fill_agg1 fill_agg2 fill_agg3 fill_agg4 fill_agg5
attribute [go_sem] idx_nil idx_cons boxesOf mvC flat flat1 flatO Op.operands Call.operands appendK_nilS appendK_lst appendK_view appendK_cview appendM_nilS appendM_lst appendM_view appendM_cview
attribute [go_sem] cellsC_int cellsC_byte cellsC_bool cellsC_str cellsC_nilS cellsC_nilP cellsC_nilF cellsC_nilI cellsC_lst cellsC_view cellsC_cview cellsC_ptr cellsC_iptr cellsC_fn cellsC_iface cellsC_agg
attribute [go_sem] Option.bind_some Option.map_some Option.bind_none Option.map_none Option.getD_some Option.getD_none List.getD_cons_zero List.getD_cons_succ List.getD_nil List.map_cons List.map_nil List.toList_toArray
attribute [go_sem] List.cons_append List.nil_append List.length_cons List.length_nil List.getElem?_cons_zero List.getElem?_cons_succ
end Go.Sy
