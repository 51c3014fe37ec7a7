/-
  Allocations whose box is named ahead: they may come up at any time in a drawn region.
-/
import Derived.Test.YtjlfblcoghiijaaSyN
namespace Go.Sy
set_option linter.all false
open Go.RowKit (Below)

section
variable {P : Program} {N n : Nat} {I0 I : Nat → Nat → Prop} {μ0 μ : List (List Place)} {B : List Box} {w0 w : World} {o : Oper} {a : Act} {fr : Fr} {ops : Array Oper}

theorem BRel.none_ (w : World) (J : Nat → Nat → Prop) (hJ : ∀ b j, J b j → b < w.heap.size) : BRel w.heap.size J [] [] w :=
  ⟨rfl, Nat.le_refl _, hJ, fun _ _ _ h => by simp at h, fun _ _ _ _ _ _ h => by simp at h, fun _ _ h => by simp at h, fun _ _ _ _ h => by simp at h⟩

/-- Old boxes behind a call that knew nothing of them. -/
theorem BRel.behind {w' : World} {I2 : Nat → Nat → Prop} (hB : BRel N I μ B w) (hb : Below w.heap.size w w') (h1 : ∀ b j, I b j → I2 b j) (h2 : ∀ b j, I2 b j → I b j ∨ (w.heap.size ≤ b ∧ b < w'.heap.size)) :
    BRel N I2 μ B w' ∧ Ext I μ w I2 μ w' ∧ Below N w w' := by
  have hs : ∀ b, b < w.heap.size → w'.heap[b]? = w.heap[b]? := hb.block
  have e0 := hB.ext_same hb.size hs
  have e : Ext I μ w I2 μ w' := ⟨⟨h1, e0.same, e0.free, e0.plain, e0.grow⟩, e0.size, e0.more, e0.news, fun b j hj => by
    rcases h2 b j hj with h | h
    · exact .inl h
    · exact .inr (.inl h.1), fun _ h => h, e0.oth⟩
  have hk := hB.keep hb.size hs
  have k : Keep I μ w' I2 μ w' := ⟨h1, fun _ _ _ => rfl, fun _ _ h => h, fun _ h => h, fun _ ps h => ⟨ps, h, fun _ h => h⟩⟩
  refine ⟨⟨hB.len, hk.low, fun b j hj => ?_, hk.places, hB.disj, fun β box h3 h4 => ?_, fun β box ps p h3 h4 h5 h6 => ?_⟩, e, ⟨hb.os, hb.tape, hb.output, hb.size, fun k hk => hs k (by have := hB.low; omega)⟩⟩
  · rcases h2 b j hj with h | h
    · exact hk.imm b j h
    · exact h.2
  · rcases hk.one β box h3 h4 with a0 | ⟨p, a1, a2, a3, ⟨vs, a4, a5⟩, a6⟩
    · exact .inl a0
    have hl := (hB.places β [p] p a1 (by simp)).2.2.lt
    exact .inr ⟨p, a1, a2, a3, ⟨vs, a4.ext k, a5⟩, fun j hj => by
      rcases h2 _ _ hj with h | h
      · exact a6 j h
      · omega⟩
  · obtain ⟨a1, ⟨vs, a2, a3⟩, a4⟩ := hk.many β box ps p h3 h4 h5 h6
    have hl := (hB.places β ps p h5 h6).2.2.lt
    exact ⟨a1, ⟨vs, a2.ext k, fun j v hj => ⟨(a3 j v hj).1, h1 _ _ (a3 j v hj).2⟩⟩, fun hk j hj hi => by
      rcases h2 _ _ hi with h | h
      · exact a4 hk j hj h
      · omega⟩


theorem opv_eq_of {fr fr' : Fr} {x : Operand} (h : ∀ t, x = .tmp t → fr t = fr' t) : opv fr x = opv fr' x := by
  cases x with
  | tmp t => exact h t rfl
  | _ => rfl

/-- No reference to a box in it. -/
def flat : CV → Bool
  | .bool _ | .int .. | .str _ | .nilP | .nilS | .nilF | .nilI => true
  | _ => false
def flat1 : CV → Bool
  | .lst _ cs _ => cs.all flat
  | c => flat c
theorem flats_any {one : Bool} {I' : Nat → Nat → Prop} {μ' : List (List Place)} {w' : World} : ∀ {cs : List CV} {vs : List Value}, R I μ w one cs vs → cs.all flat = true → R I' μ' w' one cs vs := by
  intro cs vs h
  induction h with
  | nil => intro _; exact .nil _
  | bool b _ ih => intro h; rw [List.all_cons, Bool.and_eq_true] at h; exact .bool b (ih h.2)
  | int k n _ ih => intro h; rw [List.all_cons, Bool.and_eq_true] at h; exact .int k n (ih h.2)
  | str s _ ih => intro h; rw [List.all_cons, Bool.and_eq_true] at h; exact .str s (ih h.2)
  | nilP _ ih => intro h; rw [List.all_cons, Bool.and_eq_true] at h; exact .nilP (ih h.2)
  | nilS _ ih => intro h; rw [List.all_cons, Bool.and_eq_true] at h; exact .nilS (ih h.2)
  | nilF _ ih => intro h; rw [List.all_cons, Bool.and_eq_true] at h; exact .nilF (ih h.2)
  | nilI _ ih => intro h; rw [List.all_cons, Bool.and_eq_true] at h; exact .nilI (ih h.2)
  | _ => intro h; rw [List.all_cons, Bool.and_eq_true] at h; exact absurd h.1 (by simp [flat])
theorem flat1_any {c : CV} {v : Value} {μ' : List (List Place)} (h : V I μ w c v) (hf : flat1 c = true) : V I μ' w c v := by
  cases c with
  | lst n cs full =>
    cases h with
    | lst n full b o cap h hm hn hf' tl => exact .lst n full b o cap (flats_any h hf) hm hn hf' (.nil _)
    | lstE full A tl => exact .lstE full A (.nil _)
  | _ => exact flats_any h (by simpa [flat1] using hf)

/-- A new box's name, another one in its stead. -/
def mvC (β : Nat) : CV → Option CV
  | .ptr 0 off => some (.ptr β off)
  | .view 0 off n sz full => some (.view β off n sz full)
  | .cview 0 off n cap sz => some (.cview β off n cap sz)
  | c => if flat1 c then some c else none
theorem mv_rel {ps : List Place} {μ' : List (List Place)} {β : Nat} {c c' : CV} {v : Value} (hβ : μ'[β]? = some ps) (hc : mvC β c = some c') (h : V I [ps] w c v) : V I μ' w c' v := by
  have hl : β < μ'.length := (List.getElem?_eq_some_iff.1 hβ).1
  unfold mvC at hc
  split at hc
  · simp at hc; subst hc
    cases h with
    | ptr _ off qs p hb hp hlo tl =>
      simp at hb; subst hb
      exact .ptr β _ ps p hβ hp hlo (.nil _)
  · simp at hc; subst hc
    cases h with
    | view _ off n sz full qs p cap hb hp hlo hk hn hf hr tl =>
      simp at hb; subst hb
      exact .view β _ _ _ _ ps p cap hβ hp hlo hk hn hf hr (.nil _)
    | viewE _ off sz full A hb tl => obtain ⟨qs, p, h1, h2⟩ := hb; simp at h1; subst h1; exact .viewE β _ _ _ A ⟨ps, p, hβ, h2⟩ (.nil _)
  · simp at hc; subst hc
    cases h with
    | cview _ off n cap sz qs p hb hp hlo hk hn hpl tl =>
      simp at hb; subst hb
      exact .cview β _ _ _ _ ps p hβ hp hlo hk hn hpl (.nil _)
    | cviewE _ off sz A hb tl => obtain ⟨qs, p, h1, h2⟩ := hb; simp at h1; subst h1; exact .cviewE β _ _ A ⟨ps, p, hβ, h2⟩ (.nil _)
  · split at hc
    · rename_i hf
      simp at hc; subst hc
      exact flat1_any h hf
    · cases hc

def flatO (fr : Fr) : Operand → Bool
  | .tmp t => flat1 (fr t)
  | _ => true
theorem flatO_congr {fr fr' : Fr} {x : Operand} (h : opv fr x = opv fr' x) : flatO fr x = flatO fr' x := by
  cases x with
  | tmp t => exact congrArg flat1 h
  | _ => rfl
/-- An operation that looks at no box and makes one. -/
def Made (P : Program) (o : Oper) (fr : Fr) (c : CV) (bx : Box) : Prop :=
  o.op.operands.toList.all (flatO fr) = true ∧ ev P o fr [] = some (c, [bx]) ∧ bx.multi = false ∧ bx.cells.all flat = true

/-- An operation that comes to the same over all boxes that the region ever has (J), and changes none (its name ahead stays empty). -/
def FreeOp (P : Program) (J : List Box → Prop) (o : Oper) (fr : Fr) (c : CV) : Prop := ∀ B, J B → StepC P o fr B fun c' B' => c' = c ∧ B' = B

/-- A step leaves the boxes named ahead as they are, but those whose operations it waits for or that wait for it. -/
def keepsH (bs : List Nat) (k : Nat) (B B' : List Box) : Nat → List Nat → Prop
  | _, [] => True
  | b, k' :: hs => (orders bs k' k = true ∨ B'[b]? = B[b]?) ∧ keepsH bs k B B' (b + 1) hs

def WPd (P : Program) (n : Nat) (ops : Array Oper) (bs : List Nat) (base : Nat) (hs : List Nat) (J : List Box → Prop) (Q : Fr → List Box → Prop) : Nat → List Oper → Fr → List Box → Prop
  | _, [], fr, B => Q fr B
  | k, o :: rest, fr, B => dstOk n o = true ∧ match wantC ops fr o with
    | some t => (t = true → if hs.contains k then (∃ j c bx c', hs[j]? = some k ∧ Made P o fr c bx ∧ B[base + j]? = some bx ∧ mvC (base + j) c = some c' ∧ WPd P n ops bs base hs J Q (k + 1) rest (upd fr o.dst c') B) ∨
            ∃ c, FreeOp P J o fr c ∧ WPd P n ops bs base hs J Q (k + 1) rest (upd fr o.dst c) B
          else ∃ c B', StepC P o fr B (fun c' B'' => c' = c ∧ B'' = B') ∧ (B' = B ∨ (barrier P ops.toList bs hs k = true ∧ keepsH bs k B B' base hs ∧ J B')) ∧ WPd P n ops bs base hs J Q (k + 1) rest (upd fr o.dst c) B') ∧
        (t = false → WPd P n ops bs base hs J Q (k + 1) rest (upd fr o.dst (.tup [])) B)
    | none => False

/-- Boxes named ahead. -/
def ahead (μ : List (List Place)) (H : List Box) : List (List Place) := μ ++ H.map fun _ => []
theorem ahead_old {H : List Box} {β : Nat} (h : β < μ.length) : (ahead μ H)[β]? = μ[β]? := by unfold ahead; rw [List.getElem?_append_left h]
theorem ahead_new {H : List Box} {β : Nat} (h : μ.length ≤ β) (h2 : β - μ.length < H.length) : (ahead μ H)[β]? = some [] := by
  unfold ahead; rw [List.getElem?_append_right h, List.getElem?_map, List.getElem?_eq_getElem h2]; rfl
theorem ahead_some {H : List Box} {β : Nat} {ps : List Place} {p : Place} (h : (ahead μ H)[β]? = some ps) (hp : p ∈ ps) : μ[β]? = some ps := by
  rcases Nat.lt_or_ge β μ.length with hl | hl
  · rwa [ahead_old hl] at h
  · have h2 : β - μ.length < H.length := by
      have := (List.getElem?_eq_some_iff.1 h).1
      simp [ahead] at this; omega
    rw [ahead_new hl h2] at h; simp at h; subst h; cases hp
theorem BRel.ahead (h : BRel N I μ B w) (H : List Box) : BRel N I (Go.Sy.ahead μ H) (B ++ H) w ∧ Ext I μ w I (Go.Sy.ahead μ H) w := by
  have k : Keep I μ w I (Go.Sy.ahead μ H) w := ⟨fun _ _ h => h, fun _ _ _ => rfl, fun _ _ h => h, fun _ h => h, fun β ps hβ => ⟨ps, by rw [ahead_old (List.getElem?_eq_some_iff.1 hβ).1]; exact hβ, fun _ h => h⟩⟩
  refine ⟨⟨by simp [Go.Sy.ahead, h.len], h.low, h.imm, fun β ps p h1 h2 => h.places β ps p (ahead_some h1 h2) h2, fun β β' ps ps' p p' h1 h1' h2 h2' he => h.disj β β' ps ps' p p' (ahead_some h1 h2) (ahead_some h1' h2') h2 h2' he, fun β box h1 h2 => ?_, fun β box ps p h1 h2 h3 h4 => ?_⟩,
    ⟨k, Nat.le_refl _, fun β ps ps' h1 h2 p hp => ?_, fun β ps h1 h2 p hp => ?_, fun _ _ h => .inl h, fun β hβ => by rw [ahead_old (List.getElem?_eq_some_iff.1 hβ).1]; exact hβ, fun _ _ h _ => h⟩⟩
  · rcases Nat.lt_or_ge β B.length with hl | hl
    · rw [List.getElem?_append_left hl] at h1
      rw [ahead_old (by rw [h.len]; exact hl)]
      rcases h.one β box h1 h2 with a0 | ⟨p, a1, a2, a3, ⟨vs, a4, a5⟩, a6⟩
      · exact .inl a0
      · exact .inr ⟨p, a1, a2, a3, ⟨vs, a4.ext k, a5⟩, a6⟩
    · refine .inl (ahead_new (by rw [h.len]; exact hl) ?_)
      have := (List.getElem?_eq_some_iff.1 h1).1
      simp at this; have := h.len; omega
  · have h3' := ahead_some h3 h4
    have hl : β < B.length := by rw [← h.len]; exact (List.getElem?_eq_some_iff.1 h3').1
    rw [List.getElem?_append_left hl] at h1
    obtain ⟨a1, ⟨vs, a2, a3⟩, a4⟩ := h.many β box ps p h1 h2 h3' h4
    exact ⟨a1, ⟨vs, a2.ext k, a3⟩, a4⟩
  · have h2' := ahead_some h2 hp
    rw [h1] at h2'; simp at h2'; subst h2'
    exact .inl ⟨p, hp, rfl⟩
  · have := (List.getElem?_eq_some_iff.1 (ahead_some h2 hp)).1
    omega

theorem Ext.len {I' : Nat → Nat → Prop} {μ' : List (List Place)} {w' : World} (h : Ext I μ w I' μ' w') : μ.length ≤ μ'.length := by
  rcases Nat.lt_or_ge μ'.length μ.length with hl | hl
  · have := h.toKeep.len (β := μ'.length) hl; omega
  · exact hl

theorem St.ahead (h : St N n I0 μ0 w0 fr B a I μ w) (H : List Box) : St N n I0 μ0 w0 fr (B ++ H) a I (Go.Sy.ahead μ H) w :=
  have ⟨h1, h2⟩ := h.box.ahead H
  ⟨h.size, h.defers, fun i => (h.frame i).ext h2.toKeep, h1, h.ext.trans h2, h.below⟩

theorem made_sound {c c' : CV} {bx : Box} {β : Nat} {K : Act → World → Prop} {Q' : Exit → Act → World → Prop} (hs : St N n I0 μ0 w0 fr B a I μ w) (hm : Made P o fr c bx) (hB : B[β]? = some bx) (h0 : μ[β]? = some []) (hβ0 : μ0.length ≤ β)
    (hc : mvC β c = some c') (hd : ∀ t, o.dst = some t → t < n)
    (hk : ∀ v I' w' ps, St N n I0 μ0 w0 (upd fr o.dst c') B (a.put o.dst v) I' (μ.set β ps) w' → K (a.put o.dst v) w') : o.wp P a w K Q' := by
  obtain ⟨m1, m2, m3, m4⟩ := hm
  let fr' : Fr := fun i => if flat1 (fr i) then fr i else .raw (a.tmps.getD i undef)
  have hfr' : ∀ i, V I [] w (fr' i) (a.tmps.getD i undef) := by
    intro i
    show V I [] w (if flat1 (fr i) then fr i else .raw (a.tmps.getD i undef)) _
    split
    · rename_i hf; exact flat1_any (hs.frame i) hf
    · exact .raw _ (by simp) (.nil _)
  have hev : ev P o fr' [] = some (c, [bx]) := by
    rw [← m2]
    refine ev_congr fun x hx => opv_eq_of fun t ht => ?_
    subst ht
    have this : flat1 (fr t) = true := List.all_eq_true.1 m1 (.tmp t) (by simpa using hx)
    show (if flat1 (fr t) then fr t else _) = fr t
    rw [if_pos this]
  obtain ⟨nx, v, I', μ1, w', h1, h2, h3⟩ := ev_sound (a := a) (BRel.none_ w I hs.box.imm) hfr' hev
  obtain ⟨ps, rfl⟩ : ∃ ps, μ1 = [ps] := by
    have := h3.box.len
    match μ1, this with
    | [ps], _ => exact ⟨ps, rfl⟩
  have hII : ∀ b j, I' b j → I b j ∨ (w.heap.size ≤ b ∧ b < w'.heap.size) := by
    intro b j hj
    rcases h3.ext.immN b j hj with h | h | ⟨γ, qs, p, h, _⟩
    · exact .inl h
    · exact .inr ⟨h, h3.box.imm b j hj⟩
    · simp at h
  obtain ⟨b1, b2, b3⟩ := hs.box.behind h3.below h3.ext.imm hII
  have hlβ : β < μ.length := (List.getElem?_eq_some_iff.1 h0).1
  have hset : (μ.set β ps)[β]? = some ps := by rw [List.getElem?_set, if_pos rfl, if_pos hlβ]
  have hne : ∀ γ, γ ≠ β → (μ.set β ps)[γ]? = μ[γ]? := fun γ hγ => by rw [List.getElem?_set, if_neg (fun h => hγ h.symm)]
  have hnew : ∀ p ∈ ps, w.heap.size ≤ p.b ∧ p.lo ≤ p.k ∧ Free w' p.b (p.o + (p.k - p.lo)) := fun p hp => h3.box.places 0 ps p rfl hp
  have hk1 : Keep I' μ w' I' (μ.set β ps) w' := ⟨fun _ _ h => h, fun _ _ _ => rfl, fun _ _ h => h, fun _ h => h, fun γ qs hγ => by
    by_cases hγβ : γ = β
    · subst hγβ; rw [h0] at hγ; simp at hγ; subst hγ
      exact ⟨ps, hset, fun _ h => by cases h⟩
    · exact ⟨qs, by rw [hne γ hγβ]; exact hγ, fun _ h => h⟩⟩
  have hbox : BRel N I' (μ.set β ps) B w' := by
    refine ⟨by simpa using b1.len, b1.low, b1.imm, fun γ qs p g1 g2 => ?_, fun γ γ' qs qs' p p' g1 g1' g2 g2' he => ?_, fun γ box g1 g2 => ?_, fun γ box qs p g1 g2 g3 g4 => ?_⟩
    · by_cases hγ : γ = β
      · subst hγ; rw [hset] at g1; simp at g1; subst g1
        obtain ⟨x1, x2, x3⟩ := hnew p g2
        exact ⟨Nat.le_trans hs.box.low x1, x2, x3⟩
      · rw [hne γ hγ] at g1; exact b1.places γ qs p g1 g2
    · by_cases hγ : γ = β <;> by_cases hγ' : γ' = β
      · rw [hγ, hγ']
      · subst hγ; rw [hset] at g1; simp at g1; subst g1
        rw [hne γ' hγ'] at g1'
        have := (hs.box.places γ' qs' p' g1' g2').2.2.lt
        have := (hnew p g2).1
        omega
      · subst hγ'; rw [hset] at g1'; simp at g1'; subst g1'
        rw [hne γ hγ] at g1
        have := (hs.box.places γ qs p g1 g2).2.2.lt
        have := (hnew p' g2').1
        omega
      · rw [hne γ hγ] at g1; rw [hne γ' hγ'] at g1'
        exact b1.disj γ γ' qs qs' p p' g1 g1' g2 g2' he
    · by_cases hγ : γ = β
      · subst hγ; rw [hB] at g1; simp at g1; subst g1
        rcases h3.box.one 0 bx rfl g2 with a0 | ⟨p, a1, a2, a3, ⟨vs, a4, a5⟩, a6⟩
        · exact .inl (by simp at a0; rw [hset, a0])
        · exact .inr ⟨p, by simp at a1; rw [hset, a1], a2, a3, ⟨vs, flats_any a4 m4, a5⟩, a6⟩
      · rcases b1.one γ box g1 g2 with a0 | ⟨p, a1, a2, a3, ⟨vs, a4, a5⟩, a6⟩
        · exact .inl (by rw [hne γ hγ]; exact a0)
        · exact .inr ⟨p, by rw [hne γ hγ]; exact a1, a2, a3, ⟨vs, a4.ext hk1, a5⟩, a6⟩
    · by_cases hγ : γ = β
      · subst hγ; rw [hB] at g1; simp at g1; subst g1; rw [m3] at g2; cases g2
      · rw [hne γ hγ] at g3
        obtain ⟨a1, ⟨vs, a2, a3⟩, a4⟩ := b1.many γ box qs p g1 g2 g3 g4
        exact ⟨a1, ⟨vs, a2.ext hk1, a3⟩, a4⟩
  have hE := hs.ext.trans b2
  have hμ0 : ∀ γ, γ < μ0.length → (μ.set β ps)[γ]? = μ[γ]? := fun γ hγ => hne γ (by omega)
  have hext : Ext I0 μ0 w0 I' (μ.set β ps) w' := by
    refine ⟨⟨hE.imm, hE.same, hE.free, hE.plain, fun γ qs hγ => ?_⟩, hE.size, fun γ qs qs' hγ hγ' p hp => ?_, fun γ qs hγ hγ' p hp => ?_, hE.immN, fun γ hγ => ?_, hE.oth⟩
    · rw [hμ0 γ (List.getElem?_eq_some_iff.1 hγ).1]; exact hE.grow γ qs hγ
    · rw [hμ0 γ (List.getElem?_eq_some_iff.1 hγ).1] at hγ'; exact hE.more γ qs qs' hγ hγ' p hp
    · by_cases h : γ = β
      · subst h; rw [hset] at hγ'; simp at hγ'; subst hγ'
        exact Nat.le_trans hs.ext.size (hnew p hp).1
      · rw [hne γ h] at hγ'; exact hE.news γ qs hγ hγ' p hp
    · rw [hμ0 γ (List.getElem?_eq_some_iff.1 hγ).1]; exact hE.gone γ hγ
  have hv : V I' (μ.set β ps) w' c' v := mv_rel hset hc h3.val
  have hst : St N n I0 μ0 w0 (upd fr o.dst c') B (a.put o.dst v) I' (μ.set β ps) w' := by
    refine ⟨by cases o.dst <;> simp [Act.put, hs.size], by cases o.dst <;> exact hs.defers.ext b2.oth, fun i => ?_, hbox, hext, hs.below.trans b3⟩
    have hold : V I' (μ.set β ps) w' (fr i) (a.tmps.getD i undef) := ((hs.frame i).ext b2.toKeep).ext hk1
    rw [put_getD a o.dst v (fun t ht => by rw [hs.size]; exact hd t ht)]
    unfold upd
    cases hdst : o.dst with
    | none => simpa using hold
    | some t =>
      by_cases ht : i = t
      · subst ht; simpa using hv
      · rw [if_neg (by simpa using fun h => ht h.symm)]
        simp only [if_neg ht]
        exact hold
  unfold Oper.wp
  rw [h1]
  cases nx <;> simp only [nxv] at h2 <;> try cases h2
  · exact hk _ _ _ _ hst
  · exact hk _ _ _ _ hst

end
end Go.Sy
