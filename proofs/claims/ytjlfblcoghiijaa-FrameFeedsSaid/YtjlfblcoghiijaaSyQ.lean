/-
  A function that keeps nothing and is handed no pointer: its contract is one on values; how it serves at a call.
-/
import Derived.Test.YtjlfblcoghiijaaSyP
namespace Go.Sy
set_option linter.all false
open Go.RowKit (Below)

def omap (f : CV → Option CV) : List CV → Option (List CV)
  | [] => some []
  | c :: l => match f c, omap f l with | some c', some l' => some (c' :: l') | _, _ => none

/-- A value as it reads now, with no reference to a box left. 'nz': a nil slice reads as an empty one, and nothing is said of spare capacity. 'fr': what is there is the call's own (nothing immutable in it). -/
def fz (nz fr : Bool) (B : List Box) : Nat → CV → Option CV
  | 0, _ => none
  | k + 1, c => match c with
    | .view b off n sz full => match B[b]? with | some box => (omap (fz nz fr B k) ((box.cells.drop off).take (n * sz))).map fun cs => .lst n cs (full && !nz) | none => none
    | .cview b off n _ sz => match B[b]? with | some box => (omap (fz nz fr B k) ((box.cells.drop off).take (n * sz))).map fun cs => .lst n cs false | none => none
    | .ptr b off => match B[b]? with | some box => if box.multi then none else (omap (fz nz fr B k) (box.cells.drop off)).map .iptr | none => none
    | .agg cs => (omap (fz nz fr B k) cs).map .agg
    | .tup cs => (omap (fz nz fr B k) cs).map .tup
    | .nilS => some (if nz then .lst 0 [] false else .nilS)
    | .lst n cs full => if fr && !cs.isEmpty then none else (omap (fz nz fr B k) cs).map fun cs => .lst n cs (full && !nz)
    | .iptr cs => if fr && !cs.isEmpty then none else (omap (fz nz fr B k) cs).map .iptr
    | .fn f x y => match omap (fz nz fr B k) x, omap (fz nz fr B k) y with | some x, some y => some (.fn f x y) | _, _ => none
    | .iface t v => (fz nz fr B k v).map (.iface t)
    | c => some c

section
variable {P : Program} {N : Nat} {I : Nat → Nat → Prop} {μ : List (List Place)} {B : List Box} {w : World}

theorem omap_cons {f : CV → Option CV} {c : CV} {l r : List CV} (h : omap f (c :: l) = some r) : ∃ c' l', r = c' :: l' ∧ f c = some c' ∧ omap f l = some l' := by
  simp only [omap] at h
  split at h
  · rename_i c' l' h1 h2; simp at h; exact ⟨c', l', h.symm, h1, h2⟩
  · cases h

theorem fz_keep {fr one : Bool} {J : Nat → Nat → Prop} {as : List CV} {bs : List Value} (hfe : ¬ (fr && !as.isEmpty) = true) (h : R I μ w one as bs) (hI : fr = false → ∀ b j, I b j → J b j) {b j i : Nat} {v : Value} (hi : I b j) (hv : bs[i]? = some v) : J b j := by
  cases fr with
  | false => exact hI rfl _ _ hi
  | true =>
    cases as with
    | nil => rw [R.nil_iff] at h; subst h; simp at hv
    | cons a as => simp at hfe

/-- WHOEVER READS A FROZEN VALUE reads what lies there: all that is there is immutable for the time of the call ('J'). -/
theorem fz_rel {nz fr : Bool} {J : Nat → Nat → Prop} (hB : BRel N I μ B w) (hI : fr = false → ∀ b j, I b j → J b j) (hP : ∀ (β : Nat) (ps : List Place) (p : Place) (j : Nat), μ[β]? = some ps → p ∈ ps → J p.b j) : ∀ (k : Nat) (one : Bool) (cs : List CV) (vs : List Value) (cs' : List CV), R I μ w one cs vs → omap (fz nz fr B k) cs = some cs' → R J [] w one cs' vs := by
  intro k
  induction k with
  | zero =>
    intro one cs vs cs' h hc
    cases cs with
    | nil => simp [omap] at hc; subst hc; rw [R.nil_iff] at h; subst h; exact .nil _
    | cons c cs => simp [omap, fz] at hc
  | succ k ih =>
    intro one cs
    induction cs with
    | nil => intro vs cs' h hc; simp [omap] at hc; subst hc; rw [R.nil_iff] at h; subst h; exact .nil _
    | cons c cs ihl =>
      intro vs cs' h hc
      obtain ⟨v, vs, rfl, h1, h2, h3⟩ := R.cons_iff.1 h
      obtain ⟨c', l', rfl, hf, hl⟩ := omap_cons hc
      refine .cons ?_ h2 (ihl vs l' h3 hl)
      clear ihl h hc h3 hl
      cases h1 with
      | bool b _ => simp [fz] at hf; subst hf; exact .bool _ (.nil _)
      | int k n _ => simp [fz] at hf; subst hf; exact .int _ _ (.nil _)
      | str s _ => simp [fz] at hf; subst hf; exact .str _ (.nil _)
      | nilP _ => simp [fz] at hf; subst hf; exact .nilP (.nil _)
      | nilS _ =>
        simp [fz] at hf; subst hf
        cases nz
        · exact .nilS (.nil _)
        · exact .lstE _ _ (.nil _)
      | nilF _ => simp [fz] at hf; subst hf; exact .nilF (.nil _)
      | nilI _ => simp [fz] at hf; subst hf; exact .nilI (.nil _)
      | raw v h _ => simp [fz] at hf; subst hf; exact .raw v h (.nil _)
      | agg h _ => simp only [fz, Option.map_eq_some_iff] at hf; obtain ⟨cs, hf, rfl⟩ := hf; exact .agg (ih _ _ _ _ h hf) (.nil _)
      | tup h _ => simp only [fz, Option.map_eq_some_iff] at hf; obtain ⟨cs, hf, rfl⟩ := hf; exact .tup (ih _ _ _ _ h hf) (.nil _)
      | lst n full b o cap h hm hn hfu _ =>
        simp only [fz] at hf
        split at hf
        · cases hf
        · rename_i hfe
          simp only [Option.map_eq_some_iff] at hf; obtain ⟨cs, hf, rfl⟩ := hf
          refine .lst n _ b o cap (ih _ _ _ _ h hf) (fun j v hj => ⟨(hm j v hj).1, ?_⟩) hn (fun hx => hfu (by simp at hx; exact hx.1)) (.nil _)
          exact fz_keep hfe h hI (hm j v hj).2 hj
      | lstE full A _ => simp [fz, omap] at hf; subst hf; exact .lstE _ A (.nil _)
      | view β off n sz full ps p cap hb hp hlo hk hn hfu hr _ =>
        simp only [fz] at hf
        split at hf
        · rename_i box hbx
          simp only [Option.map_eq_some_iff] at hf
          obtain ⟨cs, hf, rfl⟩ := hf
          obtain ⟨_, us, g1, g2, g3, _⟩ := view_cells hB hbx hb hp hlo hk (s := off) (e := n * sz) (Nat.le_refl _) (Nat.le_refl _)
          exact .lst n _ _ _ cap (ih _ _ _ _ g1 hf) (fun j v hj => ⟨g3 j v hj, hP β ps p _ hb hp⟩) hn (fun hx => hfu (by simp at hx; exact hx.1)) (.nil _)
        · cases hf
      | viewE β off sz full A hb _ =>
        simp only [fz] at hf
        split at hf
        · simp [omap] at hf; subst hf; exact .lstE _ A (.nil _)
        · cases hf
      | cview β off n cap sz ps p hb hp hlo hk hn hpl _ =>
        simp only [fz] at hf
        split at hf
        · rename_i box hbx
          simp only [Option.map_eq_some_iff] at hf
          obtain ⟨cs, hf, rfl⟩ := hf
          have hmul : n * sz ≤ cap * sz := Nat.mul_le_mul_right _ hn
          obtain ⟨_, us, g1, g2, g3, _⟩ := view_cells hB hbx hb hp hlo (n := n) (sz := sz) (by omega) (s := off) (e := n * sz) (Nat.le_refl _) (Nat.le_refl _)
          exact .lst n _ _ _ cap (ih _ _ _ _ g1 hf) (fun j v hj => ⟨g3 j v hj, hP β ps p _ hb hp⟩) hn (by simp) (.nil _)
        · cases hf
      | cviewE β off sz A hb _ =>
        simp only [fz] at hf
        split at hf
        · simp [omap] at hf; subst hf; exact .lstE _ A (.nil _)
        · cases hf
      | ptr β off ps p hb hp hlo _ =>
        simp only [fz] at hf
        split at hf
        · rename_i box hbx
          split at hf
          · cases hf
          · rename_i hm
            simp only [Option.map_eq_some_iff] at hf
            obtain ⟨cs, hf, rfl⟩ := hf
            obtain ⟨p', us, q1, q2, q3, q4⟩ := box_ptr hB (.ptr β off ps p hb hp hlo (.nil _)) hbx (by simpa using hm)
            rw [q2]
            refine .iptr _ _ (ih _ _ _ _ (q3.drop off) hf) (fun j v hj => ⟨?_, hP β [p'] p' _ q1 (by simp)⟩) (.nil _)
            rw [List.getElem?_drop] at hj
            rw [Nat.add_assoc]
            exact q4 _ v hj
        · cases hf
      | iptr b o h hm _ =>
        simp only [fz] at hf
        split at hf
        · cases hf
        · rename_i hfe
          simp only [Option.map_eq_some_iff] at hf; obtain ⟨cs, hf, rfl⟩ := hf
          exact .iptr b o (ih _ _ _ _ h hf) (fun j v hj => ⟨(hm j v hj).1, fz_keep hfe h hI (hm j v hj).2 hj⟩) (.nil _)
      | fn f h h' _ =>
        simp only [fz] at hf
        split at hf
        · rename_i x y e1 e2
          simp at hf; subst hf
          exact .fn f (ih _ _ _ _ h e1) (ih _ _ _ _ h' e2) (.nil _)
        · cases hf
      | iface t h _ =>
        simp only [fz, Option.map_eq_some_iff] at hf
        obtain ⟨v', hf, rfl⟩ := hf
        exact .iface t (ih _ _ _ _ h (by simp [omap, hf])) (.nil _)

/-- No reference in it, scalars and what is made of them. -/
abbrev Scalar (c : CV) : Prop := (toV c).isSome = true

theorem toVL_cons (c : CV) (l : List CV) : (toVL (c :: l)).isSome = ((toV c).isSome && (toVL l).isSome) := by
  simp only [toVL]
  cases toV c <;> cases toVL l <;> rfl

theorem scalars_any {J J' : Nat → Nat → Prop} {μ' : List (List Place)} {w' : World} {one : Bool} {cs : List CV} {vs : List Value} (h : R J μ w one cs vs) : (toVL cs).isSome = true → R J' μ' w' one cs vs := by
  induction h with
  | nil one => intro _; exact .nil one
  | bool b _ ih => intro h; rw [toVL_cons, Bool.and_eq_true] at h; exact .bool b (ih h.2)
  | int k n _ ih => intro h; rw [toVL_cons, Bool.and_eq_true] at h; exact .int k n (ih h.2)
  | str s _ ih => intro h; rw [toVL_cons, Bool.and_eq_true] at h; exact .str s (ih h.2)
  | nilP _ ih => intro h; rw [toVL_cons, Bool.and_eq_true] at h; exact .nilP (ih h.2)
  | nilS _ ih => intro h; rw [toVL_cons, Bool.and_eq_true] at h; exact .nilS (ih h.2)
  | nilF _ ih => intro h; rw [toVL_cons, Bool.and_eq_true] at h; exact .nilF (ih h.2)
  | nilI _ ih => intro h; rw [toVL_cons, Bool.and_eq_true] at h; exact .nilI (ih h.2)
  | raw v h1 _ ih => intro h; rw [toVL_cons, Bool.and_eq_true] at h; exact .raw v h1 (ih h.2)
  | agg _ _ ih1 ih2 =>
    intro h; rw [toVL_cons, Bool.and_eq_true] at h
    exact .agg (ih1 (by have := h.1; simpa [toV] using this)) (ih2 h.2)
  | tup _ _ ih1 ih2 =>
    intro h; rw [toVL_cons, Bool.and_eq_true] at h
    exact .tup (ih1 (by have := h.1; simpa [toV] using this)) (ih2 h.2)
  | lst | lstE | view | viewE | cview | cviewE | ptr | iptr => intro h; rw [toVL_cons, Bool.and_eq_true] at h; have := h.1; simp [toV] at this
  | fn f _ _ _ ih1 ih2 ih3 =>
    intro h; rw [toVL_cons, Bool.and_eq_true] at h
    have h1 := h.1
    simp only [toV] at h1
    split at h1
    · rename_i x y e1 e2
      exact .fn f (ih1 (by rw [e1]; rfl)) (ih2 (by rw [e2]; rfl)) (ih3 h.2)
    · cases h1
  | iface t _ _ ih1 ih2 =>
    intro h; rw [toVL_cons, Bool.and_eq_true] at h
    exact .iface t (ih1 (by rw [toVL_cons]; have := h.1; simpa [toV, toVL] using this)) (ih2 h.2)

theorem scalar_any {J J' : Nat → Nat → Prop} {μ' : List (List Place)} {w' : World} {c : CV} {v : Value} (hs : Scalar c) (h : V J μ w c v) : V J' μ' w' c v :=
  scalars_any h (by rw [toVL_cons]; simpa [toVL] using hs)

/-- The cells of a row that a callee made become a box of the caller's. -/
theorem BRel.adopt {w0 : World} (h : BRel N I μ B w) (h0 : Ext I μ w0 I μ w) {b o len : Nat} {cs : List CV} {vs : List Value} (hN : N ≤ b) (hb : w0.heap.size ≤ b) (hold : ∀ (β : Nat) (ps : List Place) (p : Place), μ[β]? = some ps → p ∈ ps → p.b ≠ b)
    (hI : ∀ j, ¬ I b j) (hf : Free w b (o + len)) (hl : cs.length = len) (hr : R I μ w true cs vs) (hc : ∀ j v, vs[j]? = some v → w.cell? ⟨b, o + j, none⟩ = some v) :
    BRel N I (μ ++ [[⟨b, 0, o, len⟩]]) (B ++ [{ cells := cs }]) w ∧ Ext I μ w0 I (μ ++ [[⟨b, 0, o, len⟩]]) w := by
  subst hl
  have grow : ∀ (β : Nat) (ps : List Place), μ[β]? = some ps → ∃ ps', (μ ++ [[(⟨b, 0, o, cs.length⟩ : Place)]])[β]? = some ps' ∧ ∀ p ∈ ps, p ∈ ps' := fun β ps hβ =>
    ⟨ps, by rw [List.getElem?_append_left (List.getElem?_eq_some_iff.1 hβ).1]; exact hβ, fun _ h => h⟩
  have k : Keep I μ w I (μ ++ [[⟨b, 0, o, cs.length⟩]]) w := ⟨fun _ _ h => h, fun _ _ _ => rfl, fun _ _ h => h, fun _ h => h, grow⟩
  have pl : ∀ (β : Nat) (ps : List Place) (p : Place), (μ ++ [[(⟨b, 0, o, cs.length⟩ : Place)]])[β]? = some ps → p ∈ ps → (μ[β]? = some ps) ∨ (β = μ.length ∧ p = ⟨b, 0, o, cs.length⟩) := by
    intro β ps p h1 h2
    rcases Nat.lt_or_ge β μ.length with hl | hl
    · rw [List.getElem?_append_left hl] at h1; exact .inl h1
    · rw [List.getElem?_append_right hl] at h1
      rcases Nat.eq_zero_or_pos (β - μ.length) with h0 | h0
      · rw [h0] at h1; simp at h1; subst h1
        exact .inr ⟨by omega, by simpa using h2⟩
      · rw [List.getElem?_eq_none (by simp; omega)] at h1; cases h1
  refine ⟨⟨by simp [h.len], h.low, h.imm, fun β ps p h1 h2 => ?_, fun β β' ps ps' p p' h1 h1' h2 h2' he => ?_, fun β box h1 h2 => ?_, fun β box ps p h1 h2 h3 h4 => ?_⟩, ⟨⟨h0.imm, h0.same, h0.free, h0.plain, grow⟩, h0.size, fun β ps ps' hβ hβ' p hp => ?_, fun β ps hβ hβ' p hp => ?_, h0.immN, fun β hβ => by rw [List.getElem?_append_left (List.getElem?_eq_some_iff.1 hβ).1]; exact hβ, h0.oth⟩⟩
  · rcases pl β ps p h1 h2 with h1 | ⟨rfl, rfl⟩
    · exact h.places β ps p h1 h2
    · exact ⟨hN, Nat.zero_le _, by simpa using hf⟩
  · rcases pl β ps p h1 h2 with h1 | ⟨rfl, rfl⟩ <;> rcases pl β' ps' p' h1' h2' with h1' | ⟨rfl, rfl⟩
    · exact h.disj β β' ps ps' p p' h1 h1' h2 h2' he
    · exact absurd he (hold _ _ _ h1 h2)
    · exact absurd he.symm (hold _ _ _ h1' h2')
    · rfl
  · rcases Nat.lt_or_ge β B.length with hl | hl
    · rw [List.getElem?_append_left hl] at h1
      rcases h.one β box h1 h2 with a0 | ⟨p, a1, a2, a3, ⟨us, a4, a5⟩, a6⟩
      · exact .inl (by rw [List.getElem?_append_left (by rw [h.len]; exact hl)]; exact a0)
      exact .inr ⟨p, by rw [List.getElem?_append_left (by rw [h.len]; exact hl)]; exact a1, a2, a3, ⟨us, a4.ext k, a5⟩, a6⟩
    · rw [List.getElem?_append_right hl] at h1
      rcases Nat.eq_zero_or_pos (β - B.length) with h0 | h0
      · rw [h0] at h1; simp at h1; subst h1
        refine .inr ⟨⟨b, 0, o, cs.length⟩, ?_, rfl, rfl, ⟨vs, hr.ext k, hc⟩, hI⟩
        rw [List.getElem?_append_right (by rw [h.len]; exact hl), h.len, h0]; rfl
      · rw [List.getElem?_eq_none (by simp; omega)] at h1; cases h1
  · rcases Nat.lt_or_ge β B.length with hl | hl
    · rw [List.getElem?_append_left hl] at h1
      rw [List.getElem?_append_left (by rw [h.len]; exact hl)] at h3
      obtain ⟨a1, ⟨us, a2, a3⟩, a4⟩ := h.many β box ps p h1 h2 h3 h4
      exact ⟨a1, ⟨us, a2.ext k, a3⟩, a4⟩
    · rw [List.getElem?_append_right hl] at h1
      rcases Nat.eq_zero_or_pos (β - B.length) with h0 | h0
      · rw [h0] at h1; simp at h1; subst h1; cases h2
      · rw [List.getElem?_eq_none (by simp; omega)] at h1; cases h1
  · rw [List.getElem?_append_left (List.getElem?_eq_some_iff.1 hβ).1, hβ] at hβ'
    simp at hβ'; subst hβ'
    exact .inl ⟨p, hp, rfl⟩
  · rcases pl β ps p hβ' hp with h1 | ⟨_, rfl⟩
    · have := (List.getElem?_eq_some_iff.1 h1).1; omega
    · exact hb

/-- The call as a function of values: no box is handed in; the callee's own boxes are named in what comes back. -/
theorem acall_pure_core {f : FuncId} {args args' : List CV} {Q : CV → List Box → Prop} {nz : Bool} (hz : omap (fz nz false B 6) args = some args') (h : ACall P f args' [] Q) {Q' : CV → List Box → Prop}
    (hq : ∀ (N : Nat) (I : Nat → Nat → Prop) (μ : List (List Place)) (w w' : World) (c : CV) (v : Value) (B1 : List Box) (J J1 : Nat → Nat → Prop) (μ1 : List (List Place)), BRel N I μ B w → Q c B1 → Step w.heap.size J [] w c v B1 J1 μ1 w' → BRel N I μ B w' → Ext I μ w I μ w' → Below N w w' →
      ∃ c' B' I' μ', Q' c' B' ∧ Step N I μ w c' v B' I' μ' w') : ACall P f args B Q' := by
  refine ⟨h.1, fun N I μ w vs hB hv => ?_⟩
  have hv' := fz_rel (J := fun b _ => b < w.heap.size) hB (fun _ b j h => hB.imm b j h) (fun β ps p _ h1 h2 => (hB.places β ps p h1 h2).2.2.lt) 6 false args vs args' hv hz
  refine (h.2 w.heap.size (fun b _ => b < w.heap.size) [] w vs (BRel.none_ w _ fun _ _ h => h) hv').mono fun e w' ⟨c, v, B1, J1, μ1, he, hQ, hs⟩ => ?_
  obtain ⟨g1, g2, g3⟩ := hB.behind (I2 := I) hs.below (fun _ _ h => h) (fun _ _ h => .inl h)
  obtain ⟨c', B', I', μ', h1, h2⟩ := hq N I μ w w' c v B1 _ J1 μ1 hB hQ hs g1 g2 g3
  exact ⟨c', v, B', I', μ', he, h1, h2⟩

/-- What is handed back is a scalar. -/
theorem acall_scalar {f : FuncId} {args args' : List CV} {Q : CV → List Box → Prop} {nz : Bool} (hz : omap (fz nz false B 6) args = some args') (h : ACall P f args' [] Q) (hs : ∀ c B1, Q c B1 → Scalar c) : ACall P f args B fun c B' => (∃ B1, Q c B1) ∧ B' = B :=
  acall_pure_core hz h fun _ I μ _ _ c _ B1 _ _ _ _ hQ hst g1 g2 g3 => ⟨c, B, I, μ, ⟨⟨B1, hQ⟩, rfl⟩, scalar_any (hs c B1 hQ) hst.val, g1, g2, g3⟩

/-- A callee's own row, as it stands in the caller. -/
def ownC (B : List Box) (n sz : Nat) (full : Bool) (cells : List CV) : CV × List Box := if n = 0 then (.lst 0 [] full, B) else (.view B.length 0 n sz full, B ++ [{ cells := cells }])

theorem adopt_view {N1 : Nat} {J1 : Nat → Nat → Prop} {μ1 : List (List Place)} {B1 : List Box} {w0 : World} {b off n sz : Nat} {full : Bool} {box : Box} {v : Value} (hst : BRel N1 J1 μ1 B1 w) (hv : V J1 μ1 w (.view b off n sz full) v) (hbx : B1[b]? = some box)
    (hsc : (toVL ((box.cells.drop off).take (n * sz))).isSome = true) (hN1 : N1 = w0.heap.size) (g1 : BRel N I μ B w) (g2 : Ext I μ w0 I μ w) (hB0 : BRel N I μ B w0) :
    ∃ μ', V I μ' w (ownC B n sz full ((box.cells.drop off).take (n * sz))).1 v ∧ BRel N I μ' (ownC B n sz full ((box.cells.drop off).take (n * sz))).2 w ∧ Ext I μ w0 I μ' w ∧ (∀ J μx, ∀ c v, V J μx w c v → Scalar c → V I μ' w c v) := by
  rcases hv.view_inv with ⟨ps, p, cap, rfl, h2, h3, h4, h5, h6, h7, h8⟩ | ⟨A, rfl, rfl, _⟩
  · by_cases hn : n = 0
    · subst hn
      refine ⟨μ, ?_, ?_, g2, fun J μx c v h hs => scalar_any hs h⟩
      · simp only [ownC, if_pos]
        exact .lst 0 full _ _ cap (.nil _) (fun j v hj => by simp at hj) (Nat.zero_le _) h7 (.nil _)
      · simpa [ownC] using g1
    · obtain ⟨c1, vs, e1, e2, e3, _⟩ := view_cells hst hbx h2 h3 h4 h5 (s := off) (e := n * sz) (Nat.le_refl _) (Nat.le_refl _)
      have hpb : w0.heap.size ≤ p.b := by have := (hst.places b ps p h2 h3).1; omega
      have hlen : ((box.cells.drop off).take (n * sz)).length = n * sz := by rw [e1.len, e2]
      obtain ⟨k1, k2⟩ := g1.adopt g2 (b := p.b) (o := p.o + (off - p.lo)) (len := n * sz) (by have := hB0.low; omega) hpb (fun β qs q hq hm => by
        have := (hB0.places β qs q hq hm).2.2.lt; omega) (fun j hj => by have := hB0.imm _ _ hj; omega) (h8.less (by have : n * sz ≤ cap * sz := Nat.mul_le_mul_right _ h6; omega)) hlen (scalars_any e1 hsc) e3
      refine ⟨_, ?_, ?_, k2, fun J μx c v h hs => scalar_any hs h⟩
      · simp only [ownC, if_neg hn]
        have := R.view (I := I) (w := w) (one := false) B.length 0 n sz full [⟨p.b, 0, p.o + (off - p.lo), n * sz⟩] ⟨p.b, 0, p.o + (off - p.lo), n * sz⟩ cap (last_place g1 _) (List.mem_singleton.2 rfl) (Nat.le_refl _) (by simp) h6 h7 (by simpa using h8) (.nil _)
        simpa using this
      · simp only [ownC, if_neg hn]; exact k1
  · refine ⟨μ, ?_, ?_, g2, fun J μx c v h hs => scalar_any hs h⟩
    · simp only [ownC, if_pos]; exact .lstE full A (.nil _)
    · simpa [ownC] using g1

/-- What is handed back is a row of scalars that the callee made. -/
theorem acall_own {f : FuncId} {args args' : List CV} {Q : CV → List Box → Prop} {nz : Bool} (hz : omap (fz nz false B 6) args = some args') (h : ACall P f args' [] Q) {Q' : CV → List Box → Prop}
    (hq : ∀ c B1, Q c B1 → ∃ b off n sz full box, c = .view b off n sz full ∧ B1[b]? = some box ∧ (toVL ((box.cells.drop off).take (n * sz))).isSome = true ∧ Q' (ownC B n sz full ((box.cells.drop off).take (n * sz))).1 (ownC B n sz full ((box.cells.drop off).take (n * sz))).2) :
    ACall P f args B Q' :=
  acall_pure_core hz h fun N I μ w w' c v B1 J J1 μ1 hB0 hQ hst g1 g2 g3 => by
    obtain ⟨b, off, n, sz, full, box, rfl, h1, h2, h3⟩ := hq c B1 hQ
    obtain ⟨μ', k1, k2, k3, _⟩ := adopt_view hst.box hst.val h1 h2 rfl g1 g2 hB0
    exact ⟨_, _, I, μ', h3, k1, k2, k3, g3⟩

/-- The same beside scalars. -/
theorem acall_own_tup {f : FuncId} {args args' : List CV} {Q : CV → List Box → Prop} {nz : Bool} (hz : omap (fz nz false B 6) args = some args') (h : ACall P f args' [] Q) {Q' : CV → List Box → Prop}
    (hq : ∀ c B1, Q c B1 → ∃ b off n sz full box rest, c = .tup (.view b off n sz full :: rest) ∧ B1[b]? = some box ∧ (toVL rest).isSome = true ∧ (toVL ((box.cells.drop off).take (n * sz))).isSome = true ∧
      Q' (.tup ((ownC B n sz full ((box.cells.drop off).take (n * sz))).1 :: rest)) (ownC B n sz full ((box.cells.drop off).take (n * sz))).2) :
    ACall P f args B Q' :=
  acall_pure_core hz h fun N I μ w w' c v B1 J J1 μ1 hB0 hQ hst g1 g2 g3 => by
    obtain ⟨b, off, n, sz, full, box, rest, rfl, h1, h0, h2, h3⟩ := hq c B1 hQ
    obtain ⟨vs, rfl, hv⟩ := hst.val.tup_inv
    obtain ⟨v1, vs', rfl, hv1, _, hv2⟩ := R.cons_iff.1 hv
    obtain ⟨μ', k1, k2, k3, _⟩ := adopt_view hst.box hv1 h1 h2 rfl g1 g2 hB0
    exact ⟨_, _, I, μ', h3, .tup (.cons k1 (by simp) (scalars_any hv2 h0)) (.nil _), k2, k3, g3⟩

end
end Go.Sy
