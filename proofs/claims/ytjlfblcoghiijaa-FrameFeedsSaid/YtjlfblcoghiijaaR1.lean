import Derived.Test.YtjlfblcoghiijaaR0
namespace Go.Proofs.Ytjlfblcoghiijaa
open Go Go.Sy
set_option linter.all false
set_option maxRecDepth 100000
set_option maxHeartbeats 4000000
section
variable {L X : List Box} {n i : Nat} {y : Box}
theorem bx_get0 (h : L.length = n) : (L ++ X)[n]? = X[0]? := by subst h; rw [List.getElem?_append_right (Nat.le_refl _), Nat.sub_self]
theorem bx_get (h : L.length = n) : (L ++ X)[n + i]? = X[i]? := by subst h; rw [List.getElem?_append_right (by omega), Nat.add_sub_cancel_left]
theorem bx_getL (h : n < L.length) : (L ++ X)[n]? = L[n]? := List.getElem?_append_left h
theorem bx_set0 (h : L.length = n) : (L ++ X).set n y = L ++ X.set 0 y := by subst h; rw [List.set_append_right _ _ (Nat.le_refl _), Nat.sub_self]
theorem bx_set (h : L.length = n) : (L ++ X).set (n + i) y = L ++ X.set i y := by subst h; rw [List.set_append_right _ _ (by omega), Nat.add_sub_cancel_left]
theorem bx_setL (h : n < L.length) : (L ++ X).set n y = L.set n y ++ X := List.set_append_left _ _ h
theorem bx_self (h : n < L.length) : (L.set n y)[n]? = some y := List.getElem?_set_self h
theorem bx_same (h : L[n]? = some y) : L.set n y = L := by
  obtain ⟨h1, rfl⟩ := List.getElem?_eq_some_iff.1 h
  exact List.set_getElem_self h1
end
theorem bx_pack {B : List Box} {β : Nat} {b : Box} (hB : B[β]? = some b) : (∀ X, (B ++ X)[β]? = some b) ∧ (∀ X y, (B ++ X).set β y = B.set β y ++ X) ∧ (∀ y, (B.set β y)[β]? = some y) ∧ (∀ y X, (B.set β y ++ X)[β]? = some y) ∧ (∀ y z X, (B.set β y ++ X).set β z = B.set β z ++ X) ∧
    (∀ y X, (B.set β y ++ X)[B.length]? = X[0]?) ∧ (∀ y X i, (B.set β y ++ X)[B.length + i]? = X[i]?) ∧ (∀ y z X, (B.set β y ++ X).set B.length z = B.set β y ++ X.set 0 z) ∧ (∀ y z X i, (B.set β y ++ X).set (B.length + i) z = B.set β y ++ X.set i z) ∧
    (∀ X, (B ++ X)[B.length]? = X[0]?) ∧ (∀ X i, (B ++ X)[B.length + i]? = X[i]?) ∧ (∀ z X, (B ++ X).set B.length z = B ++ X.set 0 z) ∧ (∀ z X i, (B ++ X).set (B.length + i) z = B ++ X.set i z) := by
  have h := (List.getElem?_eq_some_iff.1 hB).1
  refine ⟨fun X => by rw [bx_getL h, hB], fun X y => bx_setL h, fun y => bx_self h, fun y X => by rw [bx_getL (by simpa using h), bx_self h], fun y z X => by rw [bx_setL (by simpa using h), List.set_set],
    fun y X => bx_get0 (by simp), fun y X i => bx_get (by simp), fun y z X => bx_set0 (by simp), fun y z X i => bx_set (by simp), fun X => bx_get0 rfl, fun X i => bx_get rfl, fun z X => bx_set0 rfl, fun z X i => bx_set rfl⟩
/-- A fact that the walks leave alone. -/
def Hid (p : Prop) : Prop := p
/-- Cells of records side by side. -/
def Cells {α : Type} (f : α → List CV) (z : Nat) (cs : List CV) (L : List α) : Prop := ∀ (i : Nat) (h : i < L.length), i * z + z ≤ cs.length ∧ (cs.drop (i * z)).take z = f L[i]
theorem cells_pre {α : Type} {f : α → List CV} {z : Nat} {A L : List α} (hf : ∀ a ∈ A, (f a).length = z) (h : A.take L.length = L) : Cells f z (A.flatMap f) L := by
  intro i hi
  have hl : L.length ≤ A.length := by have := congrArg List.length h; rw [List.length_take] at this; omega
  have e : A[i]'(by omega) = L[i] := by
    have : (A.take L.length)[i]'(by rw [h]; exact hi) = L[i] := by congr 1
    rw [← this, List.getElem_take]
  refine ⟨?_, by rw [fl_get hf i (by omega), e]⟩
  rw [fl_len hf, ← Nat.succ_mul]
  exact Nat.mul_le_mul_right _ (by omega)
theorem cells_all {α : Type} {f : α → List CV} {z : Nat} {L : List α} (hf : ∀ a ∈ L, (f a).length = z) : Cells f z (L.flatMap f) L := cells_pre hf (List.take_length ..)
/-- Slices of records: as they stand in frames. -/
structure Row {α : Type} (f : α → List CV) (z : Nat) (B : List Box) (s : CV) (L : List α) : Prop where
  small : L.length < 1099511627776
  at_ : ∃ cs, Cells f z cs L ∧ ((∃ fl, s = .lst L.length cs fl) ∨ (∃ b cap, s = .cview b 0 L.length cap z ∧ B[b]? = some ⟨cs, false⟩) ∨ ∃ b fl m, s = .view b 0 L.length z fl ∧ B[b]? = some ⟨cs, m⟩)
/-- A row of the call's own, its capacity known, or none. -/
def Own {α : Type} (f : α → List CV) (z : Nat) (B : List Box) (c : CV) (B' : List Box) (L : List α) : Prop :=
  (L = [] ∧ (c = .nilS ∨ c = .lst 0 [] true) ∧ B' = B) ∨ ∃ A : List α, L.length ≤ A.length ∧ 0 < A.length ∧ (∀ a ∈ A, (f a).length = z) ∧ A.take L.length = L ∧ c = .cview B.length 0 L.length A.length z ∧ B' = B ++ [⟨A.flatMap f, false⟩]
/-- The boxes but one are as they were; there may be more of them. -/
structure Kept (b : Nat) (B W : List Box) : Prop where
  len : B.length ≤ W.length
  same : ∀ β, β ≠ b → β < B.length → W[β]? = B[β]?
theorem Kept.refl (b : Nat) (B : List Box) : Kept b B B := ⟨Nat.le_refl _, fun _ _ _ => rfl⟩
theorem Kept.app {b : Nat} {B W : List Box} (h : Kept b B W) (X : List Box) : Kept b B (W ++ X) := ⟨by have := h.len; rw [List.length_append]; omega, fun β h1 h2 => by rw [List.getElem?_append_left (by have := h.len; omega), h.same β h1 h2]⟩
theorem Kept.set {b : Nat} {B W : List Box} (h : Kept b B W) (x : Box) : Kept b B (W.set b x) := ⟨by have := h.len; rw [List.length_set]; exact this, fun β h1 h2 => by rw [List.getElem?_set_ne (Ne.symm h1), h.same β h1 h2]⟩
def idxF {α : Type} (p : α → Bool) (L : List α) : Int := if L.findIdx p < L.length then (L.findIdx p : Int) else -1
theorem fI_at {α : Type} {p : α → Bool} {L : List α} {i : Nat} (h : i < L.length) (hp : p L[i] = true) (hi : i ≤ L.findIdx p) : L.findIdx p = i := by
  rcases Nat.lt_or_ge i (L.findIdx p) with h1 | h1
  · have := List.not_of_lt_findIdx h1; rw [hp] at this; cases this
  · omega
theorem fI_next {α : Type} {p : α → Bool} {L : List α} {i : Nat} (h : i < L.length) (hp : ¬ p L[i] = true) (hi : i ≤ L.findIdx p) : i + 1 ≤ L.findIdx p := by
  rcases Nat.lt_or_ge i (L.findIdx p) with h1 | h1
  · omega
  · have e : L.findIdx p = i := by omega
    have := List.findIdx_getElem (xs := L) (p := p) (w := by omega)
    simp only [e] at this
    exact absurd this hp
theorem idxF_any {α : Type} (p : α → Bool) (L : List α) : decide (0 ≤ idxF p L) = L.any p := by
  unfold idxF
  by_cases h : L.findIdx p < L.length
  · have := List.findIdx_getElem (xs := L) (p := p) (w := h)
    rw [if_pos h, List.any_eq_true.2 ⟨_, List.getElem_mem h, this⟩]; simp
  · rw [if_neg h, List.any_eq_false.2]
    · rfl
    · intro x hx hp
      exact h (List.findIdx_lt_length_of_exists ⟨x, hx, hp⟩)
theorem rep_fl {α : Type} (f : α → List CV) (o : α) : ∀ k, repC (f o) k = (List.replicate k o).flatMap f
  | 0 => rfl
  | k + 1 => by rw [List.replicate_succ, List.flatMap_cons, ← rep_fl f o k]; rfl
theorem vl_app {l m : List CV} (h1 : (toVL l).isSome = true) (h2 : (toVL m).isSome = true) : (toVL (l ++ m)).isSome = true := by
  induction l with
  | nil => exact h2
  | cons c l ih => rw [toVL_cons, Bool.and_eq_true] at h1; rw [List.cons_append, toVL_cons, h1.1, ih h1.2]; rfl
theorem vl_fl {α : Type} {f : α → List CV} (hf : ∀ a, (toVL (f a)).isSome = true) : ∀ l : List α, (toVL (l.flatMap f)).isSome = true
  | [] => rfl
  | a :: l => by rw [List.flatMap_cons]; exact vl_app (hf a) (vl_fl hf l)
theorem omap_fl {α : Type} {f : α → List CV} {g : CV → Option CV} (hf : ∀ a, omap g (f a) = some (f a)) : ∀ l : List α, omap g (l.flatMap f) = some (l.flatMap f)
  | [] => rfl
  | a :: l => by rw [List.flatMap_cons, omap_app, hf a, omap_fl hf l]; rfl
theorem fl_splice {α : Type} {f : α → List CV} {z : Nat} {A X : List α} {i : Nat} (hA : ∀ a ∈ A, (f a).length = z) (hX : ∀ a ∈ X, (f a).length = z) : splice (A.flatMap f) (i * z) (X.flatMap f) = (A.take i ++ X ++ A.drop (i + X.length)).flatMap f := by
  rw [splice, fl_len hX, fl_take i hA, ← Nat.add_mul, fl_drop _ hA, List.flatMap_append, List.flatMap_append]
theorem take_filter {α : Type} {p : α → Bool} {L : List α} {j : Nat} (h : j < L.length) : (L.take (j + 1)).filter p = (L.take j).filter p ++ if p L[j] then [L[j]] else [] := by
  rw [List.take_succ_eq_append_getElem h, List.filter_append]
  cases hp : p L[j] <;> simp [hp]
theorem filter_pre {α : Type} {p : α → Bool} {L : List α} {j : Nat} (h : j ≤ L.findIdx p) : (L.take j).filter (fun a => !p a) = L.take j := by
  rw [List.filter_eq_self]
  intro a ha
  obtain ⟨i, hi, rfl⟩ := List.getElem_of_mem ha
  rw [List.length_take] at hi
  have := List.not_of_lt_findIdx (xs := L) (p := p) (i := i) (by omega)
  rw [List.getElem_take, this]; rfl
theorem get_drop {α : Type} {A B : List α} {j : Nat} (h : A.drop j = B.drop j) (ha : j < A.length) (hb : j < B.length) : A[j] = B[j] := by
  rw [List.drop_eq_getElem_cons ha, List.drop_eq_getElem_cons hb] at h
  exact (List.cons.inj h).1
theorem drop_next {α : Type} {A B : List α} {j : Nat} (h : A.drop j = B.drop j) : A.drop (j + 1) = B.drop (j + 1) := by
  rw [← List.drop_drop, ← List.drop_drop, h]
theorem set_facts {α : Type} {A : List α} {i j : Nat} {x : α} (h : i < j) (hj : j ≤ A.length) : (A.set i x).take (i + 1) = A.take i ++ [x] ∧ (A.set i x).drop j = A.drop j := by
  refine ⟨?_, by rw [List.drop_set_of_lt h]⟩
  rw [List.take_succ_eq_append_getElem (by rw [List.length_set]; omega), List.getElem_set_self, List.take_set_of_le (Nat.le_refl i)]
theorem mem_set_len {α : Type} {f : α → List CV} {z : Nat} {A : List α} {i : Nat} {x : α} (hA : ∀ a ∈ A, (f a).length = z) (hx : (f x).length = z) : ∀ a ∈ A.set i x, (f a).length = z := fun a ha => by
  rcases List.mem_or_eq_of_mem_set ha with h | rfl
  · exact hA a h
  · exact hx
/-- A list that grows at its end; o boxes stand ahead. -/
def GrowR {α : Type} (f : α → List CV) (z o : Nat) (c : CV) (B : List Box) (L : List α) : Prop := (L = [] ∧ c = .nilS) ∨ ∃ b m, L ≠ [] ∧ c = .view (b + o) 0 L.length z false ∧ B[b]? = some ⟨L.flatMap f, m⟩
theorem GrowR.app {α : Type} {f : α → List CV} {z o : Nat} {c : CV} {B : List Box} {L : List α} (h : GrowR f z o c B L) (X : List Box) : GrowR f z o c (B ++ X) L := by
  obtain ⟨h1, h2⟩ | ⟨b, m, h2, h3, h4⟩ := h
  · exact .inl ⟨h1, h2⟩
  · exact .inr ⟨b, m, h2, h3, (bx_pack h4).1 X⟩
/-- A row that an insertion made. -/
def InsR {α : Type} (f : α → List CV) (z : Nat) (L : List α) (c : CV) (B : List Box) : Prop := ∃ β cs m, (c = .view β 0 L.length z false ∨ ∃ cap, c = .cview β 0 L.length cap z) ∧ B[β]? = some ⟨cs, m⟩ ∧ cs.take (L.length * z) = L.flatMap f
theorem exd {P : Program} {f : FuncId} {args : List CV} {B : List Box} {R : CV → List Box → Prop} {c0 : CV} {B0 : List Box} (h : ACall P f args B fun c B' => c = c0 ∧ B' = B0) (hR : R c0 B0) : ∃ c0 B0, R c0 B0 ∧ ACall P f args B fun c B' => c = c0 ∧ B' = B0 := ⟨c0, B0, hR, h⟩
/-- The box that a slice stands over; whatever is not that one stays. -/
def onBox : CV → Option Nat
  | .cview b _ _ _ _ => some b
  | _ => none
def Keeps (s : CV) (B B' : List Box) : Prop := ∀ β, β < B.length → onBox s ≠ some β → B'[β]? = B[β]?
theorem keeps_app {s : CV} {B X : List Box} : Keeps s B (B ++ X) := fun _ h _ => List.getElem?_append_left h
theorem keeps_set {s : CV} {B : List Box} {b : Nat} {x : Box} (h : onBox s = some b) : Keeps s B (B.set b x) := fun β _ h2 => List.getElem?_set_ne fun e => h2 (by rw [h, e])
/-- A row of the callee's own, or none. -/
def Ours {α : Type} (f : α → List CV) (z : Nat) (c : CV) (B : List Box) (L : List α) : Prop :=
  (L = [] ∧ (c = .nilS ∨ c = .lst 0 [] true)) ∨ ∃ (b : Nat) (A : List α), (∀ a ∈ A, (f a).length = z) ∧ 0 < A.length ∧ L.length ≤ A.length ∧ A.take L.length = L ∧ c = .cview b 0 L.length A.length z ∧ B[b]? = some ⟨A.flatMap f, false⟩
theorem ours_own {α : Type} {f : α → List CV} {z : Nat} {P : Program} {g : FuncId} {B : List Box} {args args' : List CV} {L : List α} (hv : ∀ a, (toVL (f a)).isSome = true) (hz : Is (omap (fz true false B 6) args) (some args')) (h : ACall P g args' [] fun c B' => Ours f z c B' L) : ACall P g args B fun c B' => Own f z B c B' L := by
  refine acall_ownK hz h fun c' B1 hq => ?_
  obtain ⟨h1, rfl | rfl⟩ | ⟨b, A, h1, h2, h3, h4, rfl, h5⟩ := hq
  · exact .inl ⟨rfl, .inl ⟨h1, .inl rfl, rfl⟩⟩
  · exact .inr (.inl ⟨true, rfl, .inl ⟨h1, .inr rfl, rfl⟩⟩)
  · have e : (A.flatMap f).take (A.length * z) = A.flatMap f := List.take_of_length_le (by rw [fl_len h1]; exact Nat.le_refl _)
    refine .inr (.inr ⟨b, 0, _, A.length, z, ⟨A.flatMap f, false⟩, rfl, h5, rfl, h2, ?_, .inr ⟨A, h3, h2, h1, h4, rfl, ?_⟩⟩)
    · rw [List.drop_zero, e]; exact vl_fl hv A
    · rw [List.drop_zero, e]
/-- A list of records, as it is handed back. -/
def rl {α : Type} (f : α → List CV) (L : List α) : CV := .lst L.length (L.flatMap f) false
theorem row_fz {α : Type} {f : α → List CV} {z : Nat} {c : CV} {B : List Box} {L : List α} {β : Nat} {cs : List CV} {m : Bool} (hf : ∀ l : List α, omap (fz true true B 5) (l.flatMap f) = some (l.flatMap f)) (hc : c = .view β 0 L.length z false ∨ ∃ cap, c = .cview β 0 L.length cap z) (hB : B[β]? = some ⟨cs, m⟩) (ht : cs.take (L.length * z) = L.flatMap f) : fz true true B 6 c = some (rl f L) := by
  rcases hc with rfl | ⟨cap, rfl⟩
  · rw [fz_view, hB]; simp only [List.drop_zero, ht, hf]; rfl
  · rw [fz_cview, hB]; simp only [List.drop_zero, ht, hf]; rfl
theorem growR_fz {α : Type} {f : α → List CV} {z : Nat} {c : CV} {O B : List Box} {L : List α} (hz : ∀ a ∈ L, (f a).length = z) (hf : ∀ l : List α, omap (fz true true (O ++ B) 5) (l.flatMap f) = some (l.flatMap f)) (h : GrowR f z O.length c B L) : fz true true (O ++ B) 6 c = some (rl f L) := by
  obtain ⟨rfl, rfl⟩ | ⟨b, m, _, rfl, h5⟩ := h
  · rfl
  · exact row_fz hf (.inl rfl) (by rw [List.getElem?_append_right (by omega), Nat.add_sub_cancel]; exact h5) (List.take_of_length_le (by rw [fl_len hz]; exact Nat.le_refl _))
theorem insr_fz {α : Type} {f : α → List CV} {z : Nat} {c : CV} {B : List Box} {L : List α} (hf : ∀ l : List α, omap (fz true true B 5) (l.flatMap f) = some (l.flatMap f)) (h : InsR f z L c B) : fz true true B 6 c = some (rl f L) := by
  obtain ⟨β, cs, m, h1, h2, h3⟩ := h
  exact row_fz hf h1 h2 h3
theorem ours_fz {α : Type} {f : α → List CV} {z : Nat} {c : CV} {B : List Box} {L : List α} (hf : ∀ l : List α, omap (fz true true B 5) (l.flatMap f) = some (l.flatMap f)) (h : Ours f z c B L) : fz true true B 6 c = some (rl f L) := by
  obtain ⟨rfl, rfl | rfl⟩ | ⟨b, A, h1, h2, h3, h4, rfl, h5⟩ := h
  · rfl
  · rfl
  · exact row_fz hf (.inr ⟨_, rfl⟩) h5 (by rw [fl_take _ h1, h4])
theorem ours_pc {α : Type} {f : α → List CV} {z : Nat} {P : Program} {g : FuncId} {args : List CV} {L : List α} (hf : ∀ (B : List Box) (l : List α), omap (fz true true B 5) (l.flatMap f) = some (l.flatMap f)) (h : ACall P g args [] fun c B' => Ours f z c B' L) : PC P true g args (rl f L) :=
  h.mono fun _ _ h => ours_fz (hf _) h
end Go.Proofs.Ytjlfblcoghiijaa
