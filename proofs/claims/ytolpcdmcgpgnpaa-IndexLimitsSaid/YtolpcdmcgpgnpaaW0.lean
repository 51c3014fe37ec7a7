import Derived.Test.YtolpcdmcgpgnpaaSyX
namespace Go.Proofs.Ytolpcdmcgpgnpaa
open Go Go.Sy
set_option linter.all false
set_option maxRecDepth 100000
set_option maxHeartbeats 4000000
theorem bl_irrefl : ∀ a : List UInt8, Op.bytesLess a a = false
  | [] => rfl
  | a :: l => by
    have : ¬ a < a := UInt8.lt_irrefl a
    simp [Op.bytesLess, this, bl_irrefl l]
theorem bl_trans : ∀ {a b c : List UInt8}, Op.bytesLess a b = true → Op.bytesLess b c = true → Op.bytesLess a c = true
  | _, [], _, h, _ => by simp [Op.bytesLess] at h
  | _, _ :: _, [], _, h => by simp [Op.bytesLess] at h
  | [], _ :: _, _ :: _, _, _ => rfl
  | x :: a, y :: b, z :: c, h1, h2 => by
    simp only [Op.bytesLess, Bool.or_eq_true, decide_eq_true_eq, Bool.and_eq_true, beq_iff_eq] at h1 h2 ⊢
    rcases h1 with h1 | ⟨rfl, h1⟩ <;> rcases h2 with h2 | ⟨rfl, h2⟩
    · exact .inl (UInt8.lt_trans h1 h2)
    · exact .inl h1
    · exact .inl h2
    · exact .inr ⟨rfl, bl_trans h1 h2⟩
theorem bl_total : ∀ {a b : List UInt8}, Op.bytesLess a b = false → a ≠ b → Op.bytesLess b a = true
  | [], [], _, h => absurd rfl h
  | [], _ :: _, h, _ => by simp [Op.bytesLess] at h
  | _ :: _, [], _, _ => rfl
  | x :: a, y :: b, h, hne => by
    simp only [Op.bytesLess, Bool.or_eq_false_iff, decide_eq_false_iff_not, Bool.and_eq_false_iff, beq_eq_false_iff_ne] at h
    simp only [Op.bytesLess, Bool.or_eq_true, decide_eq_true_eq, Bool.and_eq_true, beq_iff_eq]
    rcases Decidable.em (x = y) with rfl | hxy
    · refine .inr ⟨rfl, bl_total (h.2.resolve_left (fun h => h rfl)) (fun e => hne (by rw [e]))⟩
    · exact .inl (UInt8.lt_of_le_of_ne (UInt8.not_lt.1 h.1) (Ne.symm hxy))
/-- A timer: its time, its peer, its kind. -/
abbrev Tm := Int × List UInt8 × Int
def tLess (t u : Tm) : Bool := if t.1 = u.1 then (if t.2.1 = u.2.1 then decide (t.2.2 < u.2.2) else Op.bytesLess t.2.1 u.2.1) else decide (t.1 < u.1)
theorem tLess_irrefl (t : Tm) : tLess t t = false := by simp [tLess]
theorem tLess_trans {t u v : Tm} (h1 : tLess t u = true) (h2 : tLess u v = true) : tLess t v = true := by
  obtain ⟨a, p, k⟩ := t; obtain ⟨b, q, m⟩ := u; obtain ⟨c, r, n⟩ := v
  simp only [tLess] at h1 h2 ⊢
  split at h1 <;> split at h2
  · rename_i e1 e2
    subst e1 e2
    rw [if_pos rfl]
    split at h1 <;> split at h2
    · rename_i e1 e2; subst e1 e2; rw [if_pos rfl]; simp at *; omega
    · rename_i e1 e2; subst e1; rw [if_neg e2]; exact h2
    · rename_i e1 e2; subst e2; rw [if_neg e1]; exact h1
    · rename_i e1 e2
      have h3 := bl_trans h1 h2
      split
      · rename_i e; subst e; rw [bl_irrefl] at h3; cases h3
      · exact h3
  · rename_i e1 e2; subst e1; rw [if_neg e2]; exact h2
  · rename_i e1 e2; subst e2; rw [if_neg e1]; exact h1
  · rename_i e1 e2
    simp only [decide_eq_true_eq] at h1 h2
    rw [if_neg (by omega)]
    simp only [decide_eq_true_eq]; omega
theorem tLess_total {t u : Tm} (h : tLess t u = false) (hne : t ≠ u) : tLess u t = true := by
  obtain ⟨a, p, k⟩ := t; obtain ⟨b, q, m⟩ := u
  simp only [tLess] at h ⊢
  split at h
  · rename_i e; subst e
    rw [if_pos rfl]
    split at h
    · rename_i e; subst e
      rw [if_pos rfl]
      simp only [decide_eq_false_iff_not, decide_eq_true_eq] at h ⊢
      have : k ≠ m := fun e => hne (by rw [e])
      omega
    · rename_i e; rw [if_neg (Ne.symm e)]; exact bl_total h e
  · rename_i e
    simp only [decide_eq_false_iff_not] at h
    rw [if_neg (Ne.symm e)]
    simp only [decide_eq_true_eq]; omega
/-- The list without the timers of a peer and a kind; a timer put in; a timer set. -/
def tCancel (l : List Tm) (k : List UInt8 × Int) : List Tm := l.filter fun t => t.2 != k
def tHas (l : List Tm) (k : List UInt8 × Int) : Bool := l.any fun t => t.2 == k
def tIns (t : Tm) : List Tm → List Tm
  | [] => [t]
  | u :: l => if tLess t u then t :: u :: l else u :: tIns t l
def tSet (l : List Tm) (t : Tm) : List Tm := tIns t (tCancel l t.2)
def tSorted (l : List Tm) : Prop := l.Pairwise fun t u => tLess t u = true
theorem tIns_mem {t v : Tm} : ∀ {l : List Tm}, v ∈ tIns t l ↔ v = t ∨ v ∈ l
  | [] => by simp [tIns]
  | u :: l => by
    unfold tIns; split
    · simp
    · rw [List.mem_cons, tIns_mem, List.mem_cons]
      constructor
      · rintro (h | h | h)
        · exact .inr (.inl h)
        · exact .inl h
        · exact .inr (.inr h)
      · rintro (h | h | h)
        · exact .inr (.inl h)
        · exact .inl h
        · exact .inr (.inr h)
theorem tIns_sorted {t : Tm} : ∀ {l : List Tm}, tSorted l → (∀ u ∈ l, u ≠ t) → tSorted (tIns t l)
  | [], _, _ => List.pairwise_singleton _ _
  | u :: l, hs, hn => by
    obtain ⟨h1, h2⟩ := List.pairwise_cons.1 hs
    unfold tIns; split
    · rename_i ht
      exact List.pairwise_cons.2 ⟨fun v hv => by
        rcases List.mem_cons.1 hv with rfl | hv
        · exact ht
        · exact tLess_trans ht (h1 v hv), hs⟩
    · rename_i ht
      have hu := tLess_total (by simpa using ht) (hn u (by simp)).symm
      refine List.pairwise_cons.2 ⟨fun v hv => ?_, tIns_sorted h2 fun v hv => hn v (by simp [hv])⟩
      rcases tIns_mem.1 hv with rfl | hv
      · exact hu
      · exact h1 v hv
theorem tCancel_ins {t : Tm} : ∀ {l : List Tm} (k : List UInt8 × Int), t.2 = k → tCancel (tIns t l) k = tCancel l k
  | [], k, h => by simp [tIns, tCancel, h]
  | u :: l, k, h => by
    unfold tIns; split
    · simp [tCancel, h]
    · have ih := tCancel_ins (l := l) k h
      simp only [tCancel, List.filter_cons] at ih ⊢
      rw [ih]
theorem tCancel_cancel (l : List Tm) (k : List UInt8 × Int) : tCancel (tCancel l k) k = tCancel l k := by simp [tCancel, List.filter_filter]
theorem tCancel_set (l : List Tm) (t : Tm) : tCancel (tSet l t) t.2 = tCancel l t.2 := by rw [tSet, tCancel_ins _ rfl, tCancel_cancel]
theorem tCancel_ne {l : List Tm} {k : List UInt8 × Int} {u : Tm} (h : u ∈ tCancel l k) : u.2 ≠ k := by
  simp only [tCancel, List.mem_filter, bne_iff_ne] at h; exact h.2
theorem tHas_cancel (l : List Tm) (k : List UInt8 × Int) : tHas (tCancel l k) k = false := by
  rw [tHas, List.any_eq_false]
  intro u hu
  simpa using tCancel_ne hu
theorem tHas_set (l : List Tm) (t : Tm) : tHas (tSet l t) t.2 = true := by
  rw [tHas, List.any_eq_true]
  exact ⟨t, tIns_mem.2 (.inl rfl), by simp⟩
theorem tSet_sorted {l : List Tm} (t : Tm) (h : tSorted l) : tSorted (tSet l t) :=
  tIns_sorted (h.sublist List.filter_sublist) fun u hu e => tCancel_ne hu (by rw [e])
theorem tSet_key {l : List Tm} {t u : Tm} (h : u ∈ tSet l t) : u = t ∨ (u.2 ≠ t.2 ∧ u ∈ l) := by
  rcases tIns_mem.1 h with rfl | h
  · exact .inl rfl
  · exact .inr ⟨tCancel_ne h, (List.mem_filter.1 h).1⟩
/-- No two timers of one peer and kind. -/
def tKeys (l : List Tm) : Prop := l.Pairwise fun t u => t.2 ≠ u.2
theorem tIns_keys {t : Tm} : ∀ {l : List Tm}, tKeys l → (∀ u ∈ l, u.2 ≠ t.2) → tKeys (tIns t l)
  | [], _, _ => List.pairwise_singleton _ _
  | u :: l, hs, hn => by
    obtain ⟨h1, h2⟩ := List.pairwise_cons.1 hs
    unfold tIns; split
    · exact List.pairwise_cons.2 ⟨fun v hv => Ne.symm (hn v hv), hs⟩
    · refine List.pairwise_cons.2 ⟨fun v hv => ?_, tIns_keys h2 fun v hv => hn v (by simp [hv])⟩
      rcases tIns_mem.1 hv with rfl | hv
      · exact hn u (by simp)
      · exact h1 v hv
theorem tSet_keys {l : List Tm} (t : Tm) (h : tKeys l) : tKeys (tSet l t) :=
  tIns_keys (h.sublist List.filter_sublist) fun u hu => tCancel_ne hu
/-- The first of the least timers. -/
def tMinF (best : Tm) (l : List Tm) : Tm := l.foldl (fun b u => if tLess u b then u else b) best
theorem tMinF_sorted {t : Tm} : ∀ {l : List Tm}, (∀ u ∈ l, tLess t u = true) → tMinF t l = t
  | [], _ => rfl
  | u :: l, h => by
    have hu := h u (by simp)
    have : tLess u t = false := by
      cases hx : tLess u t with
      | false => rfl
      | true => have := tLess_trans hu hx; rw [tLess_irrefl] at this; cases this
    unfold tMinF
    rw [List.foldl_cons, this]
    exact tMinF_sorted fun v hv => h v (by simp [hv])
theorem tCancel_head {t : Tm} {l : List Tm} (h : tKeys (t :: l)) : tCancel (t :: l) t.2 = l := by
  obtain ⟨h1, _⟩ := List.pairwise_cons.1 h
  rw [tCancel, List.filter_cons]
  simp only [bne_self_eq_false, Bool.false_eq_true, if_false]
  rw [List.filter_eq_self]
  intro u hu
  simpa using Ne.symm (h1 u hu)
theorem tSorted_at {t u : Tm} (h : tLess t u = true) : t.1 ≤ u.1 := by
  simp only [tLess] at h
  split at h
  · rename_i e; omega
  · simp only [decide_eq_true_eq] at h; omega
/-- What is valid, as the code asks it. -/
def tOk (t : Tm) : Bool := decide (1 ≤ t.2.2 ∧ t.2.2 ≤ 5 ∧ 0 ≤ t.1 ∧ t.1 ≤ 4398046511104)
def tValidF : List Tm → List Tm → Bool
  | _, [] => true
  | pre, t :: l => tOk t && (match pre.getLast? with | some u => tLess u t | none => true) && !tHas pre t.2 && tValidF (pre ++ [t]) l
theorem tValidF_of : ∀ {l pre : List Tm}, tSorted (pre ++ l) → tKeys (pre ++ l) → (∀ t ∈ l, tOk t = true) → tValidF pre l = true
  | [], _, _, _, _ => rfl
  | t :: l, pre, hs, hk, ho => by
    have hs' : ∀ u ∈ pre, tLess u t = true := fun u hu => (List.pairwise_append.1 hs).2.2 u hu t (by simp)
    have hk' : ∀ u ∈ pre, u.2 ≠ t.2 := fun u hu => (List.pairwise_append.1 hk).2.2 u hu t (by simp)
    have h1 : (match pre.getLast? with | some u => tLess u t | none => true) = true := by
      cases hp : pre.getLast? with
      | none => rfl
      | some u => exact hs' u (List.mem_of_getLast? hp)
    have h2 : tHas pre t.2 = false := by
      rw [tHas, List.any_eq_false]
      intro u hu
      simpa using hk' u hu
    have h3 := tValidF_of (l := l) (pre := pre ++ [t]) (by rwa [List.append_assoc]) (by rwa [List.append_assoc]) (fun u hu => ho u (by simp [hu]))
    rw [tValidF, ho t (by simp), h1, h2, h3]
    rfl
end Go.Proofs.Ytolpcdmcgpgnpaa
