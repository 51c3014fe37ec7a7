/-
  Every order of a drawn region comes to what its lexical run comes to.
-/
import Derived.Test.YtnedgmdbehpodaaSyN
namespace Go.Sy
set_option linter.all false
open Go.RowKit (Below)

section
variable {P : Program} {N n : Nat} {I0 I : Nat → Nat → Prop} {μ0 μ : List (List Place)} {B : List Box} {w0 w : World} {o : Oper} {a : Act} {fr : Fr} {ops : Array Oper} {bs : List Nat}

def dstAt (ops : Array Oper) (k : Nat) : Option Tmp := (ops[k]?).bind (·.dst)
def frS (ops : Array Oper) (S : Nat → Bool) (val : Nat → CV) (fr0 : Fr) : Nat → Fr
  | 0 => fr0
  | k + 1 => if S k then upd (frS ops S val fr0 k) (dstAt ops k) (val k) else frS ops S val fr0 k
def bxS (bar : Nat → Bool) (S : Nat → Bool) (bx : Nat → List Box) : Nat → List Box
  | 0 => bx 0
  | k + 1 => if S k && bar k then bx (k + 1) else bxS bar S bx k

theorem upd_same {fr : Fr} {d : Option Tmp} {c : CV} {t : Nat} (h : d = some t) : upd fr d c t = c := by subst h; simp [upd]
theorem upd_other {fr : Fr} {d : Option Tmp} {c : CV} {t : Nat} (h : d ≠ some t) : upd fr d c t = fr t := by
  cases d with
  | none => rfl
  | some d => simp only [upd]; rw [if_neg (fun e => h (by rw [e]))]

structure Lex (P : Program) (n : Nat) (ops : Array Oper) (bs : List Nat) (val : Nat → CV) (fs : Nat → Fr) (bx : Nat → List Box) (k : Nat) (l : List Oper) : Prop where
  each : ∀ (i : Nat) (o : Oper), l[i]? = some o → dstOk n o = true ∧ fs (i + 1) = upd (fs i) o.dst (val i) ∧
    ((wantC ops (fs i) o = some true ∧ StepC P o (fs i) (bx i) (fun c B'' => c = val i ∧ B'' = bx (i + 1)) ∧ (bx (i + 1) = bx i ∨ barrier ops.toList bs (k + i) = true)) ∨
     (wantC ops (fs i) o = some false ∧ val i = .tup [] ∧ bx (i + 1) = bx i))

theorem lex_of_WPd {Q : Fr → List Box → Prop} : ∀ (l : List Oper) (k : Nat) (fr : Fr) (B : List Box), WPd P n ops bs Q k l fr B →
    ∃ val fs bx, fs 0 = fr ∧ bx 0 = B ∧ Q (fs l.length) (bx l.length) ∧ Lex P n ops bs val fs bx k l
  | [], k, fr, B, h => ⟨fun _ => .tup [], fun _ => fr, fun _ => B, rfl, rfl, h, ⟨fun i o ho => by simp at ho⟩⟩
  | o :: l, k, fr, B, h => by
    unfold WPd at h
    obtain ⟨hd, h⟩ := h
    have build : ∀ (c : CV) (B' : List Box), WPd P n ops bs Q (k + 1) l (upd fr o.dst c) B' →
        ((wantC ops fr o = some true ∧ StepC P o fr B (fun c' B'' => c' = c ∧ B'' = B') ∧ (B' = B ∨ barrier ops.toList bs k = true)) ∨ (wantC ops fr o = some false ∧ c = .tup [] ∧ B' = B)) →
        ∃ val fs bx, fs 0 = fr ∧ bx 0 = B ∧ Q (fs (o :: l).length) (bx (o :: l).length) ∧ Lex P n ops bs val fs bx k (o :: l) := by
      intro c B' hw hc
      obtain ⟨val, fs, bx, h1, h2, h3, h4⟩ := lex_of_WPd l (k + 1) _ _ hw
      refine ⟨fun i => match i with | 0 => c | i + 1 => val i, fun i => match i with | 0 => fr | i + 1 => fs i, fun i => match i with | 0 => B | i + 1 => bx i, rfl, rfl, h3, ⟨fun i p hp => ?_⟩⟩
      cases i with
      | zero =>
        simp at hp; subst hp
        refine ⟨hd, h1, ?_⟩
        simp only [h2, Nat.add_zero]
        exact hc
      | succ i =>
        have := h4.each i p (by simpa using hp)
        simpa [Nat.add_assoc, Nat.add_comm 1 i] using this
    split at h
    · rename_i t ht
      cases t with
      | true =>
        obtain ⟨c, B', h1, h2, h3⟩ := h.1 rfl
        exact build c B' h3 (.inl ⟨ht, h1, h2⟩)
      | false => exact build (.tup []) B (h.2 rfl) (.inr ⟨ht, rfl, rfl⟩)
    · cases h

/-- The frame with a set of operations done, at a slot that only earlier operations of the set have written. -/
theorem frS_at {S : Nat → Bool} {val : Nat → CV} {fs : Nat → Fr} {m i t : Nat} (hfs : ∀ j, j < m → fs (j + 1) = upd (fs j) (dstAt ops j) (val j)) (hi : i ≤ m) (hS : ∀ j, j < m → dstAt ops j = some t → (S j = true ↔ j < i)) :
    ∀ k, k ≤ m → frS ops S val (fs 0) k t = fs (min k i) t
  | 0, _ => by simp [frS]
  | k + 1, hk => by
    have ih := frS_at (val := val) hfs hi hS k (by omega)
    simp only [frS]
    by_cases hd : dstAt ops k = some t
    · by_cases hki : k < i
      · rw [if_pos ((hS k (by omega) hd).2 hki), upd_same hd, Nat.min_eq_left (by omega), hfs k (by omega), upd_same hd]
      · have : ¬ S k = true := fun h => hki ((hS k (by omega) hd).1 h)
        rw [if_neg this, ih, Nat.min_eq_right (by omega), Nat.min_eq_right (by omega)]
    · have e : (if S k = true then upd (frS ops S val (fs 0) k) (dstAt ops k) (val k) else frS ops S val (fs 0) k) t = frS ops S val (fs 0) k t := by
        split
        · exact upd_other hd
        · rfl
      rw [e, ih]
      by_cases hki : k < i
      · rw [Nat.min_eq_left (by omega), Nat.min_eq_left (by omega), hfs k (by omega), upd_other hd]
      · rw [Nat.min_eq_right (by omega), Nat.min_eq_right (by omega)]

theorem frS_put {S S' : Nat → Bool} {val : Nat → CV} {fr0 : Fr} {m i : Nat} (hi : i < m) (hS : ∀ j, S' j = (S j || j == i)) (hlast : ∀ j t, i < j → j < m → dstAt ops i = some t → dstAt ops j = some t → S j = false) :
    frS ops S' val fr0 m = upd (frS ops S val fr0 m) (dstAt ops i) (val i) := by
  funext t
  by_cases hd : dstAt ops i = some t
  · rw [upd_same hd]
    have key : ∀ k, i < k → k ≤ m → frS ops S' val fr0 k t = val i := by
      intro k
      induction k with
      | zero => intro h; omega
      | succ k ih =>
        intro h1 h2
        simp only [frS]
        by_cases hk : k = i
        · subst hk
          rw [if_pos (by simp [hS]), upd_same hd]
        · by_cases hdk : dstAt ops k = some t
          · have : S' k = false := by rw [hS, hlast k t (by omega) (by omega) hd hdk]; simp [hk]
            rw [this]
            simpa using ih (by omega) (by omega)
          · have e : (if S' k = true then upd (frS ops S' val fr0 k) (dstAt ops k) (val k) else frS ops S' val fr0 k) t = frS ops S' val fr0 k t := by
              split
              · exact upd_other hdk
              · rfl
            rw [e]
            exact ih (by omega) (by omega)
    exact key m hi (Nat.le_refl _)
  · rw [upd_other hd]
    have key : ∀ k, frS ops S' val fr0 k t = frS ops S val fr0 k t := by
      intro k
      induction k with
      | zero => rfl
      | succ k ih =>
        simp only [frS]
        by_cases hk : k = i
        · subst hk
          have e1 : (if S' k = true then upd (frS ops S' val fr0 k) (dstAt ops k) (val k) else frS ops S' val fr0 k) t = frS ops S' val fr0 k t := by
            split
            · exact upd_other hd
            · rfl
          have e2 : (if S k = true then upd (frS ops S val fr0 k) (dstAt ops k) (val k) else frS ops S val fr0 k) t = frS ops S val fr0 k t := by
            split
            · exact upd_other hd
            · rfl
          rw [e1, e2, ih]
        · have : S' k = S k := by rw [hS]; simp [hk]
          rw [this]
          split
          · by_cases hdk : dstAt ops k = some t
            · rw [upd_same hdk, upd_same hdk]
            · rw [upd_other hdk, upd_other hdk, ih]
          · exact ih
    exact key m

theorem bxS_at {bar S : Nat → Bool} {bx : Nat → List Box} {m i : Nat} (hb : ∀ k, k < m → bar k = false → bx (k + 1) = bx k) (hi : i ≤ m) (hS : ∀ j, j < m → bar j = true → (S j = true ↔ j < i)) :
    ∀ k, k ≤ m → bxS bar S bx k = bx (min k i)
  | 0, _ => by simp [bxS]
  | k + 1, hk => by
    have ih := bxS_at hb hi hS k (by omega)
    simp only [bxS]
    by_cases hbk : bar k = true
    · by_cases hki : k < i
      · rw [if_pos (by rw [(hS k (by omega) hbk).2 hki, hbk]; rfl), Nat.min_eq_left (by omega)]
      · have : S k = false := by
          cases h : S k with
          | false => rfl
          | true => exact absurd ((hS k (by omega) hbk).1 h) hki
        rw [this, Bool.false_and, if_neg (by simp), ih, Nat.min_eq_right (by omega), Nat.min_eq_right (by omega)]
    · have hbk : bar k = false := by simpa using hbk
      rw [hbk, Bool.and_false, if_neg (by simp), ih]
      by_cases hki : k < i
      · rw [Nat.min_eq_left (by omega), Nat.min_eq_left (by omega), hb k (by omega) hbk]
      · rw [Nat.min_eq_right (by omega), Nat.min_eq_right (by omega)]

theorem bxS_skip {bar S S' : Nat → Bool} {bx : Nat → List Box} {i : Nat} (hb : bar i = false) (hS : ∀ j, S' j = (S j || j == i)) : ∀ k, bxS bar S' bx k = bxS bar S bx k
  | 0 => rfl
  | k + 1 => by
    simp only [bxS]
    rw [bxS_skip hb hS k, hS]
    by_cases hk : k = i
    · subst hk; rw [hb]; simp
    · have : (k == i) = false := by simpa using hk
      rw [this, Bool.or_false]
theorem countP_lt {l : List Nat} {p q : Nat → Bool} (h : ∀ x, q x = true → p x = true) {i : Nat} (hi : i ∈ l) (h1 : p i = true) (h2 : q i = false) : l.countP q < l.countP p := by
  induction l with
  | nil => cases hi
  | cons x l ih =>
    have hle : l.countP q ≤ l.countP p := List.countP_mono_left fun x _ => h x
    rw [List.countP_cons, List.countP_cons]
    rcases List.mem_cons.1 hi with rfl | hi
    · rw [h1, h2]; simp; omega
    · have := ih hi
      have hx : (if q x = true then 1 else 0) ≤ (if p x = true then 1 else 0) := by
        by_cases hq : q x = true
        · rw [if_pos hq, if_pos (h x hq)]; exact Nat.le_refl _
        · rw [if_neg hq]; exact Nat.zero_le _
      omega

theorem St.keep {w' : World} (h : St N n I0 μ0 w0 fr B a I μ w) (hs : w.heap.size ≤ w'.heap.size) (hb : ∀ b, b < w.heap.size → w'.heap[b]? = w.heap[b]?) (hw : w'.os = w.os ∧ w'.tape = w.tape ∧ w'.output = w.output) :
    St N n I0 μ0 w0 fr B a I μ w' :=
  have e := h.box.ext_same hs hb
  ⟨h.size, h.defers, fun i => (h.frame i).ext e.toKeep, h.box.keep hs hb, h.ext.trans e, h.below.trans ⟨hw.1, hw.2.1, hw.2.2, hs, fun k hk => hb k (by have := h.box.low; omega)⟩⟩

theorem opv_eq_of {fr fr' : Fr} {x : Operand} (h : ∀ t, x = .tmp t → fr t = fr' t) : opv fr x = opv fr' x := by
  cases x with
  | tmp t => exact h t rfl
  | _ => rfl

theorem WPd_sound {id : Nat} {Q : Fr → List Box → Prop} {Q' : Exit → Act → World → Prop} (hm : P.follows .mixedOrders = true) (hok : drawOk ops.toList (befs ops.toList []) = true) (h : WPd P n ops (befs ops.toList []) Q 0 ops.toList fr B)
    (hs : St N n I0 μ0 w0 fr B a I μ w) (hQ : ∀ fr' B' a' I' μ' w', Q fr' B' → St N n I0 μ0 w0 fr' B' a' I' μ' w' → Q' .normal a' w') : (Code.region id ops true).wp P Q' a w := by
  obtain ⟨val, fs, bx, e1, e2, hq, hlex⟩ := lex_of_WPd ops.toList 0 fr B h
  have hl : ops.toList.length = ops.size := Array.length_toList
  rw [hl] at hq
  -- the checks, as statements
  simp only [drawOk, Bool.and_eq_true, List.all_eq_true] at hok
  obtain ⟨hok1, hok2⟩ := hok
  have zip : ∀ (i : Nat) (o : Oper), ops[i]? = some o → (o, i) ∈ ops.toList.zipIdx := fun i o ho => by
    rw [List.mem_zipIdx_iff_getElem?]
    simpa using ho
  have hlt : ∀ (i : Nat) (o : Oper), ops[i]? = some o → ∀ e ∈ o.after, Region.binds .any e = true → e.on < i := by
    intro i o ho e he hb
    have := hok1 (o, i) (zip i o ho) e (by simpa using he)
    simpa [hb] using this
  have hord : ∀ (i j : Nat) (o p : Oper) (d : Tmp), ops[i]? = some o → ops[j]? = some p → i ≠ j → p.dst = some d → d ∈ namesOf ops.toList o → orders (befs ops.toList []) i j = true := by
    intro i j o p d ho hp hij hd hn
    have := hok2 (o, i) (zip i o ho) (p, j) (zip j p hp)
    simp only [hd, Bool.or_eq_true, beq_iff_eq] at this
    rcases this with (this | this) | this
    · exact absurd this hij
    · exact this
    · simp [hn] at this
  let bar : Nat → Bool := fun k => barrier ops.toList (befs ops.toList []) k && !(match ops[k]? with | some o => still o.op | none => true)
  have hbar : ∀ (i k : Nat) (o : Oper), ops[i]? = some o → still o.op = false → bar k = true → i ≠ k → orders (befs ops.toList []) i k = true := by
    intro i k o ho hst hk hik
    have : barrier ops.toList (befs ops.toList []) k = true := by
      have hk : (barrier ops.toList (befs ops.toList []) k && !(match ops[k]? with | some o => still o.op | none => true)) = true := hk
      rw [Bool.and_eq_true] at hk; exact hk.1
    simp only [barrier, List.all_eq_true, List.mem_range, Bool.or_eq_true, beq_iff_eq] at this
    rcases this i (by rw [hl]; exact (Array.getElem?_eq_some_iff.1 ho).1) with (h | h) | h
    · exact absurd h hik
    · exact h
    · have ho' : ops.toList[i]? = some o := by simpa using ho
      rw [ho'] at h
      simp [hst] at h
  have hfs : ∀ j, j < ops.size → fs (j + 1) = upd (fs j) (dstAt ops j) (val j) := by
    intro j hj
    have hoj : ops[j]? = some ops[j] := by simp [hj]
    have := (hlex.each j ops[j] (by simpa using hoj)).2.1
    rw [this]
    simp [dstAt, hoj]
  have hbx : ∀ k, k < ops.size → bar k = false → bx (k + 1) = bx k := by
    intro k hk hb
    have hok : ops[k]? = some ops[k] := by simp [hk]
    rcases (hlex.each k ops[k] (by simpa using hok)).2.2 with ⟨_, _, h3⟩ | ⟨_, _, h3⟩
    · rcases h3 with h3 | h3
      · exact h3
      · cases hst : still ops[k].op with
        | true => exact (StepC_still hst (by assumption)).1
        | false =>
          have : bar k = true := by
            show (barrier ops.toList (befs ops.toList []) k && !(match ops[k]? with | some o => still o.op | none => true)) = true
            rw [hok, Bool.and_eq_true]
            exact ⟨by simpa using h3, by simp [hst]⟩
          rw [hb] at this; cases this
    · exact h3
  -- what an operation that may come up finds
  have found : ∀ (S : Nat → Bool) (i : Nat) (o : Oper), Closed ops S → ops[i]? = some o → S i = false → (∀ e ∈ o.after, Region.binds .any e = true → S e.on = true) →
      ∀ j, j < ops.size → i ≠ j → orders (befs ops.toList []) i j = true → (S j = true ↔ j < i) := by
    intro S i o hc ho hSi hd j hj hij hor
    unfold orders at hor
    have hoj : ops[j]? = some ops[j] := by simp [hj]
    rcases Nat.lt_or_ge j i with hji | hji
    · rw [Nat.max_eq_left (by omega), Nat.min_eq_right (by omega)] at hor
      exact ⟨fun _ => hji, fun _ => anc_in hc hlt i o j ho hor hd⟩
    · rw [Nat.max_eq_right (by omega), Nat.min_eq_left (by omega)] at hor
      refine ⟨fun hSj => ?_, fun h => by omega⟩
      have := anc_in hc hlt j _ i hoj hor (hc j _ hoj hSj)
      rw [hSi] at this; cases this
  refine wp_region_any hm ?_
  have key : ∀ (fuel : Nat) (listed : Array Bool) (a : Act) (w : World), listed.size = ops.size → Closed ops (fun i => listed.getD i false) → (List.range ops.size).countP (fun i => !listed.getD i false) ≤ fuel →
      (∃ I μ, St N n I0 μ0 w0 (frS ops (fun i => listed.getD i false) val (fs 0) ops.size) (bxS bar (fun i => listed.getD i false) bx ops.size) a I μ w) → wpAny P .any ops Q' fuel listed a w := by
    intro fuel
    induction fuel with
    | zero =>
      intro listed a w hsz hc hcnt ⟨I, μ, hst⟩
      have hall : ∀ i, i < ops.size → listed.getD i false = true := by
        intro i hi
        have : (List.range ops.size).countP (fun i => !listed.getD i false) = 0 := by omega
        rw [List.countP_eq_zero] at this
        simpa using this i (List.mem_range.2 hi)
      refine ⟨?_, ?_⟩
      · cases hr : Region.ready .any ops listed with
        | nil => rfl
        | cons j js =>
          exfalso
          obtain ⟨h1, oj, h2, _⟩ := mem_ready.1 (show j ∈ Region.ready .any ops listed by rw [hr]; simp)
          have hj := (Array.getElem?_eq_some_iff.1 h2).1
          have := hall j hj
          simp [Array.getD_eq_getD_getElem?, hsz, hj] at h1 this
          rw [h1] at this; cases this
      · have f1 : frS ops (fun i => listed.getD i false) val (fs 0) ops.size = fs ops.size := by
          funext t
          rw [frS_at hfs (Nat.le_refl _) (fun j hj _ => by simp [hall j hj, hj]) ops.size (Nat.le_refl _), Nat.min_self]
        have f2 : bxS bar (fun i => listed.getD i false) bx ops.size = bx ops.size := by
          rw [bxS_at hbx (Nat.le_refl _) (fun j hj _ => by simp [hall j hj, hj]) ops.size (Nat.le_refl _), Nat.min_self]
        rw [f1, f2] at hst
        exact hQ _ _ _ _ _ _ hq hst
    | succ fuel ih =>
      intro listed a w hsz hc hcnt ⟨I, μ, hst⟩
      refine ⟨fun hr => ?_, fun i hi => ?_⟩
      · have hall : ∀ i, i < ops.size → listed.getD i false = true := by
          intro i
          induction i using Nat.strongRecOn with
          | _ i ihi =>
            intro hi
            cases hx : listed.getD i false with
            | true => rfl
            | false =>
              exfalso
              have hoi : ops[i]? = some ops[i] := by simp [hi]
              have : i ∈ Region.ready .any ops listed := mem_ready.2 ⟨by
                simp [Array.getD_eq_getD_getElem?, hsz, hi] at hx ⊢; exact hx, ops[i], hoi, fun e he hb => ihi e.on (hlt i _ hoi e he hb) (by have := hlt i _ hoi e he hb; omega)⟩
              rw [hr] at this
              cases this
        have f1 : frS ops (fun i => listed.getD i false) val (fs 0) ops.size = fs ops.size := by
          funext t
          rw [frS_at hfs (Nat.le_refl _) (fun j hj _ => by simp [hall j hj, hj]) ops.size (Nat.le_refl _), Nat.min_self]
        have f2 : bxS bar (fun i => listed.getD i false) bx ops.size = bx ops.size := by
          rw [bxS_at hbx (Nat.le_refl _) (fun j hj _ => by simp [hall j hj, hj]) ops.size (Nat.le_refl _), Nat.min_self]
        rw [f1, f2] at hst
        exact hQ _ _ _ _ _ _ hq hst
      · obtain ⟨h1, o, ho, hd⟩ := mem_ready.1 hi
        have him := (Array.getElem?_eq_some_iff.1 ho).1
        have hSi : listed.getD i false = false := by
          simp [Array.getD_eq_getD_getElem?, hsz, him] at h1 ⊢; exact h1
        have hfound := found (fun i => listed.getD i false) i o hc ho hSi hd
        obtain ⟨g1, g2, g3⟩ := hlex.each i o (by simpa using ho)
        have hdo : dstAt ops i = o.dst := by simp [dstAt, ho]
        have hd' : ∀ t, o.dst = some t → t < n := fun t ht => by simpa [dstOk, ht] using g1
        -- the slots that it names
        have hslot : ∀ t, t ∈ namesOf ops.toList o → frS ops (fun i => listed.getD i false) val (fs 0) ops.size t = fs i t := by
          intro t ht
          have := frS_at (S := fun i => listed.getD i false) (val := val) (t := t) hfs (Nat.le_of_lt him) (fun j hj hdj => by
            by_cases hij : i = j
            · subst hij; simp [hSi]
            · have hoj : ops[j]? = some ops[j] := by simp [hj]
              exact hfound j hj hij (hord i j o ops[j] t ho hoj hij (by simpa [dstAt, hoj] using hdj) ht)) ops.size (Nat.le_refl _)
          rw [this, Nat.min_eq_right (Nat.le_of_lt him)]
        have hbari : still o.op = true → bar i = false := by
          intro hst
          show (barrier ops.toList (befs ops.toList []) i && !(match ops[i]? with | some o => still o.op | none => true)) = false
          rw [ho]; simp [hst]
        have hbox : still o.op = false → bxS bar (fun i => listed.getD i false) bx ops.size = bx i := by
          intro hst
          have := bxS_at (bar := bar) (S := fun i => listed.getD i false) hbx (Nat.le_of_lt him) (fun j hj hbj => by
            by_cases hij : i = j
            · subst hij; simp [hSi]
            · exact hfound j hj hij (hbar i j o ho hst hbj hij)) ops.size (Nat.le_refl _)
          rw [this, Nat.min_eq_right (Nat.le_of_lt him)]
        have hops : ∀ x ∈ o.op.operands, opv (frS ops (fun i => listed.getD i false) val (fs 0) ops.size) x = opv (fs i) x := fun x hx =>
          opv_eq_of fun t ht => hslot t (by
            subst ht
            simp only [namesOf, List.mem_append, List.mem_filterMap]
            exact .inl (.inr ⟨.tmp t, by simpa using hx, rfl⟩))
        have hwant : wantC ops (frS ops (fun i => listed.getD i false) val (fs 0) ops.size) o = wantC ops (fs i) o := by
          unfold wantC
          cases hg : o.guard with
          | none => rfl
          | some g =>
            obtain ⟨j, want⟩ := g
            dsimp only
            cases hdj : (ops[j]?).bind (·.dst) with
            | none => rfl
            | some d =>
              dsimp only
              rw [hslot d (by
                simp only [namesOf, hg, List.mem_append]
                exact .inr (by simp [hdj]))]
        -- behind it
        have next : ∀ (v : Value) (I' : Nat → Nat → Prop) (μ' : List (List Place)) (w' : World), Step N I μ w (val i) v (if still o.op then bxS bar (fun i => listed.getD i false) bx ops.size else bx (i + 1)) I' μ' w' → wpAny P .any ops Q' fuel (listed.setIfInBounds i true) (a.put o.dst v) w' := by
          intro v I' μ' w' hstep
          have hS' : ∀ j, (listed.setIfInBounds i true).getD j false = (listed.getD j false || j == i) := by
            intro j
            simp only [Array.getD_eq_getD_getElem?, Array.getElem?_setIfInBounds]
            by_cases hij : i = j
            · subst hij; simp [hsz, him]
            · have : (j == i) = false := by simp; omega
              simp [hij, this]
          refine ih _ _ _ (by simp [hsz]) (fun j p hp hj e he hb => ?_) ?_ ⟨I', μ', ?_⟩
          · have hj : (listed.setIfInBounds i true).getD j false = true := hj
            show (listed.setIfInBounds i true).getD e.on false = true
            rw [hS'] at hj ⊢
            simp only [Bool.or_eq_true, beq_iff_eq] at hj ⊢
            rcases hj with hj | rfl
            · exact .inl (hc j p hp hj e he hb)
            · rw [ho] at hp
              simp at hp; subst hp
              exact .inl (hd e he hb)
          · have := countP_lt (l := List.range ops.size) (p := fun j => !listed.getD j false) (q := fun j => !(listed.setIfInBounds i true).getD j false) (fun x hx => by
                rw [hS'] at hx
                simp only [Bool.not_or, Bool.and_eq_true] at hx
                exact hx.1) (List.mem_range.2 him) (by simp [hSi]) (by rw [hS']; simp)
            omega
          · have f1 : frS ops (fun j => (listed.setIfInBounds i true).getD j false) val (fs 0) ops.size = upd (frS ops (fun j => listed.getD j false) val (fs 0) ops.size) (dstAt ops i) (val i) :=
              frS_put him hS' (fun j t hij hj hdi hdj => by
                have hoj : ops[j]? = some ops[j] := by simp [hj]
                have := hfound j hj (by omega) (hord i j o ops[j] t ho hoj (by omega) (by simpa [dstAt, hoj] using hdj) (by
                  rw [hdo] at hdi
                  simp only [namesOf, List.mem_append]
                  exact .inl (.inl (by simp [hdi]))))
                cases hx : listed.getD j false with
                | false => rfl
                | true => have := this.1 hx; omega)
            have f2 : bxS bar (fun j => (listed.setIfInBounds i true).getD j false) bx ops.size = if still o.op then bxS bar (fun i => listed.getD i false) bx ops.size else bx (i + 1) := by
              cases hst' : still o.op with
              | true => rw [if_pos rfl]; exact bxS_skip (hbari hst') hS' _
              | false =>
              rw [if_neg (by simp)]
              have := bxS_at (bar := bar) (S := fun j => (listed.setIfInBounds i true).getD j false) (i := i + 1) hbx (by omega) (fun j hj hbj => by
                rw [hS']
                by_cases hij : i = j
                · subst hij; simp
                · have := hfound j hj hij (hbar i j o ho hst' hbj hij)
                  have h2 : (j == i) = false := by simp; omega
                  rw [h2, Bool.or_false]
                  exact ⟨fun hx => by have := this.1 hx; omega, fun hx => this.2 (by omega)⟩) ops.size (Nat.le_refl _)
              rw [this, Nat.min_eq_right (by omega)]
            rw [f1, f2, hdo]
            exact hst.put hstep hd'
        unfold wpOp
        rw [ho]
        dsimp only
        rcases g3 with ⟨k1, k2, k3⟩ | ⟨k1, k2, k3⟩
        · have hw := want_sound (ops := ops) hst.frame (hwant.trans k1)
          rw [hw, if_pos rfl]
          cases hst' : still o.op with
          | true =>
            refine .inl (step_sound hst ((StepC_congr hops).2 ((StepC_still hst' k2).2 _)) fun c v B' I' μ' w' hK hstep => ?_)
            obtain ⟨rfl, rfl⟩ := hK
            exact next v I' μ' w' (by rw [hst', if_pos rfl]; exact hstep)
          | false =>
            rw [hbox hst'] at hst
            refine .inl (step_sound hst ((StepC_congr hops).2 k2) fun c v B' I' μ' w' hK hstep => ?_)
            obtain ⟨rfl, rfl⟩ := hK
            exact next v I' μ' w' (by rw [hst', if_neg (by simp)]; exact hstep)
        · have hw := want_sound (ops := ops) hst.frame (hwant.trans k1)
          rw [hw, if_neg (by simp)]
          cases hst' : still o.op with
          | true => exact next undef I μ w (by rw [hst', if_pos rfl, k2]; exact ⟨.tup (.nil _) (.nil _), hst.box, .refl _ _ _, Below.refl _ _⟩)
          | false =>
            have hst2 := hst
            rw [hbox hst'] at hst2
            exact next undef I μ w (by rw [hst', if_neg (by simp), k2, k3]; exact ⟨.tup (.nil _) (.nil _), hst2.box, .refl _ _ _, Below.refl _ _⟩)
  have hrep : ∀ i, (Array.replicate ops.size false).getD i false = false := by
    intro i
    simp only [Array.getD_eq_getD_getElem?, Array.getElem?_replicate]
    split <;> rfl
  refine key ops.size _ a _ (by simp) (fun i o ho hx => by have hx : (Array.replicate ops.size false).getD i false = true := hx; rw [hrep] at hx; cases hx) ?_ ⟨I, μ, ?_⟩
  · exact Nat.le_trans List.countP_le_length (by simp)
  · have f0 : ∀ k, frS ops (fun i => (Array.replicate ops.size false).getD i false) val (fs 0) k = fs 0 := by
      intro k
      induction k with
      | zero => rfl
      | succ k ih =>
        simp only [frS]
        rw [if_neg (fun hx => by have hx : (Array.replicate ops.size false).getD k false = true := hx; rw [hrep] at hx; cases hx), ih]
    have f1 : ∀ k, bxS bar (fun i => (Array.replicate ops.size false).getD i false) bx k = bx 0 := by
      intro k
      induction k with
      | zero => rfl
      | succ k ih =>
        simp only [bxS]
        rw [if_neg (fun hx => by have hx : ((Array.replicate ops.size false).getD k false && bar k) = true := hx; rw [hrep] at hx; cases hx), ih]
    rw [f0, f1, e1, e2]
    exact hs.keep (Nat.le_refl _) (fun _ _ => rfl) ⟨rfl, rfl, rfl⟩

end
end Go.Sy
