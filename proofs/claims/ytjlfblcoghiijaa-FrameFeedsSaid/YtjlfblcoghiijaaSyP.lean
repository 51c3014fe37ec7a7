/-
  Code over canonical frames, loops with it; a function's body gives its call.
-/
import Derived.Test.YtjlfblcoghiijaaSyO
import Derived.Test.YtjlfblcoghiijaaSyMr
namespace Go.Sy
set_option linter.all false
open Go.RowKit (Below)

def thenC (K : Fr → List Box → Prop) (Q : Exit → Fr → List Box → Prop) : Exit → Fr → List Box → Prop
  | .normal, fr, B => K fr B
  | e, fr, B => Q e fr B
def inBlockC (id : Nat) (Q : Exit → Fr → List Box → Prop) : Exit → Fr → List Box → Prop
  | .exit i, fr, B => if i = id then Q .normal fr B else Q (.exit i) fr B
  | e, fr, B => Q e fr B

def drawsOk : Code → Bool
  | .region _ ops draw => !draw || drawOk ops.toList (befs ops.toList [])
  | .seq a b => drawsOk a && drawsOk b
  | .cond _ a b => drawsOk a && drawsOk b
  | .block _ c => drawsOk c
  | .loop c => drawsOk c
  | _ => true

def onlyN (K : Fr → List Box → Prop) : Exit → Fr → List Box → Prop
  | .normal, fr, B => K fr B
  | _, _, _ => False
/-- Code that may be walked in a round's frame. -/
def roundOk : Code → Bool
  | .skip => true
  | .region _ ops draw => !draw && ops.toList.all noDefer
  | .seq a b => roundOk a && roundOk b
  | .cond _ a b => roundOk a && roundOk b
  | .block _ c => roundOk c
  | .exit _ => true
  | _ => false

def WPc (P : Program) (n : Nat) : Code → (Exit → Fr → List Box → Prop) → Fr → List Box → Prop
  | .skip, Q, fr, B => Q .normal fr B
  | .region _ ops draw, Q, fr, B => if draw then ∃ (hs : List Nat) (H : List Box) (J : List Box → Prop), hs.length = H.length ∧ J (B ++ H) ∧ (WPd P n ops (befs ops.toList []) B.length hs J (fun fr B => Q .normal fr B) 0 ops.toList fr (B ++ H) ∨ WPq P n ops (befs ops.toList []) B.length hs J (fun fr B => Q .normal fr B) 0 ops.toList fr (B ++ H)) else WPo P n ops (fun fr B => Q .normal fr B) ops.toList fr B
  | .seq a b, Q, fr, B => WPc P n a (thenC (fun fr B => WPc P n b Q fr B) Q) fr B
  | .cond c a b, Q, fr, B => match opv fr c with | .bool t => (t = true → WPc P n a Q fr B) ∧ (t = false → WPc P n b Q fr B) | _ => False
  | .block id c, Q, fr, B => WPc P n c (inBlockC id Q) fr B
  | .loop c, Q, fr, B => ∃ (Inv : Fr → List Box → Prop) (m : Fr → List Box → Nat), Inv fr B ∧ ∀ fr B, Inv fr B → WPc P n c (thenC (fun fr' B' => Inv fr' B' ∧ m fr' B' < m fr B) Q) fr B
  | .exit id, Q, fr, B => Q (.exit id) fr B
  | .ret, Q, fr, B => Q .ret fr B
  | .rangeFunc g ps assign body, Q, fr, B => ∃ (gf : FuncId) (first caps : List CV) (Pre : List CV → List Box → Prop) (Y : List CV → List Box → List Box → Prop), opv fr g = .fn (.func gf) first caps ∧ (∀ p ∈ ps.toList, p < n) ∧ roundOk assign = true ∧ roundOk body = true ∧
      (∀ args B1, Pre args B1 → args.length = ps.size ∧ WPc P n assign (onlyN fun fr2 B2 => WPc P n body (onlyN fun _ B3 => Y args B1 B3) fr2 B2) (bindC fr ps.toList args) B1) ∧
      ∀ l : Nat, ItCall P l Pre Y gf (first ++ [.fn (.yield l) [] []] ++ caps) B (fun _ B' => Q .normal fr B')
  | _, _, _, _ => False

def AWc (P : Program) (n : Nat) (c : Code) (Q : Exit → Fr → List Box → Prop) (fr : Fr) (B : List Box) : Prop :=
  ∀ (N : Nat) (I0 : Nat → Nat → Prop) (μ0 : List (List Place)) (w0 : World) (I : Nat → Nat → Prop) (μ : List (List Place)) (w : World) (a : Act) (Q' : Exit → Act → World → Prop), St N n I0 μ0 w0 fr B a I μ w →
    (∀ ex fr' B' a' I' μ' w', Q ex fr' B' → St N n I0 μ0 w0 fr' B' a' I' μ' w' → Q' ex a' w') → c.wp P Q' a w

theorem exists_least {p : Nat → Prop} (h : ∃ k, p k) : ∃ k, p k ∧ ∀ j, p j → k ≤ j := by
  obtain ⟨k, hk⟩ := h
  induction k using Nat.strongRecOn with
  | _ k ih =>
    by_cases hx : ∃ j, j < k ∧ p j
    · obtain ⟨j, hj, hp⟩ := hx
      exact ih j hj hp
    · exact ⟨k, hk, fun j hj => Nat.le_of_not_lt fun hlt => hx ⟨j, hlt, hj⟩⟩

section
variable {P : Program}

theorem WPo_in {n : Nat} {ops : Array Oper} {Q : Fr → List Box → Prop} {r : Option Nat} {N : Nat} {I0 : Nat → Nat → Prop} {μ0 : List (List Place)} {w0 : World} {Q' : Exit → Act → World → Prop} (more : List Oper) : ∀ (l : List Oper) (fr : Fr) (B : List Box), l.all noDefer = true → WPo P n ops Q l fr B →
    ∀ (I : Nat → Nat → Prop) (μ : List (List Place)) (w : World) (a : Act), St N n I0 μ0 w0 fr B a I μ w → (∀ fr' B' a' I' μ' w', Q fr' B' → St N n I0 μ0 w0 fr' B' a' I' μ' w' → wpListIn (freeF r) 0 P ops Q' more a' w') → wpListIn (freeF r) 0 P ops Q' (l ++ more) a w
  | [], fr, B, _, h => fun I μ w a hs hQ => hQ fr B a I μ w h hs
  | o :: rest, fr, B, ho, h => fun I μ w a hs hQ => by
    simp only [List.all_cons, Bool.and_eq_true] at ho
    unfold WPo at h
    obtain ⟨hd, h⟩ := h
    have hd' : ∀ t, o.dst = some t → t < n := fun t ht => by simpa [dstOk, ht] using hd
    rw [List.cons_append]
    split at h
    · rename_i t ht
      have hw := want_sound hs.frame ht
      unfold wpListIn
      cases t with
      | true =>
        rw [hw, if_pos rfl]
        exact wp_free ho.1 (step_sound hs (h.1 rfl) fun c v B' I' μ' w' hK hst => WPo_in more rest _ _ ho.2 hK I' μ' w' _ (hs.put hst hd') hQ)
      | false =>
        rw [hw, if_neg (by simp)]
        exact ⟨fun _ _ => trivial, WPo_in more rest _ _ ho.2 (h.2 rfl) I μ w _ (hs.put ⟨.tup (.nil _) (.nil _), hs.box, .refl _ _ _, Below.refl _ _⟩ hd') hQ⟩
    · cases h
theorem WPc_in {n : Nat} {r : Option Nat} : ∀ (c : Code) (Q : Exit → Fr → List Box → Prop) (fr : Fr) (B : List Box), roundOk c = true → WPc P n c Q fr B → AWi P r n c Q fr B
  | .skip, Q, fr, B, _, h => fun N I0 μ0 w0 I μ w a Q' hs hq => wpIn_skip (hq _ _ _ _ _ _ _ h hs)
  | .region id ops draw, Q, fr, B, hd, h => fun N I0 μ0 w0 I μ w a Q' hs hq => by
    simp only [roundOk, Bool.and_eq_true, Bool.not_eq_true'] at hd
    obtain ⟨rfl, hd⟩ := hd
    simp only [WPc] at h
    rw [if_neg (by simp)] at h
    have := WPo_in (r := r) (Q' := Q') [] ops.toList fr B hd h I μ w a hs fun fr' B' a' I' μ' w' hQ hst => hq _ _ _ _ _ _ _ hQ hst
    rw [List.append_nil] at this
    exact wpIn_region_list this
  | .seq x y, Q, fr, B, hd, h => fun N I0 μ0 w0 I μ w a Q' hs hq => by
    simp only [roundOk, Bool.and_eq_true] at hd
    refine wpIn_seq (WPc_in x _ fr B hd.1 h N I0 μ0 w0 I μ w a _ hs fun ex fr' B' a' I' μ' w' hQ hst => ?_)
    cases ex with
    | normal => exact WPc_in y Q fr' B' hd.2 hQ N I0 μ0 w0 I' μ' w' a' Q' hst hq
    | _ => exact hq _ _ _ _ _ _ _ hQ hst
  | .cond c x y, Q, fr, B, hd, h => fun N I0 μ0 w0 I μ w a Q' hs hq => by
    simp only [roundOk, Bool.and_eq_true] at hd
    simp only [WPc] at h
    split at h
    · rename_i t e1
      have hc := opv_rel hs.frame c
      rw [e1] at hc
      exact wpIn_cond_split hc.bool_inv (fun ht => WPc_in x Q fr B hd.1 (h.1 ht) N I0 μ0 w0 I μ w a Q' hs hq) (fun ht => WPc_in y Q fr B hd.2 (h.2 ht) N I0 μ0 w0 I μ w a Q' hs hq)
    · cases h
  | .block id c, Q, fr, B, hd, h => fun N I0 μ0 w0 I μ w a Q' hs hq => by
    simp only [roundOk] at hd
    refine wpIn_block (WPc_in c _ fr B hd h N I0 μ0 w0 I μ w a _ hs fun ex fr' B' a' I' μ' w' hQ hst => ?_)
    cases ex with
    | exit i =>
      simp only [inBlockC] at hQ
      simp only [Exit.inBlock]
      split
      · rename_i hi; rw [if_pos hi] at hQ; exact hq _ _ _ _ _ _ _ hQ hst
      · rename_i hi; rw [if_neg hi] at hQ; exact hq _ _ _ _ _ _ _ hQ hst
    | _ => exact hq _ _ _ _ _ _ _ hQ hst
  | .loop .., _, _, _, h, _ => by simp [roundOk] at h
  | .exit id, Q, fr, B, _, h => fun N I0 μ0 w0 I μ w a Q' hs hq => wpIn_exit (hq _ _ _ _ _ _ _ h hs)
  | .ret, _, _, _, h, _ => by simp [roundOk] at h
  | .rangeFunc .., _, _, _, h, _ => by simp [roundOk] at h
  | .scope .., _, _, _, h, _ => by simp [roundOk] at h
  | .label .., _, _, _, h, _ => by simp [roundOk] at h
  | .goto .., _, _, _, h, _ => by simp [roundOk] at h
  | .refuse .., _, _, _, h, _ => by simp [roundOk] at h
theorem AWi.mono {n : Nat} {r : Option Nat} {c : Code} {Q Q' : Exit → Fr → List Box → Prop} {fr : Fr} {B : List Box} (h : AWi P r n c Q fr B) (hq : ∀ ex fr B, Q ex fr B → Q' ex fr B) : AWi P r n c Q' fr B :=
  fun N I0 μ0 w0 I μ w a Q'' hs hk => h N I0 μ0 w0 I μ w a Q'' hs fun ex fr' B' a' I' μ' w' hQ => hk ex fr' B' a' I' μ' w' (hq _ _ _ hQ)

theorem WPc_sound (hm : P.follows .mixedOrders = true) {n : Nat} : ∀ (c : Code) (Q : Exit → Fr → List Box → Prop) (fr : Fr) (B : List Box), drawsOk c = true → WPc P n c Q fr B → AWc P n c Q fr B
  | .skip, Q, fr, B, _, h => fun N I0 μ0 w0 I μ w a Q' hs hq => wp_skip (hq _ _ _ _ _ _ _ h hs)
  | .region id ops draw, Q, fr, B, hd, h => fun N I0 μ0 w0 I μ w a Q' hs hq => by
    simp only [WPc] at h
    cases draw with
    | true =>
      rw [if_pos rfl] at h
      simp only [drawsOk, Bool.not_true, Bool.false_or] at hd
      obtain ⟨ks, H, J, hlen, hJ, h⟩ := h
      rcases h with h | h
      · exact WPd_sound hm hd h hJ (hs.ahead H) (by rw [← hs.box.len]; exact hs.ext.len) (fun j k hj => ahead_new (by rw [hs.box.len]; omega) (by
          have := (List.getElem?_eq_some_iff.1 hj).1; rw [hs.box.len]; omega)) fun fr' B' a' I' μ' w' hQ hst => hq _ _ _ _ _ _ _ hQ hst
      · exact WPq_sound hm hd h hJ (hs.ahead H) (by rw [← hs.box.len]; exact hs.ext.len) (fun j k hj => ahead_new (by rw [hs.box.len]; omega) (by
          have := (List.getElem?_eq_some_iff.1 hj).1; rw [hs.box.len]; omega)) fun fr' B' a' I' μ' w' hQ hst => hq _ _ _ _ _ _ _ hQ hst
    | false =>
      rw [if_neg (by simp)] at h
      exact wp_region_list (WPo_sound ops.toList fr B h N I0 μ0 w0 I μ w a Q' hs fun fr' B' a' I' μ' w' hQ hst => hq _ _ _ _ _ _ _ hQ hst)
  | .seq x y, Q, fr, B, hd, h => fun N I0 μ0 w0 I μ w a Q' hs hq => by
    simp only [drawsOk, Bool.and_eq_true] at hd
    refine wp_seq (WPc_sound hm x _ fr B hd.1 h N I0 μ0 w0 I μ w a _ hs fun ex fr' B' a' I' μ' w' hQ hst => ?_)
    cases ex with
    | normal => exact WPc_sound hm y Q fr' B' hd.2 hQ N I0 μ0 w0 I' μ' w' a' Q' hst hq
    | _ => exact hq _ _ _ _ _ _ _ hQ hst
  | .cond c x y, Q, fr, B, hd, h => fun N I0 μ0 w0 I μ w a Q' hs hq => by
    simp only [drawsOk, Bool.and_eq_true] at hd
    simp only [WPc] at h
    split at h
    · rename_i t e1
      have hc := opv_rel hs.frame c
      rw [e1] at hc
      exact wp_cond_split hc.bool_inv (fun ht => WPc_sound hm x Q fr B hd.1 (h.1 ht) N I0 μ0 w0 I μ w a Q' hs hq) (fun ht => WPc_sound hm y Q fr B hd.2 (h.2 ht) N I0 μ0 w0 I μ w a Q' hs hq)
    · cases h
  | .block id c, Q, fr, B, hd, h => fun N I0 μ0 w0 I μ w a Q' hs hq => by
    simp only [drawsOk] at hd
    refine wp_block (WPc_sound hm c _ fr B hd h N I0 μ0 w0 I μ w a _ hs fun ex fr' B' a' I' μ' w' hQ hst => ?_)
    cases ex with
    | exit i =>
      simp only [inBlockC] at hQ
      simp only [Exit.inBlock]
      split
      · rename_i hi; rw [if_pos hi] at hQ; exact hq _ _ _ _ _ _ _ hQ hst
      · rename_i hi; rw [if_neg hi] at hQ; exact hq _ _ _ _ _ _ _ hQ hst
    | _ => exact hq _ _ _ _ _ _ _ hQ hst
  | .loop c, Q, fr, B, hd, h => fun N I0 μ0 w0 I μ w a Q' hs hq => by
    simp only [drawsOk] at hd
    simp only [WPc] at h
    obtain ⟨Inv, m, hi, hround⟩ := h
    let X : Act → World → Nat → Prop := fun a w k => ∃ fr B I μ, Inv fr B ∧ St N n I0 μ0 w0 fr B a I μ w ∧ m fr B = k
    have least : ∀ a w, (∃ k, X a w k) → ∃ k, X a w k ∧ ∀ j, X a w j → k ≤ j := fun a w h => exists_least h
    have ⟨f, hf⟩ : ∃ f : Act → World → Nat, ∀ a w, (∃ k, X a w k) → X a w (f a w) ∧ ∀ j, X a w j → f a w ≤ j := by
      have := fun (x : Act × World) => Classical.em (∃ k, X x.1 x.2 k)
      refine ⟨fun a w => Classical.epsilon fun k => X a w k ∧ ∀ j, X a w j → k ≤ j, fun a w h => ?_⟩
      exact Classical.epsilon_spec (least a w h)
    refine wp_loop (fun a w => ∃ k, X a w k) f ⟨_, fr, B, I, μ, hi, hs, rfl⟩ fun a w hX => ?_
    obtain ⟨⟨fr1, B1, I1, μ1, hi1, hs1, hm1⟩, hmin⟩ := hf a w hX
    refine WPc_sound hm c _ fr1 B1 hd (hround fr1 B1 hi1) N I0 μ0 w0 I1 μ1 w a _ hs1 fun ex fr' B' a' I' μ' w' hQ hst => ?_
    cases ex with
    | normal =>
      obtain ⟨h1, h2⟩ := hQ
      have hX' : ∃ k, X a' w' k := ⟨_, fr', B', I', μ', h1, hst, rfl⟩
      refine ⟨hX', ?_⟩
      have := (hf a' w' hX').2 (m fr' B') ⟨fr', B', I', μ', h1, hst, rfl⟩
      omega
    | _ => exact hq _ _ _ _ _ _ _ hQ hst
  | .exit id, Q, fr, B, _, h => fun N I0 μ0 w0 I μ w a Q' hs hq => wp_exit (hq _ _ _ _ _ _ _ h hs)
  | .ret, Q, fr, B, _, h => fun N I0 μ0 w0 I μ w a Q' hs hq => wp_ret (hq _ _ _ _ _ _ _ h hs)
  | .rangeFunc g ps assign body, Q, fr, B, _, h => fun N I0 μ0 w0 I μ w a Q' hs hq => by
    simp only [WPc] at h
    obtain ⟨gf, first, caps, Pre, Y, h1, h2, h3, h4, h5, h6⟩ := h
    refine range_sound hs h1 h2 (fun l args B1 hp => ?_) h6 hq
    obtain ⟨h7, h8⟩ := h5 args B1 hp
    refine ⟨h7, (WPc_in assign _ _ _ h3 h8).mono fun ex fr2 B2 hh => ?_⟩
    cases ex with
    | normal =>
      refine ⟨rfl, (WPc_in body _ _ _ h4 hh).mono fun ex fr3 B3 hh3 => ?_⟩
      cases ex with
      | normal => exact ⟨rfl, hh3⟩
      | _ => exact hh3.elim
    | _ => exact hh.elim
  | .scope _, _, _, _, _, h => h.elim
  | .label _, _, _, _, _, h => h.elim
  | .goto _, _, _, _, _, h => h.elim
  | .refuse _, _, _, _, _, h => h.elim

/-- The results of a frame. -/
def resOne (P : Program) (fr : Fr) (B : List Box) : ResultVar → Option CV
  | .tmp t => some (fr t)
  | .cell ad t => match fr ad with
    | .ptr b off => match B[b]? with | some box => if box.multi then none else loadC P t (box.cells.drop off) | none => none
    | .iptr cs => loadC P t cs
    | _ => none
def resAll (P : Program) (fr : Fr) (B : List Box) : List ResultVar → Option (List CV)
  | [] => some []
  | r :: rs => match resOne P fr B r, resAll P fr B rs with | some c, some cs => some (c :: cs) | _, _ => none
def resC (P : Program) (rs : List ResultVar) (fr : Fr) (B : List Box) : Option CV :=
  match resAll P fr B rs with | some [c] => some c | some cs => some (.tup cs) | none => none
def retC (P : Program) (rs : List ResultVar) (Q : CV → List Box → Prop) : Exit → Fr → List Box → Prop
  | .normal, fr, B | .ret, fr, B => match resC P rs fr B with | some c => Q c B | none => False
  | _, _, _ => False
def frOf (args : List CV) : Fr := fun i => args.getD i (.tup [])

section
variable {N n : Nat} {I0 I : Nat → Nat → Prop} {μ0 μ : List (List Place)} {B : List Box} {w0 w : World} {a : Act} {fr : Fr}

theorem resOne_rel (hB : BRel N I μ B w) (hfr : ∀ i, V I μ w (fr i) (a.tmps.getD i undef)) {r : ResultVar} {c : CV} (h : resOne P fr B r = some c) :
    ∃ v, (match r with | .tmp t => pure (a.tmps.getD t undef) | .cell ad t => do loadVar t (← asAddr (a.tmps.getD ad undef)) : Sem Value).run P w = .ok v w ∧ V I μ w c v := by
  cases r with
  | tmp t => simp [resOne] at h; subst h; exact ⟨_, rfl, hfr t⟩
  | cell ad t =>
    have hx := hfr ad
    simp only [resOne] at h
    split at h
    · rename_i b off e1
      rw [e1] at hx
      split at h
      · rename_i box hb
        split at h
        · cases h
        · rename_i hm
          obtain ⟨p, vs, h1, h2, h3, h4⟩ := box_ptr hB hx hb (by simpa using hm)
          obtain ⟨v, h5, h6⟩ := load_rel (P := P) (b := p.b) (off := p.o + off) (h3.drop off) (fun j u hj => by
            rw [List.getElem?_drop] at hj
            rw [Nat.add_assoc]
            exact h4 _ u hj) h
          exact ⟨v, by simp [h2, asAddr, h5], h6⟩
      · cases h
    · rename_i cs e1
      rw [e1] at hx
      obtain ⟨b, o', vs, h1, h2, h3⟩ := hx.iptr_inv
      obtain ⟨v, h5, h6⟩ := load_rel (P := P) h2 (fun j u hj => (h3 j u hj).1) h
      exact ⟨v, by simp [h1, asAddr, h5], h6⟩
    · cases h

theorem resAll_rel (hB : BRel N I μ B w) (hfr : ∀ i, V I μ w (fr i) (a.tmps.getD i undef)) : ∀ (rs : List ResultVar) (cs : List CV), resAll P fr B rs = some cs →
    ∃ vs, (rs.mapM fun r => (match r with | .tmp t => pure (a.tmps.getD t undef) | .cell ad t => do loadVar t (← asAddr (a.tmps.getD ad undef)) : Sem Value) : Sem (List Value)).run P w = .ok vs w ∧ R I μ w false cs vs
  | [], cs, h => by
    simp [resAll] at h; subst h
    exact ⟨[], rfl, .nil _⟩
  | r :: rs, cs, h => by
    simp only [resAll] at h
    split at h
    · rename_i c cs' e1 e2
      simp at h; subst h
      obtain ⟨v, h1, h2⟩ := resOne_rel hB hfr e1
      obtain ⟨vs, h3, h4⟩ := resAll_rel hB hfr rs cs' e2
      refine ⟨v :: vs, ?_, .cons h2 (by simp) h4⟩
      rw [List.mapM_cons]
      simp only [Sem.run_bind, h1, Result.andThen_ok, h3, Sem.run_pure]
    · cases h

theorem resC_rel (hB : BRel N I μ B w) (hfr : ∀ i, V I μ w (fr i) (a.tmps.getD i undef)) {fn : Func} {c : CV} (h : resC P fn.results.toList fr B = some c) : ∃ v, (results fn a.tmps).run P w = .ok v w ∧ V I μ w c v := by
  unfold resC at h
  have key : ∀ cs, resAll P fr B fn.results.toList = some cs → ∃ vs : List Value, R I μ w false cs vs ∧ (results fn a.tmps).run P w = .ok (if h : vs.toArray.size = 1 then vs.toArray[0] else .tuple vs.toArray) w := by
    intro cs hcs
    obtain ⟨vs, h1, h2⟩ := resAll_rel (P := P) hB hfr fn.results.toList cs hcs
    refine ⟨vs, h2, ?_⟩
    unfold results
    rw [Array.mapM_eq_mapM_toList]
    simp only [Sem.run_bind, Sem.run_map, Sem.run_pure]
    exact congrArg (fun (r : Result (List Value)) => (r.andThen fun a w' => Result.ok a.toArray w').andThen fun a w' => Result.ok (if h : a.size = 1 then a[0] else Value.tuple a) w') h1
  split at h
  · rename_i c' hc
    simp at h; subst h
    obtain ⟨vs, h1, h2⟩ := key _ hc
    obtain ⟨v, vs', rfl, h3, _, h4⟩ := R.cons_iff.1 h1
    rw [R.nil_iff] at h4
    subst h4
    exact ⟨v, by simpa using h2, h3⟩
  · rename_i cs hne hc
    simp at h; subst h
    obtain ⟨vs, h1, h2⟩ := key _ hc
    have hl := h1.len
    have : ¬ vs.toArray.size = 1 := by
      intro h
      simp at h
      rw [h] at hl
      match cs, hl with
      | [c], _ => exact hne c rfl
    rw [dif_neg this] at h2
    exact ⟨_, h2, .tup h1 (.nil _)⟩
  · cases h
end

/-- The marks are come to: their blocks are shut. -/
theorem leave_marks {P : Program} {fn : Func} {tmps : Array Value} {Rr : Ending → World → Prop} {n0 : Nat} (J : World → Prop) (hJ : ∀ (w : World) (D : Nat), J w → n0 ≤ D → w.heap[D]? = some (.deferred (some [])) → J (w.putObj D (.deferred none)))
    (hend : ∀ w, J w → LeavesIn Fence.wide 0 P fn tmps Rr [] .returning w) : ∀ (Ds : List Nat) (w : World), Ds.Nodup → (∀ D ∈ Ds, w.heap[D]? = some (.deferred (some [])) ∧ n0 ≤ D) → J w →
    LeavesInM Fence.wide 0 P fn tmps Rr (Ds.map fun D => { target := .collected D, args := #[] }) .returning w
  | [], w, _, _, h => hend w h
  | D :: Ds, w, hn, hD, h => by
    obtain ⟨h1, h2⟩ := hD D (by simp)
    obtain ⟨n1, n2⟩ := List.nodup_cons.1 hn
    refine ⟨by simp, .inl ⟨D, _, rfl, run_takeDeferred h1, leave_marks J hJ hend Ds _ n2 (fun D' hD' => ?_) (hJ w D h h2 h1)⟩⟩
    refine ⟨(World.putObj_heap_other fun e => ?_).trans (hD D' (by simp [hD'])).1, (hD D' (by simp [hD'])).2⟩
    subst e; exact n1 hD'

/-- A FUNCTION's BODY GIVES ITS CALL. -/
theorem call_intro {f : FuncId} {fn : Func} {c : Code} {args : List CV} {B : List Box} {Q : CV → List Box → Prop} {N : Nat} {I : Nat → Nat → Prop} {μ : List (List Place)} {w : World} {vs : List Value} (hf : P.funcs[f]? = some fn) (hb : fn.body = some c)
    (hB : BRel N I μ B w) (hv : R I μ w false args vs) (hn : args.length ≤ fn.ntmps)
    (h : ∀ (a : Act) (Q' : Exit → Act → World → Prop), St N fn.ntmps I μ w (frOf args) B a I μ w → (∀ ex fr' B' a' I' μ' w', retC P fn.results.toList Q ex fr' B' → St N fn.ntmps I μ w fr' B' a' I' μ' w' → Q' ex a' w') → c.wp P Q' a w) :
    Calls P f vs.toArray w fun e w' => ∃ c v B' I' μ', e = .returned v ∧ Q c B' ∧ Step N I μ w c v B' I' μ' w' := by
  refine callsIn_wide.1 (callsIn_of_wp_marks (F := Fence.wide) (n := 0) hf hb trivial (wpIn_wide.2 ?_))
  have hl := hv.len
  have hst : St N fn.ntmps I μ w (frOf args) B { tmps := vs.toArray ++ Array.replicate (fn.ntmps - vs.toArray.size) undef, defers := [] } I μ w := by
    refine ⟨by simp; omega, .none _ _, fun i => ?_, hB, .refl _ _ _, Below.refl _ _⟩
    unfold frOf
    rcases Nat.lt_or_ge i args.length with hi | hi
    · have hx : args[i]? = some args[i] := by simp [hi]
      obtain ⟨v, h1, h2, _⟩ := hv.get hx
      have : (vs.toArray ++ Array.replicate (fn.ntmps - vs.toArray.size) undef).getD i undef = v := by
        rw [Array.getD_eq_getD_getElem?, Array.getElem?_append, if_pos (by simp; omega)]
        simp [h1]
      rw [this, List.getD_eq_getElem?_getD, hx]
      exact h2
    · have : (vs.toArray ++ Array.replicate (fn.ntmps - vs.toArray.size) undef).getD i undef = undef := by
        rw [Array.getD_eq_getD_getElem?, Array.getElem?_append, if_neg (by simp; omega)]
        rw [Array.getElem?_replicate]
        split <;> rfl
      rw [this, List.getD_eq_getElem?_getD, List.getElem?_eq_none hi]
      exact .tup (.nil _) (.nil _)
  refine h _ _ hst fun ex fr' B' a' I' μ' w' hQ hs => ?_
  have key : (match resC P fn.results.toList fr' B' with | some c => Q c B' | none => False) →
      LeavesInM Fence.wide 0 P fn a'.tmps (fun e w' => ∃ c v B'' I'' μ'', e = .returned v ∧ Q c B'' ∧ Step N I μ w c v B'' I'' μ'' w') a'.defers .returning w' := by
    intro hx
    obtain ⟨Ds, d1, d2, d3⟩ := hs.defers
    rw [d1]
    refine leave_marks (n0 := w.heap.size) (fun W => (∀ i, V I' μ' W (fr' i) (a'.tmps.getD i undef)) ∧ BRel N I' μ' B' W ∧ Ext I μ w I' μ' W ∧ Below N w W) (fun W D ⟨j1, j2, j3, j4⟩ hD hW => ?_) (fun W ⟨j1, j2, j3, j4⟩ => ?_) Ds w' d2 d3 ⟨hs.frame, hs.box, hs.ext, hs.below⟩
    · have t := turn_putObj (o' := .deferred none) hW rfl rfl
      have := hB.low
      exact ⟨fun i => (j1 i).ext t.keep, t.box j2, j3.turn hD hW rfl rfl, j4.trans (below_putObj (by omega))⟩
    · split at hx
      · rename_i c hc
        obtain ⟨v, h1, h2⟩ := resC_rel j2 j1 hc
        exact ⟨v, h1, c, v, B', I', μ', rfl, hx, h2, j2, j3, j4⟩
      · cases hx
  cases ex with
  | normal => exact key hQ
  | ret => exact key hQ
  | _ => exact hQ.elim
theorem acall_intro {f : FuncId} {fn : Func} {c : Code} {args : List CV} {B : List Box} {Q : CV → List Box → Prop} (hm : P.follows .mixedOrders = true) (hf : P.funcs[f]? = some fn) (hb : fn.body = some c) (hc : callable P f = true) (hd : drawsOk c = true)
    (hn : args.length ≤ fn.ntmps) (h : WPc P fn.ntmps c (retC P fn.results.toList Q) (frOf args) B) : ACall P f args B Q :=
  ⟨hc, fun N I μ w vs hB hv => call_intro hf hb hB hv hn fun a Q' hst hq => WPc_sound hm c _ _ B hd h N I μ w I μ w a Q' hst hq⟩

end
end Go.Sy
