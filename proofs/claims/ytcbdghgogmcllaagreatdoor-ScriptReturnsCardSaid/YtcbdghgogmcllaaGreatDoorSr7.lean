/- Lemmas and definitions of this claim (own texts, joined by a program; what the claim does not use is left out). -/
import Derived.Test.YtcbdghgogmcllaaGreatDoorSr6
set_option linter.all false
set_option maxRecDepth 100000
set_option maxHeartbeats 4000000
section
namespace Go.Sy
open Go.RowKit (Below)
section
variable {P : Program} {N : Nat} {I : Nat → Nat → Prop} {μ : List (List Place)} {B : List Box} {w : World}
theorem omap_take {f : CV → Option CV} : ∀ {a b : List CV}, omap f a = some b → ∀ k, omap f (a.take k) = some (b.take k)
  | [], b, h, k => by simp [omap] at h; subst h; simp [omap]
  | c :: a, b, h, k => by
    obtain ⟨c', l', rfl, h1, h2⟩ := omap_cons h
    cases k with
    | zero => simp [omap]
    | succ k => simp [omap, h1, omap_take h2 k]
theorem omap_drop {f : CV → Option CV} : ∀ {a b : List CV}, omap f a = some b → ∀ k, omap f (a.drop k) = some (b.drop k)
  | [], b, h, k => by simp [omap] at h; subst h; simp [omap]
  | c :: a, b, h, k => by
    cases k with
    | zero => simpa using h
    | succ k =>
      obtain ⟨c', l', rfl, h1, h2⟩ := omap_cons h
      simpa using omap_drop h2 k
def hide (n : Nat) (B : List Box) : List Box := List.replicate (min n B.length) ⟨[], true⟩ ++ B.drop n
theorem hide_ge {n b : Nat} (h : n ≤ b) : (hide n B)[b]? = B[b]? := by
  unfold hide
  rcases Nat.le_total n B.length with hn | hn
  · rw [Nat.min_eq_left hn, List.getElem?_append_right (by simpa using h), List.length_replicate, List.getElem?_drop]
    congr 1; omega
  · rw [List.drop_of_length_le hn, List.append_nil, List.getElem?_eq_none (by simp; omega), List.getElem?_eq_none (by omega)]
theorem hide_any {n b : Nat} {box : Box} (h : (hide n B)[b]? = some box) : (box.cells = [] ∧ box.multi = true) ∨ (n ≤ b ∧ B[b]? = some box) := by
  rcases Nat.lt_or_ge b n with hb | hb
  · left
    unfold hide at h
    rcases Nat.lt_or_ge b (List.replicate (min n B.length) (⟨[], true⟩ : Box)).length with hl | hl
    · rw [List.getElem?_append_left hl, List.getElem?_replicate] at h
      split at h
      · simp at h; subst h; exact ⟨rfl, rfl⟩
      · cases h
    · rw [List.getElem?_append_right hl, List.getElem?_drop] at h
      simp at hl
      rw [List.getElem?_eq_none (by simp; omega)] at h
      cases h
  · rw [hide_ge hb] at h
    exact .inr ⟨hb, h⟩
theorem fzh_rel {nz fr : Bool} {J : Nat → Nat → Prop} {Bh : List Box} (hB : BRel N I μ B w) (hI : fr = false → ∀ b j, I b j → J b j) (hH : ∀ (β : Nat) (box : Box), Bh[β]? = some box → (box.cells = [] ∧ box.multi = true) ∨ (B[β]? = some box ∧ ∀ (ps : List Place) (p : Place) (j : Nat), μ[β]? = some ps → p ∈ ps → J p.b j)) : ∀ (k : Nat) (one : Bool) (cs : List CV) (vs : List Value) (cs' : List CV), R I μ w one cs vs → omap (fz nz fr Bh k) cs = some cs' → R J [] w one cs' vs := by
  intro k
  induction k with
  | zero =>
    intro one cs vs cs' h hc
    cases cs with
    | nil => simp [omap] at hc; subst hc; rw [R.nil_iff] at h; subst h; exact .nil _
    | cons c cs => simp [omap, fz] at hc
  | succ k ih =>
    intro one cs
    induction cs with
    | nil => intro vs cs' h hc; simp [omap] at hc; subst hc; rw [R.nil_iff] at h; subst h; exact .nil _
    | cons c cs ihl =>
      intro vs cs' h hc
      obtain ⟨v, vs, rfl, h1, h2, h3⟩ := R.cons_iff.1 h
      obtain ⟨c', l', rfl, hf, hl⟩ := omap_cons hc
      refine .cons ?_ h2 (ihl vs l' h3 hl)
      clear ihl h hc h3 hl
      cases h1 with
      | bool b _ => simp [fz] at hf; subst hf; exact .bool _ (.nil _)
      | int k n _ => simp [fz] at hf; subst hf; exact .int _ _ (.nil _)
      | str s _ => simp [fz] at hf; subst hf; exact .str _ (.nil _)
      | nilP _ => simp [fz] at hf; subst hf; exact .nilP (.nil _)
      | nilS _ =>
        simp [fz] at hf; subst hf
        cases nz
        · exact .nilS (.nil _)
        · exact .lstE _ _ (.nil _)
      | nilF _ => simp [fz] at hf; subst hf; exact .nilF (.nil _)
      | nilI _ => simp [fz] at hf; subst hf; exact .nilI (.nil _)
      | raw v h _ => simp [fz] at hf; subst hf; exact .raw v h (.nil _)
      | agg h _ => simp only [fz, Option.map_eq_some_iff] at hf; obtain ⟨cs, hf, rfl⟩ := hf; exact .agg (ih _ _ _ _ h hf) (.nil _)
      | tup h _ => simp only [fz, Option.map_eq_some_iff] at hf; obtain ⟨cs, hf, rfl⟩ := hf; exact .tup (ih _ _ _ _ h hf) (.nil _)
      | lst n full b o cap h hm hn hfu _ =>
        simp only [fz] at hf
        split at hf
        · cases hf
        · rename_i hfe
          simp only [Option.map_eq_some_iff] at hf; obtain ⟨cs, hf, rfl⟩ := hf
          refine .lst n _ b o cap (ih _ _ _ _ h hf) (fun j v hj => ⟨(hm j v hj).1, ?_⟩) hn (fun hx => hfu (by simp at hx; exact hx.1)) (.nil _)
          exact fz_keep hfe h hI (hm j v hj).2 hj
      | lstE full A _ => simp [fz, omap] at hf; subst hf; exact .lstE _ A (.nil _)
      | view β off n sz full ps p cap hb hp hlo hk hn hfu hr _ =>
        simp only [fz] at hf
        split at hf
        · rename_i box hbx
          simp only [Option.map_eq_some_iff] at hf
          obtain ⟨cs, hf, rfl⟩ := hf
          rcases hH β box hbx with ⟨h0, _⟩ | ⟨hbx, hP⟩
          · rw [h0] at hf
            simp [omap] at hf
            subst hf
            exact .lst n _ p.b (p.o + (off - p.lo)) cap (.nil _) (fun j v hj => by simp at hj) hn (fun hx => hfu (by simp at hx; exact hx.1)) (.nil _)
          obtain ⟨_, us, g1, g2, g3, _⟩ := view_cells hB hbx hb hp hlo hk (s := off) (e := n * sz) (Nat.le_refl _) (Nat.le_refl _)
          exact .lst n _ _ _ cap (ih _ _ _ _ g1 hf) (fun j v hj => ⟨g3 j v hj, hP ps p _ hb hp⟩) hn (fun hx => hfu (by simp at hx; exact hx.1)) (.nil _)
        · cases hf
      | viewE β off sz full A hb _ =>
        simp only [fz] at hf
        split at hf
        · simp [omap] at hf; subst hf; exact .lstE _ A (.nil _)
        · cases hf
      | cview β off n cap sz ps p hb hp hlo hk hn hpl _ =>
        simp only [fz] at hf
        split at hf
        · rename_i box hbx
          simp only [Option.map_eq_some_iff] at hf
          obtain ⟨cs, hf, rfl⟩ := hf
          rcases hH β box hbx with ⟨h0, _⟩ | ⟨hbx, hP⟩
          · rw [h0] at hf
            simp [omap] at hf
            subst hf
            exact .lst n _ p.b (p.o + (off - p.lo)) cap (.nil _) (fun j v hj => by simp at hj) hn (by simp) (.nil _)
          have hmul : n * sz ≤ cap * sz := Nat.mul_le_mul_right _ hn
          obtain ⟨_, us, g1, g2, g3, _⟩ := view_cells hB hbx hb hp hlo (n := n) (sz := sz) (by omega) (s := off) (e := n * sz) (Nat.le_refl _) (Nat.le_refl _)
          exact .lst n _ _ _ cap (ih _ _ _ _ g1 hf) (fun j v hj => ⟨g3 j v hj, hP ps p _ hb hp⟩) hn (by simp) (.nil _)
        · cases hf
      | cviewE β off sz A hb _ =>
        simp only [fz] at hf
        split at hf
        · simp [omap] at hf; subst hf; exact .lstE _ A (.nil _)
        · cases hf
      | bview => simp [fz] at hf
      | ptr β off ps p hb hp hlo _ =>
        simp only [fz] at hf
        split at hf
        · rename_i box hbx
          split at hf
          · cases hf
          · rename_i hm
            simp only [Option.map_eq_some_iff] at hf
            obtain ⟨cs, hf, rfl⟩ := hf
            rcases hH β box hbx with ⟨_, h0⟩ | ⟨hbx, hP⟩
            · rename_i hm'
              exact absurd h0 (by simpa using hm)
            obtain ⟨p', us, q1, q2, q3, q4⟩ := box_ptr hB (.ptr β off ps p hb hp hlo (.nil _)) hbx (by simpa using hm)
            rw [q2]
            refine .iptr _ _ (ih _ _ _ _ (q3.drop off) hf) (fun j v hj => ⟨?_, hP [p'] p' _ q1 (by simp)⟩) (.nil _)
            rw [List.getElem?_drop] at hj
            rw [Nat.add_assoc]
            exact q4 _ v hj
        · cases hf
      | iptr b o h hm _ =>
        simp only [fz] at hf
        split at hf
        · cases hf
        · rename_i hfe
          simp only [Option.map_eq_some_iff] at hf; obtain ⟨cs, hf, rfl⟩ := hf
          exact .iptr b o (ih _ _ _ _ h hf) (fun j v hj => ⟨(hm j v hj).1, fz_keep hfe h hI (hm j v hj).2 hj⟩) (.nil _)
      | fn f h h' _ =>
        simp only [fz] at hf
        split at hf
        · rename_i x y e1 e2
          simp at hf; subst hf
          exact .fn f (ih _ _ _ _ h e1) (ih _ _ _ _ h' e2) (.nil _)
        · cases hf
      | iface t h _ =>
        simp only [fz, Option.map_eq_some_iff] at hf
        obtain ⟨v', hf, rfl⟩ := hf
        exact .iface t (ih _ _ _ _ h (by simp [omap, hf])) (.nil _)
      | bptr => simp [fz] at hf
      | imap r es clock h h' hm hi _ =>
        simp only [fz] at hf
        split at hf
        · cases hf
        · rename_i hfe
          split at hf
          · rename_i x y e1 e2
            simp at hf; subst hf
            exact .imap r es clock (ih _ _ _ _ h e1) (ih _ _ _ _ h' e2) hm (hI (by simpa using hfe) r 0 hi) (.nil _)
          · cases hf
theorem R.cut {I J : Nat → Nat → Prop} {μ μ1 : List (List Place)} {w w' : World} {one : Bool} {cs : List CV} {vs vs' : List Value} (h : R I μ w one cs vs) (h' : R J μ1 w' one cs vs') : R J (μ1.take μ.length) w' one cs vs' := by
  have tk : ∀ {β : Nat} {ps ps' : List Place}, μ[β]? = some ps → μ1[β]? = some ps' → (μ1.take μ.length)[β]? = some ps' := fun h1 h2 => by
    rw [List.getElem?_take_of_lt (List.getElem?_eq_some_iff.1 h1).1]; exact h2
  have hr : ∀ {β : Nat} {ps : List Place}, μ[β]? = some ps → Here μ1 β → Here (μ1.take μ.length) β := fun h1 ⟨ps, p, h2, h3⟩ => ⟨ps, p, tk h1 h2, h3⟩
  induction h generalizing vs' with
  | nil one => cases h'; exact .nil one
  | bool b _ ih => cases h' with | bool _ t => exact .bool b (ih t)
  | int k n _ ih => cases h' with | int _ _ t => exact .int k n (ih t)
  | str s _ ih => cases h' with | str _ t => exact .str s (ih t)
  | nilP _ ih => cases h' with | nilP t => exact .nilP (ih t)
  | nilS _ ih => cases h' with | nilS t => exact .nilS (ih t)
  | nilF _ ih => cases h' with | nilF t => exact .nilF (ih t)
  | nilI _ ih => cases h' with | nilI t => exact .nilI (ih t)
  | raw v h1 _ ih => cases h' with | raw _ h2 t => exact .raw v h2 (ih t)
  | agg _ _ ih1 ih2 => cases h' with | agg t1 t2 => exact .agg (ih1 t1) (ih2 t2)
  | tup _ _ ih1 ih2 => cases h' with | tup t1 t2 => exact .tup (ih1 t1) (ih2 t2)
  | lst n full b o cap _ hm hn hf _ ih1 ih2 =>
    cases h' with
    | lst _ _ b' o' cap' t1 hm' hn' hf' t2 => exact .lst n full b' o' cap' (ih1 t1) hm' hn' hf' (ih2 t2)
    | lstE _ A t2 => exact .lstE full A (ih2 t2)
  | lstE full A _ ih =>
    cases h' with
    | lst _ _ b' o' cap' t1 hm' hn' hf' t2 => cases t1; exact .lst 0 full b' o' cap' (.nil _) (fun j v hj => by simp at hj) hn' hf' (ih t2)
    | lstE _ A t2 => exact .lstE full A (ih t2)
  | view β off n sz full ps p cap hb hp hlo hk hn hf hr' _ ih =>
    cases h' with
    | view _ _ _ _ _ ps' p' cap' hb' hp' hlo' hk' hn' hf' hr2 t => exact .view β off n sz full ps' p' cap' (tk hb hb') hp' hlo' hk' hn' hf' hr2 (ih t)
    | viewE _ _ _ _ A hb' t => exact .viewE β off sz full A (hr hb hb') (ih t)
  | viewE β off sz full A hb _ ih =>
    obtain ⟨ps0, p0, hb0, _⟩ := hb
    cases h' with
    | view _ _ _ _ _ ps' p' cap' hb' hp' hlo' hk' hn' hf' hr2 t => exact .view β off 0 sz full ps' p' cap' (tk hb0 hb') hp' hlo' hk' hn' hf' hr2 (ih t)
    | viewE _ _ _ _ A hb' t => exact .viewE β off sz full A (hr hb0 hb') (ih t)
  | cview β off n cap sz ps p hb hp hlo hk hn hpl _ ih =>
    cases h' with
    | cview _ _ _ _ _ ps' p' hb' hp' hlo' hk' hn' hpl' t => exact .cview β off n cap sz ps' p' (tk hb hb') hp' hlo' hk' hn' hpl' (ih t)
    | cviewE _ _ _ A hb' t => exact .cviewE β off sz A (hr hb hb') (ih t)
  | cviewE β off sz A hb _ ih =>
    obtain ⟨ps0, p0, hb0, _⟩ := hb
    cases h' with
    | cview _ _ _ _ _ ps' p' hb' hp' hlo' hk' hn' hpl' t => exact .cview β off 0 0 sz ps' p' (tk hb0 hb') hp' hlo' hk' hn' hpl' (ih t)
    | cviewE _ _ _ A hb' t => exact .cviewE β off sz A (hr hb0 hb') (ih t)
  | bview β n ty ps p cap hb hp hlo ho hk hn hc hr' hpl _ ih =>
    cases h' with
    | bview _ _ _ ps' p' cap' hb' hp' hlo' ho' hk' hn' hc' hr2 hpl' t => exact .bview β n ty ps' p' cap' (tk hb hb') hp' hlo' ho' hk' hn' hc' hr2 hpl' (ih t)
  | ptr β off ps p hb hp hlo _ ih =>
    cases h' with
    | ptr _ _ ps' p' hb' hp' hlo' t => exact .ptr β off ps' p' (tk hb hb') hp' hlo' (ih t)
  | iptr b o _ hm _ ih1 ih2 =>
    cases h' with
    | iptr b' o' t1 hm' t2 => exact .iptr b' o' (ih1 t1) hm' (ih2 t2)
  | fn f _ _ _ ih1 ih2 ih3 =>
    cases h' with
    | fn _ t1 t2 t3 => exact .fn f (ih1 t1) (ih2 t2) (ih3 t3)
  | iface t _ _ ih1 ih2 =>
    cases h' with
    | iface _ t1 t2 => exact .iface t (ih1 t1) (ih2 t2)
  | imap r es clock _ _ hm hi _ ih1 ih2 ih3 =>
    cases h' with
    | imap r' es' clock' t1 t2 hm' hi' t3 => exact .imap r' es' clock' (ih1 t1) (ih2 t2) hm' hi' (ih3 t3)
  | bptr β ty n ps p hb hp hlo ho hw _ ih =>
    cases h' with
    | bptr _ _ _ ps' p' hb' hp' hlo' ho' hw' t => exact .bptr β ty n ps' p' (tk hb hb') hp' hlo' ho' hw' (ih t)
def NoRef (cs : List CV) : Prop := omap (fz false false [] 6) cs = some cs
def Stand (B B1 : List Box) : Prop := B.length ≤ B1.length ∧ ∀ (k : Nat) (box : Box), k < B.length → B1[k]? = some box → NoRef box.cells ∨ (B[k]? = some box ∧ box.multi = false)
theorem acall_drop {f : FuncId} {args : List CV} {Q Q' : CV → List Box → Prop} (h : ACall P f args B Q) (hq : ∀ c B1, Q c B1 → ∃ c', Stand B B1 ∧ fz true false (hide B.length B1) 6 c = some c' ∧ Q' c' (B1.take B.length)) : ACall P f args B Q' := by
  refine ⟨h.1, fun N I μ w vs hB hv => ?_⟩
  refine (h.2 N I μ w vs hB hv).mono fun e w' ⟨c, v, B1, J, μ1, he, hQ, hs⟩ => ?_
  obtain ⟨c', ⟨hlen, hst⟩, hz, hQ'⟩ := hq c B1 hQ
  have hb := hs.box
  have hx := hs.ext
  have hn : μ.length = B.length := hB.len
  let I' : Nat → Nat → Prop := fun b j => J b j ∨ ∃ (β : Nat) (ps : List Place) (p : Place), B.length ≤ β ∧ μ1[β]? = some ps ∧ p ∈ ps ∧ p.b = b
  have hJI : ∀ b j, J b j → I' b j := fun _ _ h => .inl h
  have htk : ∀ {β : Nat}, β < B.length → (μ1.take B.length)[β]? = μ1[β]? := fun h => List.getElem?_take_of_lt h
  have hlt : ∀ {β : Nat} {ps : List Place}, (μ1.take B.length)[β]? = some ps → β < B.length ∧ μ1[β]? = some ps := fun {β ps} h => by
    have h1 := (List.getElem?_eq_some_iff.1 h).1
    rw [List.length_take] at h1
    have h2 : β < B.length := by omega
    exact ⟨h2, by rw [← htk h2]; exact h⟩
  have hKeep : Keep J (μ1.take B.length) w' I' (μ1.take B.length) w' := ⟨hJI, fun _ _ _ => rfl, fun _ _ h => h, fun _ h => h, fun β ps h => ⟨ps, h, fun _ h => h⟩, fun _ _ _ _ h => h⟩
  have hKeep0 : Keep J [] w' I' (μ1.take B.length) w' := ⟨hJI, fun _ _ _ => rfl, fun _ _ h => h, fun _ h => h, fun β ps h => by simp at h, fun _ _ _ _ h => h⟩
  have hnot : ∀ {β : Nat} {ps : List Place} {p : Place} {j : Nat}, β < B.length → μ1[β]? = some ps → p ∈ ps → ¬ J p.b j → ¬ I' p.b j := fun {β ps p j} h1 h2 h3 h4 h5 => by
    rcases h5 with h5 | ⟨β', ps', p', g1, g2, g3, g4⟩
    · exact h4 h5
    · have := hb.disj β β' ps ps' p p' h2 g2 h3 g3 g4.symm
      omega
  have hval : V I' (μ1.take B.length) w' c' v := by
    have h1 := fzh_rel (J := I') (Bh := hide B.length B1) hb (fun _ => hJI) (fun β box hx => by
      rcases hide_any hx with h1 | ⟨h1, h2⟩
      · exact .inl h1
      · exact .inr ⟨h2, fun ps p j h3 h4 => .inr ⟨β, ps, p, h1, h3, h4, rfl⟩⟩) 6 false [c] [v] [c'] hs.val (omap_one hz)
    exact h1.ext ⟨fun _ _ h => h, fun _ _ _ => rfl, fun _ _ h => h, fun _ h => h, fun β ps h => by simp at h, fun _ _ _ _ h => h⟩
  have hbox : BRel N I' (μ1.take B.length) (B1.take B.length) w' := by
    refine ⟨by rw [List.length_take, List.length_take, hb.len], hb.low, fun b j hj => ?_, fun β ps p h1 h2 => hb.places β ps p (hlt h1).2 h2, fun β β' ps ps' p p' h1 h1' h2 h2' he => hb.disj β β' ps ps' p p' (hlt h1).2 (hlt h1').2 h2 h2' he, fun β box h1 h2 => ?_, fun β box ps p h1 h2 h3 h4 => ?_, hb.tabs.mono hJI⟩
    · rcases hj with hj | ⟨β, ps, p, _, h2, h3, rfl⟩
      · exact hb.imm b j hj
      · exact (hb.places β ps p h2 h3).2.2.lt
    · have hβ : β < B.length := by have := (List.getElem?_eq_some_iff.1 h1).1; rw [List.length_take] at this; omega
      rw [List.getElem?_take_of_lt hβ] at h1
      rw [htk hβ]
      rcases hb.one β box h1 h2 with a0 | ⟨p, a1, a2, a3, ⟨us, a4, a5⟩, a6⟩
      · exact .inl a0
      refine .inr ⟨p, a1, a2, a3, ⟨us, ?_, a5⟩, fun j => hnot hβ a1 (by simp) (a6 j)⟩
      rcases hst β box hβ h1 with hc | ⟨g1, g2⟩
      · exact (rel_free 6 true _ _ _ a4 hc).ext hKeep0
      · rcases hB.one β box g1 g2 with b0 | ⟨q, b1, _, _, ⟨us0, b4, _⟩, _⟩
        · have := hx.gone β b0
          rw [a1] at this
          simp at this
        · have := R.cut b4 a4
          rw [hn] at this
          exact this.ext hKeep
    · obtain ⟨hβ, h3⟩ := hlt h3
      rw [List.getElem?_take_of_lt hβ] at h1
      obtain ⟨a1, ⟨us, a2, a3⟩, a4⟩ := hb.many β box ps p h1 h2 h3 h4
      refine ⟨a1, ⟨us, ?_, fun j v hj => ⟨(a3 j v hj).1, .inl (a3 j v hj).2⟩⟩, fun hk j hj => hnot hβ h3 h4 (a4 hk j hj)⟩
      rcases hst β box hβ h1 with hc | ⟨g1, g2⟩
      · have hc' : omap (fz false false [] 6) ((box.cells.take p.k).drop p.lo) = some ((box.cells.take p.k).drop p.lo) := omap_drop (omap_take hc p.k) p.lo
        exact (rel_free 6 true _ _ _ a2 hc').ext hKeep0
      · rw [h2] at g2; cases g2
  have hext : Ext I μ w I' (μ1.take B.length) w' := by
    refine ⟨⟨fun b j h => .inl (hx.imm b j h), hx.same, hx.free, hx.plain, fun β ps h => ?_, hx.maps⟩, hx.size, fun β ps ps' h h' p hp => hx.more β ps ps' h (hlt h').2 p hp, fun β ps h h' => ?_, fun b j hj => ?_, fun β h => ?_, hx.oth⟩
    · obtain ⟨ps', h1, h2⟩ := hx.grow β ps h
      have := (List.getElem?_eq_some_iff.1 h).1
      exact ⟨ps', by rw [htk (by omega)]; exact h1, h2⟩
    · have := (hlt h').1
      omega
    · rcases hj with hj | ⟨β, ps, p, h1, h2, h3, rfl⟩
      · exact hx.immN b j hj
      · exact .inr (.inl (hx.news β ps (by omega) h2 p h3))
    · have := (List.getElem?_eq_some_iff.1 h).1
      rw [htk (by omega)]
      exact hx.gone β h
  exact ⟨c', v, _, I', _, he, hQ', hval, hbox, hext, hs.below⟩
end
end Go.Sy
end
section
namespace Go.Sy
def MLow (B : List Box) : Prop := ∀ (k : Nat) (box : Box), B[k]? = some box → box.multi = true → NoRef box.cells
theorem mlow_nil : MLow [] := fun k box h => by simp at h
theorem mlow_app {B G : List Box} (h : MLow B) (hg : ∀ b ∈ G, b.multi = true → NoRef b.cells) : MLow (B ++ G) := fun k box hk hm => by
  rcases Nat.lt_or_ge k B.length with hl | hl
  · rw [List.getElem?_append_left hl] at hk; exact h k box hk hm
  · rw [List.getElem?_append_right hl] at hk; exact hg box (List.mem_of_getElem? hk) hm
theorem mlow_set {B : List Box} {β : Nat} {y : Box} (h : MLow B) (hy : y.multi = true → NoRef y.cells) : MLow (B.set β y) := fun k box hk hm => by
  rw [List.getElem?_set] at hk
  split at hk
  · split at hk
    · simp at hk; subst hk; exact hy hm
    · cases hk
  · exact h k box hk hm
theorem stand_set {B G : List Box} {β : Nat} {y : Box} (h : MLow B) (hy : NoRef y.cells) : Stand B (B.set β y ++ G) := by
  refine ⟨by simp, fun k box hk hb => ?_⟩
  rw [List.getElem?_append_left (by simpa using hk), List.getElem?_set] at hb
  split at hb
  · split at hb
    · simp at hb; subst hb; exact .inl hy
    · cases hb
  · cases hm : box.multi with
    | true => exact .inl (h k box hb hm)
    | false => exact .inr ⟨hb, rfl⟩
theorem acall_let {P : Program} {f : FuncId} {args : List CV} {B : List Box} {β : Nat} {Q' : CV → Box → Prop} (hm : MLow B) (h : ACall P f args B fun c B1 => ∃ (y : Box) (G : List Box) (c' : CV), NoRef y.cells ∧ B1 = B.set β y ++ G ∧ fz true false (List.replicate B.length ⟨[], true⟩ ++ G) 6 c = some c' ∧ Q' c' y) :
    ACall P f args B fun c B' => ∃ y, Q' c y ∧ B' = B.set β y := by
  refine acall_drop h fun c B1 ⟨y, G, c', hy, hB, hz, hq⟩ => ⟨c', ?_, ?_, y, hq, ?_⟩
  · rw [hB]; exact stand_set hm hy
  · rw [hB]
    have : hide B.length (B.set β y ++ G) = List.replicate B.length ⟨[], true⟩ ++ G := by
      rw [hide, List.drop_left' (by simp), Nat.min_eq_left (by simp)]
    rw [this]; exact hz
  · rw [hB, List.take_left' (by simp)]
theorem fzl_get0 {n m : Nat} {b : Box} {G : List Box} (h : n = m) : (List.replicate n b ++ G)[m]? = G[0]? := by subst h; rw [List.getElem?_append_right (by simp), List.length_replicate, Nat.sub_self]
theorem fzl_get {n i : Nat} {b : Box} {G : List Box} : (List.replicate n b ++ G)[n + i]? = G[i]? := by rw [List.getElem?_append_right (by simp), List.length_replicate, Nat.add_sub_cancel_left]
end Go.Sy
namespace Go.Proofs.YtcbdghgogmcllaaGreatDoor
open Go Go.Sy
theorem kE_MA0 {α : Type} {x y : α} (h : Is x y := by first | ((try simp (disch := first | omega | (simp only [yZ, yB] <;> omega) | fail) [go_sem, yY, *, addrC, if_pos, if_neg, -List.map_take, -List.map_drop, -List.map_append, -List.map_reverse]); exact rfl) | fail) : Is x y := h
theorem kD_MA0 {p : Prop} (h : p := by (first | omega | assumption | exact rfl | ((simp (disch := first | omega | (simp only [yZ, yB] <;> omega) | fail) [go_sem, yY, *, addrC, -List.map_take, -List.map_drop, -List.map_append, -List.map_reverse]) <;> (first | done | omega | exact rfl)) | fail)) : p := h
theorem wB_MA0 {p q : Prop} (k : q) (h : Hq q → p := by (intro k; (repeat' (first | (with_reducible first | apply jA | apply jB | apply jC | apply jD | apply jE | apply jF | apply jG | apply jH | apply jI | apply jJ | apply jK | apply jL | apply jM | apply jN | apply jO) | ((with_reducible first | apply jP | apply jQ); rfl) | ((first | ((with_reducible first | apply jR | apply jS | apply jT); rfl; rfl) | (with_reducible first | apply jU | apply jV | apply jW) | ((with_reducible first | apply jX | apply jY | apply jZ); rfl) | ((with_reducible first | apply kA | apply kB | apply kC); rfl)); all_goals (first | ((with_reducible show Is _ _); exact kE_MA0) | ((with_reducible refine fun (hc : (_ : Bool) = _) => ?_); (try simp only [xZ, xY, xP, reduceCtorEq] at hc); (try (have hx : True := hc; clear hx hc)); (try exact kX)) | ((with_reducible show ACall _ _ _ _ _); (first | ((with_reducible apply c0) <;> exact kD_MA0) | ((with_reducible apply c1) <;> exact kD_MA0) | ((with_reducible apply c2) <;> exact kD_MA0) | ((with_reducible apply c3) <;> exact kD_MA0) | ((with_reducible apply c4) <;> exact kD_MA0) | ((with_reducible apply c5) <;> exact kD_MA0) | ((with_reducible apply c6) <;> exact kD_MA0) | ((with_reducible apply c7) <;> exact kD_MA0))) | ((fail_if_success (with_reducible first | show Is _ _ | show ACall _ _ _ _ _)); (try ((with_reducible show _ ∨ _); exact kT))))) | (((with_reducible first | apply o_callQ | apply q_callQ); rfl); (iterate 2 exact kE_MA0); (first | ((with_reducible apply q0) <;> exact kD_MA0))))); exact hq k)) : p := h ⟨k⟩
theorem w_MA00 {p q : Prop}  (k : q) (h : Hq q → p := by (intro  k; exact wB_MA0 (hq k))) : p := h  ⟨k⟩
theorem cb_noref (l : List UInt8) (a : Nat) : NoRef (cb l a).cells := by simp [NoRef, cb, go_sem, omap_bytes]
theorem drop_cb {f : FuncId} {args : List CV} {B : List Box} {β : Nat} {l : List UInt8} {Q' : CV → Nat → Prop} (hm : MLow B) (h : ACall Tryz.prog f args B fun c B1 => ∃ (a : Nat) (G : List Box) (c' : CV), a ≤ l.length ∧ B1 = B.set β (cb l a) ++ G ∧ fz true false (List.replicate B.length ⟨[], true⟩ ++ G) 6 c = some c' ∧ Q' c' a) :
    ACall Tryz.prog f args B fun c B' => ∃ a, a ≤ l.length ∧ Q' c a ∧ B' = B.set β (cb l a) := by
  refine (acall_let (Q' := fun c y => ∃ a, a ≤ l.length ∧ y = cb l a ∧ Q' c a) hm (h.mono fun c B1 ⟨a, G, c', h1, h2, h3, h4⟩ => ⟨cb l a, G, c', cb_noref l a, h2, h3, a, h1, rfl, h4⟩)).mono fun c B' ⟨y, ⟨a, h1, h2, h3⟩, h4⟩ => ⟨a, h1, h3, by rw [h4, h2]⟩
theorem nx_ex (l : List UInt8) {a : Nat} (m : Int) (n : Nat) (hmn : m = n) (ha : a ≤ l.length) (hl : l.length < 1000000) (hn : 0 < n) : ∃ v a2 : Nat, v < n ∧ a2 ≤ l.length ∧ ∀ {β : Nat} {B : List Box} {args : List CV}, Is args [.ptr β 0, .int .i64 m] → B[β]? = some (cb l a) → ACall Tryz.prog 37 args B fun c B' => c = .int .i64 v ∧ B' = B.set β (cb l a2) :=
  ⟨nxV l a n, nxA l a n, nxV_lt hn, nxA_le ha, fun h h2 => next_at h hmn h2 ⟨ha, by omega⟩⟩
theorem bg_ex (l : List UInt8) {a : Nat} (m : Int) (n : Nat) (hmn : m = n) (ha : a ≤ l.length) (hl : l.length < 1000000) (hn : 1 ≤ n ∧ n ≤ 16777216) : ∃ v a2 : Nat, v < n ∧ a2 ≤ l.length ∧ ∀ {β : Nat} {B : List Box} {args : List CV}, Is args [.ptr β 0, .int .i64 m] → B[β]? = some (cb l a) → ACall Tryz.prog 20 args B fun c B' => c = .int .i64 v ∧ B' = B.set β (cb l a2) :=
  ⟨bgV l a n, bgA l a, bgV_lt (by omega), bgA_le ha, fun h h2 => big_at h hmn hn h2 ⟨ha, hl⟩⟩
theorem by_ex (l : List UInt8) {a : Nat} (m : Int) (n : Nat) (hmn : m = n) (ha : a ≤ l.length) (hl : l.length < 1000000) (hn : n ≤ 1000) : ∃ (K : List UInt8) (a2 : Nat), K.length = n ∧ a2 ≤ l.length ∧ ∀ {β : Nat} {B : List Box} {args : List CV}, Is args [.ptr β 0, .int .i64 m] → B[β]? = some (cb l a) → MLow B → ACall Tryz.prog 100 args B fun c B' => c = .lst n (K.map byteC) false ∧ B' = B.set β (cb l a2) := by
  have hbl := bytesV_len (nxV l a 256) (2 * nxA l a 256 + 1) n
  refine ⟨_, nxA l a 256, hbl, nxA_le ha, fun {β B args} h h2 h3 => ?_⟩
  have := bytes_at h hmn h2 ⟨ha, hl⟩ hn
  generalize bytesV (nxV l a 256) (2 * nxA l a 256 + 1) n = K at *
  generalize nxA l a 256 = a2 at *
  refine (acall_let (β := β) (Q' := fun c y => c = .lst n (K.map byteC) false ∧ y = cb l a2) h3 (this.mono fun c B1 ⟨e1, e2⟩ => ⟨cb l a2, _, .lst n (K.map byteC) false, cb_noref l a2, e2, ?_, rfl, rfl⟩)).mono fun c B' ⟨y, ⟨e1, e2⟩, e3⟩ => ⟨e1, by rw [e3, e2]⟩
  rw [e1, fz_view, fzl_get0 rfl]
  simp [omap_bytes, List.take_of_length_le, hbl]
theorem dkey_at {B : List Box} {β : Nat} {args : List CV} {l : List UInt8} {a : Nat} (ha : Is args [.ptr β 0]) (hB : B[β]? = some (cb l a)) (hl : a ≤ l.length ∧ l.length < 1000000) : ACall Tryz.prog 59 args B fun c B' => c = .agg ((bytesV (nxV l a 256) (2 * nxA l a 256 + 1) 32).map byteC) ∧ ∃ G, B' = B.set β (cb l (nxA l a 256)) ++ G := by
  obtain rfl := ha
  have hby : ∀ {B : List Box} {args : List CV}, Is args [.ptr β 0, .int .i64 32] → B[β]? = some (cb l a) → ACall Tryz.prog 100 args B fun c B' => c = .view B.length 0 32 1 true ∧ B' = B.set β (cb l (nxA l a 256)) ++ [⟨(bytesV (nxV l a 256) (2 * nxA l a 256 + 1) 32).map byteC, false⟩] := fun h h2 => bytes_at (n := 32) h rfl h2 hl (by omega)
  have hbl := bytesV_len (nxV l a 256) (2 * nxA l a 256 + 1) 32
  have hA := nxA_le (l := l) (a := a) (n := 256) hl.1
  generalize bytesV (nxV l a 256) (2 * nxA l a 256 + 1) 32 = K at *
  generalize nxA l a 256 = a2 at *
  have xb := bx_pack hB
  refine acall_intro mixed Tryz.func59 rfl ca59 (by kernel_rfl) (by rw [Tryz.ntmps59]; simp) ?_
  repeat' (first | (with_reducible first | apply jA | apply jB | apply jC | apply jD | apply jE | apply jF | apply jG | apply jH | apply jI | apply jJ | apply jK | apply jL | apply jM | apply jN | apply jO) | ((with_reducible apply jP); rfl) | ((first | ((with_reducible first | apply jR | apply jS | apply jT); rfl; rfl) | (with_reducible first | apply jU | apply jV | apply jW) | ((with_reducible first | apply jX | apply jY | apply jZ); rfl) | ((with_reducible first | apply kA | apply kB | apply kC); rfl)); all_goals (first | ((with_reducible show Is _ _); exact kE) | ((with_reducible refine fun (hc : (_ : Bool) = _) => ?_); (try simp only [xZ, xY, xP, reduceCtorEq] at hc); (try (have hx : True := hc; clear hx hc)); (try exact kX)) | ((with_reducible show ACall _ _ _ _ _); (first | ((with_reducible apply hby) <;> exact kD))) | ((fail_if_success (with_reducible first | show Is _ _ | show ACall _ _ _ _ _)); (try ((with_reducible show _ ∨ _); exact kT))))))
  refine w_drawJ [0] [⟨[], false⟩] (fun B' => ∃ cs, B'[B.length + 1]? = some ⟨cs, false⟩ ∧ cs.length = 32) rfl (by simp (disch := first | omega | (simp only [yZ, yB] <;> omega) | fail) [go_sem, yY, *, -List.map_take, -List.map_drop, -List.map_append, -List.map_reverse]; exact rfl) ⟨_, (by (try (simp (disch := omega) [go_sem, *]) <;> (try omega)); rfl), rfl⟩ ?_
  repeat' (first | (with_reducible first | apply jA | apply jB | apply jC | apply jD | apply jE | apply jF | apply jG | apply jH | apply jI | apply jJ | apply jK | apply jL | apply jM | apply jN | apply jO) | ((with_reducible first | apply jP | apply jQ); rfl) | ((with_reducible apply w_drawA); (conv => lhs; reduce); exact kE; exact kE) | ((first | ((with_reducible first | apply d_made | apply q_made); rfl; rfl)); (iterate 6 exact kE)) | ((first | ((with_reducible first | apply d_fop | apply q_fop); rfl; rfl)); (intro Bx hJ; (first | (obtain ⟨_, hJ1, hJ2⟩ := hJ) | (try simp only at hJ)); exact kE)) | ((with_reducible first | apply d_free | apply q_free); rfl; (iterate 2 exact kE); (intro Bx hJ); (first | ((with_reducible apply hby) <;> exact kD))) | ((first | ((with_reducible first | apply jR | apply jS | apply jT); rfl; rfl) | (with_reducible first | apply jU | apply jV | apply jW) | ((with_reducible first | apply jX | apply jY | apply jZ); rfl) | ((with_reducible first | apply kA | apply kB | apply kC); rfl)); all_goals (first | ((with_reducible show Is _ _); exact kE) | ((with_reducible refine fun (hc : (_ : Bool) = _) => ?_); (try simp only [xZ, xY, xP, reduceCtorEq] at hc); (try (have hx : True := hc; clear hx hc)); (try exact kX)) | ((with_reducible show ACall _ _ _ _ _); (first | ((with_reducible apply hby) <;> exact kD))) | ((fail_if_success (with_reducible first | show Is _ _ | show ACall _ _ _ _ _)); (try ((with_reducible show _ ∨ _); first | exact .inl rfl | (refine .inr ⟨rfl, ?_, ?_⟩; (focus (repeat (first | exact trivial | refine ⟨.inl rfl, ?_⟩ | refine ⟨.inr rfl, ?_⟩ | refine ⟨.inr (by (simp (disch := first | omega | (simp only [yZ, yB] <;> omega) | fail) [go_sem, yY, *, -List.map_take, -List.map_drop, -List.map_append, -List.map_reverse])), ?_⟩))); (first | exact trivial | exact rfl | (refine ⟨_, ?_, ?_⟩; (focus (simp (disch := first | omega | (simp only [yZ, yB] <;> omega) | fail) [go_sem, yY, *, -List.map_take, -List.map_drop, -List.map_append, -List.map_reverse]; (try exact rfl))); (simp (disch := first | omega | (simp only [yZ, yB] <;> omega) | fail) [go_sem, yY, *, -List.map_take, -List.map_drop, -List.map_append, -List.map_reverse])) | (simp (disch := first | omega | (simp only [yZ, yB] <;> omega) | fail) [go_sem, yY, *, -List.map_take, -List.map_drop, -List.map_append, -List.map_reverse]))) | exact .inl (by (simp (disch := first | omega | (simp only [yZ, yB] <;> omega) | fail) [go_sem, yY, *, -List.map_take, -List.map_drop, -List.map_append, -List.map_reverse]))))))))
  exact ⟨rfl, _, rfl⟩
theorem ky_ex (l : List UInt8) {a : Nat} (ha : a ≤ l.length) (hl : l.length < 1000000) : ∃ (K : List UInt8) (a2 : Nat), K.length = 32 ∧ a2 ≤ l.length ∧ ∀ {β : Nat} {B : List Box} {args : List CV}, Is args [.ptr β 0] → B[β]? = some (cb l a) → MLow B → ACall Tryz.prog 59 args B fun c B' => c = .agg (K.map byteC) ∧ B' = B.set β (cb l a2) := by
  have hbl := bytesV_len (nxV l a 256) (2 * nxA l a 256 + 1) 32
  refine ⟨_, nxA l a 256, hbl, nxA_le ha, fun {β B args} h h2 h3 => ?_⟩
  have := dkey_at h h2 ⟨ha, hl⟩
  generalize bytesV (nxV l a 256) (2 * nxA l a 256 + 1) 32 = K at *
  generalize nxA l a 256 = a2 at *
  refine (acall_let (β := β) (Q' := fun c y => c = .agg (K.map byteC) ∧ y = cb l a2) h3 (this.mono fun c B1 ⟨e1, G, e2⟩ => ⟨cb l a2, G, .agg (K.map byteC), cb_noref l a2, e2, ?_, rfl, rfl⟩)).mono fun c B' ⟨y, ⟨e1, e2⟩, e3⟩ => ⟨e1, by rw [e3, e2]⟩
  rw [e1]
  simp [go_sem, omap_bytes]
theorem byte_mod (a : Int) : byteC (UInt8.ofNat (a % 256).toNat) = .int .u8 (IntKind.u8.wrap a) := by
  have h : (UInt8.ofNat (a % 256).toNat).toNat = (a % 256).toNat := by rw [UInt8.toNat_ofNat']; omega
  rw [byteC, h, Int.toNat_of_nonneg (by omega)]
  rfl
def hostV (a b : Int) : List UInt8 := [10, UInt8.ofNat (a % 256).toNat, 0, UInt8.ofNat (b % 256).toNat]
theorem hostG_in (a b : Int) : PC Tryz.prog true 129 [.int .i64 a, .int .i64 b] (addrC false (hostV a b ++ z12)) := by
  refine acall_intro mixed Tryz.func129 rfl ca129 (by kernel_rfl) (by rw [Tryz.ntmps129]; simp) ?_
  refine w0 ?_ 
  simp only [addrC, hostV, List.map_append, List.map_cons, byte_mod]
  rfl
theorem hostG_at {B : List Box} {args : List CV} {a b : Int} (h : Is args [.int .i64 a, .int .i64 b]) : ACall Tryz.prog 129 args B fun c B' => c = addrC false (hostV a b ++ z12) ∧ B' = B := by
  obtain rfl := h
  exact acall_fresh (nz := true) (by simp [go_sem]) (hostG_in a b)
def pkt4 (s d : List UInt8) (n : Nat) (fill : UInt8) (j : Nat) : List UInt8 :=
  [0x45, 0, UInt8.ofNat ((20 + n) / 256), UInt8.ofNat (20 + n), 0, 0, 0, 0, 0, 0, 0, 0] ++ (s ++ (d ++ ((List.range j).map (fun i => fill + UInt8.ofNat (20 + i)) ++ List.replicate (n - j) 0)))
theorem pkt4_len (s d : List UInt8) (n : Nat) (fill : UInt8) (j : Nat) (hs : s.length = 4) (hd : d.length = 4) (hj : j ≤ n) : (pkt4 s d n fill j).length = 20 + n := by
  simp [pkt4, hs, hd]; omega
theorem pkt4_set (s d : List UInt8) (n : Nat) (fill : UInt8) (j : Nat) (hs : s.length = 4) (hd : d.length = 4) (hj : j < n) : (pkt4 s d n fill j).set (20 + j) (fill + UInt8.ofNat (20 + j)) = pkt4 s d n fill (j + 1) := by
  have e : n - j = (n - (j + 1)) + 1 := by omega
  rw [pkt4, pkt4, List.set_append_right _ _ (by simp; omega), List.set_append_right _ _ (by simp [hs]; omega), List.set_append_right _ _ (by simp [hs, hd]; omega), List.set_append_right _ _ (by simp [hs, hd]; omega)]
  simp only [List.length_cons, List.length_nil, hs, hd, List.length_map, List.length_range]
  rw [show 20 + j - (0 + 1 + 1 + 1 + 1 + 1 + 1 + 1 + 1 + 1 + 1 + 1 + 1) - 4 - 4 - j = 0 by omega, e, List.replicate_succ, List.set_cons_zero, List.range_succ, List.map_append, List.append_assoc]
  rfl
theorem byte_div (n : Nat) (h : n ≤ 4000) : byteC (UInt8.ofNat ((20 + n) / 256)) = .int .u8 ((20 + (n : Int)) / 256) := by
  have h : (UInt8.ofNat ((20 + n) / 256)).toNat = (20 + n) / 256 := by rw [UInt8.toNat_ofNat']; omega
  rw [byteC, h]; congr 1
theorem byte_add (a : UInt8) (m : Nat) : byteC (a + UInt8.ofNat m) = .int .u8 (IntKind.u8.wrap (a.toNat + IntKind.u8.wrap m)) := by
  have h : (a + UInt8.ofNat m).toNat = (a.toNat + m % 256) % 256 := by rw [UInt8.toNat_add, UInt8.toNat_ofNat']
  rw [byteC, h]; congr 1
theorem packetO (s d : List UInt8) (n : Nat) (fill : UInt8) (hs : s.length = 4) (hd : d.length = 4) (hn : n ≤ 4000) : ACall Tryz.prog 128 [addrC false (s ++ z12), addrC false (d ++ z12), .int .i64 n, byteC fill] [] fun c B1 => c = .view 2 0 (20 + n) 1 true ∧ ∃ b0 b1, B1 = [b0, b1, ⟨(pkt4 s d n fill n).map byteC, false⟩] := by
  have hz := z12_len
  have h20 : ((20 : Int) + n).toNat = 20 + n := by omega
  have hr : repC [CV.int .u8 0] (20 + n) = (([0,0,0,0,0,0,0,0,0,0,0,0,0,0,0,0,0,0,0,0] : List UInt8) ++ List.replicate n 0).map byteC := by
    rw [rep_bytes, ← List.replicate_append_replicate]; rfl
  have hzl : (List.replicate n (0 : UInt8)).length = n := List.length_replicate
  have hp0 : (pkt4 s d n fill 0).map byteC = CV.int IntKind.u8 69 :: byteC 0 :: CV.int IntKind.u8 ((20 + (n : Int)) / 256) :: CV.int IntKind.u8 (IntKind.u8.wrap (20 + (n : Int))) :: byteC 0 :: byteC 0 :: byteC 0 :: byteC 0 :: byteC 0 :: byteC 0 :: byteC 0 :: byteC 0 :: List.map byteC (s ++ (d ++ List.replicate n 0)) := by
    rw [← byte_div n hn, show (20 + (n : Int)) = ((20 + n : Nat) : Int) by omega, ← byte_wrap]
    rfl
  generalize hzz : List.replicate n (0 : UInt8) = z at *
  refine acall_intro mixed Tryz.func128 rfl ca128 (by kernel_rfl) (by rw [Tryz.ntmps128]; simp) ?_
  refine w_MA00 ?_ 
  refine w_loop (fun fr B => ∃ j : Nat, j ≤ n ∧ fr 9 = .view 2 0 (20 + n) 1 true ∧ fr 10 = .int .i64 (20 + j) ∧ fr 3 = byteC fill ∧ ∃ b0 b1, B = [b0, b1, ⟨(pkt4 s d n fill j).map byteC, false⟩]) (fun fr _ => 20 + n - natOf (fr 10)) ?_ ?_
  · exact ⟨0, by omega, kS, kS, kS, _, _, by rw [hp0]⟩
  · rintro fr B ⟨j, hj, h9, h10, h3, b0, b1, rfl⟩
    have hpl := pkt4_len s d n fill j hs hd hj
    by_cases hc : j < n
    · have hset := pkt4_set s d n fill j hs hd hc
      refine w0 ?_ 
      refine ⟨⟨j + 1, by omega, kS, kS, kS, b0, b1, ?_⟩, kS⟩
      rw [← hset, List.set_eq_take_append_cons_drop, if_pos (by omega), List.map_append, List.map_cons, byte_add, show (20 + (j : Int)).toNat = 20 + j by omega, Int.natCast_add]
      rfl
    · have : j = n := by omega
      subst this
      refine w0 ?_ 
      exact ⟨rfl, b0, b1, rfl⟩
theorem pk_own {B : List Box} {args : List CV} {n : Nat} {m : Int} {fill : UInt8} {s d : List UInt8} (hz : Is (omap (fz true false B 6) args) (some [addrC false (s ++ z12), addrC false (d ++ z12), .int .i64 m, byteC fill])) (hm : m = n) (hs : s.length = 4) (hd : d.length = 4) (hn : n ≤ 4000) :
    ACall Tryz.prog 128 args B fun c B' => c = .view B.length 0 (20 + n) 1 true ∧ B' = B ++ [⟨(pkt4 s d n fill n).map byteC, false⟩] := by
  subst hm
  refine acall_own hz (packetO s d n fill hs hd hn) fun c B1 ⟨h1, b0, b1, h2⟩ => ⟨2, 0, 20 + n, 1, true, ⟨(pkt4 s d n fill n).map byteC, false⟩, h1, by rw [h2]; rfl, ?_, ?_⟩
  · simp only [List.drop_zero, Nat.mul_one]
    rw [List.take_of_length_le (by rw [List.length_map, pkt4_len s d n fill n hs hd (Nat.le_refl n)]; exact Nat.le_refl _)]
    exact scal_bytes _
  · simp only [List.drop_zero, Nat.mul_one]
    rw [List.take_of_length_le (by rw [List.length_map, pkt4_len s d n fill n hs hd (Nat.le_refl n)]; exact Nat.le_refl _)]
    rw [ownC, if_neg (by omega)]
    exact ⟨rfl, rfl⟩
end Go.Proofs.YtcbdghgogmcllaaGreatDoor
end
section
namespace Go.Sy
open Go.RowKit (Below)
section
variable {P : Program} {N n : Nat} {I0 I : Nat → Nat → Prop} {μ0 μ : List (List Place)} {B : List Box} {w0 w : World} {o : Oper} {a : Act} {fr : Fr} {ops : Array Oper}
theorem V.bview_inv {b n : Nat} {ty : TypeId} {v : Value} (h : V I μ w (.bview b n ty) v) : ∃ ps p cap, v = .slice (some ⟨p.b, 0, none⟩) n cap ∧ μ[b]? = some ps ∧ p ∈ ps ∧ p.lo = 0 ∧ p.o = 0 ∧ n ≤ p.k ∧ n ≤ cap ∧ cap ≠ 0 ∧ Free w p.b cap ∧ PlainT w p.b ty := by
  cases h with | bview _ _ _ ps p cap hb hp hlo ho hk hn hc hr hpl _ => exact ⟨ps, p, cap, rfl, hb, hp, hlo, ho, hk, hn, hc, hr, hpl⟩
theorem V.bview_view {b n : Nat} {ty : TypeId} {v : Value} (h : V I μ w (.bview b n ty) v) : V I μ w (.view b 0 n 1 false) v := by
  obtain ⟨ps, p, cap, rfl, hb, hp, hlo, ho, hk, hn, hc, hr, hpl⟩ := h.bview_inv
  have := R.view (I := I) (one := false) b 0 n 1 false ps p cap hb hp (by omega) (by omega) hn (by simp) (by rw [ho, hlo]; simpa using hr) (.nil _)
  rw [ho] at this
  simpa using this
def BldIn (B : List Box) (e : TypeId) (S l : List UInt8) (γ : Nat) (c : CV) (B' : List Box) : Prop :=
  (c = .nilS ∧ l = [] ∧ γ = B.length ∧ B' = B ++ [{ cells := S.map byteC }]) ∨ ∃ m, c = .bview γ l.length e ∧ B[γ]? = some ⟨l.map byteC, m⟩ ∧ B' = B.set γ { cells := (l ++ S).map byteC, multi := true }
theorem bld_append {js : Tmp} {x : Operand} {t tx e : TypeId} {l S : List UInt8} {γ : Nat} {c : CV} {B' : List Box} {i : TypeInfo} {z : Value} (ho : o.op = .call { callee := .builtin .append, args := #[.tmp js, x], argTypes := #[t, tx] }) (hB : BRel N I μ B w) (hs : V I μ w c (a.eval (.tmp js))) (hx : a.eval x = .string ⟨S.toArray⟩)
    (ht : P.underlying t = some (.slice e)) (htx : P.underlying tx = some .string) (hi : P.info? e = some i) (hi1 : i.size = 1) (hib : i.bytes = 1) (hiz : i.zero = some z) (hz1 : z.cells.size = 1) (hS : S ≠ []) (hl : l.length + S.length ≤ 140737488355328) (hc : BldIn B e S l γ c B') :
    ∃ v I' μ' w', (execOp a.eval o).run P w = .ok (.value v) w' ∧ Step N I μ w (.bview γ (l.length + S.length) e) v B' I' μ' w' := by
  have hS0 : S.length ≠ 0 := by simpa using hS
  have hxv : V I μ w (.str S) (a.eval x) := by rw [hx]; exact .str S (.nil _)
  obtain ⟨vs, hvs, src0⟩ := src_rel (esz := 1) (tx := tx) hB (.inr htx) hxv rfl (fun _ => htx)
  have src : ASrc P t tx o.type e i (a.eval x) S.length vs w := ASrc.of ht hi (by rw [hi1]; exact src0)
  have hby : P.bytesOf e = 1 := by simp [Program.bytesOf, hi, hib]
  have hvl := hvs.len
  have hrl : l.length + S.length ≤ 140737488355328 ∧ (l.length + S.length) * 1 ≤ 140737488355328 := ⟨hl, by omega⟩
  have fin : ∀ (nx : Next) (v : Value) (I' : Nat → Nat → Prop) (μ' : List (List Place)) (w' W : World) (g cap : Nat), (execOp a.eval o).run P w = .ok nx w' → nxv nx = some v → Step N I μ w (.view γ 0 (l.length + S.length) 1 false) v B' I' μ' w' →
      (execOp a.eval o).run P w = .ok (.value (.slice (some ⟨g, 0, none⟩) (l.length + S.length) cap)) W → PlainT W g e → ∃ v I' μ' w', (execOp a.eval o).run P w = .ok (.value v) w' ∧ Step N I μ w (.bview γ (l.length + S.length) e) v B' I' μ' w' := by
    intro nx v I' μ' w' W g cap h1 h2 h3 h4 h5
    rw [h1] at h4
    cases h4
    cases h2
    refine ⟨_, I', μ', _, h1, ⟨?_, h3.box, h3.ext, h3.below⟩⟩
    rcases h3.val.view_inv with ⟨ps, p, cap', k1, k2, k3, k4, k5, k6, -, k8⟩ | ⟨A, -, k, -⟩
    · injection k1 with e1 e2 e3
      injection e1 with e1
      injection e1 with e1 e4
      subst e1 e3
      have hlo : p.lo = 0 := by omega
      have := R.bview (I := I') (one := false) γ (l.length + S.length) e ps p cap k2 k3 hlo (by omega) (by omega) k6 (by omega) (k8.less (by omega)) h5 (.nil _)
      exact this
    · omega
  rcases hc with ⟨rfl, rfl, rfl, rfl⟩ | ⟨m, rfl, hbx, rfl⟩
  · simp only [List.length_nil, Nat.zero_add] at hl hrl fin ⊢
    have happ : appendM P e i.size B .nilS S.length (S.map byteC) = some (.view B.length 0 S.length 1 false, B ++ [{ cells := S.map byteC }]) := by
      unfold appendM
      rw [if_neg hS0]
      simp only
      rw [if_pos ⟨by rw [hby]; omega, by omega⟩, hi1]
    obtain ⟨nx, v, I', μ', w', h1, h2, h3⟩ := fits_appendM (fr := fun _ => .nilS) ho hB (by exact hs) hi hiz (by omega) (by omega) hvs src (by exact happ)
    have he := hs.nilS_inv
    have hrun := src.grow (by omega) z hiz none 0 0 [] (by simp [Builtin.firstCells]) (by omega) (by rw [hib]; omega) (by omega)
    rw [Nat.zero_add] at hrun
    exact fin nx v I' μ' w' _ w.heap.size _ h1 h2 h3 (run_call_append ho he hrun) ⟨_, push_new (alloc_heap w.drew _)⟩
  · have happ : appendM P e i.size B (.view γ 0 l.length 1 false) S.length (S.map byteC) = some (.view γ 0 (l.length + S.length) 1 false, B.set γ { cells := (l ++ S).map byteC, multi := true }) := by
      unfold appendM
      rw [if_neg hS0]
      simp only [hbx]
      rw [if_pos ⟨hi1.symm, by rw [hby]; omega, by omega⟩, if_neg (by simp), if_pos (by rw [hi1]; simp), hi1, List.map_append]
    obtain ⟨nx, v, I', μ', w', h1, h2, h3⟩ := fits_appendM (fr := fun _ => .view γ 0 l.length 1 false) ho hB (by exact hs.bview_view) hi hiz (by omega) (by omega) hvs src (by exact happ)
    obtain ⟨ps, p, cap, he, k1, k2, k3, k4, k5, k6, k7, k8, k9⟩ := hs.bview_inv
    by_cases hroom : l.length + S.length ≤ cap
    · have hrun := src.room (by omega) p.b 0 l.length cap hroom (by rw [hib]; omega) (by omega) (fun j hj => (k8.cell (by rw [hi1]; simp at hvl; omega)).1) (fun j hj => (k8.cell (by rw [hi1]; simp at hvl; omega)).2)
      exact fin nx v I' μ' w' _ p.b _ h1 h2 h3 (run_call_append ho he hrun) (setCells_plain _ _ _ _ k9)
    · obtain ⟨_, us, g1, g2, g3, _⟩ := view_cells hB hbx k1 k2 (off := 0) (n := l.length) (sz := 1) (by omega) (by omega) (s := 0) (e := l.length) (Nat.le_refl _) (by omega)
      have hrun := src.grow (by omega) z hiz (some ⟨p.b, 0, none⟩) l.length cap us (run_firstCells' (w := w.drew) (P := P) (by rw [g2, hi1]; omega) (.inr ⟨p.b, 0, rfl, fun j u hj => by
        have := g3 j u hj
        rw [k3, k4] at this
        simpa using this⟩)) (by omega) (by rw [hib]; omega) (by omega)
      exact fin nx v I' μ' w' _ w.heap.size _ h1 h2 h3 (run_call_append ho he hrun) ⟨_, push_new (alloc_heap w.drew _)⟩
theorem AWc_seq {x y : Code} {Q : Exit → Fr → List Box → Prop} (h : AWc P n x (thenC (fun fr B => AWc P n y Q fr B) Q) fr B) : AWc P n (.seq x y) Q fr B := fun N I0 μ0 w0 I μ w a Q' hs hq =>
  wp_seq (h N I0 μ0 w0 I μ w a _ hs fun ex fr1 B1 a1 I1 μ1 w1 hQ1 hs1 => by
    cases ex with
    | normal => exact hQ1 N I0 μ0 w0 I1 μ1 w1 a1 _ hs1 hq
    | _ => exact hq _ _ _ _ _ _ _ hQ1 hs1)
theorem AWc.mono {c : Code} {Q Q2 : Exit → Fr → List Box → Prop} (h : AWc P n c Q fr B) (hk : ∀ e fr B, Q e fr B → Q2 e fr B) : AWc P n c Q2 fr B := fun N I0 μ0 w0 I μ w a Q' hs hq => h N I0 μ0 w0 I μ w a Q' hs fun ex fr' B' a' I' μ' w' hQ hst => hq _ _ _ _ _ _ _ (hk _ _ _ hQ) hst
theorem acall_AWc {f : FuncId} {fn : Func} {c : Code} {args : List CV} {B : List Box} {Q : CV → List Box → Prop} (hm : Fit P) (hf : P.funcs[f]? = some fn) (hb : fn.body = some c) (hc : callable P f = true) (hn : args.length ≤ fn.ntmps)
    (h : AWc P fn.ntmps c (retC P fn.results.toList Q) (frOf args) B) : ACall P f args B Q :=
  ⟨hc, fun N I μ w vs hB hv => call_intro hm.quiet hf hb hB hv hn fun a Q' hst hq => h N I μ w I μ w a Q' hst hq⟩
theorem AWc_w {x y : Code} {Q : Exit → Fr → List Box → Prop} (hm : Fit P) (hd : drawsOk x = true) (J : Fr → List Box → Prop) (h : WPc P n x (thenC J Q) fr B) (k : ∀ fr B, J fr B → AWc P n y Q fr B) : AWc P n (.seq x y) Q fr B :=
  AWc_seq ((WPc_sound hm.mixed x _ fr B hd h).mono fun e fr1 B1 hh => by
    cases e with
    | normal => exact k _ _ hh
    | _ => exact hh)
def BldOk (P : Program) (n : Nat) (o : Oper) (fr : Fr) (B : List Box) (K : Fr → List Box → Prop) : Prop :=
  ∃ (js jx : Tmp) (t tx e : TypeId) (i : TypeInfo) (z : Value) (l S : List UInt8) (γ : Nat) (B' : List Box), o.op = .call { callee := .builtin .append, args := #[.tmp js, .tmp jx], argTypes := #[t, tx] } ∧ o.guard = none ∧ dstOk n o = true ∧ P.underlying t = some (.slice e) ∧ P.underlying tx = some .string ∧ P.info? e = some i ∧ i.size = 1 ∧ i.bytes = 1 ∧ i.zero = some z ∧ z.cells.size = 1 ∧
    S ≠ [] ∧ l.length + S.length ≤ 140737488355328 ∧ fr jx = .str S ∧ BldIn B e S l γ (fr js) B' ∧ K (upd fr o.dst (.bview γ (l.length + S.length) e)) B'
theorem AWc_bld {id : Nat} {l1 l2 : List Oper} {o : Oper} {Q : Exit → Fr → List Box → Prop} {ops : List Oper} (he : ops = l1 ++ o :: l2) (n1 : l1.all noDefer = true) (n2 : l2.all noDefer = true)
    (h : WPo P n ops.toArray (fun fr1 B1 => BldOk P n o fr1 B1 fun fr2 B2 => WPo P n ops.toArray (fun fr B => Q .normal fr B) l2 fr2 B2) l1 fr B) : AWc P n (.region id ops.toArray false) Q fr B := by
  intro N I0 μ0 w0 I μ w a Q' hs hq
  refine (wpIn_wide (n := 0)).1 (wpIn_region_list (F := freeF none) ?_)
  rw [show ops.toArray.toList = l1 ++ o :: l2 by simpa using he]
  refine WPo_in (o :: l2) l1 fr B n1 h I μ w a hs fun fr1 B1 a1 I1 μ1 w1 hp hs1 => ?_
  obtain ⟨js, jx, t, tx, e, i, z, l, S, γ, B', ho, hg, hd, ht, htx, hi, hi1, hib, hiz, hz1, hS, hl, hfx, hc, hK⟩ := hp
  have hd' : ∀ t, o.dst = some t → t < n := fun t ht => by simpa [dstOk, ht] using hd
  have hx := hs1.frame jx
  rw [hfx] at hx
  obtain ⟨v, I2, μ2, w2, hrun, hst⟩ := bld_append ho hs1.box (hs1.frame js) hx.str_inv ht htx hi hi1 hib hiz hz1 hS hl hc
  unfold wpListIn
  rw [show Region.wanted o (yielded ops.toArray a1.tmps) = true by unfold Region.wanted; rw [hg], if_pos rfl]
  refine wp_free (by simp [noDefer, ho]) ?_
  unfold Oper.wp
  rw [hrun, Oper.upon_value]
  have := WPo_in (r := none) (Q' := Q') [] l2 _ _ n2 hK I2 μ2 w2 _ (hs1.put hst hd') fun fr' B' a' I' μ' w' hQ hst => hq _ _ _ _ _ _ _ hQ hst
  rw [List.append_nil] at this
  exact this
def AWz (P : Program) (n : Nat) (c : Code) (Q : Exit → Fr → List Box → Prop) (fr : Fr) (B : List Box) : Prop :=
  ∀ (N : Nat) (I0 : Nat → Nat → Prop) (w0 : World) (I : Nat → Nat → Prop) (μ : List (List Place)) (w : World) (a : Act) (Q' : Exit → Act → World → Prop), BRel N I0 [] [] w0 → St N n I0 [] w0 fr B a I μ w →
    (∀ ex fr' B' a' I' μ' w', Q ex fr' B' → St N n I0 [] w0 fr' B' a' I' μ' w' → Q' ex a' w') → c.wp P Q' a w
theorem AWz.of {c : Code} {Q : Exit → Fr → List Box → Prop} (h : AWc P n c Q fr B) : AWz P n c Q fr B := fun N I0 w0 I μ w a Q' _ hs hq => h N I0 [] w0 I μ w a Q' hs hq
theorem AWz_seq {x y : Code} {Q : Exit → Fr → List Box → Prop} (h : AWz P n x (thenC (fun fr B => AWz P n y Q fr B) Q) fr B) : AWz P n (.seq x y) Q fr B := fun N I0 w0 I μ w a Q' h0 hs hq =>
  wp_seq (h N I0 w0 I μ w a _ h0 hs fun ex fr1 B1 a1 I1 μ1 w1 hQ1 hs1 => by
    cases ex with
    | normal => exact hQ1 N I0 w0 I1 μ1 w1 a1 _ h0 hs1 hq
    | _ => exact hq _ _ _ _ _ _ _ hQ1 hs1)
theorem acall_AWz {f : FuncId} {fn : Func} {c : Code} {args : List CV} {Q : CV → List Box → Prop} (hm : Fit P) (hf : P.funcs[f]? = some fn) (hb : fn.body = some c) (hc : callable P f = true) (hn : args.length ≤ fn.ntmps)
    (h : AWz P fn.ntmps c (retC P fn.results.toList Q) (frOf args) []) : ACall P f args [] Q :=
  ⟨hc, fun N I μ w vs hB hv => call_intro hm.quiet hf hb hB hv hn fun a Q' hst hq => by
    obtain rfl : μ = [] := List.eq_nil_of_length_eq_zero hB.len
    exact h N I w I [] w a Q' hB hst hq⟩
theorem AWz_w {x y : Code} {Q : Exit → Fr → List Box → Prop} (hm : Fit P) (hd : drawsOk x = true) (J : Fr → List Box → Prop) (h : WPc P n x (thenC J Q) fr B) (k : ∀ fr B, J fr B → AWz P n y Q fr B) : AWz P n (.seq x y) Q fr B :=
  AWz_seq (AWz.of ((WPc_sound hm.mixed x _ fr B hd h).mono fun e fr1 B1 hh => by
    cases e with
    | normal => exact k _ _ hh
    | _ => exact hh))
end
end Go.Sy
end
section
namespace Go.Sy
open Go.RowKit (Below)
section
variable {P : Program} {N n : Nat} {I0 I I' : Nat → Nat → Prop} {μ0 μ μ' : List (List Place)} {B : List Box} {w0 w w' : World} {o : Oper} {a : Act} {fr : Fr} {ops : Array Oper}
structure MapSet (r : Nat) (w w' : World) : Prop where
  size : w'.heap.size = w.heap.size
  was : ∃ es c, w.heap[r]? = some (.map es c)
  now : ∃ es c, w'.heap[r]? = some (.map es c)
  else_ : ∀ b, b ≠ r → w'.heap[b]? = w.heap[b]?
  os : w'.os = w.os
  tape : w'.tape = w.tape
  output : w'.output = w.output
theorem MapSet.cell {r : Nat} (h : MapSet r w w') (A : Addr) : w'.cell? A = w.cell? A := by
  unfold World.cell?
  by_cases e : A.block = r
  · obtain ⟨es, c, h1⟩ := h.was
    obtain ⟨es', c', h2⟩ := h.now
    rw [e, h1, h2]
  · rw [h.else_ _ e]
theorem MapSet.free {r b k : Nat} (h : MapSet r w w') (hf : Free w b k) : Free w' b k := by
  obtain ⟨cs, t, fz, h1, h2⟩ := hf
  refine ⟨cs, t, fz, ?_, h2⟩
  rw [h.else_ b fun e => by obtain ⟨es, c, h3⟩ := h.was; subst e; rw [h3] at h1; cases h1]
  exact h1
theorem MapSet.plain {r b : Nat} {ty : TypeId} {k : Nat} (h : MapSet r w w') (hf : Whole w b ty k) : Whole w' b ty k := by
  obtain ⟨cs, h1, h2⟩ := hf
  refine ⟨cs, ?_, h2⟩
  rw [h.else_ b fun e => by obtain ⟨es, c, h3⟩ := h.was; subst e; rw [h3] at h1; cases h1]
  exact h1
theorem MapSet.keep {r : Nat} (h : MapSet r w w') (hr : ¬ I r 0) : Keep I μ w I μ w' :=
  ⟨fun _ _ h => h, fun _ _ _ => h.cell _, fun _ _ hf => h.free hf, fun _ hf => h.plain hf, fun _ ps h => ⟨ps, h, fun _ h => h⟩, fun k es c hi hx => by rw [h.else_ k fun e => hr (e ▸ hi)]; exact hx⟩
theorem MapSet.box {r : Nat} (t : MapSet r w w') (hr : ¬ I r 0) (h : BRel N I μ B w) : BRel N I μ B w' := by
  have e := t.keep (I := I) (μ := μ) hr
  refine ⟨h.len, by rw [t.size]; exact h.low, fun b j hj => by rw [t.size]; exact h.imm b j hj, fun β ps p h1 h2 => ?_, h.disj, fun β box h1 h2 => ?_, fun β box ps p h1 h2 h3 h4 => ?_, h.tabs.keep e⟩
  · obtain ⟨a1, a3, a4⟩ := h.places β ps p h1 h2
    exact ⟨a1, a3, t.free a4⟩
  · rcases h.one β box h1 h2 with a0 | ⟨p, a1, a2, a3, ⟨vs, a4, a5⟩, a6⟩
    · exact .inl a0
    exact .inr ⟨p, a1, a2, a3, ⟨vs, a4.ext e, fun j v hj => (t.cell _).trans (a5 j v hj)⟩, a6⟩
  · obtain ⟨a1, ⟨vs, a2, a3⟩, a4⟩ := h.many β box ps p h1 h2 h3 h4
    exact ⟨a1, ⟨vs, a2.ext e, fun j v hj => ⟨(t.cell _).trans (a3 j v hj).1, (a3 j v hj).2⟩⟩, a4⟩
theorem MapSet.st {r : Nat} (t : MapSet r w w') (hr : ¬ I r 0) (hr0 : w0.heap.size ≤ r) (hN : N ≤ r) (h : St N n I0 μ0 w0 fr B a I μ w) : St N n I0 μ0 w0 fr B a I μ w' := by
  have k := t.keep (I := I) (μ := μ) hr
  refine ⟨h.size, ?_, fun i => (h.frame i).ext k, t.box hr h.box, ?_, ?_⟩
  · obtain ⟨L, h1, h2, h3, h4⟩ := h.defers
    refine ⟨L, h1, h2, fun D hD => ⟨?_, (h3 D hD).2⟩, h4⟩
    rw [t.else_ D fun e => by
      obtain ⟨es, c, hw⟩ := t.was
      have := (h3 D hD).1
      rw [e, hw] at this; cases this]
    exact (h3 D hD).1
  · refine ⟨h.ext.toKeep.trans k, by rw [t.size]; exact h.ext.size, h.ext.more, h.ext.news, h.ext.immN, h.ext.gone, fun b ob hb hc => ?_⟩
    have := (Array.getElem?_eq_some_iff.1 hb).1
    rw [t.else_ b (by omega)]
    exact h.ext.oth b ob hb hc
  · exact ⟨t.os.trans h.below.os, t.tape.trans h.below.tape, t.output.trans h.below.output, by rw [t.size]; exact h.below.size, fun k hk => by rw [t.else_ k (by omega)]; exact h.below.block k hk⟩
theorem map_place {r : Nat} {es : Array MapEntry} {c : Nat} (hB : BRel N I μ B w) (hr : w.heap[r]? = some (.map es c)) {β : Nat} {ps : List Place} {p : Place} (h1 : μ[β]? = some ps) (h2 : p ∈ ps) : p.b ≠ r := fun e => by
  obtain ⟨cs, t, fz, h3, _⟩ := (hB.places β ps p h1 h2).2.2
  rw [e, hr] at h3; cases h3
theorem map_freeze {r : Nat} {es : Array MapEntry} {c : Nat} (h : St N n I0 μ0 w0 fr B a I μ w) (hr : w.heap[r]? = some (.map es c)) (hr0 : w0.heap.size ≤ r) {t : Tmp} (ht : a.tmps.getD t undef = .map (some r)) {ks vs : List CV}
    (hk : R I μ w false ks (es.toList.map (·.key))) (hv : R I μ w false vs (es.toList.map (·.val))) : St N n I0 μ0 w0 (upd fr (some t) (.imap ks vs)) B a (fun b j => I b j ∨ b = r) μ w := by
  have hlt := (Array.getElem?_eq_some_iff.1 hr).1
  have k : Keep I μ w (fun b j => I b j ∨ b = r) μ w := ⟨fun _ _ h => .inl h, fun _ _ _ => rfl, fun _ _ h => h, fun _ h => h, fun _ ps h => ⟨ps, h, fun _ h => h⟩, fun _ _ _ _ h => h⟩
  refine ⟨h.size, h.defers, fun i => ?_, ⟨h.box.len, h.box.low, fun b j hj => ?_, h.box.places, h.box.disj, fun β box h1 h2 => ?_, fun β box ps p h1 h2 h3 h4 => ?_, h.box.tabs.keep k⟩, ⟨h.ext.toKeep.trans k, h.ext.size, h.ext.more, h.ext.news, fun b j hj => ?_, h.ext.gone, h.ext.oth⟩, h.below⟩
  · unfold upd
    by_cases e : i = t
    · subst e
      rw [ht]
      simp only [if_pos]
      exact .imap r es c (hk.ext k) (hv.ext k) hr (.inr rfl) (.nil _)
    · simp only [if_neg e]
      exact (h.frame i).ext k
  · rcases hj with hj | rfl
    · exact h.box.imm b j hj
    · exact hlt
  · rcases h.box.one β box h1 h2 with a0 | ⟨p, a1, a2, a3, ⟨vs, a4, a5⟩, a6⟩
    · exact .inl a0
    · exact .inr ⟨p, a1, a2, a3, ⟨vs, a4.ext k, a5⟩, fun j hj => by
        rcases hj with hj | hj
        · exact a6 j hj
        · exact map_place h.box hr a1 (by simp) hj⟩
  · obtain ⟨a1, ⟨vs, a2, a3⟩, a4⟩ := h.box.many β box ps p h1 h2 h3 h4
    exact ⟨a1, ⟨vs, a2.ext k, fun j v hj => ⟨(a3 j v hj).1, .inl (a3 j v hj).2⟩⟩, fun hk j hj hi => by
      rcases hi with hi | hi
      · exact a4 hk j hj hi
      · exact map_place h.box hr h3 h4 hi⟩
  · rcases hj with hj | rfl
    · exact h.ext.immN b j hj
    · exact .inr (.inl hr0)
def WPm (P : Program) (n : Nat) (mt : TypeId) (t : Tmp) (r : Nat) (K : List CV → List CV → Fr → List Box → Prop) : List Oper → List CV → List CV → Fr → List Box → Prop
  | [], ks, vs, fr, B => K ks vs fr B
  | o :: l, ks, vs, fr, B => o.guard = none ∧ match o.op with
    | .insert mt' m k v => mt' = mt ∧ o.dst = none ∧ opv fr m = .raw (.map (some r)) ∧ (∃ kt e d, P.underlying mt = some (.map kt e) ∧ P.underlying kt = some d ∧ findC d (opv fr k) ks vs = some none ∧ sameC d (opv fr k) (opv fr k) = some true) ∧
        WPm P n mt t r K l (ks ++ [opv fr k]) (vs ++ [opv fr v]) fr B
    | _ => dstOk n o = true ∧ o.dst ≠ some t ∧ StepC P o fr B fun c B' => WPm P n mt t r K l ks vs (upd fr o.dst c) B'
theorem raw_inv {u v : Value} (h : V I μ w (.raw u) v) : v = u := by cases h; rfl
theorem sameC_run {d : TypeDesc} {c k : CV} {b : Bool} (h : sameC d c k = some b) {kt : TypeId} (hd : P.underlying kt = some d) {v : Value} (hv : V I μ w c v) (em : Bool) : (Instr.checkKey em 10000 kt v).run P w = .ok () w := by
  rcases sameC_key h with ⟨k0, k1, m, rfl, rfl⟩ | ⟨rfl, l, rfl⟩
  · rw [hv.int_inv]; exact check_int hd _ 9999 _ _
  · rw [hv.str_inv]; exact check_str hd _ 9999 _
theorem WPm_sound {mt : TypeId} {t : Tmp} {r : Nat} {K : List CV → List CV → Fr → List Box → Prop} {Q' : Exit → Act → World → Prop} {rest : List Oper} (hr0 : w0.heap.size ≤ r) (hN : N ≤ r) 
    (hK : ∀ ks vs fr B a I μ w es c, K ks vs fr B → St N n I0 μ0 w0 fr B a I μ w → w.heap[r]? = some (.map es c) → a.tmps.getD t undef = .map (some r) → R I μ w false ks (es.toList.map (·.key)) → R I μ w false vs (es.toList.map (·.val)) → wpList P ops Q' rest a w) :
    ∀ (l : List Oper) (ks vs : List CV) (fr : Fr) (B : List Box) (a : Act) (I : Nat → Nat → Prop) (μ : List (List Place)) (w : World) (es : Array MapEntry) (c : Nat), WPm P n mt t r K l ks vs fr B → St N n I0 μ0 w0 fr B a I μ w → w.heap[r]? = some (.map es c) → ¬ I r 0 →
      a.tmps.getD t undef = .map (some r) → R I μ w false ks (es.toList.map (·.key)) → R I μ w false vs (es.toList.map (·.val)) → wpList P ops Q' (l ++ rest) a w
  | [], ks, vs, fr, B, a, I, μ, w, es, c, h, hs, hr, hI, ht, hk, hv => hK ks vs fr B a I μ w es c h hs hr ht hk hv
  | o :: l, ks, vs, fr, B, a, I, μ, w, es, c, h, hs, hr, hI, ht, hk, hv => by
    unfold WPm at h
    obtain ⟨hg, h⟩ := h
    show wpList P ops Q' (o :: (l ++ rest)) a w
    unfold wpList
    rw [show Region.wanted o (yielded ops a.tmps) = true by unfold Region.wanted; rw [hg], if_pos rfl]
    left
    split at h
    · rename_i mt' m k v ho
      obtain ⟨rfl, hd, hm, ⟨kt, e, d, hu, hd', hf, hsk⟩, h⟩ := h
      have h1 := opv_rel hs.frame m
      rw [hm] at h1
      have hmv := raw_inv h1
      have h2 := opv_rel hs.frame k
      have h3 := opv_rel hs.frame v
      obtain ⟨q, q1, q2⟩ := find_rel h2 ks vs es.toList 0 _ hk hv hf
      cases q with
      | some q => exact q2.elim
      | none =>
        have hlt := (Array.getElem?_eq_some_iff.1 hr).1
        have hrun : (execOp a.eval o).run P w = .ok .skip { w with heap := w.heap.setIfInBounds r (.map (es.push { key := a.eval k, val := a.eval v, born := c }) (c + 1)) } := by
          simp [execOp, ho, Instr.mapUpdate, hmv, run_underlying hu, run_getObj' hr, sameC_run hsk hd' h2, Instr.findKey, run_underlying hd', q1, setObj, Sem.run, hr]
        unfold Oper.wp
        rw [hrun, Oper.upon_skip]
        generalize hw' : ({ w with heap := w.heap.setIfInBounds r (.map (es.push { key := a.eval k, val := a.eval v, born := c }) (c + 1)) } : World) = w'
        have hnow : w'.heap[r]? = some (.map (es.push { key := a.eval k, val := a.eval v, born := c }) (c + 1)) := by rw [← hw']; simp [hlt]
        have t1 : MapSet r w w' := ⟨by rw [← hw']; simp, ⟨es, c, hr⟩, ⟨_, _, hnow⟩, fun b hb => by rw [← hw']; simp [Array.getElem?_setIfInBounds, Ne.symm hb], by rw [← hw'], by rw [← hw'], by rw [← hw']⟩
        have kk := t1.keep (I := I) (μ := μ) hI
        have := WPm_sound hr0 hN hK l _ _ fr B a I μ w' _ _ h (t1.st hI hr0 hN hs) hnow hI ht (by simpa using (hk.ext kk).append (R.cons (h2.ext kk) (by simp) (.nil _))) (by simpa using (hv.ext kk).append (R.cons (h3.ext kk) (by simp) (.nil _)))
        simpa [hd, Act.put] using this
    · rename_i hno
      obtain ⟨hd, hdt, h⟩ := h
      have hd' : ∀ t, o.dst = some t → t < n := fun t ht => by simpa [dstOk, ht] using hd
      refine step_sound hs h fun c' v B' I' μ' w' hKK hst => ?_
      have hr' := hst.ext.oth r _ hr rfl
      refine WPm_sound hr0 hN hK l ks vs _ B' _ I' μ' w' es c hKK (hs.put hst hd') hr' (fun hi => ?_) ?_ (hk.ext hst.ext.toKeep) (hv.ext hst.ext.toKeep)
      · rcases hst.ext.immN r 0 hi with h1 | h1 | ⟨β, ps, p, h1, h2, h3⟩
        · exact hI h1
        · have := (Array.getElem?_eq_some_iff.1 hr).1; omega
        · exact map_place hs.box hr h1 h2 h3
      · rw [put_getD a o.dst v (fun t ht => by rw [hs.size]; exact hd' t ht), if_neg hdt]
        exact ht
theorem AWc_map {id : Nat} {l1 l2 : List Oper} {mt ty : TypeId} {t : Tmp} {pos : String} {after : Array Edge} {Q : Exit → Fr → List Box → Prop} {ops : List Oper} (he : ops = ⟨some t, .makeMap mt none, ty, pos, after, none⟩ :: (l1 ++ l2)) (ht : decide (t < n) = true)
    (h : ∀ r, WPm P n mt t r (fun ks vs fr1 B1 => WPo P n ops.toArray (fun fr B => Q .normal fr B) l2 (upd fr1 (some t) (.imap ks vs)) B1) l1 [] [] (upd fr (some t) (.raw (.map (some r)))) B) : AWc P n (.region id ops.toArray false) Q fr B := by
  intro N I0 μ0 w0 I μ w a Q' hs hq
  have ht' : t < n := by simpa using ht
  refine wp_region_list ?_
  rw [show ops.toArray.toList = ⟨some t, .makeMap mt none, ty, pos, after, none⟩ :: (l1 ++ l2) by simpa using he]
  unfold wpList
  rw [show Region.wanted (⟨some t, .makeMap mt none, ty, pos, after, none⟩ : Oper) (yielded ops.toArray a.tmps) = true from rfl, if_pos rfl]
  left
  have hrun : (execOp a.eval ⟨some t, .makeMap mt none, ty, pos, after, none⟩).run P w = .ok (.value (.map (some w.heap.size))) (w.alloc (.map #[] 0)) := by
    simp [execOp, Instr.makeMap]
  unfold Oper.wp
  rw [hrun, Oper.upon_value]
  have hp : (w.alloc (.map #[] 0)).heap = w.heap.push (.map #[] 0) := rfl
  have hsame : ∀ b, b < w.heap.size → (w.alloc (.map #[] 0)).heap[b]? = w.heap[b]? := fun b hb => push_old hp hb
  have hsz : w.heap.size ≤ (w.alloc (.map #[] 0)).heap.size := by rw [hp]; simp
  have hst : Step N I μ w (.raw (.map (some w.heap.size))) (.map (some w.heap.size)) B I μ (w.alloc (.map #[] 0)) :=
    ⟨.raw _ (by simp) (.nil _), hs.box.keep hsz hsame, hs.box.ext_same hsz hsame, Below.of_heap hs.box.low hp rfl rfl rfl⟩
  have hs1 := hs.put hst (d := some t) (fun t' e => by cases e; exact ht')
  have hnew : (w.alloc (.map #[] 0)).heap[w.heap.size]? = some (.map #[] 0) := push_new hp
  have hN : N ≤ w.heap.size := hs.box.low
  have h0 : w0.heap.size ≤ w.heap.size := hs.ext.size
  refine WPm_sound (r := w.heap.size) h0 hN (fun ks vs fr B a I μ w1 es c hK hs2 hr hat hk hv => ?_) l1 [] [] _ _ _ I μ _ #[] 0 (h w.heap.size) hs1 hnew (fun hi => by have := hs.box.imm _ _ hi; omega) ?_ (.nil _) (.nil _)
  · exact WPo_sound l2 _ _ hK N I0 μ0 w0 _ _ _ _ Q' (map_freeze hs2 hr h0 hat hk hv) fun fr' B' a' I' μ' w' hQ hst => hq _ _ _ _ _ _ _ hQ hst
  · rw [put_getD a (some t) _ (fun t' e => by cases e; rw [hs.size]; exact ht'), if_pos rfl]
section
variable {mt : TypeId} {t : Tmp} {r : Nat} {K : List CV → List CV → Fr → List Box → Prop} {l : List Oper} {ks vs : List CV} {dst : Option Tmp} {op : Op} {ty : TypeId} {pos : String} {after : Array Edge}
theorem m_nil (h : K ks vs fr B) : WPm P n mt t r K [] ks vs fr B := h
theorem m_ins {m k v : Operand} {kt e : TypeId} {d : TypeDesc} {kc vc : CV} (hu : Is (P.underlying mt) (some (.map kt e))) (hd : Is (P.underlying kt) (some d)) (hm : Is (opv fr m) (.raw (.map (some r)))) (hk : Is (opv fr k) kc) (hv : Is (opv fr v) vc) (hf : Is (findC d kc ks vs) (some none)) (hs : Is (sameC d kc kc) (some true))
    (h : WPm P n mt t r K l (ks ++ [kc]) (vs ++ [vc]) fr B) : WPm P n mt t r K (⟨none, .insert mt m k v, ty, pos, after, none⟩ :: l) ks vs fr B := by
  have hk : opv fr k = kc := hk
  have hv : opv fr v = vc := hv
  unfold WPm
  refine ⟨rfl, rfl, rfl, hm, ⟨kt, e, d, hu, hd, ?_, ?_⟩, ?_⟩
  · rw [hk]; exact hf
  · rw [hk]; exact hs
  · rw [hk, hv]; exact h
def isIns : Op → Bool
  | .insert .. => true
  | _ => false
theorem m_step {o : Oper} (hg : o.guard = none) (hi : isIns o.op = false) (hd : dstOk n o = true) (hdt : (o.dst == some t) = false) (h : StepC P o fr B fun c B' => WPm P n mt t r K l ks vs (upd fr o.dst c) B') : WPm P n mt t r K (o :: l) ks vs fr B := by
  unfold WPm
  refine ⟨hg, ?_⟩
  split
  · rename_i ho; rw [ho] at hi; cases hi
  · exact ⟨hd, by simpa using hdt, h⟩
theorem m_op {c : CV} {B' : List Box} (hd : dstOk n ⟨dst, op, ty, pos, after, none⟩ = true) (hn : isCall op = false) (hi : isIns op = false) (hdt : (dst == some t) = false) (he : Is (ev P ⟨dst, op, ty, pos, after, none⟩ fr B) (some (c, B')))
    (h : WPm P n mt t r K l ks vs (upd fr dst c) B') : WPm P n mt t r K (⟨dst, op, ty, pos, after, none⟩ :: l) ks vs fr B := m_step rfl hi hd hdt (StepC_ev hn _ he h)
theorem m_call {f : Operand} {args : Array Operand} {ts : Array TypeId} {g : FuncId} {first caps all : List CV} {c : CV} {B' : List Box} (hd : dstOk n ⟨dst, .call { callee := .value f, args, argTypes := ts }, ty, pos, after, none⟩ = true) (hdt : (dst == some t) = false)
    (hf : Is (opv fr f) (.fn (.func g) first caps)) (ha : Is (first ++ args.toList.map (opv fr) ++ caps) all) (hc : ACall P g all B fun c' B'' => c' = c ∧ B'' = B') (h : WPm P n mt t r K l ks vs (upd fr dst c) B') :
    WPm P n mt t r K (⟨dst, .call { callee := .value f, args, argTypes := ts }, ty, pos, after, none⟩ :: l) ks vs fr B := by
  refine m_step rfl rfl hd hdt ?_
  have hf : opv fr f = .fn (.func g) first caps := hf
  have ha : first ++ args.toList.map (opv fr) ++ caps = all := ha
  simp only [StepC, hf]
  rw [ha]
  exact .inl (hc.mono fun _ _ ⟨h1, h2⟩ => by rw [h1, h2]; exact h)
end
end
end Go.Sy
end
section
namespace Go.Proofs.YtcbdghgogmcllaaGreatDoor
open Go Go.Sy
def fnC (n : Nat) : CV := .fn (.func n) [] []
def numbC (k : Int) : CV := .agg [.int .i64 3, fnC 89, .fn (.func 118) [] [.iptr [.int .i64 k]]]
def bareC (k : Int) : CV := .agg [.int .i64 2, fnC 120, .fn (.func 121) [] [.iptr [.int .i64 k]]]
theorem numbered_in (k : Int) : PC Tryz.prog true 86 [.int .i64 k] (numbC k) := by
  refine acall_intro mixed Tryz.func86 rfl ca86 (by kernel_rfl) (by rw [Tryz.ntmps86]; simp) ?_
  refine w0 ?_ 
  rfl
theorem bare_in (k : Int) : PC Tryz.prog true 87 [.int .i64 k] (bareC k) := by
  refine acall_intro mixed Tryz.func87 rfl ca87 (by kernel_rfl) (by rw [Tryz.ntmps87]; simp) ?_
  refine w0 ?_ 
  rfl
theorem numbered_at {B : List Box} {k : Int} : ACall Tryz.prog 86 [.int .i64 k] B fun c B' => c = numbC k ∧ B' = B := acall_fresh (nz := false) rfl (numbered_in k)
theorem bare_at {B : List Box} {k : Int} : ACall Tryz.prog 87 [.int .i64 k] B fun c B' => c = bareC k ∧ B' = B := acall_fresh (nz := false) rfl (bare_in k)
def wPlain : List UInt8 := [112, 108, 97, 105, 110]
def wDatagram : List UInt8 := [100, 97, 116, 97, 103, 114, 97, 109]
def wTick : List UInt8 := [116, 105, 99, 107]
def wEntropy : List UInt8 := [101, 110, 116, 114, 111, 112, 121]
def wControl : List UInt8 := [99, 111, 110, 116, 114, 111, 108]
def wHandoff : List UInt8 := [104, 97, 110, 100, 111, 102, 102]
def wPick : List UInt8 := [112, 105, 99, 107]
def wCut : List UInt8 := [99, 117, 116]
def wAbort : List UInt8 := [97, 98, 111, 114, 116]
def wKill : List UInt8 := [107, 105, 108, 108]
def wCorrupt : List UInt8 := [99, 111, 114, 114, 117, 112, 116]
def formC (n a b : Nat) : CV := .agg [.int .i64 n, fnC a, fnC b]
def formK : List CV := [.str wPlain, .str wDatagram, .str wTick, .str wEntropy, .str wHandoff, .str wPick, .str wCut, .str wAbort, .str wKill, .str wCorrupt]
def formX : List CV := [formC 2 68 70, formC 3 72 74, formC 2 76 78, formC 2 80 81, formC 4 82 85, numbC 3, numbC 7, bareC 4, bareC 5, formC 4 88 90]
theorem forms_in : PC Tryz.prog false 46 [] (.imap formK formX) := by
  refine acall_AWc mixed Tryz.func46 rfl (by kernel_rfl) (by rw [Tryz.ntmps46]; simp) ?_
  refine AWc_w mixed (by kernel_rfl) (fun fr B => B = []) ?_ ?_
  · refine w0 ?_ 
    rfl
  rintro fr B rfl
  refine AWc_seq ?_
  refine AWc_map (l1 := [_, _, _, _, _, _, _, _, _, _, _, _, _, _, _, _, _, _, _, _]) (l2 := [_, _]) rfl (by rfl) fun r => ?_
  repeat' (first | ((with_reducible apply m_ins); (iterate 7 exact kE)) | ((with_reducible apply m_op); rfl; rfl; rfl; rfl; exact kE) | ((with_reducible apply m_call); rfl; rfl; (iterate 2 exact kE); (first | ((with_reducible apply numbered_at) <;> exact kD) | ((with_reducible apply bare_at) <;> exact kD))) | (with_reducible apply m_nil))
  refine w0 ?_ 
  refine WPc_sound mixed.mixed _ _ _ _ (by kernel_rfl) ?_
  refine w0 ?_ 
  rfl
end Go.Proofs.YtcbdghgogmcllaaGreatDoor
end
section
namespace Go.Proofs.YtcbdghgogmcllaaGreatDoor
open Go Go.Sy
theorem kE_SH0 {α : Type} {x y : α} (h : Is x y := by first | ((try simp (disch := first | omega | (simp only [yZ, yB] <;> omega) | fail) [go_sem, yY, *, lb, if_pos, if_neg, -List.map_take, -List.map_drop, -List.map_append, -List.map_reverse]); exact rfl) | fail) : Is x y := h
theorem kD_SH0 {p : Prop} (h : p := by (first | omega | assumption | exact rfl | ((simp (disch := first | omega | (simp only [yZ, yB] <;> omega) | fail) [go_sem, yY, *, lb, -List.map_take, -List.map_drop, -List.map_append, -List.map_reverse]) <;> (first | done | omega | exact rfl)) | fail)) : p := h
theorem kE_SH1 {α : Type} {x y : α} (h : Is x y := by first | ((try simp (disch := first | omega | (simp only [yZ, yB] <;> omega) | fail) [go_sem, yY, *, and15, hexD_get, hexD_ix, if_pos, if_neg, -List.map_take, -List.map_drop, -List.map_append, -List.map_reverse]); exact rfl) | fail) : Is x y := h
theorem kD_SH1 {p : Prop} (h : p := by (first | omega | assumption | exact rfl | ((simp (disch := first | omega | (simp only [yZ, yB] <;> omega) | fail) [go_sem, yY, *, and15, hexD_get, hexD_ix, -List.map_take, -List.map_drop, -List.map_append, -List.map_reverse]) <;> (first | done | omega | exact rfl)) | fail)) : p := h
theorem wB_SH0 {p q : Prop} (k : q) (h : Hq q → p := by (intro k; (repeat' (first | (with_reducible first | apply jA | apply jB | apply jC | apply jD | apply jE | apply jF | apply jG | apply jH | apply jI | apply jJ | apply jK | apply jL | apply jM | apply jN | apply jO) | ((with_reducible first | apply jP | apply jQ); rfl) | ((first | ((with_reducible first | apply jR | apply jS | apply jT); rfl; rfl) | (with_reducible first | apply jU | apply jV | apply jW) | ((with_reducible first | apply jX | apply jY | apply jZ); rfl) | ((with_reducible first | apply kA | apply kB | apply kC); rfl)); all_goals (first | ((with_reducible show Is _ _); exact kE_SH0) | ((with_reducible refine fun (hc : (_ : Bool) = _) => ?_); (try simp only [xZ, xY, xP, reduceCtorEq] at hc); (try (have hx : True := hc; clear hx hc)); (try exact kX)) | ((with_reducible show ACall _ _ _ _ _); (first | ((with_reducible apply c0) <;> exact kD_SH0) | ((with_reducible apply c1) <;> exact kD_SH0) | ((with_reducible apply c2) <;> exact kD_SH0) | ((with_reducible apply c3) <;> exact kD_SH0) | ((with_reducible apply c4) <;> exact kD_SH0) | ((with_reducible apply c5) <;> exact kD_SH0) | ((with_reducible apply c6) <;> exact kD_SH0) | ((with_reducible apply c7) <;> exact kD_SH0))) | ((fail_if_success (with_reducible first | show Is _ _ | show ACall _ _ _ _ _)); (try ((with_reducible show _ ∨ _); exact kT))))) | (((with_reducible first | apply o_callQ | apply q_callQ); rfl); (iterate 2 exact kE_SH0); (first | ((with_reducible apply q0) <;> exact kD_SH0))))); exact hq k)) : p := h ⟨k⟩
theorem wB_SH1 {p q : Prop} (k : q) (h : Hq q → p := by (intro k; (repeat' (first | (with_reducible first | apply jA | apply jB | apply jC | apply jD | apply jE | apply jF | apply jG | apply jH | apply jI | apply jJ | apply jK | apply jL | apply jM | apply jN | apply jO) | ((with_reducible first | apply jP | apply jQ); rfl) | ((first | ((with_reducible first | apply jR | apply jS | apply jT); rfl; rfl) | (with_reducible first | apply jU | apply jV | apply jW) | ((with_reducible first | apply jX | apply jY | apply jZ); rfl) | ((with_reducible first | apply kA | apply kB | apply kC); rfl)); all_goals (first | ((with_reducible show Is _ _); exact kE_SH1) | ((with_reducible refine fun (hc : (_ : Bool) = _) => ?_); (try simp only [xZ, xY, xP, reduceCtorEq] at hc); (try (have hx : True := hc; clear hx hc)); (try exact kX)) | ((with_reducible show ACall _ _ _ _ _); (first | ((with_reducible apply c0) <;> exact kD_SH1) | ((with_reducible apply c1) <;> exact kD_SH1) | ((with_reducible apply c2) <;> exact kD_SH1) | ((with_reducible apply c3) <;> exact kD_SH1) | ((with_reducible apply c4) <;> exact kD_SH1) | ((with_reducible apply c5) <;> exact kD_SH1) | ((with_reducible apply c6) <;> exact kD_SH1) | ((with_reducible apply c7) <;> exact kD_SH1))) | ((fail_if_success (with_reducible first | show Is _ _ | show ACall _ _ _ _ _)); (try ((with_reducible show _ ∨ _); exact kT))))) | (((with_reducible first | apply o_callQ | apply q_callQ); rfl); (iterate 2 exact kE_SH1); (first | ((with_reducible apply q0) <;> exact kD_SH1))))); exact hq k)) : p := h ⟨k⟩
theorem w_SH00 {p q : Prop}  (k : q) (h : Hq q → p := by (intro  k; exact wB_SH0 (hq k))) : p := h  ⟨k⟩
theorem w_SH10 {p q : Prop}  (k : q) (h : Hq q → p := by (intro  k; exact wB_SH1 (hq k))) : p := h  ⟨k⟩
def OwnB (c : CV) (B : List Box) (l : List UInt8) : Prop := (l = [] ∧ c = .nilS ∧ B = []) ∨ (l ≠ [] ∧ ∃ m, c = .view 0 0 l.length 1 false ∧ B = [⟨l.map byteC, m⟩])
def hd (k : Nat) : UInt8 := UInt8.ofNat (if k < 10 then 48 + k else 87 + k)
def hexS (l : List UInt8) : List UInt8 := l.flatMap fun x => [hd (x.toNat / 16), hd (x.toNat % 16)]
theorem hexS_app (l : List UInt8) (x : UInt8) : hexS (l ++ [x]) = hexS l ++ [hd (x.toNat / 16), hd (x.toNat % 16)] := by simp [hexS]
theorem hexS_len (l : List UInt8) : (hexS l).length = 2 * l.length := by
  induction l with
  | nil => rfl
  | cons x l ih => simp [hexS] at ih ⊢; omega
theorem hexD_get (k : Nat) (h : k < 16) : ([48, 49, 50, 51, 52, 53, 54, 55, 56, 57, 97, 98, 99, 100, 101, 102] : List UInt8)[k]? = some (hd k) := by
  have : ∀ k : Fin 16, ([48, 49, 50, 51, 52, 53, 54, 55, 56, 57, 97, 98, 99, 100, 101, 102] : List UInt8)[k.1]? = some (hd k.1) := by decide
  exact this ⟨k, h⟩
theorem hexD_ix {k : Nat} (h : k < 16) (h' : k < ([48, 49, 50, 51, 52, 53, 54, 55, 56, 57, 97, 98, 99, 100, 101, 102] : List UInt8).length) : ([48, 49, 50, 51, 52, 53, 54, 55, 56, 57, 97, 98, 99, 100, 101, 102] : List UInt8)[k]'h' = hd k := by
  have := hexD_get k h
  rw [List.getElem?_eq_getElem h'] at this
  exact Option.some.inj this
theorem and15 (x : UInt8) : bits .and .u8 (x.toNat : Int) 15 = ((x.toNat % 16 : Nat) : Int) := by
  have := u8_and_nat x.toNat 15 x.toNat_lt (by omega)
  rw [show ((15 : Nat) : Int) = 15 from rfl] at this
  rw [this, show (15 : Nat) = 2 ^ 4 - 1 from rfl, Nat.and_two_pow_sub_one_eq_mod]
theorem hex_in (l : List UInt8) (hl : l.length < 1073741823) : PC Tryz.prog true 84 [lb l] (.str (hexS l)) := by
  refine acall_intro mixed Tryz.func84 rfl ca84 (by kernel_rfl) (by rw [Tryz.ntmps84]; simp) ?_
  refine w_SH00 ?_ 
  refine w_loop (fun fr B => ∃ j : Nat, j ≤ l.length ∧ fr 8 = .int .i64 j ∧ fr 7 = .int .i64 l.length ∧ fr 6 = .lst l.length (l.map byteC) false ∧ OwnB (fr 3) B (hexS (l.take j))) (fun fr _ => l.length - natOf (fr 8)) ?_ ?_
  · exact ⟨0, by omega, kS, by (simp (disch := omega) [go_sem, lb]) <;> (try omega), by (simp (disch := omega) [go_sem, lb]) <;> (try omega), .inl ⟨by simp [hexS], kS, rfl⟩⟩
  · rintro fr B ⟨j, hj, h8, h7, h6, h⟩
    by_cases hc : j < l.length
    · have ht : hexS (l.take (j + 1)) = hexS (l.take j) ++ [hd (l[j].toNat / 16), hd (l[j].toNat % 16)] := by rw [List.take_succ_eq_append_getElem hc, hexS_app]
      have hlen : (hexS (l.take j)).length = 2 * j := by rw [hexS_len, List.length_take, Nat.min_eq_left (by omega)]
      have hb := l[j].toNat_lt
      generalize hexS (l.take j) = acc at *
      rcases h with ⟨rfl, h3, rfl⟩ | ⟨h0, m, h3, rfl⟩
      · refine w_SH10 ?_ 
        refine ⟨⟨j + 1, by omega, ?_, ?_, ?_, .inr ⟨?_, false, ?_, ?_⟩⟩, ?_⟩ <;> ((simp (disch := omega) [go_sem, *, hexD_ix]) <;> (try omega)) <;> (rw [List.length_nil] at hlen; omega)
      · refine w_SH10 ?_ 
        refine ⟨⟨j + 1, by omega, ?_, ?_, ?_, .inr ⟨?_, true, ?_, ?_⟩⟩, ?_⟩ <;> (simp (disch := omega) [go_sem, *, hexD_ix]) <;> (try omega)
    · have : j = l.length := by omega
      subst this
      rw [List.take_of_length_le (Nat.le_refl _)] at h
      rcases h with ⟨h, h3, rfl⟩ | ⟨h0, m, h3, rfl⟩
      · refine w0 ?_ 
        simp [fz_str, h]
      · refine w0 ?_ 
        simp [fz_str]
def digC (o : Option Nat) : CV := match o with | some n => .tup [.int .u8 n, .bool true] | none => .tup [.int .u8 0, .bool false]
theorem digit_in (c : UInt8) : PC Tryz.prog true 136 [byteC c] (digC (digV c)) := by
  refine acall_intro mixed Tryz.func136 rfl ca136 (by kernel_rfl) (by rw [Tryz.ntmps136]; simp) ?_
  repeat' (first | (with_reducible first | apply jA | apply jB | apply jC | apply jD | apply jE | apply jF | apply jG | apply jH | apply jI | apply jJ | apply jK | apply jL | apply jM | apply jN | apply jO) | ((with_reducible first | apply jP | apply jQ); rfl) | ((first | ((with_reducible first | apply jR | apply jS | apply jT); rfl; rfl) | (with_reducible first | apply jU | apply jV | apply jW) | ((with_reducible first | apply jX | apply jY | apply jZ); rfl)); all_goals (first | ((with_reducible show Is _ _); exact kE) | ((with_reducible refine fun (hc : (_ : Bool) = _) => ?_); (try simp only [xZ, xY, xP, reduceCtorEq] at hc); (try (have hx : True := hc; clear hx hc)); (try exact kX)) | ((fail_if_success (with_reducible first | show Is _ _ | show ACall _ _ _ _ _)); (try ((with_reducible show _ ∨ _); exact kT))))))
  all_goals (rw [digV]; repeat' split)
  all_goals first | (exfalso; omega) | (simp [go_sem, digC] <;> omega) | (simp [go_sem, digC]; done)
end Go.Proofs.YtcbdghgogmcllaaGreatDoor
end
section
namespace Go.Proofs.YtcbdghgogmcllaaGreatDoor
open Go Go.Sy
theorem kE_SP0 {α : Type} {x y : α} (h : Is x y := by first | ((try simp (disch := first | omega | (simp only [yZ, yB] <;> omega) | fail) [go_sem, yY, *, digC_eq, if_pos, if_neg, -List.map_take, -List.map_drop, -List.map_append, -List.map_reverse]); exact rfl) | fail) : Is x y := h
theorem kD_SP0 {p : Prop} (h : p := by (first | omega | assumption | exact rfl | ((simp (disch := first | omega | (simp only [yZ, yB] <;> omega) | fail) [go_sem, yY, *, digC_eq, -List.map_take, -List.map_drop, -List.map_append, -List.map_reverse]) <;> (first | done | omega | exact rfl)) | fail)) : p := h
theorem kE_SP1 {α : Type} {x y : α} (h : Is x y := by first | ((try simp (disch := first | omega | (simp only [yZ, yB] <;> omega) | fail) [go_sem, yY, *, digC_eq, hex_or, if_pos, if_neg, -List.map_take, -List.map_drop, -List.map_append, -List.map_reverse]); exact rfl) | fail) : Is x y := h
theorem kD_SP1 {p : Prop} (h : p := by (first | omega | assumption | exact rfl | ((simp (disch := first | omega | (simp only [yZ, yB] <;> omega) | fail) [go_sem, yY, *, digC_eq, hex_or, -List.map_take, -List.map_drop, -List.map_append, -List.map_reverse]) <;> (first | done | omega | exact rfl)) | fail)) : p := h
theorem wB_SP0 {p q : Prop} (k : q) (h : Hq q → p := by (intro k; (repeat' (first | (with_reducible first | apply jA | apply jB | apply jC | apply jD | apply jE | apply jF | apply jG | apply jH | apply jI | apply jJ | apply jK | apply jL | apply jM | apply jN | apply jO) | ((with_reducible first | apply jP | apply jQ); rfl) | ((first | ((with_reducible first | apply jR | apply jS | apply jT); rfl; rfl) | (with_reducible first | apply jU | apply jV | apply jW) | ((with_reducible first | apply jX | apply jY | apply jZ); rfl) | ((with_reducible first | apply kA | apply kB | apply kC); rfl)); all_goals (first | ((with_reducible show Is _ _); exact kE_SP0) | ((with_reducible refine fun (hc : (_ : Bool) = _) => ?_); (try simp only [xZ, xY, xP, reduceCtorEq] at hc); (try (have hx : True := hc; clear hx hc)); (try exact kX)) | ((with_reducible show ACall _ _ _ _ _); (first | ((with_reducible apply c0) <;> exact kD_SP0) | ((with_reducible apply c1) <;> exact kD_SP0) | ((with_reducible apply c2) <;> exact kD_SP0) | ((with_reducible apply c3) <;> exact kD_SP0) | ((with_reducible apply c4) <;> exact kD_SP0) | ((with_reducible apply c5) <;> exact kD_SP0) | ((with_reducible apply c6) <;> exact kD_SP0) | ((with_reducible apply c7) <;> exact kD_SP0))) | ((fail_if_success (with_reducible first | show Is _ _ | show ACall _ _ _ _ _)); (try ((with_reducible show _ ∨ _); exact kT))))) | (((with_reducible first | apply o_callQ | apply q_callQ); rfl); (iterate 2 exact kE_SP0); (first | ((with_reducible apply q0) <;> exact kD_SP0))))); exact hq k)) : p := h ⟨k⟩
theorem wB_SP1 {p q : Prop} (k : q) (h : Hq q → p := by (intro k; (repeat' (first | (with_reducible first | apply jA | apply jB | apply jC | apply jD | apply jE | apply jF | apply jG | apply jH | apply jI | apply jJ | apply jK | apply jL | apply jM | apply jN | apply jO) | ((with_reducible first | apply jP | apply jQ); rfl) | ((first | ((with_reducible first | apply jR | apply jS | apply jT); rfl; rfl) | (with_reducible first | apply jU | apply jV | apply jW) | ((with_reducible first | apply jX | apply jY | apply jZ); rfl) | ((with_reducible first | apply kA | apply kB | apply kC); rfl)); all_goals (first | ((with_reducible show Is _ _); exact kE_SP1) | ((with_reducible refine fun (hc : (_ : Bool) = _) => ?_); (try simp only [xZ, xY, xP, reduceCtorEq] at hc); (try (have hx : True := hc; clear hx hc)); (try exact kX)) | ((with_reducible show ACall _ _ _ _ _); (first | ((with_reducible apply c0) <;> exact kD_SP1) | ((with_reducible apply c1) <;> exact kD_SP1) | ((with_reducible apply c2) <;> exact kD_SP1) | ((with_reducible apply c3) <;> exact kD_SP1) | ((with_reducible apply c4) <;> exact kD_SP1) | ((with_reducible apply c5) <;> exact kD_SP1) | ((with_reducible apply c6) <;> exact kD_SP1) | ((with_reducible apply c7) <;> exact kD_SP1))) | ((fail_if_success (with_reducible first | show Is _ _ | show ACall _ _ _ _ _)); (try ((with_reducible show _ ∨ _); exact kT))))) | (((with_reducible first | apply o_callQ | apply q_callQ); rfl); (iterate 2 exact kE_SP1); (first | ((with_reducible apply q0) <;> exact kD_SP1))))); exact hq k)) : p := h ⟨k⟩
theorem w_SP01 {A0 p q : Prop} (c0 : A0) (k : q) (h : A0 → Hq q → p := by (intro c0 k; exact wB_SP0 (hq k))) : p := h c0 ⟨k⟩
theorem w_SP11 {A0 p q : Prop} (c0 : A0) (k : q) (h : A0 → Hq q → p := by (intro c0 k; exact wB_SP1 (hq k))) : p := h c0 ⟨k⟩
def hexb (x y : Nat) : UInt8 := UInt8.ofNat (16 * x + y)
def unhex : List UInt8 → Option (List UInt8)
  | [] => some []
  | [_] => none
  | a :: b :: t => (digV a).bind fun x => (digV b).bind fun y => (unhex t).map (hexb x y :: ·)
theorem unhex_app : ∀ (a b : List UInt8), a.length % 2 = 0 → unhex (a ++ b) = (unhex a).bind fun x => (unhex b).map (x ++ ·)
  | [], b, _ => by simp [unhex]
  | [_], b, h => by simp at h
  | x :: y :: t, b, h => by
    have ih := unhex_app t b (by simp only [List.length_cons] at h; omega)
    simp only [List.cons_append, unhex, ih]
    cases digV x <;> cases digV y <;> cases unhex t <;> cases unhex b <;> simp
theorem unhex_len : ∀ (a l : List UInt8), unhex a = some l → a.length = 2 * l.length
  | [], l, h => by simp [unhex] at h; subst h; rfl
  | [_], l, h => by simp [unhex] at h
  | x :: y :: t, l, h => by
    simp only [unhex, Option.bind_eq_some_iff, Option.map_eq_some_iff] at h
    obtain ⟨_, _, _, _, r, hr, rfl⟩ := h
    have := unhex_len t r hr
    simp only [List.length_cons]; omega
theorem unhex_odd : ∀ (a : List UInt8), a.length % 2 ≠ 0 → unhex a = none
  | a, h => by
    cases e : unhex a with
    | none => rfl
    | some l => have := unhex_len a l e; omega
def unhexC (o : Option (List UInt8)) : CV := match o with | some l => .tup [lb l, .int .i64 0] | none => .tup [lb [], .int .i64 5]
theorem digC_eq (o : Option Nat) : digC o = .tup [.int .u8 ((o.getD 0 : Nat) : Int), .bool o.isSome] := by cases o <;> rfl
theorem hex_or {x y : Nat} (hx : x < 16) (hy : y < 16) : CV.int .u8 (bits .or .u8 ((x : Int) * 16) (y : Int)) = byteC (hexb x y) := by
  rw [hexb, byte_of, wu8 (by omega), show ((x : Int) * 16) = ((16 * x : Nat) : Int) by omega, u8_or_nat _ _ (by omega) (by omega), nat_join4 _ _ (by omega) hy]
theorem digit_at {B : List Box} {args : List CV} {c : UInt8} (hz : Is (omap (fz true false B 6) args) (some [byteC c])) : ACall Tryz.prog 136 args B fun r B' => r = digC (digV c) ∧ B' = B := acall_fresh hz (digit_in c)
theorem unhex_bad {s : List UInt8} {i : Nat} (hi : i % 2 = 0) (h : i + 1 < s.length) (hb : digV s[i] = none ∨ digV s[i + 1] = none) : unhex s = none := by
  have : s = s.take i ++ s[i] :: s[i + 1] :: s.drop (i + 2) := by
    rw [← List.drop_eq_getElem_cons, ← List.drop_eq_getElem_cons, List.take_append_drop]
  rw [this, unhex_app _ _ (by simp; omega)]
  rcases hb with hb | hb <;> simp [unhex, hb]
theorem unhex_step {s acc : List UInt8} {i x y : Nat} (hi : i % 2 = 0) (h : i + 1 < s.length) (ha : unhex (s.take i) = some acc) (hx : digV s[i] = some x) (hy : digV s[i + 1] = some y) : unhex (s.take (i + 2)) = some (acc ++ [hexb x y]) := by
  have : s.take (i + 2) = s.take i ++ [s[i], s[i + 1]] := by
    rw [show i + 2 = i + 1 + 1 from rfl, List.take_succ_eq_append_getElem h, List.take_succ_eq_append_getElem (show i < s.length by omega), List.append_assoc]; rfl
  rw [this, unhex_app _ _ (by simp; omega), ha]
  simp [unhex, hx, hy]
theorem parseHex_in (s : List UInt8) (hl : s.length < 1073741823) : PC Tryz.prog true 107 [.str s] (unhexC (unhex s)) := by
  by_cases he : s.length % 2 = 0
  · refine acall_intro mixed Tryz.func107 rfl ca107 (by kernel_rfl) (by rw [Tryz.ntmps107]; simp) ?_
    refine w0 ?_ 
    refine w_loop (fun fr B => ∃ i : Nat, i % 2 = 0 ∧ i ≤ s.length ∧ fr 5 = .int .i64 i ∧ fr 0 = .str s ∧ ∃ acc, unhex (s.take i) = some acc ∧ GrowB [] (fr 4) B acc) (fun fr _ => s.length - natOf (fr 5)) ?_ ?_
    · exact ⟨0, by omega, by omega, kS, kS, [], by simp [unhex], by (simp (disch := omega) [go_sem, *]) <;> (try omega); exact .nil _ _⟩
    · rintro fr B ⟨i, hi, hj, h5, h0, acc, ha, h⟩
      by_cases hc : i < s.length
      · have hc2 : i + 1 < s.length := by omega
        cases hx : digV s[i] with
        | none =>
          have := unhex_bad hi hc2 (.inl hx)
          refine w_SP01 @digit_at ?_ 
          simp [go_sem, this, unhexC, lb]
        | some x =>
          cases hy : digV s[i + 1] with
          | none =>
            have := unhex_bad hi hc2 (.inr hy)
            refine w_SP01 @digit_at ?_ 
            simp [go_sem, this, unhexC, lb]
          | some y =>
            have hs := unhex_step hi hc2 ha hx hy
            have hlx := digV_lt hx
            have hly := digV_lt hy
            have hal := unhex_len _ _ ha
            replace hal : acc.length ≤ s.length := by rw [List.length_take] at hal; omega
            obtain ⟨c', B', happ, hg⟩ := h.app (P := Tryz.prog) (e := 5) (.lst 1 [byteC (hexb x y)] true) [hexb x y] rfl (by kernel_rfl) (by simp only [List.length_cons, List.length_nil]; omega)
            refine w_SP11 @digit_at ?_ 
            refine ⟨⟨i + 2, by omega, by omega, ?_, ?_, _, hs, ?_⟩, ?_⟩ <;> (simp (disch := omega) [go_sem, *]) <;> (try omega)
      · have : i = s.length := by omega
        subst this
        rw [List.take_of_length_le (Nat.le_refl _)] at ha
        refine w0 ?_ 
        simp [fz_tup, omap_two, omap_nil, h.fz 3, ha, unhexC, fz_int]
  · have := unhex_odd s he
    rw [this]
    refine acall_intro mixed Tryz.func107 rfl ca107 (by kernel_rfl) (by rw [Tryz.ntmps107]; simp) ?_
    refine w0 ?_ 
    rfl
theorem hex_at {B : List Box} {args : List CV} {l : List UInt8} (hz : Is (omap (fz true false B 6) args) (some [.lst l.length (l.map byteC) false])) (hl : l.length < 1073741823) : ACall Tryz.prog 84 args B fun c B' => c = .str (hexS l) ∧ B' = B := acall_fresh hz (hex_in l hl)
theorem parseHex_at {B : List Box} {s : List UInt8} (hl : s.length < 1073741823) : ACall Tryz.prog 107 [.str s] B fun c B' => c = unhexC (unhex s) ∧ B' = B := acall_fresh (nz := true) (by simp [go_sem]) (parseHex_in s hl)
end Go.Proofs.YtcbdghgogmcllaaGreatDoor
end
section
namespace Go.Proofs.YtcbdghgogmcllaaGreatDoor
open Go Go.Sy
structure Ev where
  kind : Int
  six : Bool
  ip : List UInt8
  port : Int
  bytes : List UInt8
  time : Int
  text : List UInt8
structure Ac where
  kind : Int
  ev : Ev
  who : Int
  n : Int
  xor : UInt8
  lo : Int
  hi : Int
  key : List UInt8
def i64 (n : Int) : Prop := -9223372036854775808 ≤ n ∧ n ≤ 9223372036854775807
structure EvL (e : Ev) : Prop where
  ip : e.ip.length = 16
  kind : i64 e.kind
  port : i64 e.port
  time : i64 e.time
  bytes : e.bytes.length < 1000000
  text : e.text.length < 1000000
structure AcL (a : Ac) : Prop where
  ev : EvL a.ev
  kind : i64 a.kind
  who : i64 a.who
  n : i64 a.n
  lo : i64 a.lo
  hi : i64 a.hi
  key : a.key.length = 32
def evC (e : Ev) : List CV := .int .i64 e.kind :: .bool e.six :: (e.ip.map byteC ++ [.int .i64 e.port, .lst e.bytes.length (e.bytes.map byteC) false, .int .i64 e.time, .str e.text])
def acC (a : Ac) : List CV := .int .i64 a.kind :: (evC a.ev ++ (.int .i64 a.who :: .int .i64 a.n :: byteC a.xor :: .int .i64 a.lo :: .int .i64 a.hi :: a.key.map byteC))
theorem evC_len {e : Ev} (h : e.ip.length = 16) : (evC e).length = 22 := by simp [evC, h]
theorem acC_len {a : Ac} (h : AcL a) : (acC a).length = 60 := by simp [acC, evC_len h.ev.ip, h.key]
structure AcP (X : List CV) (a : Ac) : Prop where
  len : X.length = 60
  all : X.take 60 = X
  d0 : X.head? = some (.int .i64 a.kind)
  d1 : (X.drop 1).take 22 = evC a.ev
  h1 : X[1]? = some (.int .i64 a.ev.kind)
  t2 : (X.drop 2).take 18 = .bool a.ev.six :: (a.ev.ip.map byteC ++ [.int .i64 a.ev.port])
  d19 : X.drop 19 = .int .i64 a.ev.port :: .lst a.ev.bytes.length (a.ev.bytes.map byteC) false :: .int .i64 a.ev.time :: .str a.ev.text :: .int .i64 a.who :: .int .i64 a.n :: byteC a.xor :: .int .i64 a.lo :: .int .i64 a.hi :: a.key.map byteC
theorem ac_parts {a : Ac} (h : AcL a) : AcP (acC a) a := by
  have l1 : (a.ev.ip.map byteC).length = 16 := by simp [h.ev.ip]
  have hl := acC_len h
  have d2 : (acC a).drop 2 = .bool a.ev.six :: (a.ev.ip.map byteC ++ (.int .i64 a.ev.port :: .lst a.ev.bytes.length (a.ev.bytes.map byteC) false :: .int .i64 a.ev.time :: .str a.ev.text :: .int .i64 a.who :: .int .i64 a.n :: byteC a.xor :: .int .i64 a.lo :: .int .i64 a.hi :: a.key.map byteC)) := by
    simp [acC, evC]
  refine ⟨hl, List.take_of_length_le (by omega), rfl, ?_, rfl, ?_, ?_⟩
  · rw [acC, List.drop_one, List.tail_cons, List.take_left' (evC_len h.ev.ip)]
  · rw [d2, List.take_succ_cons, List.take_append, l1, List.take_of_length_le (by omega)]
    rfl
  · rw [show (19 : Nat) = 2 + 17 from rfl, ← List.drop_drop, d2, List.drop_succ_cons, List.drop_left' l1]
theorem ac_om {a : Ac} (_ : AcL a) {nz : Bool} {B : List Box} {k : Nat} : omap (Go.Sy.fz nz false B (k + 3)) (acC a) = some (acC a) := by
  simp [acC, evC, omap_app, omap_two, omap_nil, omap_bytes, fz_int, fz_bool, fz_str, fz_lst, fz_byte]
section
variable {X : List CV} {a : Ac}
theorem AcP.d (h : AcP X a) (k : Nat) : X.drop (19 + k) = (.int .i64 a.ev.port :: .lst a.ev.bytes.length (a.ev.bytes.map byteC) false :: .int .i64 a.ev.time :: .str a.ev.text :: .int .i64 a.who :: .int .i64 a.n :: byteC a.xor :: .int .i64 a.lo :: .int .i64 a.hi :: a.key.map byteC).drop k := by
  rw [← List.drop_drop, h.d19]
theorem AcP.d20 (h : AcP X a) : X.drop 20 = .lst a.ev.bytes.length (a.ev.bytes.map byteC) false :: X.drop 21 := by
  have h1 := h.d 1
  have h2 := h.d 2
  rw [show 21 = 19 + 2 from rfl, h2, show 20 = 19 + 1 from rfl, h1]; rfl
theorem AcP.d21 (h : AcP X a) : X.drop 21 = .int .i64 a.ev.time :: X.drop 22 := by
  have h1 := h.d 2
  have h2 := h.d 3
  rw [show 22 = 19 + 3 from rfl, h2, show 21 = 19 + 2 from rfl, h1]; rfl
theorem AcP.d22 (h : AcP X a) : X.drop 22 = .str a.ev.text :: X.drop 23 := by
  have h1 := h.d 3
  have h2 := h.d 4
  rw [show 23 = 19 + 4 from rfl, h2, show 22 = 19 + 3 from rfl, h1]; rfl
theorem AcP.d23 (h : AcP X a) : X.drop 23 = .int .i64 a.who :: X.drop 24 := by
  have h1 := h.d 4
  have h2 := h.d 5
  rw [show 24 = 19 + 5 from rfl, h2, show 23 = 19 + 4 from rfl, h1]; rfl
theorem AcP.d24 (h : AcP X a) : X.drop 24 = .int .i64 a.n :: X.drop 25 := by
  have h1 := h.d 5
  have h2 := h.d 6
  rw [show 25 = 19 + 6 from rfl, h2, show 24 = 19 + 5 from rfl, h1]; rfl
theorem AcP.d25 (h : AcP X a) : X.drop 25 = byteC a.xor :: X.drop 26 := by
  have h1 := h.d 6
  have h2 := h.d 7
  rw [show 26 = 19 + 7 from rfl, h2, show 25 = 19 + 6 from rfl, h1]; rfl
theorem AcP.d26 (h : AcP X a) : X.drop 26 = .int .i64 a.lo :: X.drop 27 := by
  have h1 := h.d 7
  have h2 := h.d 8
  rw [show 27 = 19 + 8 from rfl, h2, show 26 = 19 + 7 from rfl, h1]; rfl
theorem AcP.d27 (h : AcP X a) : X.drop 27 = .int .i64 a.hi :: X.drop 28 := by
  have h1 := h.d 8
  have h2 := h.d 9
  rw [show 28 = 19 + 9 from rfl, h2, show 27 = 19 + 8 from rfl, h1]; rfl
theorem AcP.d28 (h : AcP X a) : X.drop 28 = a.key.map byteC := h.d 9
end
def nameE (k : Int) : List UInt8 := if k = 1 then wPlain else if k = 2 then wDatagram else if k = 3 then wTick else if k = 4 then wEntropy else if k = 5 then wControl else []
def nameK (k : Int) : List UInt8 := if k = 2 then wHandoff else if k = 3 then wPick else if k = 4 then wAbort else if k = 5 then wKill else if k = 6 then wCorrupt else if k = 7 then wCut else []
def nameS (a : Ac) : List UInt8 := if a.kind = 1 then nameE a.ev.kind else nameK a.kind
end Go.Proofs.YtcbdghgogmcllaaGreatDoor
end
section
namespace Go.Proofs.YtcbdghgogmcllaaGreatDoor
open Go Go.Sy
theorem kE_SC0 {α : Type} {x y : α} (h : Is x y := by first | ((try simp (disch := first | omega | (simp only [yZ, yB] <;> omega) | fail) [go_sem, yY, *, lookC, if_pos, if_neg, -List.map_take, -List.map_drop, -List.map_append, -List.map_reverse]); exact rfl) | fail) : Is x y := h
theorem kD_SC0 {p : Prop} (h : p := by (first | omega | assumption | exact rfl | ((simp (disch := first | omega | (simp only [yZ, yB] <;> omega) | fail) [go_sem, yY, *, lookC, -List.map_take, -List.map_drop, -List.map_append, -List.map_reverse]) <;> (first | done | omega | exact rfl)) | fail)) : p := h
theorem wB_SC0 {p q : Prop} (k : q) (h : Hq q → p := by (intro k; (repeat' (first | (with_reducible first | apply jA | apply jB | apply jC | apply jD | apply jE | apply jF | apply jG | apply jH | apply jI | apply jJ | apply jK | apply jL | apply jM | apply jN | apply jO) | ((with_reducible first | apply jP | apply jQ); rfl) | ((first | ((with_reducible first | apply jR | apply jS | apply jT); rfl; rfl) | (with_reducible first | apply jU | apply jV | apply jW) | ((with_reducible first | apply jX | apply jY | apply jZ); rfl) | ((with_reducible first | apply kA | apply kB | apply kC); rfl)); all_goals (first | ((with_reducible show Is _ _); exact kE_SC0) | ((with_reducible refine fun (hc : (_ : Bool) = _) => ?_); (try simp only [xZ, xY, xP, reduceCtorEq] at hc); (try (have hx : True := hc; clear hx hc)); (try exact kX)) | ((with_reducible show ACall _ _ _ _ _); (first | ((with_reducible apply c0) <;> exact kD_SC0) | ((with_reducible apply c1) <;> exact kD_SC0) | ((with_reducible apply c2) <;> exact kD_SC0) | ((with_reducible apply c3) <;> exact kD_SC0) | ((with_reducible apply c4) <;> exact kD_SC0) | ((with_reducible apply c5) <;> exact kD_SC0) | ((with_reducible apply c6) <;> exact kD_SC0) | ((with_reducible apply c7) <;> exact kD_SC0))) | ((fail_if_success (with_reducible first | show Is _ _ | show ACall _ _ _ _ _)); (try ((with_reducible show _ ∨ _); exact kT))))) | (((with_reducible first | apply o_callQ | apply q_callQ); rfl); (iterate 2 exact kE_SC0); (first | ((with_reducible apply q0) <;> exact kD_SC0))))); exact hq k)) : p := h ⟨k⟩
theorem w_SC00 {p q : Prop}  (k : q) (h : Hq q → p := by (intro  k; exact wB_SC0 (hq k))) : p := h  ⟨k⟩
theorem name_in (a : Ac) (h : AcL a) : PC Tryz.prog true 47 [.agg (acC a)] (.str (nameS a)) := by
  have p := ac_parts h
  have q0 := p.d0
  have q1 := p.h1
  refine acall_AWc mixed Tryz.func47 rfl (by kernel_rfl) (by rw [Tryz.ntmps47]; simp) ?_
  unfold nameS
  generalize acC a = X at *
  generalize a.kind = k at *
  generalize a.ev.kind = j at *
  clear p h
  refine AWc_w mixed (by kernel_rfl) (fun fr B => fr 1 = .ptr 0 0 ∧ B = [⟨X, false⟩]) ?_ ?_
  · refine w_SC00 ?_ 
    exact ⟨kS, rfl⟩
  rintro fr B ⟨f1, rfl⟩
  refine AWc_seq ?_
  refine AWc_map (l1 := [_, _, _, _, _]) (l2 := [_, _]) rfl (by rfl) fun r => ?_
  repeat' (first | ((with_reducible apply m_ins); (iterate 7 exact kE)) | ((with_reducible apply m_op); rfl; rfl; rfl; rfl; exact kE) | (with_reducible apply m_nil))
  refine w_SC00 ?_ 
  refine AWc_seq ?_
  refine AWc_map (l1 := [_, _, _, _, _, _]) (l2 := [_, _]) rfl (by rfl) fun r2 => ?_
  repeat' (first | ((with_reducible apply m_ins); (iterate 7 exact kE)) | ((with_reducible apply m_op); rfl; rfl; rfl; rfl; exact kE) | (with_reducible apply m_nil))
  refine w_SC00 ?_ 
  refine WPc_sound mixed.mixed _ _ _ _ (by kernel_rfl) ?_
  by_cases e1 : k = 1
  · subst e1
    by_cases c1 : j = 1
    · subst c1
      refine w_SC00 ?_ 
      (simp (disch := omega) [go_sem, *, nameE, wPlain]) <;> (try omega)
    by_cases c2 : j = 2
    · subst c2
      refine w_SC00 ?_ 
      (simp (disch := omega) [go_sem, *, nameE, wDatagram]) <;> (try omega)
    by_cases c3 : j = 3
    · subst c3
      refine w_SC00 ?_ 
      (simp (disch := omega) [go_sem, *, nameE, wTick]) <;> (try omega)
    by_cases c4 : j = 4
    · subst c4
      refine w_SC00 ?_ 
      (simp (disch := omega) [go_sem, *, nameE, wEntropy]) <;> (try omega)
    by_cases c5 : j = 5
    · subst c5
      refine w_SC00 ?_ 
      (simp (disch := omega) [go_sem, *, nameE, wControl]) <;> (try omega)
    · have b1 : (j == 1) = false := by simpa using c1
      have b2 : (j == 2) = false := by simpa using c2
      have b3 : (j == 3) = false := by simpa using c3
      have b4 : (j == 4) = false := by simpa using c4
      have b5 : (j == 5) = false := by simpa using c5
      refine w_SC00 ?_ 
      (simp (disch := omega) [go_sem, *, nameE]) <;> (try omega)
  have b1 : (k == 1) = false := by simpa using e1
  by_cases c2 : k = 2
  · subst c2
    refine w_SC00 ?_ 
    (simp (disch := omega) [go_sem, *, nameK, wHandoff]) <;> (try omega)
  by_cases c3 : k = 3
  · subst c3
    refine w_SC00 ?_ 
    (simp (disch := omega) [go_sem, *, nameK, wPick]) <;> (try omega)
  by_cases c4 : k = 4
  · subst c4
    refine w_SC00 ?_ 
    (simp (disch := omega) [go_sem, *, nameK, wAbort]) <;> (try omega)
  by_cases c5 : k = 5
  · subst c5
    refine w_SC00 ?_ 
    (simp (disch := omega) [go_sem, *, nameK, wKill]) <;> (try omega)
  by_cases c6 : k = 6
  · subst c6
    refine w_SC00 ?_ 
    (simp (disch := omega) [go_sem, *, nameK, wCorrupt]) <;> (try omega)
  by_cases c7 : k = 7
  · subst c7
    refine w_SC00 ?_ 
    (simp (disch := omega) [go_sem, *, nameK, wCut]) <;> (try omega)
  · have b2 : (k == 2) = false := by simpa using c2
    have b3 : (k == 3) = false := by simpa using c3
    have b4 : (k == 4) = false := by simpa using c4
    have b5 : (k == 5) = false := by simpa using c5
    have b6 : (k == 6) = false := by simpa using c6
    have b7 : (k == 7) = false := by simpa using c7
    refine w_SC00 ?_ 
    (simp (disch := omega) [go_sem, *, nameK]) <;> (try omega)
theorem name_at {B : List Box} {args : List CV} {a : Ac} {w : List UInt8} (hz : Is (omap (Go.Sy.fz true false B 6) args) (some [.agg (acC a)])) (h : AcL a) (hw : nameS a = w) : ACall Tryz.prog 47 args B fun c B' => c = .str w ∧ B' = B := by
  subst hw
  exact acall_fresh hz (name_in a h)
end Go.Proofs.YtcbdghgogmcllaaGreatDoor
end
section
namespace Go.Proofs.YtcbdghgogmcllaaGreatDoor
open Go Go.Sy
theorem kE_SD0 {α : Type} {x y : α} (h : Is x y := by first | ((try simp (disch := first | omega | (simp only [yZ, yB] <;> omega) | fail) [go_sem, yY, *, lb, if_pos, if_neg, -List.map_take, -List.map_drop, -List.map_append, -List.map_reverse]); exact rfl) | fail) : Is x y := h
theorem kD_SD0 {p : Prop} (h : p := by (first | omega | assumption | exact rfl | ((simp (disch := first | omega | (simp only [yZ, yB] <;> omega) | fail) [go_sem, yY, *, lb, -List.map_take, -List.map_drop, -List.map_append, -List.map_reverse]) <;> (first | done | omega | exact rfl)) | fail)) : p := h
theorem wB_SD0 {p q : Prop} (k : q) (h : Hq q → p := by (intro k; (repeat' (first | (with_reducible first | apply jA | apply jB | apply jC | apply jD | apply jE | apply jF | apply jG | apply jH | apply jI | apply jJ | apply jK | apply jL | apply jM | apply jN | apply jO) | ((with_reducible first | apply jP | apply jQ); rfl) | ((first | ((with_reducible first | apply jR | apply jS | apply jT); rfl; rfl) | (with_reducible first | apply jU | apply jV | apply jW) | ((with_reducible first | apply jX | apply jY | apply jZ); rfl) | ((with_reducible first | apply kA | apply kB | apply kC); rfl)); all_goals (first | ((with_reducible show Is _ _); exact kE_SD0) | ((with_reducible refine fun (hc : (_ : Bool) = _) => ?_); (try simp only [xZ, xY, xP, reduceCtorEq] at hc); (try (have hx : True := hc; clear hx hc)); (try exact kX)) | ((with_reducible show ACall _ _ _ _ _); (first | ((with_reducible apply c0) <;> exact kD_SD0) | ((with_reducible apply c1) <;> exact kD_SD0) | ((with_reducible apply c2) <;> exact kD_SD0) | ((with_reducible apply c3) <;> exact kD_SD0) | ((with_reducible apply c4) <;> exact kD_SD0) | ((with_reducible apply c5) <;> exact kD_SD0) | ((with_reducible apply c6) <;> exact kD_SD0) | ((with_reducible apply c7) <;> exact kD_SD0))) | ((fail_if_success (with_reducible first | show Is _ _ | show ACall _ _ _ _ _)); (try ((with_reducible show _ ∨ _); exact kT))))) | (((with_reducible first | apply o_callQ | apply q_callQ); rfl); (iterate 2 exact kE_SD0); (first | ((with_reducible apply q0) <;> exact kD_SD0))))); exact hq k)) : p := h ⟨k⟩
theorem w_SD00 {p q : Prop}  (k : q) (h : Hq q → p := by (intro  k; exact wB_SD0 (hq k))) : p := h  ⟨k⟩
theorem w_SD01 {A0 p q : Prop} (c0 : A0) (k : q) (h : A0 → Hq q → p := by (intro c0 k; exact wB_SD0 (hq k))) : p := h c0 ⟨k⟩
def hexW (l : List UInt8) : List UInt8 := if l = [] then [45] else hexS l
theorem hexW_in (l : List UInt8) (hl : l.length < 1073741823) : PC Tryz.prog true 69 [lb l] (.str (hexW l)) := by
  have hh : ∀ {B : List Box} {args : List CV}, Is (omap (fz true false B 6) args) (some [.lst l.length (l.map byteC) false]) → ACall Tryz.prog 84 args B fun c B' => c = .str (hexS l) ∧ B' = B := fun h => hex_at h hl
  refine acall_intro mixed Tryz.func69 rfl ca69 (by kernel_rfl) (by rw [Tryz.ntmps69]; simp) ?_
  by_cases h : l = []
  · subst h
    rw [hexW, if_pos rfl]
    refine w_SD00 ?_ 
    rfl
  · rw [hexW, if_neg h]
    have h0 : l.length ≠ 0 := fun e => h (List.eq_nil_of_length_eq_zero e)
    have hm : (l.map byteC).length = l.length := List.length_map _
    generalize hexS l = s at *
    refine w_SD01 @hh ?_ 
    rfl
theorem hexW_at {B : List Box} {args : List CV} {l : List UInt8} {n : Nat} (hz : Is (omap (fz true false B 6) args) (some [.lst n (l.map byteC) false])) (hn : n = l.length) (hl : l.length < 1073741823) : ACall Tryz.prog 69 args B fun c B' => c = .str (hexW l) ∧ B' = B := by
  subst hn
  exact acall_fresh hz (hexW_in l hl)
theorem wr1_in (a : Ac) (h : AcL a) : PC Tryz.prog true 68 [.agg (acC a)] (.lst 1 [.str (hexW a.ev.bytes)] false) := by
  have p := ac_parts h
  have q := p.d20
  have hx : ∀ {B : List Box} {args : List CV}, Is (omap (fz true false B 6) args) (some [.lst a.ev.bytes.length (a.ev.bytes.map byteC) false]) → ACall Tryz.prog 69 args B fun c B' => c = .str (hexW a.ev.bytes) ∧ B' = B := fun hz => hexW_at hz rfl (by have := h.ev.bytes; omega)
  have hf : ∀ {B : List Box}, ACall Tryz.prog 77 [.int .i64 a.ev.time, .int .i64 10] B fun c B' => c = .str (Go.Lib.itoa a.ev.time) ∧ B' = B := fmt10_at h.ev.time
  have hi : ∀ {B : List Box}, ACall Tryz.prog 83 [.int .i64 a.who] B fun c B' => c = .str (Go.Lib.itoa a.who) ∧ B' = B := itoa_at h.who
  have hb : a.ev.bytes.length < 1000000 := h.ev.bytes
  clear p h
  generalize acC a = X at *
  generalize hexW a.ev.bytes = s at *
  generalize Go.Lib.itoa a.ev.time = s2 at *
  generalize Go.Lib.itoa a.who = s3 at *
  refine acall_intro mixed Tryz.func68 rfl ca68 (by kernel_rfl) (by rw [Tryz.ntmps68]; simp) ?_
  refine w1 @hx ?_ 
  rfl
theorem wr5_in (a : Ac) (h : AcL a) : PC Tryz.prog true 76 [.agg (acC a)] (.lst 1 [.str (Go.Lib.itoa a.ev.time)] false) := by
  have p := ac_parts h
  have q := p.d21
  have hx : ∀ {B : List Box} {args : List CV}, Is (omap (fz true false B 6) args) (some [.lst a.ev.bytes.length (a.ev.bytes.map byteC) false]) → ACall Tryz.prog 69 args B fun c B' => c = .str (hexW a.ev.bytes) ∧ B' = B := fun hz => hexW_at hz rfl (by have := h.ev.bytes; omega)
  have hf : ∀ {B : List Box}, ACall Tryz.prog 77 [.int .i64 a.ev.time, .int .i64 10] B fun c B' => c = .str (Go.Lib.itoa a.ev.time) ∧ B' = B := fmt10_at h.ev.time
  have hi : ∀ {B : List Box}, ACall Tryz.prog 83 [.int .i64 a.who] B fun c B' => c = .str (Go.Lib.itoa a.who) ∧ B' = B := itoa_at h.who
  have hb : a.ev.bytes.length < 1000000 := h.ev.bytes
  clear p h
  generalize acC a = X at *
  generalize hexW a.ev.bytes = s at *
  generalize Go.Lib.itoa a.ev.time = s2 at *
  generalize Go.Lib.itoa a.who = s3 at *
  refine acall_intro mixed Tryz.func76 rfl ca76 (by kernel_rfl) (by rw [Tryz.ntmps76]; simp) ?_
  refine w1 @hf ?_ 
  rfl
theorem wr7_in (a : Ac) (h : AcL a) : PC Tryz.prog true 80 [.agg (acC a)] (.lst 1 [.str (hexW a.ev.bytes)] false) := by
  have p := ac_parts h
  have q := p.d20
  have hx : ∀ {B : List Box} {args : List CV}, Is (omap (fz true false B 6) args) (some [.lst a.ev.bytes.length (a.ev.bytes.map byteC) false]) → ACall Tryz.prog 69 args B fun c B' => c = .str (hexW a.ev.bytes) ∧ B' = B := fun hz => hexW_at hz rfl (by have := h.ev.bytes; omega)
  have hf : ∀ {B : List Box}, ACall Tryz.prog 77 [.int .i64 a.ev.time, .int .i64 10] B fun c B' => c = .str (Go.Lib.itoa a.ev.time) ∧ B' = B := fmt10_at h.ev.time
  have hi : ∀ {B : List Box}, ACall Tryz.prog 83 [.int .i64 a.who] B fun c B' => c = .str (Go.Lib.itoa a.who) ∧ B' = B := itoa_at h.who
  have hb : a.ev.bytes.length < 1000000 := h.ev.bytes
  clear p h
  generalize acC a = X at *
  generalize hexW a.ev.bytes = s at *
  generalize Go.Lib.itoa a.ev.time = s2 at *
  generalize Go.Lib.itoa a.who = s3 at *
  refine acall_intro mixed Tryz.func80 rfl ca80 (by kernel_rfl) (by rw [Tryz.ntmps80]; simp) ?_
  refine w1 @hx ?_ 
  rfl
theorem wrB_in (a : Ac) (h : AcL a) : PC Tryz.prog true 120 [.agg (acC a)] (.lst 1 [.str (Go.Lib.itoa a.who)] false) := by
  have p := ac_parts h
  have q := p.d23
  have hx : ∀ {B : List Box} {args : List CV}, Is (omap (fz true false B 6) args) (some [.lst a.ev.bytes.length (a.ev.bytes.map byteC) false]) → ACall Tryz.prog 69 args B fun c B' => c = .str (hexW a.ev.bytes) ∧ B' = B := fun hz => hexW_at hz rfl (by have := h.ev.bytes; omega)
  have hf : ∀ {B : List Box}, ACall Tryz.prog 77 [.int .i64 a.ev.time, .int .i64 10] B fun c B' => c = .str (Go.Lib.itoa a.ev.time) ∧ B' = B := fmt10_at h.ev.time
  have hi : ∀ {B : List Box}, ACall Tryz.prog 83 [.int .i64 a.who] B fun c B' => c = .str (Go.Lib.itoa a.who) ∧ B' = B := itoa_at h.who
  have hb : a.ev.bytes.length < 1000000 := h.ev.bytes
  clear p h
  generalize acC a = X at *
  generalize hexW a.ev.bytes = s at *
  generalize Go.Lib.itoa a.ev.time = s2 at *
  generalize Go.Lib.itoa a.who = s3 at *
  refine acall_intro mixed Tryz.func120 rfl ca120 (by kernel_rfl) (by rw [Tryz.ntmps120]; simp) ?_
  refine w1 @hi ?_ 
  rfl
theorem wr3_in (a : Ac) (h : AcL a) : PC Tryz.prog true 72 [.agg (acC a)] (.lst 2 [.str (fmtE a.ev.six a.ev.ip a.ev.port), .str (hexW a.ev.bytes)] false) := by
  have p := ac_parts h
  have q := p.d20
  have q2 := p.t2
  have hl : 18 ≤ (acC a).length - 2 := by have := p.len; omega
  have hx : ∀ {B : List Box} {args : List CV}, Is (omap (fz true false B 6) args) (some [.lst a.ev.bytes.length (a.ev.bytes.map byteC) false]) → ACall Tryz.prog 69 args B fun c B' => c = .str (hexW a.ev.bytes) ∧ B' = B := fun hz => hexW_at hz rfl (by have := h.ev.bytes; omega)
  have hf : ∀ {B : List Box} {args : List CV}, Is (omap (fz true false B 6) args) (some [prefC a.ev.six a.ev.ip a.ev.port]) → ACall Tryz.prog 73 args B fun c B' => c = .str (fmtE a.ev.six a.ev.ip a.ev.port) ∧ B' = B := fun hz => fmtE_at hz h.ev.ip h.ev.port
  rw [prefC] at hf
  have hb : a.ev.bytes.length < 1000000 := h.ev.bytes
  clear p h
  generalize acC a = X at *
  generalize hexW a.ev.bytes = s at *
  generalize fmtE a.ev.six a.ev.ip a.ev.port = s2 at *
  refine acall_intro mixed Tryz.func72 rfl ca72 (by kernel_rfl) (by rw [Tryz.ntmps72]; simp) ?_
  repeat' (first | (with_reducible first | apply jA | apply jB | apply jC | apply jD | apply jE | apply jF | apply jG | apply jH | apply jI | apply jJ | apply jK | apply jL | apply jM | apply jN | apply jO) | ((with_reducible first | apply jP | apply jQ); rfl) | ((with_reducible apply w_drawA); (conv => lhs; reduce); exact kE; exact kE) | ((first | ((with_reducible first | apply d_made | apply q_made); rfl; rfl)); (iterate 6 exact kE)) | ((first | ((with_reducible first | apply d_fop | apply q_fop); rfl; rfl)); (intro Bx hJ; (first | (obtain ⟨_, hJ1, hJ2⟩ := hJ) | (try simp only at hJ)); exact kE)) | ((with_reducible first | apply d_free | apply q_free); rfl; (iterate 2 exact kE); (intro Bx hJ); (first | ((with_reducible apply hx) <;> exact kD) | ((with_reducible apply hf) <;> exact kD))) | ((first | ((with_reducible first | apply jR | apply jS | apply jT); rfl; rfl) | (with_reducible first | apply jU | apply jV | apply jW) | ((with_reducible first | apply jX | apply jY | apply jZ); rfl) | ((with_reducible first | apply kA | apply kB | apply kC); rfl)); all_goals (first | ((with_reducible show Is _ _); exact kE) | ((with_reducible refine fun (hc : (_ : Bool) = _) => ?_); (try simp only [xZ, xY, xP, reduceCtorEq] at hc); (try (have hx : True := hc; clear hx hc)); (try exact kX)) | ((with_reducible show ACall _ _ _ _ _); (first | ((with_reducible apply hx) <;> exact kD) | ((with_reducible apply hf) <;> exact kD))) | ((fail_if_success (with_reducible first | show Is _ _ | show ACall _ _ _ _ _)); (try ((with_reducible show _ ∨ _); first | exact .inl rfl | (refine .inr ⟨rfl, ?_, ?_⟩; (focus (repeat (first | exact trivial | refine ⟨.inl rfl, ?_⟩ | refine ⟨.inr rfl, ?_⟩ | refine ⟨.inr (by (simp (disch := first | omega | (simp only [yZ, yB] <;> omega) | fail) [go_sem, yY, *, -List.map_take, -List.map_drop, -List.map_append, -List.map_reverse])), ?_⟩))); (first | exact trivial | exact rfl | (refine ⟨_, ?_, ?_⟩; (focus (simp (disch := first | omega | (simp only [yZ, yB] <;> omega) | fail) [go_sem, yY, *, -List.map_take, -List.map_drop, -List.map_append, -List.map_reverse]; (try exact rfl))); (simp (disch := first | omega | (simp only [yZ, yB] <;> omega) | fail) [go_sem, yY, *, -List.map_take, -List.map_drop, -List.map_append, -List.map_reverse])) | (simp (disch := first | omega | (simp only [yZ, yB] <;> omega) | fail) [go_sem, yY, *, -List.map_take, -List.map_drop, -List.map_append, -List.map_reverse]))) | exact .inl (by (simp (disch := first | omega | (simp only [yZ, yB] <;> omega) | fail) [go_sem, yY, *, -List.map_take, -List.map_drop, -List.map_append, -List.map_reverse]))))))))
  rfl
theorem wr9_in (a : Ac) (h : AcL a) : PC Tryz.prog true 82 [.agg (acC a)] (.lst 3 [.str (Go.Lib.itoa a.lo), .str (Go.Lib.itoa a.hi), .str (hexS a.key)] false) := by
  have p := ac_parts h
  have q26 := p.d26
  have q27 := p.d27
  have q28 := p.d28
  have hl : 60 ≤ (acC a).length := by have := p.len; omega
  have hkk : a.key.take 32 = a.key := List.take_of_length_le (by have := h.key; omega)
  have hx : ∀ {B : List Box} {args : List CV}, Is (omap (fz true false B 6) args) (some [.lst 32 (a.key.map byteC) false]) → ACall Tryz.prog 84 args B fun c B' => c = .str (hexS a.key) ∧ B' = B := fun {B args} hz => by
    have e : (32 : Nat) = a.key.length := h.key.symm
    rw [e] at hz
    exact hex_at hz (by have := h.key; omega)
  have hi : ∀ {B : List Box}, ACall Tryz.prog 83 [.int .i64 a.lo] B fun c B' => c = .str (Go.Lib.itoa a.lo) ∧ B' = B := itoa_at h.lo
  have hj : ∀ {B : List Box}, ACall Tryz.prog 83 [.int .i64 a.hi] B fun c B' => c = .str (Go.Lib.itoa a.hi) ∧ B' = B := itoa_at h.hi
  clear p h
  generalize acC a = X at *
  generalize hexS a.key = s at *
  generalize Go.Lib.itoa a.lo = s2 at *
  generalize Go.Lib.itoa a.hi = s3 at *
  refine acall_intro mixed Tryz.func82 rfl ca82 (by kernel_rfl) (by rw [Tryz.ntmps82]; simp) ?_
  repeat' (first | (with_reducible first | apply jA | apply jB | apply jC | apply jD | apply jE | apply jF | apply jG | apply jH | apply jI | apply jJ | apply jK | apply jL | apply jM | apply jN | apply jO) | ((with_reducible first | apply jP | apply jQ); rfl) | ((with_reducible apply w_drawA); (conv => lhs; reduce); exact kE; exact kE) | ((first | ((with_reducible first | apply d_made | apply q_made); rfl; rfl)); (iterate 6 exact kE)) | ((first | ((with_reducible first | apply d_fop | apply q_fop); rfl; rfl)); (intro Bx hJ; (first | (obtain ⟨_, hJ1, hJ2⟩ := hJ) | (try simp only at hJ)); exact kE)) | ((with_reducible first | apply d_free | apply q_free); rfl; (iterate 2 exact kE); (intro Bx hJ); (first | ((with_reducible apply hx) <;> exact kD) | ((with_reducible apply hi) <;> exact kD) | ((with_reducible apply hj) <;> exact kD))) | ((first | ((with_reducible first | apply jR | apply jS | apply jT); rfl; rfl) | (with_reducible first | apply jU | apply jV | apply jW) | ((with_reducible first | apply jX | apply jY | apply jZ); rfl) | ((with_reducible first | apply kA | apply kB | apply kC); rfl)); all_goals (first | ((with_reducible show Is _ _); exact kE) | ((with_reducible refine fun (hc : (_ : Bool) = _) => ?_); (try simp only [xZ, xY, xP, reduceCtorEq] at hc); (try (have hx : True := hc; clear hx hc)); (try exact kX)) | ((with_reducible show ACall _ _ _ _ _); (first | ((with_reducible apply hx) <;> exact kD) | ((with_reducible apply hi) <;> exact kD) | ((with_reducible apply hj) <;> exact kD))) | ((fail_if_success (with_reducible first | show Is _ _ | show ACall _ _ _ _ _)); (try ((with_reducible show _ ∨ _); first | exact .inl rfl | (refine .inr ⟨rfl, ?_, ?_⟩; (focus (repeat (first | exact trivial | refine ⟨.inl rfl, ?_⟩ | refine ⟨.inr rfl, ?_⟩ | refine ⟨.inr (by (simp (disch := first | omega | (simp only [yZ, yB] <;> omega) | fail) [go_sem, yY, *, -List.map_take, -List.map_drop, -List.map_append, -List.map_reverse])), ?_⟩))); (first | exact trivial | exact rfl | (refine ⟨_, ?_, ?_⟩; (focus (simp (disch := first | omega | (simp only [yZ, yB] <;> omega) | fail) [go_sem, yY, *, -List.map_take, -List.map_drop, -List.map_append, -List.map_reverse]; (try exact rfl))); (simp (disch := first | omega | (simp only [yZ, yB] <;> omega) | fail) [go_sem, yY, *, -List.map_take, -List.map_drop, -List.map_append, -List.map_reverse])) | (simp (disch := first | omega | (simp only [yZ, yB] <;> omega) | fail) [go_sem, yY, *, -List.map_take, -List.map_drop, -List.map_append, -List.map_reverse]))) | exact .inl (by (simp (disch := first | omega | (simp only [yZ, yB] <;> omega) | fail) [go_sem, yY, *, -List.map_take, -List.map_drop, -List.map_append, -List.map_reverse]))))))))
  rfl
theorem wan_at {B : List Box} {args : List CV} {a : Ac} (hz : Is (omap (fz true false B 6) args) (some [.agg (acC a)])) (h : AcL a) : ACall Tryz.prog 89 args B fun c B' => c = .cview B.length 0 2 2 1 ∧ B' = B ++ [⟨[.str (Go.Lib.itoa a.who), .str (Go.Lib.itoa a.n)], false⟩] := by
  have p := ac_parts h
  have q23 := p.d23
  have q24 := p.d24
  have hi : ∀ {B : List Box}, ACall Tryz.prog 83 [.int .i64 a.who] B fun c B' => c = .str (Go.Lib.itoa a.who) ∧ B' = B := itoa_at h.who
  have hj : ∀ {B : List Box}, ACall Tryz.prog 83 [.int .i64 a.n] B fun c B' => c = .str (Go.Lib.itoa a.n) ∧ B' = B := itoa_at h.n
  clear p h
  generalize acC a = X at *
  generalize Go.Lib.itoa a.who = s2 at *
  generalize Go.Lib.itoa a.n = s3 at *
  refine acall_ownK hz (Q := fun c B1 => ∃ b, c = .cview b 0 2 2 1 ∧ B1[b]? = some ⟨[.str s2, .str s3], false⟩) ?_ ?_
  · refine acall_intro mixed Tryz.func89 rfl ca89 (by kernel_rfl) (by rw [Tryz.ntmps89]; simp) ?_
    repeat' (first | (with_reducible first | apply jA | apply jB | apply jC | apply jD | apply jE | apply jF | apply jG | apply jH | apply jI | apply jJ | apply jK | apply jL | apply jM | apply jN | apply jO) | ((with_reducible first | apply jP | apply jQ); rfl) | ((with_reducible apply w_drawA); (conv => lhs; reduce); exact kE; exact kE) | ((first | ((with_reducible first | apply d_made | apply q_made); rfl; rfl)); (iterate 6 exact kE)) | ((first | ((with_reducible first | apply d_fop | apply q_fop); rfl; rfl)); (intro Bx hJ; (first | (obtain ⟨_, hJ1, hJ2⟩ := hJ) | (try simp only at hJ)); exact kE)) | ((with_reducible first | apply d_free | apply q_free); rfl; (iterate 2 exact kE); (intro Bx hJ); (first | ((with_reducible apply hi) <;> exact kD) | ((with_reducible apply hj) <;> exact kD))) | ((first | ((with_reducible first | apply jR | apply jS | apply jT); rfl; rfl) | (with_reducible first | apply jU | apply jV | apply jW) | ((with_reducible first | apply jX | apply jY | apply jZ); rfl) | ((with_reducible first | apply kA | apply kB | apply kC); rfl)); all_goals (first | ((with_reducible show Is _ _); exact kE) | ((with_reducible refine fun (hc : (_ : Bool) = _) => ?_); (try simp only [xZ, xY, xP, reduceCtorEq] at hc); (try (have hx : True := hc; clear hx hc)); (try exact kX)) | ((with_reducible show ACall _ _ _ _ _); (first | ((with_reducible apply hi) <;> exact kD) | ((with_reducible apply hj) <;> exact kD))) | ((fail_if_success (with_reducible first | show Is _ _ | show ACall _ _ _ _ _)); (try ((with_reducible show _ ∨ _); first | exact .inl rfl | (refine .inr ⟨rfl, ?_, ?_⟩; (focus (repeat (first | exact trivial | refine ⟨.inl rfl, ?_⟩ | refine ⟨.inr rfl, ?_⟩ | refine ⟨.inr (by (simp (disch := first | omega | (simp only [yZ, yB] <;> omega) | fail) [go_sem, yY, *, -List.map_take, -List.map_drop, -List.map_append, -List.map_reverse])), ?_⟩))); (first | exact trivial | exact rfl | (refine ⟨_, ?_, ?_⟩; (focus (simp (disch := first | omega | (simp only [yZ, yB] <;> omega) | fail) [go_sem, yY, *, -List.map_take, -List.map_drop, -List.map_append, -List.map_reverse]; (try exact rfl))); (simp (disch := first | omega | (simp only [yZ, yB] <;> omega) | fail) [go_sem, yY, *, -List.map_take, -List.map_drop, -List.map_append, -List.map_reverse])) | (simp (disch := first | omega | (simp only [yZ, yB] <;> omega) | fail) [go_sem, yY, *, -List.map_take, -List.map_drop, -List.map_append, -List.map_reverse]))) | exact .inl (by (simp (disch := first | omega | (simp only [yZ, yB] <;> omega) | fail) [go_sem, yY, *, -List.map_take, -List.map_drop, -List.map_append, -List.map_reverse]))))))))
    exact ⟨1, rfl, rfl⟩
  · rintro c B1 ⟨b, rfl, hb⟩
    exact .inr (.inr ⟨b, 0, 2, 2, 1, _, rfl, hb, rfl, by omega, rfl, rfl, rfl⟩)
theorem wr10_in (a : Ac) (h : AcL a) : PC Tryz.prog true 88 [.agg (acC a)] (.lst 3 [.str (Go.Lib.itoa a.who), .str (Go.Lib.itoa a.n), .str (hexS [a.xor])] false) := by
  have p := ac_parts h
  have q25 := p.d25
  have qa := p.all
  have hl : 60 ≤ (acC a).length := by have := p.len; omega
  have hx : ∀ {B : List Box} {args : List CV}, Is (omap (fz true false B 6) args) (some [.lst 1 [byteC a.xor] false]) → ACall Tryz.prog 84 args B fun c B' => c = .str (hexS [a.xor]) ∧ B' = B := fun {B args} hz => hex_at (l := [a.xor]) hz (by simp)
  have hw : ∀ {B : List Box} {args : List CV}, Is (omap (fz true false B 6) args) (some [.agg (acC a)]) → ACall Tryz.prog 89 args B fun c B' => c = .cview B.length 0 2 2 1 ∧ B' = B ++ [⟨[.str (Go.Lib.itoa a.who), .str (Go.Lib.itoa a.n)], false⟩] := fun hz => wan_at hz h
  have ho : ∀ {nz : Bool} {B : List Box} {k : Nat}, omap (Go.Sy.fz nz false B (k + 3)) (acC a) = some (acC a) := ac_om h
  clear p h
  generalize acC a = X at *
  generalize hexS [a.xor] = s at *
  generalize Go.Lib.itoa a.who = s2 at *
  generalize Go.Lib.itoa a.n = s3 at *
  refine acall_intro mixed Tryz.func88 rfl ca88 (by kernel_rfl) (by rw [Tryz.ntmps88]; simp) ?_
  repeat' (first | (with_reducible first | apply jA | apply jB | apply jC | apply jD | apply jE | apply jF | apply jG | apply jH | apply jI | apply jJ | apply jK | apply jL | apply jM | apply jN | apply jO) | ((with_reducible apply jP); rfl) | ((first | ((with_reducible first | apply jR | apply jS | apply jT); rfl; rfl) | (with_reducible first | apply jU | apply jV | apply jW) | ((with_reducible first | apply jX | apply jY | apply jZ); rfl)); all_goals (first | ((with_reducible show Is _ _); exact kE) | ((with_reducible refine fun (hc : (_ : Bool) = _) => ?_); (try simp only [xZ, xY, xP, reduceCtorEq] at hc); (try (have hx : True := hc; clear hx hc)); (try exact kX)) | ((fail_if_success (with_reducible first | show Is _ _ | show ACall _ _ _ _ _)); (try ((with_reducible show _ ∨ _); exact kT))))))
  refine w_drawJ [3] [⟨[], false⟩] (fun B => B[0]? = some ⟨X, false⟩) rfl rfl rfl ?_
  repeat' (first | (with_reducible first | apply jA | apply jB | apply jC | apply jD | apply jE | apply jF | apply jG | apply jH | apply jI | apply jJ | apply jK | apply jL | apply jM | apply jN | apply jO) | ((with_reducible apply jP); rfl) | ((first | ((with_reducible first | apply d_made | apply q_made); rfl; rfl)); (iterate 6 exact kE)) | ((first | ((with_reducible first | apply d_fop | apply q_fop); rfl; rfl)); (intro Bx hJ; (first | (obtain ⟨_, hJ1, hJ2⟩ := hJ) | (try simp only at hJ)); exact kE)) | ((with_reducible first | apply d_free | apply q_free); rfl; (iterate 2 exact kE); (intro Bx hJ); (first | ((with_reducible apply hx) <;> exact kD) | ((with_reducible apply hw) <;> exact kD))) | ((first | ((with_reducible first | apply jR | apply jS | apply jT); rfl; rfl) | (with_reducible first | apply jU | apply jV | apply jW) | ((with_reducible first | apply jX | apply jY | apply jZ); rfl) | ((with_reducible first | apply kA | apply kB | apply kC); rfl)); all_goals (first | ((with_reducible show Is _ _); exact kE) | ((with_reducible refine fun (hc : (_ : Bool) = _) => ?_); (try simp only [xZ, xY, xP, reduceCtorEq] at hc); (try (have hx : True := hc; clear hx hc)); (try exact kX)) | ((with_reducible show ACall _ _ _ _ _); (first | ((with_reducible apply hx) <;> exact kD) | ((with_reducible apply hw) <;> exact kD))) | ((fail_if_success (with_reducible first | show Is _ _ | show ACall _ _ _ _ _)); (try ((with_reducible show _ ∨ _); first | exact .inl rfl | (refine .inr ⟨rfl, ?_, ?_⟩; (focus (repeat (first | exact trivial | refine ⟨.inl rfl, ?_⟩ | refine ⟨.inr rfl, ?_⟩ | refine ⟨.inr (by (simp (disch := first | omega | (simp only [yZ, yB] <;> omega) | fail) [go_sem, yY, *, -List.map_take, -List.map_drop, -List.map_append, -List.map_reverse])), ?_⟩))); (first | exact trivial | exact rfl | (refine ⟨_, ?_, ?_⟩; (focus (simp (disch := first | omega | (simp only [yZ, yB] <;> omega) | fail) [go_sem, yY, *, -List.map_take, -List.map_drop, -List.map_append, -List.map_reverse]; (try exact rfl))); (simp (disch := first | omega | (simp only [yZ, yB] <;> omega) | fail) [go_sem, yY, *, -List.map_take, -List.map_drop, -List.map_append, -List.map_reverse])) | (simp (disch := first | omega | (simp only [yZ, yB] <;> omega) | fail) [go_sem, yY, *, -List.map_take, -List.map_drop, -List.map_append, -List.map_reverse]))) | exact .inl (by (simp (disch := first | omega | (simp only [yZ, yB] <;> omega) | fail) [go_sem, yY, *, -List.map_take, -List.map_drop, -List.map_append, -List.map_reverse]))))))))
  rfl
theorem wrN_in (a : Ac) (h : AcL a) : PC Tryz.prog true 89 [.agg (acC a)] (.lst 2 [.str (Go.Lib.itoa a.who), .str (Go.Lib.itoa a.n)] false) := by
  refine (wan_at (B := []) (args := [.agg (acC a)]) (a := a) ?_ h).mono fun c B' hh => ?_
  · show omap _ [.agg (acC a)] = _
    rw [omap_two, fz_agg, ac_om h, omap_nil]; rfl
  · obtain ⟨rfl, rfl⟩ := hh
    rfl
end Go.Proofs.YtcbdghgogmcllaaGreatDoor
end
section
namespace Go.Proofs.YtcbdghgogmcllaaGreatDoor
open Go Go.Sy
def wordsE (e : Ev) : List (List UInt8) := if e.kind = 1 then [hexW e.bytes] else if e.kind = 2 then [fmtE e.six e.ip e.port, hexW e.bytes] else if e.kind = 3 then [Go.Lib.itoa e.time] else if e.kind = 4 then [hexW e.bytes] else []
def wordsS (a : Ac) : List (List UInt8) :=
  if a.kind = 1 then wordsE a.ev else if a.kind = 2 then [Go.Lib.itoa a.lo, Go.Lib.itoa a.hi, hexS a.key] else if a.kind = 3 then [Go.Lib.itoa a.who, Go.Lib.itoa a.n] else if a.kind = 4 then [Go.Lib.itoa a.who] else if a.kind = 5 then [Go.Lib.itoa a.who]
  else if a.kind = 6 then [Go.Lib.itoa a.who, Go.Lib.itoa a.n, hexS [a.xor]] else if a.kind = 7 then [Go.Lib.itoa a.who, Go.Lib.itoa a.n] else []
def lineS (a : Ac) : List UInt8 := if nameS a = wControl then wControl ++ [32] ++ a.ev.text ++ [10] else if nameS a = [] then [] else Go.Lib.join (nameS a :: wordsS a) [32] ++ [10]
theorem forms_at {M : CV} (hM : CV.imap formK formX = M) {B : List Box} {args : List CV} (hz : Is args []) : ACall Tryz.prog 46 args B fun c B' => c = M ∧ B' = B := by
  have hz : args = [] := hz
  subst hz hM
  exact acall_imm (nz := false) rfl forms_in
theorem line_core (a : Ac) (h : AcL a) {w : List UInt8} {L : List (List UInt8)} {n : Int} {g : Nat} {x : CV} (hw : nameS a = w) (hc : (w == wControl) = false) (hk : lookC Tryz.prog 101 (.imap formK formX) (.str w) true = some (.tup [.agg [.int .i64 n, .fn (.func g) [] [], x], .bool true]))
    (hx : cellsC x = some [x]) (hwr : ∀ {B : List Box} {args : List CV}, Is (omap (Go.Sy.fz true false B 6) args) (some [.agg (acC a)]) → ACall Tryz.prog g args B fun c B' => c = .lst L.length (L.map .str) false ∧ B' = B) (hL1 : 1 ≤ L.length) (hL : L.length < 1000) (hl : (Go.Lib.join (w :: L) [32]).length < 100000000) :
    PC Tryz.prog true 25 [.agg (acC a)] (.str (Go.Lib.join (w :: L) [32] ++ [10])) := by
  have p := ac_parts h
  have qa := p.all
  have qo := @ac_om a h
  have q60 : 60 ≤ (acC a).length := by have := p.len; omega
  obtain ⟨M, hM⟩ : ∃ M, CV.imap formK formX = M := ⟨_, rfl⟩
  rw [hM] at hk
  have hn : ∀ {B : List Box} {args : List CV}, Is (omap (Go.Sy.fz true false B 6) args) (some [.agg (acC a)]) → ACall Tryz.prog 47 args B fun c B' => c = .str w ∧ B' = B := fun hz => name_at hz h hw
  have hf : ∀ {B : List Box} {args : List CV}, Is args [] → ACall Tryz.prog 46 args B fun c B' => c = M ∧ B' = B := forms_at hM
  have hj : ∀ {B : List Box} {args : List CV} {n : Nat} {f : Bool}, Is (omap (Go.Sy.fz true false B 6) args) (some [.lst n ((w :: L).map .str) f, .str [32]]) → n = L.length + 1 → ACall Tryz.prog 48 args B fun c B' => c = .str (Go.Lib.join (w :: L) [32]) ∧ B' = B := fun hz hn => join_at hz (by simpa using hn) (by simp; omega) (by omega)
  have hml : (L.map CV.str).length = L.length := List.length_map _
  have hyt : (L.map CV.str).take L.length = L.map CV.str := List.take_of_length_le (by simp)
  have hL0 : L.length ≠ 0 := by omega
  have hL2 : ¬ (1 + L.length ≤ 1) := by omega
  rw [List.map_cons] at hj
  have hom : ∀ {nz fr : Bool} {B : List Box} {k : Nat}, omap (Go.Sy.fz nz fr B (k + 1)) (L.map CV.str) = some (L.map CV.str) := omap_map L fun _ _ => rfl
  generalize Go.Lib.join (w :: L) [32] = S at *
  clear p h hM
  generalize acC a = X at *
  generalize L.length = m at *
  generalize L.map CV.str = Y at *
  refine acall_intro mixed Tryz.func25 rfl ca25 (by kernel_rfl) (by rw [Tryz.ntmps25]; simp) ?_
  rw [wControl] at hc
  refine w4 @hn @hf @hwr @hj ?_ 
  all_goals rfl
end Go.Proofs.YtcbdghgogmcllaaGreatDoor
end
