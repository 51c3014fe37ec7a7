/-
  Writes into a box; an append to one.
-/
import Derived.Test.YtjlfblcoghiijaaSyD
namespace Go.Sy
set_option linter.all false
open Go.RowKit (Below)

section
variable {N : Nat} {I I' : Nat → Nat → Prop} {μ μ' : List (List Place)} {B : List Box} {w w' : World}

theorem setCell_free {w : World} {a : Addr} {v : Value} {b n : Nat} (h : Free w b n) : Free (w.setCell a v) b n := by
  obtain ⟨cells, ty, fz, h, h1, h2⟩ := h
  by_cases hb : a.block = b
  · subst hb
    by_cases hs : a.spot.isSome = true
    · exact ⟨cells, ty, fz, by simp [World.setCell, Array.getElem?_modify, h, hs], h1, h2⟩
    · exact ⟨cells.setIfInBounds a.off v, ty, fz, by simp [World.setCell, Array.getElem?_modify, h, hs], by simpa using h1, by simpa using h2⟩
  · exact ⟨cells, ty, fz, by rw [Below.heap_setCell _ _ _ _ (fun e => hb e.symm)]; exact h, h1, h2⟩
theorem setCells_free {b' n : Nat} : ∀ (vs : List Value) (b o : Nat) (w : World), Free w b' n → Free (w.setCells b o vs) b' n
  | [], _, _, _, h => h
  | _ :: vs, b, o, _, h => setCells_free vs b (o + 1) _ (setCell_free h)
theorem setCell_plain {w : World} {a : Addr} {v : Value} {b : Nat} (h : Plain w b) : Plain (w.setCell a v) b := by
  obtain ⟨cells, ty, h⟩ := h
  by_cases hb : a.block = b
  · subst hb
    by_cases hs : a.spot.isSome = true
    · exact ⟨cells, ty, by simp [World.setCell, Array.getElem?_modify, h, hs]⟩
    · exact ⟨cells.setIfInBounds a.off v, ty, by simp [World.setCell, Array.getElem?_modify, h, hs]⟩
  · exact ⟨cells, ty, by rw [Below.heap_setCell _ _ _ _ (fun e => hb e.symm)]; exact h⟩
theorem setCells_plain {b' : Nat} : ∀ (vs : List Value) (b o : Nat) (w : World), Plain w b' → Plain (w.setCells b o vs) b'
  | [], _, _, _, h => h
  | _ :: vs, b, o, _, h => setCells_plain vs b (o + 1) _ (setCell_plain h)
theorem setCells_other {k : Nat} : ∀ (vs : List Value) (b o : Nat) (w : World), k ≠ b → (w.setCells b o vs).heap[k]? = w.heap[k]?
  | [], _, _, _, _ => rfl
  | _ :: vs, b, o, w, h => (setCells_other vs b (o + 1) _ h).trans (Below.heap_setCell _ _ _ _ (by simpa using h))
theorem setCells_size : ∀ (vs : List Value) (b o : Nat) (w : World), (w.setCells b o vs).heap.size = w.heap.size
  | [], _, _, _ => rfl
  | _ :: vs, b, o, w => (setCells_size vs b (o + 1) _).trans (by simp [World.setCell])
theorem setCells_rest : ∀ (vs : List Value) (b o : Nat) (w : World), (w.setCells b o vs).os = w.os ∧ (w.setCells b o vs).tape = w.tape ∧ (w.setCells b o vs).output = w.output
  | [], _, _, _ => ⟨rfl, rfl, rfl⟩
  | _ :: vs, b, o, w => setCells_rest vs b (o + 1) _
theorem setCells_below {b o : Nat} (vs : List Value) (hb : N ≤ b) (w : World) : Below N w (w.setCells b o vs) := by
  obtain ⟨h1, h2, h3⟩ := setCells_rest vs b o w
  exact ⟨h1, h2, h3, by rw [setCells_size]; exact Nat.le_refl _, fun k hk => setCells_other vs b o w (by omega)⟩
theorem setCells_out {b o b' j : Nat} (vs : List Value) (w : World) (h : b' = b → j < o ∨ o + vs.length ≤ j) : (w.setCells b o vs).cell? ⟨b', j, none⟩ = w.cell? ⟨b', j, none⟩ :=
  World.cell?_setCells_out b vs o w ⟨b', j, none⟩ (fun h1 _ => h h1)
theorem setCells_in {b o : Nat} (vs : List Value) (w : World) (hf : Free w b (o + vs.length)) {j : Nat} {v : Value} (hj : vs[j]? = some v) : (w.setCells b o vs).cell? ⟨b, o + j, none⟩ = some v := by
  have hl := (List.getElem?_eq_some_iff.1 hj)
  obtain ⟨hl, he⟩ := hl
  have := World.cell?_setCells_in b vs o w (fun j hj => (hf.cell (by omega)).1) j hl
  rw [this, ← he]

theorem splice_length (cells vs : List CV) (off : Nat) (h : off + vs.length ≤ cells.length) : (splice cells off vs).length = cells.length := by
  simp [splice]; omega

theorem one_place (h : BRel N I μ B w) {β : Nat} {box : Box} (hb : B[β]? = some box) (hm : box.multi = false) {ps : List Place} {q : Place} (hps : μ[β]? = some ps) (hq : q ∈ ps) : ∃ p : Place, μ[β]? = some [p] ∧ p.lo = 0 ∧ p.k = box.cells.length ∧
    (∃ vs, R I μ w true box.cells vs ∧ ∀ j v, vs[j]? = some v → w.cell? ⟨p.b, p.o + j, none⟩ = some v) ∧ (∀ j, ¬ I p.b j) ∧ N ≤ p.b ∧ Free w p.b (p.o + box.cells.length) := by
  rcases h.one β box hb hm with a0 | ⟨p, a1, a2, a3, a4, a5⟩
  · rw [hps] at a0; simp at a0; subst a0; cases hq
  obtain ⟨b1, b3, b4⟩ := h.places β [p] p a1 (by simp)
  exact ⟨p, a1, a2, a3, a4, a5, b1, by rw [a2, a3] at b4; simpa using b4⟩

theorem Free.cells {w : World} {b n : Nat} (h : Free w b n) : ∃ cells ty fz, w.heap[b]? = some (.cells cells ty fz) := by
  obtain ⟨cells, ty, fz, h, _⟩ := h; exact ⟨cells, ty, fz, h⟩
theorem setCells_oth (vs : List Value) (b o : Nat) (w : World) (h : ∃ cells ty fz, w.heap[b]? = some (.cells cells ty fz)) : Oth w (w.setCells b o vs) := fun k ob hk hc => by
  have hkb : k ≠ b := fun e => by
    obtain ⟨cells, ty, fz, h⟩ := h
    subst e; rw [h] at hk; simp at hk; subst hk; simp [Obj.isCells] at hc
  rw [setCells_other vs b o w hkb]; exact hk

/-- Cells are written into a box. -/
theorem BRel.write (h : BRel N I μ B w) {β off : Nat} {box : Box} {p : Place} (hb : B[β]? = some box) (hm : box.multi = false) (hp : μ[β]? = some [p]) {cs : List CV} {vs : List Value} (hr : R I μ w true cs vs) (hl : off + cs.length ≤ box.cells.length) :
    BRel N I μ (B.set β { cells := splice box.cells off cs }) (w.setCells p.b (p.o + off) vs) ∧ Ext I μ w I μ (w.setCells p.b (p.o + off) vs) ∧ Below N w (w.setCells p.b (p.o + off) vs) := by
  obtain ⟨p', a1, a2, a3, ⟨us, a4, a5⟩, a6, a7, a9⟩ := one_place h hb hm hp (List.mem_singleton.2 rfl)
  have : p' = p := by rw [hp] at a1; simpa using a1.symm
  subst this
  have hlen := hr.len
  have hus := a4.len
  have hβ : β < B.length := (List.getElem?_eq_some_iff.1 hb).1
  have e : Ext I μ w I μ (w.setCells p'.b (p'.o + off) vs) :=
    ⟨⟨fun _ _ h => h, fun b j hj => setCells_out vs w (fun hbb => by subst hbb; exact absurd hj (a6 j)), fun b n hf => setCells_free vs _ _ w hf, fun b hf => setCells_plain vs _ _ w hf, fun _ ps h => ⟨ps, h, fun _ h => h⟩⟩, by rw [setCells_size]; exact Nat.le_refl _, more_refl μ w, news_refl μ w, fun _ _ h => .inl h, fun _ h => h, setCells_oth vs _ _ w a9.cells⟩
  refine ⟨⟨by simp [h.len], by rw [setCells_size]; exact h.low, fun b j hj => by rw [setCells_size]; exact h.imm b j hj, fun β' ps q h1 h2 => ?_, h.disj, fun β' box' h1 h2 => ?_, fun β' box' ps q h1 h2 h3 h4 => ?_⟩, e, setCells_below vs a7 w⟩
  · obtain ⟨b1, b3, b4⟩ := h.places β' ps q h1 h2
    exact ⟨b1, b3, setCells_free vs _ _ w b4⟩
  · rw [List.getElem?_set] at h1
    by_cases hbb : β = β'
    · subst hbb
      rw [if_pos rfl, if_pos hβ] at h1
      simp at h1
      subst h1
      refine .inr ⟨p', hp, a2, by rw [a3]; exact (splice_length _ _ _ hl).symm, ⟨us.take off ++ vs ++ us.drop (off + vs.length), ?_, fun j v hj => ?_⟩, a6⟩
      · rw [← hlen]
        exact (((a4.take off).append hr).append (a4.drop (off + cs.length))).ext e.toKeep
      · rcases Nat.lt_or_ge j off with h3 | h3
        · rw [List.append_assoc, List.getElem?_append_left (by simp; omega), List.getElem?_take, if_pos h3] at hj
          rw [setCells_out vs w (fun _ => by omega)]
          exact a5 j v hj
        · rcases Nat.lt_or_ge j (off + vs.length) with h4 | h4
          · rw [List.append_assoc, List.getElem?_append_right (by simp; omega), List.getElem?_append_left (by simp; omega)] at hj
            have hx := setCells_in vs w (o := p'.o + off) (b := p'.b) (a9.less (by omega)) hj
            have e1 : (List.take off us).length = off := by simp; omega
            rw [e1] at hx
            rwa [show p'.o + off + (j - off) = p'.o + j by omega] at hx
          · rw [List.append_assoc, List.getElem?_append_right (by simp; omega), List.getElem?_append_right (by simp; omega), List.getElem?_drop] at hj
            have e1 : (List.take off us).length = off := by simp; omega
            rw [e1, show off + vs.length + (j - off - vs.length) = j by omega] at hj
            rw [setCells_out vs w (fun _ => by omega)]
            exact a5 j v hj
    · rw [if_neg hbb] at h1
      rcases h.one β' box' h1 h2 with b0 | ⟨q, b1, b2, b3, ⟨us', b4, b5⟩, b6⟩
      · exact .inl b0
      have hd : q.b ≠ p'.b := fun he => hbb (h.disj β β' _ _ p' q hp b1 (by simp) (by simp) he.symm)
      exact .inr ⟨q, b1, b2, b3, ⟨us', b4.ext e.toKeep, fun j v hj => (setCells_out vs w (fun h => absurd h hd)).trans (b5 j v hj)⟩, b6⟩
  · rw [List.getElem?_set] at h1
    by_cases hbb : β = β'
    · subst hbb
      rw [if_pos rfl, if_pos hβ] at h1
      simp at h1
      subst h1
      cases h2
    · rw [if_neg hbb] at h1
      obtain ⟨b1, ⟨us', b2, b3⟩, b4⟩ := h.many β' box' ps q h1 h2 h3 h4
      have hd : q.b ≠ p'.b := fun he => hbb (h.disj β β' _ _ p' q hp h3 (by simp) h4 he.symm)
      exact ⟨b1, ⟨us', b2.ext e.toKeep, fun j v hj => ⟨(setCells_out vs w (fun h => absurd h hd)).trans (b3 j v hj).1, (b3 j v hj).2⟩⟩, b4⟩

/-- The cells of a place, whichever kind the box is. -/
theorem place_cells (h : BRel N I μ B w) {β : Nat} {box : Box} {ps : List Place} {p : Place} (hb : B[β]? = some box) (hp : μ[β]? = some ps) (hm : p ∈ ps) : p.lo ≤ p.k ∧ p.k ≤ box.cells.length ∧
    (∃ vs, R I μ w true ((box.cells.take p.k).drop p.lo) vs ∧ (∀ j v, vs[j]? = some v → w.cell? ⟨p.b, p.o + j, none⟩ = some v)) ∧
    (p.k = box.cells.length → ∀ j, p.o + (p.k - p.lo) ≤ j → ¬ I p.b j) := by
  have h0 := (h.places β ps p hp hm).2.1
  cases hx : box.multi with
  | false =>
    rcases h.one β box hb hx with a0 | ⟨q, a1, a2, a3, ⟨vs, a4, a5⟩, a6⟩
    · rw [hp] at a0; simp at a0; subst a0; cases hm
    have hq : ps = [q] := by rw [hp] at a1; simpa using a1
    subst hq
    have : p = q := by simpa using hm
    subst this
    refine ⟨h0, by omega, ⟨vs, ?_, a5⟩, fun _ j _ => a6 j⟩
    rw [a3, a2]; simpa using a4
  | true =>
    obtain ⟨a1, ⟨vs, a2, a3⟩, a4⟩ := h.many β box ps p hb hx hp hm
    exact ⟨h0, a1, ⟨vs, a2, fun j v hj => (a3 j v hj).1⟩, a4⟩

def pub (I : Nat → Nat → Prop) (ps : List Place) : Nat → Nat → Prop := fun b j => I b j ∨ ∃ p ∈ ps, b = p.b ∧ p.o ≤ j ∧ j < p.o + (p.k - p.lo)

/-- A box grows at its end: whether in its last row or in a new one. 'w'' agrees with w on all that was published; 'q' is the place of the longer row. -/
theorem BRel.grown (h : BRel N I μ B w) {β : Nat} {box : Box} {ps : List Place} {q : Place} (hb : B[β]? = some box) (hps : μ[β]? = some ps) (hne : ps ≠ []) {news : List CV} (hn : 0 < news.length)
    (hbel : Below N w w') (hoth : Oth w w') (hfree : ∀ b n, Free w b n → Free w' b n) (hplain : ∀ b, Plain w b → Plain w' b)
    (hsame : ∀ b j, (b < w.heap.size) → (b ≠ q.b ∨ j < q.o + (box.cells.length - q.lo)) → w'.cell? ⟨b, j, none⟩ = w.cell? ⟨b, j, none⟩)
    (hq : (q.b = w.heap.size ∧ q.o = 0) ∨ (∃ p ∈ ps, p.b = q.b ∧ p.k = box.cells.length ∧ p.o + (p.k - p.lo) = q.o + (box.cells.length - q.lo)))
    (hqlo : q.lo ≤ box.cells.length) (hqk : q.k = box.cells.length + news.length) (hqf : Free w' q.b (q.o + (q.k - q.lo)))
    {vs us : List Value} (hr : R I μ w true (box.cells.drop q.lo) us) (hr' : R I μ w true news vs) (hc : ∀ j v, (us ++ vs)[j]? = some v → w'.cell? ⟨q.b, q.o + j, none⟩ = some v) :
    BRel N (pub I (q :: ps)) (μ.set β (q :: ps)) (B.set β { cells := box.cells ++ news, multi := true }) w' ∧ Ext I μ w (pub I (q :: ps)) (μ.set β (q :: ps)) w' := by
  have hβ : β < B.length := (List.getElem?_eq_some_iff.1 hb).1
  have hβ' : β < μ.length := by rw [h.len]; exact hβ
  have hu := hr.len
  have hv := hr'.len
  -- a cell that is published lies where nothing has turned
  have hI : ∀ b j, I b j → w'.cell? ⟨b, j, none⟩ = w.cell? ⟨b, j, none⟩ := fun b j hj => by
    refine hsame b j (h.imm b j hj) ?_
    by_cases hbq : b = q.b
    · rcases hq with ⟨hq, _⟩ | ⟨p, hp, hpb, hpk, hpo⟩
      · have := h.imm b j hj; omega
      · right
        rcases Nat.lt_or_ge j (p.o + (p.k - p.lo)) with hl | hl
        · omega
        · have := (place_cells h hb hps hp).2.2.2 hpk j hl
          rw [hpb, ← hbq] at this
          exact absurd hj this
    · exact .inl hbq
  have e : Ext I μ w (pub I (q :: ps)) (μ.set β (q :: ps)) w' := by
    refine ⟨⟨fun b j hj => .inl hj, hI, hfree, hplain, fun γ qs hγ => ?_⟩, hbel.size, fun γ qs qs' hγ hγ' p hp => ?_, fun γ qs hγ hγ' => ?_, fun b j hj => ?_, fun γ hγ => by
      by_cases hγβ : β = γ
      · subst hγβ; rw [hps] at hγ; simp at hγ; exact absurd hγ hne
      · rw [List.getElem?_set, if_neg hγβ]; exact hγ, hoth⟩
    rotate_left
    · by_cases hγβ : β = γ
      · subst hγβ
        rw [hps] at hγ
        simp at hγ
        subst hγ
        rw [List.getElem?_set, if_pos rfl, if_pos hβ'] at hγ'
        simp at hγ'
        subst hγ'
        rcases List.mem_cons.1 hp with rfl | hp
        · rcases hq with ⟨hq, _⟩ | ⟨r, hr1, hr2, _⟩
          · exact .inr (by omega)
          · exact .inl ⟨r, hr1, hr2⟩
        · exact .inl ⟨p, hp, rfl⟩
      · rw [List.getElem?_set, if_neg hγβ, hγ] at hγ'
        simp at hγ'
        subst hγ'
        exact .inl ⟨p, hp, rfl⟩
    · have := (List.getElem?_eq_some_iff.1 hγ').1
      simp at this
      omega
    · rcases hj with hj | ⟨p, hp, rfl, _⟩
      · exact .inl hj
      · rcases List.mem_cons.1 hp with rfl | hp
        · rcases hq with ⟨hq, _⟩ | ⟨r, hr1, hr2, _⟩
          · exact .inr (.inl (by omega))
          · exact .inr (.inr ⟨β, ps, r, hps, hr1, hr2⟩)
        · exact .inr (.inr ⟨β, ps, p, hps, hp, rfl⟩)
    by_cases hγβ : β = γ
    · subst hγβ
      rw [hps] at hγ
      simp at hγ
      subst hγ
      exact ⟨q :: ps, by simp [hβ'], fun p hp => by simp [hp]⟩
    · exact ⟨qs, by rw [List.getElem?_set, if_neg hγβ]; exact hγ, fun _ h => h⟩
  have hmul : ∀ (p : Place), p ∈ ps → p.b < w.heap.size := fun p hp => (h.places β ps p hps hp).2.2.lt
  -- old places read as they did
  have hold : ∀ (γ : Nat) (qs : List Place) (p : Place), μ[γ]? = some qs → p ∈ qs → ∀ (bx : Box), B[γ]? = some bx → ∀ j, p.lo + j < p.k → w'.cell? ⟨p.b, p.o + j, none⟩ = w.cell? ⟨p.b, p.o + j, none⟩ := by
    intro γ qs p hγ hp bx hbx j hj
    refine hsame _ _ (h.places γ qs p hγ hp).2.2.lt ?_
    by_cases hpq : p.b = q.b
    · rcases hq with ⟨hq, _⟩ | ⟨p', hp', hpb, hpk, hpo⟩
      · have := (h.places γ qs p hγ hp).2.2.lt; omega
      · right
        have hγβ : γ = β := h.disj γ β qs ps p p' hγ hps hp hp' (by omega)
        subst hγβ
        rw [hps] at hγ
        simp at hγ
        subst hγ
        rw [hb] at hbx
        simp at hbx
        subst hbx
        -- a published cell of p cannot lie beyond the end of p'
        rcases Nat.lt_or_ge (p.o + j) (p'.o + (p'.k - p'.lo)) with hl | hl
        · omega
        · exfalso
          cases hmm : box.multi with
          | false =>
            rcases h.one γ box hb hmm with a0 | ⟨r, a1, a2, a3, _⟩
            · rw [hps] at a0; simp at a0; subst a0; cases hp
            have : ps = [r] := by rw [hps] at a1; simpa using a1
            subst this
            have h1 : p = r := by simpa using hp
            have h2 : p' = r := by simpa using hp'
            subst h1
            subst h2
            omega
          | true =>
            obtain ⟨a1, ⟨vs', a2, a3⟩, _⟩ := h.many γ box ps p hb hmm hps hp
            have hl2 := a2.len
            have hll : j < vs'.length := by
              rw [← hl2]; simp; omega
            have := (a3 j vs'[j] (by simp [hll])).2
            rw [hpq, ← hpb] at this
            exact (place_cells h hb hps hp').2.2.2 hpk _ hl this
    · exact .inl hpq
  have hplaces : ∀ (γ : Nat) (qs : List Place) (p : Place), (μ.set β (q :: ps))[γ]? = some qs → p ∈ qs → (∃ qs', μ[γ]? = some qs' ∧ p ∈ qs' ∧ (γ ≠ β → qs' = qs)) ∨ (γ = β ∧ p = q) := by
    intro γ qs p h1 h2
    rw [List.getElem?_set] at h1
    by_cases hγβ : β = γ
    · subst hγβ
      rw [if_pos rfl, if_pos hβ'] at h1
      simp at h1
      subst h1
      rcases List.mem_cons.1 h2 with rfl | h2
      · exact .inr ⟨rfl, rfl⟩
      · exact .inl ⟨ps, hps, h2, fun h => absurd rfl h⟩
    · rw [if_neg hγβ] at h1
      exact .inl ⟨qs, h1, h2, fun _ => rfl⟩
  have hqb : ∀ (γ : Nat) (qs : List Place) (p : Place), μ[γ]? = some qs → p ∈ qs → p.b = q.b → γ = β := by
    intro γ qs p h1 h2 he
    rcases hq with ⟨hq, _⟩ | ⟨p', hp', hpb, _, _⟩
    · have := (h.places γ qs p h1 h2).2.2.lt; omega
    · exact h.disj γ β qs ps p p' h1 hps h2 hp' (by omega)
  have hqN : N ≤ q.b := by
    rcases hq with ⟨hq, _⟩ | ⟨p', hp', hpb, _, _⟩
    · rw [hq]; exact h.low
    · have := h.places β ps p' hps hp'
      rw [← hpb]; exact this.1
  refine ⟨⟨by simp [h.len], by have := h.low; have := hbel.size; omega, fun b j hj => ?_, fun γ qs p h1 h2 => ?_, fun γ γ' qs qs' p p' h1 h1' h2 h2' he => ?_, fun γ bx h1 h2 => ?_, fun γ bx qs p h1 h2 h3 h4 => ?_⟩, e⟩
  · rcases hj with hj | ⟨p, hp, rfl, _⟩
    · have := h.imm b j hj; have := hbel.size; omega
    · rcases List.mem_cons.1 hp with rfl | hp
      · exact hqf.lt
      · have := hmul p hp; have := hbel.size; omega
  · rcases hplaces γ qs p h1 h2 with ⟨qs', a1, a2, _⟩ | ⟨rfl, rfl⟩
    · obtain ⟨b1, b3, b4⟩ := h.places γ qs' p a1 a2
      exact ⟨b1, b3, hfree _ _ b4⟩
    · exact ⟨hqN, by omega, hqf⟩
  · rcases hplaces γ qs p h1 h2 with ⟨r, a1, a2, _⟩ | ⟨rfl, rfl⟩ <;> rcases hplaces γ' qs' p' h1' h2' with ⟨r', a1', a2', _⟩ | ⟨rfl, rfl⟩
    · exact h.disj γ γ' r r' p p' a1 a1' a2 a2' he
    · exact hqb γ r p a1 a2 he
    · exact (hqb γ' r' p' a1' a2' he.symm).symm
    · rfl
  · rw [List.getElem?_set] at h1
    by_cases hγβ : β = γ
    · subst hγβ
      rw [if_pos rfl, if_pos hβ] at h1
      simp at h1
      subst h1
      cases h2
    · rw [if_neg hγβ] at h1
      rcases h.one γ bx h1 h2 with b0 | ⟨p, b1, b2, b3, ⟨us', b4, b5⟩, b6⟩
      · exact .inl (by rw [List.getElem?_set, if_neg hγβ]; exact b0)
      have hlen' := b4.len
      refine .inr ⟨p, by rw [List.getElem?_set, if_neg hγβ]; exact b1, b2, b3, ⟨us', b4.ext e.toKeep, fun j v hj => ?_⟩, fun j hj => ?_⟩
      · rw [hold γ [p] p b1 (by simp) bx h1 j (by have := (List.getElem?_eq_some_iff.1 hj).1; omega)]
        exact b5 j v hj
      · rcases hj with hj | ⟨p', hp', hpp, _⟩
        · exact b6 j hj
        · rcases List.mem_cons.1 hp' with rfl | hp'
          · exact hγβ (hqb γ [p] p b1 (by simp) hpp).symm
          · exact hγβ (h.disj β γ ps [p] p' p hps b1 hp' (by simp) hpp.symm)
  · rw [List.getElem?_set] at h1
    by_cases hγβ : β = γ
    · subst hγβ
      rw [if_pos rfl, if_pos hβ] at h1
      simp at h1
      subst h1
      rw [List.getElem?_set, if_pos rfl, if_pos hβ'] at h3
      simp at h3
      subst h3
      rcases List.mem_cons.1 h4 with rfl | h4'
      · refine ⟨by simp [hqk], ⟨us ++ vs, ?_, fun j v hj => ⟨hc j v hj, ?_⟩⟩, fun _ j hj hi => ?_⟩
        · have e1 : ((box.cells ++ news).take p.k).drop p.lo = box.cells.drop p.lo ++ news := by
            rw [List.take_of_length_le (by simp; omega), List.drop_append_of_le_length hqlo]
          rw [e1]
          exact (hr.append hr').ext e.toKeep
        · right
          refine ⟨p, by simp, rfl, by omega, ?_⟩
          have := (List.getElem?_eq_some_iff.1 hj).1
          simp at this hu
          omega
        · rcases hi with hi | ⟨p', hp', hb', h5, h6⟩
          · rcases hq with ⟨hq, _⟩ | ⟨r, hr1, hr2, hr3, hr4⟩
            · have := h.imm _ _ hi; omega
            · have := (place_cells h hb hps hr1).2.2.2 hr3 j (by omega)
              rw [hr2] at this
              exact this hi
          · rcases List.mem_cons.1 hp' with rfl | hp'
            · omega
            · rcases hq with ⟨hq, _⟩ | ⟨r, hr1, hr2, hr3, hr4⟩
              · have := hmul p' hp'; omega
              · -- p' lies on the block of r: its published cells end where r's do
                cases hmm : box.multi with
                | false =>
                  rcases h.one β box hb hmm with a0 | ⟨s, a1, a2, a3, _⟩
                  · rw [hps] at a0; simp at a0; subst a0; cases hp'
                  have : ps = [s] := by rw [hps] at a1; simpa using a1
                  subst this
                  have h1 : p' = s := by simpa using hp'
                  have h2 : r = s := by simpa using hr1
                  subst h1
                  subst h2
                  omega
                | true =>
                  obtain ⟨a1, ⟨vs', a2, a3⟩, _⟩ := h.many β box ps p' hb hmm hps hp'
                  have hl2 := a2.len
                  have hk := (h.places β ps p' hps hp').2.1
                  have hll : j - p'.o < vs'.length := by rw [← hl2]; simp; omega
                  have := (a3 (j - p'.o) vs'[j - p'.o] (by simp [hll])).2
                  rw [show p'.o + (j - p'.o) = j by omega, ← hb', ← hr2] at this
                  exact (place_cells h hb hps hr1).2.2.2 hr3 j (by omega) this
      · obtain ⟨c0, c1, ⟨vs', c2, c3⟩, _⟩ := place_cells h hb hps h4'
        have hl2 := c2.len
        refine ⟨by simp; omega, ⟨vs', ?_, fun j v hj => ?_⟩, fun hk => by simp at hk; omega⟩
        · have e1 : ((box.cells ++ news).take p.k).drop p.lo = (box.cells.take p.k).drop p.lo := by
            rw [List.take_append_of_le_length c1]
          rw [e1]
          exact c2.ext e.toKeep
        · have hj' := (List.getElem?_eq_some_iff.1 hj).1
          have hj2 : p.lo + j < p.k := by simp at hl2; omega
          exact ⟨(hold β ps p hps h4' box hb j hj2).trans (c3 j v hj), .inr ⟨p, h4, rfl, by omega, by omega⟩⟩
    · rw [if_neg hγβ] at h1
      rw [List.getElem?_set, if_neg hγβ] at h3
      obtain ⟨b1, ⟨us', b2, b3⟩, b4⟩ := h.many γ bx qs p h1 h2 h3 h4
      have hl2 := b2.len
      refine ⟨b1, ⟨us', b2.ext e.toKeep, fun j v hj => ⟨?_, .inl (b3 j v hj).2⟩⟩, fun hk j hj hi => ?_⟩
      · rw [hold γ qs p h3 h4 bx h1 j (by have := (List.getElem?_eq_some_iff.1 hj).1; simp at hl2; omega)]
        exact (b3 j v hj).1
      · rcases hi with hi | ⟨p', hp', hpp, _⟩
        · exact b4 hk j hj hi
        · rcases List.mem_cons.1 hp' with rfl | hp'
          · exact hγβ (hqb γ qs p h3 h4 hpp).symm
          · exact hγβ (h.disj β γ ps qs p' p hps h3 hp' h4 hpp.symm)

end
end Go.Sy
