/-
  Slices, and addresses inside them.
-/
import Derived.Test.YtjlfblcoghiijaaSyGe
namespace Go.Sy
set_option linter.all false
open Go.RowKit (Below)

section
variable {P : Program} {N : Nat} {I : Nat → Nat → Prop} {μ : List (List Place)} {B : List Box} {w : World} {o : Oper} {a : Act} {fr : Fr} {c : CV}

theorem sub_list {α : Type} (l : List α) {k lo s e : Nat} (h1 : lo ≤ s) (h2 : s + e ≤ k) : (((l.take k).drop lo).drop (s - lo)).take e = (l.drop s).take e := by
  rw [List.drop_drop, show lo + (s - lo) = s by omega, List.drop_take, List.take_take, Nat.min_eq_left (by omega)]

theorem V.view_inv {b off n sz : Nat} {full : Bool} {v : Value} (h : V I μ w (.view b off n sz full) v) :
    (∃ ps p cap, v = .slice (some ⟨p.b, p.o + (off - p.lo), none⟩) n cap ∧ μ[b]? = some ps ∧ p ∈ ps ∧ p.lo ≤ off ∧ off + n * sz ≤ p.k ∧ n ≤ cap ∧ (full = true → cap = n) ∧ Free w p.b (p.o + (off - p.lo) + cap * sz)) ∨
    (∃ A, v = .slice A 0 0 ∧ n = 0 ∧ Here μ b) := by
  cases h with
  | view _ _ _ _ _ ps p cap hb hp hlo hk hn hf hr _ => exact .inl ⟨ps, p, cap, rfl, hb, hp, hlo, hk, hn, hf, hr⟩
  | viewE _ _ _ _ A hb _ => exact .inr ⟨A, rfl, rfl, hb⟩
theorem V.cview_inv {b off n cap sz : Nat} {v : Value} (h : V I μ w (.cview b off n cap sz) v) :
    (∃ ps p, v = .slice (some ⟨p.b, p.o + (off - p.lo), none⟩) n cap ∧ μ[b]? = some ps ∧ p ∈ ps ∧ p.lo ≤ off ∧ off + cap * sz ≤ p.k ∧ n ≤ cap ∧ Plain w p.b) ∨
    (∃ A, v = .slice A 0 0 ∧ n = 0 ∧ cap = 0 ∧ Here μ b) := by
  cases h with
  | cview _ _ _ _ _ ps p hb hp hlo hk hn hpl _ => exact .inl ⟨ps, p, rfl, hb, hp, hlo, hk, hn, hpl⟩
  | cviewE _ _ _ A hb _ => exact .inr ⟨A, rfl, rfl, rfl, hb⟩
/-- Whoever knows the capacity may forget it. -/
theorem V.cview_view (hB : BRel N I μ B w) {b off n cap sz : Nat} {v : Value} (h : V I μ w (.cview b off n cap sz) v) : V I μ w (.view b off n sz false) v := by
  cases h with
  | cview _ _ _ _ _ ps p hb hp hlo hk hn hpl _ =>
    have hf := (hB.places b ps p hb hp).2.2
    have hle := (hB.places b ps p hb hp).2.1
    have hmul : n * sz ≤ cap * sz := Nat.mul_le_mul_right _ hn
    exact .view _ _ _ _ _ ps p cap hb hp hlo (by omega) hn (by simp) (hf.less (by omega)) (.nil _)
  | cviewE _ _ _ A hb _ => exact .viewE _ _ _ _ A hb (.nil _)
theorem V.lst_inv {n : Nat} {cs : List CV} {full : Bool} {v : Value} (h : V I μ w (.lst n cs full) v) :
    (∃ b o cap vs, v = .slice (some ⟨b, o, none⟩) n cap ∧ R I μ w true cs vs ∧ (∀ j u, vs[j]? = some u → w.cell? ⟨b, o + j, none⟩ = some u ∧ I b (o + j)) ∧ n ≤ cap ∧ (full = true → cap = n)) ∨
    (∃ A, v = .slice A 0 0 ∧ n = 0 ∧ cs = []) := by
  cases h with
  | lst _ _ b o cap h hm hn hf _ => exact .inl ⟨b, o, cap, _, rfl, h, hm, hn, hf⟩
  | lstE _ A _ => exact .inr ⟨A, rfl, rfl, rfl⟩

/-- The cells of a view, and where they lie. -/
theorem view_cells (hB : BRel N I μ B w) {b off n sz : Nat} {box : Box} {ps : List Place} {p : Place} (hb : B[b]? = some box) (h1 : μ[b]? = some ps) (h2 : p ∈ ps) (h3 : p.lo ≤ off) (h4 : off + n * sz ≤ p.k) {s e : Nat} (hs : off ≤ s) (he : s + e ≤ off + n * sz) :
    p.k ≤ box.cells.length ∧ ∃ vs, R I μ w true ((box.cells.drop s).take e) vs ∧ vs.length = e ∧ (∀ j u, vs[j]? = some u → w.cell? ⟨p.b, p.o + (s - p.lo) + j, none⟩ = some u) ∧ (box.multi = true → ∀ j u, vs[j]? = some u → I p.b (p.o + (s - p.lo) + j)) := by
  obtain ⟨_, c1, ⟨vs, c2, c3⟩, _⟩ := place_cells hB hb h1 h2
  refine ⟨c1, (vs.drop (s - p.lo)).take e, ?_, ?_, fun j u hj => ?_, fun hm j u hj => ?_⟩
  · rw [← sub_list box.cells (show p.lo ≤ s by omega) (show s + e ≤ p.k by omega)]
    exact (c2.drop _).take _
  · have := c2.len; simp at this ⊢; omega
  · rw [List.getElem?_take] at hj
    split at hj
    · rw [List.getElem?_drop] at hj
      rw [Nat.add_assoc]
      exact c3 _ u hj
    · cases hj
  · obtain ⟨_, ⟨us, d1, d2⟩, _⟩ := hB.many b box ps p hb hm h1 h2
    rw [List.getElem?_take] at hj
    split at hj
    · have hl := (List.getElem?_eq_some_iff.1 hj).1
      have e1 := c2.len
      have e2 := d1.len
      simp at hl e1 e2
      have := (d2 (s - p.lo + j) us[s - p.lo + j] (by simp [show s - p.lo + j < us.length by omega])).2
      rwa [← Nat.add_assoc] at this
    · cases hj

theorem read_rel (hB : BRel N I μ B w) {c : CV} {v : Value} {esz n : Nat} {cs : List CV} (h : V I μ w c v) (hr : readC B esz c = some (n, cs)) :
    ∃ A cap vs, v = .slice A n cap ∧ n ≤ cap ∧ R I μ w true cs vs ∧ vs.length = n * esz ∧ (vs = [] ∨ ∃ b o, A = some ⟨b, o, none⟩ ∧ ∀ j u, vs[j]? = some u → w.cell? ⟨b, o + j, none⟩ = some u) := by
  unfold readC at hr
  split at hr
  · simp at hr
    obtain ⟨rfl, rfl⟩ := hr
    rw [h.nilS_inv]
    exact ⟨none, 0, [], rfl, Nat.le_refl _, .nil _, by simp, .inl rfl⟩
  · rename_i m cs' full
    split at hr
    · rename_i hle
      simp at hr
      obtain ⟨rfl, rfl⟩ := hr
      rcases h.lst_inv with ⟨b, o, cap, vs, rfl, h1, h2, h3, _⟩ | ⟨A, rfl, rfl, rfl⟩
      · refine ⟨_, cap, vs.take (m * esz), rfl, h3, h1.take _, ?_, .inr ⟨b, o, rfl, fun j u hj => ?_⟩⟩
        · have := h1.len; simp; omega
        · rw [List.getElem?_take] at hj
          split at hj
          · exact (h2 j u hj).1
          · cases hj
      · exact ⟨A, 0, [], rfl, Nat.le_refl _, by simpa using R.nil true, by simp, .inl rfl⟩
    · cases hr
  · rename_i b off m sz full
    split at hr
    · rename_i box hb
      split at hr
      · rename_i hsz
        subst hsz
        simp at hr
        obtain ⟨rfl, rfl⟩ := hr
        rcases h.view_inv with ⟨ps, p, cap, rfl, h1, h2, h3, h4, h5, _, _⟩ | ⟨A, rfl, rfl, _⟩
        · obtain ⟨_, vs, e1, e2, e3, _⟩ := view_cells hB hb h1 h2 h3 h4 (s := off) (e := m * sz) (Nat.le_refl _) (Nat.le_refl _)
          exact ⟨_, cap, vs, rfl, h5, e1, e2, .inr ⟨_, _, rfl, e3⟩⟩
        · exact ⟨A, 0, [], rfl, Nat.le_refl _, by simpa using R.nil true, by simp, .inl rfl⟩
      · cases hr
    · cases hr
  · rename_i b off m cap0 sz
    split at hr
    · rename_i box hb
      split at hr
      · rename_i hsz
        subst hsz
        simp at hr
        obtain ⟨rfl, rfl⟩ := hr
        rcases (V.cview_view hB h).view_inv with ⟨ps, p, cap, rfl, h1, h2, h3, h4, h5, _, _⟩ | ⟨A, rfl, rfl, _⟩
        · obtain ⟨_, vs, e1, e2, e3, _⟩ := view_cells hB hb h1 h2 h3 h4 (s := off) (e := m * sz) (Nat.le_refl _) (Nat.le_refl _)
          exact ⟨_, cap, vs, rfl, h5, e1, e2, .inr ⟨_, _, rfl, e3⟩⟩
        · exact ⟨A, 0, [], rfl, Nat.le_refl _, by simpa using R.nil true, by simp, .inl rfl⟩
      · cases hr
    · cases hr
  · cases hr

theorem run_firstCells' {A : Option Addr} {n m cap size : Nat} {vs : List Value} (hl : vs.length = n * size) (h : vs = [] ∨ ∃ b o, A = some ⟨b, o, none⟩ ∧ ∀ j u, vs[j]? = some u → w.cell? ⟨b, o + j, none⟩ = some u) :
    (Builtin.firstCells size n (.slice A m cap)).run P w = .ok vs.toArray w := by
  rcases h with rfl | ⟨b, o, rfl, h⟩
  · cases A with
    | none => simp [Builtin.firstCells]
    | some ad =>
      have h0 : n * size = 0 := by simpa using hl.symm
      simp [Builtin.firstCells, h0, loadCells, loadCellsFrom]
  · exact run_firstCells_some w size n _ _ _ vs hl (fun j u hj => by rw [Addr.add_lit]; exact h j u hj)

theorem src_rel (hB : BRel N I μ B w) {c : CV} {v : Value} {esz n : Nat} {cs : List CV} {tx : TypeId} (hk : (∃ e, P.underlying tx = some (.slice e)) ∨ P.underlying tx = some .string) (h : V I μ w c v) (hr : srcC B esz c = some (n, cs))
    (htx : (∃ s, c = .str s) → P.underlying tx = some .string) : ∃ vs, R I μ w true cs vs ∧ Src P esz tx v n vs w := by
  unfold srcC at hr
  split at hr
  · rename_i s
    split at hr
    · rename_i h1
      subst h1
      simp at hr
      obtain ⟨rfl, rfl⟩ := hr
      rw [h.str_inv]
      have hs := Src.ofString (P := P) (tx := tx) w (htx ⟨s, rfl⟩) ⟨s.toArray⟩
      have e1 : (⟨s.toArray⟩ : ByteArray).size = s.length := by simp [ByteArray.size]
      rw [e1] at hs
      refine ⟨_, ?_, hs⟩
      unfold byteCells
      simp only
      have hl : ∀ l : List UInt8, R I μ w true (l.map byteC) (l.map fun b => Value.int .u8 b.toNat) := fun l => by
        induction l with
        | nil => exact .nil _
        | cons b l ih => exact .int _ _ ih
      exact hl s
    · cases hr
  · obtain ⟨A, cap, vs, rfl, h1, h2, h3, h4⟩ := read_rel hB h hr
    refine ⟨vs, h2, ⟨hk, fun _ => rfl, run_firstCells' h3 h4, run_firstCells' h3 (by
      rcases h4 with h4 | ⟨b, o, h5, h6⟩
      · exact .inl h4
      · exact .inr ⟨b, o, h5, fun j u hj => h6 j u hj⟩), h3, h2.oneCells⟩⟩

theorem run_sliceBound {x : CV} {v : Value} {y y' i : Nat} {code : BoundsCode} (h : V I μ w x v) (hb : boundC x y = some i) (hy : y ≤ y') (w' : World) : (Instr.sliceBound v y' code).run P w' = .ok i w' ∧ i ≤ y := by
  unfold boundC at hb
  split at hb
  · rename_i k n
    split at hb
    · rename_i hn
      simp at hb
      subst hb
      rw [h.int_inv]
      have h2 : 0 ≤ n ∧ n ≤ (y' : Int) := ⟨hn.1, by have := hn.2; omega⟩
      exact ⟨by simp [Instr.sliceBound, asIntOf, h2], by omega⟩
    · cases hb
  · cases hb

theorem run_sliceBounds (hfr : ∀ i, V I μ w (fr i) (a.tmps.getD i undef)) {isS : Bool} {n cap : Nat} {lo hi mx : Option Operand} {l h : Nat} {m : Option Nat} (hb : boundsC n (lo.map (opv fr)) (hi.map (opv fr)) (mx.map (opv fr)) = some (l, h, m)) (hn : n ≤ cap) :
    (Instr.sliceBounds isS n cap (lo.map a.eval) (hi.map a.eval) (mx.map a.eval)).run P w = .ok (l, h, m.getD cap) w ∧ l ≤ h ∧ h ≤ m.getD n ∧ m.getD n ≤ n := by
  unfold boundsC at hb
  simp only [Option.bind_eq_some_iff] at hb
  obtain ⟨m', h1, h', h2, l', h3, h4⟩ := hb
  simp only [Option.some.injEq, Prod.mk.injEq] at h4
  obtain ⟨rfl, rfl, rfl⟩ := h4
  have hm : ∃ mm, (match mx.map a.eval with | some v => Instr.sliceBound v cap (if isS then .slice3Acap else .slice3Alen) | none => pure cap : Sem Nat).run P w = .ok (m'.getD cap) w ∧ m'.getD n ≤ n ∧ mm = m'.getD cap ∧ m'.getD n ≤ mm := by
    cases mx with
    | none => simp at h1; subst h1; exact ⟨cap, rfl, by simp, rfl, by simpa using hn⟩
    | some x =>
      simp only [Option.map_some, Option.map_eq_some_iff] at h1
      obtain ⟨i, h1, rfl⟩ := h1
      obtain ⟨h5, h6⟩ := run_sliceBound (P := P) (opv_rel hfr x) h1 hn w
      exact ⟨i, by simpa using h5, by simpa using h6, rfl, by simp⟩
  obtain ⟨mm, hm1, hm2, rfl, hm4⟩ := hm
  have hh : (match hi.map a.eval, mx.map a.eval with | some v, some _ => Instr.sliceBound v (m'.getD cap) .slice3B | some v, none => Instr.sliceBound v (m'.getD cap) (if isS then .sliceAcap else .sliceAlen) | none, none => pure n | none, some _ => stuck "Slice: max without high" : Sem Nat).run P w = .ok h' w ∧ h' ≤ m'.getD n := by
    cases hi with
    | none =>
      simp only [Option.map_none] at h2
      cases mx with
      | none => simp at h2; subst h2; simp at h1; subst h1; exact ⟨rfl, by simp⟩
      | some x => simp at h2
    | some y =>
      simp only [Option.map_some] at h2
      cases mx with
      | none =>
        obtain ⟨h5, h6⟩ := run_sliceBound (P := P) (code := if isS then .sliceAcap else .sliceAlen) (opv_rel hfr y) h2 hm4 w
        exact ⟨h5, h6⟩
      | some x =>
        obtain ⟨h5, h6⟩ := run_sliceBound (P := P) (code := .slice3B) (opv_rel hfr y) h2 hm4 w
        exact ⟨h5, h6⟩
  have hl : (match lo.map a.eval with | some v => Instr.sliceBound v h' (if (mx.map a.eval).isSome then .slice3C else .sliceB) | none => pure 0 : Sem Nat).run P w = .ok l' w ∧ l' ≤ h' := by
    cases lo with
    | none => simp at h3; subst h3; exact ⟨rfl, Nat.zero_le _⟩
    | some x =>
      obtain ⟨h5, h6⟩ := run_sliceBound (P := P) (code := if (mx.map a.eval).isSome then .slice3C else .sliceB) (opv_rel hfr x) h3 (Nat.le_refl _) w
      exact ⟨h5, h6⟩
  refine ⟨?_, hl.2, hh.2, hm2⟩
  have hh1 := hh.1
  have hl1 := hl.1
  clear h3 hh hl hm2 hm4 hn hfr
  unfold Instr.sliceBounds
  cases mx with
  | none =>
    simp only [Option.map_none, Option.some.injEq] at h1
    subst h1
    clear hm1
    cases hi with
    | none =>
      simp only [Option.map_none, Sem.run_pure, Result.ok.injEq, and_true] at hh1
      subst hh1
      cases lo with
      | none =>
        simp only [Option.map_none, Sem.run_pure, Result.ok.injEq, and_true] at hl1
        subst hl1
        rfl
      | some x =>
        simp only [Option.map_none, Option.map_some, Option.isSome_none] at hl1 ⊢
        simp only [Sem.run_bind, Sem.run_pure, Result.andThen_ok, hl1]
        rfl
    | some y =>
      simp only [Option.map_none, Option.map_some] at hh1
      have hh1 : (Instr.sliceBound (a.eval y) cap (if isS then .sliceAcap else .sliceAlen)).run P w = .ok h' w := hh1
      cases lo with
      | none =>
        simp only [Option.map_none, Sem.run_pure, Result.ok.injEq, and_true] at hl1
        subst hl1
        simp only [Option.map_none, Option.map_some]
        simp only [Sem.run_bind, Sem.run_pure, Result.andThen_ok, hh1]
        rfl
      | some x =>
        simp only [Option.map_none, Option.map_some, Option.isSome_none] at hl1 ⊢
        simp only [Sem.run_bind, Sem.run_pure, Result.andThen_ok, hh1, hl1]
        rfl
  | some z =>
    simp only [Option.map_some] at hm1
    cases hi with
    | none => simp at hh1
    | some y =>
      simp only [Option.map_some] at hh1
      cases lo with
      | none =>
        simp only [Option.map_none, Sem.run_pure, Result.ok.injEq, and_true] at hl1
        subst hl1
        simp only [Option.map_none, Option.map_some]
        simp only [Sem.run_bind, Sem.run_pure, Result.andThen_ok, hm1, hh1]
      | some x =>
        simp only [Option.map_some, Option.isSome_some] at hl1 ⊢
        simp only [Sem.run_bind, Sem.run_pure, Result.andThen_ok, hm1, hh1, hl1]

theorem run_boundsK (hfr : ∀ i, V I μ w (fr i) (a.tmps.getD i undef)) {n cap : Nat} {lo hi : Option Operand} {l h : Nat} (hb : boundsK n cap (lo.map (opv fr)) (hi.map (opv fr)) = some (l, h)) (hn : n ≤ cap) :
    (Instr.sliceBounds true n cap (lo.map a.eval) (hi.map a.eval) none).run P w = .ok (l, h, cap) w ∧ l ≤ h ∧ h ≤ cap := by
  unfold boundsK at hb
  simp only [Option.bind_eq_some_iff, Option.map_eq_some_iff] at hb
  obtain ⟨h', h2, l', h3, h4⟩ := hb
  simp only [Prod.mk.injEq] at h4
  obtain ⟨rfl, rfl⟩ := h4
  have hh : (match hi.map a.eval with | some v => Instr.sliceBound v cap .sliceAcap | none => pure n : Sem Nat).run P w = .ok h' w ∧ h' ≤ cap := by
    cases hi with
    | none => simp at h2; subst h2; exact ⟨rfl, hn⟩
    | some x =>
      obtain ⟨h5, h6⟩ := run_sliceBound (P := P) (code := .sliceAcap) (opv_rel hfr x) (by simpa using h2) (Nat.le_refl cap) w
      exact ⟨by simpa using h5, h6⟩
  have hl : (match lo.map a.eval with | some v => Instr.sliceBound v h' .sliceB | none => pure 0 : Sem Nat).run P w = .ok l' w ∧ l' ≤ h' := by
    cases lo with
    | none => simp at h3; subst h3; exact ⟨rfl, Nat.zero_le _⟩
    | some x =>
      obtain ⟨h5, h6⟩ := run_sliceBound (P := P) (code := .sliceB) (opv_rel hfr x) (by simpa using h3) (Nat.le_refl h') w
      exact ⟨by simpa using h5, h6⟩
  refine ⟨?_, hl.2, hh.2⟩
  unfold Instr.sliceBounds
  have h1 := hh.1
  have h2 := hl.1
  cases hi <;> cases lo <;> simp_all

theorem fits_slice {t : TypeId} {x : Operand} {lo hi mx : Option Operand} {r : CV × List Box} (ho : o.op = .slice t x lo hi mx) (hB : BRel N I μ B w) (hfr : ∀ i, V I μ w (fr i) (a.tmps.getD i undef))
    (h : ev P o fr B = some r) : Fits P N I μ w o a r.1 r.2 := by
  have hx := opv_rel hfr x
  simp only [ev, ho] at h
  split at h
  · rename_i hu
    split at h
    · rename_i s e1
      rw [e1] at hx
      have hx := hx.str_inv
      simp only [Option.map_eq_some_iff] at h
      obtain ⟨⟨l, hh, m⟩, hb, rfl⟩ := h
      dsimp only
      have e2 : (⟨s.toArray⟩ : ByteArray).size = s.length := by simp [ByteArray.size]
      obtain ⟨h1, h2, h3, h4⟩ := run_sliceBounds (P := P) (isS := false) hfr (lo := lo) (hi := hi) (mx := none) hb (Nat.le_refl _)
      refine fits_value hB (v := .string ⟨((s.drop l).take (hh - l)).toArray⟩) ?_ (.str _ (.nil _))
      simp only [Option.map_none] at h1
      simp only [execOp, ho, hx, Instr.sliceAt, Sem.run_bind, run_underlying hu, Result.andThen_ok, Instr.slice, Option.map_none, Option.isSome_none, Bool.false_eq_true, if_false, Sem.run_pure, e2, h1]
      congr 4
      apply ByteArray.ext
      simp [ByteArray.data_extract, List.extract]
    · cases h
  · rename_i n e hu
    simp only [Option.bind_eq_some_iff] at h
    obtain ⟨esz, hs, ⟨l, hh, m⟩, hb, h⟩ := h
    obtain ⟨h1, h2, h3, h4⟩ := run_sliceBounds (P := P) (isS := false) hfr (lo := lo) (hi := hi) (mx := mx) hb (Nat.le_refl _)
    have hmul : (l + (hh - l)) * esz = l * esz + (hh - l) * esz := Nat.add_mul _ _ _
    have hle : (l + (hh - l)) * esz ≤ n * esz := Nat.mul_le_mul_right _ (by omega)
    simp only at h
    split at h
    · rename_i b off e1
      rw [e1] at hx
      split at h
      · rename_i box hbx
        split at h
        · rename_i hc
          simp at h
          subst h
          obtain ⟨p, vs, p1, p2, p3, p4⟩ := box_ptr hB hx hbx hc.1
          obtain ⟨p', q1, q2, q3, q4, q5, q6, q8⟩ := one_place hB hbx hc.1 p1 (List.mem_singleton.2 rfl)
          have : p' = p := by rw [p1] at q1; simpa using q1.symm
          subst this
          by_cases hml : m.getD n = l
          · refine fits_value hB (v := .slice (some ⟨p'.b, p'.o + off, none⟩) 0 0) (by simp [execOp, ho, p2, Instr.sliceAt, run_underlying hu, Instr.sureAddr, h1, run_sizeOf' hs, hml]; omega) ?_
            rw [show hh - l = 0 by omega]
            exact .viewE _ _ _ _ _ ⟨_, _, p1, List.mem_singleton.2 rfl⟩ (.nil _)
          · refine fits_value hB (v := .slice (some ⟨p'.b, p'.o + (off + l * esz), none⟩) (hh - l) (m.getD n - l)) (by simp [execOp, ho, p2, Instr.sliceAt, run_underlying hu, Instr.sureAddr, h1, run_sizeOf' hs, hml, Addr.add_lit, Nat.add_assoc]) ?_
            have hroom : l * esz + (m.getD n - l) * esz ≤ n * esz := by rw [← Nat.add_mul]; exact Nat.mul_le_mul_right _ (by omega)
            have := R.view (I := I) (w := w) (one := false) b (off + l * esz) (hh - l) esz (decide (m.getD n = hh)) [p'] p' (m.getD n - l) p1 (by simp) (by omega) (by omega) (by omega) (by simp; omega)
              (q8.less (by rw [q2]; omega)) (.nil _)
            rwa [q2, Nat.sub_zero] at this
        · cases h
      · cases h
    · rename_i cs e1
      rw [e1] at hx
      simp at h
      subst h
      obtain ⟨b, o', vs, i1, i2, i3⟩ := hx.iptr_inv
      by_cases hml : m.getD n = l
      · refine fits_value hB (v := .slice (some ⟨b, o', none⟩) 0 0) (by simp [execOp, ho, i1, Instr.sliceAt, run_underlying hu, Instr.sureAddr, h1, run_sizeOf' hs, hml]; omega) ?_
        rw [show hh - l = 0 by omega]
        simp
        exact .lstE _ _ (.nil _)
      · refine fits_value hB (v := .slice (some ⟨b, o' + l * esz, none⟩) (hh - l) (m.getD n - l)) (by simp [execOp, ho, i1, Instr.sliceAt, run_underlying hu, Instr.sureAddr, h1, run_sizeOf' hs, hml, Addr.add_lit]) ?_
        refine .lst _ _ b (o' + l * esz) (m.getD n - l) ((i2.drop _).take _) (fun j u hj => ?_) (by omega) (by simp; omega) (.nil _)
        rw [List.getElem?_take] at hj
        split at hj
        · rw [List.getElem?_drop] at hj
          rw [Nat.add_assoc]
          exact i3 _ u hj
        · cases hj
    · cases h
  · rename_i e hu
    simp only [Option.bind_eq_some_iff] at h
    obtain ⟨esz, hs, h⟩ := h
    split at h
    · rename_i e1
      rw [e1] at hx
      have hx := hx.nilS_inv
      simp only [Option.map_eq_some_iff] at h
      obtain ⟨⟨l, hh, m⟩, hb, rfl⟩ := h
      dsimp only
      obtain ⟨h1, h2, h3, h4⟩ := run_sliceBounds (P := P) (isS := true) hfr (lo := lo) (hi := hi) (mx := mx) hb (Nat.le_refl _)
      have : l = 0 := by omega
      have : hh = 0 := by omega
      subst l
      subst hh
      refine fits_value hB (v := .slice none 0 0) ?_ (.nilS (.nil _))
      simp [execOp, ho, hx, Instr.sliceAt, run_underlying hu, Instr.slice, h1, run_sizeOf' hs]
      omega
    · rename_i n cs full e1
      rw [e1] at hx
      simp only [Option.map_eq_some_iff] at h
      obtain ⟨⟨l, hh, m⟩, hb, rfl⟩ := h
      dsimp only
      rcases hx.lst_inv with ⟨b, o', cap, vs, i1, i2, i3, i4, i5⟩ | ⟨A, i1, rfl, rfl⟩
      · obtain ⟨h1, h2, h3, h4⟩ := run_sliceBounds (P := P) (isS := true) hfr (lo := lo) (hi := hi) (mx := mx) hb i4
        have hmc : m.getD n ≤ m.getD cap := by cases m <;> simp; exact i4
        by_cases hml : m.getD cap = l
        · refine fits_value hB (v := .slice (some ⟨b, o', none⟩) 0 0) (by simp [execOp, ho, i1, Instr.sliceAt, run_underlying hu, Instr.slice, h1, run_sizeOf' hs, hml]; omega) ?_
          simp only [show hh - l = 0 by omega]
          simp
          exact .lstE _ _ (.nil _)
        · refine fits_value hB (v := .slice (some ⟨b, o' + l * esz, none⟩) (hh - l) (m.getD cap - l)) (by simp [execOp, ho, i1, Instr.sliceAt, run_underlying hu, Instr.slice, h1, run_sizeOf' hs, hml, Addr.add_lit]) ?_
          refine .lst _ _ b (o' + l * esz) (m.getD cap - l) ((i2.drop _).take _) (fun j u hj => ?_) (by omega) (fun hf => ?_) (.nil _)
          · rw [List.getElem?_take] at hj
            split at hj
            · rw [List.getElem?_drop] at hj
              rw [Nat.add_assoc]
              exact i3 _ u hj
            · cases hj
          · cases m with
            | none => simp [fullC] at hf ⊢; have := i5 hf.1; omega
            | some m => simp [fullC] at hf ⊢; omega
      · obtain ⟨h1, h2, h3, h4⟩ := run_sliceBounds (P := P) (isS := true) hfr (lo := lo) (hi := hi) (mx := mx) hb (Nat.le_refl 0)
        have : l = 0 := by omega
        have : hh = 0 := by omega
        subst l
        subst hh
        have hm0 : m.getD 0 = 0 := by omega
        refine fits_value hB (v := .slice A 0 0) (by simp [execOp, ho, i1, Instr.sliceAt, run_underlying hu, Instr.slice, h1, run_sizeOf' hs, hm0]) ?_
        simp
        exact .lstE _ _ (.nil _)
    · rename_i b off n cap sz e1
      rw [e1] at hx
      split at h
      · rename_i hsz
        obtain ⟨hsz, hmx⟩ := hsz
        subst hsz
        have hmx : mx = none := by simpa using hmx
        subst hmx
        simp only [Option.map_eq_some_iff] at h
        obtain ⟨⟨l, hh⟩, hb, rfl⟩ := h
        dsimp only
        rcases hx.cview_inv with ⟨ps, p, i1, i2, i3, i4, i5, i6, i7⟩ | ⟨A, i1, rfl, rfl, i2⟩
        · obtain ⟨h1, h2, h3⟩ := run_boundsK (P := P) (w := w) hfr (lo := lo) (hi := hi) hb i6
          by_cases hml : cap = l
          · obtain rfl : hh = l := by omega
            subst hml
            refine fits_value hB (v := .slice (some ⟨p.b, p.o + (off - p.lo), none⟩) 0 0) (by simp [execOp, ho, i1, Instr.sliceAt, run_underlying hu, Instr.slice, h1, run_sizeOf' hs]) ?_
            rw [Nat.sub_self]
            exact .cviewE _ _ _ _ ⟨_, _, i2, i3⟩ (.nil _)
          · refine fits_value hB (v := .slice (some ⟨p.b, p.o + (off - p.lo) + l * sz, none⟩) (hh - l) (cap - l)) (by simp [execOp, ho, i1, Instr.sliceAt, run_underlying hu, Instr.slice, h1, run_sizeOf' hs, hml, Addr.add_lit]) ?_
            have hmul : l * sz + (cap - l) * sz ≤ cap * sz := by rw [← Nat.add_mul]; exact Nat.mul_le_mul_right _ (by omega)
            have := R.cview (I := I) (w := w) (one := false) b (off + l * sz) (hh - l) (cap - l) sz ps p i2 i3 (by omega) (by omega) (by omega) i7 (.nil _)
            rwa [show p.o + (off + l * sz - p.lo) = p.o + (off - p.lo) + l * sz by omega] at this
        · obtain ⟨h1, h2, h3⟩ := run_boundsK (P := P) (w := w) hfr (lo := lo) (hi := hi) hb (Nat.le_refl 0)
          have : l = 0 := by omega
          have : hh = 0 := by omega
          subst l
          subst hh
          refine fits_value hB (v := .slice A 0 0) (by simp [execOp, ho, i1, Instr.sliceAt, run_underlying hu, Instr.slice, h1, run_sizeOf' hs]) ?_
          exact .cviewE _ _ _ _ i2 (.nil _)
      · split at h
        · rename_i hsz
          subst hsz
          simp only [Option.map_eq_some_iff] at h
          obtain ⟨⟨l, hh, m⟩, hb, rfl⟩ := h
          dsimp only
          rcases hx.cview_inv with ⟨ps, p, i1, i2, i3, i4, i5, i6, i7⟩ | ⟨A, i1, rfl, rfl, i2⟩
          · obtain ⟨h1, h2, h3, h4⟩ := run_sliceBounds (P := P) (isS := true) hfr (lo := lo) (hi := hi) (mx := mx) hb i6
            have hmc : m.getD n ≤ m.getD cap := by cases m <;> simp; exact i6
            have hmcc : m.getD cap ≤ cap := by cases m <;> simp at h4 ⊢; omega
            by_cases hml : m.getD cap = l
            · refine fits_value hB (v := .slice (some ⟨p.b, p.o + (off - p.lo), none⟩) 0 0) (by simp [execOp, ho, i1, Instr.sliceAt, run_underlying hu, Instr.slice, h1, run_sizeOf' hs, hml]; omega) ?_
              simp only [show hh - l = 0 by omega, show m.getD cap - l = 0 by omega]
              exact .cviewE _ _ _ _ ⟨_, _, i2, i3⟩ (.nil _)
            · refine fits_value hB (v := .slice (some ⟨p.b, p.o + (off - p.lo) + l * sz, none⟩) (hh - l) (m.getD cap - l)) (by simp [execOp, ho, i1, Instr.sliceAt, run_underlying hu, Instr.slice, h1, run_sizeOf' hs, hml, Addr.add_lit]) ?_
              have hroom : l * sz + (m.getD cap - l) * sz ≤ cap * sz := by rw [← Nat.add_mul]; exact Nat.mul_le_mul_right _ (by omega)
              have := R.cview (I := I) (w := w) (one := false) b (off + l * sz) (hh - l) (m.getD cap - l) sz ps p i2 i3 (by omega) (by omega) (by omega) i7 (.nil _)
              rwa [show p.o + (off + l * sz - p.lo) = p.o + (off - p.lo) + l * sz by omega] at this
          · obtain ⟨h1, h2, h3, h4⟩ := run_sliceBounds (P := P) (isS := true) hfr (lo := lo) (hi := hi) (mx := mx) hb (Nat.le_refl 0)
            have : l = 0 := by omega
            have : hh = 0 := by omega
            subst l
            subst hh
            have hm0 : m.getD 0 = 0 := by omega
            refine fits_value hB (v := .slice A 0 0) (by simp [execOp, ho, i1, Instr.sliceAt, run_underlying hu, Instr.slice, h1, run_sizeOf' hs, hm0]) ?_
            simp only [hm0]
            exact .cviewE _ _ _ _ i2 (.nil _)
        · cases h
    · rename_i b off n sz full e1
      rw [e1] at hx
      split at h
      · rename_i hsz
        subst hsz
        simp only [Option.map_eq_some_iff] at h
        obtain ⟨⟨l, hh, m⟩, hb, rfl⟩ := h
        dsimp only
        rcases hx.view_inv with ⟨ps, p, cap, i1, i2, i3, i4, i5, i6, i7, i8⟩ | ⟨A, i1, rfl, i2⟩
        · obtain ⟨h1, h2, h3, h4⟩ := run_sliceBounds (P := P) (isS := true) hfr (lo := lo) (hi := hi) (mx := mx) hb i6
          have hmc : m.getD n ≤ m.getD cap := by cases m <;> simp; exact i6
          have hmcc : m.getD cap ≤ cap := by cases m <;> simp at h4 ⊢; omega
          by_cases hml : m.getD cap = l
          · refine fits_value hB (v := .slice (some ⟨p.b, p.o + (off - p.lo), none⟩) 0 0) (by simp [execOp, ho, i1, Instr.sliceAt, run_underlying hu, Instr.slice, h1, run_sizeOf' hs, hml]; omega) ?_
            simp only [show hh - l = 0 by omega]
            exact .viewE _ _ _ _ _ ⟨_, _, i2, i3⟩ (.nil _)
          · refine fits_value hB (v := .slice (some ⟨p.b, p.o + (off - p.lo) + l * sz, none⟩) (hh - l) (m.getD cap - l)) (by simp [execOp, ho, i1, Instr.sliceAt, run_underlying hu, Instr.slice, h1, run_sizeOf' hs, hml, Addr.add_lit]) ?_
            have hmul : l * sz + (hh - l) * sz ≤ n * sz := by rw [← Nat.add_mul]; exact Nat.mul_le_mul_right _ (by omega)
            have hroom : l * sz + (m.getD cap - l) * sz ≤ cap * sz := by rw [← Nat.add_mul]; exact Nat.mul_le_mul_right _ (by omega)
            have := R.view (I := I) (w := w) (one := false) b (off + l * sz) (hh - l) sz (fullC m full hh n) ps p (m.getD cap - l) i2 i3 (by omega) (by omega) (by omega)
              (fun hf => by
                cases m with
                | none => simp [fullC] at hf ⊢; have := i7 hf.1; omega
                | some m => simp [fullC] at hf ⊢; omega) (i8.less (by omega)) (.nil _)
            rwa [show p.o + (off + l * sz - p.lo) = p.o + (off - p.lo) + l * sz by omega] at this
        · obtain ⟨h1, h2, h3, h4⟩ := run_sliceBounds (P := P) (isS := true) hfr (lo := lo) (hi := hi) (mx := mx) hb (Nat.le_refl 0)
          have : l = 0 := by omega
          have : hh = 0 := by omega
          subst l
          subst hh
          have hm0 : m.getD 0 = 0 := by omega
          refine fits_value hB (v := .slice A 0 0) (by simp [execOp, ho, i1, Instr.sliceAt, run_underlying hu, Instr.slice, h1, run_sizeOf' hs, hm0]) ?_
          exact .viewE _ _ _ _ _ i2 (.nil _)
      · cases h
    · cases h
  · cases h

end
end Go.Sy
