/- Lemmas and definitions of this claim (own texts, joined by a program; what the claim does not use is left out). -/
import Derived.Test.YtcbdghgogmcllaaGreatDoorSf1
set_option linter.all false
set_option maxRecDepth 100000
set_option maxHeartbeats 4000000
section
namespace Go.Sy
open Go.RowKit (Below)
section
variable {P : Program} {N : Nat} {I : Nat → Nat → Prop} {μ : List (List Place)} {B : List Box} {w : World} {o : Oper} {a : Act} {fr : Fr} {c : CV}
theorem sub_list {α : Type} (l : List α) {k lo s e : Nat} (h1 : lo ≤ s) (h2 : s + e ≤ k) : (((l.take k).drop lo).drop (s - lo)).take e = (l.drop s).take e := by
  rw [List.drop_drop, show lo + (s - lo) = s by omega, List.drop_take, List.take_take, Nat.min_eq_left (by omega)]
theorem V.view_inv {b off n sz : Nat} {full : Bool} {v : Value} (h : V I μ w (.view b off n sz full) v) :
    (∃ ps p cap, v = .slice (some ⟨p.b, p.o + (off - p.lo), none⟩) n cap ∧ μ[b]? = some ps ∧ p ∈ ps ∧ p.lo ≤ off ∧ off + n * sz ≤ p.k ∧ n ≤ cap ∧ (full = true → cap = n) ∧ Free w p.b (p.o + (off - p.lo) + cap * sz)) ∨
    (∃ A, v = .slice A 0 0 ∧ n = 0 ∧ Here μ b) := by
  cases h with
  | view _ _ _ _ _ ps p cap hb hp hlo hk hn hf hr _ => exact .inl ⟨ps, p, cap, rfl, hb, hp, hlo, hk, hn, hf, hr⟩
  | viewE _ _ _ _ A hb _ => exact .inr ⟨A, rfl, rfl, hb⟩
theorem V.cview_inv {b off n cap sz : Nat} {v : Value} (h : V I μ w (.cview b off n cap sz) v) :
    (∃ ps p, v = .slice (some ⟨p.b, p.o + (off - p.lo), none⟩) n cap ∧ μ[b]? = some ps ∧ p ∈ ps ∧ p.lo ≤ off ∧ off + cap * sz ≤ p.k ∧ n ≤ cap ∧ Plain w p.b) ∨
    (∃ A, v = .slice A 0 0 ∧ n = 0 ∧ cap = 0 ∧ Here μ b) := by
  cases h with
  | cview _ _ _ _ _ ps p hb hp hlo hk hn hpl _ => exact .inl ⟨ps, p, rfl, hb, hp, hlo, hk, hn, hpl⟩
  | cviewE _ _ _ A hb _ => exact .inr ⟨A, rfl, rfl, rfl, hb⟩
theorem V.cview_view (hB : BRel N I μ B w) {b off n cap sz : Nat} {v : Value} (h : V I μ w (.cview b off n cap sz) v) : V I μ w (.view b off n sz false) v := by
  cases h with
  | cview _ _ _ _ _ ps p hb hp hlo hk hn hpl _ =>
    have hf := (hB.places b ps p hb hp).2.2
    have hle := (hB.places b ps p hb hp).2.1
    have hmul : n * sz ≤ cap * sz := Nat.mul_le_mul_right _ hn
    exact .view _ _ _ _ _ ps p cap hb hp hlo (by omega) hn (by simp) (hf.less (by omega)) (.nil _)
  | cviewE _ _ _ A hb _ => exact .viewE _ _ _ _ A hb (.nil _)
theorem V.lst_inv {n : Nat} {cs : List CV} {full : Bool} {v : Value} (h : V I μ w (.lst n cs full) v) :
    (∃ b o cap vs, v = .slice (some ⟨b, o, none⟩) n cap ∧ R I μ w true cs vs ∧ (∀ j u, vs[j]? = some u → w.cell? ⟨b, o + j, none⟩ = some u ∧ I b (o + j)) ∧ n ≤ cap ∧ (full = true → cap = n)) ∨
    (∃ A, v = .slice A 0 0 ∧ n = 0 ∧ cs = []) := by
  cases h with
  | lst _ _ b o cap h hm hn hf _ => exact .inl ⟨b, o, cap, _, rfl, h, hm, hn, hf⟩
  | lstE _ A _ => exact .inr ⟨A, rfl, rfl, rfl⟩
theorem view_cells (hB : BRel N I μ B w) {b off n sz : Nat} {box : Box} {ps : List Place} {p : Place} (hb : B[b]? = some box) (h1 : μ[b]? = some ps) (h2 : p ∈ ps) (h3 : p.lo ≤ off) (h4 : off + n * sz ≤ p.k) {s e : Nat} (hs : off ≤ s) (he : s + e ≤ off + n * sz) :
    p.k ≤ box.cells.length ∧ ∃ vs, R I μ w true ((box.cells.drop s).take e) vs ∧ vs.length = e ∧ (∀ j u, vs[j]? = some u → w.cell? ⟨p.b, p.o + (s - p.lo) + j, none⟩ = some u) ∧ (box.multi = true → ∀ j u, vs[j]? = some u → I p.b (p.o + (s - p.lo) + j)) := by
  obtain ⟨_, c1, ⟨vs, c2, c3⟩, _⟩ := place_cells hB hb h1 h2
  refine ⟨c1, (vs.drop (s - p.lo)).take e, ?_, ?_, fun j u hj => ?_, fun hm j u hj => ?_⟩
  · rw [← sub_list box.cells (show p.lo ≤ s by omega) (show s + e ≤ p.k by omega)]
    exact (c2.drop _).take _
  · have := c2.len; simp at this ⊢; omega
  · rw [List.getElem?_take] at hj
    split at hj
    · rw [List.getElem?_drop] at hj
      rw [Nat.add_assoc]
      exact c3 _ u hj
    · cases hj
  · obtain ⟨_, ⟨us, d1, d2⟩, _⟩ := hB.many b box ps p hb hm h1 h2
    rw [List.getElem?_take] at hj
    split at hj
    · have hl := (List.getElem?_eq_some_iff.1 hj).1
      have e1 := c2.len
      have e2 := d1.len
      simp at hl e1 e2
      have := (d2 (s - p.lo + j) us[s - p.lo + j] (by simp [show s - p.lo + j < us.length by omega])).2
      rwa [← Nat.add_assoc] at this
    · cases hj
theorem read_rel (hB : BRel N I μ B w) {c : CV} {v : Value} {esz n : Nat} {cs : List CV} (h : V I μ w c v) (hr : readC B esz c = some (n, cs)) :
    ∃ A cap vs, v = .slice A n cap ∧ n ≤ cap ∧ R I μ w true cs vs ∧ vs.length = n * esz ∧ (vs = [] ∨ ∃ b o, A = some ⟨b, o, none⟩ ∧ ∀ j u, vs[j]? = some u → w.cell? ⟨b, o + j, none⟩ = some u) := by
  unfold readC at hr
  split at hr
  · simp at hr
    obtain ⟨rfl, rfl⟩ := hr
    rw [h.nilS_inv]
    exact ⟨none, 0, [], rfl, Nat.le_refl _, .nil _, by simp, .inl rfl⟩
  · rename_i m cs' full
    split at hr
    · rename_i hle
      simp at hr
      obtain ⟨rfl, rfl⟩ := hr
      rcases h.lst_inv with ⟨b, o, cap, vs, rfl, h1, h2, h3, _⟩ | ⟨A, rfl, rfl, rfl⟩
      · refine ⟨_, cap, vs.take (m * esz), rfl, h3, h1.take _, ?_, .inr ⟨b, o, rfl, fun j u hj => ?_⟩⟩
        · have := h1.len; simp; omega
        · rw [List.getElem?_take] at hj
          split at hj
          · exact (h2 j u hj).1
          · cases hj
      · exact ⟨A, 0, [], rfl, Nat.le_refl _, by simpa using R.nil true, by simp, .inl rfl⟩
    · cases hr
  · rename_i b off m sz full
    split at hr
    · rename_i box hb
      split at hr
      · rename_i hsz
        subst hsz
        simp at hr
        obtain ⟨rfl, rfl⟩ := hr
        rcases h.view_inv with ⟨ps, p, cap, rfl, h1, h2, h3, h4, h5, _, _⟩ | ⟨A, rfl, rfl, _⟩
        · obtain ⟨_, vs, e1, e2, e3, _⟩ := view_cells hB hb h1 h2 h3 h4 (s := off) (e := m * sz) (Nat.le_refl _) (Nat.le_refl _)
          exact ⟨_, cap, vs, rfl, h5, e1, e2, .inr ⟨_, _, rfl, e3⟩⟩
        · exact ⟨A, 0, [], rfl, Nat.le_refl _, by simpa using R.nil true, by simp, .inl rfl⟩
      · cases hr
    · cases hr
  · rename_i b off m cap0 sz
    split at hr
    · rename_i box hb
      split at hr
      · rename_i hsz
        subst hsz
        simp at hr
        obtain ⟨rfl, rfl⟩ := hr
        rcases (V.cview_view hB h).view_inv with ⟨ps, p, cap, rfl, h1, h2, h3, h4, h5, _, _⟩ | ⟨A, rfl, rfl, _⟩
        · obtain ⟨_, vs, e1, e2, e3, _⟩ := view_cells hB hb h1 h2 h3 h4 (s := off) (e := m * sz) (Nat.le_refl _) (Nat.le_refl _)
          exact ⟨_, cap, vs, rfl, h5, e1, e2, .inr ⟨_, _, rfl, e3⟩⟩
        · exact ⟨A, 0, [], rfl, Nat.le_refl _, by simpa using R.nil true, by simp, .inl rfl⟩
      · cases hr
    · cases hr
  · cases hr
theorem run_firstCells' {A : Option Addr} {n m cap size : Nat} {vs : List Value} (hl : vs.length = n * size) (h : vs = [] ∨ ∃ b o, A = some ⟨b, o, none⟩ ∧ ∀ j u, vs[j]? = some u → w.cell? ⟨b, o + j, none⟩ = some u) :
    (Builtin.firstCells size n (.slice A m cap)).run P w = .ok vs.toArray w := by
  rcases h with rfl | ⟨b, o, rfl, h⟩
  · cases A with
    | none => simp [Builtin.firstCells]
    | some ad =>
      have h0 : n * size = 0 := by simpa using hl.symm
      simp [Builtin.firstCells, h0, loadCells, loadCellsFrom]
  · exact run_firstCells_some w size n _ _ _ vs hl (fun j u hj => by rw [Addr.add_lit]; exact h j u hj)
theorem src_rel (hB : BRel N I μ B w) {c : CV} {v : Value} {esz n : Nat} {cs : List CV} {tx : TypeId} (hk : (∃ e, P.underlying tx = some (.slice e)) ∨ P.underlying tx = some .string) (h : V I μ w c v) (hr : srcC B esz c = some (n, cs))
    (htx : (∃ s, c = .str s) → P.underlying tx = some .string) : ∃ vs, R I μ w true cs vs ∧ Src P esz tx v n vs w := by
  unfold srcC at hr
  split at hr
  · rename_i s
    split at hr
    · rename_i h1
      subst h1
      simp at hr
      obtain ⟨rfl, rfl⟩ := hr
      rw [h.str_inv]
      have hs := Src.ofString (P := P) (tx := tx) w (htx ⟨s, rfl⟩) ⟨s.toArray⟩
      have e1 : (⟨s.toArray⟩ : ByteArray).size = s.length := by simp [ByteArray.size]
      rw [e1] at hs
      refine ⟨_, ?_, hs⟩
      unfold byteCells
      simp only
      have hl : ∀ l : List UInt8, R I μ w true (l.map byteC) (l.map fun b => Value.int .u8 b.toNat) := fun l => by
        induction l with
        | nil => exact .nil _
        | cons b l ih => exact .int _ _ ih
      exact hl s
    · cases hr
  · obtain ⟨A, cap, vs, rfl, h1, h2, h3, h4⟩ := read_rel hB h hr
    refine ⟨vs, h2, ⟨hk, fun _ => rfl, run_firstCells' h3 h4, run_firstCells' h3 (by
      rcases h4 with h4 | ⟨b, o, h5, h6⟩
      · exact .inl h4
      · exact .inr ⟨b, o, h5, fun j u hj => h6 j u hj⟩), h3, h2.oneCells⟩⟩
theorem run_sliceBound {x : CV} {v : Value} {y y' i : Nat} {code : BoundsCode} (h : V I μ w x v) (hb : boundC x y = some i) (hy : y ≤ y') (w' : World) : (Instr.sliceBound v y' code).run P w' = .ok i w' ∧ i ≤ y := by
  unfold boundC at hb
  split at hb
  · rename_i k n
    split at hb
    · rename_i hn
      simp at hb
      subst hb
      rw [h.int_inv]
      have h2 : 0 ≤ n ∧ n ≤ (y' : Int) := ⟨hn.1, by have := hn.2; omega⟩
      exact ⟨by simp [Instr.sliceBound, asIntOf, h2], by omega⟩
    · cases hb
  · cases hb
theorem run_sliceBounds (hfr : ∀ i, V I μ w (fr i) (a.tmps.getD i undef)) {isS : Bool} {n cap : Nat} {lo hi mx : Option Operand} {l h : Nat} {m : Option Nat} (hb : boundsC n (lo.map (opv fr)) (hi.map (opv fr)) (mx.map (opv fr)) = some (l, h, m)) (hn : n ≤ cap) :
    (Instr.sliceBounds isS n cap (lo.map a.eval) (hi.map a.eval) (mx.map a.eval)).run P w = .ok (l, h, m.getD cap) w ∧ l ≤ h ∧ h ≤ m.getD n ∧ m.getD n ≤ n := by
  unfold boundsC at hb
  simp only [Option.bind_eq_some_iff] at hb
  obtain ⟨m', h1, h', h2, l', h3, h4⟩ := hb
  simp only [Option.some.injEq, Prod.mk.injEq] at h4
  obtain ⟨rfl, rfl, rfl⟩ := h4
  have hm : ∃ mm, (match mx.map a.eval with | some v => Instr.sliceBound v cap (if isS then .slice3Acap else .slice3Alen) | none => pure cap : Sem Nat).run P w = .ok (m'.getD cap) w ∧ m'.getD n ≤ n ∧ mm = m'.getD cap ∧ m'.getD n ≤ mm := by
    cases mx with
    | none => simp at h1; subst h1; exact ⟨cap, rfl, by simp, rfl, by simpa using hn⟩
    | some x =>
      simp only [Option.map_some, Option.map_eq_some_iff] at h1
      obtain ⟨i, h1, rfl⟩ := h1
      obtain ⟨h5, h6⟩ := run_sliceBound (P := P) (opv_rel hfr x) h1 hn w
      exact ⟨i, by simpa using h5, by simpa using h6, rfl, by simp⟩
  obtain ⟨mm, hm1, hm2, rfl, hm4⟩ := hm
  have hh : (match hi.map a.eval, mx.map a.eval with | some v, some _ => Instr.sliceBound v (m'.getD cap) .slice3B | some v, none => Instr.sliceBound v (m'.getD cap) (if isS then .sliceAcap else .sliceAlen) | none, none => pure n | none, some _ => stuck "Slice: max without high" : Sem Nat).run P w = .ok h' w ∧ h' ≤ m'.getD n := by
    cases hi with
    | none =>
      simp only [Option.map_none] at h2
      cases mx with
      | none => simp at h2; subst h2; simp at h1; subst h1; exact ⟨rfl, by simp⟩
      | some x => simp at h2
    | some y =>
      simp only [Option.map_some] at h2
      cases mx with
      | none =>
        obtain ⟨h5, h6⟩ := run_sliceBound (P := P) (code := if isS then .sliceAcap else .sliceAlen) (opv_rel hfr y) h2 hm4 w
        exact ⟨h5, h6⟩
      | some x =>
        obtain ⟨h5, h6⟩ := run_sliceBound (P := P) (code := .slice3B) (opv_rel hfr y) h2 hm4 w
        exact ⟨h5, h6⟩
  have hl : (match lo.map a.eval with | some v => Instr.sliceBound v h' (if (mx.map a.eval).isSome then .slice3C else .sliceB) | none => pure 0 : Sem Nat).run P w = .ok l' w ∧ l' ≤ h' := by
    cases lo with
    | none => simp at h3; subst h3; exact ⟨rfl, Nat.zero_le _⟩
    | some x =>
      obtain ⟨h5, h6⟩ := run_sliceBound (P := P) (code := if (mx.map a.eval).isSome then .slice3C else .sliceB) (opv_rel hfr x) h3 (Nat.le_refl _) w
      exact ⟨h5, h6⟩
  refine ⟨?_, hl.2, hh.2, hm2⟩
  have hh1 := hh.1
  have hl1 := hl.1
  clear h3 hh hl hm2 hm4 hn hfr
  unfold Instr.sliceBounds
  cases mx with
  | none =>
    simp only [Option.map_none, Option.some.injEq] at h1
    subst h1
    clear hm1
    cases hi with
    | none =>
      simp only [Option.map_none, Sem.run_pure, Result.ok.injEq, and_true] at hh1
      subst hh1
      cases lo with
      | none =>
        simp only [Option.map_none, Sem.run_pure, Result.ok.injEq, and_true] at hl1
        subst hl1
        rfl
      | some x =>
        simp only [Option.map_none, Option.map_some, Option.isSome_none] at hl1 ⊢
        simp only [Sem.run_bind, Sem.run_pure, Result.andThen_ok, hl1]
        rfl
    | some y =>
      simp only [Option.map_none, Option.map_some] at hh1
      have hh1 : (Instr.sliceBound (a.eval y) cap (if isS then .sliceAcap else .sliceAlen)).run P w = .ok h' w := hh1
      cases lo with
      | none =>
        simp only [Option.map_none, Sem.run_pure, Result.ok.injEq, and_true] at hl1
        subst hl1
        simp only [Option.map_none, Option.map_some]
        simp only [Sem.run_bind, Sem.run_pure, Result.andThen_ok, hh1]
        rfl
      | some x =>
        simp only [Option.map_none, Option.map_some, Option.isSome_none] at hl1 ⊢
        simp only [Sem.run_bind, Sem.run_pure, Result.andThen_ok, hh1, hl1]
        rfl
  | some z =>
    simp only [Option.map_some] at hm1
    cases hi with
    | none => simp at hh1
    | some y =>
      simp only [Option.map_some] at hh1
      cases lo with
      | none =>
        simp only [Option.map_none, Sem.run_pure, Result.ok.injEq, and_true] at hl1
        subst hl1
        simp only [Option.map_none, Option.map_some]
        simp only [Sem.run_bind, Sem.run_pure, Result.andThen_ok, hm1, hh1]
      | some x =>
        simp only [Option.map_some, Option.isSome_some] at hl1 ⊢
        simp only [Sem.run_bind, Sem.run_pure, Result.andThen_ok, hm1, hh1, hl1]
theorem run_boundsK (hfr : ∀ i, V I μ w (fr i) (a.tmps.getD i undef)) {n cap : Nat} {lo hi : Option Operand} {l h : Nat} (hb : boundsK n cap (lo.map (opv fr)) (hi.map (opv fr)) = some (l, h)) (hn : n ≤ cap) :
    (Instr.sliceBounds true n cap (lo.map a.eval) (hi.map a.eval) none).run P w = .ok (l, h, cap) w ∧ l ≤ h ∧ h ≤ cap := by
  unfold boundsK at hb
  simp only [Option.bind_eq_some_iff, Option.map_eq_some_iff] at hb
  obtain ⟨h', h2, l', h3, h4⟩ := hb
  simp only [Prod.mk.injEq] at h4
  obtain ⟨rfl, rfl⟩ := h4
  have hh : (match hi.map a.eval with | some v => Instr.sliceBound v cap .sliceAcap | none => pure n : Sem Nat).run P w = .ok h' w ∧ h' ≤ cap := by
    cases hi with
    | none => simp at h2; subst h2; exact ⟨rfl, hn⟩
    | some x =>
      obtain ⟨h5, h6⟩ := run_sliceBound (P := P) (code := .sliceAcap) (opv_rel hfr x) (by simpa using h2) (Nat.le_refl cap) w
      exact ⟨by simpa using h5, h6⟩
  have hl : (match lo.map a.eval with | some v => Instr.sliceBound v h' .sliceB | none => pure 0 : Sem Nat).run P w = .ok l' w ∧ l' ≤ h' := by
    cases lo with
    | none => simp at h3; subst h3; exact ⟨rfl, Nat.zero_le _⟩
    | some x =>
      obtain ⟨h5, h6⟩ := run_sliceBound (P := P) (code := .sliceB) (opv_rel hfr x) (by simpa using h3) (Nat.le_refl h') w
      exact ⟨by simpa using h5, h6⟩
  refine ⟨?_, hl.2, hh.2⟩
  unfold Instr.sliceBounds
  have h1 := hh.1
  have h2 := hl.1
  cases hi <;> cases lo <;> simp_all
theorem fits_slice {t : TypeId} {x : Operand} {lo hi mx : Option Operand} {r : CV × List Box} (ho : o.op = .slice t x lo hi mx) (hB : BRel N I μ B w) (hfr : ∀ i, V I μ w (fr i) (a.tmps.getD i undef))
    (h : ev P o fr B = some r) : Fits P N I μ w o a r.1 r.2 := by
  have hx := opv_rel hfr x
  simp only [ev, ho] at h
  split at h
  · rename_i hu
    split at h
    · rename_i s e1
      rw [e1] at hx
      have hx := hx.str_inv
      simp only [Option.map_eq_some_iff] at h
      obtain ⟨⟨l, hh, m⟩, hb, rfl⟩ := h
      dsimp only
      have e2 : (⟨s.toArray⟩ : ByteArray).size = s.length := by simp [ByteArray.size]
      obtain ⟨h1, h2, h3, h4⟩ := run_sliceBounds (P := P) (isS := false) hfr (lo := lo) (hi := hi) (mx := none) hb (Nat.le_refl _)
      refine fits_value hB (v := .string ⟨((s.drop l).take (hh - l)).toArray⟩) ?_ (.str _ (.nil _))
      simp only [Option.map_none] at h1
      simp only [execOp, ho, hx, Instr.sliceAt, Sem.run_bind, run_underlying hu, Result.andThen_ok, Instr.slice, Option.map_none, Option.isSome_none, Bool.false_eq_true, if_false, Sem.run_pure, e2, h1]
      congr 4
      apply ByteArray.ext
      simp [ByteArray.data_extract, List.extract]
    · cases h
  · rename_i n e hu
    simp only [Option.bind_eq_some_iff] at h
    obtain ⟨esz, hs, ⟨l, hh, m⟩, hb, h⟩ := h
    obtain ⟨h1, h2, h3, h4⟩ := run_sliceBounds (P := P) (isS := false) hfr (lo := lo) (hi := hi) (mx := mx) hb (Nat.le_refl _)
    have hmul : (l + (hh - l)) * esz = l * esz + (hh - l) * esz := Nat.add_mul _ _ _
    have hle : (l + (hh - l)) * esz ≤ n * esz := Nat.mul_le_mul_right _ (by omega)
    simp only at h
    split at h
    · rename_i b off e1
      rw [e1] at hx
      split at h
      · rename_i box hbx
        split at h
        · rename_i hc
          simp at h
          subst h
          obtain ⟨p, vs, p1, p2, p3, p4⟩ := box_ptr hB hx hbx hc.1
          obtain ⟨p', q1, q2, q3, q4, q5, q6, q8⟩ := one_place hB hbx hc.1 p1 (List.mem_singleton.2 rfl)
          have : p' = p := by rw [p1] at q1; simpa using q1.symm
          subst this
          by_cases hml : m.getD n = l
          · refine fits_value hB (v := .slice (some ⟨p'.b, p'.o + off, none⟩) 0 0) (by simp [execOp, ho, p2, Instr.sliceAt, run_underlying hu, Instr.sureAddr, h1, run_sizeOf' hs, hml]; omega) ?_
            rw [show hh - l = 0 by omega]
            exact .viewE _ _ _ _ _ ⟨_, _, p1, List.mem_singleton.2 rfl⟩ (.nil _)
          · refine fits_value hB (v := .slice (some ⟨p'.b, p'.o + (off + l * esz), none⟩) (hh - l) (m.getD n - l)) (by simp [execOp, ho, p2, Instr.sliceAt, run_underlying hu, Instr.sureAddr, h1, run_sizeOf' hs, hml, Addr.add_lit, Nat.add_assoc]) ?_
            have hroom : l * esz + (m.getD n - l) * esz ≤ n * esz := by rw [← Nat.add_mul]; exact Nat.mul_le_mul_right _ (by omega)
            have := R.view (I := I) (w := w) (one := false) b (off + l * esz) (hh - l) esz (decide (m.getD n = hh)) [p'] p' (m.getD n - l) p1 (by simp) (by omega) (by omega) (by omega) (by simp; omega)
              (q8.less (by rw [q2]; omega)) (.nil _)
            rwa [q2, Nat.sub_zero] at this
        · cases h
      · cases h
    · rename_i cs e1
      rw [e1] at hx
      simp at h
      subst h
      obtain ⟨b, o', vs, i1, i2, i3⟩ := hx.iptr_inv
      by_cases hml : m.getD n = l
      · refine fits_value hB (v := .slice (some ⟨b, o', none⟩) 0 0) (by simp [execOp, ho, i1, Instr.sliceAt, run_underlying hu, Instr.sureAddr, h1, run_sizeOf' hs, hml]; omega) ?_
        rw [show hh - l = 0 by omega]
        simp
        exact .lstE _ _ (.nil _)
      · refine fits_value hB (v := .slice (some ⟨b, o' + l * esz, none⟩) (hh - l) (m.getD n - l)) (by simp [execOp, ho, i1, Instr.sliceAt, run_underlying hu, Instr.sureAddr, h1, run_sizeOf' hs, hml, Addr.add_lit]) ?_
        refine .lst _ _ b (o' + l * esz) (m.getD n - l) ((i2.drop _).take _) (fun j u hj => ?_) (by omega) (by simp; omega) (.nil _)
        rw [List.getElem?_take] at hj
        split at hj
        · rw [List.getElem?_drop] at hj
          rw [Nat.add_assoc]
          exact i3 _ u hj
        · cases hj
    · cases h
  · rename_i e hu
    simp only [Option.bind_eq_some_iff] at h
    obtain ⟨esz, hs, h⟩ := h
    split at h
    · rename_i e1
      rw [e1] at hx
      have hx := hx.nilS_inv
      simp only [Option.map_eq_some_iff] at h
      obtain ⟨⟨l, hh, m⟩, hb, rfl⟩ := h
      dsimp only
      obtain ⟨h1, h2, h3, h4⟩ := run_sliceBounds (P := P) (isS := true) hfr (lo := lo) (hi := hi) (mx := mx) hb (Nat.le_refl _)
      have : l = 0 := by omega
      have : hh = 0 := by omega
      subst l
      subst hh
      refine fits_value hB (v := .slice none 0 0) ?_ (.nilS (.nil _))
      simp [execOp, ho, hx, Instr.sliceAt, run_underlying hu, Instr.slice, h1, run_sizeOf' hs]
      omega
    · rename_i n cs full e1
      rw [e1] at hx
      simp only [Option.map_eq_some_iff] at h
      obtain ⟨⟨l, hh, m⟩, hb, rfl⟩ := h
      dsimp only
      rcases hx.lst_inv with ⟨b, o', cap, vs, i1, i2, i3, i4, i5⟩ | ⟨A, i1, rfl, rfl⟩
      · obtain ⟨h1, h2, h3, h4⟩ := run_sliceBounds (P := P) (isS := true) hfr (lo := lo) (hi := hi) (mx := mx) hb i4
        have hmc : m.getD n ≤ m.getD cap := by cases m <;> simp; exact i4
        by_cases hml : m.getD cap = l
        · refine fits_value hB (v := .slice (some ⟨b, o', none⟩) 0 0) (by simp [execOp, ho, i1, Instr.sliceAt, run_underlying hu, Instr.slice, h1, run_sizeOf' hs, hml]; omega) ?_
          simp only [show hh - l = 0 by omega]
          simp
          exact .lstE _ _ (.nil _)
        · refine fits_value hB (v := .slice (some ⟨b, o' + l * esz, none⟩) (hh - l) (m.getD cap - l)) (by simp [execOp, ho, i1, Instr.sliceAt, run_underlying hu, Instr.slice, h1, run_sizeOf' hs, hml, Addr.add_lit]) ?_
          refine .lst _ _ b (o' + l * esz) (m.getD cap - l) ((i2.drop _).take _) (fun j u hj => ?_) (by omega) (fun hf => ?_) (.nil _)
          · rw [List.getElem?_take] at hj
            split at hj
            · rw [List.getElem?_drop] at hj
              rw [Nat.add_assoc]
              exact i3 _ u hj
            · cases hj
          · cases m with
            | none => simp [fullC] at hf ⊢; have := i5 hf.1; omega
            | some m => simp [fullC] at hf ⊢; omega
      · obtain ⟨h1, h2, h3, h4⟩ := run_sliceBounds (P := P) (isS := true) hfr (lo := lo) (hi := hi) (mx := mx) hb (Nat.le_refl 0)
        have : l = 0 := by omega
        have : hh = 0 := by omega
        subst l
        subst hh
        have hm0 : m.getD 0 = 0 := by omega
        refine fits_value hB (v := .slice A 0 0) (by simp [execOp, ho, i1, Instr.sliceAt, run_underlying hu, Instr.slice, h1, run_sizeOf' hs, hm0]) ?_
        simp
        exact .lstE _ _ (.nil _)
    · rename_i b off n cap sz e1
      rw [e1] at hx
      split at h
      · rename_i hsz
        obtain ⟨hsz, hmx⟩ := hsz
        subst hsz
        have hmx : mx = none := by simpa using hmx
        subst hmx
        simp only [Option.map_eq_some_iff] at h
        obtain ⟨⟨l, hh⟩, hb, rfl⟩ := h
        dsimp only
        rcases hx.cview_inv with ⟨ps, p, i1, i2, i3, i4, i5, i6, i7⟩ | ⟨A, i1, rfl, rfl, i2⟩
        · obtain ⟨h1, h2, h3⟩ := run_boundsK (P := P) (w := w) hfr (lo := lo) (hi := hi) hb i6
          by_cases hml : cap = l
          · obtain rfl : hh = l := by omega
            subst hml
            refine fits_value hB (v := .slice (some ⟨p.b, p.o + (off - p.lo), none⟩) 0 0) (by simp [execOp, ho, i1, Instr.sliceAt, run_underlying hu, Instr.slice, h1, run_sizeOf' hs]) ?_
            rw [Nat.sub_self]
            exact .cviewE _ _ _ _ ⟨_, _, i2, i3⟩ (.nil _)
          · refine fits_value hB (v := .slice (some ⟨p.b, p.o + (off - p.lo) + l * sz, none⟩) (hh - l) (cap - l)) (by simp [execOp, ho, i1, Instr.sliceAt, run_underlying hu, Instr.slice, h1, run_sizeOf' hs, hml, Addr.add_lit]) ?_
            have hmul : l * sz + (cap - l) * sz ≤ cap * sz := by rw [← Nat.add_mul]; exact Nat.mul_le_mul_right _ (by omega)
            have := R.cview (I := I) (w := w) (one := false) b (off + l * sz) (hh - l) (cap - l) sz ps p i2 i3 (by omega) (by omega) (by omega) i7 (.nil _)
            rwa [show p.o + (off + l * sz - p.lo) = p.o + (off - p.lo) + l * sz by omega] at this
        · obtain ⟨h1, h2, h3⟩ := run_boundsK (P := P) (w := w) hfr (lo := lo) (hi := hi) hb (Nat.le_refl 0)
          have : l = 0 := by omega
          have : hh = 0 := by omega
          subst l
          subst hh
          refine fits_value hB (v := .slice A 0 0) (by simp [execOp, ho, i1, Instr.sliceAt, run_underlying hu, Instr.slice, h1, run_sizeOf' hs]) ?_
          exact .cviewE _ _ _ _ i2 (.nil _)
      · split at h
        · rename_i hsz
          subst hsz
          simp only [Option.map_eq_some_iff] at h
          obtain ⟨⟨l, hh, m⟩, hb, rfl⟩ := h
          dsimp only
          rcases hx.cview_inv with ⟨ps, p, i1, i2, i3, i4, i5, i6, i7⟩ | ⟨A, i1, rfl, rfl, i2⟩
          · obtain ⟨h1, h2, h3, h4⟩ := run_sliceBounds (P := P) (isS := true) hfr (lo := lo) (hi := hi) (mx := mx) hb i6
            have hmc : m.getD n ≤ m.getD cap := by cases m <;> simp; exact i6
            have hmcc : m.getD cap ≤ cap := by cases m <;> simp at h4 ⊢; omega
            by_cases hml : m.getD cap = l
            · refine fits_value hB (v := .slice (some ⟨p.b, p.o + (off - p.lo), none⟩) 0 0) (by simp [execOp, ho, i1, Instr.sliceAt, run_underlying hu, Instr.slice, h1, run_sizeOf' hs, hml]; omega) ?_
              simp only [show hh - l = 0 by omega, show m.getD cap - l = 0 by omega]
              exact .cviewE _ _ _ _ ⟨_, _, i2, i3⟩ (.nil _)
            · refine fits_value hB (v := .slice (some ⟨p.b, p.o + (off - p.lo) + l * sz, none⟩) (hh - l) (m.getD cap - l)) (by simp [execOp, ho, i1, Instr.sliceAt, run_underlying hu, Instr.slice, h1, run_sizeOf' hs, hml, Addr.add_lit]) ?_
              have hroom : l * sz + (m.getD cap - l) * sz ≤ cap * sz := by rw [← Nat.add_mul]; exact Nat.mul_le_mul_right _ (by omega)
              have := R.cview (I := I) (w := w) (one := false) b (off + l * sz) (hh - l) (m.getD cap - l) sz ps p i2 i3 (by omega) (by omega) (by omega) i7 (.nil _)
              rwa [show p.o + (off + l * sz - p.lo) = p.o + (off - p.lo) + l * sz by omega] at this
          · obtain ⟨h1, h2, h3, h4⟩ := run_sliceBounds (P := P) (isS := true) hfr (lo := lo) (hi := hi) (mx := mx) hb (Nat.le_refl 0)
            have : l = 0 := by omega
            have : hh = 0 := by omega
            subst l
            subst hh
            have hm0 : m.getD 0 = 0 := by omega
            refine fits_value hB (v := .slice A 0 0) (by simp [execOp, ho, i1, Instr.sliceAt, run_underlying hu, Instr.slice, h1, run_sizeOf' hs, hm0]) ?_
            simp only [hm0]
            exact .cviewE _ _ _ _ i2 (.nil _)
        · cases h
    · rename_i b off n sz full e1
      rw [e1] at hx
      split at h
      · rename_i hsz
        subst hsz
        simp only [Option.map_eq_some_iff] at h
        obtain ⟨⟨l, hh, m⟩, hb, rfl⟩ := h
        dsimp only
        rcases hx.view_inv with ⟨ps, p, cap, i1, i2, i3, i4, i5, i6, i7, i8⟩ | ⟨A, i1, rfl, i2⟩
        · obtain ⟨h1, h2, h3, h4⟩ := run_sliceBounds (P := P) (isS := true) hfr (lo := lo) (hi := hi) (mx := mx) hb i6
          have hmc : m.getD n ≤ m.getD cap := by cases m <;> simp; exact i6
          have hmcc : m.getD cap ≤ cap := by cases m <;> simp at h4 ⊢; omega
          by_cases hml : m.getD cap = l
          · refine fits_value hB (v := .slice (some ⟨p.b, p.o + (off - p.lo), none⟩) 0 0) (by simp [execOp, ho, i1, Instr.sliceAt, run_underlying hu, Instr.slice, h1, run_sizeOf' hs, hml]; omega) ?_
            simp only [show hh - l = 0 by omega]
            exact .viewE _ _ _ _ _ ⟨_, _, i2, i3⟩ (.nil _)
          · refine fits_value hB (v := .slice (some ⟨p.b, p.o + (off - p.lo) + l * sz, none⟩) (hh - l) (m.getD cap - l)) (by simp [execOp, ho, i1, Instr.sliceAt, run_underlying hu, Instr.slice, h1, run_sizeOf' hs, hml, Addr.add_lit]) ?_
            have hmul : l * sz + (hh - l) * sz ≤ n * sz := by rw [← Nat.add_mul]; exact Nat.mul_le_mul_right _ (by omega)
            have hroom : l * sz + (m.getD cap - l) * sz ≤ cap * sz := by rw [← Nat.add_mul]; exact Nat.mul_le_mul_right _ (by omega)
            have := R.view (I := I) (w := w) (one := false) b (off + l * sz) (hh - l) sz (fullC m full hh n) ps p (m.getD cap - l) i2 i3 (by omega) (by omega) (by omega)
              (fun hf => by
                cases m with
                | none => simp [fullC] at hf ⊢; have := i7 hf.1; omega
                | some m => simp [fullC] at hf ⊢; omega) (i8.less (by omega)) (.nil _)
            rwa [show p.o + (off + l * sz - p.lo) = p.o + (off - p.lo) + l * sz by omega] at this
        · obtain ⟨h1, h2, h3, h4⟩ := run_sliceBounds (P := P) (isS := true) hfr (lo := lo) (hi := hi) (mx := mx) hb (Nat.le_refl 0)
          have : l = 0 := by omega
          have : hh = 0 := by omega
          subst l
          subst hh
          have hm0 : m.getD 0 = 0 := by omega
          refine fits_value hB (v := .slice A 0 0) (by simp [execOp, ho, i1, Instr.sliceAt, run_underlying hu, Instr.slice, h1, run_sizeOf' hs, hm0]) ?_
          exact .viewE _ _ _ _ _ i2 (.nil _)
      · cases h
    · cases h
  · cases h
end
end Go.Sy
end
section
namespace Go.Sy
open Go.RowKit (Below)
section
variable {P : Program} {N : Nat} {I : Nat → Nat → Prop} {μ : List (List Place)} {B : List Box} {w : World} {o : Oper} {a : Act} {fr : Fr} {c : CV}
theorem V.raw_is {u v : Value} (h : V I μ w (.raw v) u) : u = v := by cases h; rfl
theorem ints_rel (k : IntKind) : ∀ zs : List Int, R I μ w true (zs.map (CV.int k)) (zs.map (Value.int k))
  | [] => .nil _
  | z :: zs => .int k z (ints_rel k zs)
theorem tabC_some {c : CV} {k : Nat} {r : CV × List Box} (h : (tabC c).map (fun cs => (CV.iptr (cs.drop k), B)) = some r) : ∃ g kk zs, c = .raw (.pointer (some ⟨g, 0, none⟩)) ∧ tab g = some (kk, zs) ∧ r = (.iptr ((zs.map (CV.int kk)).drop k), B) := by
  unfold tabC at h
  split at h
  · rename_i g
    cases ht : tab g with
    | none => rw [ht] at h; simp at h
    | some t => rw [ht] at h; simp at h; exact ⟨g, t.1, t.2, rfl, ht, h.symm⟩
  · simp at h
theorem fits_indexAddr {t : TypeId} {x i : Operand} {r : CV × List Box} (ho : o.op = .indexAddr t x i) (hB : BRel N I μ B w) (hfr : ∀ i, V I μ w (fr i) (a.tmps.getD i undef))
    (h : ev P o fr B = some r) : Fits P N I μ w o a r.1 r.2 := by
  have hx := opv_rel hfr x
  have hi := opv_rel hfr i
  simp only [ev, ho] at h
  split at h
  · rename_i k i n e e1 hu
    rw [e1] at hi
    have hi := hi.int_inv
    split at h
    · rename_i hin
      simp only [Option.bind_eq_some_iff] at h
      obtain ⟨esz, hs, h⟩ := h
      split at h
      · rename_i b off e2
        rw [e2] at hx
        simp at h; subst h
        obtain ⟨ps, p, h1, h2, h3, h4⟩ := hx.ptr_inv
        have hv := R.ptr (I := I) (w := w) (one := false) b (off + i.toNat * esz) ps p h2 h3 (by omega) (.nil _)
        rw [show p.o + (off + i.toNat * esz - p.lo) = p.o + (off - p.lo) + i.toNat * esz by omega] at hv
        exact fits_value hB (by simp [execOp, ho, Instr.indexAt, run_underlying hu, h1, hi, asIntOf, Instr.sureAddr, hin, run_sizeOf' hs, Addr.add_lit]) hv
      · rename_i cs e2
        rw [e2] at hx
        simp at h; subst h
        obtain ⟨b, o', vs, h1, h2, h3⟩ := hx.iptr_inv
        refine fits_value hB (v := .pointer (some ⟨b, o' + i.toNat * esz, none⟩)) (by simp [execOp, ho, Instr.indexAt, run_underlying hu, h1, hi, asIntOf, Instr.sureAddr, hin, run_sizeOf' hs, Addr.add_lit])
          (.iptr b (o' + i.toNat * esz) (h2.drop _) (fun j u hj => ?_) (.nil _))
        rw [List.getElem?_drop] at hj
        rw [Nat.add_assoc]
        exact h3 _ u hj
      · obtain ⟨g, kk, zs, hc, hg, rfl⟩ := tabC_some h
        rw [hc] at hx
        have hx := hx.raw_is
        refine fits_value hB (v := .pointer (some ⟨g, i.toNat * esz, none⟩)) (by simp [execOp, ho, Instr.indexAt, run_underlying hu, hx, hi, asIntOf, Instr.sureAddr, hin, run_sizeOf' hs, Addr.add_lit])
          (.iptr g (i.toNat * esz) ((ints_rel kk zs).drop _) (fun j u hj => ?_) (.nil _))
        rw [List.getElem?_drop, List.getElem?_map, Option.map_eq_some_iff] at hj
        obtain ⟨z, hz, rfl⟩ := hj
        obtain ⟨g1, g2⟩ := hB.tabs.1 g kk zs hg (i.toNat * esz + j)
        exact ⟨by rw [g1, hz]; rfl, g2⟩
    · cases h
  · rename_i k i e e1 hu
    rw [e1] at hi
    have hi := hi.int_inv
    simp only [Option.bind_eq_some_iff] at h
    obtain ⟨esz, hs, h⟩ := h
    split at h
    · rename_i n cs full e2
      rw [e2] at hx
      split at h
      · rename_i hin
        simp at h; subst h
        rcases hx.lst_inv with ⟨b, o', cap, vs, h1, h2, h3, _, _⟩ | ⟨A, _, h1, _⟩
        · refine fits_value hB (v := .pointer (some ⟨b, o' + i.toNat * esz, none⟩)) (by simp [execOp, ho, Instr.indexAt, run_underlying hu, h1, hi, asIntOf, hin, run_sizeOf' hs, Addr.add_lit])
            (.iptr b (o' + i.toNat * esz) (h2.drop _) (fun j u hj => ?_) (.nil _))
          rw [List.getElem?_drop] at hj
          rw [Nat.add_assoc]
          exact h3 _ u hj
        · omega
      · cases h
    · rename_i b off n cap0 sz e2
      rw [e2] at hx
      split at h
      · rename_i hin
        obtain ⟨hi0, hin, rfl⟩ := hin
        split at h
        · rename_i box hbx
          rcases (V.cview_view hB hx).view_inv with ⟨ps, p, cap, h1, h2, h3, h4, h5, h6, _, _⟩ | ⟨A, _, h1, _⟩
          · have hidx : i.toNat * sz + sz ≤ n * sz := by
              rw [← Nat.succ_mul]; exact Nat.mul_le_mul_right _ (by omega)
            have hrun : (execOp a.eval o).run P w = .ok (.value (.pointer (some ⟨p.b, p.o + (off - p.lo) + i.toNat * sz, none⟩))) w := by
              simp [execOp, ho, Instr.indexAt, run_underlying hu, h1, hi, asIntOf, hi0, hin, run_sizeOf' hs, Addr.add_lit]
            split at h
            · rename_i hmul
              simp at h; subst h
              obtain ⟨_, vs, g1, g2, g3, g4⟩ := view_cells hB hbx h2 h3 h4 h5 (s := off + i.toNat * sz) (e := sz) (by omega) (by omega)
              refine fits_value hB hrun ?_
              rw [show p.o + (off - p.lo) + i.toNat * sz = p.o + (off + i.toNat * sz - p.lo) by omega]
              exact .iptr _ _ g1 (fun j u hj => ⟨g3 j u hj, g4 hmul j u hj⟩) (.nil _)
            · simp at h; subst h
              refine fits_value hB hrun ?_
              rw [show p.o + (off - p.lo) + i.toNat * sz = p.o + (off + i.toNat * sz - p.lo) by omega]
              exact .ptr b _ ps p h2 h3 (by omega) (.nil _)
          · omega
        · cases h
      · cases h
    · rename_i b off n sz full e2
      rw [e2] at hx
      split at h
      · rename_i hin
        obtain ⟨hi0, hin, rfl⟩ := hin
        split at h
        · rename_i box hbx
          rcases hx.view_inv with ⟨ps, p, cap, h1, h2, h3, h4, h5, h6, _, _⟩ | ⟨A, _, h1, _⟩
          · have hidx : i.toNat * sz + sz ≤ n * sz := by
              rw [← Nat.succ_mul]; exact Nat.mul_le_mul_right _ (by omega)
            have hrun : (execOp a.eval o).run P w = .ok (.value (.pointer (some ⟨p.b, p.o + (off - p.lo) + i.toNat * sz, none⟩))) w := by
              simp [execOp, ho, Instr.indexAt, run_underlying hu, h1, hi, asIntOf, hi0, hin, run_sizeOf' hs, Addr.add_lit]
            split at h
            · rename_i hmul
              simp at h; subst h
              obtain ⟨_, vs, g1, g2, g3, g4⟩ := view_cells hB hbx h2 h3 h4 h5 (s := off + i.toNat * sz) (e := sz) (by omega) (by omega)
              refine fits_value hB hrun ?_
              rw [show p.o + (off - p.lo) + i.toNat * sz = p.o + (off + i.toNat * sz - p.lo) by omega]
              exact .iptr _ _ g1 (fun j u hj => ⟨g3 j u hj, g4 hmul j u hj⟩) (.nil _)
            · simp at h; subst h
              refine fits_value hB hrun ?_
              rw [show p.o + (off - p.lo) + i.toNat * sz = p.o + (off + i.toNat * sz - p.lo) by omega]
              exact .ptr b _ ps p h2 h3 (by omega) (.nil _)
          · omega
        · cases h
      · cases h
    · cases h
  · cases h
theorem fits_arr {t : TypeId} {x : Operand} {r : CV × List Box} (ho : o.op = .sliceToArrayPointer t x) (hB : BRel N I μ B w) (hfr : ∀ i, V I μ w (fr i) (a.tmps.getD i undef))
    (h : ev P o fr B = some r) : Fits P N I μ w o a r.1 r.2 := by
  have hx := opv_rel hfr x
  simp only [ev, ho] at h
  split at h
  · rename_i n e hu
    simp only [Option.bind_eq_some_iff] at h
    obtain ⟨esz, hs, h⟩ := h
    split at h
    · cases h
    · rename_i hn0
      split at h
      · rename_i m cs full e2
        rw [e2] at hx
        split at h
        · rename_i hin
          simp at h; subst h
          rcases hx.lst_inv with ⟨b, o', cap, vs, h1, h2, h3, _, _⟩ | ⟨A, _, h1, _⟩
          · exact fits_value hB (by simp [execOp, ho, Instr.arrayAt, run_underlying hu, h1]; omega) (.iptr b o' h2 h3 (.nil _))
          · omega
        · cases h
      · rename_i b off m sz full e2
        rw [e2] at hx
        split at h
        · rename_i hin
          obtain ⟨hin, rfl⟩ := hin
          split at h
          · rename_i box hbx
            rcases hx.view_inv with ⟨ps, p, cap, h1, h2, h3, h4, h5, h6, _, _⟩ | ⟨A, _, h1, _⟩
            · have hrun : (execOp a.eval o).run P w = .ok (.value (.pointer (some ⟨p.b, p.o + (off - p.lo), none⟩))) w := by
                simp [execOp, ho, Instr.arrayAt, run_underlying hu, h1]; omega
              split at h
              · rename_i hmul
                simp at h; subst h
                obtain ⟨_, vs, g1, g2, g3, g4⟩ := view_cells hB hbx h2 h3 h4 h5 (s := off) (e := m * sz) (Nat.le_refl _) (by omega)
                exact fits_value hB hrun (.iptr _ _ g1 (fun j u hj => ⟨g3 j u hj, g4 hmul j u hj⟩) (.nil _))
              · simp at h; subst h
                exact fits_value hB hrun (.ptr b _ ps p h2 h3 h4 (.nil _))
            · omega
          · cases h
        · cases h
      · cases h
  · cases h
theorem fits_push {cs : List CV} {cells : Array Value} {ty : TypeId} {fz : Nat × Nat} {vs rest : List Value} {w' : World} {nx : Next} {v : Value} {c : CV} (hB : BRel N I μ B w)
    (hrun : (execOp a.eval o).run P w = .ok nx w') (hnx : nxv nx = some v) (hp : w'.heap = w.heap.push (.cells cells ty fz)) (hw : w'.os = w.os ∧ w'.tape = w.tape ∧ w'.output = w.output)
    (hfz : ∀ j, j < cells.size → ¬ (fz.1 ≤ j ∧ j < fz.2)) (hr : R I μ w true cs vs) (hc : cells.toList = vs ++ rest)
    (hv : BRel N I (μ ++ [[⟨w.heap.size, 0, 0, cs.length⟩]]) (B ++ [{ cells := cs }]) w' → Free w' w.heap.size cells.size → V I (μ ++ [[⟨w.heap.size, 0, 0, cs.length⟩]]) w' c v) :
    Fits P N I μ w o a c (B ++ [{ cells := cs }]) := by
  obtain ⟨h1, h2⟩ := hB.push hp hfz hr hc
  exact ⟨nx, v, I, _, w', hrun, hnx, hv h1 ⟨cells, ty, fz, push_new hp, Nat.le_refl _, hfz⟩, h1, h2, Below.of_heap hB.low hp hw.1 hw.2.1 hw.2.2⟩
theorem last_place (hB : BRel N I μ B w) (p : Place) : (μ ++ [[p]])[B.length]? = some [p] := by
  rw [List.getElem?_append_right (by rw [hB.len]; exact Nat.le_refl _), hB.len]; simp
theorem zeros_rel {t : TypeId} {zs : List CV} (h : zerosOf P t = some zs) : ∃ z, (zeroValue t).run P w = .ok z w ∧ (P.info? t).bind (·.zero) = some z ∧ R I μ w true zs z.cells.toList := by
  unfold zerosOf at h
  simp only [Option.bind_eq_some_iff] at h
  obtain ⟨z, ⟨i, h1, h2⟩, h3⟩ := h
  exact ⟨z, by simp [zeroValue, typeInfo, h1, h2], by simp [h1, h2], cells_rel (ofV_rel I μ w z) h3⟩
theorem fits_alloc {t : TypeId} {r : CV × List Box} (ho : o.op = .alloc t) (hB : BRel N I μ B w) (h : ev P o fr B = some r) : Fits P N I μ w o a r.1 r.2 := by
  simp only [ev, ho, Option.map_eq_some_iff] at h
  obtain ⟨zs, hz, rfl⟩ := h
  obtain ⟨z, h1, _, h2⟩ := zeros_rel (I := I) (μ := μ) (w := w) hz
  refine fits_push (w' := w.alloc (.cells z.cells t)) (nx := .value (.pointer (some ⟨w.heap.size, 0, none⟩))) hB ?_ rfl rfl ⟨rfl, rfl, rfl⟩ (fun j _ hj => by omega) h2 (rest := []) (by simp) (fun _ _ => ?_)
  · simp [execOp, ho, Instr.alloc, h1, newVar, newRow]
  · exact .ptr B.length 0 _ ⟨w.heap.size, 0, 0, zs.length⟩ (last_place hB _) (by simp) (Nat.le_refl _) (.nil _)
theorem fits_box {t : TypeId} {x : Operand} {r : CV × List Box} (ho : o.op = .box t x) (hB : BRel N I μ B w) (hfr : ∀ i, V I μ w (fr i) (a.tmps.getD i undef))
    (h : ev P o fr B = some r) : Fits P N I μ w o a r.1 r.2 := by
  have hx := opv_rel hfr x
  simp only [ev, ho, Option.map_eq_some_iff] at h
  obtain ⟨cs, hc, rfl⟩ := h
  have h2 := cells_rel hx hc
  refine fits_push (w' := w.alloc (.cells (a.eval x).cells t)) (nx := .value (.pointer (some ⟨w.heap.size, 0, none⟩))) hB ?_ rfl rfl ⟨rfl, rfl, rfl⟩ (fun j _ hj => by omega) h2 (rest := []) (by simp) (fun _ _ => ?_)
  · simp [execOp, ho, Instr.box, newVar, newRow]
  · exact .ptr B.length 0 _ ⟨w.heap.size, 0, 0, cs.length⟩ (last_place hB _) (by simp) (Nat.le_refl _) (.nil _)
theorem fits_store {t : TypeId} {x y : Operand} {r : CV × List Box} (ho : o.op = .store t x y) (hB : BRel N I μ B w) (hfr : ∀ i, V I μ w (fr i) (a.tmps.getD i undef))
    (h : ev P o fr B = some r) : Fits P N I μ w o a r.1 r.2 := by
  have hx := opv_rel hfr x
  have hy := opv_rel hfr y
  simp only [ev, ho] at h
  split at h
  · rename_i b off e1
    rw [e1] at hx
    split at h
    · rename_i box vs hbx hc
      split at h
      · rename_i hcond
        obtain ⟨hm, hsz, hle⟩ := hcond
        simp at h; subst h
        have hr := cells_rel hy hc
        obtain ⟨p, us, p1, p2, p3, p4⟩ := box_ptr hB hx hbx hm
        obtain ⟨p', q1, q2, q3, q4, q5, q6, q8⟩ := one_place hB hbx hm p1 (List.mem_singleton.2 rfl)
        have : p' = p := by rw [p1] at q1; simpa using q1.symm
        subst this
        obtain ⟨w1, w2, w3⟩ := hB.write hbx hm p1 hr hle
        have hlen := hr.len
        refine ⟨.skip, undef, I, μ, _, ?_, rfl, .tup (.nil _) (.nil _), w1, w2, w3⟩
        have hst := run_storeCells_cells (P := P) p'.b (p'.o + off) (a.eval y).cells.toList 0 w (fun j hj => by
            rw [Nat.add_zero]; exact (q8.cell (by omega)).1) (fun j hj => by rw [Nat.add_zero]; exact (q8.cell (by omega)).2) hr.oneCells
        rw [Nat.add_zero] at hst
        have hsz' : (a.eval y).cells.size = vs.length := by rw [hlen]; simp
        simp [execOp, ho, Instr.storeAt, p2, Instr.sureAddr, storeVar, run_sizeOf' hsz, hsz', hst]
      · cases h
    · cases h
  · cases h
theorem fold_set (l : List Value) : ∀ (k off : Nat) (cells : Array Value), off + k + l.length ≤ cells.size →
    ((l.zipIdx k).foldl (fun cs (x : Value × Nat) => cs.setIfInBounds (off + x.2) x.1) cells).toList = cells.toList.take (off + k) ++ l ++ cells.toList.drop (off + k + l.length) := by
  induction l with
  | nil => intro k off cells _; simp
  | cons v l ih =>
    intro k off cells h
    simp only [List.length_cons] at h
    have hl : cells.toList.length = cells.size := Array.length_toList
    rw [List.zipIdx_cons, List.foldl_cons, ih (k + 1) off _ (by rw [Array.size_setIfInBounds]; omega)]
    simp only [Array.toList_setIfInBounds, List.length_cons]
    have h1 : off + k < cells.toList.length := by omega
    rw [List.take_set, List.drop_set, if_pos (by omega)]
    have e1 : (cells.toList.take (off + (k + 1))).set (off + k) v = cells.toList.take (off + k) ++ [v] := by
      have hlen : (cells.toList.take (off + k)).length = off + k := by rw [List.length_take]; omega
      rw [show off + (k + 1) = (off + k) + 1 by omega, List.take_succ_eq_append_getElem h1, List.set_append, hlen, if_neg (by omega)]
      simp
    rw [e1, show off + (k + 1) + l.length = off + k + (l.length + 1) by omega]
    simp
theorem fill_cells (vs : Array Value) (off : Nat) (cells : Array Value) (h : off + vs.size ≤ cells.size) :
    (vs.zipIdx.foldl (fun cs (x : Value × Nat) => cs.setIfInBounds (off + x.2) x.1) cells).toList = cells.toList.take off ++ vs.toList ++ cells.toList.drop (off + vs.size) := by
  rw [← Array.foldl_toList, Array.toList_zipIdx]
  have := fold_set vs.toList 0 off cells (by simpa using h)
  simpa using this
theorem fill_rel (hfr : ∀ i, V I μ w (fr i) (a.tmps.getD i undef)) {place : Nat → Option (Nat × Nat)} : ∀ (parts : List (Nat × Operand)) (cs : List CV) (cells : Array Value) (r : List CV), R I μ w true cs cells.toList →
    fillC place cs (parts.map fun p => (p.1, opv fr p.2)) = some r → ∃ cells', Instr.fill place cells (parts.map fun p => (p.1, a.eval p.2)) = some cells' ∧ R I μ w true r cells'.toList
  | [], cs, cells, r, hr, h => by
    simp [fillC] at h; subst h
    exact ⟨cells, rfl, hr⟩
  | (i, x) :: parts, cs, cells, r, hr, h => by
    simp only [List.map_cons, fillC] at h
    split at h
    · rename_i off size vs hpl hc
      split at h
      · cases h
      · rename_i hno
        have hx := cells_rel (opv_rel hfr x) hc
        have h1 := hx.len
        have h2 := hr.len
        simp at h1 h2
        have h3 : ¬ ((a.eval x).cells.size ≠ size ∨ off + (a.eval x).cells.size > cells.size) := by omega
        have hf := fill_cells (a.eval x).cells off cells (by omega)
        obtain ⟨cells', g1, g2⟩ := fill_rel hfr parts (splice cs off vs) _ r (by
          rw [hf, ← h1]
          exact ((hr.take off).append hx).append (hr.drop _)) h
        refine ⟨cells', ?_, g2⟩
        simp only [List.map_cons, Instr.fill, hpl]
        rw [if_neg (by simpa using h3)]
        exact g1
    · cases h
theorem map_toList (parts : Array (Nat × Operand)) : (parts.map fun (x : Nat × Operand) => (x.1, a.eval x.2)).toList = parts.toList.map fun p => (p.1, a.eval p.2) := by simp
theorem mapM_sizes {fs : Array Field} (h : ∀ f ∈ fs, ∃ n, szOf P f.type = some n) :
    (fs.mapM fun f => do pure (f.offset, ← sizeOf f.type) : Sem (Array (Nat × Nat))).run P w = .ok (fs.map fun f => (f.offset, P.cellsOf f.type)) w := by
  have key : ∀ (l : List Field), (∀ f ∈ l, ∃ n, szOf P f.type = some n) → (l.mapM fun f => do pure (f.offset, ← sizeOf f.type) : Sem (List (Nat × Nat))).run P w = .ok (l.map fun f => (f.offset, P.cellsOf f.type)) w := by
    intro l
    induction l with
    | nil => intro _; rfl
    | cons f l ih =>
      intro hl
      obtain ⟨n, hn⟩ := hl f (by simp)
      have hc : P.cellsOf f.type = n := by
        unfold szOf at hn
        simp [Program.cellsOf, hn]
      have := ih (fun f hf => hl f (by simp [hf]))
      rw [List.mapM_cons]
      simp only [Sem.run_bind, run_sizeOf' hn, Result.andThen_ok, Sem.run_pure, this, List.map_cons, hc]
  have h2 := key fs.toList (fun f hf => h f (by simpa using hf))
  rw [Array.mapM_eq_mapM_toList]
  simp only [Sem.run_map, h2, Result.andThen_ok]
  congr 1
  apply Array.ext'
  simp
end
end Go.Sy
end
section
namespace Go.Sy
open Go.RowKit (Below)
section
variable {P : Program} {N : Nat} {I : Nat → Nat → Prop} {μ : List (List Place)} {B : List Box} {w : World} {o : Oper} {a : Act} {fr : Fr} {c : CV}
theorem fits_build {t : TypeId} {parts : Array (Nat × Operand)} {r : CV × List Box} (ho : o.op = .build t parts) (hB : BRel N I μ B w) (hfr : ∀ i, V I μ w (fr i) (a.tmps.getD i undef))
    (h : ev P o fr B = some r) : Fits P N I μ w o a r.1 r.2 := by
  simp only [ev, ho, Option.bind_eq_some_iff] at h
  obtain ⟨zs, hz, h⟩ := h
  obtain ⟨z, h1, _, h2⟩ := zeros_rel (I := I) (μ := μ) (w := w) hz
  have hp := map_toList (a := a) parts
  split at h
  · rename_i fs hu
    split at h
    · cases h
    · rename_i hall
      simp only [Option.map_eq_some_iff] at h
      obtain ⟨cs, hc, rfl⟩ := h
      have hall' : ∀ f ∈ fs, ∃ n, szOf P f.type = some n := by
        intro f hf
        simp only [Bool.not_eq_false, List.all_eq_true] at hall
        exact Option.isSome_iff_exists.1 (hall f (by simpa using hf))
      have hm := mapM_sizes (P := P) (w := w) hall'
      have hpl : (fun (i : Nat) => (fs[i]?).bind fun (f : Field) => (szOf P f.type).map (f.offset, ·)) = fun (i : Nat) => (fs.map fun (f : Field) => (f.offset, P.cellsOf f.type))[i]? := by
        funext i
        rw [Array.getElem?_map]
        cases hf : fs[i]? with
        | none => rfl
        | some f =>
          obtain ⟨n, hn⟩ := hall' f (Array.mem_of_getElem? hf)
          have hc : P.cellsOf f.type = n := by unfold szOf at hn; simp [Program.cellsOf, hn]
          simp [hn, hc]
      rw [hpl] at hc
      obtain ⟨cells', g1, g2⟩ := fill_rel hfr parts.toList zs z.cells cs h2 hc
      rw [← hp] at g1
      refine fits_value hB (v := .agg cells') ?_ (by have := R.agg (bs := cells'.toList) g2 (.nil (I := I) (μ := μ) (w := w) false); simpa using this)
      simp only [execOp, ho, Instr.build, Sem.run_bind, h1, Result.andThen_ok, run_underlying hu, hm, g1, Sem.run_pure]
  · rename_i n e hu
    simp only [Option.bind_eq_some_iff, Option.map_eq_some_iff] at h
    obtain ⟨esz, hs, cs, hc, rfl⟩ := h
    obtain ⟨cells', g1, g2⟩ := fill_rel hfr parts.toList zs z.cells cs h2 hc
    rw [← hp] at g1
    refine fits_value hB (v := .agg cells') ?_ (by have := R.agg (bs := cells'.toList) g2 (.nil (I := I) (μ := μ) (w := w) false); simpa using this)
    simp only [execOp, ho, Instr.build, Sem.run_bind, h1, Result.andThen_ok, run_underlying hu, run_sizeOf' hs, g1, Sem.run_pure]
  · cases h
def repV (l : List Value) : Nat → List Value
  | 0 => []
  | n + 1 => l ++ repV l n
theorem repV_length (l : List Value) (n : Nat) : (repV l n).length = n * l.length := by
  induction n with
  | zero => simp [repV]
  | succ n ih => simp [repV, ih, Nat.succ_mul, Nat.add_comm]
theorem repC_length (l : List CV) (n : Nat) : (repC l n).length = n * l.length := by
  induction n with
  | zero => simp [repC]
  | succ n ih => simp [repC, ih, Nat.succ_mul, Nat.add_comm]
theorem repV_add (l : List Value) (m n : Nat) : repV l (m + n) = repV l m ++ repV l n := by
  induction m with
  | zero => simp [repV]
  | succ m ih => rw [Nat.succ_add]; simp [repV, ih]
theorem rep_rel {zs : List CV} {l : List Value} (h : R I μ w true zs l) (n : Nat) : R I μ w true (repC zs n) (repV l n) := by
  induction n with
  | zero => exact .nil _
  | succ n ih => exact h.append ih
theorem zero_row (z : Array Value) (n : Nat) : ((Array.range (n * z.size)).map (fun i => z[i % z.size]!)).toList = repV z.toList n := by
  rw [Array.toList_map, Array.toList_range]
  induction n with
  | zero => simp [repV]
  | succ n ih =>
    rw [Nat.succ_mul, Nat.add_comm, List.range_add, List.map_append, repV, ← ih]
    congr 1
    · apply List.ext_getElem
      · simp
      · intro i h1 h2
        have hi : i < z.size := by simpa using h1
        simp [Nat.mod_eq_of_lt hi, hi]
    · simp [List.map_map, Function.comp_def]
theorem fillC_length {place : Nat → Option (Nat × Nat)} : ∀ {parts : List (Nat × CV)} {cells cs : List CV}, fillC place cells parts = some cs → cs.length = cells.length
  | [], cells, cs, h => by simp [fillC] at h; rw [h]
  | (i, c) :: parts, cells, cs, h => by
    unfold fillC at h
    split at h
    · split at h
      · cases h
      · rename_i hc
        rw [fillC_length h]; simp [splice]; omega
    · cases h
theorem fits_buildSlice {t : TypeId} {n : Nat} {parts : Array (Nat × Operand)} {r : CV × List Box} (ho : o.op = .buildSlice t n parts) (hB : BRel N I μ B w) (hfr : ∀ i, V I μ w (fr i) (a.tmps.getD i undef))
    (h : ev P o fr B = some r) : Fits P N I μ w o a r.1 r.2 := by
  simp only [ev, ho, Option.bind_eq_some_iff] at h
  obtain ⟨e, he, esz, hs, h⟩ := h
  split at h
  · cases h
  · rename_i hle
    simp only [Option.bind_eq_some_iff] at h
    obtain ⟨zs, hz, h⟩ := h
    split at h
    · cases h
    · rename_i hzl
      simp only [Option.map_eq_some_iff] at h
      obtain ⟨cs, hc, rfl⟩ := h
      obtain ⟨z, h1, _, h2⟩ := zeros_rel (I := I) (μ := μ) (w := w) hz
      have hzs : z.cells.size = esz := by have := h2.len; simp at this; omega
      have hu := elemT_some he
      have hrow := zero_row z.cells n
      rw [hzs] at hrow
      have hp := map_toList (a := a) parts
      have hcells : ∃ cells0 : Array Value, cells0 = (Array.range (n * esz)).map (fun i => (if n * esz = 0 then #[] else z.cells)[i % (if n * esz = 0 then (#[] : Array Value) else z.cells).size]!) ∧ cells0.toList = repV z.cells.toList n := by
        refine ⟨_, rfl, ?_⟩
        by_cases h0 : n * esz = 0
        · have hn0 : n = 0 := by
            rcases Nat.mul_eq_zero.1 h0 with h0 | h0
            · exact h0
            · omega
          subst hn0
          simp [repV]
        · simp only [if_neg h0, hzs]
          exact hrow
      obtain ⟨cells0, e0, e1⟩ := hcells
      obtain ⟨cells', g1, g2⟩ := fill_rel hfr parts.toList (repC zs n) cells0 cs (by rw [e1]; exact rep_rel h2 n) hc
      rw [← hp] at g1
      by_cases hbx : boxedT t = true
      · rw [if_pos hbx]
        have hcl : cs.length = n * esz := by
          have := g2.len
          have hz2 := fillC_length hc
          rw [hz2, repC_length, Decidable.not_not.1 hzl]
        obtain ⟨b1, b2⟩ := hB.push (w' := w.alloc (.cells cells' e)) (cells := cells') (ty := e) (fz := (0, 0)) rfl (fun j _ hj => by omega) (rest := []) g2 (by simp)
        refine ⟨.value (.slice (some ⟨w.heap.size, 0, none⟩) n n), .slice (some ⟨w.heap.size, 0, none⟩) n n, _, _, w.alloc (.cells cells' e), ?_, rfl, ?_, b1, b2, Below.of_heap hB.low rfl rfl rfl rfl⟩
        · have h24 : ¬ (n * esz > 2 ^ 24) := by omega
          by_cases h0 : n * esz = 0
          · simp only [if_pos h0] at e0
            simp only [execOp, ho, Instr.buildSlice, Sem.run_bind, run_underlying hu, Result.andThen_ok, run_sizeOf' hs, if_neg h24, Sem.run_pure, if_pos h0, ← e0, g1]
            simp [newRow]
          · simp only [if_neg h0] at e0
            simp only [execOp, ho, Instr.buildSlice, Sem.run_bind, run_underlying hu, Result.andThen_ok, run_sizeOf' hs, if_neg h24, Sem.run_pure, if_neg h0, h1, ← e0, g1]
            simp [newRow]
        · have hv := R.cview (I := I) (w := w.alloc (.cells cells' e)) (one := false) B.length 0 n n esz _ ⟨w.heap.size, 0, 0, cs.length⟩ (last_place hB _) (List.mem_singleton.2 rfl) (Nat.le_refl _) (by show 0 + n * esz ≤ cs.length; omega) (Nat.le_refl _) ⟨_, e, push_new rfl⟩ (.nil _)
          simpa using hv
      rw [if_neg hbx]
      obtain ⟨b1, b2⟩ := hB.fresh (w' := w.alloc (.cells cells' e)) (cells := cells') (ty := e) (fz := (0, 0)) rfl
      refine ⟨.value (.slice (some ⟨w.heap.size, 0, none⟩) n n), .slice (some ⟨w.heap.size, 0, none⟩) n n, _, _, w.alloc (.cells cells' e), ?_, rfl, ?_, b1, b2, Below.of_heap hB.low rfl rfl rfl rfl⟩
      · have h24 : ¬ (n * esz > 2 ^ 24) := by omega
        by_cases h0 : n * esz = 0
        · simp only [if_pos h0] at e0
          simp only [execOp, ho, Instr.buildSlice, Sem.run_bind, run_underlying hu, Result.andThen_ok, run_sizeOf' hs, if_neg h24, Sem.run_pure, if_pos h0, ← e0, g1]
          simp [newRow]
        · simp only [if_neg h0] at e0
          simp only [execOp, ho, Instr.buildSlice, Sem.run_bind, run_underlying hu, Result.andThen_ok, run_sizeOf' hs, if_neg h24, Sem.run_pure, if_neg h0, h1, ← e0, g1]
          simp [newRow]
      · refine .lst n true w.heap.size 0 n (g2.ext b2.toKeep) (fun j v hj => ⟨?_, .inr rfl⟩) (Nat.le_refl _) (fun _ => rfl) (.nil _)
        simp only [World.cell?, push_new (alloc_heap w _), Nat.zero_add]
        simpa using hj
theorem fits_makeSlice {t : TypeId} {x y : Operand} {r : CV × List Box} (ho : o.op = .makeSlice t x y) (hB : BRel N I μ B w) (hfr : ∀ i, V I μ w (fr i) (a.tmps.getD i undef))
    (h : ev P o fr B = some r) : Fits P N I μ w o a r.1 r.2 := by
  have hx := opv_rel hfr x
  have hy := opv_rel hfr y
  simp only [ev, ho, Option.bind_eq_some_iff] at h
  obtain ⟨e, he, esz, hs, zs, hz, h⟩ := h
  split at h
  · cases h
  · rename_i hzl
    split at h
    · rename_i k l k' c e1 e2
      rw [e1] at hx
      rw [e2] at hy
      have hx := hx.int_inv
      have hy := hy.int_inv
      split at h
      · rename_i hcond
        obtain ⟨hl0, hlc, hc40, hby⟩ := hcond
        simp at h; subst h
        obtain ⟨z, h1, hz1, h2⟩ := zeros_rel (I := I) (μ := μ) (w := w) hz
        have hzs : z.cells.size = esz := by have := h2.len; simp at this; omega
        have hu := elemT_some he
        obtain ⟨ln, rfl⟩ : ∃ n : Nat, l = n := ⟨l.toNat, by omega⟩
        obtain ⟨cn, rfl⟩ : ∃ n : Nat, c = n := ⟨c.toNat, by omega⟩
        have hwl : IntKind.i64.wrap (ln : Int) = ln := IntWalk.i64_in _ (by omega)
        have hwc : IntKind.i64.wrap (cn : Int) = cn := IntWalk.i64_in _ (by omega)
        have hrow := zero_row z.cells cn
        rw [hzs] at hrow
        have hcells : ∃ cells0 : Array Value, cells0 = (Array.range (cn * esz)).map (fun i => (if cn * esz = 0 then #[] else z.cells)[i % (if cn * esz = 0 then (#[] : Array Value) else z.cells).size]!) ∧ cells0.toList = repV z.cells.toList cn := by
          refine ⟨_, rfl, ?_⟩
          by_cases h0 : cn * esz = 0
          · have : (repV z.cells.toList cn) = [] := List.eq_nil_of_length_eq_zero (by rw [repV_length]; simpa [hzs] using h0)
            simp [h0, this]
          · simp only [if_neg h0, hzs]
            exact hrow
        obtain ⟨cells0, e0, e3⟩ := hcells
        have hsz : cells0.size = cn * esz := by rw [← Array.length_toList, e3, repV_length]; simp [hzs]
        obtain ⟨i, hi⟩ : ∃ i, P.info? e = some i := by
          unfold szOf at hs
          simp only [Option.map_eq_some_iff] at hs
          obtain ⟨i, hi, _⟩ := hs
          exact ⟨i, hi⟩
        have hbo : P.bytesOf e = i.bytes := by simp [Program.bytesOf, hi]
        rw [hbo] at hby
        refine fits_push (w' := w.alloc (.cells cells0 e)) (nx := .value (.slice (some ⟨w.heap.size, 0, none⟩) ln cn)) (rest := repV z.cells.toList (cn - ln)) hB ?_ rfl rfl ⟨rfl, rfl, rfl⟩ (fun j _ hj => by omega) (rep_rel h2 ln) ?_ (fun _ hfree => ?_)
        · have hL1 : ¬ (281474976710656 < (i.bytes : Int) * (cn : Int)) := by omega
          have hcn : ¬ ((cn : Int) < 0) := by omega
          have hln : ¬ ((ln : Int) < 0) := by omega
          have hlc' : ¬ ((cn : Int) < (ln : Int)) := by omega
          by_cases h0 : cn * esz = 0
          · simp only [if_pos h0] at e0
            have e0' : cells0 = #[] := by apply Array.ext'; rw [e3]; exact List.eq_nil_of_length_eq_zero (by rw [repV_length]; simpa [hzs] using h0)
            simp [execOp, ho, Instr.makeSlice, run_underlying hu, hx, hy, asInt, asIntOf, typeInfo, hi, hwl, hwc, hL1, run_sizeOf' hs, h0, newRow, e0', hcn, hln, hlc', show Array.range 0 = #[] from rfl]
          · simp only [if_neg h0] at e0
            simp [execOp, ho, Instr.makeSlice, run_underlying hu, hx, hy, asInt, asIntOf, typeInfo, hi, hwl, hwc, hL1, run_sizeOf' hs, h0, newRow, h1, e0, hcn, hln, hlc']
        · rw [e3, ← repV_add]
          congr 1
          omega
        · have hz3 : zs.length = esz := by omega
          have hv := R.view (I := I) (w := w.alloc (.cells cells0 e)) (one := false) B.length 0 ln esz (decide ((ln : Int) = cn)) [⟨w.heap.size, 0, 0, (repC zs ln).length⟩] ⟨w.heap.size, 0, 0, (repC zs ln).length⟩ cn (last_place hB _) (List.mem_singleton.2 rfl) (Nat.le_refl _)
            (by rw [repC_length, hz3, Nat.zero_add]; exact Nat.le_refl _) (by omega) (fun hd => by have := of_decide_eq_true hd; omega) (by simpa [hsz] using hfree) (.nil _)
          simpa using hv
      · cases h
    · cases h
end
end Go.Sy
end
section
namespace Go.Sy
open Go.RowKit (Below)
section
variable {P : Program} {N : Nat} {I : Nat → Nat → Prop} {μ : List (List Place)} {B : List Box} {w : World} {o : Oper} {a : Act} {fr : Fr} {c : CV}
theorem szOf_info {t : TypeId} {n : Nat} (h : szOf P t = some n) : ∃ i, P.info? t = some i ∧ i.size = n := by
  unfold szOf at h
  simpa using h
theorem run_call_builtin {b : Builtin} {args : Array Operand} {ts : Array TypeId} {v : Value} {w' : World} (ho : o.op = .call { callee := .builtin b, args, argTypes := ts })
    (hr : (builtin b ts o.type (args.map fun | .const _ => true | _ => false) (args.map a.eval)).run P w = .ok (.value v) w') : (execOp a.eval o).run P w = .ok (.value v) w' := by
  simp only [execOp, ho, resolve, Sem.run_bind, Sem.run_pure, Result.andThen_ok, invoke]
  exact hr
theorem run_call_append {t tx : TypeId} {s x : Operand} {sv v : Value} {w' : World} (ho : o.op = .call { callee := .builtin .append, args := #[s, x], argTypes := #[t, tx] }) (h1 : a.eval s = sv)
    (hr : (Builtin.append_ #[t, tx] o.type #[sv, a.eval x]).run P w = .ok v w') : (execOp a.eval o).run P w = .ok (.value v) w' :=
  run_call_builtin ho (by simp [builtin, h1, hr])
theorem run_append_zero {t tx ty e : TypeId} {size : Nat} {A : Option Addr} {n cap : Nat} {x : Value} (ht : P.underlying t = some (.slice e)) (hs : szOf P e = some size) (hsrc : Src P size tx x 0 [] w) (hn : n ≤ cap) :
    (Builtin.append_ #[t, tx] ty #[.slice A n cap, x]).run P w = .ok (.slice A n cap) w := by
  have hc := hsrc.cells
  rcases hsrc.kind with ⟨e', hk⟩ | hk <;> cases A <;>
    simp [Builtin.append_, run_underlying ht, run_underlying hk, run_sizeOf' hs, hsrc.len, hn, hc, storeCells]
theorem wrap_i64' (n : Int) : IntKind.i64.wrap n = (n + 9223372036854775808) % 18446744073709551616 - 9223372036854775808 := IntKind.wrap_i64 n
theorem run_append_grow_zeros (w : World) (t tn ty e : TypeId) (i : TypeInfo) (z : Value) (kn k : IntKind) (ht : P.underlying t = some (.slice e)) (htn : P.underlying tn = some (.int kn)) (hi : P.info? e = some i) (hz : i.zero = some z) (base : Option Addr) (sLen sCap : Nat) (olds : List Value)
    (hold : (Builtin.firstCells i.size sLen (.slice base sLen sCap)).run P w.drew = .ok olds.toArray w.drew) (n : Nat) (hn0 : 0 < n) (hs : 0 < i.size)
    (hg : sCap < sLen + n) (h63 : ((sLen + n : Nat) : Int) ≤ 9223372036854775807) (h48 : (sLen + n) * i.bytes ≤ 140737488355328) :
    (Builtin.append_ #[t, tn] ty #[.slice base sLen sCap, .int k n]).run P w =
      .ok (.slice (some ⟨w.heap.size, 0, none⟩) (sLen + n) (grownCap w (sLen + n) sCap e))
        (w.drew.alloc (.cells (olds.toArray ++ Builtin.zeroCells z.cells n ++ Builtin.zeroCells z.cells (grownCap w (sLen + n) sCap e - (sLen + n))) e)) := by
  have hn : ¬ (sLen + n ≤ sCap) := by omega
  have hn' : n ≠ 0 := by omega
  have hw : IntKind.i64.wrap (n : Int) = n := by rw [wrap_i64']; omega
  have h63' : ¬ (9223372036854775807 < ((sLen : Int) + (n : Int))) := by omega
  have hfit := growslice_fits hg h48
  have h48' : ¬ (281474976710656 < Builtin.nextslicecap (sLen + n) sCap * i.bytes) := by omega
  have hle : n * i.bytes ≤ (sLen + n) * i.bytes := Nat.mul_le_mul_right _ (by omega)
  have h48i : ¬ (281474976710656 < (n : Int) * (i.bytes : Int)) := by rw [← Int.natCast_mul]; omega
  have hneg : ¬ ((n : Int) < 0) := by omega
  have hns : ¬ (n * i.size = 0) := Nat.mul_ne_zero hn' (by omega)
  simp [Builtin.append_, run_underlying ht, run_underlying htn, sizeOf, typeInfo, zeroValue, hi, hz, asInt, asIntOf, hw, hn, hn', hneg, hns, h63', h48', h48i, Question.forced, hold, newRow, grownCap]
theorem repV_mem {l : List Value} {u : Value} : ∀ {n : Nat}, u ∈ repV l n → u ∈ l
  | 0, h => by simp [repV] at h
  | n + 1, h => by
    simp only [repV, List.mem_append] at h
    rcases h with h | h
    · exact h
    · exact repV_mem h
structure ASrc (P : Program) (t tx ty e : TypeId) (i : TypeInfo) (x : Value) (m : Nat) (vs : List Value) (w : World) : Prop where
  newsLen : vs.length = m * i.size
  zero : m = 0 → ∀ (A : Option Addr) (n cap : Nat), n ≤ cap → (Builtin.append_ #[t, tx] ty #[.slice A n cap, x]).run P w = .ok (.slice A n cap) w
  room : 0 < m → ∀ (b off sLen sCap : Nat), sLen + m ≤ sCap → (sLen + m) * i.bytes ≤ 140737488355328 → sLen + m ≤ 140737488355328 → (∀ j, j < vs.length → (w.cell? ⟨b, off + sLen * i.size + j, none⟩).isSome = true) → (∀ j, j < vs.length → w.frozen? ⟨b, off + sLen * i.size + j, none⟩ = false) →
    (Builtin.append_ #[t, tx] ty #[.slice (some ⟨b, off, none⟩) sLen sCap, x]).run P w = .ok (.slice (some ⟨b, off, none⟩) (sLen + m) sCap) (w.setCells b (off + sLen * i.size) vs)
  grow : 0 < m → ∀ (z : Value), i.zero = some z → ∀ (base : Option Addr) (sLen sCap : Nat) (olds : List Value), (Builtin.firstCells i.size sLen (.slice base sLen sCap)).run P w.drew = .ok olds.toArray w.drew → sCap < sLen + m → (sLen + m) * i.bytes ≤ 140737488355328 → sLen + m ≤ 140737488355328 →
    (Builtin.append_ #[t, tx] ty #[.slice base sLen sCap, x]).run P w = .ok (.slice (some ⟨w.heap.size, 0, none⟩) (sLen + m) (grownCap w (sLen + m) sCap e))
      (w.drew.alloc (.cells ((olds ++ vs).toArray ++ Builtin.zeroCells z.cells (grownCap w (sLen + m) sCap e - (sLen + m))) e))
theorem ASrc.of {t tx ty e : TypeId} {i : TypeInfo} {x : Value} {m : Nat} {vs : List Value} (ht : P.underlying t = some (.slice e)) (hi : P.info? e = some i) (src : Src P i.size tx x m vs w) : ASrc P t tx ty e i x m vs w := by
  refine ⟨src.newsLen, fun hm A n cap hn => ?_, fun _ b off sLen sCap h1 _ _ h2 h3 => run_append_room_src (P := P) w t tx ty e i ht hi b off sLen sCap x m vs src h1 h2 h3,
    fun _ z hz base sLen sCap olds h1 h2 h3 h4 => run_append_grow_src (P := P) w t tx ty e i z ht hi hz base sLen sCap olds h1 x m vs src h2 (by omega) (growslice_fits h2 h3)⟩
  subst hm
  have hnil : vs = [] := List.eq_nil_of_length_eq_zero (by rw [src.newsLen]; simp)
  subst hnil
  exact run_append_zero ht (by simp [szOf, hi]) src hn
theorem ASrc.zeros {t tx ty e : TypeId} {i : TypeInfo} {z0 : Value} {kn k : IntKind} {m : Nat} (ht : P.underlying t = some (.slice e)) (htn : P.underlying tx = some (.int kn)) (hi : P.info? e = some i) (hz0 : i.zero = some z0) (hsz : z0.cells.size = i.size) (hs0 : 0 < i.size)
    (hone : ∀ u ∈ z0.cells.toList, u.oneCell' = true) : ASrc P t tx ty e i (.int k m) m (repV z0.cells.toList m) w := by
  have hlen : (repV z0.cells.toList m).length = m * i.size := by rw [repV_length]; simp [hsz]
  have hrow : (Builtin.zeroCells z0.cells m).toList = repV z0.cells.toList m := zero_row z0.cells m
  refine ⟨hlen, fun hm A n cap hn => ?_, fun hm b off sLen sCap h1 h48 h63 hc hf => ?_, fun hm z hz base sLen sCap olds h1 h2 h48 h63 => ?_⟩
  · subst hm
    have hw : IntKind.i64.wrap 0 = 0 := by rw [wrap_i64']; rfl
    cases A <;> simp [Builtin.append_, run_underlying ht, run_underlying htn, sizeOf, typeInfo, hi, asInt, asIntOf, hw, hn, storeCells]
  · have hst := run_storeCells_cells (P := P) b (off + sLen * i.size) (repV z0.cells.toList m) 0 w (by simpa using hc) (by simpa using hf) (fun u hu => hone u (repV_mem hu))
    simp only [Nat.add_zero] at hst
    have hn' : m ≠ 0 := by omega
    have hw : IntKind.i64.wrap (m : Int) = m := by rw [wrap_i64']; omega
    have hle : m * i.bytes ≤ (sLen + m) * i.bytes := Nat.mul_le_mul_right _ (by omega)
    have h48i : ¬ (281474976710656 < (m : Int) * (i.bytes : Int)) := by rw [← Int.natCast_mul]; omega
    have hneg : ¬ ((m : Int) < 0) := by omega
    have hns : ¬ (m * i.size = 0) := Nat.mul_ne_zero hn' (by omega)
    simp [Builtin.append_, run_underlying ht, run_underlying htn, sizeOf, typeInfo, zeroValue, hi, hz0, asInt, asIntOf, hw, hn', hneg, hns, h48i, h1, hrow, Addr.add_lit, hst]
  · have : z = z0 := by rw [hz0] at hz; simpa using hz.symm
    subst this
    rw [run_append_grow_zeros (P := P) w t tx ty e i z kn k ht htn hi hz base sLen sCap olds h1 m hm hs0 h2 (by omega) h48]
    congr 3
    apply Array.ext'
    simp [hrow]
theorem fits_appendM {t tx e : TypeId} {i : TypeInfo} {z : Value} {s x : Operand} {m : Nat} {news : List CV} {vs : List Value} {r : CV × List Box} (ho : o.op = .call { callee := .builtin .append, args := #[s, x], argTypes := #[t, tx] }) (hB : BRel N I μ B w) (hs : V I μ w (opv fr s) (a.eval s))
    (hi : P.info? e = some i) (hiz : i.zero = some z) (hzs : z.cells.size = i.size) (hzs' : ¬ i.size = 0) (hvs : R I μ w true news vs) (src : ASrc P t tx o.type e i (a.eval x) m vs w)
    (h : appendM P e i.size B (opv fr s) m news = some r) : Fits P N I μ w o a r.1 r.2 := by
  have hby : P.bytesOf e = i.bytes := by simp [Program.bytesOf, hi]
  have hvl := hvs.len
  have hnl := src.newsLen
  unfold appendM at h
  split at h
  · rename_i hm
    split at h
    · rename_i e1
      rw [e1] at hs h
      simp at h; subst h
      have h1 := hs.nilS_inv
      exact fits_value hB (v := a.eval s) (run_call_builtin ho (by simp [builtin, h1, src.zero hm _ _ _ (Nat.le_refl 0)])) hs
    · rename_i n cs full e1
      rw [e1] at hs h
      simp at h; subst h
      rcases hs.lst_inv with ⟨b, o', cap, us, h1, _, _, h2, _⟩ | ⟨A, h1, _, _⟩
      · exact fits_value hB (v := a.eval s) (run_call_builtin ho (by simp [builtin, h1, src.zero hm _ _ _ h2])) hs
      · exact fits_value hB (v := a.eval s) (run_call_builtin ho (by simp [builtin, h1, src.zero hm _ _ _ (Nat.le_refl 0)])) hs
    · rename_i b off n sz full e1
      rw [e1] at hs h
      simp at h; subst h
      rcases hs.view_inv with ⟨ps, p, cap, h1, _, _, _, _, h2, _, _⟩ | ⟨A, h1, _, _⟩
      · exact fits_value hB (v := a.eval s) (run_call_builtin ho (by simp [builtin, h1, src.zero hm _ _ _ h2])) hs
      · exact fits_value hB (v := a.eval s) (run_call_builtin ho (by simp [builtin, h1, src.zero hm _ _ _ (Nat.le_refl 0)])) hs
    · rename_i b off n cap sz e1
      rw [e1] at hs h
      simp at h; subst h
      rcases hs.cview_inv with ⟨ps, p, h1, _, _, _, _, h2, _⟩ | ⟨A, h1, _, _, _⟩
      · exact fits_value hB (v := a.eval s) (run_call_builtin ho (by simp [builtin, h1, src.zero hm _ _ _ h2])) hs
      · exact fits_value hB (v := a.eval s) (run_call_builtin ho (by simp [builtin, h1, src.zero hm _ _ _ (Nat.le_refl 0)])) hs
    · cases h
  · rename_i hm
    have hmp : 0 < m := by omega
    have grow : ∀ (A : Option Addr) (n cap : Nat) (olds : List CV) (us : List Value), a.eval s = .slice A n cap → cap < n + m → R I μ w true olds us → us.length = n * i.size →
        (us = [] ∨ ∃ b o, A = some ⟨b, o, none⟩ ∧ ∀ j u, us[j]? = some u → w.cell? ⟨b, o + j, none⟩ = some u) → (n + m) * i.bytes ≤ 140737488355328 → n + m ≤ 140737488355328 →
        Fits P N I μ w o a (.view B.length 0 (n + m) i.size false) (B ++ [{ cells := olds ++ news }]) := by
      intro A n cap olds us h1 h2 h3 h4 h5 h6 h7
      have hrun := src.grow hmp z hiz A n cap us (run_firstCells' (w := w.drew) (P := P) h4 (by
        rcases h5 with h5 | ⟨b, o, h5, h8⟩
        · exact .inl h5
        · exact .inr ⟨b, o, h5, fun j u hj => h8 j u hj⟩)) h2 h6 h7
      have hcap := grownCap_ge w (n + m) cap e
      have holds := h3.len
      refine fits_push (w' := w.drew.alloc (.cells ((us ++ vs).toArray ++ Builtin.zeroCells z.cells (grownCap w (n + m) cap e - (n + m))) e)) (rest := (Builtin.zeroCells z.cells (grownCap w (n + m) cap e - (n + m))).toList) hB
        (run_call_append ho h1 hrun) rfl rfl ⟨rfl, rfl, rfl⟩ (fun j _ hj => by omega) (h3.append hvs) (by simp) (fun _ hf => ?_)
      have hk2 : (olds ++ news).length = (n + m) * i.size := by rw [List.length_append, holds, hvl, h4, hnl, Nat.add_mul]
      refine .view B.length 0 (n + m) i.size false _ ⟨w.heap.size, 0, 0, (olds ++ news).length⟩ (grownCap w (n + m) cap e) (last_place hB _) (List.mem_singleton.2 rfl) (Nat.le_refl _) (by show 0 + (n + m) * i.size ≤ (olds ++ news).length; rw [hk2]; omega) hcap (by simp) (hf.less ?_) (.nil _)
      simp only [Array.size_append, List.size_toArray, List.length_append, size_zeroCells, hzs, h4, hnl, ← Nat.add_mul]
      have : n + m + (grownCap w (n + m) cap e - (n + m)) = grownCap w (n + m) cap e := by omega
      rw [this]; omega
    split at h
    · rename_i e1
      rw [e1] at hs
      have h1 := hs.nilS_inv
      split at h
      · rename_i hb
        simp at h; subst h
        have := grow none 0 0 [] [] h1 (by omega) (.nil _) (by simp) (.inl rfl) (by rw [Nat.zero_add, ← hby]; exact hb.1) (by omega)
        simpa using this
      · cases h
    · rename_i n cs e1
      rw [e1] at hs
      split at h
      · rename_i hb
        simp at h; subst h
        rcases hs.lst_inv with ⟨b, o', cap, us, h1, h2, h3, h4, h5⟩ | ⟨A, h1, rfl, rfl⟩
        · have hc := h5 rfl
          subst hc
          exact grow _ cap cap cs us h1 (by omega) h2 (by rw [← h2.len]; exact hb.2.2) (.inr ⟨b, o', rfl, fun j u hj => (h3 j u hj).1⟩) (by rw [← hby]; exact hb.1) hb.2.1
        · exact grow A 0 0 [] [] h1 (by omega) (.nil _) (by simp) (.inl rfl) (by rw [← hby]; exact hb.1) hb.2.1
      · cases h
    · rename_i b off n sz full e1
      rw [e1] at hs
      split at h
      · cases h
      · rename_i box hbx
        split at h
        · rename_i hb
          obtain ⟨rfl, hb1, hb2⟩ := hb
          split at h
          · rename_i hfull
            simp at h; subst h
            rcases hs.view_inv with ⟨ps, p, cap, h1, h2, h3, h4, h5, h6, h7, h8⟩ | ⟨A, h1, rfl, _⟩
            · have hc := h7 hfull
              subst hc
              obtain ⟨_, us, g1, g2, g3, _⟩ := view_cells hB hbx h2 h3 h4 h5 (s := off) (e := cap * i.size) (Nat.le_refl _) (Nat.le_refl _)
              exact grow _ cap cap _ us h1 (by omega) g1 g2 (.inr ⟨_, _, rfl, g3⟩) (by rw [← hby]; exact hb1) hb2
            · have := grow A 0 0 [] [] h1 (by omega) (.nil _) (by simp) (.inl rfl) (by rw [← hby]; exact hb1) hb2
              simpa using this
          · split at h
            · rename_i hend
              simp at h; subst h
              have hnews0 : 0 < news.length := by
                rw [hvl, hnl]; exact Nat.mul_pos (by omega) (by omega)
              have grow2 : ∀ (A : Option Addr) (cap : Nat) (us : List Value) (ps : List Place), a.eval s = .slice A n cap → cap < n + m → R I μ w true (box.cells.drop off) us → us.length = n * i.size → μ[b]? = some ps → ps ≠ [] →
                  (us = [] ∨ ∃ b o, A = some ⟨b, o, none⟩ ∧ ∀ j u, us[j]? = some u → w.cell? ⟨b, o + j, none⟩ = some u) →
                  Fits P N I μ w o a (.view b off (n + m) i.size false) (B.set b { cells := box.cells ++ news, multi := true }) := by
                intro A cap us ps h1 h2 h3 h4 hps hne h5
                have hrun := src.grow hmp z hiz A n cap us (run_firstCells' (w := w.drew) (P := P) h4 (by
                  rcases h5 with h5 | ⟨b, o, h5, h8⟩
                  · exact .inl h5
                  · exact .inr ⟨b, o, h5, fun j u hj => h8 j u hj⟩)) h2 (by rw [← hby]; exact hb1) hb2
                have hcap := grownCap_ge w (n + m) cap e
                generalize grownCap w (n + m) cap e = cap' at hrun hcap
                have hcell : ((us ++ vs).toArray ++ Builtin.zeroCells z.cells (cap' - (n + m))).size = cap' * i.size := by
                  simp only [Array.size_append, List.size_toArray, List.length_append, size_zeroCells, hzs, h4, hnl, ← Nat.add_mul]
                  congr 1; omega
                have hcm : (n + m) * i.size ≤ cap' * i.size := Nat.mul_le_mul_right _ hcap
                have hadd : (n + m) * i.size = n * i.size + m * i.size := Nat.add_mul _ _ _
                generalize hW : w.drew.alloc (.cells ((us ++ vs).toArray ++ Builtin.zeroCells z.cells (cap' - (n + m))) e) = W at hrun
                have hp : W.heap = w.heap.push (.cells ((us ++ vs).toArray ++ Builtin.zeroCells z.cells (cap' - (n + m))) e) := by rw [← hW]; rfl
                have hbel : Below N w W := Below.of_heap hB.low hp (by rw [← hW]; rfl) (by rw [← hW]; rfl) (by rw [← hW]; rfl)
                have hfree : Free W w.heap.size (cap' * i.size) := ⟨_, e, (0, 0), push_new hp, by rw [hcell]; exact Nat.le_refl _, fun j _ hj => by omega⟩
                have hbl : n * i.size = box.cells.length - off := by rw [← h4, ← h3.len]; simp
                obtain ⟨g1, g2⟩ := hB.grown (q := ⟨w.heap.size, off, 0, box.cells.length + news.length⟩) hbx hps hne hnews0 hbel (fun b _ h _ => (push_old hp (Array.getElem?_eq_some_iff.1 h).1).trans h) (fun b n hf => hf.of_same (push_old hp hf.lt)) (fun b hf => hf.of_same (push_old hp hf.lt)) (fun b j hbs _ => cell_same (push_old hp hbs)) (.inl ⟨rfl, rfl⟩)
                  (by show off ≤ box.cells.length; omega) rfl (hfree.less (by simp only; omega)) h3 hvs (fun j v hj => by
                    simp only [World.cell?, push_new hp, Nat.zero_add]
                    simp only [Option.isSome_none, Bool.false_eq_true, if_false]
                    rw [← Array.getElem?_toList, Array.toList_append, List.getElem?_append_left (by have := (List.getElem?_eq_some_iff.1 hj).1; simpa using this)]
                    simpa using hj)
                refine ⟨_, _, _, _, W, run_call_append ho h1 hrun, rfl, ?_, g1, g2, hbel⟩
                have hbμ : b < μ.length := (List.getElem?_eq_some_iff.1 hps).1
                have hv := R.view (I := pub I (⟨w.heap.size, off, 0, box.cells.length + news.length⟩ :: ps)) (w := W) (μ := μ.set b (⟨w.heap.size, off, 0, box.cells.length + news.length⟩ :: ps)) (one := false) b off (n + m) i.size false
                  (⟨w.heap.size, off, 0, box.cells.length + news.length⟩ :: ps) ⟨w.heap.size, off, 0, box.cells.length + news.length⟩ cap' (by simp [hbμ]) (by simp) (Nat.le_refl _) (by simp only; omega) hcap (by simp) (by simpa using hfree) (.nil _)
                simpa using hv
              rcases hs.view_inv with ⟨ps, p, cap, h1, h2, h3, h4, h5, h6, h7, h8⟩ | ⟨A, h1, rfl, h2⟩
              · obtain ⟨hkl, us, g1, g2, g3, _⟩ := view_cells hB hbx h2 h3 h4 h5 (s := off) (e := n * i.size) (Nat.le_refl _) (Nat.le_refl _)
                rw [List.take_of_length_le (by simp; omega)] at g1
                by_cases hroom : n + m ≤ cap
                · 
                  have hmk : n * i.size + m * i.size ≤ cap * i.size := by rw [← Nat.add_mul]; exact Nat.mul_le_mul_right _ hroom
                  have hpo : p.o + (off - p.lo) + n * i.size = p.o + (box.cells.length - p.lo) := by omega
                  have hrun := src.room hmp p.b (p.o + (off - p.lo)) n cap hroom (by rw [← hby]; exact hb1) hb2 (fun j hj => (h8.cell (by omega)).1) (fun j hj => (h8.cell (by omega)).2)
                  obtain ⟨c0, c1, ⟨ws, c2, c3⟩, c4⟩ := place_cells hB hbx h2 h3
                  have hpk : p.k = box.cells.length := by omega
                  have c2' : R I μ w true (box.cells.drop p.lo) ws := by rw [hpk, List.take_of_length_le (Nat.le_refl _)] at c2; exact c2
                  have hwl := c2'.len
                  rw [hpo] at hrun
                  have hfr' : Free w p.b (p.o + (box.cells.length - p.lo) + vs.length) := h8.less (by omega)
                  obtain ⟨g4, g5⟩ := hB.grown (w' := w.setCells p.b (p.o + (box.cells.length - p.lo)) vs) (q := ⟨p.b, p.lo, p.o, box.cells.length + news.length⟩) hbx h2 (List.ne_nil_of_mem h3) hnews0 (setCells_below vs (hB.places b ps p h2 h3).1 w) (setCells_oth vs _ _ w (hB.places b ps p h2 h3).2.2.cells) (fun b n hf => setCells_free vs _ _ w hf) (fun b hf => setCells_whole vs _ _ w hf)
                    (fun b' j _ hj => setCells_out vs w (fun hbb => by
                      rcases hj with hj | hj
                      · exact absurd hbb hj
                      · exact .inl hj)) (.inr ⟨p, h3, rfl, hpk, by rw [hpk]⟩) (by simp only; omega) rfl (setCells_free vs _ _ w (hfr'.less (by simp only; omega))) c2' hvs (fun j v hj => by
                      simp at hwl
                      rcases Nat.lt_or_ge j ws.length with hl | hl
                      · rw [List.getElem?_append_left hl] at hj
                        rw [setCells_out vs w (fun _ => .inl (by simp only; omega))]
                        exact c3 j v hj
                      · rw [List.getElem?_append_right hl] at hj
                        have := setCells_in vs w hfr' hj
                        rwa [show p.o + (box.cells.length - p.lo) + (j - ws.length) = p.o + j by omega] at this)
                  refine ⟨_, _, _, _, _, run_call_append ho h1 hrun, rfl, ?_, g4, g5, setCells_below vs (hB.places b ps p h2 h3).1 w⟩
                  have hbμ : b < μ.length := (List.getElem?_eq_some_iff.1 h2).1
                  exact R.view (one := false) b off (n + m) i.size false
                    (⟨p.b, p.lo, p.o, box.cells.length + news.length⟩ :: ps) ⟨p.b, p.lo, p.o, box.cells.length + news.length⟩ cap (by simp [hbμ]) (by simp) h4 (by simp only; rw [Nat.add_mul]; omega) hroom (by simp) (setCells_free vs _ _ w h8) (.nil _)
                · exact grow2 _ cap us ps h1 (by omega) g1 g2 h2 (List.ne_nil_of_mem h3) (.inr ⟨_, _, rfl, g3⟩)
              · obtain ⟨ps, p, k1, k2⟩ := h2
                exact grow2 A 0 [] ps h1 (by omega) (by rw [List.drop_of_length_le (by omega)]; exact .nil _) (by simp) k1 (List.ne_nil_of_mem k2) (.inl rfl)
            · cases h
        · cases h
    · rename_i b off n cap sz e1
      rw [e1] at hs
      split at h
      · cases h
      · rename_i box hbx
        split at h
        · rename_i hb
          obtain ⟨rfl, hb1, hb2, hb3, hb4⟩ := hb
          split at h
          · rename_i hroom
            simp at h; subst h
            rcases hs.cview_inv with ⟨ps, p, h1, h2, h3, h4, h5, h6, h7⟩ | ⟨A, _, _, h1, _⟩
            · obtain ⟨p', q1, q2, q3, q4, q5, q6, q8⟩ := one_place hB hbx hb3 h2 h3
              have hps : ps = [p'] := by rw [h2] at q1; simpa using q1
              subst hps
              have : p = p' := by simpa using h3
              subst this
              have hmk : n * i.size + m * i.size ≤ cap * i.size := by rw [← Nat.add_mul]; exact Nat.mul_le_mul_right _ hroom
              have hoff : p.o + (off - p.lo) = p.o + off := by omega
              have hrun := src.room hmp p.b (p.o + off) n cap hroom (by rw [← hby]; exact hb1) hb2 (fun j hj => (q8.cell (by omega)).1) (fun j hj => (q8.cell (by omega)).2)
              obtain ⟨g1, g2, g3⟩ := hB.write (off := off + n * i.size) hbx hb3 q1 hvs (by omega)
              rw [Nat.add_assoc] at hrun
              rw [hoff] at h1
              refine ⟨_, _, I, μ, _, run_call_append ho h1 hrun, rfl, ?_, g1, g2, g3⟩
              have hv := R.cview (I := I) (μ := μ) (w := w.setCells p.b (p.o + (off + n * i.size)) vs) (one := false) b off (n + m) cap i.size [p] p q1 (by simp) h4 h5 hroom (setCells_plain' vs _ _ w h7) (.nil _)
              rwa [hoff] at hv
            · omega
          · rename_i hroom
            simp at h; subst h
            rcases hs.cview_inv with ⟨ps, p, h1, h2, h3, h4, h5, h6, h7⟩ | ⟨A, h1, rfl, rfl, _⟩
            · have hmul : n * i.size ≤ cap * i.size := Nat.mul_le_mul_right _ h6
              obtain ⟨_, us, g1, g2, g3, _⟩ := view_cells hB hbx h2 h3 h4 (n := n) (sz := i.size) (by omega) (s := off) (e := n * i.size) (Nat.le_refl _) (Nat.le_refl _)
              exact grow _ n cap _ us h1 (by omega) g1 g2 (.inr ⟨_, _, rfl, g3⟩) (by rw [← hby]; exact hb1) hb2
            · have := grow A 0 0 [] [] h1 (by omega) (.nil _) (by simp) (.inl rfl) (by rw [← hby]; exact hb1) hb2
              simpa using this
        · cases h
    · cases h
theorem fits_append {t tx : TypeId} {s x : Operand} {r : CV × List Box} (ho : o.op = .call { callee := .builtin .append, args := #[s, x], argTypes := #[t, tx] }) (hB : BRel N I μ B w) (hfr : ∀ i, V I μ w (fr i) (a.tmps.getD i undef))
    (hk : (∃ e, P.underlying tx = some (.slice e)) ∨ P.underlying tx = some .string) (htx : (∃ l, opv fr x = .str l) → P.underlying tx = some .string)
    (h : appendC P t B (opv fr s) (opv fr x) = some r) : Fits P N I μ w o a r.1 r.2 := by
  have hs := opv_rel hfr s
  have hx := opv_rel hfr x
  unfold appendC at h
  simp only [Option.bind_eq_some_iff] at h
  obtain ⟨e, he, esz, hsz, ⟨m, news⟩, hsrc, h⟩ := h
  simp only at h
  have ht := elemT_some he
  obtain ⟨vs, hvs, src⟩ := src_rel hB hk hx hsrc htx
  obtain ⟨i, hi, rfl⟩ := szOf_info hsz
  split at h
  · cases h
  · rename_i z hz
    have hiz : i.zero = some z := by simpa [hi] using hz
    split at h
    · cases h
    · rename_i hzs
      exact fits_appendM ho hB hs hi hiz (by omega) (by omega) hvs (ASrc.of ht hi src) h
theorem fits_appendZ {t tx : TypeId} {s x : Operand} {kn k : IntKind} {m : Int} {r : CV × List Box} (ho : o.op = .call { callee := .builtin .append, args := #[s, x], argTypes := #[t, tx] }) (hB : BRel N I μ B w) (hfr : ∀ i, V I μ w (fr i) (a.tmps.getD i undef))
    (htn : P.underlying tx = some (.int kn)) (hx : opv fr x = .int k m) (hm : 0 ≤ m) (h : appendZ P t B (opv fr s) m.toNat = some r) : Fits P N I μ w o a r.1 r.2 := by
  have hs := opv_rel hfr s
  have hxv := opv_rel hfr x
  rw [hx] at hxv
  have hxv := hxv.int_inv
  obtain ⟨m, rfl⟩ := Int.eq_ofNat_of_zero_le hm
  rw [Int.toNat_natCast] at h
  unfold appendZ at h
  simp only [Option.bind_eq_some_iff] at h
  obtain ⟨e, he, esz, hsz, zs, hzs, h⟩ := h
  have ht := elemT_some he
  obtain ⟨i, hi, rfl⟩ := szOf_info hsz
  obtain ⟨z, _, hz, hzr⟩ := zeros_rel (I := I) (μ := μ) (w := w) hzs
  have hiz : i.zero = some z := by simpa [hi] using hz
  split at h
  · cases h
  · rename_i hnz
    have hzc : z.cells.size = i.size := by have := hzr.len; simp at this; omega
    have src : ASrc P t tx o.type e i (.int k m) m (repV z.cells.toList m) w := ASrc.zeros ht htn hi hiz hzc (by omega) hzr.oneCells
    rw [← hxv] at src
    exact fits_appendM ho hB hs hi hiz hzc (by omega) (rep_rel hzr m) src h
end
end Go.Sy
end
section
namespace Go.Sy
open Go.RowKit (Below)
section
variable {P : Program} {N : Nat} {I : Nat → Nat → Prop} {μ : List (List Place)} {B : List Box} {w : World} {o : Oper} {a : Act} {fr : Fr} {c : CV}
def lenC : CV → Option Nat
  | .nilS => some 0
  | .lst n _ _ => some n
  | .view _ _ n _ _ => some n
  | .cview _ _ n _ _ => some n
  | _ => none
theorem lenC_rel {c : CV} {v : Value} {n : Nat} (h : V I μ w c v) (hn : lenC c = some n) : ∃ A cap, v = .slice A n cap ∧ n ≤ cap := by
  unfold lenC at hn
  split at hn <;> simp at hn <;> subst hn
  · exact ⟨none, 0, h.nilS_inv, Nat.le_refl _⟩
  · rcases h.lst_inv with ⟨b, o, cap, vs, h1, _, _, h2, _⟩ | ⟨A, h1, rfl, _⟩
    · exact ⟨_, cap, h1, h2⟩
    · exact ⟨A, 0, h1, Nat.le_refl _⟩
  · rcases h.view_inv with ⟨ps, p, cap, h1, _, _, _, _, h2, _⟩ | ⟨A, h1, rfl, _⟩
    · exact ⟨_, cap, h1, h2⟩
    · exact ⟨A, 0, h1, Nat.le_refl _⟩
  · rcases h.cview_inv with ⟨ps, p, h1, _, _, _, _, h2, _⟩ | ⟨A, h1, rfl, _, _⟩
    · exact ⟨_, _, h1, h2⟩
    · exact ⟨A, 0, h1, Nat.le_refl _⟩
theorem write_rel (hB : BRel N I μ B w) {d : CV} {v : Value} {n dn : Nat} {cs : List CV} {vs : List Value} {B' : List Box} (h : V I μ w d v) (hd : lenC d = some dn) (hn : n ≤ dn) (hw : writeC B d n cs = some B') (hr : R I μ w true cs vs) (h0 : n = 0 → vs = []) :
    ∃ A cap w', v = .slice A dn cap ∧ (∀ ad, A = some ad → (storeCells ad vs).run P w = .ok () w') ∧ (A = none → w' = w ∧ vs = []) ∧ BRel N I μ B' w' ∧ Ext I μ w I μ w' ∧ Below N w w' := by
  obtain ⟨A, cap, hv, _⟩ := lenC_rel h hd
  unfold writeC at hw
  split at hw
  · rename_i hz
    have hvs := h0 hz
    subst hvs
    have : B' = B := by
      split at hw <;> first | (simp at hw; exact hw.symm) | cases hw
    subst this
    exact ⟨A, cap, w, hv, fun ad _ => rfl, fun _ => ⟨rfl, rfl⟩, hB, .refl _ _ _, Below.refl _ _⟩
  · rename_i hz
    split at hw
    · rename_i b off m cap0 sz
      split at hw
      · rename_i box hb
        split at hw
        · rename_i hcond
          simp at hw; subst hw
          rcases (V.cview_view hB h).view_inv with ⟨ps, p, cap', h1, h2, h3, _⟩ | ⟨A', _, h1, _⟩
          · obtain ⟨p', q1, q2, q3, q4, q5, q6, q8⟩ := one_place hB hb hcond.1 h2 h3
            have hps : ps = [p'] := by rw [h2] at q1; simpa using q1
            subst hps
            have : p = p' := by simpa using h3
            subst this
            obtain ⟨g1, g2, g3⟩ := hB.write hb hcond.1 q1 hr hcond.2
            rw [h1] at hv
            simp only [Value.slice.injEq] at hv
            obtain ⟨hA, _, _⟩ := hv
            have hlen := hr.len
            refine ⟨some ⟨p.b, p.o + (off - p.lo), none⟩, cap', _, by rw [h1]; simp_all, fun ad had => ?_, fun hx => (by cases hx), g1, g2, g3⟩
            cases had
            have hst := run_storeCells_cells (P := P) p.b (p.o + off) vs 0 w (fun j hj => by rw [Nat.add_zero]; exact (q8.cell (by omega)).1) (fun j hj => by rw [Nat.add_zero]; exact (q8.cell (by omega)).2) hr.oneCells
            rw [Nat.add_zero] at hst
            rw [q2, Nat.sub_zero]
            exact hst
          · simp [lenC] at hd; omega
        · cases hw
      · cases hw
    · rename_i b off m sz full
      split at hw
      · rename_i box hb
        split at hw
        · rename_i hcond
          simp at hw; subst hw
          rcases h.view_inv with ⟨ps, p, cap', h1, h2, h3, _⟩ | ⟨A', _, h1, _⟩
          · obtain ⟨p', q1, q2, q3, q4, q5, q6, q8⟩ := one_place hB hb hcond.1 h2 h3
            have hps : ps = [p'] := by rw [h2] at q1; simpa using q1
            subst hps
            have : p = p' := by simpa using h3
            subst this
            obtain ⟨g1, g2, g3⟩ := hB.write hb hcond.1 q1 hr hcond.2
            rw [h1] at hv
            simp only [Value.slice.injEq] at hv
            obtain ⟨hA, _, _⟩ := hv
            have hlen := hr.len
            refine ⟨some ⟨p.b, p.o + (off - p.lo), none⟩, cap', _, by rw [h1]; simp_all, fun ad had => ?_, fun hx => (by cases hx), g1, g2, g3⟩
            cases had
            have hst := run_storeCells_cells (P := P) p.b (p.o + off) vs 0 w (fun j hj => by rw [Nat.add_zero]; exact (q8.cell (by omega)).1) (fun j hj => by rw [Nat.add_zero]; exact (q8.cell (by omega)).2) hr.oneCells
            rw [Nat.add_zero] at hst
            rw [q2, Nat.sub_zero]
            exact hst
          · simp [lenC] at hd; omega
        · cases hw
      · cases hw
    · cases hw
theorem run_firstCells_take (hB : BRel N I μ B w) {c : CV} {v : Value} {esz n k : Nat} {cs : List CV} (h : V I μ w c v) (hr : srcC B esz c = some (n, cs)) (hk : k ≤ n) :
    (∀ w' : World, (Builtin.lenOf v).run P w' = .ok n w') ∧ ∃ vs, R I μ w true (cs.take (k * esz)) vs ∧ (Builtin.firstCells esz k v).run P w = .ok vs.toArray w ∧ (k = 0 → vs = []) := by
  unfold srcC at hr
  split at hr
  · rename_i s
    split at hr
    · rename_i h1
      subst h1
      simp at hr
      obtain ⟨rfl, rfl⟩ := hr
      rw [h.str_inv]
      have hl : ∀ l : List UInt8, R I μ w true (l.map byteC) (l.map fun b => Value.int .u8 b.toNat) := fun l => by
        induction l with
        | nil => exact .nil _
        | cons b l ih => exact .int _ _ ih
      refine ⟨fun w' => by simp [Builtin.lenOf, ByteArray.size], (s.take k).map (fun b => Value.int .u8 b.toNat), ?_, ?_, fun hk => by simp [hk]⟩
      · rw [Nat.mul_one, ← List.map_take]; exact hl _
      · simp [Builtin.firstCells]
    · cases hr
  · obtain ⟨A, cap, vs, rfl, h1, h2, h3, h4⟩ := read_rel hB h hr
    have hkn : k * esz ≤ n * esz := Nat.mul_le_mul_right _ hk
    have hl2 : (vs.take (k * esz)).length = k * esz := by rw [List.length_take]; omega
    refine ⟨fun _ => rfl, vs.take (k * esz), h2.take _, run_firstCells' hl2 ?_, fun hk => by simp [hk]⟩
    rcases h4 with rfl | ⟨b, o, h5, h6⟩
    · exact .inl (by simp)
    · refine .inr ⟨b, o, h5, fun j u hj => ?_⟩
      rw [List.getElem?_take] at hj
      split at hj
      · exact h6 j u hj
      · cases hj
theorem fits_copy {t tx : TypeId} {d x : Operand} {r : CV × List Box} (ho : o.op = .call { callee := .builtin .copy, args := #[d, x], argTypes := #[t, tx] }) (hB : BRel N I μ B w) (hfr : ∀ i, V I μ w (fr i) (a.tmps.getD i undef))
    (h : builtinC P o fr B .copy [t, tx] [opv fr d, opv fr x] = some r) : Fits P N I μ w o a r.1 r.2 := by
  have hd := opv_rel hfr d
  have hx := opv_rel hfr x
  simp only [builtinC, Option.bind_eq_some_iff, Option.map_eq_some_iff] at h
  obtain ⟨e, he, esz, hs, ⟨m, news⟩, hsrc, dn, hdn, B', hw, rfl⟩ := h
  have hdn' : lenC (opv fr d) = some dn := hdn
  have hu := elemT_some he
  obtain ⟨hlen, vs, h1, h2, h3⟩ := run_firstCells_take (P := P) (k := min m dn) hB hx hsrc (Nat.min_le_left _ _)
  obtain ⟨A, cap, w', hv, h4, h5, h6, h7, h8⟩ := write_rel (P := P) hB hd hdn' (Nat.min_le_right m dn) hw h1 h3
  refine ⟨_, .int .i64 (min m dn : Nat), I, μ, w', run_call_builtin ho (v := .int .i64 (min m dn : Nat)) ?_, rfl, .int _ _ (.nil _), h6, h7, h8⟩
  have hmin : Nat.min m dn = min m dn := rfl
  cases A with
  | none =>
    obtain ⟨rfl, hvs⟩ := h5 rfl
    simp [builtin, hv, Builtin.copy_, run_underlying hu, hlen, run_sizeOf' hs, hmin, h2, goInt]
  | some ad =>
    have := h4 ad rfl
    simp [builtin, hv, Builtin.copy_, run_underlying hu, hlen, run_sizeOf' hs, hmin, h2, this, goInt]
theorem fits_clear {t : TypeId} {d : Operand} {r : CV × List Box} (ho : o.op = .call { callee := .builtin .clear, args := #[d], argTypes := #[t] }) (hB : BRel N I μ B w) (hfr : ∀ i, V I μ w (fr i) (a.tmps.getD i undef))
    (h : builtinC P o fr B .clear [t] [opv fr d] = some r) : Fits P N I μ w o a r.1 r.2 := by
  have hd := opv_rel hfr d
  simp only [builtinC, Option.bind_eq_some_iff] at h
  obtain ⟨e, he, zs, hz, esz, hs, h⟩ := h
  split at h
  · cases h
  · rename_i hzl
    simp only [Option.bind_eq_some_iff, Option.map_eq_some_iff] at h
    obtain ⟨dn, hdn, B', hw, rfl⟩ := h
    have hdn' : lenC (opv fr d) = some dn := hdn
    have hu := elemT_some he
    obtain ⟨z, h1, _, h2⟩ := zeros_rel (I := I) (μ := μ) (w := w) hz
    have hzr := zero_row z.cells dn
    obtain ⟨A, cap, w', hv, h4, h5, h6, h7, h8⟩ := write_rel (P := P) hB hd hdn' (Nat.le_refl dn) hw (rep_rel h2 dn) (fun h0 => by simp [h0, repV])
    refine ⟨_, .tuple #[], I, μ, w', run_call_builtin ho (v := .tuple #[]) ?_, rfl, .tup (bs := []) (.nil _) (.nil _), h6, h7, h8⟩
    cases dn with
    | zero =>
      have hw' : w' = w := by
        cases A with
        | none => exact (h5 rfl).1
        | some ad => have := h4 ad rfl; simp [repV, storeCells] at this; exact this.symm
      subst hw'
      cases A <;> simp [builtin, hv, Builtin.clear_, run_underlying hu]
    | succ k =>
      cases A with
      | none =>
        obtain ⟨rfl, hvs⟩ := h5 rfl
        simp [builtin, hv, Builtin.clear_, run_underlying hu]
      | some ad =>
        have := h4 ad rfl
        have e1 : (Builtin.zeroCells z.cells (k + 1)).toList = repV z.cells.toList (k + 1) := hzr
        simp [builtin, hv, Builtin.clear_, run_underlying hu, h1, e1, this]
theorem bytesC_rel : ∀ {cs : List CV} {l : List UInt8} {vs : List Value}, R I μ w true cs vs → bytesC cs = some l → ∃ ns : List Int, vs = ns.map (Value.int .u8) ∧ l = ns.map fun n => UInt8.ofNat n.toNat
  | [], l, vs, h, hb => by
    simp [bytesC] at hb; subst hb
    rw [R.nil_iff] at h
    exact ⟨[], h, rfl⟩
  | c :: cs, l, vs, h, hb => by
    unfold bytesC at hb
    split at hb
    · simp_all
    · rename_i n l' heq
      simp only [List.cons.injEq] at heq
      obtain ⟨rfl, rfl⟩ := heq
      simp only [Option.map_eq_some_iff] at hb
      obtain ⟨l2, h2, rfl⟩ := hb
      obtain ⟨v, vs', rfl, h3, _, h4⟩ := R.cons_iff.1 h
      obtain ⟨ns, rfl, rfl⟩ := bytesC_rel h4 h2
      exact ⟨n :: ns, by simp [h3.int_inv], rfl⟩
    · cases hb
theorem foldl_push (ns : List Int) (s : ByteArray) : ns.foldl (fun r n => r.push (UInt8.ofNat n.toNat)) s = ⟨(s.data.toList ++ ns.map fun n => UInt8.ofNat n.toNat).toArray⟩ := by
  induction ns generalizing s with
  | nil => simp
  | cons n ns ih =>
    rw [List.foldl_cons, ih]
    simp [ByteArray.push]
theorem fits_convert {src dst : TypeId} {x : Operand} {r : CV × List Box} (ho : o.op = .convert src dst x) (hB : BRel N I μ B w) (hfr : ∀ i, V I μ w (fr i) (a.tmps.getD i undef))
    (h : ev P o fr B = some r) : Fits P N I μ w o a r.1 r.2 := by
  have hx := opv_rel hfr x
  simp only [ev, ho] at h
  split at h
  · rename_i k n d k' e1 hs hd
    rw [e1] at hx
    have hx := hx.int_inv
    simp at h; subst h
    refine fits_value hB (v := .int k' (k'.wrap n)) ?_ (.int _ _ (.nil _))
    simp only [execOp, ho, convert, hx, Sem.run_bind, run_underlying hs, run_underlying hd, Result.andThen_ok]
    cases d <;> rfl
  · rename_i s d e1 hs hd
    rw [e1] at hx
    have hx := hx.str_inv
    simp at h; subst h
    refine fits_value hB (v := .string ⟨s.toArray⟩) ?_ (.str _ (.nil _))
    simp only [execOp, ho, convert, hx, Sem.run_bind, run_underlying hs, run_underlying hd, Result.andThen_ok]
    cases d <;> rfl
  · rename_i s d e e1 hs hd
    rw [e1] at hx
    have hx := hx.str_inv
    split at h
    · rename_i he
      simp at h; subst h
      have hl : ∀ l : List UInt8, R I μ w true (l.map byteC) (l.map fun b => Value.int .u8 b.toNat) := fun l => by
        induction l with
        | nil => exact .nil _
        | cons b l ih => exact .int _ _ ih
      have hcap := grownCap_ge w s.length 0 e
      obtain ⟨cap, hcp⟩ : ∃ cap, cap = grownCap w s.length 0 e := ⟨_, rfl⟩
      rw [← hcp] at hcap
      obtain ⟨cells, hce⟩ : ∃ cells : Array Value, cells = (s.map fun b => Value.int .u8 (b.toNat : Int)).toArray ++ Array.replicate (cap - s.length) (.int .u8 0) := ⟨_, rfl⟩
      have hcl : cells.size = cap := by rw [hce]; simp; omega
      have hrun : (Conv.stringToBytes e ⟨s.toArray⟩).run P w = .ok (.slice (some ⟨w.heap.size, 0, none⟩) s.length cap) ((w.drew.alloc (.cells cells e)).freeze ⟨w.heap.size, cap, none⟩ 1) := by
        have e2 : (⟨s.toArray⟩ : ByteArray).size = s.length := by simp [ByteArray.size]
        have hsh : (w.drew.alloc (.cells cells e)).shape? w.heap.size = some (e, cap) := by
          have hph : (w.drew.alloc (.cells cells e)).heap[w.heap.size]? = some (.cells cells e) := push_new (w := w) rfl
          simp only [World.shape?, hph, hcl]
        simp only [Conv.stringToBytes, Sem.run_bind, run_choose, Question.forced, e2]
        simp only [Bool.false_eq_true, if_false, Result.andThen_ok]
        rw [show (Question.appendCap s.length 0 e).cut (w.tape w.drawn (.appendCap s.length 0 e)) = cap from hcp.symm]
        have e3 : (Array.map (fun b : UInt8 => Value.int .u8 (b.toNat : Int)) s.toArray ++ Array.replicate (cap - s.length) (.int .u8 0)) = cells := by rw [hce]; simp
        simp only [newRow, Sem.run_bind, run_newObj, Result.andThen_ok, Sem.run_pure, markStringish, run_shape, e3]
        have : ({ w with drawn := w.drawn + 1 } : World).heap.size = w.heap.size := rfl
        have hw2 : ({ ({ w with drawn := w.drawn + 1 } : World) with heap := ({ w with drawn := w.drawn + 1 } : World).heap.push (.cells cells e) } : World) = w.drew.alloc (.cells cells e) := rfl
        rw [hw2]
        simp only [hsh]
        rfl
      have hheap : ((w.drew.alloc (.cells cells e)).freeze ⟨w.heap.size, cap, none⟩ 1).heap = w.heap.push (.cells cells e (cap, cap + 1)) := by
        apply Array.ext
        · simp [World.freeze]
        · intro i h1 h2
          have hh : ((w.drew.alloc (.cells cells e)).freeze ⟨w.heap.size, cap, none⟩ 1).heap[i]? = (w.heap.push (.cells cells e (cap, cap + 1)))[i]? := by
            simp only [World.freeze]
            rw [if_neg (by omega)]
            rw [Array.getElem?_modify, alloc_heap, drew_heap, Array.getElem?_push, Array.getElem?_push]
            by_cases hi : w.heap.size = i
            · subst hi; simp
            · rw [if_neg hi, if_neg (fun h => hi h.symm), if_neg (fun h => hi h.symm)]
          rw [Array.getElem?_eq_getElem h1, Array.getElem?_eq_getElem h2] at hh
          simpa using hh
      refine fits_push (w' := (w.drew.alloc (.cells cells e)).freeze ⟨w.heap.size, cap, none⟩ 1) (nx := .value (.slice (some ⟨w.heap.size, 0, none⟩) s.length cap)) (rest := List.replicate (cap - s.length) (.int .u8 0)) hB ?_ rfl hheap
        ⟨rfl, rfl, rfl⟩ (fun j hj hx => by simp only at hx; omega) (hl s) (by rw [hce]; simp) (fun _ hf => ?_)
      · simp only [execOp, ho, convert, hx, Sem.run_bind, run_underlying hs, run_underlying hd, Result.andThen_ok]
        cases d <;> simp [run_underlying he, hrun]
      · have hv := R.view (I := I) (one := false) B.length 0 s.length 1 false [⟨w.heap.size, 0, 0, (s.map byteC).length⟩] ⟨w.heap.size, 0, 0, (s.map byteC).length⟩ cap (last_place hB _) (List.mem_singleton.2 rfl) (Nat.le_refl _) (by simp) hcap (by simp)
          (by simpa [hcl] using hf) (.nil _)
        simpa using hv
    · cases h
  · rename_i e hs hd hn
    split at h
    · rename_i he
      simp only [Option.bind_eq_some_iff, Option.map_eq_some_iff] at h
      obtain ⟨⟨n, cs⟩, hr, l, hb, rfl⟩ := h
      obtain ⟨A, cap, vs, h1, _, h2, h3, h4⟩ := read_rel hB hx hr
      obtain ⟨ns, rfl, rfl⟩ := bytesC_rel h2 hb
      refine fits_value hB (v := .string ⟨(ns.map fun n => UInt8.ofNat n.toNat).toArray⟩) ?_ (.str _ (.nil _))
      have hb2 : (Conv.bytesToString (.slice A n cap)).run P w = .ok (.string ⟨(ns.map fun n => UInt8.ofNat n.toNat).toArray⟩) w := by
        have hlen : n = ns.length := by simpa using h3.symm
        cases A with
        | none =>
          rcases h4 with h4 | ⟨_, _, h5, _⟩
          · have : ns = [] := by simpa using h4
            subst this
            simp [Conv.bytesToString]
            rfl
          · cases h5
        | some ad =>
          have hload : (loadCells ad n).run P w = .ok (ns.map (Value.int .u8)).toArray w := by
            have := run_firstCells' (P := P) (w := w) (size := 1) (n := n) (m := n) (A := some ad) (cap := cap) (vs := ns.map (Value.int .u8)) (by simpa using h3) h4
            simpa [Builtin.firstCells] using this
          rw [run_bytesToString w ad n cap ns hload, foldl_push]
          simp
      simp only [execOp, ho, h1, Sem.run_bind, run_convert_bytes_string w src dst e A n cap hs he hd, hb2, Result.andThen_ok, Sem.run_pure]
    · cases h
  · simp only [Option.map_eq_some_iff] at h
    obtain ⟨c, hc, rfl⟩ := h
    exact fits_pure hB hfr hc
theorem fits_len {t : TypeId} {x : Operand} {r : CV × List Box} (ho : o.op = .call { callee := .builtin .len, args := #[x], argTypes := #[t] }) (hB : BRel N I μ B w) (hfr : ∀ i, V I μ w (fr i) (a.tmps.getD i undef))
    (h : builtinC P o fr B .len [t] [opv fr x] = some r) : Fits P N I μ w o a r.1 r.2 := by
  have hx := opv_rel hfr x
  have key : ∀ n : Nat, lenC (opv fr x) = some n → (elemT P t).isSome → Fits P N I μ w o a (.int .i64 n) B := by
    intro n hn he
    obtain ⟨e, he⟩ := Option.isSome_iff_exists.1 he
    have hu := elemT_some he
    obtain ⟨A, cap, hv, _⟩ := lenC_rel hx hn
    exact fits_value hB (run_call_builtin ho (v := .int .i64 n) (by simp [builtin, hv, Builtin.len_, run_underlying hu, goInt])) (.int _ _ (.nil _))
  simp only [builtinC] at h
  split at h
  · rename_i e1
    split at h
    · rename_i he; simp at h; subst h; exact key 0 (by rw [e1]; rfl) he
    · cases h
  · rename_i e1
    split at h
    · rename_i he; simp at h; subst h; exact key _ (by rw [e1]; rfl) he
    · cases h
  · rename_i e1
    split at h
    · rename_i he; simp at h; subst h; exact key _ (by rw [e1]; rfl) he
    · cases h
  · rename_i e1
    split at h
    · rename_i he; simp at h; subst h; exact key _ (by rw [e1]; rfl) he
    · cases h
  · rename_i s e1
    split at h
    · rename_i hu
      simp at h; subst h
      rw [e1] at hx
      have hx := hx.str_inv
      have e2 : (⟨s.toArray⟩ : ByteArray).size = s.length := by simp [ByteArray.size]
      exact fits_value hB (run_call_builtin ho (v := .int .i64 s.length) (by simp [builtin, hx, Builtin.len_, run_underlying hu, goInt, e2])) (.int _ _ (.nil _))
    · cases h
  · split at h
    · rename_i n e hu
      simp at h; subst h
      exact fits_value hB (run_call_builtin ho (v := .int .i64 n) (by simp [builtin, Builtin.len_, run_underlying hu, goInt])) (.int _ _ (.nil _))
    · cases h
theorem fits_cap {t : TypeId} {x : Operand} {r : CV × List Box} (ho : o.op = .call { callee := .builtin .cap, args := #[x], argTypes := #[t] }) (hB : BRel N I μ B w) (hfr : ∀ i, V I μ w (fr i) (a.tmps.getD i undef))
    (h : builtinC P o fr B .cap [t] [opv fr x] = some r) : Fits P N I μ w o a r.1 r.2 := by
  have hx := opv_rel hfr x
  simp only [builtinC] at h
  split at h
  · rename_i b off n c sz e1
    rw [e1] at hx
    split at h
    · rename_i he
      obtain ⟨e, he⟩ := Option.isSome_iff_exists.1 he
      have hu := elemT_some he
      simp at h; subst h
      rcases hx.cview_inv with ⟨ps, p, h1, _⟩ | ⟨A, h1, rfl, rfl, _⟩
      · exact fits_value hB (run_call_builtin ho (v := .int .i64 c) (by simp [builtin, h1, Builtin.cap_, run_underlying hu, goInt])) (.int _ _ (.nil _))
      · exact fits_value hB (run_call_builtin ho (v := .int .i64 (0 : Nat)) (by simp [builtin, h1, Builtin.cap_, run_underlying hu, goInt])) (.int _ _ (.nil _))
    · cases h
  · simp only [Option.map_eq_some_iff] at h
    obtain ⟨c, hc, rfl⟩ := h
    exact fits_pure hB hfr hc
theorem ev_sound {r : CV × List Box} (hB : BRel N I μ B w) (hfr : ∀ i, V I μ w (fr i) (a.tmps.getD i undef)) (h : ev P o fr B = some r) : Fits P N I μ w o a r.1 r.2 := by
  have h' := h
  cases ho : o.op with
  | move x =>
    simp only [ev, ho, Option.some.injEq] at h; subst h
    exact fits_value hB (by simp [execOp, ho]) (opv_rel hfr x)
  | assign x =>
    simp only [ev, ho, Option.some.injEq] at h; subst h
    exact fits_value hB (by simp [execOp, ho]) (opv_rel hfr x)
  | pick x y z =>
    have hx := opv_rel hfr x
    simp only [ev, ho] at h
    split at h
    · rename_i t e1
      rw [e1] at hx
      have hx := hx.bool_inv
      simp at h; subst h
      cases t
      · exact fits_value hB (v := a.eval z) (by simp [execOp, ho, hx, asBool]) (opv_rel hfr z)
      · exact fits_value hB (v := a.eval y) (by simp [execOp, ho, hx, asBool]) (opv_rel hfr y)
    · cases h
  | binOp op t x y yt =>
    simp only [ev, ho] at h
    split at h
    · rename_i r' hr
      simp only [Option.map_eq_some_iff] at h
      obtain ⟨c, rfl, rfl⟩ := h
      exact fits_bin ho hB hfr hr
    · split at h
      · rename_i c hc
        simp at h; subst h
        exact fits_aggEq ho hB hfr hc
      simp only [Option.map_eq_some_iff] at h
      obtain ⟨c, hc, rfl⟩ := h
      exact fits_pure hB hfr hc
  | unOp op t x =>
    simp only [ev, ho] at h
    split at h
    · rename_i r' hr
      simp only [Option.map_eq_some_iff] at h
      obtain ⟨c, rfl, rfl⟩ := h
      exact fits_un ho hB hfr hr
    · simp only [Option.map_eq_some_iff] at h
      obtain ⟨c, hc, rfl⟩ := h
      exact fits_pure hB hfr hc
  | convert s d x => exact fits_convert ho hB hfr h'
  | lookup t x i ok => exact fits_lookup ho hB hfr h
  | extract x i => exact fits_extract ho hB hfr h'
  | field t x i => exact fits_field ho hB hfr h'
  | index t x i => exact fits_index ho hB hfr h'
  | build t ps => exact fits_build ho hB hfr h'
  | buildSlice t n ps => exact fits_buildSlice ho hB hfr h'
  | makeInterface t x => exact fits_makeInterface ho hB hfr h'
  | makeFunc f x y => exact fits_makeFunc ho hB hfr h'
  | nilCheck x => exact fits_nilCheck ho hB hfr h'
  | alloc t => exact fits_alloc ho hB h'
  | box t x => exact fits_box ho hB hfr h'
  | load t x => exact fits_load ho hB hfr h'
  | store t x y => exact fits_store ho hB hfr h'
  | fieldAddr t x i => exact fits_fieldAddr ho hB hfr h'
  | indexAddr t x i => exact fits_indexAddr ho hB hfr h'
  | slice t x l h m => exact fits_slice ho hB hfr h'
  | sliceToArrayPointer t x => exact fits_arr ho hB hfr h'
  | makeSlice t l c => exact fits_makeSlice ho hB hfr h'
  | call cl =>
    obtain ⟨callee, args, ts⟩ := cl
    cases callee with
    | builtin b =>
      simp only [ev, ho] at h
      have hargs : ∀ (l : List Operand), args.toList = l → args = l.toArray := fun l hl => by rw [← hl]
      have htss : ∀ (l : List TypeId), ts.toList = l → ts = l.toArray := fun l hl => by rw [← hl]
      unfold builtinC at h
      split at h
      · rename_i t x e1 e2
        obtain ⟨y, e3, rfl⟩ : ∃ y, args.toList = [y] ∧ opv fr y = x := by
          cases hl : args.toList with
          | nil => rw [hl] at e2; simp at e2
          | cons y l => rw [hl] at e2; simp at e2; obtain ⟨h1, rfl⟩ := e2; exact ⟨y, rfl, h1⟩
        rw [hargs _ e3, htss _ e1] at ho
        exact fits_len ho hB hfr (by simpa only [builtinC] using h)
      · rename_i t x e1 e2
        obtain ⟨y, e3, rfl⟩ : ∃ y, args.toList = [y] ∧ opv fr y = x := by
          cases hl : args.toList with
          | nil => rw [hl] at e2; simp at e2
          | cons y l => rw [hl] at e2; simp at e2; obtain ⟨h1, rfl⟩ := e2; exact ⟨y, rfl, h1⟩
        rw [hargs _ e3, htss _ e1] at ho
        exact fits_cap ho hB hfr (by simpa only [builtinC] using h)
      · rename_i t tx s x e1 e2
        obtain ⟨y, z, e3, rfl, rfl⟩ : ∃ y z, args.toList = [y, z] ∧ opv fr y = s ∧ opv fr z = x := by
          match hl : args.toList with
          | [] => rw [hl] at e2; simp at e2
          | [_] => rw [hl] at e2; simp at e2
          | [y, z] => rw [hl] at e2; simp at e2; exact ⟨y, z, rfl, e2.1, e2.2⟩
          | _ :: _ :: _ :: _ => rw [hl] at e2; simp at e2
        rw [hargs _ e3, htss _ e1] at ho
        split at h
        · rename_i kn he
          split at h
          · rename_i k m hm
            split at h
            · rename_i h0
              exact fits_appendZ ho hB hfr he hm h0 h
            · cases h
          · cases h
        · rename_i e he
          split at h
          · cases h
          · rename_i hns
            exact fits_append ho hB hfr (.inl ⟨e, he⟩) (fun ⟨l, hl⟩ => absurd hl (hns l)) h
        · rename_i he
          exact fits_append ho hB hfr (.inr he) (fun _ => he) h
        · cases h
      · rename_i t tx s x e1 e2
        obtain ⟨y, z, e3, rfl, rfl⟩ : ∃ y z, args.toList = [y, z] ∧ opv fr y = s ∧ opv fr z = x := by
          match hl : args.toList with
          | [] => rw [hl] at e2; simp at e2
          | [_] => rw [hl] at e2; simp at e2
          | [y, z] => rw [hl] at e2; simp at e2; exact ⟨y, z, rfl, e2.1, e2.2⟩
          | _ :: _ :: _ :: _ => rw [hl] at e2; simp at e2
        rw [hargs _ e3, htss _ e1] at ho
        exact fits_copy ho hB hfr (by simpa only [builtinC] using h)
      · rename_i t x e1 e2
        obtain ⟨y, e3, rfl⟩ : ∃ y, args.toList = [y] ∧ opv fr y = x := by
          cases hl : args.toList with
          | nil => rw [hl] at e2; simp at e2
          | cons y l => rw [hl] at e2; simp at e2; obtain ⟨h1, rfl⟩ := e2; exact ⟨y, rfl, h1⟩
        rw [hargs _ e3, htss _ e1] at ho
        exact fits_clear ho hB hfr (by simpa only [builtinC] using h)
      · rename_i t tx k x k' y e1 e2
        obtain ⟨u, z, e3, hu, hz⟩ : ∃ u z, args.toList = [u, z] ∧ opv fr u = .int k x ∧ opv fr z = .int k' y := by
          match hl : args.toList with
          | [] => rw [hl] at e2; simp at e2
          | [_] => rw [hl] at e2; simp at e2
          | [y, z] => rw [hl] at e2; simp at e2; exact ⟨y, z, rfl, e2.1, e2.2⟩
          | _ :: _ :: _ :: _ => rw [hl] at e2; simp at e2
        rw [hargs _ e3, htss _ e1] at ho
        have g1 := opv_rel hfr u; rw [hu] at g1; have g1 := g1.int_inv
        have g2 := opv_rel hfr z; rw [hz] at g2; have g2 := g2.int_inv
        simp at h; subst h
        have hm : (if y < x then y else x) = min x y := by rw [Int.min_def]; split <;> split <;> omega
        exact fits_value hB (run_call_builtin ho (v := .int k (min x y)) (by simp [builtin, g1, g2, Builtin.min_, Builtin.min2, hm])) (.int k _ (.nil _))
      · rename_i t tx k x k' y e1 e2
        obtain ⟨u, z, e3, hu, hz⟩ : ∃ u z, args.toList = [u, z] ∧ opv fr u = .int k x ∧ opv fr z = .int k' y := by
          match hl : args.toList with
          | [] => rw [hl] at e2; simp at e2
          | [_] => rw [hl] at e2; simp at e2
          | [y, z] => rw [hl] at e2; simp at e2; exact ⟨y, z, rfl, e2.1, e2.2⟩
          | _ :: _ :: _ :: _ => rw [hl] at e2; simp at e2
        rw [hargs _ e3, htss _ e1] at ho
        have g1 := opv_rel hfr u; rw [hu] at g1; have g1 := g1.int_inv
        have g2 := opv_rel hfr z; rw [hz] at g2; have g2 := g2.int_inv
        simp at h; subst h
        have hm : (if x < y then y else x) = max x y := by rw [Int.max_def]; split <;> split <;> omega
        exact fits_value hB (run_call_builtin ho (v := .int k (max x y)) (by simp [builtin, g1, g2, Builtin.max_, Builtin.max2, hm])) (.int k _ (.nil _))
      · simp only [Option.map_eq_some_iff] at h
        obtain ⟨c, hc, rfl⟩ := h
        exact fits_pure hB hfr hc
    | value f => simp [ev, ho] at h
    | invoke x y => simp [ev, ho] at h
  | _ => simp [ev, ho] at h
end
end Go.Sy
end
