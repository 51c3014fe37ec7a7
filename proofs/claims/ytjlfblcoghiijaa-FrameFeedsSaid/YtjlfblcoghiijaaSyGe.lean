/-
  Equality of arrays and structs of plain values.
-/
import Derived.Test.YtjlfblcoghiijaaSyG
import Derived.ChangeKeysEq
namespace Go.Sy
set_option linter.all false
open Go.RowKit (Below)

section
variable {P : Program} {N : Nat} {I : Nat → Nat → Prop} {μ : List (List Place)} {B : List Box} {w : World} {o : Oper} {a : Act} {fr : Fr} {c : CV}

theorem eqV_rel (k : Nat) : ∀ (d : Nat) (t : TypeId) (x y : CV) (b : Bool) (v u : Value), eqV P d t x y = some b → V I μ w x v → V I μ w y u → (Op.equalIn (k + d) t v u).run P w = .ok b w := by
  intro d
  induction d with
  | zero => intro t x y b v u h; simp [eqV] at h
  | succ d ih =>
    intro t x y b v u h hx hy
    unfold eqV at h
    split at h
    · rename_i a b' hu
      have hx := hx.bool_inv; have hy := hy.bool_inv
      subst hx; subst hy; simp at h; subst h
      simp [← Nat.add_assoc, Op.equalIn, run_underlying hu]
    · rename_i q k1 n1 k2 n2 hu
      have hx := hx.int_inv; have hy := hy.int_inv
      subst hx; subst hy
      split at h
      · rename_i hk; subst hk; simp at h; subst h
        simp [← Nat.add_assoc, Op.equalIn, run_underlying hu]
      · cases h
    · rename_i s1 s2 hu
      have hx := hx.str_inv; have hy := hy.str_inv
      subst hx; subst hy; simp at h; subst h
      simp [← Nat.add_assoc, Op.equalIn, run_underlying hu, beq_toListBytes]
    · rename_i n e xs ys hu
      cases hs : szOf P e with
      | none => simp [hs] at h
      | some sz =>
        simp only [hs, Option.bind_some] at h
        obtain ⟨vs, rfl, hvs⟩ := hx.agg_inv
        obtain ⟨us, rfl, hus⟩ := hy.agg_inv
        obtain ⟨i, hi, hisz⟩ : ∃ i, P.info? e = some i ∧ i.size = sz := by
          simpa [szOf, Option.map_eq_some_iff] using hs
        have hc : P.cellsOf e = sz := by simp [Program.cellsOf, hi, hisz]
        rw [← Nat.add_assoc, run_equalIn_array w (k + d) _ _ hu hi, hc]
        clear hu hi hisz hc hs
        generalize List.range n = is at h ⊢
        induction is generalizing b with
        | nil => simp at h; subst h; simp [Op.eqItems]
        | cons i is ih2 =>
          simp only [List.foldr_cons, Option.bind_eq_some_iff, Option.map_eq_some_iff] at h
          obtain ⟨r, hr, p, hp, q, hq, b1, hb1, rfl⟩ := h
          obtain ⟨v1, h1, h2⟩ := part_rel hvs hp
          obtain ⟨u1, h3, h4⟩ := part_rel hus hq
          have h5 := ih _ _ _ _ _ _ hb1 h2 h4
          simp only [Op.eqItems, Sem.run_bind, h1, h3, h5, Result.andThen_ok]
          cases b1
          · simp
          · simpa using ih2 _ hr
    · rename_i fs xs ys hu
      split at h
      · cases h
      · rename_i hst
        obtain ⟨vs, rfl, hvs⟩ := hx.agg_inv
        obtain ⟨us, rfl, hus⟩ := hy.agg_inv
        have hfo : P.fieldsOf t = fs := by simp [Program.fieldsOf, hu]
        rw [← Nat.add_assoc, run_equalIn_struct w (k + d) t _ _ (by rw [hfo]; exact hu) (by simpa using hst), hfo]
        clear hu hfo hst
        generalize fs.toList = fl at h ⊢
        induction fl generalizing b with
        | nil => simp at h; subst h; simp [Op.eqFields]
        | cons f fl ih2 =>
          simp only [List.foldr_cons] at h
          split at h
          · cases h
          · rename_i hn
            simp only [Option.bind_eq_some_iff, Option.map_eq_some_iff] at h
            obtain ⟨r, hr, p, hp, q, hq, b1, hb1, rfl⟩ := h
            obtain ⟨v1, h1, h2⟩ := part_rel hvs hp
            obtain ⟨u1, h3, h4⟩ := part_rel hus hq
            have h5 := ih _ _ _ _ _ _ hb1 h2 h4
            simp only [Op.eqFields, ne_eq, hn, not_false_eq_true, if_true, Sem.run_bind, h1, h3, h5, Result.andThen_ok]
            cases b1
            · simp
            · simpa using ih2 _ hr
    · cases h

theorem fits_aggEq {op : BinOp} {t yt : TypeId} {x y : Operand} {r : CV} (ho : o.op = .binOp op t x y yt) (hB : BRel N I μ B w) (hfr : ∀ i, V I μ w (fr i) (a.tmps.getD i undef))
    (h : aggEq P op t (opv fr x) (opv fr y) = some r) : Fits P N I μ w o a r B := by
  have hx := opv_rel hfr x
  have hy := opv_rel hfr y
  unfold aggEq at h
  split at h
  · rename_i xs ys e1 e2
    rw [e1] at hx; rw [e2] at hy
    split at h
    · cases h
    · rename_i hg
      simp only [Option.map_eq_some_iff] at h
      obtain ⟨b, hb, rfl⟩ := h
      rw [e1, e2] at hb
      have he := eqV_rel 9980 20 _ _ _ _ _ _ hb hx hy
      obtain ⟨vs, hv1, _⟩ := hx.agg_inv
      obtain ⟨us, hv2, _⟩ := hy.agg_inv
      rw [hv1, hv2] at he
      refine fits_value hB ?_ (.bool b (.nil _))
      simp [execOp, ho, hv1, hv2, run_eqGuard_agg w .eql t x y _ _ (by simpa using hg), binOp, Op.equal, Op.maxDepth, he]
  · rename_i xs ys e1 e2
    rw [e1] at hx; rw [e2] at hy
    split at h
    · cases h
    · rename_i hg
      simp only [Option.map_eq_some_iff] at h
      obtain ⟨b, hb, rfl⟩ := h
      rw [e1, e2] at hb
      have he := eqV_rel 9980 20 _ _ _ _ _ _ hb hx hy
      obtain ⟨vs, hv1, _⟩ := hx.agg_inv
      obtain ⟨us, hv2, _⟩ := hy.agg_inv
      rw [hv1, hv2] at he
      refine fits_value hB ?_ (.bool (!b) (.nil _))
      simp [execOp, ho, hv1, hv2, run_eqGuard_agg w .neq t x y _ _ (by simpa using hg), binOp, Op.equal, Op.maxDepth, he]
  · cases h
end
end Go.Sy
