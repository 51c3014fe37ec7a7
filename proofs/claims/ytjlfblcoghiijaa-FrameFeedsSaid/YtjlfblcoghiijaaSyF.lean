/-
  Each operation of the canonical machine is the model's: those that leave memory alone.
-/
import Derived.Test.YtjlfblcoghiijaaSyE
namespace Go.Sy
set_option linter.all false
open Go.RowKit (Below)

def nxv : Next → Option Value
  | .value v => some v
  | .skip => some undef
  | _ => none

/-- The model's operation goes through, and what it leaves fits. -/
def Fits (P : Program) (N : Nat) (I : Nat → Nat → Prop) (μ : List (List Place)) (w : World) (o : Oper) (a : Act) (c : CV) (B' : List Box) : Prop :=
  ∃ nx v I' μ' w', (execOp a.eval o).run P w = .ok nx w' ∧ nxv nx = some v ∧ Step N I μ w c v B' I' μ' w'

section
variable {P : Program} {N : Nat} {I : Nat → Nat → Prop} {μ : List (List Place)} {B : List Box} {w : World} {o : Oper} {a : Act} {fr : Fr} {c : CV}

theorem opv_rel (hfr : ∀ i, V I μ w (fr i) (a.tmps.getD i undef)) : ∀ x : Operand, V I μ w (opv fr x) (a.eval x)
  | .tmp t => hfr t
  | .const v => ofV_rel I μ w v
  | .global _ => .raw _ (by simp) (.nil _)
  | .func _ => .fn _ (.nil _) (.nil _) (.nil _)

theorem fits_value {v : Value} (hB : BRel N I μ B w) (hr : (execOp a.eval o).run P w = .ok (.value v) w) (hv : V I μ w c v) : Fits P N I μ w o a c B :=
  ⟨_, v, I, μ, w, hr, rfl, hv, hB, .refl _ _ _, Below.refl _ _⟩

theorem V.int_inv {k : IntKind} {n : Int} {v : Value} (h : V I μ w (.int k n) v) : v = .int k n := by cases h; rfl
theorem V.bool_inv {b : Bool} {v : Value} (h : V I μ w (.bool b) v) : v = .bool b := by cases h; rfl
theorem V.str_inv {s : List UInt8} {v : Value} (h : V I μ w (.str s) v) : v = .string ⟨s.toArray⟩ := by cases h; rfl
theorem V.nilP_inv {v : Value} (h : V I μ w .nilP v) : v = .pointer none := by cases h; rfl
theorem V.nilS_inv {v : Value} (h : V I μ w .nilS v) : v = .slice none 0 0 := by cases h; rfl
theorem V.nilF_inv {v : Value} (h : V I μ w .nilF v) : v = .nilFunc := by cases h; rfl
theorem V.agg_inv {cs : List CV} {v : Value} (h : V I μ w (.agg cs) v) : ∃ vs, v = .agg vs.toArray ∧ R I μ w true cs vs := by cases h with | agg h _ => exact ⟨_, rfl, h⟩
theorem V.tup_inv {cs : List CV} {v : Value} (h : V I μ w (.tup cs) v) : ∃ vs, v = .tuple vs.toArray ∧ R I μ w false cs vs := by cases h with | tup h _ => exact ⟨_, rfl, h⟩
theorem V.fn_inv {f : Fn} {x y : List CV} {v : Value} (h : V I μ w (.fn f x y) v) : ∃ vs us, v = .func f vs.toArray us.toArray ∧ R I μ w false x vs ∧ R I μ w false y us := by cases h with | fn _ h h' _ => exact ⟨_, _, rfl, h, h'⟩
theorem V.ptr_inv {b off : Nat} {v : Value} (h : V I μ w (.ptr b off) v) : ∃ ps p, v = .pointer (some ⟨p.b, p.o + (off - p.lo), none⟩) ∧ μ[b]? = some ps ∧ p ∈ ps ∧ p.lo ≤ off := by cases h with | ptr _ _ ps p h1 h2 h3 _ => exact ⟨ps, p, rfl, h1, h2, h3⟩
theorem V.iptr_inv {cs : List CV} {v : Value} (h : V I μ w (.iptr cs) v) : ∃ b o vs, v = .pointer (some ⟨b, o, none⟩) ∧ R I μ w true cs vs ∧ ∀ j u, vs[j]? = some u → w.cell? ⟨b, o + j, none⟩ = some u ∧ I b (o + j) := by cases h with | iptr b o h hm _ => exact ⟨b, o, _, rfl, h, hm⟩

theorem fits_pure {x : CV} (hB : BRel N I μ B w) (hfr : ∀ i, V I μ w (fr i) (a.tmps.getD i undef)) (h : evPure P o fr = some x) : Fits P N I μ w o a x B := by
  unfold evPure at h
  split at h
  · rename_i hall
    split at h
    · rename_i v hv
      simp only [Option.some.injEq] at h
      subst h
      by_cases hsel : ∃ cs b, o.op = .select cs b
      · obtain ⟨cs, b, hs⟩ := hsel
        exfalso
        have hv' := pureRun_run P _ _ hv default
        unfold execOp at hv'
        simp only [hs, Sem.run_bind] at hv'
        revert hv'
        generalize Sem.run P (Array.mapM _ cs) default = r
        cases r <;> simp
      · have hc : execOp (fun x => (toV (opv fr x)).getD undef) o = execOp a.eval o := by
          refine execOp_congr o (fun cs b hs => hsel ⟨cs, b, hs⟩) fun x hx => ?_
          simp only [Array.all_eq_true_iff_forall_mem] at hall
          obtain ⟨u, hu⟩ := Option.isSome_iff_exists.1 (hall x hx)
          rw [hu]
          exact (opv_rel hfr x).toV hu
        rw [hc] at hv
        exact fits_value hB (pureRun_run P _ _ hv w) (ofV_rel I μ w v)
    · cases h
  · cases h

theorem run_equal {t : TypeId} {x y : Value} {b : Bool} (h : ∀ d, (Op.equalIn (d + 1) t x y).run P w = .ok b w) : (Op.equal t x y).run P w = .ok b w := h 9999
theorem equal_bool {t : TypeId} (ht : P.underlying t = some .bool) (x y : Bool) : (Op.equal t (.bool x) (.bool y)).run P w = .ok (x == y) w := run_equal fun d => by simp [Op.equalIn, run_underlying ht]
theorem equal_ptr_nil {t e : TypeId} (ht : P.underlying t = some (.pointer e)) (x : Addr) : (Op.equal t (.pointer (some x)) (.pointer none)).run P w = .ok false w := run_equal fun d => by simp [Op.equalIn, run_underlying ht]
theorem equal_fn_nil {t : TypeId} {ps rs : Array TypeId} {vr : Bool} (ht : P.underlying t = some (.func ps rs vr)) (f : Fn) (x y : Array Value) : (Op.equal t (.func f x y) .nilFunc).run P w = .ok false w := run_equal fun d => by simp [Op.equalIn, run_underlying ht]

theorem equal_slice_nil {t e : TypeId} (ht : P.underlying t = some (.slice e)) (A : Option Addr) (k cap : Nat) : (Op.equal t (.slice A k cap) (.slice none 0 0)).run P w = .ok A.isNone w := run_equal fun d => by cases A <;> simp [Op.equalIn, run_underlying ht]
theorem V.lst_some {n : Nat} {cs : List CV} {full : Bool} {v : Value} (h : V I μ w (.lst n cs full) v) (hn : n ≠ 0) : ∃ A cap, v = .slice (some A) n cap := by
  cases h with
  | lst _ _ b o cap h hm hn hf _ => exact ⟨_, cap, rfl⟩
  | lstE => exact absurd rfl hn
theorem V.view_some {b off n sz : Nat} {full : Bool} {v : Value} (h : V I μ w (.view b off n sz full) v) (hn : n ≠ 0) : ∃ A cap, v = .slice (some A) n cap := by
  cases h with
  | view _ _ _ _ _ ps p cap => exact ⟨_, cap, rfl⟩
  | viewE => exact absurd rfl hn
theorem V.cview_some {b off n c sz : Nat} {v : Value} (h : V I μ w (.cview b off n c sz) v) (hn : n ≠ 0) : ∃ A cap, v = .slice (some A) n cap := by
  cases h with
  | cview _ _ _ _ _ ps p => exact ⟨_, c, rfl⟩
  | cviewE => exact absurd rfl hn
theorem fits_bin {op : BinOp} {t yt : TypeId} {x y : Operand} {r : CV} (ho : o.op = .binOp op t x y yt) (hB : BRel N I μ B w) (hfr : ∀ i, V I μ w (fr i) (a.tmps.getD i undef))
    (h : binC P op t (opv fr x) (opv fr y) = some (some r)) : Fits P N I μ w o a r B := by
  have hx := opv_rel hfr x
  have hy := opv_rel hfr y
  unfold binC at h
  split at h
  · rename_i k n k' m e1 e2
    rw [e1] at hx
    rw [e2] at hy
    have hx := hx.int_inv
    have hy := hy.int_inv
    cases op <;> simp only at h
    case shl =>
      unfold shiftC at h
      split at h
      · cases h
      · rename_i hneg
        simp at h; subst h
        exact fits_value hB (by simp [execOp, ho, hx, hy, eqGuard, binOp, Op.shift, hneg]) (.int _ _ (.nil _))
    case shr =>
      unfold shiftC at h
      split at h
      · cases h
      · rename_i hneg
        simp at h; subst h
        exact fits_value hB (by simp [execOp, ho, hx, hy, eqGuard, binOp, Op.shift, hneg]) (.int _ _ (.nil _))
    all_goals
      by_cases hk : k = k'
      rotate_left
      · rw [if_neg hk] at h; cases h
      rw [if_pos hk] at h
      subst hk
      simp only [binInt, Option.some.injEq] at h
      first
        | (split at h
           · cases h
           · rename_i hz
             simp at h; subst h
             exact fits_value hB (by simp [execOp, ho, hx, hy, eqGuard, binOp, Op.intDiv, hz]) (.int _ _ (.nil _)))
        | (subst h; refine fits_value hB ?_ (.bool _ (.nil _)); simp [execOp, ho, hx, hy, eqGuard, binOp, Op.intCmp]; done)
        | (subst h; refine fits_value hB ?_ (.int _ _ (.nil _)); simp [execOp, ho, hx, hy, eqGuard, binOp, Op.intArith]; done)
        | (subst h; refine fits_value hB ?_ (.int _ _ (.nil _)); simp [execOp, ho, hx, hy, eqGuard, binOp]; rfl)
  · rename_i s s' e1 e2
    rw [e1] at hx
    rw [e2] at hy
    have hx := hx.str_inv
    have hy := hy.str_inv
    cases op <;> simp only [strC, Option.some.injEq] at h
    case add =>
      split at h
      · rename_i hl
        simp at h; subst h
        have h2 : ¬ (9223372036854775807 < (s.length : Int) + (s'.length : Int)) := by omega
        refine fits_value hB (v := .string ⟨(s ++ s').toArray⟩) ?_ (.str _ (.nil _))
        simp [execOp, ho, hx, hy, eqGuard, binOp, Op.stringOp, ByteArray.size, h2]
        apply ByteArray.ext
        simp
      · cases h
    all_goals
      first
        | (subst h
           exact fits_value hB (by simp [execOp, ho, hx, hy, eqGuard, binOp, Op.stringOp]) (.bool _ (.nil _)))
        | (simp at h; done)
  · rename_i b b' e1 e2
    rw [e1] at hx
    rw [e2] at hy
    have hx := hx.bool_inv
    have hy := hy.bool_inv
    split at h
    rotate_left
    · cases h
    rename_i ht
    split at h <;> simp at h
    · subst h
      exact fits_value hB (by simp [execOp, ho, hx, hy, eqGuard, binOp, equal_bool ht]) (.bool _ (.nil _))
    · subst h
      exact fits_value hB (by simp [execOp, ho, hx, hy, eqGuard, binOp, equal_bool ht]) (.bool _ (.nil _))
  · rename_i e1 e2
    rw [e1] at hx
    rw [e2] at hy
    obtain ⟨ps, p, hx, _⟩ := hx.ptr_inv
    have hy := hy.nilP_inv
    split at h
    rotate_left
    · cases h
    rename_i ht
    split at h <;> simp at h
    · subst h
      exact fits_value hB (by simp [execOp, ho, hx, hy, eqGuard, binOp, equal_ptr_nil ht]) (.bool _ (.nil _))
    · subst h
      exact fits_value hB (by simp [execOp, ho, hx, hy, eqGuard, binOp, equal_ptr_nil ht]) (.bool _ (.nil _))
  · rename_i e1 e2
    rw [e1] at hx
    rw [e2] at hy
    obtain ⟨_, _, _, hx, _⟩ := hx.iptr_inv
    have hy := hy.nilP_inv
    split at h
    rotate_left
    · cases h
    rename_i ht
    split at h <;> simp at h
    · subst h
      exact fits_value hB (by simp [execOp, ho, hx, hy, eqGuard, binOp, equal_ptr_nil ht]) (.bool _ (.nil _))
    · subst h
      exact fits_value hB (by simp [execOp, ho, hx, hy, eqGuard, binOp, equal_ptr_nil ht]) (.bool _ (.nil _))
  · rename_i n A1 A2 e1 e2
    rw [e1] at hx
    rw [e2] at hy
    have hy := hy.nilS_inv
    split at h
    rotate_left
    · cases h
    rename_i ht
    split at h
    · cases h
    rename_i hn
    obtain ⟨A, cap, hx⟩ := hx.lst_some hn
    split at h <;> simp at h
    · subst h
      exact fits_value hB (by simp [execOp, ho, hx, hy, eqGuard, binOp, equal_slice_nil ht]) (.bool _ (.nil _))
    · subst h
      exact fits_value hB (by simp [execOp, ho, hx, hy, eqGuard, binOp, equal_slice_nil ht]) (.bool _ (.nil _))
  · rename_i A0 A1 n A2 A3 e1 e2
    rw [e1] at hx
    rw [e2] at hy
    have hy := hy.nilS_inv
    split at h
    rotate_left
    · cases h
    rename_i ht
    split at h
    · cases h
    rename_i hn
    obtain ⟨A, cap, hx⟩ := hx.view_some hn
    split at h <;> simp at h
    · subst h
      exact fits_value hB (by simp [execOp, ho, hx, hy, eqGuard, binOp, equal_slice_nil ht]) (.bool _ (.nil _))
    · subst h
      exact fits_value hB (by simp [execOp, ho, hx, hy, eqGuard, binOp, equal_slice_nil ht]) (.bool _ (.nil _))
  · rename_i A0 A1 n A2 A3 e1 e2
    rw [e1] at hx
    rw [e2] at hy
    have hy := hy.nilS_inv
    split at h
    rotate_left
    · cases h
    rename_i ht
    split at h
    · cases h
    rename_i hn
    obtain ⟨A, cap, hx⟩ := hx.cview_some hn
    split at h <;> simp at h
    · subst h
      exact fits_value hB (by simp [execOp, ho, hx, hy, eqGuard, binOp, equal_slice_nil ht]) (.bool _ (.nil _))
    · subst h
      exact fits_value hB (by simp [execOp, ho, hx, hy, eqGuard, binOp, equal_slice_nil ht]) (.bool _ (.nil _))
  · rename_i e1 e2
    rw [e1] at hx
    rw [e2] at hy
    obtain ⟨_, _, hx, _⟩ := hx.fn_inv
    have hy := hy.nilF_inv
    split at h
    rotate_left
    · cases h
    rename_i ht
    split at h <;> simp at h
    · subst h
      exact fits_value hB (by simp [execOp, ho, hx, hy, eqGuard, binOp, equal_fn_nil ht]) (.bool _ (.nil _))
    · subst h
      exact fits_value hB (by simp [execOp, ho, hx, hy, eqGuard, binOp, equal_fn_nil ht]) (.bool _ (.nil _))
  · cases h

theorem fits_un {op : UnOp} {t : TypeId} {x : Operand} {r : CV} (ho : o.op = .unOp op t x) (hB : BRel N I μ B w) (hfr : ∀ i, V I μ w (fr i) (a.tmps.getD i undef))
    (h : unC op (opv fr x) = some (some r)) : Fits P N I μ w o a r B := by
  have hx := opv_rel hfr x
  unfold unC at h
  split at h
  · rename_i e1; rw [e1] at hx; have hx := hx.bool_inv; simp at h; subst h
    exact fits_value hB (by simp [execOp, ho, hx, Op.unary]) (.bool _ (.nil _))
  · rename_i e1; rw [e1] at hx; have hx := hx.int_inv; simp at h; subst h
    exact fits_value hB (by simp [execOp, ho, hx, Op.unary, Op.intArith]) (.int _ _ (.nil _))
  · rename_i e1; rw [e1] at hx; have hx := hx.int_inv; simp at h; subst h
    exact fits_value hB (by simp [execOp, ho, hx, Op.unary, Op.intBits, bits]) (.int _ _ (.nil _))
  · cases h

end
end Go.Sy
