import Derived.Test.YtmcnajknmoldpaaCB
import Derived.Test.YtmcnajknmoldpaaSyV
import Derived.Lib.BytesEntry
import Derived.Laws.Externs
namespace Go.Proofs.Ytmcnajknmoldpaa
open Go Go.Sy
set_option linter.all false
set_option maxRecDepth 100000
set_option maxHeartbeats 4000000
open Go.RowKit (Below)
theorem bytes_ints {I : Nat → Nat → Prop} {μ : List (List Go.Sy.Place)} {w : World} : ∀ {l : List UInt8} {vs : List Value}, R I μ w true (l.map byteC) vs → vs = l.map fun b => Value.int .u8 (b.toNat : Int)
  | [], vs, h => by rw [List.map_nil, R.nil_iff] at h; rw [h]; rfl
  | b :: l, vs, h => by
    obtain ⟨v, vs', rfl, h1, _, h2⟩ := R.cons_iff.1 h
    rw [bytes_ints h2]
    have := V.int_inv h1
    rw [this]; rfl
theorem run_bytesOf {P : Program} {I : Nat → Nat → Prop} {μ : List (List Go.Sy.Place)} {w : World} {l : List UInt8} {full : Bool} {v : Value} (h : V I μ w (.lst l.length (l.map byteC) full) v) : (Extern.Bytes.bytesOf v).run P w = .ok ⟨l.toArray⟩ w := by
  rcases h.lst_inv with ⟨b, o, cap, vs, rfl, g1, g2, g3, _⟩ | ⟨A, rfl, h0, _⟩
  · have hvs := bytes_ints g1
    subst hvs
    have := Lib.run_loadBytesX (P := P) w (l.map fun b => (b.toNat : Int)) ⟨b, o, none⟩ .empty (fun j x hx => by
      have hj := (g2 j (Value.int .u8 x) (by
        rw [List.getElem?_map] at hx ⊢
        cases hl : l[j]? with
        | none => rw [hl] at hx; cases hx
        | some y => rw [hl] at hx; simp at hx ⊢; exact hx)).1
      rw [← hj, Addr.add_lit])
    rw [List.length_map] at this
    show (Extern.Bytes.loadBytes ⟨b, o, none⟩ l.length .empty).run P w = _
    rw [this]
    congr 1
    apply ByteArray.ext
    simp only [Lib.bytesOf, List.map_map]
    have e : ((fun n : Int => UInt8.ofNat n.toNat) ∘ fun b : UInt8 => (b.toNat : Int)) = id := by funext b; simp
    rw [e, List.map_id]
    simp
  · have : l = [] := List.eq_nil_of_length_eq_zero h0
    subst this
    cases A with
    | none => rfl
    | some a => rfl
theorem ecall_compare {P : Program} {f : FuncId} {fn : Func} {B : List Box} (hf : P.funcs[f]? = some fn) (hname : (fn.name == "runtime.NumGoroutine") = false) (hb : fn.body.isNone = true) (hn : Extern.findNext fn = none)
    (he : Extern.find fn = some Extern.BytealgCompare.compare) (l1 l2 : List UInt8) (f1 f2 : Bool) :
    ECall P f [.lst l1.length (l1.map byteC) f1, .lst l2.length (l2.map byteC) f2] B fun c B' => c = .int .i64 (Lib.compareBytes l1 l2) ∧ B' = B := by
  intro N I μ w us hB hR
  obtain ⟨v1, us1, rfl, h1, _, hR⟩ := R.cons_iff.1 hR
  obtain ⟨v2, us2, rfl, h2, _, hR⟩ := R.cons_iff.1 hR
  rw [R.nil_iff] at hR
  subst hR
  refine ⟨.int .i64 (Lib.compareBytes l1 l2), w, _, B, I, μ, ?_, ⟨rfl, rfl⟩, .int _ _ (.nil _), hB, .refl _ _ _, Below.refl _ _⟩
  rw [run_callFunc_extern hf hname hb hn he]
  show ((Extern.BytealgCompare.compare #[v1, v2]).run P w).andThen _ = _
  have : (Extern.BytealgCompare.compare #[v1, v2]).run P w = .ok (.int .i64 (Lib.compareBytes l1 l2)) w := by
    show Sem.run P (do pure (goInt (Extern.BytealgCompare.cmp (← Extern.Bytes.bytesOf v1) (← Extern.Bytes.bytesOf v2)))) w = _
    simp only [Sem.run_bind, run_bytesOf h1, run_bytesOf h2, Result.andThen_ok, Lib.cmp_eq]
    rfl
  rw [this]; rfl
theorem compare_in (l1 l2 : List UInt8) : PC Try.prog true 61 [lb l1, lb l2] (.int .i64 (Lib.compareBytes l1 l2)) := by
  have hx : ∀ {B : List Box} {args : List CV}, Is args [.lst l1.length (l1.map byteC) false, .lst l2.length (l2.map byteC) false] → ECall Try.prog 63 args B fun c B' => c = .int .i64 (Lib.compareBytes l1 l2) ∧ B' = B := by
    intro B args h
    have h : args = _ := h
    subst h
    exact ecall_compare Try.func63 (by kernel_rfl) (by kernel_rfl) (by kernel_rfl) (by kernel_rfl) l1 l2 false false
  refine acall_intro mixed Try.func61 rfl ca61 (by kernel_rfl) (by rw [Try.ntmps61]; simp) ?_
  repeat' (first | (with_reducible (first | apply w_seq | apply w_region | apply w_block | apply w_skip | apply w_exit | apply w_ret | apply w_then | apply w_then_exit | apply w_then_ret | apply w_in | apply w_in_here | apply w_in_ret | apply w_round | apply o_nil | apply d_nil)) | ((with_reducible (first | apply w_in_exit)); rfl) | ((with_reducible (first | apply w_draw)); rfl) | ((first | ((with_reducible (first | apply o_op | apply d_op | apply q_op)); rfl; rfl) | ((with_reducible (first | apply w_cond | apply w_end | apply w_return))) | ((with_reducible (first | apply o_guard | apply d_guard | apply q_guard)); rfl)); all_goals (first | ((with_reducible show Is _ _); ((try simp (disch := first | omega | (simp only [yA, yB, yC, yD, yE] <;> omega) | fail) [go_sem, yF, yG, yH, *, lb, if_pos, if_neg, -List.map_take, -List.map_drop, -List.map_append, -List.map_reverse]); exact rfl)) | ((fail_if_success (with_reducible show Is _ _)); (first | ((with_reducible refine fun (hc : (_ : Bool) = _) => ?_); (try simp only [xA, xB, xC, xD, xE, xF, xG, xH, reduceCtorEq, xI, xJ, xK, xL, xM, xN, xO, xP, xQ, xR] at hc); (try (have hx : True := hc; clear hx hc)); (try (exfalso; omega)); (try (with_reducible (exact absurd hc (by assumption)))); (try (with_reducible (exact absurd (by assumption) hc)))) | ((fail_if_success (with_reducible show ACall _ _ _ _ _)); (try (first | exact .inl rfl | (refine .inr ⟨rfl, ?_, ?_⟩; (focus (repeat (first | exact trivial | refine ⟨.inl rfl, ?_⟩ | refine ⟨.inr rfl, ?_⟩))); (first | exact trivial | exact rfl))))))))) | (((with_reducible (first | apply o_ecall_eq)); rfl); (iterate 2 ((try simp (disch := first | omega | (simp only [yA, yB, yC, yD, yE] <;> omega) | fail) [go_sem, yF, yG, yH, *, lb, if_pos, if_neg, -List.map_take, -List.map_drop, -List.map_append, -List.map_reverse]); exact rfl)); (first | ((with_reducible (first | apply hx)) <;> (first | omega | assumption | exact rfl | ((simp (disch := first | omega | (simp only [yA, yB, yC, yD, yE] <;> omega) | fail) [go_sem, yF, yG, yH, *, lb, -List.map_take, -List.map_drop, -List.map_append, -List.map_reverse]) <;> (first | done | omega | exact rfl)))))))
  simp [fz_int]
end Go.Proofs.Ytmcnajknmoldpaa
