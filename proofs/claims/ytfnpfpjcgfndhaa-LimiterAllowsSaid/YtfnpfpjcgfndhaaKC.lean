import Derived.Test.YtfnpfpjcgfndhaaCB
import Derived.Test.YtfnpfpjcgfndhaaSyV
import Derived.Lib.BytesEntry
import Derived.Laws.Externs
namespace Go.Proofs.Ytfnpfpjcgfndhaa
open Go Go.Sy
set_option linter.all false
set_option maxRecDepth 100000
set_option maxHeartbeats 4000000
open Go.RowKit (Below)
theorem bytes_ints {I : Nat → Nat → Prop} {μ : List (List Go.Sy.Place)} {w : World} : ∀ {l : List UInt8} {vs : List Value}, R I μ w true (l.map byteC) vs → vs = l.map fun b => Value.int .u8 (b.toNat : Int)
  | [], vs, h => by rw [List.map_nil, R.nil_iff] at h; rw [h]; rfl
  | b :: l, vs, h => by
    obtain ⟨v, vs', rfl, h1, _, h2⟩ := R.cons_iff.1 h
    rw [bytes_ints h2]
    have := V.int_inv h1
    rw [this]; rfl
theorem run_bytesOf {P : Program} {I : Nat → Nat → Prop} {μ : List (List Go.Sy.Place)} {w : World} {l : List UInt8} {full : Bool} {v : Value} (h : V I μ w (.lst l.length (l.map byteC) full) v) : (Extern.Bytes.bytesOf v).run P w = .ok ⟨l.toArray⟩ w := by
  rcases h.lst_inv with ⟨b, o, cap, vs, rfl, g1, g2, g3, _⟩ | ⟨A, rfl, h0, _⟩
  · have hvs := bytes_ints g1
    subst hvs
    have := Lib.run_loadBytesX (P := P) w (l.map fun b => (b.toNat : Int)) ⟨b, o, none⟩ .empty (fun j x hx => by
      have hj := (g2 j (Value.int .u8 x) (by
        rw [List.getElem?_map] at hx ⊢
        cases hl : l[j]? with
        | none => rw [hl] at hx; cases hx
        | some y => rw [hl] at hx; simp at hx ⊢; exact hx)).1
      rw [← hj, Addr.add_lit])
    rw [List.length_map] at this
    show (Extern.Bytes.loadBytes ⟨b, o, none⟩ l.length .empty).run P w = _
    rw [this]
    congr 1
    apply ByteArray.ext
    simp only [Lib.bytesOf, List.map_map]
    have e : ((fun n : Int => UInt8.ofNat n.toNat) ∘ fun b : UInt8 => (b.toNat : Int)) = id := by funext b; simp
    rw [e, List.map_id]
    simp
  · have : l = [] := List.eq_nil_of_length_eq_zero h0
    subst this
    cases A with
    | none => rfl
    | some a => rfl
theorem ecall_compare {P : Program} {f : FuncId} {fn : Func} {B : List Box} (hf : P.funcs[f]? = some fn) (hname : (fn.name == "runtime.NumGoroutine") = false) (hb : fn.body.isNone = true) (hn : Extern.findNext fn = none)
    (he : Extern.find fn = some Extern.BytealgCompare.compare) (l1 l2 : List UInt8) (f1 f2 : Bool) :
    ECall P f [.lst l1.length (l1.map byteC) f1, .lst l2.length (l2.map byteC) f2] B fun c B' => c = .int .i64 (Lib.compareBytes l1 l2) ∧ B' = B := by
  intro N I μ w us hB hR
  obtain ⟨v1, us1, rfl, h1, _, hR⟩ := R.cons_iff.1 hR
  obtain ⟨v2, us2, rfl, h2, _, hR⟩ := R.cons_iff.1 hR
  rw [R.nil_iff] at hR
  subst hR
  refine ⟨.int .i64 (Lib.compareBytes l1 l2), w, _, B, I, μ, ?_, ⟨rfl, rfl⟩, .int _ _ (.nil _), hB, .refl _ _ _, Below.refl _ _⟩
  rw [run_callFunc_extern hf hname hb hn he]
  show ((Extern.BytealgCompare.compare #[v1, v2]).run P w).andThen _ = _
  have : (Extern.BytealgCompare.compare #[v1, v2]).run P w = .ok (.int .i64 (Lib.compareBytes l1 l2)) w := by
    show Sem.run P (do pure (goInt (Extern.BytealgCompare.cmp (← Extern.Bytes.bytesOf v1) (← Extern.Bytes.bytesOf v2)))) w = _
    simp only [Sem.run_bind, run_bytesOf h1, run_bytesOf h2, Result.andThen_ok, Lib.cmp_eq]
    rfl
  rw [this]; rfl
theorem compare_in (l1 l2 : List UInt8) : PC Try.prog true 36 [lb l1, lb l2] (.int .i64 (Lib.compareBytes l1 l2)) := by
  have hx : ∀ {B : List Box} {args : List CV}, Is args [.lst l1.length (l1.map byteC) false, .lst l2.length (l2.map byteC) false] → ECall Try.prog 39 args B fun c B' => c = .int .i64 (Lib.compareBytes l1 l2) ∧ B' = B := by
    intro B args h
    have h : args = _ := h
    subst h
    exact ecall_compare Try.func39 (by kernel_rfl) (by kernel_rfl) (by kernel_rfl) (by kernel_rfl) l1 l2 false false
  refine acall_intro mixed Try.func36 rfl ca36 (by kernel_rfl) (by rw [Try.ntmps36]; simp) ?_
  repeat' (first | (with_reducible apply w_seq) | (with_reducible apply w_region) | (with_reducible apply w_block) | (with_reducible apply w_skip) | (with_reducible apply w_exit) | (with_reducible apply w_ret) | (with_reducible apply w_then) | (with_reducible apply w_then_exit) | (with_reducible apply w_then_ret) | (with_reducible apply w_in) | (with_reducible apply w_in_here) | (with_reducible apply w_in_ret) | (with_reducible apply w_round) | (with_reducible apply o_nil) | (with_reducible apply d_nil) | ((with_reducible apply w_in_exit); rfl) | ((with_reducible apply w_draw); rfl) | ((first | ((with_reducible apply o_op); rfl; rfl) | ((with_reducible apply d_op); rfl; rfl) | ((with_reducible apply q_op); rfl; rfl)); ((try simp (disch := first | omega | (simp only [List.length_append, List.length_map, List.length_cons, List.length_nil, List.length_set] <;> omega) | fail) [go_sem, bytes_take, bytes_drop, bytes_append, *, lb, -List.map_take, -List.map_drop, -List.map_append, -List.map_reverse]); (first | exact rfl | (simp (disch := first | omega | (simp only [List.length_append, List.length_map, List.length_cons, List.length_nil, List.length_set] <;> omega) | fail) [go_sem, bytes_take, bytes_drop, bytes_append, *, lb, -List.map_take, -List.map_drop, -List.map_append, -List.map_reverse, if_pos, if_neg]; exact rfl))); (try (first | exact .inl rfl | (refine .inr ⟨rfl, ?_, ?_⟩; (focus (repeat (first | exact trivial | refine ⟨.inl rfl, ?_⟩ | refine ⟨.inr rfl, ?_⟩))); (first | exact trivial | exact rfl))))) | ((first | ((with_reducible apply w_cond)) | ((with_reducible apply o_guard); rfl) | ((with_reducible apply d_guard); rfl) | ((with_reducible apply q_guard); rfl)); ((try simp (disch := first | omega | (simp only [List.length_append, List.length_map, List.length_cons, List.length_nil, List.length_set] <;> omega) | fail) [go_sem, bytes_take, bytes_drop, bytes_append, *, lb, -List.map_take, -List.map_drop, -List.map_append, -List.map_reverse]); (first | exact rfl | (simp (disch := first | omega | (simp only [List.length_append, List.length_map, List.length_cons, List.length_nil, List.length_set] <;> omega) | fail) [go_sem, bytes_take, bytes_drop, bytes_append, *, lb, -List.map_take, -List.map_drop, -List.map_append, -List.map_reverse, if_pos, if_neg]; exact rfl))); all_goals (intro hc; (try simp only [decide_eq_true_eq, decide_eq_false_iff_not, Bool.not_eq_true, Bool.not_eq_false, Bool.not_eq_eq_eq_not, Bool.not_true, Bool.not_false, Bool.false_eq_true, reduceCtorEq, beq_iff_eq, beq_eq_false_iff_ne, bne_iff_ne, bne_eq_false_iff_eq, Bool.and_eq_true, Bool.or_eq_true, Bool.or_eq_false_iff, ne_eq, not_true_eq_false, not_false_eq_true] at hc); (try (have hx : True := hc; clear hx hc)); (try (exfalso; omega)); (try (with_reducible (exact absurd hc (by assumption)))); (try (with_reducible (exact absurd (by assumption) hc))))) | ((first | ((with_reducible apply w_end)) | ((with_reducible apply w_return))); ((try simp (disch := first | omega | (simp only [List.length_append, List.length_map, List.length_cons, List.length_nil, List.length_set] <;> omega) | fail) [go_sem, bytes_take, bytes_drop, bytes_append, *, lb, -List.map_take, -List.map_drop, -List.map_append, -List.map_reverse]); (first | exact rfl | (simp (disch := first | omega | (simp only [List.length_append, List.length_map, List.length_cons, List.length_nil, List.length_set] <;> omega) | fail) [go_sem, bytes_take, bytes_drop, bytes_append, *, lb, -List.map_take, -List.map_drop, -List.map_append, -List.map_reverse, if_pos, if_neg]; exact rfl)))) | (((with_reducible apply o_ecall_eq); rfl); ((try simp (disch := first | omega | (simp only [List.length_append, List.length_map, List.length_cons, List.length_nil, List.length_set] <;> omega) | fail) [go_sem, bytes_take, bytes_drop, bytes_append, *, lb, -List.map_take, -List.map_drop, -List.map_append, -List.map_reverse]); (first | exact rfl | (simp (disch := first | omega | (simp only [List.length_append, List.length_map, List.length_cons, List.length_nil, List.length_set] <;> omega) | fail) [go_sem, bytes_take, bytes_drop, bytes_append, *, lb, -List.map_take, -List.map_drop, -List.map_append, -List.map_reverse, if_pos, if_neg]; exact rfl))); ((try simp (disch := first | omega | (simp only [List.length_append, List.length_map, List.length_cons, List.length_nil, List.length_set] <;> omega) | fail) [go_sem, bytes_take, bytes_drop, bytes_append, *, lb, -List.map_take, -List.map_drop, -List.map_append, -List.map_reverse]); (first | exact rfl | (simp (disch := first | omega | (simp only [List.length_append, List.length_map, List.length_cons, List.length_nil, List.length_set] <;> omega) | fail) [go_sem, bytes_take, bytes_drop, bytes_append, *, lb, -List.map_take, -List.map_drop, -List.map_append, -List.map_reverse, if_pos, if_neg]; exact rfl))); (first | (((with_reducible apply hx)) <;> (first | omega | assumption | exact rfl | ((simp (disch := first | omega | (simp only [List.length_append, List.length_map, List.length_cons, List.length_nil, List.length_set] <;> omega) | fail) [go_sem, bytes_take, bytes_drop, bytes_append, *, lb, -List.map_take, -List.map_drop, -List.map_append, -List.map_reverse]) <;> (first | done | omega | exact rfl)))))))
  simp [fz_int]
end Go.Proofs.Ytfnpfpjcgfndhaa
