/- Lemmas and definitions of this claim (own texts, joined by a program; what the claim does not use is left out). -/
import Derived.Test.YtdceppjoipoohaaDoorCa6
import Derived.Shelf.Strings.Builder1
import Derived.Shelf.Strings.Builder2
import Derived.Shelf.Strings.OnBuilder
import Derived.Shelf.Strings.BuilderF
import Derived.Shelf.Strings.BuilderK
import Derived.Shelf.Utf8.RuneCount
import Derived.Shelf.Strconv.Itoa0
import Derived.Shelf.Strconv.Itoa1
import Derived.Shelf.LaysM
import Derived.Shelf.Strconv.Itoa2
import Derived.Shelf.Strconv.Itoa3
import Derived.Shelf.Strconv.Itoa4
import Derived.Shelf.Strings.Search1
import Derived.Shelf.Strings.Search2
import Derived.Shelf.Strings.Search3
import Derived.Shelf.Strings.Cut
import Derived.Shelf.Strings.Count
import Derived.Shelf.Strings.Shaped
import Derived.Shelf.Strings.LastIndex
import Derived.Shelf.Strings.LastIndexAll
import Derived.Shelf.Strings.Prefix
import Derived.Shelf.Strings.Split
import Derived.Shelf.Strings.SplitShaped
import Derived.Shelf.Unicode.Decode
import Derived.Shelf.Strings.RuneCount
import Derived.Shelf.Strings.Explode
import Derived.Shelf.Unicode.DecodeSlow
import Derived.Shelf.Unicode.DecodeAny
import Derived.Test.YtdceppjoipoohaaDoorProg
section
namespace Go.Proofs.YtdceppjoipoohaaDoor
open Go Go.Sy
set_option linter.all false
set_option maxRecDepth 100000
set_option maxHeartbeats 4000000
def bgA (l : List UInt8) (a : Nat) : Nat := nxA l (nxA l (nxA l a 256) 256) 256
def bgV (l : List UInt8) (a n : Nat) : Nat := (nxV l a 256 * 65536 + nxV l (nxA l a 256) 256 * 256 + nxV l (nxA l (nxA l a 256) 256) 256) % n
theorem bgA_le {l : List UInt8} {a : Nat} (h : a ≤ l.length) : bgA l a ≤ l.length := nxA_le (nxA_le (nxA_le h))
theorem bgV_lt {l : List UInt8} {a n : Nat} (h : 0 < n) : bgV l a n < n := Nat.mod_lt _ h
theorem or_low (k x y : Nat) (hx : x * 2 ^ k < 4611686018427387904) (hy : y < 2 ^ k) (hy2 : y < 4611686018427387904) : bits .or .i64 ((x * 2 ^ k : Nat) : Int) (y : Int) = ((x * 2 ^ k + y : Nat) : Int) := by
  have h2 := Nat.two_pow_add_eq_or_of_lt (i := k) (b := y) hy x
  rw [i64_or_nat _ _ (by omega) (by omega)]
  congr 1
  rw [Nat.mul_comm] at h2
  exact h2.symm
theorem big_or (x y z : Nat) (hx : x < 256) (hy : y < 256) (hz : z < 256) : bits .or .i64 (bits .or .i64 ((x : Int) * 65536) ((y : Int) * 256)) (z : Int) = ((x * 65536 + y * 256 + z : Nat) : Int) := by
  have e1 := or_low 16 x (y * 256) (by omega) (by omega) (by omega)
  have e2 := or_low 8 (x * 256 + y) z (by omega) (by omega) (by omega)
  rw [show ((x : Int) * 65536) = ((x * 2 ^ 16 : Nat) : Int) by omega, show ((y : Int) * 256) = ((y * 256 : Nat) : Int) by omega, e1, show x * 2 ^ 16 + y * 256 = (x * 256 + y) * 2 ^ 8 by omega, e2]
theorem big_at {B : List Box} {β : Nat} {args : List CV} {l : List UInt8} {a n : Nat} {m : Int} (ha : Is args [.ptr β 0, .int .i64 m]) (hm : m = n) (hn : 1 ≤ n ∧ n ≤ 16777216) (hB : B[β]? = some (cb l a)) (hl : a ≤ l.length ∧ l.length < 1000000) : ACall Tryd.prog 31 args B fun c B' => c = .int .i64 (bgV l a n) ∧ B' = B.set β (cb l (bgA l a)) := by
  have ha : args = _ := ha
  subst ha hm
  obtain ⟨p1, p2, p3, p4, p5, p6, p7, p8, p9, p10, p11, p12, p13⟩ := bx_pack hB
  have h1 := nxA_le (n := 256) hl.1
  have h2 := nxA_le (n := 256) h1
  have hnx : ∀ (b : Nat), b ≤ l.length → ∀ (B : List Box) (args : List CV), Is args [.ptr β 0, .int .i64 256] → B[β]? = some (cb l b) → ACall Tryd.prog 29 args B fun c B' => c = .int .i64 (nxV l b 256) ∧ B' = B.set β (cb l (nxA l b 256)) := fun b hb _ _ h h2 => next_at (n := 256) h rfl h2 ⟨hb, by omega⟩
  have k1 := hnx a hl.1
  have k2 := hnx _ h1
  have k3 := hnx _ h2
  have b1 := nxV_lt (l := l) (a := a) (n := 256) (by omega)
  have b2 := nxV_lt (l := l) (a := nxA l a 256) (n := 256) (by omega)
  have b3 := nxV_lt (l := l) (a := nxA l (nxA l a 256) 256) (n := 256) (by omega)
  rw [bgA, bgV]
  generalize nxV l (nxA l (nxA l a 256) 256) 256 = v3 at *
  generalize nxV l (nxA l a 256) 256 = v2 at *
  generalize nxV l a 256 = v1 at *
  generalize nxA l (nxA l (nxA l a 256) 256) 256 = a3 at *
  generalize nxA l (nxA l a 256) 256 = a2 at *
  generalize nxA l a 256 = a1 at *
  have hor := big_or v1 v2 v3 b1 b2 b3
  have htm : (((v1 * 65536 + v2 * 256 + v3 : Nat) : Int)).tmod (n : Int) = (((v1 * 65536 + v2 * 256 + v3) % n : Nat) : Int) := rfl
  generalize hW : v1 * 65536 + v2 * 256 + v3 = W at *
  have hnp : (n : Int) ≠ 0 := by omega
  have hn1 := hn.1
  have hn2 := hn.2
  clear hnx hn
  refine acall_intro mixed Tryd.func31 rfl ca31 (by kernel_rfl) (by rw [Tryd.ntmps31]; simp) ?_
  repeat' (first | (with_reducible (first | apply w_seq | apply w_region | apply w_block | apply w_skip | apply w_exit | apply w_ret | apply w_then | apply w_then_exit | apply w_then_ret | apply w_in | apply w_in_here | apply w_in_ret | apply w_round | apply o_nil | apply d_nil)) | ((with_reducible (first | apply w_in_exit)); rfl) | ((with_reducible (first | apply w_draw)); rfl) | ((first | ((with_reducible (first | apply o_op | apply d_op | apply q_op)); rfl; rfl) | ((with_reducible (first | apply w_cond | apply w_end | apply w_return))) | ((with_reducible (first | apply o_guard | apply d_guard | apply q_guard)); rfl) | ((with_reducible (first | apply o_call_eq | apply d_call | apply q_call)); rfl)); all_goals (first | ((with_reducible show Is _ _); ((try simp (disch := first | omega | (simp only [yA, yB, yC, yD, yE] <;> omega) | fail) [go_sem, yF, yG, yH, *, if_pos, if_neg, -List.map_take, -List.map_drop, -List.map_append, -List.map_reverse]); exact rfl)) | ((fail_if_success (with_reducible show Is _ _)); (first | ((with_reducible refine fun (hc : (_ : Bool) = _) => ?_); (try simp only [xA, xB, xC, xD, xE, xF, xG, xH, reduceCtorEq, xI, xJ, xK, xL, xM, xN, xO, xP, xQ, xR] at hc); (try (have hx : True := hc; clear hx hc)); (try (exfalso; omega)); (try (with_reducible (exact absurd hc (by assumption)))); (try (with_reducible (exact absurd (by assumption) hc)))) | ((with_reducible show ACall _ _ _ _ _); (first | ((with_reducible (first | apply k1)) <;> (first | omega | assumption | exact rfl | ((simp (disch := first | omega | (simp only [yA, yB, yC, yD, yE] <;> omega) | fail) [go_sem, yF, yG, yH, *, -List.map_take, -List.map_drop, -List.map_append, -List.map_reverse]) <;> (first | done | omega | exact rfl)))) | ((with_reducible (first | apply k2)) <;> (first | omega | assumption | exact rfl | ((simp (disch := first | omega | (simp only [yA, yB, yC, yD, yE] <;> omega) | fail) [go_sem, yF, yG, yH, *, -List.map_take, -List.map_drop, -List.map_append, -List.map_reverse]) <;> (first | done | omega | exact rfl)))) | ((with_reducible (first | apply k3)) <;> (first | omega | assumption | exact rfl | ((simp (disch := first | omega | (simp only [yA, yB, yC, yD, yE] <;> omega) | fail) [go_sem, yF, yG, yH, *, -List.map_take, -List.map_drop, -List.map_append, -List.map_reverse]) <;> (first | done | omega | exact rfl)))))) | ((fail_if_success (with_reducible show ACall _ _ _ _ _)); (try ((with_reducible show _ ∨ _); first | exact .inl rfl | (refine .inr ⟨rfl, ?_, ?_⟩; (focus (repeat (first | exact trivial | refine ⟨.inl rfl, ?_⟩ | refine ⟨.inr rfl, ?_⟩))); (first | exact trivial | exact rfl))))))))))
  exact ⟨rfl, rfl⟩
def epP (l : List UInt8) (a : Nat) : Nat := 1 + bgV l (adA l a) 65535
def epA (l : List UInt8) (a : Nat) : Nat := bgA l (adA l a)
def epG (l : List UInt8) (a : Nat) : List Box := ⟨.bool (adSix l a) :: ((adIP l a).map byteC ++ [.int .i64 (epP l a : Nat)]), false⟩ :: adG l a
theorem epA_le {l : List UInt8} {a : Nat} (h : a ≤ l.length) : epA l a ≤ l.length := bgA_le (adA_le h)
theorem epP_le (l : List UInt8) (a : Nat) : 1 ≤ epP l a ∧ epP l a ≤ 65535 := by
  have := bgV_lt (l := l) (a := adA l a) (n := 65535) (by omega)
  unfold epP; omega
theorem endpoint_at {B : List Box} {β : Nat} {args : List CV} {l : List UInt8} {a : Nat} (ha : Is args [.ptr β 0]) (hB : B[β]? = some (cb l a)) (hl : a ≤ l.length ∧ l.length < 1000000) : ACall Tryd.prog 8 args B fun c B' => c = prefC (adSix l a) (adIP l a) (epP l a) ∧ B' = B.set β (cb l (epA l a)) ++ epG l a := by
  have ha : args = _ := ha
  subst ha
  obtain ⟨p1, p2, p3, p4, p5, p6, p7, p8, p9, p10, p11, p12, p13⟩ := bx_pack hB
  have had : ∀ (B : List Box) (args : List CV), Is args [.ptr β 0] → B[β]? = some (cb l a) → ACall Tryd.prog 7 args B fun c B' => c = addrC (adSix l a) (adIP l a) ∧ B' = B.set β (cb l (adA l a)) ++ adG l a := fun B args h h2 => addr_at h h2 hl
  have hal := adA_le hl.1
  have hlen := adIP_len l a
  have hbg : ∀ (B : List Box) (args : List CV), Is args [.ptr β 0, .int .i64 65535] → B[β]? = some (cb l (adA l a)) → ACall Tryd.prog 31 args B fun c B' => c = .int .i64 (bgV l (adA l a) 65535) ∧ B' = B.set β (cb l (bgA l (adA l a))) := fun B args h h2 => big_at (n := 65535) h rfl (by omega) h2 ⟨hal, hl.2⟩
  have hb := bgV_lt (l := l) (a := adA l a) (n := 65535) (by omega)
  rw [epA, epG, epP]
  generalize bgV l (adA l a) 65535 = v at *
  generalize bgA l (adA l a) = a2 at *
  generalize adSix l a = six at *
  generalize adIP l a = A at *
  generalize adG l a = G at *
  generalize adA l a = a1 at *
  refine acall_intro mixed Tryd.func8 rfl ca8 (by kernel_rfl) (by rw [Tryd.ntmps8]; simp) ?_
  cases six
  all_goals
    repeat' (first | (with_reducible (first | apply w_seq | apply w_region | apply w_block | apply w_skip | apply w_exit | apply w_ret | apply w_then | apply w_then_exit | apply w_then_ret | apply w_in | apply w_in_here | apply w_in_ret | apply w_round | apply o_nil | apply d_nil)) | ((with_reducible (first | apply w_in_exit)); rfl) | ((with_reducible (first | apply w_draw)); rfl) | ((with_reducible (first | apply w_drawA)); (conv => lhs; reduce); ((try simp (disch := first | omega | (simp only [yA, yB, yC, yD, yE] <;> omega) | fail) [go_sem, yF, yG, yH, *, addrC, prefC, bx_get0, bx_get, bx_set0, bx_set, if_pos, if_neg, -List.map_take, -List.map_drop, -List.map_append, -List.map_reverse]); exact rfl); ((try simp (disch := first | omega | (simp only [yA, yB, yC, yD, yE] <;> omega) | fail) [go_sem, yF, yG, yH, *, addrC, prefC, bx_get0, bx_get, bx_set0, bx_set, if_pos, if_neg, -List.map_take, -List.map_drop, -List.map_append, -List.map_reverse]); exact rfl)) | ((first | ((with_reducible (first | apply d_made | apply q_made)); rfl; rfl)); (iterate 6 ((try simp (disch := first | omega | (simp only [yA, yB, yC, yD, yE] <;> omega) | fail) [go_sem, yF, yG, yH, *, addrC, prefC, bx_get0, bx_get, bx_set0, bx_set, if_pos, if_neg, -List.map_take, -List.map_drop, -List.map_append, -List.map_reverse]); exact rfl))) | ((first | ((with_reducible (first | apply d_fop | apply q_fop)); rfl; rfl)); (intro Bx hJ; (first | (obtain ⟨_, hJ1, hJ2⟩ := hJ) | (try simp only at hJ)); ((try simp (disch := first | omega | (simp only [yA, yB, yC, yD, yE] <;> omega) | fail) [go_sem, yF, yG, yH, *, addrC, prefC, bx_get0, bx_get, bx_set0, bx_set, if_pos, if_neg, -List.map_take, -List.map_drop, -List.map_append, -List.map_reverse]); exact rfl))) | ((with_reducible (first | apply d_free | apply q_free)); rfl; (iterate 2 ((try simp (disch := first | omega | (simp only [yA, yB, yC, yD, yE] <;> omega) | fail) [go_sem, yF, yG, yH, *, addrC, prefC, bx_get0, bx_get, bx_set0, bx_set, if_pos, if_neg, -List.map_take, -List.map_drop, -List.map_append, -List.map_reverse]); exact rfl)); (intro Bx hJ); (first | ((with_reducible (first | apply had)) <;> (first | omega | assumption | exact rfl | ((simp (disch := first | omega | (simp only [yA, yB, yC, yD, yE] <;> omega) | fail) [go_sem, yF, yG, yH, *, addrC, prefC, bx_get0, bx_get, bx_set0, bx_set, -List.map_take, -List.map_drop, -List.map_append, -List.map_reverse]) <;> (first | done | omega | exact rfl)))) | ((with_reducible (first | apply hbg)) <;> (first | omega | assumption | exact rfl | ((simp (disch := first | omega | (simp only [yA, yB, yC, yD, yE] <;> omega) | fail) [go_sem, yF, yG, yH, *, addrC, prefC, bx_get0, bx_get, bx_set0, bx_set, -List.map_take, -List.map_drop, -List.map_append, -List.map_reverse]) <;> (first | done | omega | exact rfl)))))) | ((first | ((with_reducible (first | apply o_op | apply d_op | apply q_op)); rfl; rfl) | ((with_reducible (first | apply w_cond | apply w_end | apply w_return))) | ((with_reducible (first | apply o_guard | apply d_guard | apply q_guard)); rfl) | ((with_reducible (first | apply o_call_eq | apply d_call | apply q_call)); rfl)); all_goals (first | ((with_reducible show Is _ _); ((try simp (disch := first | omega | (simp only [yA, yB, yC, yD, yE] <;> omega) | fail) [go_sem, yF, yG, yH, *, addrC, prefC, bx_get0, bx_get, bx_set0, bx_set, if_pos, if_neg, -List.map_take, -List.map_drop, -List.map_append, -List.map_reverse]); exact rfl)) | ((fail_if_success (with_reducible show Is _ _)); (first | ((with_reducible refine fun (hc : (_ : Bool) = _) => ?_); (try simp only [xA, xB, xC, xD, xE, xF, xG, xH, reduceCtorEq, xI, xJ, xK, xL, xM, xN, xO, xP, xQ, xR] at hc); (try (have hx : True := hc; clear hx hc)); (try (exfalso; omega)); (try (with_reducible (exact absurd hc (by assumption)))); (try (with_reducible (exact absurd (by assumption) hc)))) | ((with_reducible show ACall _ _ _ _ _); (first | ((with_reducible (first | apply had)) <;> (first | omega | assumption | exact rfl | ((simp (disch := first | omega | (simp only [yA, yB, yC, yD, yE] <;> omega) | fail) [go_sem, yF, yG, yH, *, addrC, prefC, bx_get0, bx_get, bx_set0, bx_set, -List.map_take, -List.map_drop, -List.map_append, -List.map_reverse]) <;> (first | done | omega | exact rfl)))) | ((with_reducible (first | apply hbg)) <;> (first | omega | assumption | exact rfl | ((simp (disch := first | omega | (simp only [yA, yB, yC, yD, yE] <;> omega) | fail) [go_sem, yF, yG, yH, *, addrC, prefC, bx_get0, bx_get, bx_set0, bx_set, -List.map_take, -List.map_drop, -List.map_append, -List.map_reverse]) <;> (first | done | omega | exact rfl)))))) | ((fail_if_success (with_reducible show ACall _ _ _ _ _)); (try ((with_reducible show _ ∨ _); first | exact .inl rfl | (refine .inr ⟨rfl, ?_, ?_⟩; (focus (repeat (first | exact trivial | refine ⟨.inl rfl, ?_⟩ | refine ⟨.inr rfl, ?_⟩ | refine ⟨.inr (by (simp (disch := first | omega | (simp only [yA, yB, yC, yD, yE] <;> omega) | fail) [go_sem, yF, yG, yH, *, addrC, prefC, bx_get0, bx_get, bx_set0, bx_set, -List.map_take, -List.map_drop, -List.map_append, -List.map_reverse])), ?_⟩))); (first | exact trivial | exact rfl | (refine ⟨_, ?_, ?_⟩; (focus (simp (disch := first | omega | (simp only [yA, yB, yC, yD, yE] <;> omega) | fail) [go_sem, yF, yG, yH, *, addrC, prefC, bx_get0, bx_get, bx_set0, bx_set, -List.map_take, -List.map_drop, -List.map_append, -List.map_reverse]; (try exact rfl))); (simp (disch := first | omega | (simp only [yA, yB, yC, yD, yE] <;> omega) | fail) [go_sem, yF, yG, yH, *, addrC, prefC, bx_get0, bx_get, bx_set0, bx_set, -List.map_take, -List.map_drop, -List.map_append, -List.map_reverse])) | (simp (disch := first | omega | (simp only [yA, yB, yC, yD, yE] <;> omega) | fail) [go_sem, yF, yG, yH, *, addrC, prefC, bx_get0, bx_get, bx_set0, bx_set, -List.map_take, -List.map_drop, -List.map_append, -List.map_reverse]))) | exact .inl (by (simp (disch := first | omega | (simp only [yA, yB, yC, yD, yE] <;> omega) | fail) [go_sem, yF, yG, yH, *, addrC, prefC, bx_get0, bx_get, bx_set0, bx_set, -List.map_take, -List.map_drop, -List.map_append, -List.map_reverse]))))))))))
    exact ⟨rfl, rfl⟩
end Go.Proofs.YtdceppjoipoohaaDoor
end
section
namespace Go.Sy
set_option linter.all false
open Go.RowKit (Below)
section
variable {P : Program} {I I' : Nat → Nat → Prop} {μ : List (List Place)} {w w' : World} {B : List Box}
theorem acall_of_calls {f : FuncId} {args : List CV} {Q : CV → Prop} (hc : callable P f = true)
    (h : ∀ (I : Nat → Nat → Prop) (μ : List (List Place)) (w : World) (vs : List Value), TabsOk I w → (∀ b j, I b j → b < w.heap.size) → R I μ w false args vs →
      Calls P f vs.toArray w fun e w' => ∃ c v, e = .returned v ∧ Q c ∧ Below w.heap.size w w' ∧ V (fun b j => I b j ∨ (w.heap.size ≤ b ∧ b < w'.heap.size)) μ w' c v) :
    ACall P f args B fun c B' => Q c ∧ B' = B :=
  ⟨hc, fun N I μ w vs hB hv => (h I μ w vs hB.tabs hB.imm hv).mono fun e w' ⟨c, v, he, hq, hbel, hval⟩ => by
    obtain ⟨g1, g2, g3⟩ := hB.behind (I2 := fun b j => I b j ∨ (w.heap.size ≤ b ∧ b < w'.heap.size)) hbel (fun b j h => .inl h) (fun b j h => h)
    exact ⟨c, v, B, _, μ, he, ⟨hq, rfl⟩, ⟨hval, g1, g2, g3⟩⟩⟩
theorem R.str_cons {one : Bool} {s : List UInt8} {cs : List CV} {vs : List Value} (h : R I μ w one (.str s :: cs) vs) : ∃ ws, vs = .string ⟨s.toArray⟩ :: ws ∧ R I μ w one cs ws := by
  cases h with
  | str s tl => exact ⟨_, rfl, tl⟩
theorem R.int_cons {one : Bool} {k : IntKind} {n : Int} {cs : List CV} {vs : List Value} (h : R I μ w one (.int k n :: cs) vs) : ∃ ws, vs = .int k n :: ws ∧ R I μ w one cs ws := by
  cases h with
  | int k n tl => exact ⟨_, rfl, tl⟩
theorem R.none {one : Bool} {vs : List Value} (h : R I μ w one [] vs) : vs = [] := by cases h; rfl
theorem Below.same : Below w.heap.size w w := ⟨rfl, rfl, rfl, Nat.le_refl _, fun _ _ => rfl⟩
theorem Below.drewN' (n : Nat) : Below w.heap.size w (w.drewN n) := ⟨rfl, rfl, rfl, Nat.le_refl _, fun _ _ => rfl⟩
end
end Go.Sy
end
section
namespace Go.Proofs
open Go.Shelf
def Tryd.lays156_ren : Go.Shelf.Ren := ⟨fun | 156 => 42 | 165 => 76 | 166 => 56 | 169 => 59 | 240 => 86 | 241 => 97 | 276 => 103 | 277 => 110 | n => n, fun | 31 => 39 | 9 => 9 | 3 => 3 | 4 => 4 | 0 => 0 | 20 => 20 | 72 => 94 | 76 => 97 | 70 => 92 | 37 => 22 | 75 => 96 | 127 => 115 | 164 => 131 | 5 => 5 | 80 => 101 | n => n, fun | n => n⟩
theorem Tryd.lays156 : Go.Proofs.Lays.n156 Tryd.prog Tryd.lays156_ren := {
  mixed := by kernel_rfl
  f156 := Tryd.func42.trans (congrArg some (by kernel_rfl))
  f165 := Tryd.func76.trans (congrArg some (by kernel_rfl))
  f166 := Tryd.func56.trans (congrArg some (by kernel_rfl))
  f169 := Tryd.func59.trans (congrArg some (by kernel_rfl))
  f240 := Tryd.func86.trans (congrArg some (by kernel_rfl))
  f241 := Tryd.func97.trans (congrArg some (by kernel_rfl))
  f276 := Tryd.func103.trans (congrArg some (by kernel_rfl))
  f277 := Tryd.func110.trans (congrArg some (by kernel_rfl))
  t0 := Tryd.underlying0
  a0 := Tryd.isAgg0
  z0 := Tryd.sizeOf0
  v0 := Tryd.zeroValue0
  t3 := Tryd.underlying3
  a3 := Tryd.isAgg3
  z3 := Tryd.sizeOf3
  v3 := Tryd.zeroValue3
  t4 := Tryd.underlying4
  a4 := Tryd.isAgg4
  z4 := Tryd.sizeOf4
  v4 := Tryd.zeroValue4
  t9 := Tryd.underlying9
  a9 := Tryd.isAgg9
  z9 := Tryd.sizeOf9
  v9 := Tryd.zeroValue9
  t20 := Tryd.underlying20
  a20 := Tryd.isAgg20
  z20 := Tryd.sizeOf20
  v20 := Tryd.zeroValue20
  t31 := Tryd.underlying39
  a31 := Tryd.isAgg39
  z31 := Tryd.sizeOf39
  v31 := Tryd.zeroValue39
  t37 := Tryd.underlying22
  a37 := Tryd.isAgg22
  z37 := Tryd.sizeOf22
  v37 := Tryd.zeroValue22
  t70 := Tryd.underlying92
  a70 := Tryd.isAgg92
  z70 := Tryd.sizeOf92
  v70 := Tryd.zeroValue92
  t72 := Tryd.underlying94
  a72 := Tryd.isAgg94
  z72 := Tryd.sizeOf94
  v72 := Tryd.zeroValue94
  t75 := Tryd.underlying96
  a75 := Tryd.isAgg96
  z75 := Tryd.sizeOf96
  v75 := Tryd.zeroValue96
  t76 := Tryd.underlying97
  a76 := Tryd.isAgg97
  z76 := Tryd.sizeOf97
  v76 := Tryd.zeroValue97
  t127 := Tryd.underlying115
  a127 := Tryd.isAgg115
  z127 := Tryd.sizeOf115
  v127 := Tryd.zeroValue115
  t164 := Tryd.underlying131
  a164 := Tryd.isAgg131
  z164 := Tryd.sizeOf131
  v164 := Tryd.zeroValue131 }
theorem Tryd.Builder_Extra_156 : Builder.Extra Tryd.prog Tryd.lays156_ren := {
  sizeBuilder := by kernel_rfl
  liesBuilder := by kernel_rfl
  t5 := Tryd.underlying5
  a5 := Tryd.isAgg5
  z5 := Tryd.sizeOf5
  v5 := Tryd.zeroValue5
  infoByte := by kernel_rfl
  cellsByte := by kernel_rfl
  sizeByte := by kernel_rfl
  neB5 := by decide }
open Go.RowKit in
theorem Tryd.strings_Join_none (a : Option Addr) (c : Nat) (sep : ByteArray) (w : World) :
    Calls Tryd.prog 42 #[.slice a 0 c, .string sep] w fun e w' => e = .returned (.string ⟨#[]⟩) ∧ w' = w := Any.strings_Join_none Tryd.lays156 Tryd.Builder_Extra_156 a c sep w
open Go.RowKit in
theorem Tryd.strings_Join (bk o c : Nat) (xs : List ByteArray) (sep : ByteArray) (w : World) (hcells : ∀ (j : Nat) x, xs[j]? = some x → w.cell? ⟨bk, o + j, none⟩ = some (.string x)) (hbk : bk < w.heap.size) (hN : xs.length ≤ 140737488355328) (hcap : xs.length ≤ c) (hlen : (Lib.join (xs.map (·.data.toList)) sep.data.toList).length ≤ 140737488355328) :
    Calls Tryd.prog 42 #[.slice (some ⟨bk, o, none⟩) xs.length c, .string sep] w fun e w' => e = .returned (.string ⟨(Lib.join (xs.map (·.data.toList)) sep.data.toList).toArray⟩) ∧ Below w.heap.size w w' := Any.strings_Join Tryd.lays156 Tryd.Builder_Extra_156 bk o c xs sep w hcells hbk hN hcap hlen
def Tryd.laysM171_ren : Go.Shelf.Ren := ⟨fun | 171 => 43 | 243 => 77 | 246 => 75 | 283 => 93 | 284 => 94 | 285 => 95 | 286 => 96 | 129 => 106 | 317 => 105 | 318 => 107 | 319 => 108 | 320 => 109 | 337 => 118 | 338 => 119 | n => n, fun | 3 => 3 | 9 => 9 | 2 => 2 | 4 => 4 | 171 => 121 | 0 => 0 | 53 => 122 | 37 => 22 | 5 => 5 | 173 => 125 | 212 => 135 | 51 => 128 | 20 => 20 | 213 => 136 | 46 => 72 | 232 => 51 | 233 => 142 | n => n, fun | 17 => 1 | 18 => 2 | 19 => 3 | n => n⟩
theorem Tryd.laysM171 : Go.Proofs.LaysM.n171 Tryd.prog Tryd.laysM171_ren := {
  mixed := by kernel_rfl
  f129 := Tryd.func106.trans (congrArg some (by kernel_rfl))
  f171 := Tryd.func43.trans (congrArg some (by kernel_rfl))
  f243 := Tryd.func77.trans (congrArg some (by kernel_rfl))
  f246 := Tryd.func75.trans (congrArg some (by kernel_rfl))
  f283 := Tryd.func93.trans (congrArg some (by kernel_rfl))
  f284 := Tryd.func94.trans (congrArg some (by kernel_rfl))
  f285 := Tryd.func95.trans (congrArg some (by kernel_rfl))
  f286 := Tryd.func96.trans (congrArg some (by kernel_rfl))
  f317 := Tryd.func105.trans (congrArg some (by kernel_rfl))
  f318 := Tryd.func107.trans (congrArg some (by kernel_rfl))
  f319 := Tryd.func108.trans (congrArg some (by kernel_rfl))
  f320 := Tryd.func109.trans (congrArg some (by kernel_rfl))
  f337 := Tryd.func118.trans (congrArg some (by kernel_rfl))
  f338 := Tryd.func119.trans (congrArg some (by kernel_rfl))
  t0 := Tryd.underlying0
  a0 := Tryd.isAgg0
  z0 := Tryd.sizeOf0
  v0 := Tryd.zeroValue0
  t2 := Tryd.underlying2
  a2 := Tryd.isAgg2
  z2 := Tryd.sizeOf2
  v2 := Tryd.zeroValue2
  t3 := Tryd.underlying3
  a3 := Tryd.isAgg3
  z3 := Tryd.sizeOf3
  v3 := Tryd.zeroValue3
  t4 := Tryd.underlying4
  a4 := Tryd.isAgg4
  z4 := Tryd.sizeOf4
  v4 := Tryd.zeroValue4
  t5 := Tryd.underlying5
  a5 := Tryd.isAgg5
  z5 := Tryd.sizeOf5
  v5 := Tryd.zeroValue5
  t9 := Tryd.underlying9
  a9 := Tryd.isAgg9
  z9 := Tryd.sizeOf9
  v9 := Tryd.zeroValue9
  t20 := Tryd.underlying20
  a20 := Tryd.isAgg20
  z20 := Tryd.sizeOf20
  v20 := Tryd.zeroValue20
  t37 := Tryd.underlying22
  a37 := Tryd.isAgg22
  z37 := Tryd.sizeOf22
  v37 := Tryd.zeroValue22
  t46 := Tryd.underlying72
  a46 := Tryd.isAgg72
  z46 := Tryd.sizeOf72
  v46 := Tryd.zeroValue72
  t51 := Tryd.underlying128
  a51 := Tryd.isAgg128
  z51 := Tryd.sizeOf128
  v51 := Tryd.zeroValue128
  t53 := Tryd.underlying122
  a53 := Tryd.isAgg122
  z53 := Tryd.sizeOf122
  v53 := Tryd.zeroValue122
  t171 := Tryd.underlying121
  a171 := Tryd.isAgg121
  z171 := Tryd.sizeOf121
  v171 := Tryd.zeroValue121
  t173 := Tryd.underlying125
  a173 := Tryd.isAgg125
  z173 := Tryd.sizeOf125
  v173 := Tryd.zeroValue125
  t212 := Tryd.underlying135
  a212 := Tryd.isAgg135
  z212 := Tryd.sizeOf135
  v212 := Tryd.zeroValue135
  t213 := Tryd.underlying136
  a213 := Tryd.isAgg136
  z213 := Tryd.sizeOf136
  t232 := Tryd.underlying51
  a232 := Tryd.isAgg51
  z232 := Tryd.sizeOf51
  v232 := Tryd.zeroValue51
  t233 := Tryd.underlying142
  a233 := Tryd.isAgg142
  z233 := Tryd.sizeOf142
  v233 := Tryd.zeroValue142
  g17 := by kernel_rfl
  g18 := by kernel_rfl
  g19 := by kernel_rfl
  i0 := by kernel_rfl
  i2 := by kernel_rfl
  i3 := by kernel_rfl
  i4 := by kernel_rfl
  i5 := by kernel_rfl
  i9 := by kernel_rfl
  i20 := by kernel_rfl
  i37 := by kernel_rfl
  i46 := by kernel_rfl
  i51 := by kernel_rfl
  i53 := by kernel_rfl
  i171 := by kernel_rfl
  i173 := by kernel_rfl
  i212 := by kernel_rfl
  i232 := by kernel_rfl
  i233 := by kernel_rfl
  m17 := by kernel_rfl
  m18 := by kernel_rfl
  m19 := by kernel_rfl }
open Go.RowKit Go.Sort Go.Lib in
theorem Tryd.strconv_Itoa (n : Int) (h0 : -9223372036854775808 ≤ n) (h1 : n ≤ 9223372036854775807) (w : World) (htab : Lib.TabIs Tryd.prog w "internal/strconv.uint64pow10" .u64 Lib.pow10Tab) :
    Calls Tryd.prog 43 #[.int .i64 n] w fun e w' => e = .returned (.string ⟨(Lib.itoa n).toArray⟩) ∧ ∃ k os, w' = grow (w.drewN k) os := Any.strconv_Itoa Tryd.laysM171 n h0 h1 w htab
def Tryd.lays145_ren : Go.Shelf.Ren := ⟨fun | 145 => 52 | 220 => 85 | 219 => 102 | 217 => 114 | 225 => 115 | 224 => 116 | 267 => 117 | 266 => 121 | 314 => 122 | n => n, fun | 9 => 9 | 4 => 4 | 59 => 84 | 3 => 3 | 5 => 5 | 46 => 72 | 146 => 129 | 51 => 128 | n => n, fun | 1 => 0 | n => n⟩
theorem Tryd.lays145 : Go.Proofs.Lays.n145 Tryd.prog Tryd.lays145_ren := {
  mixed := by kernel_rfl
  f145 := Tryd.func52.trans (congrArg some (by kernel_rfl))
  f217 := Tryd.func114.trans (congrArg some (by kernel_rfl))
  f219 := Tryd.func102.trans (congrArg some (by kernel_rfl))
  f220 := Tryd.func85.trans (congrArg some (by kernel_rfl))
  f224 := Tryd.func116.trans (congrArg some (by kernel_rfl))
  f225 := Tryd.func115.trans (congrArg some (by kernel_rfl))
  f266 := Tryd.func121.trans (congrArg some (by kernel_rfl))
  f267 := Tryd.func117.trans (congrArg some (by kernel_rfl))
  f314 := Tryd.func122.trans (congrArg some (by kernel_rfl))
  t3 := Tryd.underlying3
  a3 := Tryd.isAgg3
  z3 := Tryd.sizeOf3
  v3 := Tryd.zeroValue3
  t4 := Tryd.underlying4
  a4 := Tryd.isAgg4
  z4 := Tryd.sizeOf4
  v4 := Tryd.zeroValue4
  t5 := Tryd.underlying5
  a5 := Tryd.isAgg5
  z5 := Tryd.sizeOf5
  v5 := Tryd.zeroValue5
  t9 := Tryd.underlying9
  a9 := Tryd.isAgg9
  z9 := Tryd.sizeOf9
  v9 := Tryd.zeroValue9
  t46 := Tryd.underlying72
  a46 := Tryd.isAgg72
  z46 := Tryd.sizeOf72
  v46 := Tryd.zeroValue72
  t51 := Tryd.underlying128
  a51 := Tryd.isAgg128
  z51 := Tryd.sizeOf128
  v51 := Tryd.zeroValue128
  t59 := Tryd.underlying84
  a59 := Tryd.isAgg84
  z59 := Tryd.sizeOf84
  v59 := Tryd.zeroValue84
  t146 := Tryd.underlying129
  a146 := Tryd.isAgg129
  z146 := Tryd.sizeOf129
  v146 := Tryd.zeroValue129
  g1 := by kernel_rfl }
open Go.RowKit Go.Lib in
theorem Tryd.strings_Cut (s sep : ByteArray) (m : Int) (w : World) (hs : s.size < 4294967281) (hm : w.cell? ⟨0, 0, none⟩ = some (.int .i64 m)) :
    Calls Tryd.prog 52 #[.string s, .string sep] w fun e w' => e = .returned (.tuple #[.string ⟨(Lib.cut s.data.toList sep.data.toList).1.toArray⟩, .string ⟨(Lib.cut s.data.toList sep.data.toList).2.1.toArray⟩, .bool (Lib.cut s.data.toList sep.data.toList).2.2]) ∧ ∃ n, w' = w.drewN n := Any.strings_Cut Tryd.lays145 s sep m w hs hm
def Tryd.lays148_ren : Go.Shelf.Ren := ⟨fun | 148 => 49 | 222 => 81 | 223 => 82 | 269 => 101 | n => n, fun | 9 => 9 | 3 => 3 | 4 => 4 | 5 => 5 | 146 => 129 | 51 => 128 | 46 => 72 | n => n, fun | n => n⟩
theorem Tryd.lays148 : Go.Proofs.Lays.n148 Tryd.prog Tryd.lays148_ren := {
  mixed := by kernel_rfl
  f148 := Tryd.func49.trans (congrArg some (by kernel_rfl))
  f222 := Tryd.func81.trans (congrArg some (by kernel_rfl))
  f223 := Tryd.func82.trans (congrArg some (by kernel_rfl))
  f269 := Tryd.func101.trans (congrArg some (by kernel_rfl))
  t3 := Tryd.underlying3
  a3 := Tryd.isAgg3
  z3 := Tryd.sizeOf3
  v3 := Tryd.zeroValue3
  t4 := Tryd.underlying4
  a4 := Tryd.isAgg4
  z4 := Tryd.sizeOf4
  v4 := Tryd.zeroValue4
  t5 := Tryd.underlying5
  a5 := Tryd.isAgg5
  z5 := Tryd.sizeOf5
  v5 := Tryd.zeroValue5
  t9 := Tryd.underlying9
  a9 := Tryd.isAgg9
  z9 := Tryd.sizeOf9
  v9 := Tryd.zeroValue9
  t46 := Tryd.underlying72
  a46 := Tryd.isAgg72
  z46 := Tryd.sizeOf72
  v46 := Tryd.zeroValue72
  t51 := Tryd.underlying128
  a51 := Tryd.isAgg128
  z51 := Tryd.sizeOf128
  v51 := Tryd.zeroValue128
  t146 := Tryd.underlying129
  a146 := Tryd.isAgg129
  z146 := Tryd.sizeOf129
  v146 := Tryd.zeroValue129 }
open Go.RowKit Go.Lib in
theorem Tryd.strings_LastIndex (s sub : ByteArray) (hs : s.size < 4611686018427387904) (w : World) :
    Calls Tryd.prog 49 #[.string s, .string sub] w fun e w' => e = .returned (.int .i64 (Lib.lastIndex s.data.toList sub.data.toList)) ∧ w' = w := Any.strings_LastIndex Tryd.lays148 s sub hs w
def Tryd.lays99_ren : Go.Shelf.Ren := ⟨fun | 99 => 50 | 206 => 83 | n => n, fun | 9 => 9 | 4 => 4 | 3 => 3 | n => n, fun | n => n⟩
theorem Tryd.lays99 : Go.Proofs.Lays.n99 Tryd.prog Tryd.lays99_ren := {
  mixed := by kernel_rfl
  f99 := Tryd.func50.trans (congrArg some (by kernel_rfl))
  f206 := Tryd.func83.trans (congrArg some (by kernel_rfl))
  t3 := Tryd.underlying3
  a3 := Tryd.isAgg3
  z3 := Tryd.sizeOf3
  v3 := Tryd.zeroValue3
  t4 := Tryd.underlying4
  a4 := Tryd.isAgg4
  z4 := Tryd.sizeOf4
  v4 := Tryd.zeroValue4
  t9 := Tryd.underlying9
  a9 := Tryd.isAgg9
  z9 := Tryd.sizeOf9
  v9 := Tryd.zeroValue9 }
open Go.RowKit Go.Lib in
theorem Tryd.strings_HasPrefix (s p : ByteArray) (w : World) :
    Calls Tryd.prog 50 #[.string s, .string p] w fun e w' => e = .returned (.bool (Lib.hasPrefix s.data.toList p.data.toList)) ∧ w' = w := Any.strings_HasPrefix Tryd.lays99 s p w
def Tryd.lays100_ren : Go.Shelf.Ren := ⟨fun | 100 => 51 | 207 => 84 | n => n, fun | 9 => 9 | 4 => 4 | 3 => 3 | n => n, fun | n => n⟩
theorem Tryd.lays100 : Go.Proofs.Lays.n100 Tryd.prog Tryd.lays100_ren := {
  mixed := by kernel_rfl
  f100 := Tryd.func51.trans (congrArg some (by kernel_rfl))
  f207 := Tryd.func84.trans (congrArg some (by kernel_rfl))
  t3 := Tryd.underlying3
  a3 := Tryd.isAgg3
  z3 := Tryd.sizeOf3
  v3 := Tryd.zeroValue3
  t4 := Tryd.underlying4
  a4 := Tryd.isAgg4
  z4 := Tryd.sizeOf4
  v4 := Tryd.zeroValue4
  t9 := Tryd.underlying9
  a9 := Tryd.isAgg9
  z9 := Tryd.sizeOf9
  v9 := Tryd.zeroValue9 }
open Go.RowKit Go.Lib in
theorem Tryd.strings_HasSuffix (s p : ByteArray) (w : World) (hs : s.size ≤ 9223372036854775807) :
    Calls Tryd.prog 51 #[.string s, .string p] w fun e w' => e = .returned (.bool (Lib.hasSuffix s.data.toList p.data.toList)) ∧ w' = w := Any.strings_HasSuffix Tryd.lays100 s p w hs
def Tryd.lays146_ren : Go.Shelf.Ren := ⟨fun | 146 => 46 | 221 => 80 | 268 => 98 | 138 => 99 | 143 => 100 | 195 => 111 | 197 => 112 | 218 => 113 | 219 => 102 | 260 => 120 | 217 => 114 | 225 => 115 | 224 => 116 | 267 => 117 | 266 => 121 | 314 => 122 | n => n, fun | 9 => 9 | 31 => 39 | 3 => 3 | 4 => 4 | 0 => 0 | 105 => 139 | 21 => 21 | 5 => 5 | 46 => 72 | 119 => 143 | 139 => 146 | 138 => 145 | 146 => 129 | 51 => 128 | n => n, fun | 1 => 0 | 3 => 4 | 4 => 5 | n => n⟩
theorem Tryd.lays146 : Go.Proofs.Lays.n146 Tryd.prog Tryd.lays146_ren := {
  mixed := by kernel_rfl
  f138 := Tryd.func99.trans (congrArg some (by kernel_rfl))
  f143 := Tryd.func100.trans (congrArg some (by kernel_rfl))
  f146 := Tryd.func46.trans (congrArg some (by kernel_rfl))
  f195 := Tryd.func111.trans (congrArg some (by kernel_rfl))
  f197 := Tryd.func112.trans (congrArg some (by kernel_rfl))
  f217 := Tryd.func114.trans (congrArg some (by kernel_rfl))
  f218 := Tryd.func113.trans (congrArg some (by kernel_rfl))
  f219 := Tryd.func102.trans (congrArg some (by kernel_rfl))
  f221 := Tryd.func80.trans (congrArg some (by kernel_rfl))
  f224 := Tryd.func116.trans (congrArg some (by kernel_rfl))
  f225 := Tryd.func115.trans (congrArg some (by kernel_rfl))
  f260 := Tryd.func120.trans (congrArg some (by kernel_rfl))
  f266 := Tryd.func121.trans (congrArg some (by kernel_rfl))
  f267 := Tryd.func117.trans (congrArg some (by kernel_rfl))
  f268 := Tryd.func98.trans (congrArg some (by kernel_rfl))
  f314 := Tryd.func122.trans (congrArg some (by kernel_rfl))
  t0 := Tryd.underlying0
  a0 := Tryd.isAgg0
  z0 := Tryd.sizeOf0
  v0 := Tryd.zeroValue0
  t3 := Tryd.underlying3
  a3 := Tryd.isAgg3
  z3 := Tryd.sizeOf3
  v3 := Tryd.zeroValue3
  t4 := Tryd.underlying4
  a4 := Tryd.isAgg4
  z4 := Tryd.sizeOf4
  v4 := Tryd.zeroValue4
  t5 := Tryd.underlying5
  a5 := Tryd.isAgg5
  z5 := Tryd.sizeOf5
  v5 := Tryd.zeroValue5
  t9 := Tryd.underlying9
  a9 := Tryd.isAgg9
  z9 := Tryd.sizeOf9
  v9 := Tryd.zeroValue9
  t21 := Tryd.underlying21
  a21 := Tryd.isAgg21
  z21 := Tryd.sizeOf21
  v21 := Tryd.zeroValue21
  t31 := Tryd.underlying39
  a31 := Tryd.isAgg39
  z31 := Tryd.sizeOf39
  v31 := Tryd.zeroValue39
  t46 := Tryd.underlying72
  a46 := Tryd.isAgg72
  z46 := Tryd.sizeOf72
  v46 := Tryd.zeroValue72
  t51 := Tryd.underlying128
  a51 := Tryd.isAgg128
  z51 := Tryd.sizeOf128
  v51 := Tryd.zeroValue128
  t105 := Tryd.underlying139
  a105 := Tryd.isAgg139
  z105 := Tryd.sizeOf139
  v105 := Tryd.zeroValue139
  t119 := Tryd.underlying143
  a119 := Tryd.isAgg143
  z119 := Tryd.sizeOf143
  t138 := Tryd.underlying145
  a138 := Tryd.isAgg145
  z138 := Tryd.sizeOf145
  v138 := Tryd.zeroValue145
  t139 := Tryd.underlying146
  a139 := Tryd.isAgg146
  z139 := Tryd.sizeOf146
  v139 := Tryd.zeroValue146
  t146 := Tryd.underlying129
  a146 := Tryd.isAgg129
  z146 := Tryd.sizeOf129
  v146 := Tryd.zeroValue129
  g1 := by kernel_rfl
  g3 := by kernel_rfl
  g4 := by kernel_rfl }
open Go.RowKit Go.Lib in
theorem Tryd.strings_Split (s sep : ByteArray) (m : Int) (w : World) (hs : s.size < 4294967281) (hm : w.cell? ⟨0, 0, none⟩ = some (.int .i64 m)) (h1 : 1 ≤ sep.size) :
    Calls Tryd.prog 46 #[.string s, .string sep] w fun e w' =>
      e = .returned (.slice (some ⟨w.heap.size, 0, none⟩) (Lib.countB s sep + 1) (Lib.countB s sep + 1)) ∧ w' = w.alloc (.cells ((Lib.splitB sep 0 (Lib.countB s sep) s).map Value.string).toArray 9) := Any.strings_Split Tryd.lays146 (by kernel_rfl) s sep m w hs hm h1
end Go.Proofs
end
section
namespace Go.Proofs.YtdceppjoipoohaaDoor
open Go Go.Sy
set_option linter.all false
set_option maxRecDepth 100000
set_option maxHeartbeats 4000000
open Go.RowKit (Below)
theorem Below.grow' {w : World} (os : Array Obj) : Below w.heap.size w (Go.Sort.grow w os) := ⟨rfl, rfl, rfl, by simp [Go.Sort.grow], fun k hk => by simp [Go.Sort.grow, Array.getElem?_append, hk]⟩
theorem row_whole {w : World} {g : Nat} {vs : List Value} (h0 : vs ≠ []) (h : ∀ j : Nat, w.cell? ⟨g, j, none⟩ = vs[j]?) : ∃ cs ty fz, w.heap[g]? = some (.cells cs ty fz) ∧ cs.toList = vs := by
  have hx : ∀ j : Nat, w.cell? ⟨g, j, none⟩ = match w.heap[g]? with | some (.cells cs _ _) => cs[j]? | _ => none := fun j => by
    unfold World.cell?
    cases w.heap[g]? with
    | none => rfl
    | some o => cases o <;> rfl
  cases hg : w.heap[g]? with
  | none =>
    have := h 0
    rw [hx, hg] at this
    cases vs with
    | nil => exact absurd rfl h0
    | cons => cases this
  | some o =>
    cases o with
    | cells cs ty fz =>
      refine ⟨cs, ty, fz, rfl, List.ext_getElem? fun j => ?_⟩
      have := h j
      rw [hx, hg] at this
      rw [Array.getElem?_toList]
      exact this
    | _ =>
      have := h 0
      rw [hx, hg] at this
      cases vs with
      | nil => exact absurd rfl h0
      | cons => cases this
theorem tab_is {I : Nat → Nat → Prop} {w : World} (h : TabsOk I w) : Go.Lib.TabIs Tryd.prog w "internal/strconv.uint64pow10" .u64 Go.Lib.pow10Tab := by
  obtain ⟨cs, ty, fz, h1, h2⟩ := row_whole (g := 1) (vs := Go.Lib.pow10Tab.map fun z => Value.int .u64 z) (by simp [Go.Lib.pow10Tab]) fun j => by
    rw [(h.1 1 .u64 _ rfl j).1, List.getElem?_map]; rfl
  unfold Go.Lib.TabIs World.var?
  have hn : Tryd.prog.globalNamed "internal/strconv.uint64pow10" = some 1 := by kernel_rfl
  rw [hn]
  simp only [Option.bind_some, h1]
  rw [← h2]
theorem max_is {I : Nat → Nat → Prop} {w : World} (h : TabsOk I w) : ∃ m, w.cell? ⟨0, 0, none⟩ = some (.int .i64 m) := (h.2 0 (by simp [tabInts])).2
theorem itoa_at {B : List Box} {n : Int} (h : -9223372036854775808 ≤ n ∧ n ≤ 9223372036854775807) : ACall Tryd.prog 43 [.int .i64 n] B fun c B' => c = .str (Go.Lib.itoa n) ∧ B' = B :=
  acall_of_calls (Q := fun c => c = .str (Go.Lib.itoa n)) (by kernel_rfl) fun I μ w vs ht hI hv => by
    obtain ⟨ws, rfl, hv2⟩ := R.int_cons hv
    obtain rfl := R.none hv2
    refine (Tryd.strconv_Itoa n h.1 h.2 w (tab_is ht)).mono fun e w' ⟨he, k, os, hw⟩ => ?_
    subst hw
    exact ⟨_, _, he, rfl, (Below.drewN' k).trans (by have := Below.grow' (w := w.drewN k) os; exact this), .str _ (.nil _)⟩
theorem lastIndex_at {B : List Box} {s t : List UInt8} (h : s.length < 4611686018427387904) : ACall Tryd.prog 49 [.str s, .str t] B fun c B' => c = .int .i64 (Go.Lib.lastIndex s t) ∧ B' = B :=
  acall_of_calls (Q := fun c => c = .int .i64 (Go.Lib.lastIndex s t)) (by kernel_rfl) fun I μ w vs ht hI hv => by
    obtain ⟨ws, rfl, hv2⟩ := R.str_cons hv
    obtain ⟨ws, rfl, hv3⟩ := R.str_cons hv2
    obtain rfl := R.none hv3
    refine (Tryd.strings_LastIndex ⟨s.toArray⟩ ⟨t.toArray⟩ h w).mono fun e w' ⟨he, hw⟩ => ?_
    subst hw
    exact ⟨_, _, he, by simp, Below.same, .int _ _ (.nil _)⟩
theorem hasPrefix_at {B : List Box} {s t : List UInt8} : ACall Tryd.prog 50 [.str s, .str t] B fun c B' => c = .bool (Go.Lib.hasPrefix s t) ∧ B' = B :=
  acall_of_calls (Q := fun c => c = .bool (Go.Lib.hasPrefix s t)) (by kernel_rfl) fun I μ w vs ht hI hv => by
    obtain ⟨ws, rfl, hv2⟩ := R.str_cons hv
    obtain ⟨ws, rfl, hv3⟩ := R.str_cons hv2
    obtain rfl := R.none hv3
    refine (Tryd.strings_HasPrefix ⟨s.toArray⟩ ⟨t.toArray⟩ w).mono fun e w' ⟨he, hw⟩ => ?_
    subst hw
    exact ⟨_, _, he, by simp, Below.same, .bool _ (.nil _)⟩
theorem hasSuffix_at {B : List Box} {s t : List UInt8} (h : s.length < 4611686018427387904) : ACall Tryd.prog 51 [.str s, .str t] B fun c B' => c = .bool (Go.Lib.hasSuffix s t) ∧ B' = B :=
  acall_of_calls (Q := fun c => c = .bool (Go.Lib.hasSuffix s t)) (by kernel_rfl) fun I μ w vs ht hI hv => by
    obtain ⟨ws, rfl, hv2⟩ := R.str_cons hv
    obtain ⟨ws, rfl, hv3⟩ := R.str_cons hv2
    obtain rfl := R.none hv3
    refine (Tryd.strings_HasSuffix ⟨s.toArray⟩ ⟨t.toArray⟩ w (by show s.length ≤ _; omega)).mono fun e w' ⟨he, hw⟩ => ?_
    subst hw
    exact ⟨_, _, he, by simp, Below.same, .bool _ (.nil _)⟩
theorem cutS_at {B : List Box} {s t : List UInt8} (h : s.length < 4294967281) : ACall Tryd.prog 52 [.str s, .str t] B fun c B' => c = .tup [.str (Go.Lib.cut s t).1, .str (Go.Lib.cut s t).2.1, .bool (Go.Lib.cut s t).2.2] ∧ B' = B :=
  acall_of_calls (Q := fun c => c = .tup [.str (Go.Lib.cut s t).1, .str (Go.Lib.cut s t).2.1, .bool (Go.Lib.cut s t).2.2]) (by kernel_rfl) fun I μ w vs ht hI hv => by
    obtain ⟨ws, rfl, hv2⟩ := R.str_cons hv
    obtain ⟨ws, rfl, hv3⟩ := R.str_cons hv2
    obtain rfl := R.none hv3
    obtain ⟨m, hm⟩ := max_is ht
    refine (Tryd.strings_Cut ⟨s.toArray⟩ ⟨t.toArray⟩ m w h hm).mono fun e w' ⟨he, k, hw⟩ => ?_
    subst hw
    exact ⟨_, _, he, rfl, Below.drewN' k, .tup (.str _ (.str _ (.bool _ (.nil _)))) (.nil _)⟩
def splitL (b : UInt8) : List UInt8 → List (List UInt8)
  | [] => [[]]
  | c :: s => if c = b then [] :: splitL b s else match splitL b s with
    | [] => [[c]]
    | x :: xs => (c :: x) :: xs
theorem splitL_ne (b : UInt8) : ∀ s, splitL b s ≠ []
  | [] => by simp [splitL]
  | c :: s => by
    rw [splitL]
    split
    · simp
    · split <;> simp
theorem index_one (b c : UInt8) (s : List UInt8) : Go.Lib.index (c :: s) [b] = if c = b then 0 else if Go.Lib.index s [b] = -1 then -1 else Go.Lib.index s [b] + 1 := by
  rw [Go.Lib.index]
  by_cases h : c = b
  · subst h; simp [List.isPrefixOf]
  · have : (b == c) = false := by simpa using Ne.symm h
    simp [List.isPrefixOf, this, h]
theorem splitL_miss (b : UInt8) : ∀ s : List UInt8, Go.Lib.index s [b] = -1 → splitL b s = [s]
  | [], _ => rfl
  | c :: s, h => by
    rw [index_one] at h
    have hg := Go.Lib.index_ge s [b]
    split at h
    · omega
    · rename_i hc
      split at h
      · rename_i h1
        rw [splitL, if_neg hc, splitL_miss b s h1]
      · omega
theorem splitL_hit (b : UInt8) : ∀ (s : List UInt8) (i : Nat), Go.Lib.index s [b] = i → splitL b s = s.take i :: splitL b (s.drop (i + 1))
  | [], i, h => by simp [Go.Lib.index] at h
  | c :: s, i, h => by
    rw [index_one] at h
    have hg := Go.Lib.index_ge s [b]
    split at h
    · rename_i hc
      have : i = 0 := by omega
      subst this
      rw [splitL, if_pos hc]; simp
    · rename_i hc
      split at h
      · omega
      · obtain ⟨k, rfl⟩ : ∃ k, i = k + 1 := ⟨i - 1, by omega⟩
        rw [splitL, if_neg hc, splitL_hit b s k (by omega)]
        simp
theorem splitK_one (b : UInt8) : ∀ (k : Nat) (s : List UInt8), s.count b = k → Go.Lib.splitK [b] 0 k s = splitL b s := by
  intro k
  induction k with
  | zero =>
    intro s hs
    have : Go.Lib.index s [b] = -1 := by
      induction s with
      | nil => simp [Go.Lib.index]
      | cons c s ih =>
        rw [List.count_cons] at hs
        by_cases hc : c = b
        · subst hc; simp at hs
        · rw [index_one, if_neg hc, if_pos (ih (by omega))]
    rw [splitL_miss b s this]; rfl
  | succ k ih =>
    intro s hs
    rw [Go.Lib.splitK]
    have hg := Go.Lib.index_ge s [b]
    by_cases hm : Go.Lib.index s [b] = -1
    · exfalso
      have key : ∀ s : List UInt8, Go.Lib.index s [b] = -1 → s.count b = 0 := by
        intro s
        induction s with
        | nil => simp
        | cons c s ih =>
          intro h
          rw [index_one] at h
          have hg := Go.Lib.index_ge s [b]
          split at h
          · omega
          · rename_i hc
            split at h
            · rename_i h1
              rw [List.count_cons, ih h1]; simp [hc]
            · omega
      rw [key s hm] at hs
      omega
    · obtain ⟨i, hi⟩ : ∃ i : Nat, Go.Lib.index s [b] = i := ⟨(Go.Lib.index s [b]).toNat, by omega⟩
      rw [splitL_hit b s i hi, hi, if_neg (by simp)]
      have hcount : ∀ (s : List UInt8) (i : Nat), Go.Lib.index s [b] = i → s.count b = (s.drop (i + 1)).count b + 1 := by
        intro s
        induction s with
        | nil => intro i h; simp [Go.Lib.index] at h
        | cons c s ih =>
          intro i h
          rw [index_one] at h
          have hg := Go.Lib.index_ge s [b]
          split at h
          · rename_i hc
            have : i = 0 := by omega
            subst this hc
            simp
          · rename_i hc
            split at h
            · omega
            · obtain ⟨k, rfl⟩ : ∃ k, i = k + 1 := ⟨i - 1, by omega⟩
              rw [List.count_cons, ih k (by omega)]; simp [hc]
      have := hcount s i hi
      rw [← ih (s.drop (i + 1)) (by omega)]
      simp
theorem strs_rel {I : Nat → Nat → Prop} {μ : List (List Go.Sy.Place)} {w : World} : ∀ L : List (List UInt8), R I μ w true (L.map CV.str) (L.map fun l => Value.string ⟨l.toArray⟩)
  | [] => .nil _
  | l :: L => .str l (strs_rel L)
theorem split_at {B : List Box} {s : List UInt8} {b : UInt8} (h : s.length < 4294967281) : ACall Tryd.prog 46 [.str s, .str [b]] B fun c B' => c = .lst (splitL b s).length ((splitL b s).map .str) true ∧ B' = B :=
  acall_of_calls (Q := fun c => c = .lst (splitL b s).length ((splitL b s).map .str) true) (by kernel_rfl) fun I μ w vs ht hI hv => by
    obtain ⟨ws, rfl, hv2⟩ := R.str_cons hv
    obtain ⟨ws, rfl, hv3⟩ := R.str_cons hv2
    obtain rfl := R.none hv3
    obtain ⟨m, hm⟩ := max_is ht
    have hc : Go.Lib.countB ⟨s.toArray⟩ ⟨[b].toArray⟩ = s.count b := by
      have : Go.Lib.countB ⟨s.toArray⟩ ⟨[b].toArray⟩ = Go.Lib.count s [b] := rfl
      rw [this, Go.Lib.count_one]
    have hk := Go.Lib.splitB_data ⟨[b].toArray⟩ 0 (s.count b) ⟨s.toArray⟩
    have e1 : (⟨s.toArray⟩ : ByteArray).data.toList = s := by simp
    have e2 : (⟨[b].toArray⟩ : ByteArray).data.toList = [b] := by simp
    rw [e1, e2, splitK_one b _ s rfl] at hk
    have hl : s.count b + 1 = (splitL b s).length := by
      rw [← hk, List.length_map, Go.Lib.splitB_all ⟨[b].toArray⟩ (Nat.le_refl 1) 0 (s.count b) ⟨s.toArray⟩ hc]
    have hx : (Go.Lib.splitB ⟨[b].toArray⟩ 0 (s.count b) ⟨s.toArray⟩).map Value.string = (splitL b s).map fun l => Value.string ⟨l.toArray⟩ := by
      rw [← hk, List.map_map]
      congr 1
    refine (Tryd.strings_Split ⟨s.toArray⟩ ⟨[b].toArray⟩ m w h hm (Nat.le_refl 1)).mono fun e w' ⟨he, hw⟩ => ?_
    rw [hc, hl] at he
    rw [hc, hx] at hw
    have hp : w'.heap = w.heap.push (.cells ((splitL b s).map fun l => Value.string ⟨l.toArray⟩).toArray 9) := by rw [hw]; rfl
    have hbel : Below w.heap.size w w' := Below.of_heap (Nat.le_refl _) hp (by rw [hw]; rfl) (by rw [hw]; rfl) (by rw [hw]; rfl)
    refine ⟨_, _, he, rfl, hbel, ?_⟩
    have hcell : ∀ (j : Nat) (v : Value), ((splitL b s).map fun l => Value.string ⟨l.toArray⟩)[j]? = some v → w'.cell? ⟨w.heap.size, 0 + j, none⟩ = some v := fun j v hj => by
      simp only [World.cell?, push_new hp, Nat.zero_add]
      simp
      simpa using hj
    exact .lst _ true w.heap.size 0 _ (strs_rel _) (fun j v hj => ⟨hcell j v hj, .inr ⟨Nat.le_refl _, by rw [hp]; simp⟩⟩) (Nat.le_refl _) (fun _ => rfl) (.nil _)
theorem str_vals : ∀ (L : List (List UInt8)) {I : Nat → Nat → Prop} {μ : List (List Go.Sy.Place)} {w : World} {vs : List Value}, R I μ w true (L.map CV.str) vs → vs = L.map fun l => Value.string ⟨l.toArray⟩
  | [], _, _, _, _, h => R.none h
  | l :: L, _, _, _, _, h => by
    obtain ⟨ws, rfl, h2⟩ := R.str_cons h
    rw [str_vals L h2]; rfl
theorem join_in {L : List (List UInt8)} {t : List UInt8} {f : Bool} (hL : L.length < 1099511627776) (hl : (Go.Lib.join L t).length < 1099511627776) : ACall Tryd.prog 42 [.lst L.length (L.map .str) f, .str t] [] fun c B' => c = .str (Go.Lib.join L t) ∧ B' = [] :=
  acall_of_calls (Q := fun c => c = .str (Go.Lib.join L t)) (by kernel_rfl) fun I μ w vs ht hI hv => by
    obtain ⟨v0, ws, rfl⟩ : ∃ v0 ws, vs = v0 :: ws := by
      cases vs with
      | nil => have := hv.len; simp at this
      | cons a b => exact ⟨a, b, rfl⟩
    obtain ⟨hv1, _, hv2⟩ := hv.head
    obtain ⟨ws, rfl, hv3⟩ := R.str_cons hv2
    obtain rfl := R.none hv3
    have none_ : L = [] → ∀ A cap, v0 = .slice A 0 cap → Calls Tryd.prog 42 [v0, .string ⟨t.toArray⟩].toArray w fun e w' => ∃ c v, e = .returned v ∧ c = .str (Go.Lib.join L t) ∧ Below w.heap.size w w' ∧ V (fun b j => I b j ∨ (w.heap.size ≤ b ∧ b < w'.heap.size)) μ w' c v := fun hLL A cap hv0 => by
      subst hLL hv0
      refine (Tryd.strings_Join_none A cap ⟨t.toArray⟩ w).mono fun e w' ⟨he, hw⟩ => ?_
      subst hw
      exact ⟨_, _, he, by simp [Go.Lib.join, List.intercalate], Below.same, .str _ (.nil _)⟩
    rcases hv1.lst_inv with ⟨b, o, cap, us, h1, h, hm, hn, hf⟩ | ⟨A, h1, h2, _⟩
    · have hbs := str_vals L h
      subst hbs
      have hj : (L.map fun l => (⟨l.toArray⟩ : ByteArray)).map (·.data.toList) = L := by rw [List.map_map]; simp [Function.comp_def]
      by_cases hLL : L = []
      · exact none_ hLL _ _ (by rw [h1, hLL]; rfl)
      · subst h1
        have hbk : b < w.heap.size := by
          cases hL2 : L with
          | nil => exact absurd hL2 hLL
          | cons x xs => exact hI _ _ (hm 0 (Value.string ⟨x.toArray⟩) (by rw [hL2]; rfl)).2
        have := Tryd.strings_Join b o cap (L.map fun l => (⟨l.toArray⟩ : ByteArray)) ⟨t.toArray⟩ w (fun j y hy => by
          rw [List.getElem?_map, Option.map_eq_some_iff] at hy
          obtain ⟨l, hl, rfl⟩ := hy
          exact (hm j _ (by rw [List.getElem?_map, hl]; rfl)).1) hbk (by rw [List.length_map]; omega) (by rw [List.length_map]; exact hn) (by rw [hj]; show (Go.Lib.join L t).length ≤ _; omega)
        rw [hj, List.length_map] at this
        refine this.mono fun e w' ⟨he, hw⟩ => ?_
        exact ⟨_, _, he, rfl, hw, .str _ (.nil _)⟩
    · have hLL : L = [] := List.eq_nil_of_length_eq_zero (by first | exact h2 | omega)
      exact none_ hLL _ _ (by first | exact h1 | (rw [h1, hLL]; rfl))
theorem join_at {B : List Box} {args : List CV} {n : Nat} {L : List (List UInt8)} {t : List UInt8} {f : Bool} (hz : Is (omap (Go.Sy.fz true false B 6) args) (some [.lst n (L.map .str) f, .str t])) (hn : n = L.length) (hL : L.length < 1099511627776) (hl : (Go.Lib.join L t).length < 1099511627776) :
    ACall Tryd.prog 42 args B fun c B' => c = .str (Go.Lib.join L t) ∧ B' = B := by
  subst hn
  exact acall_fresh hz ((join_in hL hl).mono fun c B' ⟨h, _⟩ => by rw [h]; rfl)
end Go.Proofs.YtdceppjoipoohaaDoor
end
section
namespace Go.Proofs.YtdceppjoipoohaaDoor
open Go Go.Sy
set_option linter.all false
set_option maxRecDepth 100000
set_option maxHeartbeats 4000000
def hexD (d : Nat) : UInt8 := if d < 10 then UInt8.ofNat (48 + d) else UInt8.ofNat (87 + d)
def hexT (u : Nat) : List UInt8 :=
  if h : u < 16 then [hexD u] else hexT (u / 16) ++ [hexD (u % 16)]
termination_by u
decreasing_by omega
theorem tz_at {B : List Box} : ACall Tryd.prog 109 [.int .u64 16] B fun c B' => c = .int .i64 4 ∧ B' = B := by
  have h64 : ∀ {B : List Box} {args : List CV}, Is args [.int .u64 16] → ACall Tryd.prog 119 args B fun c B' => c = .int .i64 4 ∧ B' = B := fun {B args} h => by
    have h : _ = _ := h
    subst h
    refine acall_intro mixed Tryd.func119 rfl ca119 (by kernel_rfl) (by rw [Tryd.ntmps119]; simp) ?_
    have e1 : bits .and .u64 16 (IntKind.u64.wrap (-16)) = 16 := by decide
    have ht : tab 3 = some (.u8, [0, 1, 56, 2, 57, 49, 28, 3, 61, 58, 42, 50, 38, 29, 17, 4, 62, 47, 59, 36, 45, 43, 51, 22, 53, 39, 33, 30, 24, 18, 12, 5, 63, 55, 48, 27, 60, 41, 37, 16, 46, 35, 44, 21, 52, 32, 23, 11, 54, 26, 40, 15, 34, 20, 31, 10, 25, 14, 19, 9, 13, 8, 7, 6]) := rfl
    repeat' (first | (with_reducible (first | apply w_seq | apply w_region | apply w_block | apply w_skip | apply w_exit | apply w_ret | apply w_then | apply w_then_exit | apply w_then_ret | apply w_in | apply w_in_here | apply w_in_ret | apply w_round | apply o_nil | apply d_nil)) | ((with_reducible (first | apply w_in_exit)); rfl) | ((with_reducible (first | apply w_draw)); rfl) | ((first | ((with_reducible (first | apply o_op | apply d_op | apply q_op)); rfl; rfl) | ((with_reducible (first | apply w_cond | apply w_end | apply w_return))) | ((with_reducible (first | apply o_guard | apply d_guard | apply q_guard)); rfl)); all_goals (first | ((with_reducible show Is _ _); ((try simp (disch := first | omega | (simp only [yA, yB, yC, yD, yE] <;> omega) | fail) [go_sem, yF, yG, yH, *, if_pos, if_neg, -List.map_take, -List.map_drop, -List.map_append, -List.map_reverse]); exact rfl)) | ((fail_if_success (with_reducible show Is _ _)); (first | ((with_reducible refine fun (hc : (_ : Bool) = _) => ?_); (try simp only [xA, xB, xC, xD, xE, xF, xG, xH, reduceCtorEq, xI, xJ, xK, xL, xM, xN, xO, xP, xQ, xR] at hc); (try (have hx : True := hc; clear hx hc)); (try (exfalso; omega)); (try (with_reducible (exact absurd hc (by assumption)))); (try (with_reducible (exact absurd (by assumption) hc)))) | ((fail_if_success (with_reducible show ACall _ _ _ _ _)); (try ((with_reducible show _ ∨ _); first | exact .inl rfl | (refine .inr ⟨rfl, ?_, ?_⟩; (focus (repeat (first | exact trivial | refine ⟨.inl rfl, ?_⟩ | refine ⟨.inr rfl, ?_⟩))); (first | exact trivial | exact rfl))))))))))
    exact ⟨rfl, rfl⟩
  refine acall_intro mixed Tryd.func109 rfl ca109 (by kernel_rfl) (by rw [Tryd.ntmps109]; simp) ?_
  repeat' (first | (with_reducible (first | apply w_seq | apply w_region | apply w_block | apply w_skip | apply w_exit | apply w_ret | apply w_then | apply w_then_exit | apply w_then_ret | apply w_in | apply w_in_here | apply w_in_ret | apply w_round | apply o_nil | apply d_nil)) | ((with_reducible (first | apply w_in_exit)); rfl) | ((with_reducible (first | apply w_draw)); rfl) | ((first | ((with_reducible (first | apply o_op | apply d_op | apply q_op)); rfl; rfl) | ((with_reducible (first | apply w_cond | apply w_end | apply w_return))) | ((with_reducible (first | apply o_guard | apply d_guard | apply q_guard)); rfl) | ((with_reducible (first | apply o_call_eq | apply d_call | apply q_call)); rfl)); all_goals (first | ((with_reducible show Is _ _); ((try simp (disch := first | omega | (simp only [yA, yB, yC, yD, yE] <;> omega) | fail) [go_sem, yF, yG, yH, *, if_pos, if_neg, -List.map_take, -List.map_drop, -List.map_append, -List.map_reverse]); exact rfl)) | ((fail_if_success (with_reducible show Is _ _)); (first | ((with_reducible refine fun (hc : (_ : Bool) = _) => ?_); (try simp only [xA, xB, xC, xD, xE, xF, xG, xH, reduceCtorEq, xI, xJ, xK, xL, xM, xN, xO, xP, xQ, xR] at hc); (try (have hx : True := hc; clear hx hc)); (try (exfalso; omega)); (try (with_reducible (exact absurd hc (by assumption)))); (try (with_reducible (exact absurd (by assumption) hc)))) | ((with_reducible show ACall _ _ _ _ _); (first | ((with_reducible (first | apply h64)) <;> (first | omega | assumption | exact rfl | ((simp (disch := first | omega | (simp only [yA, yB, yC, yD, yE] <;> omega) | fail) [go_sem, yF, yG, yH, *, -List.map_take, -List.map_drop, -List.map_append, -List.map_reverse]) <;> (first | done | omega | exact rfl)))))) | ((fail_if_success (with_reducible show ACall _ _ _ _ _)); (try ((with_reducible show _ ∨ _); first | exact .inl rfl | (refine .inr ⟨rfl, ?_, ?_⟩; (focus (repeat (first | exact trivial | refine ⟨.inl rfl, ?_⟩ | refine ⟨.inr rfl, ?_⟩))); (first | exact trivial | exact rfl))))))))))
  exact ⟨rfl, rfl⟩
theorem pow2_at {B : List Box} {args : List CV} (ha : Is args [.int .i64 16]) : ACall Tryd.prog 108 args B fun c B' => c = .bool true ∧ B' = B := by
  have h : _ = _ := ha
  subst h
  have e1 : bits .and .i64 16 15 = 0 := by decide
  refine acall_intro mixed Tryd.func108 rfl ca108 (by kernel_rfl) (by rw [Tryd.ntmps108]; simp) ?_
  repeat' (first | (with_reducible (first | apply w_seq | apply w_region | apply w_block | apply w_skip | apply w_exit | apply w_ret | apply w_then | apply w_then_exit | apply w_then_ret | apply w_in | apply w_in_here | apply w_in_ret | apply w_round | apply o_nil | apply d_nil)) | ((with_reducible (first | apply w_in_exit)); rfl) | ((with_reducible (first | apply w_draw)); rfl) | ((first | ((with_reducible (first | apply o_op | apply d_op | apply q_op)); rfl; rfl) | ((with_reducible (first | apply w_cond | apply w_end | apply w_return))) | ((with_reducible (first | apply o_guard | apply d_guard | apply q_guard)); rfl)); all_goals (first | ((with_reducible show Is _ _); ((try simp (disch := first | omega | (simp only [yA, yB, yC, yD, yE] <;> omega) | fail) [go_sem, yF, yG, yH, *, if_pos, if_neg, -List.map_take, -List.map_drop, -List.map_append, -List.map_reverse]); exact rfl)) | ((fail_if_success (with_reducible show Is _ _)); (first | ((with_reducible refine fun (hc : (_ : Bool) = _) => ?_); (try simp only [xA, xB, xC, xD, xE, xF, xG, xH, reduceCtorEq, xI, xJ, xK, xL, xM, xN, xO, xP, xQ, xR] at hc); (try (have hx : True := hc; clear hx hc)); (try (exfalso; omega)); (try (with_reducible (exact absurd hc (by assumption)))); (try (with_reducible (exact absurd (by assumption) hc)))) | ((fail_if_success (with_reducible show ACall _ _ _ _ _)); (try ((with_reducible show _ ∨ _); first | exact .inl rfl | (refine .inr ⟨rfl, ?_, ?_⟩; (focus (repeat (first | exact trivial | refine ⟨.inl rfl, ?_⟩ | refine ⟨.inr rfl, ?_⟩))); (first | exact trivial | exact rfl))))))))))
  exact ⟨rfl, rfl⟩
theorem digs_at : ∀ d : Fin 16, ([48, 49, 50, 51, 52, 53, 54, 55, 56, 57, 97, 98, 99, 100, 101, 102, 103, 104, 105, 106, 107, 108, 109, 110, 111, 112, 113, 114, 115, 116, 117, 118, 119, 120, 121, 122] : List UInt8)[d.1]? = some (hexD d.1) := by decide
theorem digs_get {d : Nat} (h : d < 16) (h2 : d < 36) : ([48, 49, 50, 51, 52, 53, 54, 55, 56, 57, 97, 98, 99, 100, 101, 102, 103, 104, 105, 106, 107, 108, 109, 110, 111, 112, 113, 114, 115, 116, 117, 118, 119, 120, 121, 122] : List UInt8)[d]'h2 = hexD d := by
  have := digs_at ⟨d, h⟩
  rw [List.getElem?_eq_getElem (by exact h2)] at this
  exact Option.some.inj this
theorem fmtBits_in (n : Nat) (hn : n < 65536) : PC Tryd.prog true 96 [.nilS, .int .u64 n, .int .i64 16, .bool false, .bool false] (.tup [.lst 0 [] false, .str (hexT n)]) := by
  have htz : ∀ {B : List Box} {args : List CV}, Is args [.int .u64 16] → ACall Tryd.prog 109 args B fun c B' => c = .int .i64 4 ∧ B' = B := fun h => by
    have h : _ = _ := h
    subst h
    exact tz_at
  have hr := rep_bytes 65
  refine acall_intro mixed Tryd.func96 rfl ca96 (by kernel_rfl) (by rw [Tryd.ntmps96]; simp) ?_
  repeat' (first | (with_reducible (first | apply w_seq | apply w_region | apply w_block | apply w_skip | apply w_exit | apply w_ret | apply w_then | apply w_then_exit | apply w_then_ret | apply w_in | apply w_in_here | apply w_in_ret | apply w_round | apply o_nil | apply d_nil)) | ((with_reducible (first | apply w_in_exit)); rfl) | ((with_reducible (first | apply w_draw)); rfl) | ((first | ((with_reducible (first | apply o_op | apply d_op | apply q_op)); rfl; rfl) | ((with_reducible (first | apply w_cond | apply w_end | apply w_return))) | ((with_reducible (first | apply o_guard | apply d_guard | apply q_guard)); rfl) | ((with_reducible (first | apply o_call_eq | apply d_call | apply q_call)); rfl)); all_goals (first | ((with_reducible show Is _ _); ((try simp (disch := first | omega | (simp only [yA, yB, yC, yD, yE] <;> omega) | fail) [go_sem, yF, yG, yH, *, if_pos, if_neg, -List.map_take, -List.map_drop, -List.map_append, -List.map_reverse]); exact rfl)) | ((fail_if_success (with_reducible show Is _ _)); (first | ((with_reducible refine fun (hc : (_ : Bool) = _) => ?_); (try simp only [xA, xB, xC, xD, xE, xF, xG, xH, reduceCtorEq, xI, xJ, xK, xL, xM, xN, xO, xP, xQ, xR] at hc); (try (have hx : True := hc; clear hx hc)); (try (exfalso; omega)); (try (with_reducible (exact absurd hc (by assumption)))); (try (with_reducible (exact absurd (by assumption) hc)))) | ((with_reducible show ACall _ _ _ _ _); (first | ((with_reducible (first | apply htz)) <;> (first | omega | assumption | exact rfl | ((simp (disch := first | omega | (simp only [yA, yB, yC, yD, yE] <;> omega) | fail) [go_sem, yF, yG, yH, *, -List.map_take, -List.map_drop, -List.map_append, -List.map_reverse]) <;> (first | done | omega | exact rfl)))) | ((with_reducible (first | apply pow2_at)) <;> (first | omega | assumption | exact rfl | ((simp (disch := first | omega | (simp only [yA, yB, yC, yD, yE] <;> omega) | fail) [go_sem, yF, yG, yH, *, -List.map_take, -List.map_drop, -List.map_append, -List.map_reverse]) <;> (first | done | omega | exact rfl)))))) | ((fail_if_success (with_reducible show ACall _ _ _ _ _)); (try ((with_reducible show _ ∨ _); first | exact .inl rfl | (refine .inr ⟨rfl, ?_, ?_⟩; (focus (repeat (first | exact trivial | refine ⟨.inl rfl, ?_⟩ | refine ⟨.inr rfl, ?_⟩))); (first | exact trivial | exact rfl))))))))))
  refine w_loop (fun fr B => ∃ (u i : Nat) (t : List UInt8), hexT n = hexT u ++ t ∧ ((t.length = 0 ∧ u < 65536) ∨ (t.length = 1 ∧ u < 4096) ∨ (t.length = 2 ∧ u < 256) ∨ (t.length = 3 ∧ u < 16)) ∧ i + t.length = 65 ∧ fr 1 = .int .u64 u ∧ fr 13 = .int .i64 i ∧ fr 12 = .ptr 0 0 ∧ fr 14 = .int .u64 4 ∧ fr 15 = .int .u64 16 ∧ fr 16 = .int .u64 15 ∧ fr 0 = .nilS ∧ fr 3 = .bool false ∧ fr 4 = .bool false ∧ fr 10 = .nilS ∧ B = [⟨(List.replicate i (0 : UInt8) ++ t).map byteC, false⟩]) (fun fr _ => natOf (fr 1)) ?_ ?_
  · exact ⟨n, 65, [], by simp, .inl ⟨rfl, hn⟩, rfl, by (simp (disch := omega) [go_sem, *]) <;> (try omega), by (simp (disch := omega) [go_sem, *]) <;> (try omega), by (simp (disch := omega) [go_sem, *]) <;> (try omega), by (simp (disch := omega) [go_sem, *]) <;> (try omega), by (simp (disch := omega) [go_sem, *]) <;> (try omega), by (simp (disch := omega) [go_sem, *]) <;> (try omega), by (simp (disch := omega) [go_sem, *]) <;> (try omega), by (simp (disch := omega) [go_sem, *]) <;> (try omega), by (simp (disch := omega) [go_sem, *]) <;> (try omega), by (simp (disch := omega) [go_sem, *]) <;> (try omega), rfl⟩
  clear hr
  rintro fr B ⟨u, i, t, he, hu, hi, h1, h13, h12, h14, h15, h16, h0, h3, h4, h10, rfl⟩
  have hul : u < 65536 := by omega
  obtain ⟨k, rfl⟩ : ∃ k, i = k + 1 := ⟨i - 1, by omega⟩
  have hll : (List.replicate (k + 1) (0 : UInt8) ++ t).length = 65 := by simp; omega
  have hset : ∀ x : UInt8, (List.replicate (k + 1) (0 : UInt8) ++ t).set k x = List.replicate k 0 ++ x :: t := fun x => by
    rw [List.set_append_left _ _ (by simp), List.replicate_succ', List.set_append_right _ _ (by simp)]; simp
  by_cases hc : 16 ≤ u
  · obtain ⟨d, hd⟩ : ∃ d, u % 16 = d := ⟨_, rfl⟩
    have hd16 : d < 16 := by omega
    have hand : bits .and .u64 (u : Int) 15 = (d : Int) := by
      rw [show (15 : Int) = ((15 : Nat) : Int) from rfl, u64_and_nat u 15 (by omega) (by omega), show (15 : Nat) = 2 ^ 4 - 1 from rfl, Nat.and_two_pow_sub_one_eq_mod, ← hd]
    have hdg := digs_get (d := d) (by omega) (by omega)
    dsimp only at hdg
    have hx := hset (hexD d)
    have hT : hexT n = hexT (u / 16) ++ hexD d :: t := by rw [he, hexT, dif_neg (by omega), hd]; simp
    clear hset
    replace hd : Hid _ := hd
    repeat' (first | (with_reducible (first | apply w_seq | apply w_region | apply w_block | apply w_skip | apply w_exit | apply w_ret | apply w_then | apply w_then_exit | apply w_then_ret | apply w_in | apply w_in_here | apply w_in_ret | apply w_round | apply o_nil | apply d_nil)) | ((with_reducible (first | apply w_in_exit)); rfl) | ((with_reducible (first | apply w_draw)); rfl) | ((first | ((with_reducible (first | apply o_op | apply d_op | apply q_op)); rfl; rfl) | ((with_reducible (first | apply w_cond | apply w_end | apply w_return))) | ((with_reducible (first | apply o_guard | apply d_guard | apply q_guard)); rfl)); all_goals (first | ((with_reducible show Is _ _); ((try simp (disch := first | omega | (simp only [yA, yB, yC, yD, yE] <;> omega) | fail) [go_sem, yF, yG, yH, *, if_pos, if_neg, -List.map_take, -List.map_drop, -List.map_append, -List.map_reverse]); exact rfl)) | ((fail_if_success (with_reducible show Is _ _)); (first | ((with_reducible refine fun (hc : (_ : Bool) = _) => ?_); (try simp only [xA, xB, xC, xD, xE, xF, xG, xH, reduceCtorEq, xI, xJ, xK, xL, xM, xN, xO, xP, xQ, xR] at hc); (try (have hx : True := hc; clear hx hc)); (try (exfalso; omega)); (try (with_reducible (exact absurd hc (by assumption)))); (try (with_reducible (exact absurd (by assumption) hc)))) | ((fail_if_success (with_reducible show ACall _ _ _ _ _)); (try ((with_reducible show _ ∨ _); first | exact .inl rfl | (refine .inr ⟨rfl, ?_, ?_⟩; (focus (repeat (first | exact trivial | refine ⟨.inl rfl, ?_⟩ | refine ⟨.inr rfl, ?_⟩))); (first | exact trivial | exact rfl))))))))))
    refine ⟨⟨u / 16, k, hexD d :: t, hT, by simp only [List.length_cons]; omega, by rw [List.length_cons]; omega, by (simp (disch := omega) [go_sem, *]) <;> (try omega), by (simp (disch := omega) [go_sem, *]) <;> (try omega), by (simp (disch := omega) [go_sem, *]) <;> (try omega), by (simp (disch := omega) [go_sem, *]) <;> (try omega), by (simp (disch := omega) [go_sem, *]) <;> (try omega), by (simp (disch := omega) [go_sem, *]) <;> (try omega), by (simp (disch := omega) [go_sem, *]) <;> (try omega), by (simp (disch := omega) [go_sem, *]) <;> (try omega), by (simp (disch := omega) [go_sem, *]) <;> (try omega), by (simp (disch := omega) [go_sem, *]) <;> (try omega), ?_⟩, by (simp (disch := omega) [go_sem, *]) <;> (try omega)⟩
    rw [← hx, bytes_mid, List.set_eq_take_append_cons_drop, if_pos (by omega)]
  · have hdg := digs_get (d := u) (by omega) (by omega)
    dsimp only at hdg
    have hx := hset (hexD u)
    have hT : hexT n = hexD u :: t := by rw [he, hexT, dif_pos (by omega)]; rfl
    repeat' (first | (with_reducible (first | apply w_seq | apply w_region | apply w_block | apply w_skip | apply w_exit | apply w_ret | apply w_then | apply w_then_exit | apply w_then_ret | apply w_in | apply w_in_here | apply w_in_ret | apply w_round | apply o_nil | apply d_nil)) | ((with_reducible (first | apply w_in_exit)); rfl) | ((with_reducible (first | apply w_draw)); rfl) | ((first | ((with_reducible (first | apply o_op | apply d_op | apply q_op)); rfl; rfl) | ((with_reducible (first | apply w_cond | apply w_end | apply w_return))) | ((with_reducible (first | apply o_guard | apply d_guard | apply q_guard)); rfl)); all_goals (first | ((with_reducible show Is _ _); ((try simp (disch := first | omega | (simp only [yA, yB, yC, yD, yE] <;> omega) | fail) [go_sem, yF, yG, yH, *, if_pos, if_neg, -List.map_take, -List.map_drop, -List.map_append, -List.map_reverse]); exact rfl)) | ((fail_if_success (with_reducible show Is _ _)); (first | ((with_reducible refine fun (hc : (_ : Bool) = _) => ?_); (try simp only [xA, xB, xC, xD, xE, xF, xG, xH, reduceCtorEq, xI, xJ, xK, xL, xM, xN, xO, xP, xQ, xR] at hc); (try (have hx : True := hc; clear hx hc)); (try (exfalso; omega)); (try (with_reducible (exact absurd hc (by assumption)))); (try (with_reducible (exact absurd (by assumption) hc)))) | ((fail_if_success (with_reducible show ACall _ _ _ _ _)); (try ((with_reducible show _ ∨ _); first | exact .inl rfl | (refine .inr ⟨rfl, ?_, ?_⟩; (focus (repeat (first | exact trivial | refine ⟨.inl rfl, ?_⟩ | refine ⟨.inr rfl, ?_⟩))); (first | exact trivial | exact rfl))))))))))
    have hcell : (List.take k (List.replicate (k + 1) (0 : UInt8) ++ t)).map byteC ++ byteC (hexD u) :: (List.drop (k + 1) (List.replicate (k + 1) (0 : UInt8) ++ t)).map byteC = (List.replicate k 0 ++ hexD u :: t).map byteC := by
      rw [← hx, bytes_mid, List.set_eq_take_append_cons_drop, if_pos (by omega)]
    rw [hcell]
    have hlt : (hexD u :: t).length = 65 - k := by rw [List.length_cons]; omega
    clear hcell hx hset hdg
    generalize hexD u :: t = D at *
    have hdr : (List.replicate k (0 : UInt8) ++ D).drop k = D := by rw [List.drop_append_of_le_length (by simp)]; simp
    have htk : D.take (65 - k) = D := List.take_of_length_le (by omega)
    repeat' (first | (with_reducible (first | apply w_seq | apply w_region | apply w_block | apply w_skip | apply w_exit | apply w_ret | apply w_then | apply w_then_exit | apply w_then_ret | apply w_in | apply w_in_here | apply w_in_ret | apply w_round | apply o_nil | apply d_nil)) | ((with_reducible (first | apply w_in_exit)); rfl) | ((with_reducible (first | apply w_draw)); rfl) | ((first | ((with_reducible (first | apply o_op | apply d_op | apply q_op)); rfl; rfl) | ((with_reducible (first | apply w_cond | apply w_end | apply w_return))) | ((with_reducible (first | apply o_guard | apply d_guard | apply q_guard)); rfl)); all_goals (first | ((with_reducible show Is _ _); ((try simp (disch := first | omega | (simp only [yA, yB, yC, yD, yE] <;> omega) | fail) [go_sem, yF, yG, yH, *, if_pos, if_neg, -List.map_take, -List.map_drop, -List.map_append, -List.map_reverse]); exact rfl)) | ((fail_if_success (with_reducible show Is _ _)); (first | ((with_reducible refine fun (hc : (_ : Bool) = _) => ?_); (try simp only [xA, xB, xC, xD, xE, xF, xG, xH, reduceCtorEq, xI, xJ, xK, xL, xM, xN, xO, xP, xQ, xR] at hc); (try (have hx : True := hc; clear hx hc)); (try (exfalso; omega)); (try (with_reducible (exact absurd hc (by assumption)))); (try (with_reducible (exact absurd (by assumption) hc)))) | ((fail_if_success (with_reducible show ACall _ _ _ _ _)); (try ((with_reducible show _ ∨ _); first | exact .inl rfl | (refine .inr ⟨rfl, ?_, ?_⟩; (focus (repeat (first | exact trivial | refine ⟨.inl rfl, ?_⟩ | refine ⟨.inr rfl, ?_⟩))); (first | exact trivial | exact rfl))))))))))
    rw [hT]; rfl
theorem fmt16_at {B : List Box} {n : Nat} (hn : n < 65536) : ACall Tryd.prog 41 [.int .i64 n, .int .i64 16] B fun c B' => c = .str (hexT n) ∧ B' = B := by
  have h1 : ∀ {B : List Box} {args : List CV}, Is args [.nilS, .int .u64 n, .int .i64 16, .bool false, .bool false] → ACall Tryd.prog 96 args B fun c B' => c = .tup [.lst 0 [] false, .str (hexT n)] ∧ B' = B := fun {B args} h => by
    have h : _ = _ := h
    subst h
    exact acall_fresh (nz := false) rfl (fmtBits_in n hn)
  have h2 : ∀ {B : List Box} {args : List CV}, Is args [.int .i64 n, .int .i64 16] → ACall Tryd.prog 75 args B fun c B' => c = .str (hexT n) ∧ B' = B := fun {B args} h => by
    have h : _ = _ := h
    subst h
    refine acall_intro mixed Tryd.func75 rfl ca75 (by kernel_rfl) (by rw [Tryd.ntmps75]; simp) ?_
    repeat' (first | (with_reducible (first | apply w_seq | apply w_region | apply w_block | apply w_skip | apply w_exit | apply w_ret | apply w_then | apply w_then_exit | apply w_then_ret | apply w_in | apply w_in_here | apply w_in_ret | apply w_round | apply o_nil | apply d_nil)) | ((with_reducible (first | apply w_in_exit)); rfl) | ((with_reducible (first | apply w_draw)); rfl) | ((first | ((with_reducible (first | apply o_op | apply d_op | apply q_op)); rfl; rfl) | ((with_reducible (first | apply w_cond | apply w_end | apply w_return))) | ((with_reducible (first | apply o_guard | apply d_guard | apply q_guard)); rfl) | ((with_reducible (first | apply o_call_eq | apply d_call | apply q_call)); rfl)); all_goals (first | ((with_reducible show Is _ _); ((try simp (disch := first | omega | (simp only [yA, yB, yC, yD, yE] <;> omega) | fail) [go_sem, yF, yG, yH, *, if_pos, if_neg, -List.map_take, -List.map_drop, -List.map_append, -List.map_reverse]); exact rfl)) | ((fail_if_success (with_reducible show Is _ _)); (first | ((with_reducible refine fun (hc : (_ : Bool) = _) => ?_); (try simp only [xA, xB, xC, xD, xE, xF, xG, xH, reduceCtorEq, xI, xJ, xK, xL, xM, xN, xO, xP, xQ, xR] at hc); (try (have hx : True := hc; clear hx hc)); (try (exfalso; omega)); (try (with_reducible (exact absurd hc (by assumption)))); (try (with_reducible (exact absurd (by assumption) hc)))) | ((with_reducible show ACall _ _ _ _ _); (first | ((with_reducible (first | apply h1)) <;> (first | omega | assumption | exact rfl | ((simp (disch := first | omega | (simp only [yA, yB, yC, yD, yE] <;> omega) | fail) [go_sem, yF, yG, yH, *, -List.map_take, -List.map_drop, -List.map_append, -List.map_reverse]) <;> (first | done | omega | exact rfl)))))) | ((fail_if_success (with_reducible show ACall _ _ _ _ _)); (try ((with_reducible show _ ∨ _); first | exact .inl rfl | (refine .inr ⟨rfl, ?_, ?_⟩; (focus (repeat (first | exact trivial | refine ⟨.inl rfl, ?_⟩ | refine ⟨.inr rfl, ?_⟩))); (first | exact trivial | exact rfl))))))))))
    exact ⟨rfl, rfl⟩
  refine acall_intro mixed Tryd.func41 rfl ca41 (by kernel_rfl) (by rw [Tryd.ntmps41]; simp) ?_
  repeat' (first | (with_reducible (first | apply w_seq | apply w_region | apply w_block | apply w_skip | apply w_exit | apply w_ret | apply w_then | apply w_then_exit | apply w_then_ret | apply w_in | apply w_in_here | apply w_in_ret | apply w_round | apply o_nil | apply d_nil)) | ((with_reducible (first | apply w_in_exit)); rfl) | ((with_reducible (first | apply w_draw)); rfl) | ((first | ((with_reducible (first | apply o_op | apply d_op | apply q_op)); rfl; rfl) | ((with_reducible (first | apply w_cond | apply w_end | apply w_return))) | ((with_reducible (first | apply o_guard | apply d_guard | apply q_guard)); rfl) | ((with_reducible (first | apply o_call_eq | apply d_call | apply q_call)); rfl)); all_goals (first | ((with_reducible show Is _ _); ((try simp (disch := first | omega | (simp only [yA, yB, yC, yD, yE] <;> omega) | fail) [go_sem, yF, yG, yH, *, if_pos, if_neg, -List.map_take, -List.map_drop, -List.map_append, -List.map_reverse]); exact rfl)) | ((fail_if_success (with_reducible show Is _ _)); (first | ((with_reducible refine fun (hc : (_ : Bool) = _) => ?_); (try simp only [xA, xB, xC, xD, xE, xF, xG, xH, reduceCtorEq, xI, xJ, xK, xL, xM, xN, xO, xP, xQ, xR] at hc); (try (have hx : True := hc; clear hx hc)); (try (exfalso; omega)); (try (with_reducible (exact absurd hc (by assumption)))); (try (with_reducible (exact absurd (by assumption) hc)))) | ((with_reducible show ACall _ _ _ _ _); (first | ((with_reducible (first | apply h2)) <;> (first | omega | assumption | exact rfl | ((simp (disch := first | omega | (simp only [yA, yB, yC, yD, yE] <;> omega) | fail) [go_sem, yF, yG, yH, *, -List.map_take, -List.map_drop, -List.map_append, -List.map_reverse]) <;> (first | done | omega | exact rfl)))))) | ((fail_if_success (with_reducible show ACall _ _ _ _ _)); (try ((with_reducible show _ ∨ _); first | exact .inl rfl | (refine .inr ⟨rfl, ?_, ?_⟩; (focus (repeat (first | exact trivial | refine ⟨.inl rfl, ?_⟩ | refine ⟨.inr rfl, ?_⟩))); (first | exact trivial | exact rfl))))))))))
  exact ⟨rfl, rfl⟩
end Go.Proofs.YtdceppjoipoohaaDoor
end
