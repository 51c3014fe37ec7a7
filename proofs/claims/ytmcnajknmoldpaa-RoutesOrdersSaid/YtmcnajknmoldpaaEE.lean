import Derived.Test.YtmcnajknmoldpaaED
import Derived.Test.YtmcnajknmoldpaaKQ
namespace Go.Proofs.Ytmcnajknmoldpaa
open Go Go.Sy
set_option linter.all false
set_option maxRecDepth 100000
set_option maxHeartbeats 4000000
/-! Drawn prefixes: valid ones, no two of them the same. -/
def PfG (p : Pf) : Prop := p.1.2.length = 16 ∧ vld p.1.1 p.1.2 p.2 = true
def PsG (ps : List Pf) : Prop := ps.Nodup ∧ ∀ p ∈ ps, PfG p
/-- A list of prefixes in a box of the callee's own. -/
def GrowX (o : Nat) (c : CV) (W : List Box) (ps : List Pf) : Prop := (ps = [] ∧ c = .nilS) ∨ ∃ b m, o ≤ b ∧ ps ≠ [] ∧ c = .view b 0 ps.length 18 false ∧ W[b]? = some ⟨ps.flatMap pfC, m⟩
theorem pf_drawn {B : List Box} {β : Nat} {l : List UInt8} {a : Nat} (hB : B[β]? = some (cb l a)) (hl : a ≤ l.length ∧ l.length < 1000000) :
    ∃ (q : Pf) (a2 : Nat) (G : List Box), PfG q ∧ a2 ≤ l.length ∧ ∀ args, Is args [.ptr β 0] → ACall Try.prog 22 args B fun c B' => c = .agg (pfC q) ∧ B' = B.set β (cb l a2) ++ G := by
  have hb : pfBits l a ≤ if adSix l a then 128 else 32 := by
    have : pfBits l a < pfN l a := nxV_lt (by unfold pfN; split <;> omega)
    unfold pfN at this
    split at this <;> rename_i h <;> simp [h] <;> omega
  refine ⟨((adSix l a, pfIP l a), pfBits l a), pfA l a, pfG l a, ⟨cutL_len _ _, vld_cut (adIP_len l a) (okA_ad l a) hb⟩, nxA_le (adA_le hl.1), fun args h => prefix_at h hB hl⟩
theorem nodup_snoc {ps : List Pf} {q : Pf} (h : PsG ps) (hq : PfG q) (hn : ps.contains q = false) : PsG (ps ++ [q]) := by
  refine ⟨List.nodup_append.2 ⟨h.1, by simp, fun a ha b hb e => ?_⟩, fun p hp => ?_⟩
  · rw [List.mem_singleton] at hb; subst hb; subst e
    rw [← List.contains_iff_mem] at ha
    rw [hn] at ha; cases ha
  · rcases List.mem_append.1 hp with hp | hp
    · exact h.2 p hp
    · rw [List.mem_singleton.1 hp]; exact hq
theorem contains_next {ps : List Pf} {q : Pf} {j : Nat} (h : j < ps.length) : (ps.take (j + 1)).contains q = ((ps.take j).contains q || ps[j] == q) := by
  rw [List.take_succ_eq_append_getElem h, List.contains_append, List.contains_cons, List.contains_nil, Bool.or_false]
  congr 1
  exact Bool.eq_iff_iff.2 ⟨fun h => by rw [beq_iff_eq] at h ⊢; exact h.symm, fun h => by rw [beq_iff_eq] at h ⊢; exact h.symm⟩
theorem prefixes_at {B : List Box} {β : Nat} {args : List CV} {l : List UInt8} {a n : Nat} {m : Int} (ha : Is args [.ptr β 0, .int .i64 m]) (hm : m = n) (hB : B[β]? = some (cb l a)) (hl : a ≤ l.length ∧ l.length < 1000000) (hn : n ≤ 1000) :
    ACall Try.prog 19 args B fun c B' => ∃ (ps : List Pf) (a' : Nat), a' ≤ l.length ∧ PsG ps ∧ ps.length ≤ n ∧ GrowX B.length c B' ps ∧ B'[β]? = some (cb l a') ∧ (∀ k, k < B.length → k ≠ β → B'[k]? = B[k]?) ∧ B.length ≤ B'.length := by
  have ha : args = _ := ha
  subst ha hm
  have hβ := (List.getElem?_eq_some_iff.1 hB).1
  have hnx : ∀ (args : List CV), Is args [.ptr β 0, .int .i64 ((n : Int) + 1)] → ACall Try.prog 32 args B fun c B' => c = .int .i64 (nxV l a (n + 1)) ∧ B' = B.set β (cb l (nxA l a (n + 1))) := fun args h => next_at (n := n + 1) h (by omega) hB ⟨by omega, by omega⟩
  have hv := nxV_lt (l := l) (a := a) (n := n + 1) (by omega)
  have hA := nxA_le (l := l) (a := a) (n := n + 1) hl.1
  have hB1 : (B.set β (cb l (nxA l a (n + 1))))[β]? = some (cb l (nxA l a (n + 1))) := List.getElem?_set_self hβ
  have hB2 : ∀ k, k < B.length → k ≠ β → (B.set β (cb l (nxA l a (n + 1))))[k]? = B[k]? := fun k _ hk => List.getElem?_set_ne (Ne.symm hk)
  have hB3 : B.length ≤ (B.set β (cb l (nxA l a (n + 1)))).length := by rw [List.length_set]; exact Nat.le_refl _
  generalize nxA l a (n + 1) = a1 at *
  generalize nxV l a (n + 1) = i0 at *
  refine acall_intro mixed Try.func19 rfl ca19 (by kernel_rfl) (by rw [Try.ntmps19]; simp) ?_
  have hwr : IntKind.i64.wrap ((n : Int) + 1) = (n : Int) + 1 := wi64 (by omega)
  repeat' (first | (with_reducible (first | apply w_seq | apply w_region | apply w_block | apply w_skip | apply w_exit | apply w_ret | apply w_then | apply w_then_exit | apply w_then_ret | apply w_in | apply w_in_here | apply w_in_ret | apply w_round | apply o_nil | apply d_nil)) | ((with_reducible (first | apply w_in_exit)); rfl) | ((with_reducible (first | apply w_draw)); rfl) | ((first | ((with_reducible (first | apply o_op | apply d_op | apply q_op)); rfl; rfl) | ((with_reducible (first | apply w_cond | apply w_end | apply w_return))) | ((with_reducible (first | apply o_guard | apply d_guard | apply q_guard)); rfl) | ((with_reducible (first | apply o_call_eq | apply d_call | apply q_call)); rfl)); all_goals (first | ((with_reducible show Is _ _); ((try simp (disch := first | omega | (simp only [yA, yB, yC, yD, yE] <;> omega) | fail) [go_sem, yF, yG, yH, *, if_pos, if_neg, -List.map_take, -List.map_drop, -List.map_append, -List.map_reverse]); exact rfl)) | ((fail_if_success (with_reducible show Is _ _)); (first | ((with_reducible refine fun (hc : (_ : Bool) = _) => ?_); (try simp only [xA, xB, xC, xD, xE, xF, xG, xH, reduceCtorEq, xI, xJ, xK, xL, xM, xN, xO, xP, xQ, xR] at hc); (try (have hx : True := hc; clear hx hc)); (try (exfalso; omega)); (try (with_reducible (exact absurd hc (by assumption)))); (try (with_reducible (exact absurd (by assumption) hc)))) | ((with_reducible show ACall _ _ _ _ _); (first | ((with_reducible (first | apply hnx)) <;> (first | omega | assumption | exact rfl | ((simp (disch := first | omega | (simp only [yA, yB, yC, yD, yE] <;> omega) | fail) [go_sem, yF, yG, yH, *, -List.map_take, -List.map_drop, -List.map_append, -List.map_reverse]) <;> (first | done | omega | exact rfl)))))) | ((fail_if_success (with_reducible show ACall _ _ _ _ _)); (try (first | exact .inl rfl | (refine .inr ⟨rfl, ?_, ?_⟩; (focus (repeat (first | exact trivial | refine ⟨.inl rfl, ?_⟩ | refine ⟨.inr rfl, ?_⟩))); (first | exact trivial | exact rfl))))))))))
  clear hnx hwr hB
  obtain ⟨W0, hW0⟩ : ∃ W0, B.set β (cb l a1) = W0 := ⟨_, rfl⟩
  rw [hW0] at hB1 hB2 hB3
  refine w_loop (fun fr W => ∃ (i a : Nat) (ps : List Pf), i + ps.length ≤ n ∧ a ≤ l.length ∧ PsG ps ∧ fr 6 = .int .i64 i ∧ fr 0 = .ptr β 0 ∧ GrowX B.length (fr 5) W ps ∧ W[β]? = some (cb l a) ∧ (∀ k, k < B.length → k ≠ β → W[k]? = B[k]?) ∧ B.length ≤ W.length) (fun fr _ => natOf (fr 6)) ?_ ?_
  · exact ⟨i0, a1, [], by simp; omega, hA, ⟨List.nodup_nil, by simp⟩, by (simp (disch := omega) [go_sem, *]) <;> (try omega), by (simp (disch := omega) [go_sem, *]) <;> (try omega), .inl ⟨rfl, by (simp (disch := omega) [go_sem, *]) <;> (try omega)⟩, by rw [hW0]; exact hB1, by rw [hW0]; exact hB2, by rw [hW0]; exact hB3⟩
  · clear hW0 hB1 hB2 hB3 hv hA
    rintro fr W ⟨i, a, ps, hi, ha, hps, h6, h0, hg, hb, hsame, hlen⟩
    by_cases hc : 0 < i
    · obtain ⟨q, a2, G, hq, ha2, hpf⟩ := pf_drawn hb ⟨ha, hl.2⟩
      obtain ⟨p1, p2, p3, p4, p5, p6⟩ := pf_parts hq.1
      obtain ⟨W1, hW1⟩ : ∃ W1, W.set β (cb l a2) ++ G = W1 := ⟨_, rfl⟩
      have hWl : (W.set β (cb l a2)).length = W.length := List.length_set
      have hb1 : W1[β]? = some (cb l a2) := by rw [← hW1, List.getElem?_append_left (by omega)]; exact List.getElem?_set_self (by omega)
      have hs1 : ∀ k, k < B.length → k ≠ β → W1[k]? = B[k]? := fun k h1 h2 => by rw [← hW1, List.getElem?_append_left (by omega), List.getElem?_set_ne (Ne.symm h2), hsame k h1 h2]
      have hl1 : B.length ≤ W1.length := by rw [← hW1, List.length_append, hWl]; omega
      have hg1 : GrowX B.length (fr 5) W1 ps := by
        rcases hg with h | ⟨b, mu, h1, h2, h3, h4⟩
        · exact .inl h
        · refine .inr ⟨b, mu, h1, h2, h3, ?_⟩
          rw [← hW1, List.getElem?_append_left (by have := (List.getElem?_eq_some_iff.1 h4).1; omega), List.getElem?_set_ne (by omega), h4]
      simp only [hW1] at hpf
      clear hW1 hWl hg hb hsame hlen
      have hwi : IntKind.i64.wrap ((i : Int) - 1) = ((i - 1 : Nat) : Int) := by rw [wi64 ⟨by omega, by omega⟩]; omega
      rcases hg1 with ⟨rfl, h5⟩ | ⟨b, mu, hbl, hne, h5, hbb⟩
      · replace hps : Hid _ := hps
        replace hs1 : Hid _ := hs1
        repeat' (first | (with_reducible (first | apply w_seq | apply w_region | apply w_block | apply w_skip | apply w_exit | apply w_ret | apply w_then | apply w_then_exit | apply w_then_ret | apply w_in | apply w_in_here | apply w_in_ret | apply w_round | apply o_nil | apply d_nil)) | ((with_reducible (first | apply w_in_exit)); rfl) | ((with_reducible (first | apply w_draw)); rfl) | ((first | ((with_reducible (first | apply o_op | apply d_op | apply q_op)); rfl; rfl) | ((with_reducible (first | apply w_cond | apply w_end | apply w_return))) | ((with_reducible (first | apply o_guard | apply d_guard | apply q_guard)); rfl) | ((with_reducible (first | apply o_call_eq | apply d_call | apply q_call)); rfl)); all_goals (first | ((with_reducible show Is _ _); ((try simp (disch := first | omega | (simp only [yA, yB, yC, yD, yE] <;> omega) | fail) [go_sem, yF, yG, yH, *, if_pos, if_neg, -List.map_take, -List.map_drop, -List.map_append, -List.map_reverse]); exact rfl)) | ((fail_if_success (with_reducible show Is _ _)); (first | ((with_reducible refine fun (hc : (_ : Bool) = _) => ?_); (try simp only [xA, xB, xC, xD, xE, xF, xG, xH, reduceCtorEq, xI, xJ, xK, xL, xM, xN, xO, xP, xQ, xR] at hc); (try (have hx : True := hc; clear hx hc)); (try (exfalso; omega)); (try (with_reducible (exact absurd hc (by assumption)))); (try (with_reducible (exact absurd (by assumption) hc)))) | ((with_reducible show ACall _ _ _ _ _); (first | ((with_reducible (first | apply hpf)) <;> (first | omega | assumption | exact rfl | ((simp (disch := first | omega | (simp only [yA, yB, yC, yD, yE] <;> omega) | fail) [go_sem, yF, yG, yH, *, -List.map_take, -List.map_drop, -List.map_append, -List.map_reverse]) <;> (first | done | omega | exact rfl)))))) | ((fail_if_success (with_reducible show ACall _ _ _ _ _)); (try (first | exact .inl rfl | (refine .inr ⟨rfl, ?_, ?_⟩; (focus (repeat (first | exact trivial | refine ⟨.inl rfl, ?_⟩ | refine ⟨.inr rfl, ?_⟩))); (first | exact trivial | exact rfl))))))))))
        refine w_unroll 1 ?_
        repeat' (first | (with_reducible (first | apply w_seq | apply w_region | apply w_block | apply w_skip | apply w_exit | apply w_ret | apply w_then | apply w_then_exit | apply w_then_ret | apply w_in | apply w_in_here | apply w_in_ret | apply w_round | apply o_nil | apply d_nil)) | ((with_reducible (first | apply w_in_exit)); rfl) | ((with_reducible (first | apply w_draw)); rfl) | ((first | ((with_reducible (first | apply o_op | apply d_op | apply q_op)); rfl; rfl) | ((with_reducible (first | apply w_cond | apply w_end | apply w_return))) | ((with_reducible (first | apply o_guard | apply d_guard | apply q_guard)); rfl)); all_goals (first | ((with_reducible show Is _ _); ((try simp (disch := first | omega | (simp only [yA, yB, yC, yD, yE] <;> omega) | fail) [go_sem, yF, yG, yH, *, if_pos, if_neg, -List.map_take, -List.map_drop, -List.map_append, -List.map_reverse]); exact rfl)) | ((fail_if_success (with_reducible show Is _ _)); (first | ((with_reducible refine fun (hc : (_ : Bool) = _) => ?_); (try simp only [xA, xB, xC, xD, xE, xF, xG, xH, reduceCtorEq, xI, xJ, xK, xL, xM, xN, xO, xP, xQ, xR] at hc); (try (have hx : True := hc; clear hx hc)); (try (exfalso; omega)); (try (with_reducible (exact absurd hc (by assumption)))); (try (with_reducible (exact absurd (by assumption) hc)))) | ((fail_if_success (with_reducible show ACall _ _ _ _ _)); (try (first | exact .inl rfl | (refine .inr ⟨rfl, ?_, ?_⟩; (focus (repeat (first | exact trivial | refine ⟨.inl rfl, ?_⟩ | refine ⟨.inr rfl, ?_⟩))); (first | exact trivial | exact rfl))))))))))
        have hx := bx_pack hb1
        refine ⟨⟨i - 1, a2, [q], by simp at hi ⊢; omega, ha2, nodup_snoc hps hq rfl, by (simp (disch := omega) [go_sem, *]) <;> (try omega), by (simp (disch := omega) [go_sem, *]) <;> (try omega), .inr ⟨W1.length + 1, false, by omega, by simp, by (simp (disch := omega) [go_sem, *]) <;> (try omega), by simp⟩, hx.1 _, fun k h1 h2 => ?_, by rw [List.length_append]; omega⟩, by simp [upd, natOf, hwi, h6]; omega⟩
        rw [List.getElem?_append_left (by omega), (show ∀ k, k < B.length → k ≠ β → W1[k]? = B[k]? from hs1) k h1 h2]
      · have hbne : b ≠ β := by omega
        have hfl := fl_len (f := pfC) (n := 18) (l := ps) fun p hp => pfC_len (hps.2 p hp).1
        have kl := cells_all (f := pfC) (z := 18) (L := ps) fun p hp => pfC_len (hps.2 p hp).1
        have hpsl : ∀ p ∈ ps, p.1.2.length = 16 := fun p hp => (hps.2 p hp).1
        have hn0 : ps.length ≠ 0 := by simpa using hne
        have hfin : (if ps.contains q then ps else ps ++ [q]).length ≤ ps.length + 1 ∧ PsG (if ps.contains q then ps else ps ++ [q]) := by
          cases hcq : ps.contains q with
          | true => exact ⟨by simp, hps⟩
          | false => exact ⟨by simp, nodup_snoc hps hq hcq⟩
        have hfs : (ps ++ [q]).flatMap pfC = ps.flatMap pfC ++ pfC q := by rw [List.flatMap_append, List.flatMap_singleton]
        obtain ⟨cs, hcs⟩ : ∃ cs, ps.flatMap pfC = cs := ⟨_, rfl⟩
        rw [hcs] at hfl kl hbb hfs
        replace hcs : Hid _ := hcs
        replace kl : Hid _ := kl
        replace hps : Hid _ := hps
        replace hs1 : Hid _ := hs1
        replace hpsl : Hid _ := hpsl
        replace hfin : Hid _ := hfin
        replace hfs : Hid _ := hfs
        repeat' (first | (with_reducible (first | apply w_seq | apply w_region | apply w_block | apply w_skip | apply w_exit | apply w_ret | apply w_then | apply w_then_exit | apply w_then_ret | apply w_in | apply w_in_here | apply w_in_ret | apply w_round | apply o_nil | apply d_nil)) | ((with_reducible (first | apply w_in_exit)); rfl) | ((with_reducible (first | apply w_draw)); rfl) | ((first | ((with_reducible (first | apply o_op | apply d_op | apply q_op)); rfl; rfl) | ((with_reducible (first | apply w_cond | apply w_end | apply w_return))) | ((with_reducible (first | apply o_guard | apply d_guard | apply q_guard)); rfl) | ((with_reducible (first | apply o_call_eq | apply d_call | apply q_call)); rfl)); all_goals (first | ((with_reducible show Is _ _); ((try simp (disch := first | omega | (simp only [yA, yB, yC, yD, yE] <;> omega) | fail) [go_sem, yF, yG, yH, *, if_pos, if_neg, -List.map_take, -List.map_drop, -List.map_append, -List.map_reverse]); exact rfl)) | ((fail_if_success (with_reducible show Is _ _)); (first | ((with_reducible refine fun (hc : (_ : Bool) = _) => ?_); (try simp only [xA, xB, xC, xD, xE, xF, xG, xH, reduceCtorEq, xI, xJ, xK, xL, xM, xN, xO, xP, xQ, xR] at hc); (try (have hx : True := hc; clear hx hc)); (try (exfalso; omega)); (try (with_reducible (exact absurd hc (by assumption)))); (try (with_reducible (exact absurd (by assumption) hc)))) | ((with_reducible show ACall _ _ _ _ _); (first | ((with_reducible (first | apply hpf)) <;> (first | omega | assumption | exact rfl | ((simp (disch := first | omega | (simp only [yA, yB, yC, yD, yE] <;> omega) | fail) [go_sem, yF, yG, yH, *, -List.map_take, -List.map_drop, -List.map_append, -List.map_reverse]) <;> (first | done | omega | exact rfl)))))) | ((fail_if_success (with_reducible show ACall _ _ _ _ _)); (try (first | exact .inl rfl | (refine .inr ⟨rfl, ?_, ?_⟩; (focus (repeat (first | exact trivial | refine ⟨.inl rfl, ?_⟩ | refine ⟨.inr rfl, ?_⟩))); (first | exact trivial | exact rfl))))))))))
        clear hpf
        have hx := bx_pack hb1
        have hy := bx_pack hbb
        refine w_loop (fun fr X => ∃ j : Nat, j ≤ ps.length ∧ fr 23 = .int .i64 j ∧ fr 22 = .int .i64 ps.length ∧ fr 21 = .view b 0 ps.length 18 false ∧ fr 5 = .view b 0 ps.length 18 false ∧ fr 7 = .ptr W1.length 0 ∧ fr 8 = .bool (!(ps.take j).contains q) ∧ fr 0 = .ptr β 0 ∧ fr 6 = .int .i64 i ∧
          X[b]? = some ⟨cs, mu⟩ ∧ X[W1.length]? = some ⟨pfC q, false⟩ ∧ X[β]? = some (cb l a2) ∧ (∀ k, k < B.length → k ≠ β → X[k]? = B[k]?) ∧ B.length ≤ X.length) (fun fr _ => ps.length - natOf (fr 23)) ?_ ?_
        · refine ⟨0, by omega, by (simp (disch := omega) [go_sem, *]) <;> (try omega), by (simp (disch := omega) [go_sem, *]) <;> (try omega), by (simp (disch := omega) [go_sem, *]) <;> (try omega), by (simp (disch := omega) [go_sem, *]) <;> (try omega), by (simp (disch := omega) [go_sem, *]) <;> (try omega), by (simp (disch := omega) [go_sem, *]) <;> (try omega), by (simp (disch := omega) [go_sem, *]) <;> (try omega), by (simp (disch := omega) [go_sem, *]) <;> (try omega), hy.1 _, by simp, hx.1 _, fun k h1 h2 => ?_, by rw [List.length_append]; omega⟩
          rw [List.getElem?_append_left (by omega), (show ∀ k, k < B.length → k ≠ β → W1[k]? = B[k]? from hs1) k h1 h2]
        · have hmo : natOf (fr 6) = i := by rw [h6]; rfl
          replace hmo : Hid _ := hmo
          clear hx hy hs1 hb1 hbb h5 h0 h6
          rintro fr X ⟨j, hj, h23, h22, h21, h5, h7, h8, h0, h6, hXb, hXq, hXβ, hsame, hlen⟩
          have hx := bx_pack hXβ
          have hy := bx_pack hXb
          have hw := bx_pack hXq
          by_cases hcj : j < ps.length
          · obtain ⟨a1, a3⟩ := (show Cells pfC 18 cs ps from kl) j hcj
            have hu := (show ∀ p ∈ ps, p.1.2.length = 16 from hpsl) _ (List.getElem_mem hcj)
            obtain ⟨v1, v2, v3, v4, v5, v6⟩ := pf_parts hu
            have he := pf_eqV hq.1 hu
            have hn := contains_next (q := q) hcj
            replace hsame : Hid _ := hsame
            have hkeep : ∀ D : List Box, (X ++ D)[b]? = some ⟨cs, mu⟩ ∧ (X ++ D)[W1.length]? = some ⟨pfC q, false⟩ ∧ (X ++ D)[β]? = some (cb l a2) ∧ (∀ k, k < B.length → k ≠ β → (X ++ D)[k]? = B[k]?) ∧ B.length ≤ (X ++ D).length := fun D => ⟨hy.1 D, hw.1 D, hx.1 D, fun k h1 h2 => by rw [List.getElem?_append_left (by omega), (show ∀ k, k < B.length → k ≠ β → X[k]? = B[k]? from hsame) k h1 h2], by rw [List.length_append]; omega⟩
            clear hpsl
            replace hkeep : Hid _ := hkeep
            generalize ps[j] = u at *
            cases hf : (ps.take j).contains q with
            | true =>
              rw [hf] at h8 hn
              replace hn : (ps.take (j + 1)).contains q = true := hn
              simp only [Bool.not_true] at h8
              clear hf
              cases mu
              all_goals
                repeat' (first | (with_reducible (first | apply w_seq | apply w_region | apply w_block | apply w_skip | apply w_exit | apply w_ret | apply w_then | apply w_then_exit | apply w_then_ret | apply w_in | apply w_in_here | apply w_in_ret | apply w_round | apply o_nil | apply d_nil)) | ((with_reducible (first | apply w_in_exit)); rfl) | ((with_reducible (first | apply w_draw)); rfl) | ((first | ((with_reducible (first | apply o_op | apply d_op | apply q_op)); rfl; rfl) | ((with_reducible (first | apply w_cond | apply w_end | apply w_return))) | ((with_reducible (first | apply o_guard | apply d_guard | apply q_guard)); rfl)); all_goals (first | ((with_reducible show Is _ _); ((try simp (disch := first | omega | (simp only [yA, yB, yC, yD, yE] <;> omega) | fail) [go_sem, yF, yG, yH, *, if_pos, if_neg, -List.map_take, -List.map_drop, -List.map_append, -List.map_reverse]); exact rfl)) | ((fail_if_success (with_reducible show Is _ _)); (first | ((with_reducible refine fun (hc : (_ : Bool) = _) => ?_); (try simp only [xA, xB, xC, xD, xE, xF, xG, xH, reduceCtorEq, xI, xJ, xK, xL, xM, xN, xO, xP, xQ, xR] at hc); (try (have hx : True := hc; clear hx hc)); (try (exfalso; omega)); (try (with_reducible (exact absurd hc (by assumption)))); (try (with_reducible (exact absurd (by assumption) hc)))) | ((fail_if_success (with_reducible show ACall _ _ _ _ _)); (try (first | exact .inl rfl | (refine .inr ⟨rfl, ?_, ?_⟩; (focus (repeat (first | exact trivial | refine ⟨.inl rfl, ?_⟩ | refine ⟨.inr rfl, ?_⟩))); (first | exact trivial | exact rfl))))))))))
                exact ⟨⟨j + 1, by omega, by (simp (disch := omega) [go_sem, *]) <;> (try omega), by (simp (disch := omega) [go_sem, *]) <;> (try omega), by (simp (disch := omega) [go_sem, *]) <;> (try omega), by (simp (disch := omega) [go_sem, *]) <;> (try omega), by (simp (disch := omega) [go_sem, *]) <;> (try omega), by rw [hn]; (simp (disch := omega) [go_sem, *]) <;> (try omega), by (simp (disch := omega) [go_sem, *]) <;> (try omega), by (simp (disch := omega) [go_sem, *]) <;> (try omega), (show ∀ D : List Box, _ from hkeep) _⟩, by (simp (disch := omega) [go_sem, *]) <;> (try omega)⟩
            | false =>
              rw [hf] at h8 hn
              simp only [Bool.false_or, Bool.not_false] at h8 hn
              clear hf
              by_cases hqu : q = u
              · subst hqu
                rw [beq_self_eq_true] at hn he
                cases mu
                all_goals
                  repeat' (first | (with_reducible (first | apply w_seq | apply w_region | apply w_block | apply w_skip | apply w_exit | apply w_ret | apply w_then | apply w_then_exit | apply w_then_ret | apply w_in | apply w_in_here | apply w_in_ret | apply w_round | apply o_nil | apply d_nil)) | ((with_reducible (first | apply w_in_exit)); rfl) | ((with_reducible (first | apply w_draw)); rfl) | ((first | ((with_reducible (first | apply o_op | apply d_op | apply q_op)); rfl; rfl) | ((with_reducible (first | apply w_cond | apply w_end | apply w_return))) | ((with_reducible (first | apply o_guard | apply d_guard | apply q_guard)); rfl)); all_goals (first | ((with_reducible show Is _ _); ((try simp (disch := first | omega | (simp only [yA, yB, yC, yD, yE] <;> omega) | fail) [go_sem, yF, yG, yH, *, if_pos, if_neg, -List.map_take, -List.map_drop, -List.map_append, -List.map_reverse]); exact rfl)) | ((fail_if_success (with_reducible show Is _ _)); (first | ((with_reducible refine fun (hc : (_ : Bool) = _) => ?_); (try simp only [xA, xB, xC, xD, xE, xF, xG, xH, reduceCtorEq, xI, xJ, xK, xL, xM, xN, xO, xP, xQ, xR] at hc); (try (have hx : True := hc; clear hx hc)); (try (exfalso; omega)); (try (with_reducible (exact absurd hc (by assumption)))); (try (with_reducible (exact absurd (by assumption) hc)))) | ((fail_if_success (with_reducible show ACall _ _ _ _ _)); (try (first | exact .inl rfl | (refine .inr ⟨rfl, ?_, ?_⟩; (focus (repeat (first | exact trivial | refine ⟨.inl rfl, ?_⟩ | refine ⟨.inr rfl, ?_⟩))); (first | exact trivial | exact rfl))))))))))
                  exact ⟨⟨j + 1, by omega, by (simp (disch := omega) [go_sem, *]) <;> (try omega), by (simp (disch := omega) [go_sem, *]) <;> (try omega), by (simp (disch := omega) [go_sem, *]) <;> (try omega), by (simp (disch := omega) [go_sem, *]) <;> (try omega), by (simp (disch := omega) [go_sem, *]) <;> (try omega), by rw [hn]; (simp (disch := omega) [go_sem, *]) <;> (try omega), by (simp (disch := omega) [go_sem, *]) <;> (try omega), by (simp (disch := omega) [go_sem, *]) <;> (try omega), (show ∀ D : List Box, _ from hkeep) _⟩, by (simp (disch := omega) [go_sem, *]) <;> (try omega)⟩
              · rw [beq_eq_false_iff_ne.2 (Ne.symm hqu)] at hn
                rw [beq_eq_false_iff_ne.2 hqu] at he
                cases mu
                all_goals
                  repeat' (first | (with_reducible (first | apply w_seq | apply w_region | apply w_block | apply w_skip | apply w_exit | apply w_ret | apply w_then | apply w_then_exit | apply w_then_ret | apply w_in | apply w_in_here | apply w_in_ret | apply w_round | apply o_nil | apply d_nil)) | ((with_reducible (first | apply w_in_exit)); rfl) | ((with_reducible (first | apply w_draw)); rfl) | ((first | ((with_reducible (first | apply o_op | apply d_op | apply q_op)); rfl; rfl) | ((with_reducible (first | apply w_cond | apply w_end | apply w_return))) | ((with_reducible (first | apply o_guard | apply d_guard | apply q_guard)); rfl)); all_goals (first | ((with_reducible show Is _ _); ((try simp (disch := first | omega | (simp only [yA, yB, yC, yD, yE] <;> omega) | fail) [go_sem, yF, yG, yH, *, if_pos, if_neg, -List.map_take, -List.map_drop, -List.map_append, -List.map_reverse]); exact rfl)) | ((fail_if_success (with_reducible show Is _ _)); (first | ((with_reducible refine fun (hc : (_ : Bool) = _) => ?_); (try simp only [xA, xB, xC, xD, xE, xF, xG, xH, reduceCtorEq, xI, xJ, xK, xL, xM, xN, xO, xP, xQ, xR] at hc); (try (have hx : True := hc; clear hx hc)); (try (exfalso; omega)); (try (with_reducible (exact absurd hc (by assumption)))); (try (with_reducible (exact absurd (by assumption) hc)))) | ((fail_if_success (with_reducible show ACall _ _ _ _ _)); (try (first | exact .inl rfl | (refine .inr ⟨rfl, ?_, ?_⟩; (focus (repeat (first | exact trivial | refine ⟨.inl rfl, ?_⟩ | refine ⟨.inr rfl, ?_⟩))); (first | exact trivial | exact rfl))))))))))
                  exact ⟨⟨j + 1, by omega, by (simp (disch := omega) [go_sem, *]) <;> (try omega), by (simp (disch := omega) [go_sem, *]) <;> (try omega), by (simp (disch := omega) [go_sem, *]) <;> (try omega), by (simp (disch := omega) [go_sem, *]) <;> (try omega), by (simp (disch := omega) [go_sem, *]) <;> (try omega), by rw [hn]; (simp (disch := omega) [go_sem, *]) <;> (try omega), by (simp (disch := omega) [go_sem, *]) <;> (try omega), by (simp (disch := omega) [go_sem, *]) <;> (try omega), (show ∀ D : List Box, _ from hkeep) _⟩, by (simp (disch := omega) [go_sem, *]) <;> (try omega)⟩
          · obtain rfl : j = ps.length := by omega
            rw [List.take_length] at h8
            obtain ⟨f1, f2⟩ := (show (if ps.contains q then ps else ps ++ [q]).length ≤ ps.length + 1 ∧ PsG (if ps.contains q then ps else ps ++ [q]) from hfin)
            replace hsame : Hid _ := hsame
            cases hf : ps.contains q with
            | true =>
              rw [hf] at h8 f1 f2
              simp only [Bool.not_true, if_true] at h8 f1 f2
              replace f2 : Hid _ := f2
              clear hf
              cases mu
              all_goals
                repeat' (first | (with_reducible (first | apply w_seq | apply w_region | apply w_block | apply w_skip | apply w_exit | apply w_ret | apply w_then | apply w_then_exit | apply w_then_ret | apply w_in | apply w_in_here | apply w_in_ret | apply w_round | apply o_nil | apply d_nil)) | ((with_reducible (first | apply w_in_exit)); rfl) | ((with_reducible (first | apply w_draw)); rfl) | ((first | ((with_reducible (first | apply o_op | apply d_op | apply q_op)); rfl; rfl) | ((with_reducible (first | apply w_cond | apply w_end | apply w_return))) | ((with_reducible (first | apply o_guard | apply d_guard | apply q_guard)); rfl)); all_goals (first | ((with_reducible show Is _ _); ((try simp (disch := first | omega | (simp only [yA, yB, yC, yD, yE] <;> omega) | fail) [go_sem, yF, yG, yH, *, if_pos, if_neg, -List.map_take, -List.map_drop, -List.map_append, -List.map_reverse]); exact rfl)) | ((fail_if_success (with_reducible show Is _ _)); (first | ((with_reducible refine fun (hc : (_ : Bool) = _) => ?_); (try simp only [xA, xB, xC, xD, xE, xF, xG, xH, reduceCtorEq, xI, xJ, xK, xL, xM, xN, xO, xP, xQ, xR] at hc); (try (have hx : True := hc; clear hx hc)); (try (exfalso; omega)); (try (with_reducible (exact absurd hc (by assumption)))); (try (with_reducible (exact absurd (by assumption) hc)))) | ((fail_if_success (with_reducible show ACall _ _ _ _ _)); (try (first | exact .inl rfl | (refine .inr ⟨rfl, ?_, ?_⟩; (focus (repeat (first | exact trivial | refine ⟨.inl rfl, ?_⟩ | refine ⟨.inr rfl, ?_⟩))); (first | exact trivial | exact rfl))))))))))
                refine ⟨⟨i - 1, a2, ps, by omega, ha2, f2, by (simp (disch := omega) [go_sem, *]) <;> (try omega), by (simp (disch := omega) [go_sem, *]) <;> (try omega), .inr ⟨b, _, hbl, hne, by (simp (disch := omega) [go_sem, *]) <;> (try omega), by rw [show ps.flatMap pfC = cs from hcs]; exact hXb⟩, hXβ, hsame, hlen⟩, by rw [show natOf _ = i from hmo]; simp [upd, natOf]; omega⟩
            | false =>
              rw [hf] at h8 f1 f2
              simp only [Bool.not_false, Bool.false_eq_true, if_false] at h8 f1 f2
              replace f2 : Hid _ := f2
              clear hf
              cases mu
              all_goals
                repeat' (first | (with_reducible (first | apply w_seq | apply w_region | apply w_block | apply w_skip | apply w_exit | apply w_ret | apply w_then | apply w_then_exit | apply w_then_ret | apply w_in | apply w_in_here | apply w_in_ret | apply w_round | apply o_nil | apply d_nil)) | ((with_reducible (first | apply w_in_exit)); rfl) | ((with_reducible (first | apply w_draw)); rfl) | ((first | ((with_reducible (first | apply o_op | apply d_op | apply q_op)); rfl; rfl) | ((with_reducible (first | apply w_cond | apply w_end | apply w_return))) | ((with_reducible (first | apply o_guard | apply d_guard | apply q_guard)); rfl)); all_goals (first | ((with_reducible show Is _ _); ((try simp (disch := first | omega | (simp only [yA, yB, yC, yD, yE] <;> omega) | fail) [go_sem, yF, yG, yH, *, if_pos, if_neg, -List.map_take, -List.map_drop, -List.map_append, -List.map_reverse]); exact rfl)) | ((fail_if_success (with_reducible show Is _ _)); (first | ((with_reducible refine fun (hc : (_ : Bool) = _) => ?_); (try simp only [xA, xB, xC, xD, xE, xF, xG, xH, reduceCtorEq, xI, xJ, xK, xL, xM, xN, xO, xP, xQ, xR] at hc); (try (have hx : True := hc; clear hx hc)); (try (exfalso; omega)); (try (with_reducible (exact absurd hc (by assumption)))); (try (with_reducible (exact absurd (by assumption) hc)))) | ((fail_if_success (with_reducible show ACall _ _ _ _ _)); (try (first | exact .inl rfl | (refine .inr ⟨rfl, ?_, ?_⟩; (focus (repeat (first | exact trivial | refine ⟨.inl rfl, ?_⟩ | refine ⟨.inr rfl, ?_⟩))); (first | exact trivial | exact rfl))))))))))
                refine ⟨⟨i - 1, a2, ps ++ [q], by omega, ha2, f2, by (simp (disch := omega) [go_sem, *]) <;> (try omega), by (simp (disch := omega) [go_sem, *]) <;> (try omega), .inr ⟨b, true, hbl, by simp, by rw [List.length_append]; (simp (disch := omega) [go_sem, *]) <;> (try omega), by rw [show (ps ++ [q]).flatMap pfC = _ from hfs]; exact hy.2.2.1 _⟩, by rw [List.getElem?_set_ne hbne]; exact hXβ, fun k h1 h2 => by rw [List.getElem?_set_ne (by omega)]; exact (show ∀ k, k < B.length → k ≠ β → X[k]? = B[k]? from hsame) k h1 h2, by rw [List.length_set]; exact hlen⟩, by rw [show natOf _ = i from hmo]; simp [upd, natOf]; omega⟩
    · have : i = 0 := by omega
      subst this
      replace hps : Hid _ := hps
      replace hsame : Hid _ := hsame
      repeat' (first | (with_reducible (first | apply w_seq | apply w_region | apply w_block | apply w_skip | apply w_exit | apply w_ret | apply w_then | apply w_then_exit | apply w_then_ret | apply w_in | apply w_in_here | apply w_in_ret | apply w_round | apply o_nil | apply d_nil)) | ((with_reducible (first | apply w_in_exit)); rfl) | ((with_reducible (first | apply w_draw)); rfl) | ((first | ((with_reducible (first | apply o_op | apply d_op | apply q_op)); rfl; rfl) | ((with_reducible (first | apply w_cond | apply w_end | apply w_return))) | ((with_reducible (first | apply o_guard | apply d_guard | apply q_guard)); rfl)); all_goals (first | ((with_reducible show Is _ _); ((try simp (disch := first | omega | (simp only [yA, yB, yC, yD, yE] <;> omega) | fail) [go_sem, yF, yG, yH, *, if_pos, if_neg, -List.map_take, -List.map_drop, -List.map_append, -List.map_reverse]); exact rfl)) | ((fail_if_success (with_reducible show Is _ _)); (first | ((with_reducible refine fun (hc : (_ : Bool) = _) => ?_); (try simp only [xA, xB, xC, xD, xE, xF, xG, xH, reduceCtorEq, xI, xJ, xK, xL, xM, xN, xO, xP, xQ, xR] at hc); (try (have hx : True := hc; clear hx hc)); (try (exfalso; omega)); (try (with_reducible (exact absurd hc (by assumption)))); (try (with_reducible (exact absurd (by assumption) hc)))) | ((fail_if_success (with_reducible show ACall _ _ _ _ _)); (try (first | exact .inl rfl | (refine .inr ⟨rfl, ?_, ?_⟩; (focus (repeat (first | exact trivial | refine ⟨.inl rfl, ?_⟩ | refine ⟨.inr rfl, ?_⟩))); (first | exact trivial | exact rfl))))))))))
      exact ⟨ps, a, ha, hps, by omega, hg, hb, hsame, hlen⟩
/-! Lists of routes in plain Lean: order, inserting, removing. -/
theorem bl_irrefl : ∀ a : List UInt8, Op.bytesLess a a = false
  | [] => rfl
  | a :: l => by
    have : ¬ a < a := UInt8.lt_irrefl a
    simp [Op.bytesLess, this, bl_irrefl l]
theorem bl_trans : ∀ {a b c : List UInt8}, Op.bytesLess a b = true → Op.bytesLess b c = true → Op.bytesLess a c = true
  | _, [], _, h, _ => by simp [Op.bytesLess] at h
  | _, _ :: _, [], _, h => by simp [Op.bytesLess] at h
  | [], _ :: _, _ :: _, _, _ => rfl
  | x :: a, y :: b, z :: c, h1, h2 => by
    simp only [Op.bytesLess, Bool.or_eq_true, decide_eq_true_eq, Bool.and_eq_true, beq_iff_eq] at h1 h2 ⊢
    rcases h1 with h1 | ⟨rfl, h1⟩ <;> rcases h2 with h2 | ⟨rfl, h2⟩
    · exact .inl (UInt8.lt_trans h1 h2)
    · exact .inl h1
    · exact .inl h2
    · exact .inr ⟨rfl, bl_trans h1 h2⟩
theorem bl_total : ∀ {a b : List UInt8}, Op.bytesLess a b = false → a ≠ b → Op.bytesLess b a = true
  | [], [], _, h => absurd rfl h
  | [], _ :: _, h, _ => by simp [Op.bytesLess] at h
  | _ :: _, [], _, _ => rfl
  | x :: a, y :: b, h, hne => by
    simp only [Op.bytesLess, Bool.or_eq_false_iff, decide_eq_false_iff_not, Bool.and_eq_false_iff, beq_eq_false_iff_ne] at h
    simp only [Op.bytesLess, Bool.or_eq_true, decide_eq_true_eq, Bool.and_eq_true, beq_iff_eq]
    rcases Decidable.em (x = y) with rfl | hxy
    · refine .inr ⟨rfl, bl_total (h.2.resolve_left (fun h => h rfl)) (fun e => hne (by rw [e]))⟩
    · exact .inl (UInt8.lt_of_le_of_ne (UInt8.not_lt.1 h.1) (Ne.symm hxy))
theorem lessP_irrefl (p : Pf) : lessP p p = false := by simp [lessP]
theorem lessI_trans {a b c : Ad} (h1 : lessI a.1 a.2 b.1 b.2 = true) (h2 : lessI b.1 b.2 c.1 c.2 = true) : lessI a.1 a.2 c.1 c.2 = true := by
  obtain ⟨x, A⟩ := a
  obtain ⟨y, B⟩ := b
  obtain ⟨z, C⟩ := c
  unfold lessI at *
  cases x <;> cases y <;> cases z <;> simp_all
  · exact bl_trans h1 h2
  · exact bl_trans h1 h2
theorem lessI_irrefl (a : Ad) : lessI a.1 a.2 a.1 a.2 = false := by simp [lessI, bl_irrefl]
theorem lessI_total {a b : Ad} (h : lessI a.1 a.2 b.1 b.2 = false) (hne : a ≠ b) : lessI b.1 b.2 a.1 a.2 = true := by
  obtain ⟨x, A⟩ := a
  obtain ⟨y, B⟩ := b
  unfold lessI at *
  cases x <;> cases y <;> simp_all
  · exact bl_total h fun e => hne e
  · exact bl_total h fun e => hne e
theorem lessP_trans {p q r : Pf} (h1 : lessP p q = true) (h2 : lessP q r = true) : lessP p r = true := by
  unfold lessP at *
  by_cases e1 : p.1 = q.1
  · by_cases e2 : q.1 = r.1
    · rw [e1, e2] at h1 ⊢
      rw [e2] at h2
      simp only [beq_self_eq_true, if_true, decide_eq_true_eq] at h1 h2 ⊢
      omega
    · rw [e1, beq_eq_false_iff_ne.2 e2] at *
      simpa using h2
  · by_cases e2 : q.1 = r.1
    · rw [← e2]
      rw [beq_eq_false_iff_ne.2 e1] at *
      simpa using h1
    · rw [beq_eq_false_iff_ne.2 e1] at h1
      rw [beq_eq_false_iff_ne.2 e2] at h2
      simp only [Bool.false_eq_true, if_false] at h1 h2
      have ht := lessI_trans (a := p.1) (b := q.1) (c := r.1) h1 h2
      by_cases e3 : p.1 = r.1
      · rw [e3, lessI_irrefl] at ht; cases ht
      · rw [beq_eq_false_iff_ne.2 e3]; simpa using ht
theorem lessP_total {p q : Pf} (h : lessP p q = false) (hne : p ≠ q) : lessP q p = true := by
  unfold lessP at *
  by_cases e1 : p.1 = q.1
  · rw [e1] at h ⊢
    simp only [beq_self_eq_true, if_true, decide_eq_true_eq, decide_eq_false_iff_not] at h ⊢
    have : p.2 ≠ q.2 := fun e => hne (Prod.ext e1 e)
    omega
  · rw [beq_eq_false_iff_ne.2 e1] at h
    rw [beq_eq_false_iff_ne.2 fun e => e1 e.symm]
    simp only [Bool.false_eq_true, if_false] at h ⊢
    exact lessI_total h e1
theorem lessP_asymm {p q : Pf} (h : lessP p q = true) : lessP q p = false := by
  cases h2 : lessP q p with
  | false => rfl
  | true => have := lessP_trans h h2; rw [lessP_irrefl] at this; cases this
/-- In order. -/
def Ord (L : List Rt) : Prop := L.Pairwise fun a b => lessP a.1 b.1 = true
theorem ord_cons {r : Rt} {l : List Rt} : Ord (r :: l) ↔ (∀ q ∈ l, lessP r.1 q.1 = true) ∧ Ord l := List.pairwise_cons
theorem ordF_iff : ∀ (L : List Rt) (o : Option Pf), ordF o L = true ↔ ((∀ r ∈ L, rvld r = true) ∧ Ord L ∧ ∀ p, o = some p → ∀ r ∈ L, lessP p r.1 = true)
  | [], o => by cases o <;> simp [ordF, Ord]
  | r :: l, o => by
    have ih := ordF_iff l (some r.1)
    have key : ordF (some r.1) l = true ↔ (∀ r ∈ l, rvld r = true) ∧ Ord l ∧ ∀ q ∈ l, lessP r.1 q.1 = true := by
      rw [ih]; exact ⟨fun ⟨a, b, c⟩ => ⟨a, b, c _ rfl⟩, fun ⟨a, b, c⟩ => ⟨a, b, fun p hp => by cases hp; exact c⟩⟩
    cases o with
    | none =>
      rw [ordF, Bool.and_eq_true, key, ord_cons]
      constructor
      · rintro ⟨h1, h2, h3, h4⟩
        exact ⟨fun q hq => by rcases List.mem_cons.1 hq with rfl | hq; exact h1; exact h2 q hq, ⟨h4, h3⟩, fun p hp => by cases hp⟩
      · rintro ⟨h1, ⟨h2, h3⟩, _⟩
        exact ⟨h1 r (by simp), fun q hq => h1 q (by simp [hq]), h3, h2⟩
    | some p =>
      rw [ordF, Bool.and_eq_true, Bool.and_eq_true, key, ord_cons]
      constructor
      · rintro ⟨h1, h5, h2, h3, h4⟩
        refine ⟨fun q hq => by rcases List.mem_cons.1 hq with rfl | hq; exact h1; exact h2 q hq, ⟨h4, h3⟩, fun p' hp q hq => ?_⟩
        cases hp
        rcases List.mem_cons.1 hq with rfl | hq
        · exact h5
        · exact lessP_trans h5 (h4 q hq)
      · rintro ⟨h1, ⟨h2, h3⟩, h4⟩
        exact ⟨h1 r (by simp), h4 p rfl r (by simp), fun q hq => h1 q (by simp [hq]), h3, h2⟩
/-- Valid lists. -/
structure RG (L : List Rt) : Prop where
  good : ∀ r ∈ L, RtG r
  vld : ∀ r ∈ L, rvld r = true
  ord : Ord L
theorem RG.nil : RG [] := ⟨by simp, by simp, List.Pairwise.nil⟩
theorem RG.len {L : List Rt} (h : RG L) : ∀ r ∈ L, RtL r := fun r hr => ⟨(h.good r hr).1, (h.good r hr).2.1⟩
theorem RG.valid {L : List Rt} (h : RG L) (hl : L.length ≤ 16) : validR L = true := by
  rw [validR, (ordF_iff L none).2 ⟨h.vld, h.ord, fun p hp => by cases hp⟩, decide_eq_true hl]; rfl
theorem RG.sub {L : List Rt} (h : RG L) (f : Rt → Bool) : RG (L.filter f) := ⟨fun r hr => h.good r (List.mem_filter.1 hr).1, fun r hr => h.vld r (List.mem_filter.1 hr).1, List.Pairwise.filter _ h.ord⟩
theorem PfG.rt {p : Pf} {k : List UInt8} (hp : PfG p) (hk : k.length = 32) : RtG (p, k) ∧ rvld (p, k) = true := by
  have := vld_range hp.2
  exact ⟨⟨hp.1, hk, by show _ ≤ p.2; omega, by show p.2 ≤ _; omega⟩, hp.2⟩
theorem idx_none {p : Pf} {L : List Rt} (h : ¬ L.findIdx (isPf p) < L.length) : ∀ r ∈ L, r.1 ≠ p := fun r hr e => by
  refine h (List.findIdx_lt_length_of_exists ⟨r, hr, ?_⟩)
  simp [isPf, e]
theorem ins_ord {p : Pf} {k : List UInt8} {L : List Rt} (ho : Ord L) (hn : ∀ r ∈ L, r.1 ≠ p) : Ord (L.take (L.findIdx (isLt p)) ++ (p, k) :: L.drop (L.findIdx (isLt p))) := by
  have hlo : ∀ r ∈ L.take (L.findIdx (isLt p)), lessP r.1 p = true := fun r hr => by
    obtain ⟨i, hi, rfl⟩ := List.getElem_of_mem hr
    rw [List.length_take] at hi
    have h1 := List.not_of_lt_findIdx (xs := L) (p := isLt p) (i := i) (by omega)
    rw [List.getElem_take]
    exact lessP_total h1 fun e => hn _ (List.getElem_mem (by omega)) e.symm
  have hhi : ∀ r ∈ L.drop (L.findIdx (isLt p)), lessP p r.1 = true := fun r hr => by
    obtain ⟨i, hi, rfl⟩ := List.getElem_of_mem hr
    rw [List.length_drop] at hi
    rw [List.getElem_drop]
    have h0 : lessP p L[L.findIdx (isLt p)].1 = true := List.findIdx_getElem (xs := L) (p := isLt p) (w := by omega)
    rcases Nat.eq_zero_or_pos i with rfl | hp
    · exact h0
    · exact lessP_trans h0 (List.pairwise_iff_getElem.1 ho _ _ (by omega) (by omega) (by omega))
  have hsplit := ho
  rw [← List.take_append_drop (L.findIdx (isLt p)) L] at hsplit
  obtain ⟨g1, g2, g3⟩ := List.pairwise_append.1 hsplit
  refine List.pairwise_append.2 ⟨g1, List.pairwise_cons.2 ⟨hhi, g2⟩, fun a ha b hb => ?_⟩
  rcases List.mem_cons.1 hb with rfl | hb
  · exact hlo a ha
  · exact g3 a ha b hb
/-- What is inserted into a valid list. -/
theorem ins_new {p : Pf} {k : List UInt8} {L : List Rt} (hL : RG L) (hp : PfG p) (hk : k.length = 32) (hn : ∀ r ∈ L, r.1 ≠ p) (hl : L.length < 16) :
    ∃ M, insF L p k = (M, 0) ∧ RG M ∧ M.Perm ((p, k) :: L) ∧ M.length = L.length + 1 := by
  have h1 : ¬ L.findIdx (isPf p) < L.length := fun h => by
    have := List.findIdx_getElem (xs := L) (p := isPf p) (w := h)
    exact hn _ (List.getElem_mem h) (by simpa [isPf] using this)
  have hperm : (L.take (L.findIdx (isLt p)) ++ (p, k) :: L.drop (L.findIdx (isLt p))).Perm ((p, k) :: L) := by
    have := List.perm_middle (a := (p, k)) (l₁ := L.take (L.findIdx (isLt p))) (l₂ := L.drop (L.findIdx (isLt p)))
    rwa [List.take_append_drop] at this
  refine ⟨_, by rw [insF, if_neg (by rw [hp.2]; decide), if_neg h1, if_neg (by omega)], ⟨fun r hr => ?_, fun r hr => ?_, ins_ord hL.ord hn⟩, hperm, by rw [hperm.length_eq]; rfl⟩
  · rcases List.mem_cons.1 (hperm.mem_iff.1 hr) with rfl | h
    · exact (hp.rt hk).1
    · exact hL.good r h
  · rcases List.mem_cons.1 (hperm.mem_iff.1 hr) with rfl | h
    · exact (hp.rt hk).2
    · exact hL.vld r h
theorem ins_old {p : Pf} {k : List UInt8} {L : List Rt} (hL : RG L) (hp : PfG p) (hk : k.length = 32) (hn : ∃ r ∈ L, r.1 = p) :
    ∃ M, insF L p k = (M, 0) ∧ RG M ∧ M.length = L.length := by
  have h1 : L.findIdx (isPf p) < L.length := by
    obtain ⟨r, hr, e⟩ := hn
    exact List.findIdx_lt_length_of_exists ⟨r, hr, by simp [isPf, e]⟩
  have he : L[L.findIdx (isPf p)].1 = p := by
    have := List.findIdx_getElem (xs := L) (p := isPf p) (w := h1)
    simpa [isPf] using this
  refine ⟨_, by rw [insF, if_neg (by rw [hp.2]; decide), if_pos h1], ⟨fun r hr => ?_, fun r hr => ?_, ?_⟩, List.length_set⟩
  · rcases List.mem_or_eq_of_mem_set hr with h | rfl
    · exact hL.good r h
    · exact (hp.rt hk).1
  · rcases List.mem_or_eq_of_mem_set hr with h | rfl
    · exact hL.vld r h
    · exact (hp.rt hk).2
  · have key : (L.set (L.findIdx (isPf p)) (p, k)).map (·.1) = L.map (·.1) := by
      rw [List.map_set]
      apply List.ext_getElem?
      intro i
      rw [List.getElem?_set]
      split
      · rename_i h; subst h; rw [if_pos (by simpa using h1)]; simp [List.getElem?_eq_getElem h1, he]
      · rfl
    have ho := hL.ord
    unfold Ord at ho ⊢
    have e1 : ∀ (M : List Rt), M.Pairwise (fun a b => lessP a.1 b.1 = true) ↔ (M.map (·.1)).Pairwise (fun a b => lessP a b = true) := fun M => by rw [List.pairwise_map]
    rw [e1] at ho ⊢
    rw [key]; exact ho
theorem ins_any {p : Pf} {k : List UInt8} {L : List Rt} (hL : RG L) (hp : PfG p) (hk : k.length = 32) (hl : L.length < 16) : ∃ M, insF L p k = (M, 0) ∧ RG M ∧ M.length ≤ L.length + 1 := by
  by_cases h : ∃ r ∈ L, r.1 = p
  · obtain ⟨M, h1, h2, h3⟩ := ins_old hL hp hk h
    exact ⟨M, h1, h2, by omega⟩
  · obtain ⟨M, h1, h2, _, h3⟩ := ins_new hL hp hk (fun r hr e => h ⟨r, hr, e⟩) hl
    exact ⟨M, h1, h2, by omega⟩
/-! What the laws of routes use: hosts, the example, made lists. -/
def hostF (a b : Nat) : Ad := (false, [10, UInt8.ofNat a, 0, UInt8.ofNat b] ++ z12)
theorem host_in (a b : Nat) (ha : a < 256) (hb : b < 256) : PC Try.prog true 18 [.int .i64 a, .int .i64 b] (.agg (adC (hostF a b))) := by
  have h1 : IntKind.u8.wrap (a : Int) = a := wu8 ⟨by omega, by omega⟩
  have h2 : IntKind.u8.wrap (b : Int) = b := wu8 ⟨by omega, by omega⟩
  refine acall_intro mixed Try.func18 rfl ca18 (by kernel_rfl) (by rw [Try.ntmps18]; simp) ?_
  repeat' (first | (with_reducible (first | apply w_seq | apply w_region | apply w_block | apply w_skip | apply w_exit | apply w_ret | apply w_then | apply w_then_exit | apply w_then_ret | apply w_in | apply w_in_here | apply w_in_ret | apply w_round | apply o_nil | apply d_nil)) | ((with_reducible (first | apply w_in_exit)); rfl) | ((with_reducible (first | apply w_draw)); rfl) | ((first | ((with_reducible (first | apply o_op | apply d_op | apply q_op)); rfl; rfl) | ((with_reducible (first | apply w_cond | apply w_end | apply w_return))) | ((with_reducible (first | apply o_guard | apply d_guard | apply q_guard)); rfl)); all_goals (first | ((with_reducible show Is _ _); ((try simp (disch := first | omega | (simp only [yA, yB, yC, yD, yE] <;> omega) | fail) [go_sem, yF, yG, yH, *, if_pos, if_neg, -List.map_take, -List.map_drop, -List.map_append, -List.map_reverse]); exact rfl)) | ((fail_if_success (with_reducible show Is _ _)); (first | ((with_reducible refine fun (hc : (_ : Bool) = _) => ?_); (try simp only [xA, xB, xC, xD, xE, xF, xG, xH, reduceCtorEq, xI, xJ, xK, xL, xM, xN, xO, xP, xQ, xR] at hc); (try (have hx : True := hc; clear hx hc)); (try (exfalso; omega)); (try (with_reducible (exact absurd hc (by assumption)))); (try (with_reducible (exact absurd (by assumption) hc)))) | ((fail_if_success (with_reducible show ACall _ _ _ _ _)); (try (first | exact .inl rfl | (refine .inr ⟨rfl, ?_, ?_⟩; (focus (repeat (first | exact trivial | refine ⟨.inl rfl, ?_⟩ | refine ⟨.inr rfl, ?_⟩))); (first | exact trivial | exact rfl))))))))))
  simp [go_sem, adC, hostF, z12, byteC, Nat.mod_eq_of_lt ha, Nat.mod_eq_of_lt hb]
theorem host_at {B : List Box} {args : List CV} {a b : Nat} (hz : Is (omap (fz true false B 6) args) (some [.int .i64 a, .int .i64 b])) (ha : a < 256) (hb : b < 256) : ACall Try.prog 18 args B fun c B' => c = .agg (adC (hostF a b)) ∧ B' = B := acall_fresh hz (host_in a b ha hb)
def mskF (a : Ad) (s : Nat) : Pf := ((a.1, cutL a.2 s), s)
theorem msk_at {B : List Box} {args : List CV} {a : Ad} {n : Int} {s : Nat} (hz : Is (omap (fz true false B 6) args) (some [.agg (adC a), .int .i64 n])) (hn : n = s) (hA : a.2.length = 16) (hs : s ≤ 128) : ACall Try.prog 17 args B fun c B' => c = .agg (pfC (mskF a s)) ∧ B' = B := masked_at hz hn hA hs
theorem msk_good {a : Ad} {s : Nat} (hA : a.2.length = 16) (h : okA a.1 a.2 = true) (hs : s ≤ if a.1 then 128 else 32) : PfG (mskF a s) := ⟨cutL_len _ _, vld_cut hA h hs⟩
def keyF (b : UInt8) : List UInt8 := b :: List.replicate 31 0
def bgP1 : Pf := mskF (hostF 0 0) 8
def bgP2 : Pf := mskF (hostF 1 0) 16
theorem begun14_in : PC Try.prog true 14 [] (.bool true) := by
  have z32 : (List.replicate 32 (0 : UInt8)).length = 32 := rfl
  have gd1 : RtL (bgP1, keyF 1) := ⟨by decide +kernel, rfl⟩
  have gd2 : RtL (bgP2, keyF 2) := ⟨by decide +kernel, rfl⟩
  have e1 : insF [] bgP1 (keyF 1) = ([(bgP1, keyF 1)], 0) := by decide +kernel
  have e2 : insF [(bgP1, keyF 1)] bgP2 (keyF 2) = ([(bgP1, keyF 1), (bgP2, keyF 2)], 0) := by decide +kernel
  have l1 : ∀ r ∈ [(bgP1, keyF 1), (bgP2, keyF 2)], RtG r := fun r hr => by
    simp only [List.mem_cons, List.not_mem_nil, or_false] at hr
    rcases hr with rfl | rfl <;> exact ⟨by decide +kernel, rfl, by decide, by decide⟩
  have l0 : ∀ r ∈ [(bgP1, keyF 1)], RtL r := fun r hr => by
    simp only [List.mem_cons, List.not_mem_nil, or_false] at hr
    subst hr; exact gd1
  have f1 : lookF [(bgP1, keyF 1), (bgP2, keyF 2)] (hostF 1 3) = (keyF 2, true) := by rw [look_same l1 rfl]; decide +kernel
  have f2 : lookF [(bgP1, keyF 1), (bgP2, keyF 2)] (hostF 2 3) = (keyF 1, true) := by rw [look_same l1 rfl]; decide +kernel
  have f3 : lookF [(bgP1, keyF 1), (bgP2, keyF 2)] (false, 11 :: List.replicate 15 0) = (List.replicate 32 0, false) := by rw [look_same l1 rfl]; decide +kernel
  have om : ∀ (a : Ad) (nz fr : Bool) (B : List Box) (k : Nat), omap (fz nz fr B (k + 1)) (adC a) = some (adC a) := fun _ _ _ _ _ => by simp [adC, go_sem]
  have h1 : ∀ {B : List Box} {args : List CV}, Is (omap (fz true false B 6) args) (some [.int .i64 0, .int .i64 0]) → ACall Try.prog 18 args B fun c B' => c = .agg (adC (hostF 0 0)) ∧ B' = B := fun h => host_at (a := 0) (b := 0) h (by omega) (by omega)
  have h2 : ∀ {B : List Box} {args : List CV}, Is (omap (fz true false B 6) args) (some [.int .i64 1, .int .i64 0]) → ACall Try.prog 18 args B fun c B' => c = .agg (adC (hostF 1 0)) ∧ B' = B := fun h => host_at (a := 1) (b := 0) h (by omega) (by omega)
  have h3 : ∀ {B : List Box} {args : List CV}, Is (omap (fz true false B 6) args) (some [.int .i64 1, .int .i64 3]) → ACall Try.prog 18 args B fun c B' => c = .agg (adC (hostF 1 3)) ∧ B' = B := fun h => host_at (a := 1) (b := 3) h (by omega) (by omega)
  have h4 : ∀ {B : List Box} {args : List CV}, Is (omap (fz true false B 6) args) (some [.int .i64 2, .int .i64 3]) → ACall Try.prog 18 args B fun c B' => c = .agg (adC (hostF 2 3)) ∧ B' = B := fun h => host_at (a := 2) (b := 3) h (by omega) (by omega)
  have m1 : ∀ {B : List Box} {args : List CV}, Is (omap (fz true false B 6) args) (some [.agg (adC (hostF 0 0)), .int .i64 8]) → ACall Try.prog 17 args B fun c B' => c = .agg (pfC bgP1) ∧ B' = B := fun h => msk_at (a := hostF 0 0) (s := 8) h rfl rfl (by omega)
  have m2 : ∀ {B : List Box} {args : List CV}, Is (omap (fz true false B 6) args) (some [.agg (adC (hostF 1 0)), .int .i64 16]) → ACall Try.prog 17 args B fun c B' => c = .agg (pfC bgP2) ∧ B' = B := fun h => msk_at (a := hostF 1 0) (s := 16) h rfl rfl (by omega)
  have i1 : ∀ {B : List Box} {args : List CV}, Is (omap (fz true false B 6) args) (some [.lst 0 [] false, .agg (pfC bgP1), .agg ((keyF 1).map byteC)]) → ACall Try.prog 16 args B fun c B' => c = .tup [rl rtC [(bgP1, keyF 1)], .int .i64 0] ∧ B' = B := fun h => by
    have := insert_at (L := []) h (by simp) gd1.1 rfl (by simp)
    rwa [e1] at this
  have i2 : ∀ {B : List Box} {args : List CV}, Is (omap (fz true false B 6) args) (some [rl rtC [(bgP1, keyF 1)], .agg (pfC bgP2), .agg ((keyF 2).map byteC)]) → ACall Try.prog 16 args B fun c B' => c = .tup [rl rtC [(bgP1, keyF 1), (bgP2, keyF 2)], .int .i64 0] ∧ B' = B := fun h => by
    have := insert_at h l0 gd2.1 rfl (by simp)
    rwa [e2] at this
  have q1 : ∀ {B : List Box} {args : List CV}, Is (omap (fz true false B 6) args) (some [rl rtC [(bgP1, keyF 1), (bgP2, keyF 2)], .agg (adC (hostF 1 3))]) → ACall Try.prog 12 args B fun c B' => c = .tup [.agg ((keyF 2).map byteC), .bool true] ∧ B' = B := fun h => by
    have := lookup_at h l1 (by simp) rfl
    rwa [f1] at this
  have q2 : ∀ {B : List Box} {args : List CV}, Is (omap (fz true false B 6) args) (some [rl rtC [(bgP1, keyF 1), (bgP2, keyF 2)], .agg (adC (hostF 2 3))]) → ACall Try.prog 12 args B fun c B' => c = .tup [.agg ((keyF 1).map byteC), .bool true] ∧ B' = B := fun h => by
    have := lookup_at h l1 (by simp) rfl
    rwa [f2] at this
  have q3 : ∀ {B : List Box} {args : List CV}, Is (omap (fz true false B 6) args) (some [rl rtC [(bgP1, keyF 1), (bgP2, keyF 2)], .agg (adC (false, 11 :: List.replicate 15 0))]) → ACall Try.prog 12 args B fun c B' => c = .tup [.agg ((List.replicate 32 (0 : UInt8)).map byteC), .bool false] ∧ B' = B := fun h => by
    have := lookup_at h l1 (by simp) rfl
    rwa [f3] at this
  have ho3 := om (false, 11 :: List.replicate 15 0)
  have hoK : ∀ (y : UInt8) (nz fr : Bool) (B : List Box) (k : Nat), omap (fz nz fr B (k + 1)) ((keyF y).map byteC) = some ((keyF y).map byteC) := fun _ _ _ _ _ => by simp [go_sem]
  have om0 : ∀ (L : List Rt) (nz : Bool) (B : List Box) (k : Nat), fz nz false B (k + 2) (rl rtC L) = some (rl rtC L) := fun L nz B k => by simp [rl, go_sem]
  clear z32 gd1 gd2 e1 e2 l1 l0 f1 f2 f3
  have om2 := om0 [(bgP1, keyF 1), (bgP2, keyF 2)]
  generalize rl rtC [(bgP1, keyF 1), (bgP2, keyF 2)] = r2 at *
  refine acall_intro mixed Try.func14 rfl ca14 (by kernel_rfl) (by rw [Try.ntmps14]; simp) ?_
  repeat' (first | (with_reducible (first | apply w_seq | apply w_region | apply w_block | apply w_skip | apply w_exit | apply w_ret | apply w_then | apply w_then_exit | apply w_then_ret | apply w_in | apply w_in_here | apply w_in_ret | apply w_round | apply o_nil | apply d_nil)) | ((with_reducible (first | apply w_in_exit)); rfl) | ((with_reducible (first | apply w_draw)); rfl) | ((first | ((with_reducible (first | apply o_op | apply d_op | apply q_op)); rfl; rfl) | ((with_reducible (first | apply w_cond | apply w_end | apply w_return))) | ((with_reducible (first | apply o_guard | apply d_guard | apply q_guard)); rfl) | ((with_reducible (first | apply o_call_eq | apply d_call | apply q_call)); rfl)); all_goals (first | ((with_reducible show Is _ _); ((try simp (disch := first | omega | (simp only [yA, yB, yC, yD, yE] <;> omega) | fail) [go_sem, yF, yG, yH, *, if_pos, if_neg, -List.map_take, -List.map_drop, -List.map_append, -List.map_reverse]); exact rfl)) | ((fail_if_success (with_reducible show Is _ _)); (first | ((with_reducible refine fun (hc : (_ : Bool) = _) => ?_); (try simp only [xA, xB, xC, xD, xE, xF, xG, xH, reduceCtorEq, xI, xJ, xK, xL, xM, xN, xO, xP, xQ, xR] at hc); (try (have hx : True := hc; clear hx hc)); (try (exfalso; omega)); (try (with_reducible (exact absurd hc (by assumption)))); (try (with_reducible (exact absurd (by assumption) hc)))) | ((with_reducible show ACall _ _ _ _ _); (first | ((with_reducible (first | apply h1)) <;> (first | omega | assumption | exact rfl | ((simp (disch := first | omega | (simp only [yA, yB, yC, yD, yE] <;> omega) | fail) [go_sem, yF, yG, yH, *, -List.map_take, -List.map_drop, -List.map_append, -List.map_reverse]) <;> (first | done | omega | exact rfl)))) | ((with_reducible (first | apply h2)) <;> (first | omega | assumption | exact rfl | ((simp (disch := first | omega | (simp only [yA, yB, yC, yD, yE] <;> omega) | fail) [go_sem, yF, yG, yH, *, -List.map_take, -List.map_drop, -List.map_append, -List.map_reverse]) <;> (first | done | omega | exact rfl)))) | ((with_reducible (first | apply h3)) <;> (first | omega | assumption | exact rfl | ((simp (disch := first | omega | (simp only [yA, yB, yC, yD, yE] <;> omega) | fail) [go_sem, yF, yG, yH, *, -List.map_take, -List.map_drop, -List.map_append, -List.map_reverse]) <;> (first | done | omega | exact rfl)))) | ((with_reducible (first | apply h4)) <;> (first | omega | assumption | exact rfl | ((simp (disch := first | omega | (simp only [yA, yB, yC, yD, yE] <;> omega) | fail) [go_sem, yF, yG, yH, *, -List.map_take, -List.map_drop, -List.map_append, -List.map_reverse]) <;> (first | done | omega | exact rfl)))) | ((with_reducible (first | apply m1)) <;> (first | omega | assumption | exact rfl | ((simp (disch := first | omega | (simp only [yA, yB, yC, yD, yE] <;> omega) | fail) [go_sem, yF, yG, yH, *, -List.map_take, -List.map_drop, -List.map_append, -List.map_reverse]) <;> (first | done | omega | exact rfl)))) | ((with_reducible (first | apply m2)) <;> (first | omega | assumption | exact rfl | ((simp (disch := first | omega | (simp only [yA, yB, yC, yD, yE] <;> omega) | fail) [go_sem, yF, yG, yH, *, -List.map_take, -List.map_drop, -List.map_append, -List.map_reverse]) <;> (first | done | omega | exact rfl)))) | ((with_reducible (first | apply i1)) <;> (first | omega | assumption | exact rfl | ((simp (disch := first | omega | (simp only [yA, yB, yC, yD, yE] <;> omega) | fail) [go_sem, yF, yG, yH, *, -List.map_take, -List.map_drop, -List.map_append, -List.map_reverse]) <;> (first | done | omega | exact rfl)))) | ((with_reducible (first | apply i2)) <;> (first | omega | assumption | exact rfl | ((simp (disch := first | omega | (simp only [yA, yB, yC, yD, yE] <;> omega) | fail) [go_sem, yF, yG, yH, *, -List.map_take, -List.map_drop, -List.map_append, -List.map_reverse]) <;> (first | done | omega | exact rfl)))) | ((with_reducible (first | apply q1)) <;> (first | omega | assumption | exact rfl | ((simp (disch := first | omega | (simp only [yA, yB, yC, yD, yE] <;> omega) | fail) [go_sem, yF, yG, yH, *, -List.map_take, -List.map_drop, -List.map_append, -List.map_reverse]) <;> (first | done | omega | exact rfl)))) | ((with_reducible (first | apply q2)) <;> (first | omega | assumption | exact rfl | ((simp (disch := first | omega | (simp only [yA, yB, yC, yD, yE] <;> omega) | fail) [go_sem, yF, yG, yH, *, -List.map_take, -List.map_drop, -List.map_append, -List.map_reverse]) <;> (first | done | omega | exact rfl)))) | ((with_reducible (first | apply q3)) <;> (first | omega | assumption | exact rfl | ((simp (disch := first | omega | (simp only [yA, yB, yC, yD, yE] <;> omega) | fail) [go_sem, yF, yG, yH, *, -List.map_take, -List.map_drop, -List.map_append, -List.map_reverse]) <;> (first | done | omega | exact rfl)))))) | ((fail_if_success (with_reducible show ACall _ _ _ _ _)); (try (first | exact .inl rfl | (refine .inr ⟨rfl, ?_, ?_⟩; (focus (repeat (first | exact trivial | refine ⟨.inl rfl, ?_⟩ | refine ⟨.inr rfl, ?_⟩))); (first | exact trivial | exact rfl))))))))))
  all_goals rfl
theorem begun14_at {B : List Box} {args : List CV} (hz : Is (omap (fz true false B 6) args) (some [])) : ACall Try.prog 14 args B fun c B' => c = .bool true ∧ B' = B := acall_fresh hz begun14_in
theorem made14_in (codes : List UInt8) (hl : codes.length < 9223372036854775808) : ACall Try.prog 9 [lb codes] [] fun c1 B1 => ∃ c, (∃ L, RG L ∧ L.length ≤ 10 ∧ c = rl rtC L) ∧ fz true false B1 6 c1 = some c := by
  have hnew : ∀ (B : List Box) (args : List CV), Is args [.lst codes.length (codes.map byteC) false, .int .i64 160] → ACall Try.prog 10 args B fun c B' => c = .ptr B.length 0 ∧ B' = B ++ [cb (codes.take 160) 0] := fun B args h => new_at (n := 160) h (by omega)
  have hl160 : (codes.take 160).length ≤ 160 := List.length_take_le _ _
  generalize codes.take 160 = l at *
  have hpr : ∀ (args : List CV), Is args [.ptr 0 0, .int .i64 10] → ACall Try.prog 19 args [cb l 0] fun c B' => ∃ (ps : List Pf) (a' : Nat), a' ≤ l.length ∧ PsG ps ∧ ps.length ≤ 10 ∧ GrowX 1 c B' ps ∧ B'[0]? = some (cb l a') ∧ (∀ k, k < 1 → k ≠ 0 → B'[k]? = [cb l 0][k]?) ∧ 1 ≤ B'.length := fun args h => prefixes_at (n := 10) h rfl rfl ⟨by omega, by omega⟩ (by omega)
  refine acall_intro mixed Try.func9 rfl ca9 (by kernel_rfl) (by rw [Try.ntmps9]; simp) ?_
  repeat' (first | (with_reducible (first | apply w_seq | apply w_region | apply w_block | apply w_skip | apply w_exit | apply w_ret | apply w_then | apply w_then_exit | apply w_then_ret | apply w_in | apply w_in_here | apply w_in_ret | apply w_round | apply o_nil | apply d_nil)) | ((with_reducible (first | apply w_in_exit)); rfl) | ((with_reducible (first | apply w_draw)); rfl) | ((first | ((with_reducible (first | apply o_op | apply d_op | apply q_op)); rfl; rfl) | ((with_reducible (first | apply w_cond | apply w_end | apply w_return))) | ((with_reducible (first | apply o_guard | apply d_guard | apply q_guard)); rfl) | ((with_reducible (first | apply o_call_eq | apply d_call | apply q_call)); rfl)); all_goals (first | ((with_reducible show Is _ _); ((try simp (disch := first | omega | (simp only [yA, yB, yC, yD, yE] <;> omega) | fail) [go_sem, yF, yG, yH, *, lb, if_pos, if_neg, -List.map_take, -List.map_drop, -List.map_append, -List.map_reverse]); exact rfl)) | ((fail_if_success (with_reducible show Is _ _)); (first | ((with_reducible refine fun (hc : (_ : Bool) = _) => ?_); (try simp only [xA, xB, xC, xD, xE, xF, xG, xH, reduceCtorEq, xI, xJ, xK, xL, xM, xN, xO, xP, xQ, xR] at hc); (try (have hx : True := hc; clear hx hc)); (try (exfalso; omega)); (try (with_reducible (exact absurd hc (by assumption)))); (try (with_reducible (exact absurd (by assumption) hc)))) | ((with_reducible show ACall _ _ _ _ _); (first | ((with_reducible (first | apply hnew)) <;> (first | omega | assumption | exact rfl | ((simp (disch := first | omega | (simp only [yA, yB, yC, yD, yE] <;> omega) | fail) [go_sem, yF, yG, yH, *, lb, -List.map_take, -List.map_drop, -List.map_append, -List.map_reverse]) <;> (first | done | omega | exact rfl)))))) | ((fail_if_success (with_reducible show ACall _ _ _ _ _)); (try (first | exact .inl rfl | (refine .inr ⟨rfl, ?_, ?_⟩; (focus (repeat (first | exact trivial | refine ⟨.inl rfl, ?_⟩ | refine ⟨.inr rfl, ?_⟩))); (first | exact trivial | exact rfl))))))))) | (((with_reducible (first | apply o_callQ | apply q_callQ)); rfl); (iterate 2 ((try simp (disch := first | omega | (simp only [yA, yB, yC, yD, yE] <;> omega) | fail) [go_sem, yF, yG, yH, *, lb, if_pos, if_neg, -List.map_take, -List.map_drop, -List.map_append, -List.map_reverse]); exact rfl)); (first | ((with_reducible (first | apply hpr)) <;> (first | omega | assumption | exact rfl | ((simp (disch := first | omega | (simp only [yA, yB, yC, yD, yE] <;> omega) | fail) [go_sem, yF, yG, yH, *, lb, -List.map_take, -List.map_drop, -List.map_append, -List.map_reverse]) <;> (first | done | omega | exact rfl)))))))
  rintro c1 B1 ⟨ps, a1, ha1, hps, hpl, hg, hb0, _, hlen⟩
  clear hpr hnew
  rcases hg with ⟨rfl, rfl⟩ | ⟨b, mu, hbl, hne, rfl, hbb⟩
  · repeat' (first | (with_reducible (first | apply w_seq | apply w_region | apply w_block | apply w_skip | apply w_exit | apply w_ret | apply w_then | apply w_then_exit | apply w_then_ret | apply w_in | apply w_in_here | apply w_in_ret | apply w_round | apply o_nil | apply d_nil)) | ((with_reducible (first | apply w_in_exit)); rfl) | ((with_reducible (first | apply w_draw)); rfl) | ((first | ((with_reducible (first | apply o_op | apply d_op | apply q_op)); rfl; rfl) | ((with_reducible (first | apply w_cond | apply w_end | apply w_return))) | ((with_reducible (first | apply o_guard | apply d_guard | apply q_guard)); rfl)); all_goals (first | ((with_reducible show Is _ _); ((try simp (disch := first | omega | (simp only [yA, yB, yC, yD, yE] <;> omega) | fail) [go_sem, yF, yG, yH, *, if_pos, if_neg, -List.map_take, -List.map_drop, -List.map_append, -List.map_reverse]); exact rfl)) | ((fail_if_success (with_reducible show Is _ _)); (first | ((with_reducible refine fun (hc : (_ : Bool) = _) => ?_); (try simp only [xA, xB, xC, xD, xE, xF, xG, xH, reduceCtorEq, xI, xJ, xK, xL, xM, xN, xO, xP, xQ, xR] at hc); (try (have hx : True := hc; clear hx hc)); (try (exfalso; omega)); (try (with_reducible (exact absurd hc (by assumption)))); (try (with_reducible (exact absurd (by assumption) hc)))) | ((fail_if_success (with_reducible show ACall _ _ _ _ _)); (try (first | exact .inl rfl | (refine .inr ⟨rfl, ?_, ?_⟩; (focus (repeat (first | exact trivial | refine ⟨.inl rfl, ?_⟩ | refine ⟨.inr rfl, ?_⟩))); (first | exact trivial | exact rfl))))))))))
    refine w_unroll 1 ?_
    repeat' (first | (with_reducible (first | apply w_seq | apply w_region | apply w_block | apply w_skip | apply w_exit | apply w_ret | apply w_then | apply w_then_exit | apply w_then_ret | apply w_in | apply w_in_here | apply w_in_ret | apply w_round | apply o_nil | apply d_nil)) | ((with_reducible (first | apply w_in_exit)); rfl) | ((with_reducible (first | apply w_draw)); rfl) | ((first | ((with_reducible (first | apply o_op | apply d_op | apply q_op)); rfl; rfl) | ((with_reducible (first | apply w_cond | apply w_end | apply w_return))) | ((with_reducible (first | apply o_guard | apply d_guard | apply q_guard)); rfl)); all_goals (first | ((with_reducible show Is _ _); ((try simp (disch := first | omega | (simp only [yA, yB, yC, yD, yE] <;> omega) | fail) [go_sem, yF, yG, yH, *, if_pos, if_neg, -List.map_take, -List.map_drop, -List.map_append, -List.map_reverse]); exact rfl)) | ((fail_if_success (with_reducible show Is _ _)); (first | ((with_reducible refine fun (hc : (_ : Bool) = _) => ?_); (try simp only [xA, xB, xC, xD, xE, xF, xG, xH, reduceCtorEq, xI, xJ, xK, xL, xM, xN, xO, xP, xQ, xR] at hc); (try (have hx : True := hc; clear hx hc)); (try (exfalso; omega)); (try (with_reducible (exact absurd hc (by assumption)))); (try (with_reducible (exact absurd (by assumption) hc)))) | ((fail_if_success (with_reducible show ACall _ _ _ _ _)); (try (first | exact .inl rfl | (refine .inr ⟨rfl, ?_, ?_⟩; (focus (repeat (first | exact trivial | refine ⟨.inl rfl, ?_⟩ | refine ⟨.inr rfl, ?_⟩))); (first | exact trivial | exact rfl))))))))))
    exact ⟨_, ⟨[], RG.nil, by simp, rfl⟩, rfl⟩
  · have kl := cells_all (f := pfC) (z := 18) (L := ps) fun p hp => pfC_len (hps.2 p hp).1
    obtain ⟨cs, hcs⟩ : ∃ cs, ps.flatMap pfC = cs := ⟨_, rfl⟩
    rw [hcs] at kl hbb
    clear hcs
    replace kl : Hid _ := kl
    replace hps : Hid _ := hps
    repeat' (first | (with_reducible (first | apply w_seq | apply w_region | apply w_block | apply w_skip | apply w_exit | apply w_ret | apply w_then | apply w_then_exit | apply w_then_ret | apply w_in | apply w_in_here | apply w_in_ret | apply w_round | apply o_nil | apply d_nil)) | ((with_reducible (first | apply w_in_exit)); rfl) | ((with_reducible (first | apply w_draw)); rfl) | ((first | ((with_reducible (first | apply o_op | apply d_op | apply q_op)); rfl; rfl) | ((with_reducible (first | apply w_cond | apply w_end | apply w_return))) | ((with_reducible (first | apply o_guard | apply d_guard | apply q_guard)); rfl)); all_goals (first | ((with_reducible show Is _ _); ((try simp (disch := first | omega | (simp only [yA, yB, yC, yD, yE] <;> omega) | fail) [go_sem, yF, yG, yH, *, if_pos, if_neg, -List.map_take, -List.map_drop, -List.map_append, -List.map_reverse]); exact rfl)) | ((fail_if_success (with_reducible show Is _ _)); (first | ((with_reducible refine fun (hc : (_ : Bool) = _) => ?_); (try simp only [xA, xB, xC, xD, xE, xF, xG, xH, reduceCtorEq, xI, xJ, xK, xL, xM, xN, xO, xP, xQ, xR] at hc); (try (have hx : True := hc; clear hx hc)); (try (exfalso; omega)); (try (with_reducible (exact absurd hc (by assumption)))); (try (with_reducible (exact absurd (by assumption) hc)))) | ((fail_if_success (with_reducible show ACall _ _ _ _ _)); (try (first | exact .inl rfl | (refine .inr ⟨rfl, ?_, ?_⟩; (focus (repeat (first | exact trivial | refine ⟨.inl rfl, ?_⟩ | refine ⟨.inr rfl, ?_⟩))); (first | exact trivial | exact rfl))))))))))
    refine w_loop (fun fr X => ∃ (j a : Nat) (L : List Rt), j ≤ ps.length ∧ a ≤ l.length ∧ RG L ∧ L.length ≤ j ∧ fr 12 = .int .i64 j ∧ fr 11 = .int .i64 ps.length ∧ fr 10 = .view b 0 ps.length 18 false ∧ fr 3 = .ptr 0 0 ∧ ((fr 4 = .nilS ∧ L = []) ∨ fr 4 = rl rtC L) ∧ X[b]? = some ⟨cs, mu⟩ ∧ X[0]? = some (cb l a)) (fun fr _ => ps.length - natOf (fr 12)) ?_ ?_
    · exact ⟨0, a1, [], by omega, ha1, RG.nil, by simp, by (simp (disch := omega) [go_sem, *]) <;> (try omega), by (simp (disch := omega) [go_sem, *]) <;> (try omega), by (simp (disch := omega) [go_sem, *]) <;> (try omega), by (simp (disch := omega) [go_sem, *]) <;> (try omega), .inl ⟨by (simp (disch := omega) [go_sem, *]) <;> (try omega), rfl⟩, hbb, hb0⟩
    · clear hbb hb0 hlen ha1
      rintro fr X ⟨j, a, L, hj, ha, hL, hLl, h12, h11, h10, h3, h4, hXb, hX0⟩
      by_cases hc : j < ps.length
      · obtain ⟨a2, a3⟩ := (show Cells pfC 18 cs ps from kl) j hc
        have hp := (show PsG ps from hps).2 _ (List.getElem_mem hc)
        generalize ps[j] = p at *
        obtain ⟨p1, p2, p3, p4, p5, p6⟩ := pf_parts hp.1
        have hx0 := bx_pack hX0
        have hxb := bx_pack hXb
        have hnx : ∀ (G : List Box) (args : List CV), Is args [.ptr 0 0, .int .i64 3] → ACall Try.prog 32 args (X ++ G) fun c B' => c = .int .i64 (nxV l a 3) ∧ B' = X.set 0 (cb l (nxA l a 3)) ++ G := fun G args h => by
          rw [← hx0.2.1]; exact next_at (n := 3) h rfl (hx0.1 _) ⟨by omega, by omega⟩
        have hv := nxV_lt (l := l) (a := a) (n := 3) (by omega)
        have hA := nxA_le (l := l) (a := a) (n := 3) ha
        generalize nxV l a 3 = x3 at *
        generalize nxA l a 3 = a4 at *
        obtain ⟨y, hy⟩ : ∃ y : UInt8, (y.toNat : Int) = 1 + (x3 : Int) := ⟨UInt8.ofNat (1 + x3), by rw [UInt8.toNat_ofNat', Nat.mod_eq_of_lt (by omega)]; omega⟩
        obtain ⟨M, hM, hMg, hMl⟩ := ins_any (k := keyF y) hL hp rfl (by omega)
        have hins : ∀ {B : List Box} {args : List CV}, Is (omap (fz true false B 6) args) (some [rl rtC L, .agg (pfC p), .agg (.int .u8 (1 + (x3 : Int)) :: (List.replicate 31 (0 : UInt8)).map byteC)]) → ACall Try.prog 23 args B fun c B' => c = .tup [rl rtC M, .int .i64 0] ∧ B' = B := fun h => by
          rw [← hy] at h
          have := rinsert_at (k := keyF y) h hL.len hp.1 rfl (by omega)
          rwa [hM] at this
        have hw1 : IntKind.i64.wrap (1 + (x3 : Int)) = 1 + (x3 : Int) := wi64 (by omega)
        have hw2 : IntKind.u8.wrap (1 + (x3 : Int)) = 1 + (x3 : Int) := wu8 (by omega)
        clear hy hM hp hps kl
        have om0 : ∀ (L : List Rt) (nz : Bool) (B : List Box) (k : Nat), fz nz false B (k + 2) (rl rtC L) = some (rl rtC L) := fun L nz B k => by simp [rl, go_sem]
        replace hMg : Hid _ := hMg
        replace hL : Hid _ := hL
        rcases h4 with ⟨h4, rfl⟩ | h4
        · cases mu
          all_goals
            repeat' (first | (with_reducible (first | apply w_seq | apply w_region | apply w_block | apply w_skip | apply w_exit | apply w_ret | apply w_then | apply w_then_exit | apply w_then_ret | apply w_in | apply w_in_here | apply w_in_ret | apply w_round | apply o_nil | apply d_nil)) | ((with_reducible (first | apply w_in_exit)); rfl) | ((first | ((with_reducible (first | apply o_op | apply d_op | apply q_op)); rfl; rfl) | ((with_reducible (first | apply w_cond | apply w_end | apply w_return))) | ((with_reducible (first | apply o_guard | apply d_guard | apply q_guard)); rfl)); all_goals (first | ((with_reducible show Is _ _); ((try simp (disch := first | omega | (simp only [yA, yB, yC, yD, yE] <;> omega) | fail) [go_sem, yF, yG, yH, *, if_pos, if_neg, -List.map_take, -List.map_drop, -List.map_append, -List.map_reverse]); exact rfl)) | ((fail_if_success (with_reducible show Is _ _)); (first | ((with_reducible refine fun (hc : (_ : Bool) = _) => ?_); (try simp only [xA, xB, xC, xD, xE, xF, xG, xH, reduceCtorEq, xI, xJ, xK, xL, xM, xN, xO, xP, xQ, xR] at hc); (try (have hx : True := hc; clear hx hc)); (try (exfalso; omega)); (try (with_reducible (exact absurd hc (by assumption)))); (try (with_reducible (exact absurd (by assumption) hc)))) | ((fail_if_success (with_reducible show ACall _ _ _ _ _)); (try (first | exact .inl rfl | (refine .inr ⟨rfl, ?_, ?_⟩; (focus (repeat (first | exact trivial | refine ⟨.inl rfl, ?_⟩ | refine ⟨.inr rfl, ?_⟩))); (first | exact trivial | exact rfl))))))))))
            refine w_drawJ [1] [⟨[], false⟩] (fun B' => B'[X.length]? = some ⟨pfC p, false⟩) rfl rfl (by simp) ?_
            repeat' (first | (with_reducible (first | apply w_seq | apply w_region | apply w_block | apply w_skip | apply w_exit | apply w_ret | apply w_then | apply w_then_exit | apply w_then_ret | apply w_in | apply w_in_here | apply w_in_ret | apply w_round | apply o_nil | apply d_nil)) | ((with_reducible (first | apply w_in_exit)); rfl) | ((first | ((with_reducible (first | apply d_made | apply q_made)); rfl; rfl)); (iterate 6 ((try simp (disch := first | omega | (simp only [yA, yB, yC, yD, yE] <;> omega) | fail) [go_sem, yF, yG, yH, *, if_pos, if_neg, -List.map_take, -List.map_drop, -List.map_append, -List.map_reverse]); exact rfl))) | ((first | ((with_reducible (first | apply d_fop | apply q_fop)); rfl; rfl)); (intro Bx hJ; (first | (obtain ⟨_, hJ1, hJ2⟩ := hJ) | (try simp only at hJ)); ((try simp (disch := first | omega | (simp only [yA, yB, yC, yD, yE] <;> omega) | fail) [go_sem, yF, yG, yH, *, if_pos, if_neg, -List.map_take, -List.map_drop, -List.map_append, -List.map_reverse]); exact rfl))) | ((with_reducible (first | apply d_free | apply q_free)); rfl; (iterate 2 ((try simp (disch := first | omega | (simp only [yA, yB, yC, yD, yE] <;> omega) | fail) [go_sem, yF, yG, yH, *, if_pos, if_neg, -List.map_take, -List.map_drop, -List.map_append, -List.map_reverse]); exact rfl)); (intro Bx hJ); (first | ((with_reducible (first | apply hnx)) <;> (first | omega | assumption | exact rfl | ((simp (disch := first | omega | (simp only [yA, yB, yC, yD, yE] <;> omega) | fail) [go_sem, yF, yG, yH, *, -List.map_take, -List.map_drop, -List.map_append, -List.map_reverse]) <;> (first | done | omega | exact rfl)))) | ((with_reducible (first | apply hins)) <;> (first | omega | assumption | exact rfl | ((simp (disch := first | omega | (simp only [yA, yB, yC, yD, yE] <;> omega) | fail) [go_sem, yF, yG, yH, *, -List.map_take, -List.map_drop, -List.map_append, -List.map_reverse]) <;> (first | done | omega | exact rfl)))))) | ((first | ((with_reducible (first | apply o_op | apply d_op | apply q_op)); rfl; rfl) | ((with_reducible (first | apply w_cond | apply w_end | apply w_return))) | ((with_reducible (first | apply o_guard | apply d_guard | apply q_guard)); rfl) | ((with_reducible (first | apply o_call_eq | apply d_call | apply q_call)); rfl)); all_goals (first | ((with_reducible show Is _ _); ((try simp (disch := first | omega | (simp only [yA, yB, yC, yD, yE] <;> omega) | fail) [go_sem, yF, yG, yH, *, if_pos, if_neg, -List.map_take, -List.map_drop, -List.map_append, -List.map_reverse]); exact rfl)) | ((fail_if_success (with_reducible show Is _ _)); (first | ((with_reducible refine fun (hc : (_ : Bool) = _) => ?_); (try simp only [xA, xB, xC, xD, xE, xF, xG, xH, reduceCtorEq, xI, xJ, xK, xL, xM, xN, xO, xP, xQ, xR] at hc); (try (have hx : True := hc; clear hx hc)); (try (exfalso; omega)); (try (with_reducible (exact absurd hc (by assumption)))); (try (with_reducible (exact absurd (by assumption) hc)))) | ((with_reducible show ACall _ _ _ _ _); (first | ((with_reducible (first | apply hnx)) <;> (first | omega | assumption | exact rfl | ((simp (disch := first | omega | (simp only [yA, yB, yC, yD, yE] <;> omega) | fail) [go_sem, yF, yG, yH, *, -List.map_take, -List.map_drop, -List.map_append, -List.map_reverse]) <;> (first | done | omega | exact rfl)))) | ((with_reducible (first | apply hins)) <;> (first | omega | assumption | exact rfl | ((simp (disch := first | omega | (simp only [yA, yB, yC, yD, yE] <;> omega) | fail) [go_sem, yF, yG, yH, *, -List.map_take, -List.map_drop, -List.map_append, -List.map_reverse]) <;> (first | done | omega | exact rfl)))))) | ((fail_if_success (with_reducible show ACall _ _ _ _ _)); (try (first | exact .inl rfl | (refine .inr ⟨rfl, ?_, ?_⟩; (focus (repeat (first | exact trivial | refine ⟨.inl rfl, ?_⟩ | refine ⟨.inr rfl, ?_⟩ | refine ⟨.inr (by (simp (disch := first | omega | (simp only [yA, yB, yC, yD, yE] <;> omega) | fail) [go_sem, yF, yG, yH, *, -List.map_take, -List.map_drop, -List.map_append, -List.map_reverse])), ?_⟩))); (first | exact trivial | exact rfl | (refine ⟨_, ?_, ?_⟩; (focus (simp (disch := first | omega | (simp only [yA, yB, yC, yD, yE] <;> omega) | fail) [go_sem, yF, yG, yH, *, -List.map_take, -List.map_drop, -List.map_append, -List.map_reverse]; (try exact rfl))); (simp (disch := first | omega | (simp only [yA, yB, yC, yD, yE] <;> omega) | fail) [go_sem, yF, yG, yH, *, -List.map_take, -List.map_drop, -List.map_append, -List.map_reverse])) | (simp (disch := first | omega | (simp only [yA, yB, yC, yD, yE] <;> omega) | fail) [go_sem, yF, yG, yH, *, -List.map_take, -List.map_drop, -List.map_append, -List.map_reverse]))) | exact .inl (by (simp (disch := first | omega | (simp only [yA, yB, yC, yD, yE] <;> omega) | fail) [go_sem, yF, yG, yH, *, -List.map_take, -List.map_drop, -List.map_append, -List.map_reverse]))))))))))
            refine ⟨⟨j + 1, a4, M, by omega, hA, hMg, by first | omega | (simp at hMl; omega), by (simp (disch := omega) [go_sem, *]) <;> (try omega), by (simp (disch := omega) [go_sem, *]) <;> (try omega), by (simp (disch := omega) [go_sem, *]) <;> (try omega), by (simp (disch := omega) [go_sem, *]) <;> (try omega), .inr (by (simp (disch := omega) [go_sem, *]) <;> (try omega)), ?_, hx0.2.2.2.1 _ _⟩, by (simp (disch := omega) [go_sem, *]) <;> (try omega)⟩
            rw [List.getElem?_append_left (by rw [List.length_set]; exact (List.getElem?_eq_some_iff.1 hXb).1), List.getElem?_set_ne (by omega)]
            exact hXb
        · cases mu
          all_goals
            repeat' (first | (with_reducible (first | apply w_seq | apply w_region | apply w_block | apply w_skip | apply w_exit | apply w_ret | apply w_then | apply w_then_exit | apply w_then_ret | apply w_in | apply w_in_here | apply w_in_ret | apply w_round | apply o_nil | apply d_nil)) | ((with_reducible (first | apply w_in_exit)); rfl) | ((first | ((with_reducible (first | apply o_op | apply d_op | apply q_op)); rfl; rfl) | ((with_reducible (first | apply w_cond | apply w_end | apply w_return))) | ((with_reducible (first | apply o_guard | apply d_guard | apply q_guard)); rfl)); all_goals (first | ((with_reducible show Is _ _); ((try simp (disch := first | omega | (simp only [yA, yB, yC, yD, yE] <;> omega) | fail) [go_sem, yF, yG, yH, *, if_pos, if_neg, -List.map_take, -List.map_drop, -List.map_append, -List.map_reverse]); exact rfl)) | ((fail_if_success (with_reducible show Is _ _)); (first | ((with_reducible refine fun (hc : (_ : Bool) = _) => ?_); (try simp only [xA, xB, xC, xD, xE, xF, xG, xH, reduceCtorEq, xI, xJ, xK, xL, xM, xN, xO, xP, xQ, xR] at hc); (try (have hx : True := hc; clear hx hc)); (try (exfalso; omega)); (try (with_reducible (exact absurd hc (by assumption)))); (try (with_reducible (exact absurd (by assumption) hc)))) | ((fail_if_success (with_reducible show ACall _ _ _ _ _)); (try (first | exact .inl rfl | (refine .inr ⟨rfl, ?_, ?_⟩; (focus (repeat (first | exact trivial | refine ⟨.inl rfl, ?_⟩ | refine ⟨.inr rfl, ?_⟩))); (first | exact trivial | exact rfl))))))))))
            refine w_drawJ [1] [⟨[], false⟩] (fun B' => B'[X.length]? = some ⟨pfC p, false⟩) rfl rfl (by simp) ?_
            repeat' (first | (with_reducible (first | apply w_seq | apply w_region | apply w_block | apply w_skip | apply w_exit | apply w_ret | apply w_then | apply w_then_exit | apply w_then_ret | apply w_in | apply w_in_here | apply w_in_ret | apply w_round | apply o_nil | apply d_nil)) | ((with_reducible (first | apply w_in_exit)); rfl) | ((first | ((with_reducible (first | apply d_made | apply q_made)); rfl; rfl)); (iterate 6 ((try simp (disch := first | omega | (simp only [yA, yB, yC, yD, yE] <;> omega) | fail) [go_sem, yF, yG, yH, *, if_pos, if_neg, -List.map_take, -List.map_drop, -List.map_append, -List.map_reverse]); exact rfl))) | ((first | ((with_reducible (first | apply d_fop | apply q_fop)); rfl; rfl)); (intro Bx hJ; (first | (obtain ⟨_, hJ1, hJ2⟩ := hJ) | (try simp only at hJ)); ((try simp (disch := first | omega | (simp only [yA, yB, yC, yD, yE] <;> omega) | fail) [go_sem, yF, yG, yH, *, if_pos, if_neg, -List.map_take, -List.map_drop, -List.map_append, -List.map_reverse]); exact rfl))) | ((with_reducible (first | apply d_free | apply q_free)); rfl; (iterate 2 ((try simp (disch := first | omega | (simp only [yA, yB, yC, yD, yE] <;> omega) | fail) [go_sem, yF, yG, yH, *, if_pos, if_neg, -List.map_take, -List.map_drop, -List.map_append, -List.map_reverse]); exact rfl)); (intro Bx hJ); (first | ((with_reducible (first | apply hnx)) <;> (first | omega | assumption | exact rfl | ((simp (disch := first | omega | (simp only [yA, yB, yC, yD, yE] <;> omega) | fail) [go_sem, yF, yG, yH, *, -List.map_take, -List.map_drop, -List.map_append, -List.map_reverse]) <;> (first | done | omega | exact rfl)))) | ((with_reducible (first | apply hins)) <;> (first | omega | assumption | exact rfl | ((simp (disch := first | omega | (simp only [yA, yB, yC, yD, yE] <;> omega) | fail) [go_sem, yF, yG, yH, *, -List.map_take, -List.map_drop, -List.map_append, -List.map_reverse]) <;> (first | done | omega | exact rfl)))))) | ((first | ((with_reducible (first | apply o_op | apply d_op | apply q_op)); rfl; rfl) | ((with_reducible (first | apply w_cond | apply w_end | apply w_return))) | ((with_reducible (first | apply o_guard | apply d_guard | apply q_guard)); rfl) | ((with_reducible (first | apply o_call_eq | apply d_call | apply q_call)); rfl)); all_goals (first | ((with_reducible show Is _ _); ((try simp (disch := first | omega | (simp only [yA, yB, yC, yD, yE] <;> omega) | fail) [go_sem, yF, yG, yH, *, if_pos, if_neg, -List.map_take, -List.map_drop, -List.map_append, -List.map_reverse]); exact rfl)) | ((fail_if_success (with_reducible show Is _ _)); (first | ((with_reducible refine fun (hc : (_ : Bool) = _) => ?_); (try simp only [xA, xB, xC, xD, xE, xF, xG, xH, reduceCtorEq, xI, xJ, xK, xL, xM, xN, xO, xP, xQ, xR] at hc); (try (have hx : True := hc; clear hx hc)); (try (exfalso; omega)); (try (with_reducible (exact absurd hc (by assumption)))); (try (with_reducible (exact absurd (by assumption) hc)))) | ((with_reducible show ACall _ _ _ _ _); (first | ((with_reducible (first | apply hnx)) <;> (first | omega | assumption | exact rfl | ((simp (disch := first | omega | (simp only [yA, yB, yC, yD, yE] <;> omega) | fail) [go_sem, yF, yG, yH, *, -List.map_take, -List.map_drop, -List.map_append, -List.map_reverse]) <;> (first | done | omega | exact rfl)))) | ((with_reducible (first | apply hins)) <;> (first | omega | assumption | exact rfl | ((simp (disch := first | omega | (simp only [yA, yB, yC, yD, yE] <;> omega) | fail) [go_sem, yF, yG, yH, *, -List.map_take, -List.map_drop, -List.map_append, -List.map_reverse]) <;> (first | done | omega | exact rfl)))))) | ((fail_if_success (with_reducible show ACall _ _ _ _ _)); (try (first | exact .inl rfl | (refine .inr ⟨rfl, ?_, ?_⟩; (focus (repeat (first | exact trivial | refine ⟨.inl rfl, ?_⟩ | refine ⟨.inr rfl, ?_⟩ | refine ⟨.inr (by (simp (disch := first | omega | (simp only [yA, yB, yC, yD, yE] <;> omega) | fail) [go_sem, yF, yG, yH, *, -List.map_take, -List.map_drop, -List.map_append, -List.map_reverse])), ?_⟩))); (first | exact trivial | exact rfl | (refine ⟨_, ?_, ?_⟩; (focus (simp (disch := first | omega | (simp only [yA, yB, yC, yD, yE] <;> omega) | fail) [go_sem, yF, yG, yH, *, -List.map_take, -List.map_drop, -List.map_append, -List.map_reverse]; (try exact rfl))); (simp (disch := first | omega | (simp only [yA, yB, yC, yD, yE] <;> omega) | fail) [go_sem, yF, yG, yH, *, -List.map_take, -List.map_drop, -List.map_append, -List.map_reverse])) | (simp (disch := first | omega | (simp only [yA, yB, yC, yD, yE] <;> omega) | fail) [go_sem, yF, yG, yH, *, -List.map_take, -List.map_drop, -List.map_append, -List.map_reverse]))) | exact .inl (by (simp (disch := first | omega | (simp only [yA, yB, yC, yD, yE] <;> omega) | fail) [go_sem, yF, yG, yH, *, -List.map_take, -List.map_drop, -List.map_append, -List.map_reverse]))))))))))
            refine ⟨⟨j + 1, a4, M, by omega, hA, hMg, by first | omega | (simp at hMl; omega), by (simp (disch := omega) [go_sem, *]) <;> (try omega), by (simp (disch := omega) [go_sem, *]) <;> (try omega), by (simp (disch := omega) [go_sem, *]) <;> (try omega), by (simp (disch := omega) [go_sem, *]) <;> (try omega), .inr (by (simp (disch := omega) [go_sem, *]) <;> (try omega)), ?_, hx0.2.2.2.1 _ _⟩, by (simp (disch := omega) [go_sem, *]) <;> (try omega)⟩
            rw [List.getElem?_append_left (by rw [List.length_set]; exact (List.getElem?_eq_some_iff.1 hXb).1), List.getElem?_set_ne (by omega)]
            exact hXb
      · obtain rfl : j = ps.length := by omega
        rcases h4 with ⟨h4, rfl⟩ | h4
        · repeat' (first | (with_reducible (first | apply w_seq | apply w_region | apply w_block | apply w_skip | apply w_exit | apply w_ret | apply w_then | apply w_then_exit | apply w_then_ret | apply w_in | apply w_in_here | apply w_in_ret | apply w_round | apply o_nil | apply d_nil)) | ((with_reducible (first | apply w_in_exit)); rfl) | ((with_reducible (first | apply w_draw)); rfl) | ((first | ((with_reducible (first | apply o_op | apply d_op | apply q_op)); rfl; rfl) | ((with_reducible (first | apply w_cond | apply w_end | apply w_return))) | ((with_reducible (first | apply o_guard | apply d_guard | apply q_guard)); rfl)); all_goals (first | ((with_reducible show Is _ _); ((try simp (disch := first | omega | (simp only [yA, yB, yC, yD, yE] <;> omega) | fail) [go_sem, yF, yG, yH, *, if_pos, if_neg, -List.map_take, -List.map_drop, -List.map_append, -List.map_reverse]); exact rfl)) | ((fail_if_success (with_reducible show Is _ _)); (first | ((with_reducible refine fun (hc : (_ : Bool) = _) => ?_); (try simp only [xA, xB, xC, xD, xE, xF, xG, xH, reduceCtorEq, xI, xJ, xK, xL, xM, xN, xO, xP, xQ, xR] at hc); (try (have hx : True := hc; clear hx hc)); (try (exfalso; omega)); (try (with_reducible (exact absurd hc (by assumption)))); (try (with_reducible (exact absurd (by assumption) hc)))) | ((fail_if_success (with_reducible show ACall _ _ _ _ _)); (try (first | exact .inl rfl | (refine .inr ⟨rfl, ?_, ?_⟩; (focus (repeat (first | exact trivial | refine ⟨.inl rfl, ?_⟩ | refine ⟨.inr rfl, ?_⟩))); (first | exact trivial | exact rfl))))))))))
          exact ⟨_, ⟨[], RG.nil, by simp, rfl⟩, rfl⟩
        · replace hL : Hid _ := hL
          repeat' (first | (with_reducible (first | apply w_seq | apply w_region | apply w_block | apply w_skip | apply w_exit | apply w_ret | apply w_then | apply w_then_exit | apply w_then_ret | apply w_in | apply w_in_here | apply w_in_ret | apply w_round | apply o_nil | apply d_nil)) | ((with_reducible (first | apply w_in_exit)); rfl) | ((with_reducible (first | apply w_draw)); rfl) | ((first | ((with_reducible (first | apply o_op | apply d_op | apply q_op)); rfl; rfl) | ((with_reducible (first | apply w_cond | apply w_end | apply w_return))) | ((with_reducible (first | apply o_guard | apply d_guard | apply q_guard)); rfl)); all_goals (first | ((with_reducible show Is _ _); ((try simp (disch := first | omega | (simp only [yA, yB, yC, yD, yE] <;> omega) | fail) [go_sem, yF, yG, yH, *, if_pos, if_neg, -List.map_take, -List.map_drop, -List.map_append, -List.map_reverse]); exact rfl)) | ((fail_if_success (with_reducible show Is _ _)); (first | ((with_reducible refine fun (hc : (_ : Bool) = _) => ?_); (try simp only [xA, xB, xC, xD, xE, xF, xG, xH, reduceCtorEq, xI, xJ, xK, xL, xM, xN, xO, xP, xQ, xR] at hc); (try (have hx : True := hc; clear hx hc)); (try (exfalso; omega)); (try (with_reducible (exact absurd hc (by assumption)))); (try (with_reducible (exact absurd (by assumption) hc)))) | ((fail_if_success (with_reducible show ACall _ _ _ _ _)); (try (first | exact .inl rfl | (refine .inr ⟨rfl, ?_, ?_⟩; (focus (repeat (first | exact trivial | refine ⟨.inl rfl, ?_⟩ | refine ⟨.inr rfl, ?_⟩))); (first | exact trivial | exact rfl))))))))))
          exact ⟨_, ⟨L, hL, by omega, rfl⟩, by simp [rl, go_sem]⟩
theorem made14_at {B : List Box} {args : List CV} {codes : List UInt8} (hz : Is (omap (fz true false [] 6) args) (some [lb codes])) (hl : codes.length < 9223372036854775808) : ACall Try.prog 9 args B fun c B' => (∃ L, RG L ∧ L.length ≤ 10 ∧ c = rl rtC L) ∧ B' = B := acall_immQ hz (made14_in codes hl)
end Go.Proofs.Ytmcnajknmoldpaa
