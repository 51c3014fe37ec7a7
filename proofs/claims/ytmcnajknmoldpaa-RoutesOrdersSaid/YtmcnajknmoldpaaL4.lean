import Derived.Test.YtmcnajknmoldpaaL2
import Derived.Test.YtmcnajknmoldpaaEB
namespace Go.Proofs.Ytmcnajknmoldpaa
open Go Go.Sy
set_option linter.all false
set_option maxRecDepth 100000
set_option maxHeartbeats 4000000
/-! Orders of insertion. -/
theorem perm_ord : ∀ {A B : List Rt}, A.Perm B → Ord A → Ord B → A = B
  | [], B, h, _, _ => (List.nil_perm.1 h).symm
  | a :: A, [], h, _, _ => by have := h.length_eq; simp at this
  | a :: A, b :: B, h, hA, hB => by
    have hA := ord_cons.1 hA
    have hB := ord_cons.1 hB
    have hab : a = b := by
      have h1 : a ∈ b :: B := h.mem_iff.1 List.mem_cons_self
      have h2 : b ∈ a :: A := h.mem_iff.2 List.mem_cons_self
      rcases List.mem_cons.1 h1 with h1 | h1
      · exact h1
      · rcases List.mem_cons.1 h2 with h2 | h2
        · exact h2.symm
        · have e1 := hB.1 a h1
          have e2 := hA.1 b h2
          rw [lessP_asymm e1] at e2; cases e2
    subst hab
    rw [perm_ord ((List.perm_cons _).1 h) hA.2 hB.2]
def kb (p : Pf) : List UInt8 := keyF (UInt8.ofNat p.2.toNat)
def entR (p : Pf) : Rt := (p, kb p)
def rotF (ps : List Pf) (t : Nat) : List Pf := (List.range ps.length).map fun i => ps.getD ((i + t) % ps.length) pfO
theorem rot_len (ps : List Pf) (t : Nat) : (rotF ps t).length = ps.length := by simp [rotF]
theorem rot_get {ps : List Pf} {t i : Nat} (h : i < ps.length) : (rotF ps t)[i]'(by rw [rot_len]; exact h) = ps[(i + t) % ps.length]'(Nat.mod_lt _ (by omega)) := by
  have : (i + t) % ps.length < ps.length := Nat.mod_lt _ (by omega)
  simp [rotF, List.getD_eq_getElem?_getD, List.getElem?_eq_getElem this]
theorem rot_perm (ps : List Pf) (t : Nat) : (rotF ps t).Perm ps := by
  by_cases h0 : ps.length = 0
  · have : ps = [] := by simpa using h0
    subst this; simp [rotF]
  · have hm : t % ps.length < ps.length := Nat.mod_lt _ (by omega)
    have e : rotF ps t = ps.drop (t % ps.length) ++ ps.take (t % ps.length) := by
      apply List.ext_getElem
      · rw [rot_len, List.length_append, List.length_drop, List.length_take]; omega
      · intro i h1 h2
        rw [rot_len] at h1
        rw [rot_get h1]
        have hmod : (i + t) % ps.length = if i < ps.length - t % ps.length then i + t % ps.length else i - (ps.length - t % ps.length) := by
          rw [Nat.add_mod, Nat.mod_eq_of_lt h1]
          split
          · rw [Nat.mod_eq_of_lt (by omega)]
          · rw [Nat.mod_eq_sub_mod (by omega), Nat.mod_eq_of_lt (by omega)]; omega
        by_cases hc : i < ps.length - t % ps.length
        · rw [List.getElem_append_left (by rw [List.length_drop]; exact hc), List.getElem_drop]
          congr 1
          rw [hmod, if_pos hc]; omega
        · rw [List.getElem_append_right (by rw [List.length_drop]; omega), List.getElem_take]
          congr 1
          rw [hmod, if_neg hc, List.length_drop]
    rw [e]
    refine List.perm_append_comm.trans ?_
    rw [List.take_append_drop]
/-- The list behind i insertions. -/
structure Made (qs : List Pf) (i : Nat) (A : List Rt) : Prop where
  rg : RG A
  len : A.length = i
  perm : A.Perm ((qs.take i).map entR)
theorem Made.nil (qs : List Pf) : Made qs 0 [] := ⟨RG.nil, rfl, by simp⟩
theorem kb_len (p : Pf) : (kb p).length = 32 := rfl
theorem Made.next {qs : List Pf} {i : Nat} {A : List Rt} (h : Made qs i A) (hq : PsG qs) (hi : i < qs.length) (hl : qs.length ≤ 10) : ∃ M, insF A qs[i] (kb qs[i]) = (M, 0) ∧ Made qs (i + 1) M := by
  have hn : ∀ r ∈ A, r.1 ≠ qs[i] := fun r hr e => by
    obtain ⟨p, hp, rfl⟩ := List.mem_map.1 (h.perm.mem_iff.1 hr)
    obtain ⟨j, hj, rfl⟩ := List.getElem_of_mem hp
    rw [List.length_take] at hj
    have e : (qs.take i)[j]'(by rw [List.length_take]; exact hj) = qs[i] := e
    rw [List.getElem_take] at e
    have := (List.getElem_inj hq.1).1 e
    omega
  obtain ⟨M, h1, h2, h3, h4⟩ := ins_new h.rg (hq.2 _ (List.getElem_mem hi)) (kb_len _) hn (by rw [h.len]; omega)
  refine ⟨M, h1, h2, by rw [h4, h.len], ?_⟩
  rw [List.take_succ_eq_append_getElem hi, List.map_append]
  refine h3.trans ((List.Perm.cons _ h.perm).trans ?_)
  exact (List.perm_append_comm (l₁ := [entR qs[i]]))
theorem best_ge {L : List Rt} {a : Ad} {r : Rt} (hr : r ∈ L) (hc : contP r a = true) : ∃ d x, bestF L a = some (d, x) ∧ r.1.2.toNat ≤ d := by
  have keep : ∀ (L : List Rt) (n : Nat) (o : Option (Nat × List UInt8)), (∃ d x, o = some (d, x) ∧ n ≤ d) → ∃ d x, L.foldl (bstep a) o = some (d, x) ∧ n ≤ d := by
    intro L
    induction L with
    | nil => intro n o h; exact h
    | cons r L ih =>
      rintro n o ⟨d, x, rfl, hd⟩
      refine ih n _ ?_
      unfold bstep
      by_cases hcc : (contP r a && !deeper (some (d, x)) r.1.2.toNat) = true
      · rw [if_pos hcc]
        rw [Bool.and_eq_true] at hcc
        have : ¬ r.1.2.toNat ≤ d := by simpa [deeper] using hcc.2
        exact ⟨_, _, rfl, by omega⟩
      · rw [if_neg hcc]; exact ⟨d, x, rfl, hd⟩
  have key : ∀ (L : List Rt) (o : Option (Nat × List UInt8)), r ∈ L → ∃ d x, L.foldl (bstep a) o = some (d, x) ∧ r.1.2.toNat ≤ d := by
    intro L
    induction L with
    | nil => intro o h; cases h
    | cons s L ih =>
      intro o h
      rcases List.mem_cons.1 h with rfl | h
      · rw [List.foldl_cons]
        refine keep L _ _ ?_
        unfold bstep
        rw [hc, Bool.true_and]
        cases hd : deeper o r.1.2.toNat with
        | false => exact ⟨_, _, rfl, Nat.le_refl _⟩
        | true =>
          cases o with
          | none => cases hd
          | some dx =>
            obtain ⟨d, x⟩ := dx
            exact ⟨d, x, rfl, by simpa [deeper] using hd⟩
      · exact ih _ h
  exact key L none hr
theorem cont_self {p : Pf} {k : List UInt8} (hp : PfG p) : contP (p, k) p.1 = true := by
  have h := hp.2
  have h2 := h
  simp only [vld, Bool.and_eq_true, beq_iff_eq] at h2
  simp only [contP, cont, h, h2.1, h2.2.2.2, beq_self_eq_true, Bool.and_self]
theorem Made.look {qs : List Pf} {A : List Rt} (h : Made qs qs.length A) (hq : PsG qs) {p : Pf} (hp : p ∈ qs) : ∃ (b : UInt8) (X : List UInt8), X.length = 31 ∧ fndF (bestF A p.1) = (b :: X, true) ∧ p.2 ≤ (b.toNat : Int) := by
  have hpA : entR p ∈ A := h.perm.mem_iff.2 (by rw [List.take_length]; exact List.mem_map_of_mem hp)
  obtain ⟨d, x, hb, hd⟩ := best_ge hpA (cont_self (k := kb p) (hq.2 p hp))
  obtain ⟨r, hr, _, hdr, hxr⟩ := best_pos hb
  have hrm := h.perm.mem_iff.1 hr
  rw [List.take_length] at hrm
  obtain ⟨s, hs, rfl⟩ := List.mem_map.1 hrm
  have hsr := vld_range (hq.2 s hs).2
  have hpr := vld_range (hq.2 p hp).2
  refine ⟨UInt8.ofNat s.2.toNat, List.replicate 31 0, rfl, ?_, ?_⟩
  · rw [hb, fndF, hxr]; rfl
  · rw [UInt8.toNat_ofNat', Nat.mod_eq_of_lt (by omega)]
    have : d = s.2.toNat := hdr
    have : (entR p).1.2.toNat = p.2.toNat := rfl
    omega
theorem Made.rotps {ps : List Pf} {t : Nat} (h : PsG ps) : PsG (rotF ps t) := ⟨(rot_perm ps t).nodup_iff.2 h.1, fun p hp => h.2 p ((rot_perm ps t).mem_iff.1 hp)⟩
theorem RoutesOrders_in (codes : List UInt8) (turn : UInt8) (hcl : codes.length ≤ maxLen) :
    PC Try.prog true 6 [lb codes, byteC turn] (.bool true) := by
  have hm' : (maxLen : Nat) = 9223372036854775807 := by rfl
  have hnew : ∀ (args : List CV), Is args [.lst codes.length (codes.map byteC) false, .int .i64 160] → ACall Try.prog 10 args [] fun c B' => c = .ptr 0 0 ∧ B' = [cb (codes.take 160) 0] := fun args h => new_at (n := 160) h (by omega)
  have hl160 : (codes.take 160).length ≤ 160 := List.length_take_le _ _
  have htn : (turn.toNat : Int) = (turn.toNat : Nat) ∧ turn.toNat < 256 := ⟨rfl, turn.toNat_lt⟩
  obtain ⟨_, htn⟩ := htn
  clear hm'
  rw [byteC]
  generalize turn.toNat = t at *
  generalize codes.take 160 = l at *
  have hpr : ∀ (args : List CV), Is args [.ptr 0 0, .int .i64 10] → ACall Try.prog 19 args [cb l 0] fun c B' => ∃ (ps : List Pf) (a' : Nat), a' ≤ l.length ∧ PsG ps ∧ ps.length ≤ 10 ∧ GrowX 1 c B' ps ∧ B'[0]? = some (cb l a') ∧ (∀ k, k < 1 → k ≠ 0 → B'[k]? = [cb l 0][k]?) ∧ 1 ≤ B'.length := fun args h => prefixes_at (n := 10) h rfl rfl ⟨by omega, by omega⟩ (by omega)
  refine acall_intro mixed Try.func6 rfl ca6 (by kernel_rfl) (by rw [Try.ntmps6]; simp) ?_
  repeat' (first | (with_reducible (first | apply w_seq | apply w_region | apply w_block | apply w_skip | apply w_exit | apply w_ret | apply w_then | apply w_then_exit | apply w_then_ret | apply w_in | apply w_in_here | apply w_in_ret | apply w_round | apply o_nil | apply d_nil)) | ((with_reducible (first | apply w_in_exit)); rfl) | ((with_reducible (first | apply w_draw)); rfl) | ((first | ((with_reducible (first | apply o_op | apply d_op | apply q_op)); rfl; rfl) | ((with_reducible (first | apply w_cond | apply w_end | apply w_return))) | ((with_reducible (first | apply o_guard | apply d_guard | apply q_guard)); rfl) | ((with_reducible (first | apply o_call_eq | apply d_call | apply q_call)); rfl)); all_goals (first | ((with_reducible show Is _ _); ((try simp (disch := first | omega | (simp only [yA, yB, yC, yD, yE] <;> omega) | fail) [go_sem, yF, yG, yH, *, lb, if_pos, if_neg, -List.map_take, -List.map_drop, -List.map_append, -List.map_reverse]); exact rfl)) | ((fail_if_success (with_reducible show Is _ _)); (first | ((with_reducible refine fun (hc : (_ : Bool) = _) => ?_); (try simp only [xA, xB, xC, xD, xE, xF, xG, xH, reduceCtorEq, xI, xJ, xK, xL, xM, xN, xO, xP, xQ, xR] at hc); (try (have hx : True := hc; clear hx hc)); (try (exfalso; omega)); (try (with_reducible (exact absurd hc (by assumption)))); (try (with_reducible (exact absurd (by assumption) hc)))) | ((with_reducible show ACall _ _ _ _ _); (first | ((with_reducible (first | apply hnew)) <;> (first | omega | assumption | exact rfl | ((simp (disch := first | omega | (simp only [yA, yB, yC, yD, yE] <;> omega) | fail) [go_sem, yF, yG, yH, *, lb, -List.map_take, -List.map_drop, -List.map_append, -List.map_reverse]) <;> (first | done | omega | exact rfl)))))) | ((fail_if_success (with_reducible show ACall _ _ _ _ _)); (try (first | exact .inl rfl | (refine .inr ⟨rfl, ?_, ?_⟩; (focus (repeat (first | exact trivial | refine ⟨.inl rfl, ?_⟩ | refine ⟨.inr rfl, ?_⟩))); (first | exact trivial | exact rfl))))))))) | (((with_reducible (first | apply o_callQ | apply q_callQ)); rfl); (iterate 2 ((try simp (disch := first | omega | (simp only [yA, yB, yC, yD, yE] <;> omega) | fail) [go_sem, yF, yG, yH, *, lb, if_pos, if_neg, -List.map_take, -List.map_drop, -List.map_append, -List.map_reverse]); exact rfl)); (first | ((with_reducible (first | apply hpr)) <;> (first | omega | assumption | exact rfl | ((simp (disch := first | omega | (simp only [yA, yB, yC, yD, yE] <;> omega) | fail) [go_sem, yF, yG, yH, *, lb, -List.map_take, -List.map_drop, -List.map_append, -List.map_reverse]) <;> (first | done | omega | exact rfl)))))))
  rintro c1 B1 ⟨ps, a1, ha1, hps, hpl, hg, hb0, _, hlen⟩
  clear hpr hnew
  have om0 : ∀ (L : List Rt) (nz : Bool) (B : List Box) (k : Nat), fz nz false B (k + 2) (rl rtC L) = some (rl rtC L) := fun L nz B k => by simp [rl, go_sem]
  rcases hg with ⟨rfl, rfl⟩ | ⟨bp, mu, hbl, hne, rfl, hbb⟩
  · have hsame : ∀ (B : List Box) (args : List CV), Is (omap (fz true false B 6) args) (some [.lst 0 [] false, .lst 0 [] false]) → ACall Try.prog 21 args B fun c B' => c = .bool true ∧ B' = B := fun B args h => by
      have := rtsame_at (L := []) (M := []) h (by simp) (by simp) (by simp) (by simp)
      rwa [beq_self_eq_true] at this
    repeat' (first | (with_reducible (first | apply w_seq | apply w_region | apply w_block | apply w_skip | apply w_exit | apply w_ret | apply w_then | apply w_then_exit | apply w_then_ret | apply w_in | apply w_in_here | apply w_in_ret | apply w_round | apply o_nil | apply d_nil)) | ((with_reducible (first | apply w_in_exit)); rfl) | ((with_reducible (first | apply w_draw)); rfl) | ((first | ((with_reducible (first | apply o_op | apply d_op | apply q_op)); rfl; rfl) | ((with_reducible (first | apply w_cond | apply w_end | apply w_return))) | ((with_reducible (first | apply o_guard | apply d_guard | apply q_guard)); rfl)); all_goals (first | ((with_reducible show Is _ _); ((try simp (disch := first | omega | (simp only [yA, yB, yC, yD, yE] <;> omega) | fail) [go_sem, yF, yG, yH, *, if_pos, if_neg, -List.map_take, -List.map_drop, -List.map_append, -List.map_reverse]); exact rfl)) | ((fail_if_success (with_reducible show Is _ _)); (first | ((with_reducible refine fun (hc : (_ : Bool) = _) => ?_); (try simp only [xA, xB, xC, xD, xE, xF, xG, xH, reduceCtorEq, xI, xJ, xK, xL, xM, xN, xO, xP, xQ, xR] at hc); (try (have hx : True := hc; clear hx hc)); (try (exfalso; omega)); (try (with_reducible (exact absurd hc (by assumption)))); (try (with_reducible (exact absurd (by assumption) hc)))) | ((fail_if_success (with_reducible show ACall _ _ _ _ _)); (try (first | exact .inl rfl | (refine .inr ⟨rfl, ?_, ?_⟩; (focus (repeat (first | exact trivial | refine ⟨.inl rfl, ?_⟩ | refine ⟨.inr rfl, ?_⟩))); (first | exact trivial | exact rfl))))))))))
    refine w_unroll 1 ?_
    repeat' (first | (with_reducible (first | apply w_seq | apply w_region | apply w_block | apply w_skip | apply w_exit | apply w_ret | apply w_then | apply w_then_exit | apply w_then_ret | apply w_in | apply w_in_here | apply w_in_ret | apply w_round | apply o_nil | apply d_nil)) | ((with_reducible (first | apply w_in_exit)); rfl) | ((with_reducible (first | apply w_draw)); rfl) | ((first | ((with_reducible (first | apply o_op | apply d_op | apply q_op)); rfl; rfl) | ((with_reducible (first | apply w_cond | apply w_end | apply w_return))) | ((with_reducible (first | apply o_guard | apply d_guard | apply q_guard)); rfl)); all_goals (first | ((with_reducible show Is _ _); ((try simp (disch := first | omega | (simp only [yA, yB, yC, yD, yE] <;> omega) | fail) [go_sem, yF, yG, yH, *, if_pos, if_neg, -List.map_take, -List.map_drop, -List.map_append, -List.map_reverse]); exact rfl)) | ((fail_if_success (with_reducible show Is _ _)); (first | ((with_reducible refine fun (hc : (_ : Bool) = _) => ?_); (try simp only [xA, xB, xC, xD, xE, xF, xG, xH, reduceCtorEq, xI, xJ, xK, xL, xM, xN, xO, xP, xQ, xR] at hc); (try (have hx : True := hc; clear hx hc)); (try (exfalso; omega)); (try (with_reducible (exact absurd hc (by assumption)))); (try (with_reducible (exact absurd (by assumption) hc)))) | ((fail_if_success (with_reducible show ACall _ _ _ _ _)); (try (first | exact .inl rfl | (refine .inr ⟨rfl, ?_, ?_⟩; (focus (repeat (first | exact trivial | refine ⟨.inl rfl, ?_⟩ | refine ⟨.inr rfl, ?_⟩))); (first | exact trivial | exact rfl))))))))))
    refine w_unroll 1 ?_
    repeat' (first | (with_reducible (first | apply w_seq | apply w_region | apply w_block | apply w_skip | apply w_exit | apply w_ret | apply w_then | apply w_then_exit | apply w_then_ret | apply w_in | apply w_in_here | apply w_in_ret | apply w_round | apply o_nil | apply d_nil)) | ((with_reducible (first | apply w_in_exit)); rfl) | ((with_reducible (first | apply w_draw)); rfl) | ((first | ((with_reducible (first | apply o_op | apply d_op | apply q_op)); rfl; rfl) | ((with_reducible (first | apply w_cond | apply w_end | apply w_return))) | ((with_reducible (first | apply o_guard | apply d_guard | apply q_guard)); rfl) | ((with_reducible (first | apply o_call_eq | apply d_call | apply q_call)); rfl)); all_goals (first | ((with_reducible show Is _ _); ((try simp (disch := first | omega | (simp only [yA, yB, yC, yD, yE] <;> omega) | fail) [go_sem, yF, yG, yH, *, if_pos, if_neg, -List.map_take, -List.map_drop, -List.map_append, -List.map_reverse]); exact rfl)) | ((fail_if_success (with_reducible show Is _ _)); (first | ((with_reducible refine fun (hc : (_ : Bool) = _) => ?_); (try simp only [xA, xB, xC, xD, xE, xF, xG, xH, reduceCtorEq, xI, xJ, xK, xL, xM, xN, xO, xP, xQ, xR] at hc); (try (have hx : True := hc; clear hx hc)); (try (exfalso; omega)); (try (with_reducible (exact absurd hc (by assumption)))); (try (with_reducible (exact absurd (by assumption) hc)))) | ((with_reducible show ACall _ _ _ _ _); (first | ((with_reducible (first | apply hsame)) <;> (first | omega | assumption | exact rfl | ((simp (disch := first | omega | (simp only [yA, yB, yC, yD, yE] <;> omega) | fail) [go_sem, yF, yG, yH, *, -List.map_take, -List.map_drop, -List.map_append, -List.map_reverse]) <;> (first | done | omega | exact rfl)))) | ((with_reducible (first | apply begun14_at)) <;> (first | omega | assumption | exact rfl | ((simp (disch := first | omega | (simp only [yA, yB, yC, yD, yE] <;> omega) | fail) [go_sem, yF, yG, yH, *, -List.map_take, -List.map_drop, -List.map_append, -List.map_reverse]) <;> (first | done | omega | exact rfl)))))) | ((fail_if_success (with_reducible show ACall _ _ _ _ _)); (try (first | exact .inl rfl | (refine .inr ⟨rfl, ?_, ?_⟩; (focus (repeat (first | exact trivial | refine ⟨.inl rfl, ?_⟩ | refine ⟨.inr rfl, ?_⟩))); (first | exact trivial | exact rfl))))))))))
    all_goals rfl
  · have hn0 : 0 < ps.length := by
      rcases Nat.eq_zero_or_pos ps.length with h | h
      · exact absurd (by simpa using h) hne
      · exact h
    have kl := cells_all (f := pfC) (z := 18) (L := ps) fun p hp => pfC_len (hps.2 p hp).1
    obtain ⟨cs, hcs⟩ : ∃ cs, ps.flatMap pfC = cs := ⟨_, rfl⟩
    rw [hcs] at kl hbb
    clear hcs
    replace kl : Hid _ := kl
    replace hps : Hid _ := hps
    repeat' (first | (with_reducible (first | apply w_seq | apply w_region | apply w_block | apply w_skip | apply w_exit | apply w_ret | apply w_then | apply w_then_exit | apply w_then_ret | apply w_in | apply w_in_here | apply w_in_ret | apply w_round | apply o_nil | apply d_nil)) | ((with_reducible (first | apply w_in_exit)); rfl) | ((with_reducible (first | apply w_draw)); rfl) | ((first | ((with_reducible (first | apply o_op | apply d_op | apply q_op)); rfl; rfl) | ((with_reducible (first | apply w_cond | apply w_end | apply w_return))) | ((with_reducible (first | apply o_guard | apply d_guard | apply q_guard)); rfl)); all_goals (first | ((with_reducible show Is _ _); ((try simp (disch := first | omega | (simp only [yA, yB, yC, yD, yE] <;> omega) | fail) [go_sem, yF, yG, yH, *, if_pos, if_neg, -List.map_take, -List.map_drop, -List.map_append, -List.map_reverse]); exact rfl)) | ((fail_if_success (with_reducible show Is _ _)); (first | ((with_reducible refine fun (hc : (_ : Bool) = _) => ?_); (try simp only [xA, xB, xC, xD, xE, xF, xG, xH, reduceCtorEq, xI, xJ, xK, xL, xM, xN, xO, xP, xQ, xR] at hc); (try (have hx : True := hc; clear hx hc)); (try (exfalso; omega)); (try (with_reducible (exact absurd hc (by assumption)))); (try (with_reducible (exact absurd (by assumption) hc)))) | ((fail_if_success (with_reducible show ACall _ _ _ _ _)); (try (first | exact .inl rfl | (refine .inr ⟨rfl, ?_, ?_⟩; (focus (repeat (first | exact trivial | refine ⟨.inl rfl, ?_⟩ | refine ⟨.inr rfl, ?_⟩))); (first | exact trivial | exact rfl))))))))))
    refine w_loop (fun fr W => ∃ (j : Nat) (A M : List Rt), j ≤ ps.length ∧ Made ps j A ∧ Made (rotF ps t) j M ∧ fr 24 = .int .i64 j ∧ fr 23 = .int .i64 ps.length ∧ fr 6 = .view bp 0 ps.length 18 false ∧ fr 1 = .int .u8 t ∧ ((fr 7 = .nilS ∧ A = [] ∧ fr 8 = .nilS ∧ M = []) ∨ (fr 7 = rl rtC A ∧ fr 8 = rl rtC M)) ∧ W[bp]? = some ⟨cs, mu⟩) (fun fr _ => ps.length - natOf (fr 24)) ?_ ?_
    · exact ⟨0, [], [], by omega, Made.nil _, Made.nil _, by (simp (disch := omega) [go_sem, *]) <;> (try omega), by (simp (disch := omega) [go_sem, *]) <;> (try omega), by (simp (disch := omega) [go_sem, *]) <;> (try omega), by (simp (disch := omega) [go_sem, *]) <;> (try omega), .inl ⟨by (simp (disch := omega) [go_sem, *]) <;> (try omega), rfl, by (simp (disch := omega) [go_sem, *]) <;> (try omega), rfl⟩, hbb⟩
    · clear hbb hb0 hlen ha1
      rintro fr W ⟨j, A, M, hj, hA, hM, h24, h23, h6, h1, h78, hWb⟩
      have hx := bx_pack hWb
      by_cases hc : j < ps.length
      · have hpg : PsG ps := hps
        obtain ⟨b1, b2⟩ := (show Cells pfC 18 cs ps from kl) j hc
        have hxi : (j + t) % ps.length < ps.length := Nat.mod_lt _ hn0
        obtain ⟨c1, c2⟩ := (show Cells pfC 18 cs ps from kl) _ hxi
        have hxg := hpg.2 _ (List.getElem_mem hc)
        have hyg := hpg.2 _ (List.getElem_mem hxi)
        obtain ⟨A2, hA2, hA3⟩ := hA.next hpg hc hpl
        obtain ⟨M2, hM2, hM3⟩ := hM.next (Made.rotps hpg) (by rw [rot_len]; exact hc) (by rw [rot_len]; exact hpl)
        rw [rot_get hc] at hM2
        have hrem : ((j : Int) + (t : Int)) % (ps.length : Int) = (((j + t) % ps.length : Nat) : Int) := by push_cast; rfl
        generalize ps[j] = x at *
        generalize ps[(j + t) % ps.length] = y at *
        generalize (j + t) % ps.length = xi at *
        have hxr := vld_range hxg.2
        have hyr := vld_range hyg.2
        have hkx : ((UInt8.ofNat x.2.toNat).toNat : Int) = x.2 := by rw [UInt8.toNat_ofNat', Nat.mod_eq_of_lt (by omega)]; omega
        have hky : ((UInt8.ofNat y.2.toNat).toNat : Int) = y.2 := by rw [UInt8.toNat_ofNat', Nat.mod_eq_of_lt (by omega)]; omega
        have hi1 : ∀ {B : List Box} {args : List CV}, Is (omap (fz true false B 6) args) (some [rl rtC A, .agg (pfC x), .agg (.int .u8 x.2 :: (List.replicate 31 (0 : UInt8)).map byteC)]) → ACall Try.prog 16 args B fun c B' => c = .tup [rl rtC A2, .int .i64 0] ∧ B' = B := fun h => by
          rw [← hkx] at h
          have := insert_at (k := kb x) h hA.rg.len hxg.1 rfl (by rw [hA.len]; omega)
          rwa [hA2] at this
        have hi2 : ∀ {B : List Box} {args : List CV}, Is (omap (fz true false B 6) args) (some [rl rtC M, .agg (pfC y), .agg (.int .u8 y.2 :: (List.replicate 31 (0 : UInt8)).map byteC)]) → ACall Try.prog 16 args B fun c B' => c = .tup [rl rtC M2, .int .i64 0] ∧ B' = B := fun h => by
          rw [← hky] at h
          have := insert_at (k := kb y) h hM.rg.len hyg.1 rfl (by rw [hM.len]; omega)
          rwa [hM2] at this
        have hval : ∀ (B : List Box) (args : List CV), Is (omap (fz true false B 6) args) (some [rl rtC A2]) → ACall Try.prog 20 args B fun c B' => c = .bool true ∧ B' = B := fun B args h => by
          have := valid14_at h hA3.rg.len (by rw [hA3.len]; omega)
          rwa [hA3.rg.valid (by rw [hA3.len]; omega)] at this
        have hw1 : IntKind.u8.wrap x.2 = x.2 := wu8 (by omega)
        have hw2 : IntKind.u8.wrap y.2 = y.2 := wu8 (by omega)
        obtain ⟨x1, x2, x3, x4, x5, x6⟩ := pf_parts hxg.1
        obtain ⟨y1, y2, y3, y4, y5, y6⟩ := pf_parts hyg.1
        have hpne : ¬ ps = [] := hne
        clear hA hM hA2 hM2 hkx hky hxg hyg hpg
        replace hA3 : Hid _ := hA3
        replace hM3 : Hid _ := hM3
        rcases h78 with ⟨h7, rfl, h8, rfl⟩ | ⟨h7, h8⟩
        · cases mu
          all_goals
            repeat' (first | (with_reducible (first | apply w_seq | apply w_region | apply w_block | apply w_skip | apply w_exit | apply w_ret | apply w_then | apply w_then_exit | apply w_then_ret | apply w_in | apply w_in_here | apply w_in_ret | apply w_round | apply o_nil | apply d_nil)) | ((with_reducible (first | apply w_in_exit)); rfl) | ((first | ((with_reducible (first | apply o_op | apply d_op | apply q_op)); rfl; rfl) | ((with_reducible (first | apply w_cond | apply w_end | apply w_return))) | ((with_reducible (first | apply o_guard | apply d_guard | apply q_guard)); rfl)); all_goals (first | ((with_reducible show Is _ _); ((try simp (disch := first | omega | (simp only [yA, yB, yC, yD, yE] <;> omega) | fail) [go_sem, yF, yG, yH, *, if_pos, if_neg, -List.map_take, -List.map_drop, -List.map_append, -List.map_reverse]); exact rfl)) | ((fail_if_success (with_reducible show Is _ _)); (first | ((with_reducible refine fun (hc : (_ : Bool) = _) => ?_); (try simp only [xA, xB, xC, xD, xE, xF, xG, xH, reduceCtorEq, xI, xJ, xK, xL, xM, xN, xO, xP, xQ, xR] at hc); (try (have hx : True := hc; clear hx hc)); (try (exfalso; omega)); (try (with_reducible (exact absurd hc (by assumption)))); (try (with_reducible (exact absurd (by assumption) hc)))) | ((fail_if_success (with_reducible show ACall _ _ _ _ _)); (try (first | exact .inl rfl | (refine .inr ⟨rfl, ?_, ?_⟩; (focus (repeat (first | exact trivial | refine ⟨.inl rfl, ?_⟩ | refine ⟨.inr rfl, ?_⟩))); (first | exact trivial | exact rfl))))))))))
            refine w_drawJ [2, 3, 12, 13, 14, 15] [⟨[], false⟩, ⟨[], false⟩, ⟨[], false⟩, ⟨[], false⟩, ⟨[.bool false, .int .u8 0, .int .u8 0, .int .u8 0, .int .u8 0, .int .u8 0, .int .u8 0, .int .u8 0, .int .u8 0, .int .u8 0, .int .u8 0, .int .u8 0, .int .u8 0, .int .u8 0, .int .u8 0, .int .u8 0, .int .u8 0, .int .i64 0], false⟩, ⟨[.bool false, .int .u8 0, .int .u8 0, .int .u8 0, .int .u8 0, .int .u8 0, .int .u8 0, .int .u8 0, .int .u8 0, .int .u8 0, .int .u8 0, .int .u8 0, .int .u8 0, .int .u8 0, .int .u8 0, .int .u8 0, .int .u8 0, .int .i64 0], false⟩] (fun B' => B'[bp]? = some ⟨cs, _⟩) rfl rfl (hx.1 _) ?_
            repeat' (first | (with_reducible (first | apply w_seq | apply w_region | apply w_block | apply w_skip | apply w_exit | apply w_ret | apply w_then | apply w_then_exit | apply w_then_ret | apply w_in | apply w_in_here | apply w_in_ret | apply w_round | apply o_nil | apply d_nil)) | ((with_reducible (first | apply w_in_exit)); rfl) | ((first | ((with_reducible (first | apply d_made | apply q_made)); rfl; rfl)); (iterate 6 ((try simp (disch := first | omega | (simp only [yA, yB, yC, yD, yE] <;> omega) | fail) [go_sem, yF, yG, yH, *, Nat.add_assoc, if_pos, if_neg, -List.map_take, -List.map_drop, -List.map_append, -List.map_reverse]); exact rfl))) | ((first | ((with_reducible (first | apply d_fop | apply q_fop)); rfl; rfl)); (intro Bx hJ; (first | (obtain ⟨_, hJ1, hJ2⟩ := hJ) | (try simp only at hJ)); ((try simp (disch := first | omega | (simp only [yA, yB, yC, yD, yE] <;> omega) | fail) [go_sem, yF, yG, yH, *, Nat.add_assoc, if_pos, if_neg, -List.map_take, -List.map_drop, -List.map_append, -List.map_reverse]); exact rfl))) | ((with_reducible (first | apply d_free | apply q_free)); rfl; (iterate 2 ((try simp (disch := first | omega | (simp only [yA, yB, yC, yD, yE] <;> omega) | fail) [go_sem, yF, yG, yH, *, Nat.add_assoc, if_pos, if_neg, -List.map_take, -List.map_drop, -List.map_append, -List.map_reverse]); exact rfl)); (intro Bx hJ); (first | ((with_reducible (first | apply hi1)) <;> (first | omega | assumption | exact rfl | ((simp (disch := first | omega | (simp only [yA, yB, yC, yD, yE] <;> omega) | fail) [go_sem, yF, yG, yH, *, Nat.add_assoc, -List.map_take, -List.map_drop, -List.map_append, -List.map_reverse]) <;> (first | done | omega | exact rfl)))) | ((with_reducible (first | apply hi2)) <;> (first | omega | assumption | exact rfl | ((simp (disch := first | omega | (simp only [yA, yB, yC, yD, yE] <;> omega) | fail) [go_sem, yF, yG, yH, *, Nat.add_assoc, -List.map_take, -List.map_drop, -List.map_append, -List.map_reverse]) <;> (first | done | omega | exact rfl)))) | ((with_reducible (first | apply hval)) <;> (first | omega | assumption | exact rfl | ((simp (disch := first | omega | (simp only [yA, yB, yC, yD, yE] <;> omega) | fail) [go_sem, yF, yG, yH, *, Nat.add_assoc, -List.map_take, -List.map_drop, -List.map_append, -List.map_reverse]) <;> (first | done | omega | exact rfl)))))) | ((first | ((with_reducible (first | apply o_op | apply d_op | apply q_op)); rfl; rfl) | ((with_reducible (first | apply w_cond | apply w_end | apply w_return))) | ((with_reducible (first | apply o_guard | apply d_guard | apply q_guard)); rfl) | ((with_reducible (first | apply o_call_eq | apply d_call | apply q_call)); rfl)); all_goals (first | ((with_reducible show Is _ _); ((try simp (disch := first | omega | (simp only [yA, yB, yC, yD, yE] <;> omega) | fail) [go_sem, yF, yG, yH, *, Nat.add_assoc, if_pos, if_neg, -List.map_take, -List.map_drop, -List.map_append, -List.map_reverse]); exact rfl)) | ((fail_if_success (with_reducible show Is _ _)); (first | ((with_reducible refine fun (hc : (_ : Bool) = _) => ?_); (try simp only [xA, xB, xC, xD, xE, xF, xG, xH, reduceCtorEq, xI, xJ, xK, xL, xM, xN, xO, xP, xQ, xR] at hc); (try (have hx : True := hc; clear hx hc)); (try (exfalso; omega)); (try (with_reducible (exact absurd hc (by assumption)))); (try (with_reducible (exact absurd (by assumption) hc)))) | ((with_reducible show ACall _ _ _ _ _); (first | ((with_reducible (first | apply hi1)) <;> (first | omega | assumption | exact rfl | ((simp (disch := first | omega | (simp only [yA, yB, yC, yD, yE] <;> omega) | fail) [go_sem, yF, yG, yH, *, Nat.add_assoc, -List.map_take, -List.map_drop, -List.map_append, -List.map_reverse]) <;> (first | done | omega | exact rfl)))) | ((with_reducible (first | apply hi2)) <;> (first | omega | assumption | exact rfl | ((simp (disch := first | omega | (simp only [yA, yB, yC, yD, yE] <;> omega) | fail) [go_sem, yF, yG, yH, *, Nat.add_assoc, -List.map_take, -List.map_drop, -List.map_append, -List.map_reverse]) <;> (first | done | omega | exact rfl)))) | ((with_reducible (first | apply hval)) <;> (first | omega | assumption | exact rfl | ((simp (disch := first | omega | (simp only [yA, yB, yC, yD, yE] <;> omega) | fail) [go_sem, yF, yG, yH, *, Nat.add_assoc, -List.map_take, -List.map_drop, -List.map_append, -List.map_reverse]) <;> (first | done | omega | exact rfl)))))) | ((fail_if_success (with_reducible show ACall _ _ _ _ _)); (try (first | exact .inl rfl | (refine .inr ⟨rfl, ?_, ?_⟩; (focus (repeat (first | exact trivial | refine ⟨.inl rfl, ?_⟩ | refine ⟨.inr rfl, ?_⟩ | refine ⟨.inr (by (simp (disch := first | omega | (simp only [yA, yB, yC, yD, yE] <;> omega) | fail) [go_sem, yF, yG, yH, *, Nat.add_assoc, -List.map_take, -List.map_drop, -List.map_append, -List.map_reverse])), ?_⟩))); (first | exact trivial | exact rfl | (refine ⟨_, ?_, ?_⟩; (focus (simp (disch := first | omega | (simp only [yA, yB, yC, yD, yE] <;> omega) | fail) [go_sem, yF, yG, yH, *, Nat.add_assoc, -List.map_take, -List.map_drop, -List.map_append, -List.map_reverse]; (try exact rfl))); (simp (disch := first | omega | (simp only [yA, yB, yC, yD, yE] <;> omega) | fail) [go_sem, yF, yG, yH, *, Nat.add_assoc, -List.map_take, -List.map_drop, -List.map_append, -List.map_reverse])) | (simp (disch := first | omega | (simp only [yA, yB, yC, yD, yE] <;> omega) | fail) [go_sem, yF, yG, yH, *, Nat.add_assoc, -List.map_take, -List.map_drop, -List.map_append, -List.map_reverse]))) | exact .inl (by (simp (disch := first | omega | (simp only [yA, yB, yC, yD, yE] <;> omega) | fail) [go_sem, yF, yG, yH, *, Nat.add_assoc, -List.map_take, -List.map_drop, -List.map_append, -List.map_reverse]))))))))))
            exact ⟨⟨j + 1, A2, M2, by omega, hA3, hM3, by (simp (disch := omega) [go_sem, *]) <;> (try omega), by (simp (disch := omega) [go_sem, *]) <;> (try omega), by (simp (disch := omega) [go_sem, *]) <;> (try omega), by (simp (disch := omega) [go_sem, *]) <;> (try omega), .inr ⟨by (simp (disch := omega) [go_sem, *]) <;> (try omega), by (simp (disch := omega) [go_sem, *]) <;> (try omega)⟩, hx.1 _⟩, by (simp (disch := omega) [go_sem, *]) <;> (try omega)⟩
        · cases mu
          all_goals
            repeat' (first | (with_reducible (first | apply w_seq | apply w_region | apply w_block | apply w_skip | apply w_exit | apply w_ret | apply w_then | apply w_then_exit | apply w_then_ret | apply w_in | apply w_in_here | apply w_in_ret | apply w_round | apply o_nil | apply d_nil)) | ((with_reducible (first | apply w_in_exit)); rfl) | ((first | ((with_reducible (first | apply o_op | apply d_op | apply q_op)); rfl; rfl) | ((with_reducible (first | apply w_cond | apply w_end | apply w_return))) | ((with_reducible (first | apply o_guard | apply d_guard | apply q_guard)); rfl)); all_goals (first | ((with_reducible show Is _ _); ((try simp (disch := first | omega | (simp only [yA, yB, yC, yD, yE] <;> omega) | fail) [go_sem, yF, yG, yH, *, if_pos, if_neg, -List.map_take, -List.map_drop, -List.map_append, -List.map_reverse]); exact rfl)) | ((fail_if_success (with_reducible show Is _ _)); (first | ((with_reducible refine fun (hc : (_ : Bool) = _) => ?_); (try simp only [xA, xB, xC, xD, xE, xF, xG, xH, reduceCtorEq, xI, xJ, xK, xL, xM, xN, xO, xP, xQ, xR] at hc); (try (have hx : True := hc; clear hx hc)); (try (exfalso; omega)); (try (with_reducible (exact absurd hc (by assumption)))); (try (with_reducible (exact absurd (by assumption) hc)))) | ((fail_if_success (with_reducible show ACall _ _ _ _ _)); (try (first | exact .inl rfl | (refine .inr ⟨rfl, ?_, ?_⟩; (focus (repeat (first | exact trivial | refine ⟨.inl rfl, ?_⟩ | refine ⟨.inr rfl, ?_⟩))); (first | exact trivial | exact rfl))))))))))
            refine w_drawJ [2, 3, 12, 13, 14, 15] [⟨[], false⟩, ⟨[], false⟩, ⟨[], false⟩, ⟨[], false⟩, ⟨[.bool false, .int .u8 0, .int .u8 0, .int .u8 0, .int .u8 0, .int .u8 0, .int .u8 0, .int .u8 0, .int .u8 0, .int .u8 0, .int .u8 0, .int .u8 0, .int .u8 0, .int .u8 0, .int .u8 0, .int .u8 0, .int .u8 0, .int .i64 0], false⟩, ⟨[.bool false, .int .u8 0, .int .u8 0, .int .u8 0, .int .u8 0, .int .u8 0, .int .u8 0, .int .u8 0, .int .u8 0, .int .u8 0, .int .u8 0, .int .u8 0, .int .u8 0, .int .u8 0, .int .u8 0, .int .u8 0, .int .u8 0, .int .i64 0], false⟩] (fun B' => B'[bp]? = some ⟨cs, _⟩) rfl rfl (hx.1 _) ?_
            repeat' (first | (with_reducible (first | apply w_seq | apply w_region | apply w_block | apply w_skip | apply w_exit | apply w_ret | apply w_then | apply w_then_exit | apply w_then_ret | apply w_in | apply w_in_here | apply w_in_ret | apply w_round | apply o_nil | apply d_nil)) | ((with_reducible (first | apply w_in_exit)); rfl) | ((first | ((with_reducible (first | apply d_made | apply q_made)); rfl; rfl)); (iterate 6 ((try simp (disch := first | omega | (simp only [yA, yB, yC, yD, yE] <;> omega) | fail) [go_sem, yF, yG, yH, *, Nat.add_assoc, if_pos, if_neg, -List.map_take, -List.map_drop, -List.map_append, -List.map_reverse]); exact rfl))) | ((first | ((with_reducible (first | apply d_fop | apply q_fop)); rfl; rfl)); (intro Bx hJ; (first | (obtain ⟨_, hJ1, hJ2⟩ := hJ) | (try simp only at hJ)); ((try simp (disch := first | omega | (simp only [yA, yB, yC, yD, yE] <;> omega) | fail) [go_sem, yF, yG, yH, *, Nat.add_assoc, if_pos, if_neg, -List.map_take, -List.map_drop, -List.map_append, -List.map_reverse]); exact rfl))) | ((with_reducible (first | apply d_free | apply q_free)); rfl; (iterate 2 ((try simp (disch := first | omega | (simp only [yA, yB, yC, yD, yE] <;> omega) | fail) [go_sem, yF, yG, yH, *, Nat.add_assoc, if_pos, if_neg, -List.map_take, -List.map_drop, -List.map_append, -List.map_reverse]); exact rfl)); (intro Bx hJ); (first | ((with_reducible (first | apply hi1)) <;> (first | omega | assumption | exact rfl | ((simp (disch := first | omega | (simp only [yA, yB, yC, yD, yE] <;> omega) | fail) [go_sem, yF, yG, yH, *, Nat.add_assoc, -List.map_take, -List.map_drop, -List.map_append, -List.map_reverse]) <;> (first | done | omega | exact rfl)))) | ((with_reducible (first | apply hi2)) <;> (first | omega | assumption | exact rfl | ((simp (disch := first | omega | (simp only [yA, yB, yC, yD, yE] <;> omega) | fail) [go_sem, yF, yG, yH, *, Nat.add_assoc, -List.map_take, -List.map_drop, -List.map_append, -List.map_reverse]) <;> (first | done | omega | exact rfl)))) | ((with_reducible (first | apply hval)) <;> (first | omega | assumption | exact rfl | ((simp (disch := first | omega | (simp only [yA, yB, yC, yD, yE] <;> omega) | fail) [go_sem, yF, yG, yH, *, Nat.add_assoc, -List.map_take, -List.map_drop, -List.map_append, -List.map_reverse]) <;> (first | done | omega | exact rfl)))))) | ((first | ((with_reducible (first | apply o_op | apply d_op | apply q_op)); rfl; rfl) | ((with_reducible (first | apply w_cond | apply w_end | apply w_return))) | ((with_reducible (first | apply o_guard | apply d_guard | apply q_guard)); rfl) | ((with_reducible (first | apply o_call_eq | apply d_call | apply q_call)); rfl)); all_goals (first | ((with_reducible show Is _ _); ((try simp (disch := first | omega | (simp only [yA, yB, yC, yD, yE] <;> omega) | fail) [go_sem, yF, yG, yH, *, Nat.add_assoc, if_pos, if_neg, -List.map_take, -List.map_drop, -List.map_append, -List.map_reverse]); exact rfl)) | ((fail_if_success (with_reducible show Is _ _)); (first | ((with_reducible refine fun (hc : (_ : Bool) = _) => ?_); (try simp only [xA, xB, xC, xD, xE, xF, xG, xH, reduceCtorEq, xI, xJ, xK, xL, xM, xN, xO, xP, xQ, xR] at hc); (try (have hx : True := hc; clear hx hc)); (try (exfalso; omega)); (try (with_reducible (exact absurd hc (by assumption)))); (try (with_reducible (exact absurd (by assumption) hc)))) | ((with_reducible show ACall _ _ _ _ _); (first | ((with_reducible (first | apply hi1)) <;> (first | omega | assumption | exact rfl | ((simp (disch := first | omega | (simp only [yA, yB, yC, yD, yE] <;> omega) | fail) [go_sem, yF, yG, yH, *, Nat.add_assoc, -List.map_take, -List.map_drop, -List.map_append, -List.map_reverse]) <;> (first | done | omega | exact rfl)))) | ((with_reducible (first | apply hi2)) <;> (first | omega | assumption | exact rfl | ((simp (disch := first | omega | (simp only [yA, yB, yC, yD, yE] <;> omega) | fail) [go_sem, yF, yG, yH, *, Nat.add_assoc, -List.map_take, -List.map_drop, -List.map_append, -List.map_reverse]) <;> (first | done | omega | exact rfl)))) | ((with_reducible (first | apply hval)) <;> (first | omega | assumption | exact rfl | ((simp (disch := first | omega | (simp only [yA, yB, yC, yD, yE] <;> omega) | fail) [go_sem, yF, yG, yH, *, Nat.add_assoc, -List.map_take, -List.map_drop, -List.map_append, -List.map_reverse]) <;> (first | done | omega | exact rfl)))))) | ((fail_if_success (with_reducible show ACall _ _ _ _ _)); (try (first | exact .inl rfl | (refine .inr ⟨rfl, ?_, ?_⟩; (focus (repeat (first | exact trivial | refine ⟨.inl rfl, ?_⟩ | refine ⟨.inr rfl, ?_⟩ | refine ⟨.inr (by (simp (disch := first | omega | (simp only [yA, yB, yC, yD, yE] <;> omega) | fail) [go_sem, yF, yG, yH, *, Nat.add_assoc, -List.map_take, -List.map_drop, -List.map_append, -List.map_reverse])), ?_⟩))); (first | exact trivial | exact rfl | (refine ⟨_, ?_, ?_⟩; (focus (simp (disch := first | omega | (simp only [yA, yB, yC, yD, yE] <;> omega) | fail) [go_sem, yF, yG, yH, *, Nat.add_assoc, -List.map_take, -List.map_drop, -List.map_append, -List.map_reverse]; (try exact rfl))); (simp (disch := first | omega | (simp only [yA, yB, yC, yD, yE] <;> omega) | fail) [go_sem, yF, yG, yH, *, Nat.add_assoc, -List.map_take, -List.map_drop, -List.map_append, -List.map_reverse])) | (simp (disch := first | omega | (simp only [yA, yB, yC, yD, yE] <;> omega) | fail) [go_sem, yF, yG, yH, *, Nat.add_assoc, -List.map_take, -List.map_drop, -List.map_append, -List.map_reverse]))) | exact .inl (by (simp (disch := first | omega | (simp only [yA, yB, yC, yD, yE] <;> omega) | fail) [go_sem, yF, yG, yH, *, Nat.add_assoc, -List.map_take, -List.map_drop, -List.map_append, -List.map_reverse]))))))))))
            exact ⟨⟨j + 1, A2, M2, by omega, hA3, hM3, by (simp (disch := omega) [go_sem, *]) <;> (try omega), by (simp (disch := omega) [go_sem, *]) <;> (try omega), by (simp (disch := omega) [go_sem, *]) <;> (try omega), by (simp (disch := omega) [go_sem, *]) <;> (try omega), .inr ⟨by (simp (disch := omega) [go_sem, *]) <;> (try omega), by (simp (disch := omega) [go_sem, *]) <;> (try omega)⟩, hx.1 _⟩, by (simp (disch := omega) [go_sem, *]) <;> (try omega)⟩
      · obtain rfl : j = ps.length := by omega
        have hpg : PsG ps := hps
        have hAM : A = M := by
          refine perm_ord (hA.perm.trans (List.Perm.trans ?_ hM.perm.symm)) hA.rg.ord hM.rg.ord
          rw [List.take_length, List.take_of_length_le (by rw [rot_len]; exact Nat.le_refl _)]
          exact (rot_perm ps t).symm.map _
        subst hAM
        have hAe : A ≠ [] := fun e => by
          have := hA.len
          rw [e] at this; simp at this; omega
        have h7 : fr 7 = rl rtC A ∧ fr 8 = rl rtC A := by
          rcases h78 with ⟨_, h, _⟩ | h
          · exact absurd h hAe
          · exact h
        obtain ⟨h7, h8⟩ := h7
        have hlk : ∀ i (h : i < ps.length), ∃ (b : UInt8) (X : List UInt8), X.length = 31 ∧ (ps[i]).2 ≤ (b.toNat : Int) ∧ ∀ (B : List Box) (args : List CV), Is (omap (fz true false B 6) args) (some [.lst A.length (A.flatMap rtC) false, .agg (adC (ps[i]).1)]) → ACall Try.prog 12 args B fun c B' => c = .tup [.agg (byteC b :: X.map byteC), .bool true] ∧ B' = B := fun i h => by
          obtain ⟨b, X, h1, h2, h3⟩ := hA.look hpg (List.getElem_mem h)
          refine ⟨b, X, h1, h3, fun B args ha => ?_⟩
          have := lookup_at ha hA.rg.good (by rw [hA.len]; omega) (hpg.2 _ (List.getElem_mem h)).1
          rwa [look_same hA.rg.good (hpg.2 _ (List.getElem_mem h)).1, h2] at this
        have hsame : ∀ (B : List Box) (args : List CV), Is (omap (fz true false B 6) args) (some [.lst A.length (A.flatMap rtC) false, .lst A.length (A.flatMap rtC) false]) → ACall Try.prog 21 args B fun c B' => c = .bool true ∧ B' = B := fun B args h => by
          have := rtsame_at h hA.rg.len hA.rg.len (by rw [hA.len]; omega) (by rw [hA.len]; omega)
          rwa [beq_self_eq_true] at this
        have hAl := hA.len
        have omA : ∀ (nz fr : Bool) (B : List Box) (k : Nat), omap (fz nz fr B (k + 1)) (A.flatMap rtC) = some (A.flatMap rtC) := fun _ _ _ _ => rt_om A
        rw [rl] at h7 h8
        rw [hAl] at h7 h8 hlk hsame
        generalize A.flatMap rtC = ac at *
        clear hA hM h78 hAl hAe hpg
        replace hlk : Hid _ := hlk
        repeat' (first | (with_reducible (first | apply w_seq | apply w_region | apply w_block | apply w_skip | apply w_exit | apply w_ret | apply w_then | apply w_then_exit | apply w_then_ret | apply w_in | apply w_in_here | apply w_in_ret | apply w_round | apply o_nil | apply d_nil)) | ((with_reducible (first | apply w_in_exit)); rfl) | ((with_reducible (first | apply w_draw)); rfl) | ((first | ((with_reducible (first | apply o_op | apply d_op | apply q_op)); rfl; rfl) | ((with_reducible (first | apply w_cond | apply w_end | apply w_return))) | ((with_reducible (first | apply o_guard | apply d_guard | apply q_guard)); rfl)); all_goals (first | ((with_reducible show Is _ _); ((try simp (disch := first | omega | (simp only [yA, yB, yC, yD, yE] <;> omega) | fail) [go_sem, yF, yG, yH, *, if_pos, if_neg, -List.map_take, -List.map_drop, -List.map_append, -List.map_reverse]); exact rfl)) | ((fail_if_success (with_reducible show Is _ _)); (first | ((with_reducible refine fun (hc : (_ : Bool) = _) => ?_); (try simp only [xA, xB, xC, xD, xE, xF, xG, xH, reduceCtorEq, xI, xJ, xK, xL, xM, xN, xO, xP, xQ, xR] at hc); (try (have hx : True := hc; clear hx hc)); (try (exfalso; omega)); (try (with_reducible (exact absurd hc (by assumption)))); (try (with_reducible (exact absurd (by assumption) hc)))) | ((fail_if_success (with_reducible show ACall _ _ _ _ _)); (try (first | exact .inl rfl | (refine .inr ⟨rfl, ?_, ?_⟩; (focus (repeat (first | exact trivial | refine ⟨.inl rfl, ?_⟩ | refine ⟨.inr rfl, ?_⟩))); (first | exact trivial | exact rfl))))))))))
        refine w_loop (fun fr W => ∃ j : Nat, j ≤ ps.length ∧ fr 75 = .int .i64 j ∧ fr 74 = .int .i64 ps.length ∧ fr 73 = .view bp 0 ps.length 18 false ∧ fr 6 = .view bp 0 ps.length 18 false ∧ fr 7 = .lst ps.length ac false ∧ fr 8 = .lst ps.length ac false ∧ W[bp]? = some ⟨cs, mu⟩) (fun fr _ => ps.length - natOf (fr 75)) ?_ ?_
        · exact ⟨0, by omega, by (simp (disch := omega) [go_sem, *]) <;> (try omega), by (simp (disch := omega) [go_sem, *]) <;> (try omega), by (simp (disch := omega) [go_sem, *]) <;> (try omega), by (simp (disch := omega) [go_sem, *]) <;> (try omega), by (simp (disch := omega) [go_sem, *]) <;> (try omega), by (simp (disch := omega) [go_sem, *]) <;> (try omega), hWb⟩
        · clear hx hWb h7 h8 h6 h24 h23 h1 hc
          rintro fr W ⟨j, hj, h75, h74, h73, h6, h7, h8, hWb⟩
          have hx := bx_pack hWb
          by_cases hc : j < ps.length
          · obtain ⟨b1, b2⟩ := (show Cells pfC 18 cs ps from kl) j hc
            obtain ⟨b, X, hX, hbb, hlook⟩ := (show ∀ i (h : i < ps.length), ∃ (b : UInt8) (X : List UInt8), X.length = 31 ∧ (ps[i]).2 ≤ (b.toNat : Int) ∧ ∀ (B : List Box) (args : List CV), Is (omap (fz true false B 6) args) (some [.lst ps.length ac false, .agg (adC (ps[i]).1)]) → ACall Try.prog 12 args B fun c B' => c = .tup [.agg (byteC b :: X.map byteC), .bool true] ∧ B' = B from hlk) j hc
            have hxg := (show PsG ps from hps).2 _ (List.getElem_mem hc)
            obtain ⟨x1, x2, x3, x4, x5, x6⟩ := pf_parts hxg.1
            have hadm : omap (fz true false (W ++ [⟨pfC ps[j], false⟩]) 5) (adC (ps[j]).1) = some (adC (ps[j]).1) := by simp [adC, go_sem]
            have hlX : (byteC b :: X.map byteC).length = 32 := by simp [hX]
            have hb256 := b.toNat_lt
            generalize ps[j] = x at *
            clear hxg
            cases mu
            all_goals
              repeat' (first | (with_reducible (first | apply w_seq | apply w_region | apply w_block | apply w_skip | apply w_exit | apply w_ret | apply w_then | apply w_then_exit | apply w_then_ret | apply w_in | apply w_in_here | apply w_in_ret | apply w_round | apply o_nil | apply d_nil)) | ((with_reducible (first | apply w_in_exit)); rfl) | ((with_reducible (first | apply w_draw)); rfl) | ((first | ((with_reducible (first | apply o_op | apply d_op | apply q_op)); rfl; rfl) | ((with_reducible (first | apply w_cond | apply w_end | apply w_return))) | ((with_reducible (first | apply o_guard | apply d_guard | apply q_guard)); rfl) | ((with_reducible (first | apply o_call_eq | apply d_call | apply q_call)); rfl)); all_goals (first | ((with_reducible show Is _ _); ((try simp (disch := first | omega | (simp only [yA, yB, yC, yD, yE] <;> omega) | fail) [go_sem, yF, yG, yH, *, if_pos, if_neg, -List.map_take, -List.map_drop, -List.map_append, -List.map_reverse]); exact rfl)) | ((fail_if_success (with_reducible show Is _ _)); (first | ((with_reducible refine fun (hc : (_ : Bool) = _) => ?_); (try simp only [xA, xB, xC, xD, xE, xF, xG, xH, reduceCtorEq, xI, xJ, xK, xL, xM, xN, xO, xP, xQ, xR] at hc); (try (have hx : True := hc; clear hx hc)); (try (exfalso; omega)); (try (with_reducible (exact absurd hc (by assumption)))); (try (with_reducible (exact absurd (by assumption) hc)))) | ((with_reducible show ACall _ _ _ _ _); (first | ((with_reducible (first | apply hlook)) <;> (first | omega | assumption | exact rfl | ((simp (disch := first | omega | (simp only [yA, yB, yC, yD, yE] <;> omega) | fail) [go_sem, yF, yG, yH, *, -List.map_take, -List.map_drop, -List.map_append, -List.map_reverse]) <;> (first | done | omega | exact rfl)))))) | ((fail_if_success (with_reducible show ACall _ _ _ _ _)); (try (first | exact .inl rfl | (refine .inr ⟨rfl, ?_, ?_⟩; (focus (repeat (first | exact trivial | refine ⟨.inl rfl, ?_⟩ | refine ⟨.inr rfl, ?_⟩))); (first | exact trivial | exact rfl))))))))))
              exact ⟨⟨j + 1, by omega, by (simp (disch := omega) [go_sem, *]) <;> (try omega), by (simp (disch := omega) [go_sem, *]) <;> (try omega), by (simp (disch := omega) [go_sem, *]) <;> (try omega), by (simp (disch := omega) [go_sem, *]) <;> (try omega), by (simp (disch := omega) [go_sem, *]) <;> (try omega), by (simp (disch := omega) [go_sem, *]) <;> (try omega), hx.1 _⟩, by (simp (disch := omega) [go_sem, *]) <;> (try omega)⟩
          · obtain rfl : j = ps.length := by omega
            repeat' (first | (with_reducible (first | apply w_seq | apply w_region | apply w_block | apply w_skip | apply w_exit | apply w_ret | apply w_then | apply w_then_exit | apply w_then_ret | apply w_in | apply w_in_here | apply w_in_ret | apply w_round | apply o_nil | apply d_nil)) | ((with_reducible (first | apply w_in_exit)); rfl) | ((with_reducible (first | apply w_draw)); rfl) | ((first | ((with_reducible (first | apply o_op | apply d_op | apply q_op)); rfl; rfl) | ((with_reducible (first | apply w_cond | apply w_end | apply w_return))) | ((with_reducible (first | apply o_guard | apply d_guard | apply q_guard)); rfl) | ((with_reducible (first | apply o_call_eq | apply d_call | apply q_call)); rfl)); all_goals (first | ((with_reducible show Is _ _); ((try simp (disch := first | omega | (simp only [yA, yB, yC, yD, yE] <;> omega) | fail) [go_sem, yF, yG, yH, *, if_pos, if_neg, -List.map_take, -List.map_drop, -List.map_append, -List.map_reverse]); exact rfl)) | ((fail_if_success (with_reducible show Is _ _)); (first | ((with_reducible refine fun (hc : (_ : Bool) = _) => ?_); (try simp only [xA, xB, xC, xD, xE, xF, xG, xH, reduceCtorEq, xI, xJ, xK, xL, xM, xN, xO, xP, xQ, xR] at hc); (try (have hx : True := hc; clear hx hc)); (try (exfalso; omega)); (try (with_reducible (exact absurd hc (by assumption)))); (try (with_reducible (exact absurd (by assumption) hc)))) | ((with_reducible show ACall _ _ _ _ _); (first | ((with_reducible (first | apply hsame)) <;> (first | omega | assumption | exact rfl | ((simp (disch := first | omega | (simp only [yA, yB, yC, yD, yE] <;> omega) | fail) [go_sem, yF, yG, yH, *, -List.map_take, -List.map_drop, -List.map_append, -List.map_reverse]) <;> (first | done | omega | exact rfl)))) | ((with_reducible (first | apply begun14_at)) <;> (first | omega | assumption | exact rfl | ((simp (disch := first | omega | (simp only [yA, yB, yC, yD, yE] <;> omega) | fail) [go_sem, yF, yG, yH, *, -List.map_take, -List.map_drop, -List.map_append, -List.map_reverse]) <;> (first | done | omega | exact rfl)))))) | ((fail_if_success (with_reducible show ACall _ _ _ _ _)); (try (first | exact .inl rfl | (refine .inr ⟨rfl, ?_, ?_⟩; (focus (repeat (first | exact trivial | refine ⟨.inl rfl, ?_⟩ | refine ⟨.inr rfl, ?_⟩))); (first | exact trivial | exact rfl))))))))))
            all_goals rfl
end Go.Proofs.Ytmcnajknmoldpaa
