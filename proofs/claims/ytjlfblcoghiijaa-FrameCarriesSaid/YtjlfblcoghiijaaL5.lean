import Derived.Test.YtjlfblcoghiijaaFN
import Derived.Test.YtjlfblcoghiijaaFJ
namespace Go.Proofs.Ytjlfblcoghiijaa
open Go Go.Sy
set_option linter.all false
set_option maxRecDepth 100000
set_option maxHeartbeats 4000000
/-! FrameCarries. -/
theorem partsF_spec (k : Int) : ∀ (n : Nat) (d : List UInt8), d.length ≤ n → (partsF k n d).flatMap (·.2) = d ∧ 1 ≤ (partsF k n d).length ∧ (partsF k n d).length ≤ d.length + 1 ∧
    ∀ i (h : i < (partsF k n d).length), ((partsF k n d)[i]).1 = k ∧ ((partsF k n d)[i]).2.length ≤ 512 ∧ (i + 1 < (partsF k n d).length → ((partsF k n d)[i]).2.length = 512) ∧ (((partsF k n d)[i]).2.length = 0 → i = 0 ∧ d = [])
  | 0, d, hd => by
    have : d = [] := List.eq_nil_of_length_eq_zero (by omega)
    subst this
    refine ⟨rfl, Nat.le_refl _, Nat.le_refl _, fun i h => ?_⟩
    have : i = 0 := by simp [partsF] at h; omega
    subst this
    exact ⟨rfl, by simp [partsF], fun h => by simp [partsF] at h, fun _ => ⟨rfl, rfl⟩⟩
  | n + 1, d, hd => by
    rw [partsF]
    by_cases hb : 512 < d.length
    · simp only [if_pos hb]
      obtain ⟨a1, a2, a3, a4⟩ := partsF_spec k n (d.drop 512) (by rw [List.length_drop]; omega)
      refine ⟨by rw [List.flatMap_cons, a1]; exact List.take_append_drop 512 d, by simp, by show (partsF k n (d.drop 512)).length + 1 ≤ d.length + 1; have : (d.drop 512).length = d.length - 512 := List.length_drop; omega, fun i h => ?_⟩
      cases i with
      | zero => exact ⟨rfl, by simp; omega, fun _ => by simp; omega, fun h => by have h : (d.take 512).length = 0 := h; rw [List.length_take] at h; omega⟩
      | succ i =>
        rw [List.length_cons] at h
        obtain ⟨b1, b2, b3, b4⟩ := a4 i (by omega)
        simp only [List.getElem_cons_succ, List.length_cons]
        refine ⟨b1, b2, fun h => b3 (by omega), fun h => ?_⟩
        have := (b4 h).2
        have := congrArg List.length this
        rw [List.length_drop, List.length_nil] at this
        omega
    · simp only [if_neg hb]
      refine ⟨by simp, by simp, by simp, fun i h => ?_⟩
      have : i = 0 := by simp at h; omega
      subst this
      exact ⟨rfl, by simp; omega, fun h => by simp at h, fun h => ⟨rfl, List.eq_nil_of_length_eq_zero h⟩⟩
theorem partsA_spec (k : Int) (d : List UInt8) : (partsA k d).flatMap (·.2) = d ∧ 1 ≤ (partsA k d).length ∧ (partsA k d).length ≤ d.length + 1 ∧
    ∀ i (h : i < (partsA k d).length), ((partsA k d)[i]).1 = k ∧ ((partsA k d)[i]).2.length ≤ 512 ∧ (i + 1 < (partsA k d).length → ((partsA k d)[i]).2.length = 512) ∧ (((partsA k d)[i]).2.length = 0 → i = 0 ∧ d = []) := partsF_spec k d.length d (Nat.le_refl _)
theorem FrameCarries_in (n : Int) (fill : UInt8) (hn : 0 ≤ n ∧ n ≤ 65535) : PC Try.prog true 7 [.int .u16 n, byteC fill] (.bool true) := by
  obtain ⟨m, hm⟩ : ∃ m : Nat, n % 2000 = m := ⟨(n % 2000).toNat, by omega⟩
  have hm2 : m < 2000 := by omega
  have hr := rep_bytes m
  have h0 : List.replicate m (0 : UInt8) = bytesJ fill.toNat 7 m 0 := by simp [bytesJ, bytesV]
  rw [h0] at hr
  refine acall_intro mixed Try.func7 rfl ca7 (by kernel_rfl) (by rw [Try.ntmps7]; simp) ?_
  repeat' (first | (with_reducible (first | apply w_seq | apply w_region | apply w_block | apply w_skip | apply w_exit | apply w_ret | apply w_then | apply w_then_exit | apply w_then_ret | apply w_in | apply w_in_here | apply w_in_ret | apply w_round | apply o_nil | apply d_nil)) | ((with_reducible (first | apply w_in_exit)); rfl) | ((with_reducible (first | apply w_draw)); rfl) | ((first | ((with_reducible (first | apply o_op | apply d_op | apply q_op)); rfl; rfl) | ((with_reducible (first | apply w_cond | apply w_end | apply w_return))) | ((with_reducible (first | apply o_guard | apply d_guard | apply q_guard)); rfl)); all_goals (first | ((with_reducible show Is _ _); ((try simp (disch := first | omega | (simp only [yA, yB, yC, yD, yE] <;> omega) | fail) [go_sem, yF, yG, yH, *, if_pos, if_neg, -List.map_take, -List.map_drop, -List.map_append, -List.map_reverse]); exact rfl)) | ((fail_if_success (with_reducible show Is _ _)); (first | ((with_reducible refine fun (hc : (_ : Bool) = _) => ?_); (try simp only [xA, xB, xC, xD, xE, xF, xG, xH, reduceCtorEq, xI, xJ, xK, xL, xM, xN, xO, xP, xQ, xR] at hc); (try (have hx : True := hc; clear hx hc)); (try (exfalso; omega)); (try (with_reducible (exact absurd hc (by assumption)))); (try (with_reducible (exact absurd (by assumption) hc)))) | ((fail_if_success (with_reducible show ACall _ _ _ _ _)); (try ((with_reducible show _ ∨ _); first | exact .inl rfl | (refine .inr ⟨rfl, ?_, ?_⟩; (focus (repeat (first | exact trivial | refine ⟨.inl rfl, ?_⟩ | refine ⟨.inr rfl, ?_⟩))); (first | exact trivial | exact rfl))))))))))
  refine w_loop (fun fr B1 => ∃ j : Nat, j ≤ m ∧ fr 5 = .view 0 0 m 1 true ∧ fr 1 = byteC fill ∧ fr 16 = .int .i64 m ∧ fr 17 = .int .i64 j ∧ B1 = [⟨(bytesJ fill.toNat 7 m j).map byteC, false⟩]) (fun fr _ => m - natOf (fr 17)) ?_ ?_
  · exact ⟨0, by omega, by (simp (disch := omega) [go_sem, *]) <;> (try omega), by (simp (disch := omega) [go_sem, *]) <;> (try omega), by (simp (disch := omega) [go_sem, *]) <;> (try omega), by (simp (disch := omega) [go_sem, *]) <;> (try omega), rfl⟩
  rintro fr B1 ⟨j, hj, h5, h1, h16, h17, rfl⟩
  have hjl := bytesJ_len (x := fill.toNat) (s := 7) hj
  by_cases hc : j < m
  · have hset := bytesJ_set (x := fill.toNat) (s := 7) hc
    have hfl := fill.toNat_lt
    have hv : byteC (UInt8.ofNat (fill.toNat + j * 7)) = .int .u8 (IntKind.u8.wrap ((fill.toNat : Int) + IntKind.u8.wrap ((j : Int) * 7))) := by
      rw [byte_wrap, IntKind.wrap_u8', IntKind.wrap_u8', IntKind.wrap_u8']; congr 1; omega
    repeat' (first | (with_reducible (first | apply w_seq | apply w_region | apply w_block | apply w_skip | apply w_exit | apply w_ret | apply w_then | apply w_then_exit | apply w_then_ret | apply w_in | apply w_in_here | apply w_in_ret | apply w_round | apply o_nil | apply d_nil)) | ((with_reducible (first | apply w_in_exit)); rfl) | ((with_reducible (first | apply w_draw)); rfl) | ((first | ((with_reducible (first | apply o_op | apply d_op | apply q_op)); rfl; rfl) | ((with_reducible (first | apply w_cond | apply w_end | apply w_return))) | ((with_reducible (first | apply o_guard | apply d_guard | apply q_guard)); rfl)); all_goals (first | ((with_reducible show Is _ _); ((try simp (disch := first | omega | (simp only [yA, yB, yC, yD, yE] <;> omega) | fail) [go_sem, yF, yG, yH, *, if_pos, if_neg, -List.map_take, -List.map_drop, -List.map_append, -List.map_reverse]); exact rfl)) | ((fail_if_success (with_reducible show Is _ _)); (first | ((with_reducible refine fun (hc : (_ : Bool) = _) => ?_); (try simp only [xA, xB, xC, xD, xE, xF, xG, xH, reduceCtorEq, xI, xJ, xK, xL, xM, xN, xO, xP, xQ, xR] at hc); (try (have hx : True := hc; clear hx hc)); (try (exfalso; omega)); (try (with_reducible (exact absurd hc (by assumption)))); (try (with_reducible (exact absurd (by assumption) hc)))) | ((fail_if_success (with_reducible show ACall _ _ _ _ _)); (try ((with_reducible show _ ∨ _); first | exact .inl rfl | (refine .inr ⟨rfl, ?_, ?_⟩; (focus (repeat (first | exact trivial | refine ⟨.inl rfl, ?_⟩ | refine ⟨.inr rfl, ?_⟩))); (first | exact trivial | exact rfl))))))))))
    refine ⟨⟨j + 1, by omega, by (simp (disch := omega) [go_sem, *]) <;> (try omega), by (simp (disch := omega) [go_sem, *]) <;> (try omega), by (simp (disch := omega) [go_sem, *]) <;> (try omega), by (simp (disch := omega) [go_sem, *]) <;> (try omega), ?_⟩, by (simp (disch := omega) [go_sem, *]) <;> (try omega)⟩
    rw [← hv, bytes_mid, ← hset, List.set_eq_take_append_cons_drop (l := bytesJ fill.toNat 7 m j), if_pos (by omega)]
  · obtain rfl : j = m := by omega
    rw [show bytesJ fill.toNat 7 j j = bytesV fill.toNat 7 j by simp [bytesJ]]
    have hdl := bytesV_len fill.toNat 7 j
    generalize bytesV fill.toNat 7 j = d at *
    obtain ⟨s1, s2, s3, s4⟩ := partsA_spec 3 d
    have hp : ∀ {B : List Box} {args : List CV}, Is (omap (fz true false B 6) args) (some [.int .i64 3, .lst j (d.map byteC) false]) → ACall Try.prog 21 args B fun c B' => c = rl frC (partsA 3 d) ∧ B' = B := fun {B args} h => parts_at (B := B) (args := args) (k := 3) (d := d) (by rw [lb, hdl]; exact h) (by omega)
    generalize partsA 3 d = L at *
    obtain ⟨Cs, hCs⟩ : ∃ Cs, L.flatMap frC = Cs := ⟨_, rfl⟩
    have kL := cells_all (L := L) (f := frC) (z := 2) (fun a _ => frC_len a)
    rw [hCs] at kL
    have hrl : rl frC L = .lst L.length Cs false := by rw [rl, hCs]
    rw [hrl] at hp
    clear hrl hCs hr h0
    replace s1 : Hid _ := s1
    replace s4 : Hid _ := s4
    repeat' (first | (with_reducible (first | apply w_seq | apply w_region | apply w_block | apply w_skip | apply w_exit | apply w_ret | apply w_then | apply w_then_exit | apply w_then_ret | apply w_in | apply w_in_here | apply w_in_ret | apply w_round | apply o_nil | apply d_nil)) | ((with_reducible (first | apply w_in_exit)); rfl) | ((with_reducible (first | apply w_draw)); rfl) | ((first | ((with_reducible (first | apply o_op | apply d_op | apply q_op)); rfl; rfl) | ((with_reducible (first | apply w_cond | apply w_end | apply w_return))) | ((with_reducible (first | apply o_guard | apply d_guard | apply q_guard)); rfl) | ((with_reducible (first | apply o_call_eq | apply d_call | apply q_call)); rfl)); all_goals (first | ((with_reducible show Is _ _); ((try simp (disch := first | omega | (simp only [yA, yB, yC, yD, yE] <;> omega) | fail) [go_sem, yF, yG, yH, *, if_pos, if_neg, -List.map_take, -List.map_drop, -List.map_append, -List.map_reverse]); exact rfl)) | ((fail_if_success (with_reducible show Is _ _)); (first | ((with_reducible refine fun (hc : (_ : Bool) = _) => ?_); (try simp only [xA, xB, xC, xD, xE, xF, xG, xH, reduceCtorEq, xI, xJ, xK, xL, xM, xN, xO, xP, xQ, xR] at hc); (try (have hx : True := hc; clear hx hc)); (try (exfalso; omega)); (try (with_reducible (exact absurd hc (by assumption)))); (try (with_reducible (exact absurd (by assumption) hc)))) | ((with_reducible show ACall _ _ _ _ _); (first | ((with_reducible (first | apply hp)) <;> (first | omega | assumption | exact rfl | ((simp (disch := first | omega | (simp only [yA, yB, yC, yD, yE] <;> omega) | fail) [go_sem, yF, yG, yH, *, -List.map_take, -List.map_drop, -List.map_append, -List.map_reverse]) <;> (first | done | omega | exact rfl)))))) | ((fail_if_success (with_reducible show ACall _ _ _ _ _)); (try ((with_reducible show _ ∨ _); first | exact .inl rfl | (refine .inr ⟨rfl, ?_, ?_⟩; (focus (repeat (first | exact trivial | refine ⟨.inl rfl, ?_⟩ | refine ⟨.inr rfl, ?_⟩))); (first | exact trivial | exact rfl))))))))))
    refine w_loop (fun fr B1 => ∃ (i : Nat) (ac : CV), i ≤ L.length ∧ fr 33 = .int .i64 i ∧ fr 32 = .int .i64 L.length ∧ fr 31 = .lst L.length Cs false ∧ fr 8 = .lst L.length Cs false ∧ fr 5 = .view 0 0 j 1 true ∧ fr 7 = ac ∧ B1[0]? = some ⟨d.map byteC, false⟩ ∧ (((L.take i).flatMap (·.2) = [] ∧ ac = .nilS) ∨ ∃ b m, (L.take i).flatMap (·.2) ≠ [] ∧ b ≠ 0 ∧ ac = .view b 0 ((L.take i).flatMap (·.2)).length 1 false ∧ B1[b]? = some ⟨((L.take i).flatMap (·.2)).map byteC, m⟩)) (fun fr _ => L.length - natOf (fr 33)) ?_ ?_
    · exact ⟨0, .nilS, by omega, by (simp (disch := omega) [go_sem, *]) <;> (try omega), by (simp (disch := omega) [go_sem, *]) <;> (try omega), by (simp (disch := omega) [go_sem, *]) <;> (try omega), by (simp (disch := omega) [go_sem, *]) <;> (try omega), by (simp (disch := omega) [go_sem, *]) <;> (try omega), by (simp (disch := omega) [go_sem, *]) <;> (try omega), rfl, .inl ⟨rfl, rfl⟩⟩
    clear h5 h1 h16 h17 hp hc
    rintro fr B1 ⟨i, ac, hi, h33, h32, h31, h8, h5, h7, hb0, hA⟩
    have s1 : L.flatMap (·.2) = d := s1
    have s4 : ∀ i (h : i < L.length), (L[i]).1 = 3 ∧ (L[i]).2.length ≤ 512 ∧ (i + 1 < L.length → (L[i]).2.length = 512) ∧ ((L[i]).2.length = 0 → i = 0 ∧ d = []) := s4
    by_cases hc : i < L.length
    · obtain ⟨a1, a2⟩ := kL i hc
      obtain ⟨b1, b2, b3, b4⟩ := s4 i hc
      have hnx : (L.take (i + 1)).flatMap (·.2) = (L.take i).flatMap (·.2) ++ (L[i]).2 := by rw [List.take_succ_eq_append_getElem hc, List.flatMap_append]; simp
      have htl : ((L.take i).flatMap (·.2)).length ≤ j := by
        have := congrArg List.length s1
        rw [← List.take_append_drop i L, List.flatMap_append, List.length_append] at this
        omega
      have htl2 : ((L.take (i + 1)).flatMap (·.2)).length ≤ j := by
        have := congrArg List.length s1
        rw [← List.take_append_drop (i + 1) L, List.flatMap_append, List.length_append] at this
        omega
      rw [hnx, List.length_append] at htl2
      have hx0 := bx_pack hb0
      clear s4 s1
      generalize L[i] = f at *
      obtain ⟨k, p⟩ := f
      dsimp only at b1 b2 b3 b4 hnx htl2
      subst b1
      generalize hAA : (L.take i).flatMap (fun (x : Int × List UInt8) => x.2) = A at *
      have hAA : Hid _ := hAA
      by_cases hp0 : p = []
      · subst hp0
        obtain ⟨h0, rfl⟩ := b4 rfl
        have hLl : L.length = 1 := by have := s3; simp at this; omega
        clear b4
        rw [List.append_nil] at hnx
        replace h0 : Hid _ := h0
        have hc1 : ¬ (i : Int) < 0 := by omega
        obtain ⟨rfl, rfl⟩ | ⟨b, m, hne, hb, rfl, hbb⟩ := hA
        · repeat' (first | (with_reducible (first | apply w_seq | apply w_region | apply w_block | apply w_skip | apply w_exit | apply w_ret | apply w_then | apply w_then_exit | apply w_then_ret | apply w_in | apply w_in_here | apply w_in_ret | apply w_round | apply o_nil | apply d_nil)) | ((with_reducible (first | apply w_in_exit)); rfl) | ((with_reducible (first | apply w_draw)); rfl) | ((first | ((with_reducible (first | apply o_op | apply d_op | apply q_op)); rfl; rfl) | ((with_reducible (first | apply w_cond | apply w_end | apply w_return))) | ((with_reducible (first | apply o_guard | apply d_guard | apply q_guard)); rfl)); all_goals (first | ((with_reducible show Is _ _); ((try simp (disch := first | omega | (simp only [yA, yB, yC, yD, yE] <;> omega) | fail) [go_sem, yF, yG, yH, *, frC, lb, if_pos, if_neg, -List.map_take, -List.map_drop, -List.map_append, -List.map_reverse]); exact rfl)) | ((fail_if_success (with_reducible show Is _ _)); (first | ((with_reducible refine fun (hc : (_ : Bool) = _) => ?_); (try simp only [xA, xB, xC, xD, xE, xF, xG, xH, reduceCtorEq, xI, xJ, xK, xL, xM, xN, xO, xP, xQ, xR] at hc); (try (have hx : True := hc; clear hx hc)); (try (exfalso; omega)); (try (with_reducible (exact absurd hc (by assumption)))); (try (with_reducible (exact absurd (by assumption) hc)))) | ((fail_if_success (with_reducible show ACall _ _ _ _ _)); (try ((with_reducible show _ ∨ _); first | exact .inl rfl | (refine .inr ⟨rfl, ?_, ?_⟩; (focus (repeat (first | exact trivial | refine ⟨.inl rfl, ?_⟩ | refine ⟨.inr rfl, ?_⟩))); (first | exact trivial | exact rfl))))))))))
          refine ⟨⟨i + 1, .nilS, by omega, by (simp (disch := omega) [go_sem, *]) <;> (try omega), by (simp (disch := omega) [go_sem, *]) <;> (try omega), by (simp (disch := omega) [go_sem, *]) <;> (try omega), by (simp (disch := omega) [go_sem, *]) <;> (try omega), by (simp (disch := omega) [go_sem, *]) <;> (try omega), by (simp (disch := omega) [go_sem, *]) <;> (try omega), by (simp (disch := omega) [go_sem, *]) <;> (try omega), ?_⟩, by (simp (disch := omega) [go_sem, *]) <;> (try omega)⟩
          exact .inl ⟨hnx, rfl⟩
        · exfalso
          have : j = 0 := by simpa using hdl.symm
          exact hne (List.eq_nil_of_length_eq_zero (by omega))
      · have hpl : p.length ≠ 0 := by simpa using hp0
        clear b4
        have key : i + 1 < L.length ∧ p.length = 512 ∨ ¬ (i + 1 < L.length) := by
          by_cases hil : i + 1 < L.length
          · exact .inl ⟨hil, b3 hil⟩
          · exact .inr hil
        clear b3
        rcases key with ⟨hil, b3⟩ | hil
        · obtain ⟨rfl, rfl⟩ | ⟨b, m, hne, hb, rfl, hbb⟩ := hA
          · rw [List.nil_append] at hnx
            repeat' (first | (with_reducible (first | apply w_seq | apply w_region | apply w_block | apply w_skip | apply w_exit | apply w_ret | apply w_then | apply w_then_exit | apply w_then_ret | apply w_in | apply w_in_here | apply w_in_ret | apply w_round | apply o_nil | apply d_nil)) | ((with_reducible (first | apply w_in_exit)); rfl) | ((with_reducible (first | apply w_draw)); rfl) | ((first | ((with_reducible (first | apply o_op | apply d_op | apply q_op)); rfl; rfl) | ((with_reducible (first | apply w_cond | apply w_end | apply w_return))) | ((with_reducible (first | apply o_guard | apply d_guard | apply q_guard)); rfl)); all_goals (first | ((with_reducible show Is _ _); ((try simp (disch := first | omega | (simp only [yA, yB, yC, yD, yE] <;> omega) | fail) [go_sem, yF, yG, yH, *, frC, lb, if_pos, if_neg, -List.map_take, -List.map_drop, -List.map_append, -List.map_reverse]); exact rfl)) | ((fail_if_success (with_reducible show Is _ _)); (first | ((with_reducible refine fun (hc : (_ : Bool) = _) => ?_); (try simp only [xA, xB, xC, xD, xE, xF, xG, xH, reduceCtorEq, xI, xJ, xK, xL, xM, xN, xO, xP, xQ, xR] at hc); (try (have hx : True := hc; clear hx hc)); (try (exfalso; omega)); (try (with_reducible (exact absurd hc (by assumption)))); (try (with_reducible (exact absurd (by assumption) hc)))) | ((fail_if_success (with_reducible show ACall _ _ _ _ _)); (try ((with_reducible show _ ∨ _); first | exact .inl rfl | (refine .inr ⟨rfl, ?_, ?_⟩; (focus (repeat (first | exact trivial | refine ⟨.inl rfl, ?_⟩ | refine ⟨.inr rfl, ?_⟩))); (first | exact trivial | exact rfl))))))))))
            refine ⟨⟨i + 1, .view (B1.length + 1) 0 p.length 1 false, by omega, by (simp (disch := omega) [go_sem, *]) <;> (try omega), by (simp (disch := omega) [go_sem, *]) <;> (try omega), by (simp (disch := omega) [go_sem, *]) <;> (try omega), by (simp (disch := omega) [go_sem, *]) <;> (try omega), by (simp (disch := omega) [go_sem, *]) <;> (try omega), by (simp (disch := omega) [go_sem, *]) <;> (try omega), by (simp (disch := omega) [go_sem, *]) <;> (try omega), ?_⟩, by (simp (disch := omega) [go_sem, *]) <;> (try omega)⟩
            exact .inr ⟨B1.length + 1, false, by rw [hnx]; simpa using hp0, by omega, by rw [hnx], by rw [hnx]; (simp (disch := omega) [go_sem, *]) <;> (try omega)⟩
          · have xb := bx_pack hbb
            have z0 : ∀ y X, (B1.set b y ++ X)[0]? = some ⟨d.map byteC, false⟩ := fun y X => by
              rw [List.getElem?_append_left (by rw [List.length_set]; exact (List.getElem?_eq_some_iff.1 hb0).1), List.getElem?_set_ne hb]; exact hb0
            repeat' (first | (with_reducible (first | apply w_seq | apply w_region | apply w_block | apply w_skip | apply w_exit | apply w_ret | apply w_then | apply w_then_exit | apply w_then_ret | apply w_in | apply w_in_here | apply w_in_ret | apply w_round | apply o_nil | apply d_nil)) | ((with_reducible (first | apply w_in_exit)); rfl) | ((with_reducible (first | apply w_draw)); rfl) | ((first | ((with_reducible (first | apply o_op | apply d_op | apply q_op)); rfl; rfl) | ((with_reducible (first | apply w_cond | apply w_end | apply w_return))) | ((with_reducible (first | apply o_guard | apply d_guard | apply q_guard)); rfl)); all_goals (first | ((with_reducible show Is _ _); ((try simp (disch := first | omega | (simp only [yA, yB, yC, yD, yE] <;> omega) | fail) [go_sem, yF, yG, yH, *, frC, lb, if_pos, if_neg, -List.map_take, -List.map_drop, -List.map_append, -List.map_reverse]); exact rfl)) | ((fail_if_success (with_reducible show Is _ _)); (first | ((with_reducible refine fun (hc : (_ : Bool) = _) => ?_); (try simp only [xA, xB, xC, xD, xE, xF, xG, xH, reduceCtorEq, xI, xJ, xK, xL, xM, xN, xO, xP, xQ, xR] at hc); (try (have hx : True := hc; clear hx hc)); (try (exfalso; omega)); (try (with_reducible (exact absurd hc (by assumption)))); (try (with_reducible (exact absurd (by assumption) hc)))) | ((fail_if_success (with_reducible show ACall _ _ _ _ _)); (try ((with_reducible show _ ∨ _); first | exact .inl rfl | (refine .inr ⟨rfl, ?_, ?_⟩; (focus (repeat (first | exact trivial | refine ⟨.inl rfl, ?_⟩ | refine ⟨.inr rfl, ?_⟩))); (first | exact trivial | exact rfl))))))))))
            refine ⟨⟨i + 1, .view b 0 (A.length + p.length) 1 false, by omega, by (simp (disch := omega) [go_sem, *]) <;> (try omega), by (simp (disch := omega) [go_sem, *]) <;> (try omega), by (simp (disch := omega) [go_sem, *]) <;> (try omega), by (simp (disch := omega) [go_sem, *]) <;> (try omega), by (simp (disch := omega) [go_sem, *]) <;> (try omega), by (simp (disch := omega) [go_sem, *]) <;> (try omega), by (simp (disch := omega) [go_sem, *]) <;> (try omega), ?_⟩, by (simp (disch := omega) [go_sem, *]) <;> (try omega)⟩
            refine .inr ⟨b, true, by rw [hnx]; simp [hp0], hb, by rw [hnx, List.length_append], by rw [hnx]; (simp (disch := omega) [go_sem, *]) <;> (try omega)⟩
        · obtain ⟨rfl, rfl⟩ | ⟨b, m, hne, hb, rfl, hbb⟩ := hA
          · rw [List.nil_append] at hnx
            repeat' (first | (with_reducible (first | apply w_seq | apply w_region | apply w_block | apply w_skip | apply w_exit | apply w_ret | apply w_then | apply w_then_exit | apply w_then_ret | apply w_in | apply w_in_here | apply w_in_ret | apply w_round | apply o_nil | apply d_nil)) | ((with_reducible (first | apply w_in_exit)); rfl) | ((with_reducible (first | apply w_draw)); rfl) | ((first | ((with_reducible (first | apply o_op | apply d_op | apply q_op)); rfl; rfl) | ((with_reducible (first | apply w_cond | apply w_end | apply w_return))) | ((with_reducible (first | apply o_guard | apply d_guard | apply q_guard)); rfl)); all_goals (first | ((with_reducible show Is _ _); ((try simp (disch := first | omega | (simp only [yA, yB, yC, yD, yE] <;> omega) | fail) [go_sem, yF, yG, yH, *, frC, lb, if_pos, if_neg, -List.map_take, -List.map_drop, -List.map_append, -List.map_reverse]); exact rfl)) | ((fail_if_success (with_reducible show Is _ _)); (first | ((with_reducible refine fun (hc : (_ : Bool) = _) => ?_); (try simp only [xA, xB, xC, xD, xE, xF, xG, xH, reduceCtorEq, xI, xJ, xK, xL, xM, xN, xO, xP, xQ, xR] at hc); (try (have hx : True := hc; clear hx hc)); (try (exfalso; omega)); (try (with_reducible (exact absurd hc (by assumption)))); (try (with_reducible (exact absurd (by assumption) hc)))) | ((fail_if_success (with_reducible show ACall _ _ _ _ _)); (try ((with_reducible show _ ∨ _); first | exact .inl rfl | (refine .inr ⟨rfl, ?_, ?_⟩; (focus (repeat (first | exact trivial | refine ⟨.inl rfl, ?_⟩ | refine ⟨.inr rfl, ?_⟩))); (first | exact trivial | exact rfl))))))))))
            refine ⟨⟨i + 1, .view (B1.length + 1) 0 p.length 1 false, by omega, by (simp (disch := omega) [go_sem, *]) <;> (try omega), by (simp (disch := omega) [go_sem, *]) <;> (try omega), by (simp (disch := omega) [go_sem, *]) <;> (try omega), by (simp (disch := omega) [go_sem, *]) <;> (try omega), by (simp (disch := omega) [go_sem, *]) <;> (try omega), by (simp (disch := omega) [go_sem, *]) <;> (try omega), by (simp (disch := omega) [go_sem, *]) <;> (try omega), ?_⟩, by (simp (disch := omega) [go_sem, *]) <;> (try omega)⟩
            exact .inr ⟨B1.length + 1, false, by rw [hnx]; simpa using hp0, by omega, by rw [hnx], by rw [hnx]; (simp (disch := omega) [go_sem, *]) <;> (try omega)⟩
          · have xb := bx_pack hbb
            have z0 : ∀ y X, (B1.set b y ++ X)[0]? = some ⟨d.map byteC, false⟩ := fun y X => by
              rw [List.getElem?_append_left (by rw [List.length_set]; exact (List.getElem?_eq_some_iff.1 hb0).1), List.getElem?_set_ne hb]; exact hb0
            repeat' (first | (with_reducible (first | apply w_seq | apply w_region | apply w_block | apply w_skip | apply w_exit | apply w_ret | apply w_then | apply w_then_exit | apply w_then_ret | apply w_in | apply w_in_here | apply w_in_ret | apply w_round | apply o_nil | apply d_nil)) | ((with_reducible (first | apply w_in_exit)); rfl) | ((with_reducible (first | apply w_draw)); rfl) | ((first | ((with_reducible (first | apply o_op | apply d_op | apply q_op)); rfl; rfl) | ((with_reducible (first | apply w_cond | apply w_end | apply w_return))) | ((with_reducible (first | apply o_guard | apply d_guard | apply q_guard)); rfl)); all_goals (first | ((with_reducible show Is _ _); ((try simp (disch := first | omega | (simp only [yA, yB, yC, yD, yE] <;> omega) | fail) [go_sem, yF, yG, yH, *, frC, lb, if_pos, if_neg, -List.map_take, -List.map_drop, -List.map_append, -List.map_reverse]); exact rfl)) | ((fail_if_success (with_reducible show Is _ _)); (first | ((with_reducible refine fun (hc : (_ : Bool) = _) => ?_); (try simp only [xA, xB, xC, xD, xE, xF, xG, xH, reduceCtorEq, xI, xJ, xK, xL, xM, xN, xO, xP, xQ, xR] at hc); (try (have hx : True := hc; clear hx hc)); (try (exfalso; omega)); (try (with_reducible (exact absurd hc (by assumption)))); (try (with_reducible (exact absurd (by assumption) hc)))) | ((fail_if_success (with_reducible show ACall _ _ _ _ _)); (try ((with_reducible show _ ∨ _); first | exact .inl rfl | (refine .inr ⟨rfl, ?_, ?_⟩; (focus (repeat (first | exact trivial | refine ⟨.inl rfl, ?_⟩ | refine ⟨.inr rfl, ?_⟩))); (first | exact trivial | exact rfl))))))))))
            refine ⟨⟨i + 1, .view b 0 (A.length + p.length) 1 false, by omega, by (simp (disch := omega) [go_sem, *]) <;> (try omega), by (simp (disch := omega) [go_sem, *]) <;> (try omega), by (simp (disch := omega) [go_sem, *]) <;> (try omega), by (simp (disch := omega) [go_sem, *]) <;> (try omega), by (simp (disch := omega) [go_sem, *]) <;> (try omega), by (simp (disch := omega) [go_sem, *]) <;> (try omega), by (simp (disch := omega) [go_sem, *]) <;> (try omega), ?_⟩, by (simp (disch := omega) [go_sem, *]) <;> (try omega)⟩
            refine .inr ⟨b, true, by rw [hnx]; simp [hp0], hb, by rw [hnx, List.length_append], by rw [hnx]; (simp (disch := omega) [go_sem, *]) <;> (try omega)⟩
    · obtain rfl : i = L.length := by omega
      rw [List.take_length, s1] at hA
      clear s4 s1 kL
      have xd := bx_pack hb0
      obtain ⟨rfl, rfl⟩ | ⟨b, m, hne, hb, rfl, hbb⟩ := hA
      · repeat' (first | (with_reducible (first | apply w_seq | apply w_region | apply w_block | apply w_skip | apply w_exit | apply w_ret | apply w_then | apply w_then_exit | apply w_then_ret | apply w_in | apply w_in_here | apply w_in_ret | apply w_round | apply o_nil | apply d_nil)) | ((with_reducible (first | apply w_in_exit)); rfl) | ((with_reducible (first | apply w_draw)); rfl) | ((first | ((with_reducible (first | apply o_op | apply d_op | apply q_op)); rfl; rfl) | ((with_reducible (first | apply w_cond | apply w_end | apply w_return))) | ((with_reducible (first | apply o_guard | apply d_guard | apply q_guard)); rfl) | ((with_reducible (first | apply o_call_eq | apply d_call | apply q_call)); rfl)); all_goals (first | ((with_reducible show Is _ _); ((try simp (disch := first | omega | (simp only [yA, yB, yC, yD, yE] <;> omega) | fail) [go_sem, yF, yG, yH, *, frC, lb, if_pos, if_neg, -List.map_take, -List.map_drop, -List.map_append, -List.map_reverse]); exact rfl)) | ((fail_if_success (with_reducible show Is _ _)); (first | ((with_reducible refine fun (hc : (_ : Bool) = _) => ?_); (try simp only [xA, xB, xC, xD, xE, xF, xG, xH, reduceCtorEq, xI, xJ, xK, xL, xM, xN, xO, xP, xQ, xR] at hc); (try (have hx : True := hc; clear hx hc)); (try (exfalso; omega)); (try (with_reducible (exact absurd hc (by assumption)))); (try (with_reducible (exact absurd (by assumption) hc)))) | ((with_reducible show ACall _ _ _ _ _); (first | ((with_reducible (first | apply begun_at)) <;> (first | omega | assumption | exact rfl | ((simp (disch := first | omega | (simp only [yA, yB, yC, yD, yE] <;> omega) | fail) [go_sem, yF, yG, yH, *, frC, lb, -List.map_take, -List.map_drop, -List.map_append, -List.map_reverse]) <;> (first | done | omega | exact rfl)))))) | ((fail_if_success (with_reducible show ACall _ _ _ _ _)); (try ((with_reducible show _ ∨ _); first | exact .inl rfl | (refine .inr ⟨rfl, ?_, ?_⟩; (focus (repeat (first | exact trivial | refine ⟨.inl rfl, ?_⟩ | refine ⟨.inr rfl, ?_⟩))); (first | exact trivial | exact rfl))))))))))
        rfl
      · have xb := bx_pack hbb
        repeat' (first | (with_reducible (first | apply w_seq | apply w_region | apply w_block | apply w_skip | apply w_exit | apply w_ret | apply w_then | apply w_then_exit | apply w_then_ret | apply w_in | apply w_in_here | apply w_in_ret | apply w_round | apply o_nil | apply d_nil)) | ((with_reducible (first | apply w_in_exit)); rfl) | ((with_reducible (first | apply w_draw)); rfl) | ((first | ((with_reducible (first | apply o_op | apply d_op | apply q_op)); rfl; rfl) | ((with_reducible (first | apply w_cond | apply w_end | apply w_return))) | ((with_reducible (first | apply o_guard | apply d_guard | apply q_guard)); rfl) | ((with_reducible (first | apply o_call_eq | apply d_call | apply q_call)); rfl)); all_goals (first | ((with_reducible show Is _ _); ((try simp (disch := first | omega | (simp only [yA, yB, yC, yD, yE] <;> omega) | fail) [go_sem, yF, yG, yH, *, frC, lb, if_pos, if_neg, -List.map_take, -List.map_drop, -List.map_append, -List.map_reverse]); exact rfl)) | ((fail_if_success (with_reducible show Is _ _)); (first | ((with_reducible refine fun (hc : (_ : Bool) = _) => ?_); (try simp only [xA, xB, xC, xD, xE, xF, xG, xH, reduceCtorEq, xI, xJ, xK, xL, xM, xN, xO, xP, xQ, xR] at hc); (try (have hx : True := hc; clear hx hc)); (try (exfalso; omega)); (try (with_reducible (exact absurd hc (by assumption)))); (try (with_reducible (exact absurd (by assumption) hc)))) | ((with_reducible show ACall _ _ _ _ _); (first | ((with_reducible (first | apply begun_at)) <;> (first | omega | assumption | exact rfl | ((simp (disch := first | omega | (simp only [yA, yB, yC, yD, yE] <;> omega) | fail) [go_sem, yF, yG, yH, *, frC, lb, -List.map_take, -List.map_drop, -List.map_append, -List.map_reverse]) <;> (first | done | omega | exact rfl)))))) | ((fail_if_success (with_reducible show ACall _ _ _ _ _)); (try ((with_reducible show _ ∨ _); first | exact .inl rfl | (refine .inr ⟨rfl, ?_, ?_⟩; (focus (repeat (first | exact trivial | refine ⟨.inl rfl, ?_⟩ | refine ⟨.inr rfl, ?_⟩))); (first | exact trivial | exact rfl))))))))))
        rfl
end Go.Proofs.Ytjlfblcoghiijaa
