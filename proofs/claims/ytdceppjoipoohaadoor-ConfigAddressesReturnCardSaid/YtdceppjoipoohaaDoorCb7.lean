/- Lemmas and definitions of this claim (own texts, joined by a program; what the claim does not use is left out). -/
import Derived.Test.YtdceppjoipoohaaDoorCb6
section
namespace Go.Proofs.YtdceppjoipoohaaDoor
open Go Go.Sy
set_option linter.all false
set_option maxRecDepth 100000
set_option maxHeartbeats 4000000
open Go.RowKit (Below)
theorem Below.grow' {w : World} (os : Array Obj) : Below w.heap.size w (Go.Sort.grow w os) := ⟨rfl, rfl, rfl, by simp [Go.Sort.grow], fun k hk => by simp [Go.Sort.grow, Array.getElem?_append, hk]⟩
theorem row_whole {w : World} {g : Nat} {vs : List Value} (h0 : vs ≠ []) (h : ∀ j : Nat, w.cell? ⟨g, j, none⟩ = vs[j]?) : ∃ cs ty fz, w.heap[g]? = some (.cells cs ty fz) ∧ cs.toList = vs := by
  have hx : ∀ j : Nat, w.cell? ⟨g, j, none⟩ = match w.heap[g]? with | some (.cells cs _ _) => cs[j]? | _ => none := fun j => by
    unfold World.cell?
    cases w.heap[g]? with
    | none => rfl
    | some o => cases o <;> rfl
  cases hg : w.heap[g]? with
  | none =>
    have := h 0
    rw [hx, hg] at this
    cases vs with
    | nil => exact absurd rfl h0
    | cons => cases this
  | some o =>
    cases o with
    | cells cs ty fz =>
      refine ⟨cs, ty, fz, rfl, List.ext_getElem? fun j => ?_⟩
      have := h j
      rw [hx, hg] at this
      rw [Array.getElem?_toList]
      exact this
    | _ =>
      have := h 0
      rw [hx, hg] at this
      cases vs with
      | nil => exact absurd rfl h0
      | cons => cases this
theorem tab_is {I : Nat → Nat → Prop} {w : World} (h : TabsOk I w) : Go.Lib.TabIs Tryd.prog w "internal/strconv.uint64pow10" .u64 Go.Lib.pow10Tab := by
  obtain ⟨cs, ty, fz, h1, h2⟩ := row_whole (g := 1) (vs := Go.Lib.pow10Tab.map fun z => Value.int .u64 z) (by simp [Go.Lib.pow10Tab]) fun j => by
    rw [(h.1 1 .u64 _ rfl j).1, List.getElem?_map]; rfl
  unfold Go.Lib.TabIs World.var?
  have hn : Tryd.prog.globalNamed "internal/strconv.uint64pow10" = some 1 := by kernel_rfl
  rw [hn]
  simp only [Option.bind_some, h1]
  rw [← h2]
theorem max_is {I : Nat → Nat → Prop} {w : World} (h : TabsOk I w) : ∃ m, w.cell? ⟨0, 0, none⟩ = some (.int .i64 m) := (h.2 0 (by simp [tabInts])).2
theorem itoa_at {B : List Box} {n : Int} (h : -9223372036854775808 ≤ n ∧ n ≤ 9223372036854775807) : ACall Tryd.prog 43 [.int .i64 n] B fun c B' => c = .str (Go.Lib.itoa n) ∧ B' = B :=
  acall_of_calls (Q := fun c => c = .str (Go.Lib.itoa n)) (by kernel_rfl) fun I μ w vs ht hI hv => by
    obtain ⟨ws, rfl, hv2⟩ := R.int_cons hv
    obtain rfl := R.none hv2
    refine (Tryd.strconv_Itoa n h.1 h.2 w (tab_is ht)).mono fun e w' ⟨he, k, os, hw⟩ => ?_
    subst hw
    exact ⟨_, _, he, rfl, (Below.drewN' k).trans (by have := Below.grow' (w := w.drewN k) os; exact this), .str _ (.nil _)⟩
theorem lastIndex_at {B : List Box} {s t : List UInt8} (h : s.length < 4611686018427387904) : ACall Tryd.prog 49 [.str s, .str t] B fun c B' => c = .int .i64 (Go.Lib.lastIndex s t) ∧ B' = B :=
  acall_of_calls (Q := fun c => c = .int .i64 (Go.Lib.lastIndex s t)) (by kernel_rfl) fun I μ w vs ht hI hv => by
    obtain ⟨ws, rfl, hv2⟩ := R.str_cons hv
    obtain ⟨ws, rfl, hv3⟩ := R.str_cons hv2
    obtain rfl := R.none hv3
    refine (Tryd.strings_LastIndex ⟨s.toArray⟩ ⟨t.toArray⟩ h w).mono fun e w' ⟨he, hw⟩ => ?_
    subst hw
    exact ⟨_, _, he, by simp, Below.same, .int _ _ (.nil _)⟩
theorem hasPrefix_at {B : List Box} {s t : List UInt8} : ACall Tryd.prog 50 [.str s, .str t] B fun c B' => c = .bool (Go.Lib.hasPrefix s t) ∧ B' = B :=
  acall_of_calls (Q := fun c => c = .bool (Go.Lib.hasPrefix s t)) (by kernel_rfl) fun I μ w vs ht hI hv => by
    obtain ⟨ws, rfl, hv2⟩ := R.str_cons hv
    obtain ⟨ws, rfl, hv3⟩ := R.str_cons hv2
    obtain rfl := R.none hv3
    refine (Tryd.strings_HasPrefix ⟨s.toArray⟩ ⟨t.toArray⟩ w).mono fun e w' ⟨he, hw⟩ => ?_
    subst hw
    exact ⟨_, _, he, by simp, Below.same, .bool _ (.nil _)⟩
theorem hasSuffix_at {B : List Box} {s t : List UInt8} (h : s.length < 4611686018427387904) : ACall Tryd.prog 51 [.str s, .str t] B fun c B' => c = .bool (Go.Lib.hasSuffix s t) ∧ B' = B :=
  acall_of_calls (Q := fun c => c = .bool (Go.Lib.hasSuffix s t)) (by kernel_rfl) fun I μ w vs ht hI hv => by
    obtain ⟨ws, rfl, hv2⟩ := R.str_cons hv
    obtain ⟨ws, rfl, hv3⟩ := R.str_cons hv2
    obtain rfl := R.none hv3
    refine (Tryd.strings_HasSuffix ⟨s.toArray⟩ ⟨t.toArray⟩ w (by show s.length ≤ _; omega)).mono fun e w' ⟨he, hw⟩ => ?_
    subst hw
    exact ⟨_, _, he, by simp, Below.same, .bool _ (.nil _)⟩
theorem cutS_at {B : List Box} {s t : List UInt8} (h : s.length < 4294967281) : ACall Tryd.prog 52 [.str s, .str t] B fun c B' => c = .tup [.str (Go.Lib.cut s t).1, .str (Go.Lib.cut s t).2.1, .bool (Go.Lib.cut s t).2.2] ∧ B' = B :=
  acall_of_calls (Q := fun c => c = .tup [.str (Go.Lib.cut s t).1, .str (Go.Lib.cut s t).2.1, .bool (Go.Lib.cut s t).2.2]) (by kernel_rfl) fun I μ w vs ht hI hv => by
    obtain ⟨ws, rfl, hv2⟩ := R.str_cons hv
    obtain ⟨ws, rfl, hv3⟩ := R.str_cons hv2
    obtain rfl := R.none hv3
    obtain ⟨m, hm⟩ := max_is ht
    refine (Tryd.strings_Cut ⟨s.toArray⟩ ⟨t.toArray⟩ m w h hm).mono fun e w' ⟨he, k, hw⟩ => ?_
    subst hw
    exact ⟨_, _, he, rfl, Below.drewN' k, .tup (.str _ (.str _ (.bool _ (.nil _)))) (.nil _)⟩
def splitL (b : UInt8) : List UInt8 → List (List UInt8)
  | [] => [[]]
  | c :: s => if c = b then [] :: splitL b s else match splitL b s with
    | [] => [[c]]
    | x :: xs => (c :: x) :: xs
theorem splitL_ne (b : UInt8) : ∀ s, splitL b s ≠ []
  | [] => by simp [splitL]
  | c :: s => by
    rw [splitL]
    split
    · simp
    · split <;> simp
theorem index_one (b c : UInt8) (s : List UInt8) : Go.Lib.index (c :: s) [b] = if c = b then 0 else if Go.Lib.index s [b] = -1 then -1 else Go.Lib.index s [b] + 1 := by
  rw [Go.Lib.index]
  by_cases h : c = b
  · subst h; simp [List.isPrefixOf]
  · have : (b == c) = false := by simpa using Ne.symm h
    simp [List.isPrefixOf, this, h]
theorem splitL_miss (b : UInt8) : ∀ s : List UInt8, Go.Lib.index s [b] = -1 → splitL b s = [s]
  | [], _ => rfl
  | c :: s, h => by
    rw [index_one] at h
    have hg := Go.Lib.index_ge s [b]
    split at h
    · omega
    · rename_i hc
      split at h
      · rename_i h1
        rw [splitL, if_neg hc, splitL_miss b s h1]
      · omega
theorem splitL_hit (b : UInt8) : ∀ (s : List UInt8) (i : Nat), Go.Lib.index s [b] = i → splitL b s = s.take i :: splitL b (s.drop (i + 1))
  | [], i, h => by simp [Go.Lib.index] at h
  | c :: s, i, h => by
    rw [index_one] at h
    have hg := Go.Lib.index_ge s [b]
    split at h
    · rename_i hc
      have : i = 0 := by omega
      subst this
      rw [splitL, if_pos hc]; simp
    · rename_i hc
      split at h
      · omega
      · obtain ⟨k, rfl⟩ : ∃ k, i = k + 1 := ⟨i - 1, by omega⟩
        rw [splitL, if_neg hc, splitL_hit b s k (by omega)]
        simp
theorem splitK_one (b : UInt8) : ∀ (k : Nat) (s : List UInt8), s.count b = k → Go.Lib.splitK [b] 0 k s = splitL b s := by
  intro k
  induction k with
  | zero =>
    intro s hs
    have : Go.Lib.index s [b] = -1 := by
      induction s with
      | nil => simp [Go.Lib.index]
      | cons c s ih =>
        rw [List.count_cons] at hs
        by_cases hc : c = b
        · subst hc; simp at hs
        · rw [index_one, if_neg hc, if_pos (ih (by omega))]
    rw [splitL_miss b s this]; rfl
  | succ k ih =>
    intro s hs
    rw [Go.Lib.splitK]
    have hg := Go.Lib.index_ge s [b]
    by_cases hm : Go.Lib.index s [b] = -1
    · exfalso
      have key : ∀ s : List UInt8, Go.Lib.index s [b] = -1 → s.count b = 0 := by
        intro s
        induction s with
        | nil => simp
        | cons c s ih =>
          intro h
          rw [index_one] at h
          have hg := Go.Lib.index_ge s [b]
          split at h
          · omega
          · rename_i hc
            split at h
            · rename_i h1
              rw [List.count_cons, ih h1]; simp [hc]
            · omega
      rw [key s hm] at hs
      omega
    · obtain ⟨i, hi⟩ : ∃ i : Nat, Go.Lib.index s [b] = i := ⟨(Go.Lib.index s [b]).toNat, by omega⟩
      rw [splitL_hit b s i hi, hi, if_neg (by simp)]
      have hcount : ∀ (s : List UInt8) (i : Nat), Go.Lib.index s [b] = i → s.count b = (s.drop (i + 1)).count b + 1 := by
        intro s
        induction s with
        | nil => intro i h; simp [Go.Lib.index] at h
        | cons c s ih =>
          intro i h
          rw [index_one] at h
          have hg := Go.Lib.index_ge s [b]
          split at h
          · rename_i hc
            have : i = 0 := by omega
            subst this hc
            simp
          · rename_i hc
            split at h
            · omega
            · obtain ⟨k, rfl⟩ : ∃ k, i = k + 1 := ⟨i - 1, by omega⟩
              rw [List.count_cons, ih k (by omega)]; simp [hc]
      have := hcount s i hi
      rw [← ih (s.drop (i + 1)) (by omega)]
      simp
theorem strs_rel {I : Nat → Nat → Prop} {μ : List (List Go.Sy.Place)} {w : World} : ∀ L : List (List UInt8), R I μ w true (L.map CV.str) (L.map fun l => Value.string ⟨l.toArray⟩)
  | [] => .nil _
  | l :: L => .str l (strs_rel L)
theorem split_at {B : List Box} {s : List UInt8} {b : UInt8} (h : s.length < 4294967281) : ACall Tryd.prog 46 [.str s, .str [b]] B fun c B' => c = .lst (splitL b s).length ((splitL b s).map .str) true ∧ B' = B :=
  acall_of_calls (Q := fun c => c = .lst (splitL b s).length ((splitL b s).map .str) true) (by kernel_rfl) fun I μ w vs ht hI hv => by
    obtain ⟨ws, rfl, hv2⟩ := R.str_cons hv
    obtain ⟨ws, rfl, hv3⟩ := R.str_cons hv2
    obtain rfl := R.none hv3
    obtain ⟨m, hm⟩ := max_is ht
    have hc : Go.Lib.countB ⟨s.toArray⟩ ⟨[b].toArray⟩ = s.count b := by
      have : Go.Lib.countB ⟨s.toArray⟩ ⟨[b].toArray⟩ = Go.Lib.count s [b] := rfl
      rw [this, Go.Lib.count_one]
    have hk := Go.Lib.splitB_data ⟨[b].toArray⟩ 0 (s.count b) ⟨s.toArray⟩
    have e1 : (⟨s.toArray⟩ : ByteArray).data.toList = s := by simp
    have e2 : (⟨[b].toArray⟩ : ByteArray).data.toList = [b] := by simp
    rw [e1, e2, splitK_one b _ s rfl] at hk
    have hl : s.count b + 1 = (splitL b s).length := by
      rw [← hk, List.length_map, Go.Lib.splitB_all ⟨[b].toArray⟩ (Nat.le_refl 1) 0 (s.count b) ⟨s.toArray⟩ hc]
    have hx : (Go.Lib.splitB ⟨[b].toArray⟩ 0 (s.count b) ⟨s.toArray⟩).map Value.string = (splitL b s).map fun l => Value.string ⟨l.toArray⟩ := by
      rw [← hk, List.map_map]
      congr 1
    refine (Tryd.strings_Split ⟨s.toArray⟩ ⟨[b].toArray⟩ m w h hm (Nat.le_refl 1)).mono fun e w' ⟨he, hw⟩ => ?_
    rw [hc, hl] at he
    rw [hc, hx] at hw
    have hp : w'.heap = w.heap.push (.cells ((splitL b s).map fun l => Value.string ⟨l.toArray⟩).toArray 9) := by rw [hw]; rfl
    have hbel : Below w.heap.size w w' := Below.of_heap (Nat.le_refl _) hp (by rw [hw]; rfl) (by rw [hw]; rfl) (by rw [hw]; rfl)
    refine ⟨_, _, he, rfl, hbel, ?_⟩
    have hcell : ∀ (j : Nat) (v : Value), ((splitL b s).map fun l => Value.string ⟨l.toArray⟩)[j]? = some v → w'.cell? ⟨w.heap.size, 0 + j, none⟩ = some v := fun j v hj => by
      simp only [World.cell?, push_new hp, Nat.zero_add]
      simp
      simpa using hj
    exact .lst _ true w.heap.size 0 _ (strs_rel _) (fun j v hj => ⟨hcell j v hj, .inr ⟨Nat.le_refl _, by rw [hp]; simp⟩⟩) (Nat.le_refl _) (fun _ => rfl) (.nil _)
theorem str_vals : ∀ (L : List (List UInt8)) {I : Nat → Nat → Prop} {μ : List (List Go.Sy.Place)} {w : World} {vs : List Value}, R I μ w true (L.map CV.str) vs → vs = L.map fun l => Value.string ⟨l.toArray⟩
  | [], _, _, _, _, h => R.none h
  | l :: L, _, _, _, _, h => by
    obtain ⟨ws, rfl, h2⟩ := R.str_cons h
    rw [str_vals L h2]; rfl
theorem join_in {L : List (List UInt8)} {t : List UInt8} {f : Bool} (hL : L.length < 1099511627776) (hl : (Go.Lib.join L t).length < 1099511627776) : ACall Tryd.prog 42 [.lst L.length (L.map .str) f, .str t] [] fun c B' => c = .str (Go.Lib.join L t) ∧ B' = [] :=
  acall_of_calls (Q := fun c => c = .str (Go.Lib.join L t)) (by kernel_rfl) fun I μ w vs ht hI hv => by
    obtain ⟨v0, ws, rfl⟩ : ∃ v0 ws, vs = v0 :: ws := by
      cases vs with
      | nil => have := hv.len; simp at this
      | cons a b => exact ⟨a, b, rfl⟩
    obtain ⟨hv1, _, hv2⟩ := hv.head
    obtain ⟨ws, rfl, hv3⟩ := R.str_cons hv2
    obtain rfl := R.none hv3
    have none_ : L = [] → ∀ A cap, v0 = .slice A 0 cap → Calls Tryd.prog 42 [v0, .string ⟨t.toArray⟩].toArray w fun e w' => ∃ c v, e = .returned v ∧ c = .str (Go.Lib.join L t) ∧ Below w.heap.size w w' ∧ V (fun b j => I b j ∨ (w.heap.size ≤ b ∧ b < w'.heap.size)) μ w' c v := fun hLL A cap hv0 => by
      subst hLL hv0
      refine (Tryd.strings_Join_none A cap ⟨t.toArray⟩ w).mono fun e w' ⟨he, hw⟩ => ?_
      subst hw
      exact ⟨_, _, he, by simp [Go.Lib.join, List.intercalate], Below.same, .str _ (.nil _)⟩
    rcases hv1.lst_inv with ⟨b, o, cap, us, h1, h, hm, hn, hf⟩ | ⟨A, h1, h2, _⟩
    · have hbs := str_vals L h
      subst hbs
      have hj : (L.map fun l => (⟨l.toArray⟩ : ByteArray)).map (·.data.toList) = L := by rw [List.map_map]; simp [Function.comp_def]
      by_cases hLL : L = []
      · exact none_ hLL _ _ (by rw [h1, hLL]; rfl)
      · subst h1
        have hbk : b < w.heap.size := by
          cases hL2 : L with
          | nil => exact absurd hL2 hLL
          | cons x xs => exact hI _ _ (hm 0 (Value.string ⟨x.toArray⟩) (by rw [hL2]; rfl)).2
        have := Tryd.strings_Join b o cap (L.map fun l => (⟨l.toArray⟩ : ByteArray)) ⟨t.toArray⟩ w (fun j y hy => by
          rw [List.getElem?_map, Option.map_eq_some_iff] at hy
          obtain ⟨l, hl, rfl⟩ := hy
          exact (hm j _ (by rw [List.getElem?_map, hl]; rfl)).1) hbk (by rw [List.length_map]; omega) (by rw [List.length_map]; exact hn) (by rw [hj]; show (Go.Lib.join L t).length ≤ _; omega)
        rw [hj, List.length_map] at this
        refine this.mono fun e w' ⟨he, hw⟩ => ?_
        exact ⟨_, _, he, rfl, hw, .str _ (.nil _)⟩
    · have hLL : L = [] := List.eq_nil_of_length_eq_zero (by first | exact h2 | omega)
      exact none_ hLL _ _ (by first | exact h1 | (rw [h1, hLL]; rfl))
theorem join_at {B : List Box} {args : List CV} {n : Nat} {L : List (List UInt8)} {t : List UInt8} {f : Bool} (hz : Is (omap (Go.Sy.fz true false B 6) args) (some [.lst n (L.map .str) f, .str t])) (hn : n = L.length) (hL : L.length < 1099511627776) (hl : (Go.Lib.join L t).length < 1099511627776) :
    ACall Tryd.prog 42 args B fun c B' => c = .str (Go.Lib.join L t) ∧ B' = B := by
  subst hn
  exact acall_fresh hz ((join_in hL hl).mono fun c B' ⟨h, _⟩ => by rw [h]; rfl)
end Go.Proofs.YtdceppjoipoohaaDoor
end
section
namespace Go.Proofs.YtdceppjoipoohaaDoor
open Go Go.Sy
set_option linter.all false
set_option maxRecDepth 100000
set_option maxHeartbeats 4000000
def hexD (d : Nat) : UInt8 := if d < 10 then UInt8.ofNat (48 + d) else UInt8.ofNat (87 + d)
def hexT (u : Nat) : List UInt8 :=
  if h : u < 16 then [hexD u] else hexT (u / 16) ++ [hexD (u % 16)]
termination_by u
decreasing_by omega
theorem tz_at {B : List Box} : ACall Tryd.prog 109 [.int .u64 16] B fun c B' => c = .int .i64 4 ∧ B' = B := by
  have h64 : ∀ {B : List Box} {args : List CV}, Is args [.int .u64 16] → ACall Tryd.prog 119 args B fun c B' => c = .int .i64 4 ∧ B' = B := fun {B args} h => by
    have h : _ = _ := h
    subst h
    refine acall_intro mixed Tryd.func119 rfl ca119 (by kernel_rfl) (by rw [Tryd.ntmps119]; simp) ?_
    have e1 : bits .and .u64 16 (IntKind.u64.wrap (-16)) = 16 := by decide
    have ht : tab 3 = some (.u8, [0, 1, 56, 2, 57, 49, 28, 3, 61, 58, 42, 50, 38, 29, 17, 4, 62, 47, 59, 36, 45, 43, 51, 22, 53, 39, 33, 30, 24, 18, 12, 5, 63, 55, 48, 27, 60, 41, 37, 16, 46, 35, 44, 21, 52, 32, 23, 11, 54, 26, 40, 15, 34, 20, 31, 10, 25, 14, 19, 9, 13, 8, 7, 6]) := rfl
    repeat' (first | (with_reducible (first | apply w_seq | apply w_region | apply w_block | apply w_skip | apply w_exit | apply w_ret | apply w_then | apply w_then_exit | apply w_then_ret | apply w_in | apply w_in_here | apply w_in_ret | apply w_round | apply o_nil | apply d_nil)) | ((with_reducible (first | apply w_in_exit)); rfl) | ((with_reducible (first | apply w_draw)); rfl) | ((first | ((with_reducible (first | apply o_op | apply d_op | apply q_op)); rfl; rfl) | ((with_reducible (first | apply w_cond | apply w_end | apply w_return))) | ((with_reducible (first | apply o_guard | apply d_guard | apply q_guard)); rfl)); all_goals (first | ((with_reducible show Is _ _); ((try simp (disch := first | omega | (simp only [yA, yB, yC, yD, yE] <;> omega) | fail) [go_sem, yF, yG, yH, *, if_pos, if_neg, -List.map_take, -List.map_drop, -List.map_append, -List.map_reverse]); exact rfl)) | ((fail_if_success (with_reducible show Is _ _)); (first | ((with_reducible refine fun (hc : (_ : Bool) = _) => ?_); (try simp only [xA, xB, xC, xD, xE, xF, xG, xH, reduceCtorEq, xI, xJ, xK, xL, xM, xN, xO, xP, xQ, xR] at hc); (try (have hx : True := hc; clear hx hc)); (try (exfalso; omega)); (try (with_reducible (exact absurd hc (by assumption)))); (try (with_reducible (exact absurd (by assumption) hc)))) | ((fail_if_success (with_reducible show ACall _ _ _ _ _)); (try ((with_reducible show _ ∨ _); first | exact .inl rfl | (refine .inr ⟨rfl, ?_, ?_⟩; (focus (repeat (first | exact trivial | refine ⟨.inl rfl, ?_⟩ | refine ⟨.inr rfl, ?_⟩))); (first | exact trivial | exact rfl))))))))))
    exact ⟨rfl, rfl⟩
  refine acall_intro mixed Tryd.func109 rfl ca109 (by kernel_rfl) (by rw [Tryd.ntmps109]; simp) ?_
  repeat' (first | (with_reducible (first | apply w_seq | apply w_region | apply w_block | apply w_skip | apply w_exit | apply w_ret | apply w_then | apply w_then_exit | apply w_then_ret | apply w_in | apply w_in_here | apply w_in_ret | apply w_round | apply o_nil | apply d_nil)) | ((with_reducible (first | apply w_in_exit)); rfl) | ((with_reducible (first | apply w_draw)); rfl) | ((first | ((with_reducible (first | apply o_op | apply d_op | apply q_op)); rfl; rfl) | ((with_reducible (first | apply w_cond | apply w_end | apply w_return))) | ((with_reducible (first | apply o_guard | apply d_guard | apply q_guard)); rfl) | ((with_reducible (first | apply o_call_eq | apply d_call | apply q_call)); rfl)); all_goals (first | ((with_reducible show Is _ _); ((try simp (disch := first | omega | (simp only [yA, yB, yC, yD, yE] <;> omega) | fail) [go_sem, yF, yG, yH, *, if_pos, if_neg, -List.map_take, -List.map_drop, -List.map_append, -List.map_reverse]); exact rfl)) | ((fail_if_success (with_reducible show Is _ _)); (first | ((with_reducible refine fun (hc : (_ : Bool) = _) => ?_); (try simp only [xA, xB, xC, xD, xE, xF, xG, xH, reduceCtorEq, xI, xJ, xK, xL, xM, xN, xO, xP, xQ, xR] at hc); (try (have hx : True := hc; clear hx hc)); (try (exfalso; omega)); (try (with_reducible (exact absurd hc (by assumption)))); (try (with_reducible (exact absurd (by assumption) hc)))) | ((with_reducible show ACall _ _ _ _ _); (first | ((with_reducible (first | apply h64)) <;> (first | omega | assumption | exact rfl | ((simp (disch := first | omega | (simp only [yA, yB, yC, yD, yE] <;> omega) | fail) [go_sem, yF, yG, yH, *, -List.map_take, -List.map_drop, -List.map_append, -List.map_reverse]) <;> (first | done | omega | exact rfl)))))) | ((fail_if_success (with_reducible show ACall _ _ _ _ _)); (try ((with_reducible show _ ∨ _); first | exact .inl rfl | (refine .inr ⟨rfl, ?_, ?_⟩; (focus (repeat (first | exact trivial | refine ⟨.inl rfl, ?_⟩ | refine ⟨.inr rfl, ?_⟩))); (first | exact trivial | exact rfl))))))))))
  exact ⟨rfl, rfl⟩
theorem pow2_at {B : List Box} {args : List CV} (ha : Is args [.int .i64 16]) : ACall Tryd.prog 108 args B fun c B' => c = .bool true ∧ B' = B := by
  have h : _ = _ := ha
  subst h
  have e1 : bits .and .i64 16 15 = 0 := by decide
  refine acall_intro mixed Tryd.func108 rfl ca108 (by kernel_rfl) (by rw [Tryd.ntmps108]; simp) ?_
  repeat' (first | (with_reducible (first | apply w_seq | apply w_region | apply w_block | apply w_skip | apply w_exit | apply w_ret | apply w_then | apply w_then_exit | apply w_then_ret | apply w_in | apply w_in_here | apply w_in_ret | apply w_round | apply o_nil | apply d_nil)) | ((with_reducible (first | apply w_in_exit)); rfl) | ((with_reducible (first | apply w_draw)); rfl) | ((first | ((with_reducible (first | apply o_op | apply d_op | apply q_op)); rfl; rfl) | ((with_reducible (first | apply w_cond | apply w_end | apply w_return))) | ((with_reducible (first | apply o_guard | apply d_guard | apply q_guard)); rfl)); all_goals (first | ((with_reducible show Is _ _); ((try simp (disch := first | omega | (simp only [yA, yB, yC, yD, yE] <;> omega) | fail) [go_sem, yF, yG, yH, *, if_pos, if_neg, -List.map_take, -List.map_drop, -List.map_append, -List.map_reverse]); exact rfl)) | ((fail_if_success (with_reducible show Is _ _)); (first | ((with_reducible refine fun (hc : (_ : Bool) = _) => ?_); (try simp only [xA, xB, xC, xD, xE, xF, xG, xH, reduceCtorEq, xI, xJ, xK, xL, xM, xN, xO, xP, xQ, xR] at hc); (try (have hx : True := hc; clear hx hc)); (try (exfalso; omega)); (try (with_reducible (exact absurd hc (by assumption)))); (try (with_reducible (exact absurd (by assumption) hc)))) | ((fail_if_success (with_reducible show ACall _ _ _ _ _)); (try ((with_reducible show _ ∨ _); first | exact .inl rfl | (refine .inr ⟨rfl, ?_, ?_⟩; (focus (repeat (first | exact trivial | refine ⟨.inl rfl, ?_⟩ | refine ⟨.inr rfl, ?_⟩))); (first | exact trivial | exact rfl))))))))))
  exact ⟨rfl, rfl⟩
theorem digs_at : ∀ d : Fin 16, ([48, 49, 50, 51, 52, 53, 54, 55, 56, 57, 97, 98, 99, 100, 101, 102, 103, 104, 105, 106, 107, 108, 109, 110, 111, 112, 113, 114, 115, 116, 117, 118, 119, 120, 121, 122] : List UInt8)[d.1]? = some (hexD d.1) := by decide
theorem digs_get {d : Nat} (h : d < 16) (h2 : d < 36) : ([48, 49, 50, 51, 52, 53, 54, 55, 56, 57, 97, 98, 99, 100, 101, 102, 103, 104, 105, 106, 107, 108, 109, 110, 111, 112, 113, 114, 115, 116, 117, 118, 119, 120, 121, 122] : List UInt8)[d]'h2 = hexD d := by
  have := digs_at ⟨d, h⟩
  rw [List.getElem?_eq_getElem (by exact h2)] at this
  exact Option.some.inj this
theorem fmtBits_in (n : Nat) (hn : n < 65536) : PC Tryd.prog true 96 [.nilS, .int .u64 n, .int .i64 16, .bool false, .bool false] (.tup [.lst 0 [] false, .str (hexT n)]) := by
  have htz : ∀ {B : List Box} {args : List CV}, Is args [.int .u64 16] → ACall Tryd.prog 109 args B fun c B' => c = .int .i64 4 ∧ B' = B := fun h => by
    have h : _ = _ := h
    subst h
    exact tz_at
  have hr := rep_bytes 65
  refine acall_intro mixed Tryd.func96 rfl ca96 (by kernel_rfl) (by rw [Tryd.ntmps96]; simp) ?_
  repeat' (first | (with_reducible (first | apply w_seq | apply w_region | apply w_block | apply w_skip | apply w_exit | apply w_ret | apply w_then | apply w_then_exit | apply w_then_ret | apply w_in | apply w_in_here | apply w_in_ret | apply w_round | apply o_nil | apply d_nil)) | ((with_reducible (first | apply w_in_exit)); rfl) | ((with_reducible (first | apply w_draw)); rfl) | ((first | ((with_reducible (first | apply o_op | apply d_op | apply q_op)); rfl; rfl) | ((with_reducible (first | apply w_cond | apply w_end | apply w_return))) | ((with_reducible (first | apply o_guard | apply d_guard | apply q_guard)); rfl) | ((with_reducible (first | apply o_call_eq | apply d_call | apply q_call)); rfl)); all_goals (first | ((with_reducible show Is _ _); ((try simp (disch := first | omega | (simp only [yA, yB, yC, yD, yE] <;> omega) | fail) [go_sem, yF, yG, yH, *, if_pos, if_neg, -List.map_take, -List.map_drop, -List.map_append, -List.map_reverse]); exact rfl)) | ((fail_if_success (with_reducible show Is _ _)); (first | ((with_reducible refine fun (hc : (_ : Bool) = _) => ?_); (try simp only [xA, xB, xC, xD, xE, xF, xG, xH, reduceCtorEq, xI, xJ, xK, xL, xM, xN, xO, xP, xQ, xR] at hc); (try (have hx : True := hc; clear hx hc)); (try (exfalso; omega)); (try (with_reducible (exact absurd hc (by assumption)))); (try (with_reducible (exact absurd (by assumption) hc)))) | ((with_reducible show ACall _ _ _ _ _); (first | ((with_reducible (first | apply htz)) <;> (first | omega | assumption | exact rfl | ((simp (disch := first | omega | (simp only [yA, yB, yC, yD, yE] <;> omega) | fail) [go_sem, yF, yG, yH, *, -List.map_take, -List.map_drop, -List.map_append, -List.map_reverse]) <;> (first | done | omega | exact rfl)))) | ((with_reducible (first | apply pow2_at)) <;> (first | omega | assumption | exact rfl | ((simp (disch := first | omega | (simp only [yA, yB, yC, yD, yE] <;> omega) | fail) [go_sem, yF, yG, yH, *, -List.map_take, -List.map_drop, -List.map_append, -List.map_reverse]) <;> (first | done | omega | exact rfl)))))) | ((fail_if_success (with_reducible show ACall _ _ _ _ _)); (try ((with_reducible show _ ∨ _); first | exact .inl rfl | (refine .inr ⟨rfl, ?_, ?_⟩; (focus (repeat (first | exact trivial | refine ⟨.inl rfl, ?_⟩ | refine ⟨.inr rfl, ?_⟩))); (first | exact trivial | exact rfl))))))))))
  refine w_loop (fun fr B => ∃ (u i : Nat) (t : List UInt8), hexT n = hexT u ++ t ∧ ((t.length = 0 ∧ u < 65536) ∨ (t.length = 1 ∧ u < 4096) ∨ (t.length = 2 ∧ u < 256) ∨ (t.length = 3 ∧ u < 16)) ∧ i + t.length = 65 ∧ fr 1 = .int .u64 u ∧ fr 13 = .int .i64 i ∧ fr 12 = .ptr 0 0 ∧ fr 14 = .int .u64 4 ∧ fr 15 = .int .u64 16 ∧ fr 16 = .int .u64 15 ∧ fr 0 = .nilS ∧ fr 3 = .bool false ∧ fr 4 = .bool false ∧ fr 10 = .nilS ∧ B = [⟨(List.replicate i (0 : UInt8) ++ t).map byteC, false⟩]) (fun fr _ => natOf (fr 1)) ?_ ?_
  · exact ⟨n, 65, [], by simp, .inl ⟨rfl, hn⟩, rfl, by (simp (disch := omega) [go_sem, *]) <;> (try omega), by (simp (disch := omega) [go_sem, *]) <;> (try omega), by (simp (disch := omega) [go_sem, *]) <;> (try omega), by (simp (disch := omega) [go_sem, *]) <;> (try omega), by (simp (disch := omega) [go_sem, *]) <;> (try omega), by (simp (disch := omega) [go_sem, *]) <;> (try omega), by (simp (disch := omega) [go_sem, *]) <;> (try omega), by (simp (disch := omega) [go_sem, *]) <;> (try omega), by (simp (disch := omega) [go_sem, *]) <;> (try omega), by (simp (disch := omega) [go_sem, *]) <;> (try omega), rfl⟩
  clear hr
  rintro fr B ⟨u, i, t, he, hu, hi, h1, h13, h12, h14, h15, h16, h0, h3, h4, h10, rfl⟩
  have hul : u < 65536 := by omega
  obtain ⟨k, rfl⟩ : ∃ k, i = k + 1 := ⟨i - 1, by omega⟩
  have hll : (List.replicate (k + 1) (0 : UInt8) ++ t).length = 65 := by simp; omega
  have hset : ∀ x : UInt8, (List.replicate (k + 1) (0 : UInt8) ++ t).set k x = List.replicate k 0 ++ x :: t := fun x => by
    rw [List.set_append_left _ _ (by simp), List.replicate_succ', List.set_append_right _ _ (by simp)]; simp
  by_cases hc : 16 ≤ u
  · obtain ⟨d, hd⟩ : ∃ d, u % 16 = d := ⟨_, rfl⟩
    have hd16 : d < 16 := by omega
    have hand : bits .and .u64 (u : Int) 15 = (d : Int) := by
      rw [show (15 : Int) = ((15 : Nat) : Int) from rfl, u64_and_nat u 15 (by omega) (by omega), show (15 : Nat) = 2 ^ 4 - 1 from rfl, Nat.and_two_pow_sub_one_eq_mod, ← hd]
    have hdg := digs_get (d := d) (by omega) (by omega)
    dsimp only at hdg
    have hx := hset (hexD d)
    have hT : hexT n = hexT (u / 16) ++ hexD d :: t := by rw [he, hexT, dif_neg (by omega), hd]; simp
    clear hset
    replace hd : Hid _ := hd
    repeat' (first | (with_reducible (first | apply w_seq | apply w_region | apply w_block | apply w_skip | apply w_exit | apply w_ret | apply w_then | apply w_then_exit | apply w_then_ret | apply w_in | apply w_in_here | apply w_in_ret | apply w_round | apply o_nil | apply d_nil)) | ((with_reducible (first | apply w_in_exit)); rfl) | ((with_reducible (first | apply w_draw)); rfl) | ((first | ((with_reducible (first | apply o_op | apply d_op | apply q_op)); rfl; rfl) | ((with_reducible (first | apply w_cond | apply w_end | apply w_return))) | ((with_reducible (first | apply o_guard | apply d_guard | apply q_guard)); rfl)); all_goals (first | ((with_reducible show Is _ _); ((try simp (disch := first | omega | (simp only [yA, yB, yC, yD, yE] <;> omega) | fail) [go_sem, yF, yG, yH, *, if_pos, if_neg, -List.map_take, -List.map_drop, -List.map_append, -List.map_reverse]); exact rfl)) | ((fail_if_success (with_reducible show Is _ _)); (first | ((with_reducible refine fun (hc : (_ : Bool) = _) => ?_); (try simp only [xA, xB, xC, xD, xE, xF, xG, xH, reduceCtorEq, xI, xJ, xK, xL, xM, xN, xO, xP, xQ, xR] at hc); (try (have hx : True := hc; clear hx hc)); (try (exfalso; omega)); (try (with_reducible (exact absurd hc (by assumption)))); (try (with_reducible (exact absurd (by assumption) hc)))) | ((fail_if_success (with_reducible show ACall _ _ _ _ _)); (try ((with_reducible show _ ∨ _); first | exact .inl rfl | (refine .inr ⟨rfl, ?_, ?_⟩; (focus (repeat (first | exact trivial | refine ⟨.inl rfl, ?_⟩ | refine ⟨.inr rfl, ?_⟩))); (first | exact trivial | exact rfl))))))))))
    refine ⟨⟨u / 16, k, hexD d :: t, hT, by simp only [List.length_cons]; omega, by rw [List.length_cons]; omega, by (simp (disch := omega) [go_sem, *]) <;> (try omega), by (simp (disch := omega) [go_sem, *]) <;> (try omega), by (simp (disch := omega) [go_sem, *]) <;> (try omega), by (simp (disch := omega) [go_sem, *]) <;> (try omega), by (simp (disch := omega) [go_sem, *]) <;> (try omega), by (simp (disch := omega) [go_sem, *]) <;> (try omega), by (simp (disch := omega) [go_sem, *]) <;> (try omega), by (simp (disch := omega) [go_sem, *]) <;> (try omega), by (simp (disch := omega) [go_sem, *]) <;> (try omega), by (simp (disch := omega) [go_sem, *]) <;> (try omega), ?_⟩, by (simp (disch := omega) [go_sem, *]) <;> (try omega)⟩
    rw [← hx, bytes_mid, List.set_eq_take_append_cons_drop, if_pos (by omega)]
  · have hdg := digs_get (d := u) (by omega) (by omega)
    dsimp only at hdg
    have hx := hset (hexD u)
    have hT : hexT n = hexD u :: t := by rw [he, hexT, dif_pos (by omega)]; rfl
    repeat' (first | (with_reducible (first | apply w_seq | apply w_region | apply w_block | apply w_skip | apply w_exit | apply w_ret | apply w_then | apply w_then_exit | apply w_then_ret | apply w_in | apply w_in_here | apply w_in_ret | apply w_round | apply o_nil | apply d_nil)) | ((with_reducible (first | apply w_in_exit)); rfl) | ((with_reducible (first | apply w_draw)); rfl) | ((first | ((with_reducible (first | apply o_op | apply d_op | apply q_op)); rfl; rfl) | ((with_reducible (first | apply w_cond | apply w_end | apply w_return))) | ((with_reducible (first | apply o_guard | apply d_guard | apply q_guard)); rfl)); all_goals (first | ((with_reducible show Is _ _); ((try simp (disch := first | omega | (simp only [yA, yB, yC, yD, yE] <;> omega) | fail) [go_sem, yF, yG, yH, *, if_pos, if_neg, -List.map_take, -List.map_drop, -List.map_append, -List.map_reverse]); exact rfl)) | ((fail_if_success (with_reducible show Is _ _)); (first | ((with_reducible refine fun (hc : (_ : Bool) = _) => ?_); (try simp only [xA, xB, xC, xD, xE, xF, xG, xH, reduceCtorEq, xI, xJ, xK, xL, xM, xN, xO, xP, xQ, xR] at hc); (try (have hx : True := hc; clear hx hc)); (try (exfalso; omega)); (try (with_reducible (exact absurd hc (by assumption)))); (try (with_reducible (exact absurd (by assumption) hc)))) | ((fail_if_success (with_reducible show ACall _ _ _ _ _)); (try ((with_reducible show _ ∨ _); first | exact .inl rfl | (refine .inr ⟨rfl, ?_, ?_⟩; (focus (repeat (first | exact trivial | refine ⟨.inl rfl, ?_⟩ | refine ⟨.inr rfl, ?_⟩))); (first | exact trivial | exact rfl))))))))))
    have hcell : (List.take k (List.replicate (k + 1) (0 : UInt8) ++ t)).map byteC ++ byteC (hexD u) :: (List.drop (k + 1) (List.replicate (k + 1) (0 : UInt8) ++ t)).map byteC = (List.replicate k 0 ++ hexD u :: t).map byteC := by
      rw [← hx, bytes_mid, List.set_eq_take_append_cons_drop, if_pos (by omega)]
    rw [hcell]
    have hlt : (hexD u :: t).length = 65 - k := by rw [List.length_cons]; omega
    clear hcell hx hset hdg
    generalize hexD u :: t = D at *
    have hdr : (List.replicate k (0 : UInt8) ++ D).drop k = D := by rw [List.drop_append_of_le_length (by simp)]; simp
    have htk : D.take (65 - k) = D := List.take_of_length_le (by omega)
    repeat' (first | (with_reducible (first | apply w_seq | apply w_region | apply w_block | apply w_skip | apply w_exit | apply w_ret | apply w_then | apply w_then_exit | apply w_then_ret | apply w_in | apply w_in_here | apply w_in_ret | apply w_round | apply o_nil | apply d_nil)) | ((with_reducible (first | apply w_in_exit)); rfl) | ((with_reducible (first | apply w_draw)); rfl) | ((first | ((with_reducible (first | apply o_op | apply d_op | apply q_op)); rfl; rfl) | ((with_reducible (first | apply w_cond | apply w_end | apply w_return))) | ((with_reducible (first | apply o_guard | apply d_guard | apply q_guard)); rfl)); all_goals (first | ((with_reducible show Is _ _); ((try simp (disch := first | omega | (simp only [yA, yB, yC, yD, yE] <;> omega) | fail) [go_sem, yF, yG, yH, *, if_pos, if_neg, -List.map_take, -List.map_drop, -List.map_append, -List.map_reverse]); exact rfl)) | ((fail_if_success (with_reducible show Is _ _)); (first | ((with_reducible refine fun (hc : (_ : Bool) = _) => ?_); (try simp only [xA, xB, xC, xD, xE, xF, xG, xH, reduceCtorEq, xI, xJ, xK, xL, xM, xN, xO, xP, xQ, xR] at hc); (try (have hx : True := hc; clear hx hc)); (try (exfalso; omega)); (try (with_reducible (exact absurd hc (by assumption)))); (try (with_reducible (exact absurd (by assumption) hc)))) | ((fail_if_success (with_reducible show ACall _ _ _ _ _)); (try ((with_reducible show _ ∨ _); first | exact .inl rfl | (refine .inr ⟨rfl, ?_, ?_⟩; (focus (repeat (first | exact trivial | refine ⟨.inl rfl, ?_⟩ | refine ⟨.inr rfl, ?_⟩))); (first | exact trivial | exact rfl))))))))))
    rw [hT]; rfl
theorem fmt16_at {B : List Box} {n : Nat} (hn : n < 65536) : ACall Tryd.prog 41 [.int .i64 n, .int .i64 16] B fun c B' => c = .str (hexT n) ∧ B' = B := by
  have h1 : ∀ {B : List Box} {args : List CV}, Is args [.nilS, .int .u64 n, .int .i64 16, .bool false, .bool false] → ACall Tryd.prog 96 args B fun c B' => c = .tup [.lst 0 [] false, .str (hexT n)] ∧ B' = B := fun {B args} h => by
    have h : _ = _ := h
    subst h
    exact acall_fresh (nz := false) rfl (fmtBits_in n hn)
  have h2 : ∀ {B : List Box} {args : List CV}, Is args [.int .i64 n, .int .i64 16] → ACall Tryd.prog 75 args B fun c B' => c = .str (hexT n) ∧ B' = B := fun {B args} h => by
    have h : _ = _ := h
    subst h
    refine acall_intro mixed Tryd.func75 rfl ca75 (by kernel_rfl) (by rw [Tryd.ntmps75]; simp) ?_
    repeat' (first | (with_reducible (first | apply w_seq | apply w_region | apply w_block | apply w_skip | apply w_exit | apply w_ret | apply w_then | apply w_then_exit | apply w_then_ret | apply w_in | apply w_in_here | apply w_in_ret | apply w_round | apply o_nil | apply d_nil)) | ((with_reducible (first | apply w_in_exit)); rfl) | ((with_reducible (first | apply w_draw)); rfl) | ((first | ((with_reducible (first | apply o_op | apply d_op | apply q_op)); rfl; rfl) | ((with_reducible (first | apply w_cond | apply w_end | apply w_return))) | ((with_reducible (first | apply o_guard | apply d_guard | apply q_guard)); rfl) | ((with_reducible (first | apply o_call_eq | apply d_call | apply q_call)); rfl)); all_goals (first | ((with_reducible show Is _ _); ((try simp (disch := first | omega | (simp only [yA, yB, yC, yD, yE] <;> omega) | fail) [go_sem, yF, yG, yH, *, if_pos, if_neg, -List.map_take, -List.map_drop, -List.map_append, -List.map_reverse]); exact rfl)) | ((fail_if_success (with_reducible show Is _ _)); (first | ((with_reducible refine fun (hc : (_ : Bool) = _) => ?_); (try simp only [xA, xB, xC, xD, xE, xF, xG, xH, reduceCtorEq, xI, xJ, xK, xL, xM, xN, xO, xP, xQ, xR] at hc); (try (have hx : True := hc; clear hx hc)); (try (exfalso; omega)); (try (with_reducible (exact absurd hc (by assumption)))); (try (with_reducible (exact absurd (by assumption) hc)))) | ((with_reducible show ACall _ _ _ _ _); (first | ((with_reducible (first | apply h1)) <;> (first | omega | assumption | exact rfl | ((simp (disch := first | omega | (simp only [yA, yB, yC, yD, yE] <;> omega) | fail) [go_sem, yF, yG, yH, *, -List.map_take, -List.map_drop, -List.map_append, -List.map_reverse]) <;> (first | done | omega | exact rfl)))))) | ((fail_if_success (with_reducible show ACall _ _ _ _ _)); (try ((with_reducible show _ ∨ _); first | exact .inl rfl | (refine .inr ⟨rfl, ?_, ?_⟩; (focus (repeat (first | exact trivial | refine ⟨.inl rfl, ?_⟩ | refine ⟨.inr rfl, ?_⟩))); (first | exact trivial | exact rfl))))))))))
    exact ⟨rfl, rfl⟩
  refine acall_intro mixed Tryd.func41 rfl ca41 (by kernel_rfl) (by rw [Tryd.ntmps41]; simp) ?_
  repeat' (first | (with_reducible (first | apply w_seq | apply w_region | apply w_block | apply w_skip | apply w_exit | apply w_ret | apply w_then | apply w_then_exit | apply w_then_ret | apply w_in | apply w_in_here | apply w_in_ret | apply w_round | apply o_nil | apply d_nil)) | ((with_reducible (first | apply w_in_exit)); rfl) | ((with_reducible (first | apply w_draw)); rfl) | ((first | ((with_reducible (first | apply o_op | apply d_op | apply q_op)); rfl; rfl) | ((with_reducible (first | apply w_cond | apply w_end | apply w_return))) | ((with_reducible (first | apply o_guard | apply d_guard | apply q_guard)); rfl) | ((with_reducible (first | apply o_call_eq | apply d_call | apply q_call)); rfl)); all_goals (first | ((with_reducible show Is _ _); ((try simp (disch := first | omega | (simp only [yA, yB, yC, yD, yE] <;> omega) | fail) [go_sem, yF, yG, yH, *, if_pos, if_neg, -List.map_take, -List.map_drop, -List.map_append, -List.map_reverse]); exact rfl)) | ((fail_if_success (with_reducible show Is _ _)); (first | ((with_reducible refine fun (hc : (_ : Bool) = _) => ?_); (try simp only [xA, xB, xC, xD, xE, xF, xG, xH, reduceCtorEq, xI, xJ, xK, xL, xM, xN, xO, xP, xQ, xR] at hc); (try (have hx : True := hc; clear hx hc)); (try (exfalso; omega)); (try (with_reducible (exact absurd hc (by assumption)))); (try (with_reducible (exact absurd (by assumption) hc)))) | ((with_reducible show ACall _ _ _ _ _); (first | ((with_reducible (first | apply h2)) <;> (first | omega | assumption | exact rfl | ((simp (disch := first | omega | (simp only [yA, yB, yC, yD, yE] <;> omega) | fail) [go_sem, yF, yG, yH, *, -List.map_take, -List.map_drop, -List.map_append, -List.map_reverse]) <;> (first | done | omega | exact rfl)))))) | ((fail_if_success (with_reducible show ACall _ _ _ _ _)); (try ((with_reducible show _ ∨ _); first | exact .inl rfl | (refine .inr ⟨rfl, ?_, ?_⟩; (focus (repeat (first | exact trivial | refine ⟨.inl rfl, ?_⟩ | refine ⟨.inr rfl, ?_⟩))); (first | exact trivial | exact rfl))))))))))
  exact ⟨rfl, rfl⟩
end Go.Proofs.YtdceppjoipoohaaDoor
end
section
namespace Go.Proofs.YtdceppjoipoohaaDoor
open Go Go.Sy
set_option linter.all false
set_option maxRecDepth 100000
set_option maxHeartbeats 4000000
def isDig (c : UInt8) : Bool := decide (48 ≤ c.toNat) && decide (c.toNat ≤ 57)
def decV (l : List UInt8) : Nat := l.foldl (fun n c => 10 * n + (c.toNat - 48)) 0
def headOk (m : Nat) (s : List UInt8) : Bool := decide (1 ≤ s.length) && decide (s.length ≤ m) && !(decide (1 < s.length) && (s.head? == some 48))
def decOk (m : Nat) (s : List UInt8) : Bool := headOk m s && s.all isDig
def decR (m : Nat) (s : List UInt8) : Nat := if decOk m s then decV s else 0
theorem decV_app (l : List UInt8) (c : UInt8) : decV (l ++ [c]) = 10 * decV l + (c.toNat - 48) := by simp [decV, List.foldl_append]
theorem decV_take {l : List UInt8} {k : Nat} (h : k < l.length) : decV (l.take (k + 1)) = 10 * decV (l.take k) + (l[k].toNat - 48) := by rw [List.take_succ_eq_append_getElem h, decV_app]
theorem decV_lt : ∀ (l : List UInt8), l.all isDig = true → decV l < 10 ^ l.length := by
  intro l
  suffices h : ∀ (l : List UInt8) (n k : Nat), n < 10 ^ k → l.all isDig = true → l.foldl (fun n c => 10 * n + (c.toNat - 48)) n < 10 ^ (k + l.length) by
    intro hl; have := h l 0 0 (by decide) hl; rwa [Nat.zero_add] at this
  intro l
  induction l with
  | nil => intro n k h _; simpa using h
  | cons c l ih =>
    intro n k h hl
    simp only [List.all_cons, Bool.and_eq_true] at hl
    have hc : 48 ≤ c.toNat ∧ c.toNat ≤ 57 := by simpa [isDig] using hl.1
    have := ih (10 * n + (c.toNat - 48)) (k + 1) (by rw [Nat.pow_succ]; omega) hl.2
    rw [List.foldl_cons, List.length_cons, show k + (l.length + 1) = k + 1 + l.length by omega]
    exact this
theorem dec_bound {s : List UInt8} {j : Nat} (hd : (s.take j).all isDig = true) (hj : j ≤ 10) : decV (s.take j) ≤ 9999999999 := by
  have h1 := decV_lt _ hd
  have h2 : (s.take j).length ≤ 10 := by rw [List.length_take]; omega
  have h3 : 10 ^ (s.take j).length ≤ 10 ^ 10 := Nat.pow_le_pow_right (by decide) h2
  omega
theorem all_take {s : List UInt8} {j : Nat} (h : j < s.length) : (s.take (j + 1)).all isDig = ((s.take j).all isDig && isDig s[j]) := by
  rw [List.take_succ_eq_append_getElem h, List.all_append]; simp
theorem not_all {s : List UInt8} {j : Nat} (h : j < s.length) (hn : isDig s[j] = false) : s.all isDig = false := by
  rw [List.all_eq_false]
  exact ⟨s[j], List.getElem_mem h, by simp [hn]⟩
theorem decimal_in (s : List UInt8) (lim : Int) (hs : s.length < 4611686018427387904) : PC Tryd.prog true 47 [.str s, .int .i64 lim] (.tup [.int .i64 (decR 10 s), .bool (decOk 10 s && decide ((decR 10 s : Int) ≤ lim))]) := by
  refine acall_intro mixed Tryd.func47 rfl ca47 (by kernel_rfl) (by rw [Tryd.ntmps47]; simp) ?_
  have hbad : headOk 10 s = false → decR 10 s = 0 ∧ decOk 10 s = false := fun h => by simp [decR, decOk, h]
  by_cases h0 : s.length = 0
  · obtain ⟨e1, e2⟩ := hbad (by simp [headOk, h0])
    have : s = [] := List.eq_nil_of_length_eq_zero h0
    subst this
    repeat' (first | (with_reducible (first | apply w_seq | apply w_region | apply w_block | apply w_skip | apply w_exit | apply w_ret | apply w_then | apply w_then_exit | apply w_then_ret | apply w_in | apply w_in_here | apply w_in_ret | apply w_round | apply o_nil | apply d_nil)) | ((with_reducible (first | apply w_in_exit)); rfl) | ((with_reducible (first | apply w_draw)); rfl) | ((first | ((with_reducible (first | apply o_op | apply d_op | apply q_op)); rfl; rfl) | ((with_reducible (first | apply w_cond | apply w_end | apply w_return))) | ((with_reducible (first | apply o_guard | apply d_guard | apply q_guard)); rfl)); all_goals (first | ((with_reducible show Is _ _); ((try simp (disch := first | omega | (simp only [yA, yB, yC, yD, yE] <;> omega) | fail) [go_sem, yF, yG, yH, *, if_pos, if_neg, -List.map_take, -List.map_drop, -List.map_append, -List.map_reverse]); exact rfl)) | ((fail_if_success (with_reducible show Is _ _)); (first | ((with_reducible refine fun (hc : (_ : Bool) = _) => ?_); (try simp only [xA, xB, xC, xD, xE, xF, xG, xH, reduceCtorEq, xI, xJ, xK, xL, xM, xN, xO, xP, xQ, xR] at hc); (try (have hx : True := hc; clear hx hc)); (try (exfalso; omega)); (try (with_reducible (exact absurd hc (by assumption)))); (try (with_reducible (exact absurd (by assumption) hc)))) | ((fail_if_success (with_reducible show ACall _ _ _ _ _)); (try ((with_reducible show _ ∨ _); first | exact .inl rfl | (refine .inr ⟨rfl, ?_, ?_⟩; (focus (repeat (first | exact trivial | refine ⟨.inl rfl, ?_⟩ | refine ⟨.inr rfl, ?_⟩))); (first | exact trivial | exact rfl))))))))))
    rfl
  have hpos : 0 < s.length := by omega
  by_cases h10 : s.length ≤ 10
  · by_cases hz : 1 < s.length ∧ s[0]'hpos = 48
    · obtain ⟨hz1, hz2⟩ := hz
      have hh : s.head? = some 48 := by rw [List.head?_eq_getElem?, List.getElem?_eq_getElem (by omega), hz2]
      obtain ⟨e1, e2⟩ := hbad (by simp [headOk, hz1, hh])
      rw [e1, e2]
      repeat' (first | (with_reducible (first | apply w_seq | apply w_region | apply w_block | apply w_skip | apply w_exit | apply w_ret | apply w_then | apply w_then_exit | apply w_then_ret | apply w_in | apply w_in_here | apply w_in_ret | apply w_round | apply o_nil | apply d_nil)) | ((with_reducible (first | apply w_in_exit)); rfl) | ((with_reducible (first | apply w_draw)); rfl) | ((first | ((with_reducible (first | apply o_op | apply d_op | apply q_op)); rfl; rfl) | ((with_reducible (first | apply w_cond | apply w_end | apply w_return))) | ((with_reducible (first | apply o_guard | apply d_guard | apply q_guard)); rfl)); all_goals (first | ((with_reducible show Is _ _); ((try simp (disch := first | omega | (simp only [yA, yB, yC, yD, yE] <;> omega) | fail) [go_sem, yF, yG, yH, *, if_pos, if_neg, -List.map_take, -List.map_drop, -List.map_append, -List.map_reverse]); exact rfl)) | ((fail_if_success (with_reducible show Is _ _)); (first | ((with_reducible refine fun (hc : (_ : Bool) = _) => ?_); (try simp only [xA, xB, xC, xD, xE, xF, xG, xH, reduceCtorEq, xI, xJ, xK, xL, xM, xN, xO, xP, xQ, xR] at hc); (try (have hx : True := hc; clear hx hc)); (try (exfalso; omega)); (try (with_reducible (exact absurd hc (by assumption)))); (try (with_reducible (exact absurd (by assumption) hc)))) | ((fail_if_success (with_reducible show ACall _ _ _ _ _)); (try ((with_reducible show _ ∨ _); first | exact .inl rfl | (refine .inr ⟨rfl, ?_, ?_⟩; (focus (repeat (first | exact trivial | refine ⟨.inl rfl, ?_⟩ | refine ⟨.inr rfl, ?_⟩))); (first | exact trivial | exact rfl))))))))))
      rfl
    · have hh : headOk 10 s = true := by
        cases s with
        | nil => simp at h0
        | cons c s => simp [headOk] at hz ⊢; simp at h10; exact ⟨h10, by cases s with | nil => exact .inl rfl | cons d s => exact .inr (hz (by simp))⟩
      have hz' : 1 < s.length → (s[0]'hpos).toNat ≠ 48 := fun h e => hz ⟨h, UInt8.toNat_inj.1 e⟩
      clear hbad hz
      by_cases h1l : 1 < s.length
      · have hz2 := hz' h1l
        clear hz'
        have hz3 : ((s[0]'hpos).toNat : Int) ≠ 48 := by omega
        repeat' (first | (with_reducible (first | apply w_seq | apply w_region | apply w_block | apply w_skip | apply w_exit | apply w_ret | apply w_then | apply w_then_exit | apply w_then_ret | apply w_in | apply w_in_here | apply w_in_ret | apply w_round | apply o_nil | apply d_nil)) | ((with_reducible (first | apply w_in_exit)); rfl) | ((with_reducible (first | apply w_draw)); rfl) | ((first | ((with_reducible (first | apply o_op | apply d_op | apply q_op)); rfl; rfl) | ((with_reducible (first | apply w_cond | apply w_end | apply w_return))) | ((with_reducible (first | apply o_guard | apply d_guard | apply q_guard)); rfl)); all_goals (first | ((with_reducible show Is _ _); ((try simp (disch := first | omega | (simp only [yA, yB, yC, yD, yE] <;> omega) | fail) [go_sem, yF, yG, yH, *, if_pos, if_neg, -List.map_take, -List.map_drop, -List.map_append, -List.map_reverse]); exact rfl)) | ((fail_if_success (with_reducible show Is _ _)); (first | ((with_reducible refine fun (hc : (_ : Bool) = _) => ?_); (try simp only [xA, xB, xC, xD, xE, xF, xG, xH, reduceCtorEq, xI, xJ, xK, xL, xM, xN, xO, xP, xQ, xR] at hc); (try (have hx : True := hc; clear hx hc)); (try (exfalso; omega)); (try (with_reducible (exact absurd hc (by assumption)))); (try (with_reducible (exact absurd (by assumption) hc)))) | ((fail_if_success (with_reducible show ACall _ _ _ _ _)); (try ((with_reducible show _ ∨ _); first | exact .inl rfl | (refine .inr ⟨rfl, ?_, ?_⟩; (focus (repeat (first | exact trivial | refine ⟨.inl rfl, ?_⟩ | refine ⟨.inr rfl, ?_⟩))); (first | exact trivial | exact rfl))))))))))
        refine w_loop (fun fr B => B = [] ∧ ∃ j : Nat, j ≤ s.length ∧ (s.take j).all isDig = true ∧ fr 28 = .int .i64 j ∧ fr 0 = .str s ∧ fr 6 = .int .i64 (decV (s.take j)) ∧ fr 27 = .int .i64 s.length ∧ fr 1 = .int .i64 lim) (fun fr _ => s.length - natOf (fr 28)) ?_ ?_
        · exact ⟨rfl, 0, by omega, rfl, by (simp (disch := omega) [go_sem, *]) <;> (try omega), by (simp (disch := omega) [go_sem, *]) <;> (try omega), by (simp (disch := omega) [go_sem, *, decV]) <;> (try omega), by (simp (disch := omega) [go_sem, *]) <;> (try omega), by (simp (disch := omega) [go_sem, *]) <;> (try omega)⟩
        rintro fr B ⟨rfl, j, hj, hd, hix, hs0, h6, hx1, hx2⟩
        have hb := dec_bound hd (by omega)
        by_cases hc : j < s.length
        · have hnx := decV_take hc
          have hall := all_take hc
          rw [hd, Bool.true_and] at hall
          have hlt := (s[j]).toNat_lt
          by_cases hg : isDig s[j] = true
          · rw [hg] at hall
            have hg2 : 48 ≤ s[j].toNat ∧ s[j].toNat ≤ 57 := by simpa [isDig] using hg
            have hb2 := dec_bound hall (by omega)
            have hnx2 : (decV (s.take (j + 1)) : Int) = 10 * decV (s.take j) + (s[j].toNat - 48) := by omega
            rw [hnx] at hb2
            repeat' (first | (with_reducible (first | apply w_seq | apply w_region | apply w_block | apply w_skip | apply w_exit | apply w_ret | apply w_then | apply w_then_exit | apply w_then_ret | apply w_in | apply w_in_here | apply w_in_ret | apply w_round | apply o_nil | apply d_nil)) | ((with_reducible (first | apply w_in_exit)); rfl) | ((with_reducible (first | apply w_draw)); rfl) | ((first | ((with_reducible (first | apply o_op | apply d_op | apply q_op)); rfl; rfl) | ((with_reducible (first | apply w_cond | apply w_end | apply w_return))) | ((with_reducible (first | apply o_guard | apply d_guard | apply q_guard)); rfl)); all_goals (first | ((with_reducible show Is _ _); ((try simp (disch := first | omega | (simp only [yA, yB, yC, yD, yE] <;> omega) | fail) [go_sem, yF, yG, yH, *, if_pos, if_neg, -List.map_take, -List.map_drop, -List.map_append, -List.map_reverse]); exact rfl)) | ((fail_if_success (with_reducible show Is _ _)); (first | ((with_reducible refine fun (hc : (_ : Bool) = _) => ?_); (try simp only [xA, xB, xC, xD, xE, xF, xG, xH, reduceCtorEq, xI, xJ, xK, xL, xM, xN, xO, xP, xQ, xR] at hc); (try (have hx : True := hc; clear hx hc)); (try (exfalso; omega)); (try (with_reducible (exact absurd hc (by assumption)))); (try (with_reducible (exact absurd (by assumption) hc)))) | ((fail_if_success (with_reducible show ACall _ _ _ _ _)); (try ((with_reducible show _ ∨ _); first | exact .inl rfl | (refine .inr ⟨rfl, ?_, ?_⟩; (focus (repeat (first | exact trivial | refine ⟨.inl rfl, ?_⟩ | refine ⟨.inr rfl, ?_⟩))); (first | exact trivial | exact rfl))))))))))
            exact ⟨⟨rfl, j + 1, by omega, hall, by (simp (disch := omega) [go_sem, *]) <;> (try omega), by (simp (disch := omega) [go_sem, *]) <;> (try omega), by rw [hnx2] <;> (simp (disch := omega) [go_sem, *]) <;> (try omega), by (simp (disch := omega) [go_sem, *]) <;> (try omega), by (simp (disch := omega) [go_sem, *]) <;> (try omega)⟩, by (simp (disch := omega) [go_sem, *]) <;> (try omega)⟩
          · have hna := not_all hc (by simpa using hg)
            have e1 : decR 10 s = 0 ∧ decOk 10 s = false := by simp [decR, decOk, hna]
            have hg2 : s[j].toNat < 48 ∨ 57 < s[j].toNat := by
              have : ¬ (48 ≤ s[j].toNat ∧ s[j].toNat ≤ 57) := by simpa [isDig] using hg
              omega
            rw [e1.1, e1.2]
            rcases hg2 with hg2 | hg2
            · repeat' (first | (with_reducible (first | apply w_seq | apply w_region | apply w_block | apply w_skip | apply w_exit | apply w_ret | apply w_then | apply w_then_exit | apply w_then_ret | apply w_in | apply w_in_here | apply w_in_ret | apply w_round | apply o_nil | apply d_nil)) | ((with_reducible (first | apply w_in_exit)); rfl) | ((with_reducible (first | apply w_draw)); rfl) | ((first | ((with_reducible (first | apply o_op | apply d_op | apply q_op)); rfl; rfl) | ((with_reducible (first | apply w_cond | apply w_end | apply w_return))) | ((with_reducible (first | apply o_guard | apply d_guard | apply q_guard)); rfl)); all_goals (first | ((with_reducible show Is _ _); ((try simp (disch := first | omega | (simp only [yA, yB, yC, yD, yE] <;> omega) | fail) [go_sem, yF, yG, yH, *, if_pos, if_neg, -List.map_take, -List.map_drop, -List.map_append, -List.map_reverse]); exact rfl)) | ((fail_if_success (with_reducible show Is _ _)); (first | ((with_reducible refine fun (hc : (_ : Bool) = _) => ?_); (try simp only [xA, xB, xC, xD, xE, xF, xG, xH, reduceCtorEq, xI, xJ, xK, xL, xM, xN, xO, xP, xQ, xR] at hc); (try (have hx : True := hc; clear hx hc)); (try (exfalso; omega)); (try (with_reducible (exact absurd hc (by assumption)))); (try (with_reducible (exact absurd (by assumption) hc)))) | ((fail_if_success (with_reducible show ACall _ _ _ _ _)); (try ((with_reducible show _ ∨ _); first | exact .inl rfl | (refine .inr ⟨rfl, ?_, ?_⟩; (focus (repeat (first | exact trivial | refine ⟨.inl rfl, ?_⟩ | refine ⟨.inr rfl, ?_⟩))); (first | exact trivial | exact rfl))))))))))
              rfl
            · have hg3 : ¬ (s[j].toNat : Int) < 48 := by omega
              repeat' (first | (with_reducible (first | apply w_seq | apply w_region | apply w_block | apply w_skip | apply w_exit | apply w_ret | apply w_then | apply w_then_exit | apply w_then_ret | apply w_in | apply w_in_here | apply w_in_ret | apply w_round | apply o_nil | apply d_nil)) | ((with_reducible (first | apply w_in_exit)); rfl) | ((with_reducible (first | apply w_draw)); rfl) | ((first | ((with_reducible (first | apply o_op | apply d_op | apply q_op)); rfl; rfl) | ((with_reducible (first | apply w_cond | apply w_end | apply w_return))) | ((with_reducible (first | apply o_guard | apply d_guard | apply q_guard)); rfl)); all_goals (first | ((with_reducible show Is _ _); ((try simp (disch := first | omega | (simp only [yA, yB, yC, yD, yE] <;> omega) | fail) [go_sem, yF, yG, yH, *, if_pos, if_neg, -List.map_take, -List.map_drop, -List.map_append, -List.map_reverse]); exact rfl)) | ((fail_if_success (with_reducible show Is _ _)); (first | ((with_reducible refine fun (hc : (_ : Bool) = _) => ?_); (try simp only [xA, xB, xC, xD, xE, xF, xG, xH, reduceCtorEq, xI, xJ, xK, xL, xM, xN, xO, xP, xQ, xR] at hc); (try (have hx : True := hc; clear hx hc)); (try (exfalso; omega)); (try (with_reducible (exact absurd hc (by assumption)))); (try (with_reducible (exact absurd (by assumption) hc)))) | ((fail_if_success (with_reducible show ACall _ _ _ _ _)); (try ((with_reducible show _ ∨ _); first | exact .inl rfl | (refine .inr ⟨rfl, ?_, ?_⟩; (focus (repeat (first | exact trivial | refine ⟨.inl rfl, ?_⟩ | refine ⟨.inr rfl, ?_⟩))); (first | exact trivial | exact rfl))))))))))
              rfl
        · obtain rfl : j = s.length := by omega
          rw [List.take_length] at hd h6 hb
          have e1 : decOk 10 s = true := by simp only [decOk, hh, hd, Bool.and_self]
          rw [decR, if_pos e1, e1]
          repeat' (first | (with_reducible (first | apply w_seq | apply w_region | apply w_block | apply w_skip | apply w_exit | apply w_ret | apply w_then | apply w_then_exit | apply w_then_ret | apply w_in | apply w_in_here | apply w_in_ret | apply w_round | apply o_nil | apply d_nil)) | ((with_reducible (first | apply w_in_exit)); rfl) | ((with_reducible (first | apply w_draw)); rfl) | ((first | ((with_reducible (first | apply o_op | apply d_op | apply q_op)); rfl; rfl) | ((with_reducible (first | apply w_cond | apply w_end | apply w_return))) | ((with_reducible (first | apply o_guard | apply d_guard | apply q_guard)); rfl)); all_goals (first | ((with_reducible show Is _ _); ((try simp (disch := first | omega | (simp only [yA, yB, yC, yD, yE] <;> omega) | fail) [go_sem, yF, yG, yH, *, if_pos, if_neg, -List.map_take, -List.map_drop, -List.map_append, -List.map_reverse]); exact rfl)) | ((fail_if_success (with_reducible show Is _ _)); (first | ((with_reducible refine fun (hc : (_ : Bool) = _) => ?_); (try simp only [xA, xB, xC, xD, xE, xF, xG, xH, reduceCtorEq, xI, xJ, xK, xL, xM, xN, xO, xP, xQ, xR] at hc); (try (have hx : True := hc; clear hx hc)); (try (exfalso; omega)); (try (with_reducible (exact absurd hc (by assumption)))); (try (with_reducible (exact absurd (by assumption) hc)))) | ((fail_if_success (with_reducible show ACall _ _ _ _ _)); (try ((with_reducible show _ ∨ _); first | exact .inl rfl | (refine .inr ⟨rfl, ?_, ?_⟩; (focus (repeat (first | exact trivial | refine ⟨.inl rfl, ?_⟩ | refine ⟨.inr rfl, ?_⟩))); (first | exact trivial | exact rfl))))))))))
          rfl
      · clear hz'
        repeat' (first | (with_reducible (first | apply w_seq | apply w_region | apply w_block | apply w_skip | apply w_exit | apply w_ret | apply w_then | apply w_then_exit | apply w_then_ret | apply w_in | apply w_in_here | apply w_in_ret | apply w_round | apply o_nil | apply d_nil)) | ((with_reducible (first | apply w_in_exit)); rfl) | ((with_reducible (first | apply w_draw)); rfl) | ((first | ((with_reducible (first | apply o_op | apply d_op | apply q_op)); rfl; rfl) | ((with_reducible (first | apply w_cond | apply w_end | apply w_return))) | ((with_reducible (first | apply o_guard | apply d_guard | apply q_guard)); rfl)); all_goals (first | ((with_reducible show Is _ _); ((try simp (disch := first | omega | (simp only [yA, yB, yC, yD, yE] <;> omega) | fail) [go_sem, yF, yG, yH, *, if_pos, if_neg, -List.map_take, -List.map_drop, -List.map_append, -List.map_reverse]); exact rfl)) | ((fail_if_success (with_reducible show Is _ _)); (first | ((with_reducible refine fun (hc : (_ : Bool) = _) => ?_); (try simp only [xA, xB, xC, xD, xE, xF, xG, xH, reduceCtorEq, xI, xJ, xK, xL, xM, xN, xO, xP, xQ, xR] at hc); (try (have hx : True := hc; clear hx hc)); (try (exfalso; omega)); (try (with_reducible (exact absurd hc (by assumption)))); (try (with_reducible (exact absurd (by assumption) hc)))) | ((fail_if_success (with_reducible show ACall _ _ _ _ _)); (try ((with_reducible show _ ∨ _); first | exact .inl rfl | (refine .inr ⟨rfl, ?_, ?_⟩; (focus (repeat (first | exact trivial | refine ⟨.inl rfl, ?_⟩ | refine ⟨.inr rfl, ?_⟩))); (first | exact trivial | exact rfl))))))))))
        refine w_loop (fun fr B => B = [] ∧ ∃ j : Nat, j ≤ s.length ∧ (s.take j).all isDig = true ∧ fr 28 = .int .i64 j ∧ fr 0 = .str s ∧ fr 6 = .int .i64 (decV (s.take j)) ∧ fr 27 = .int .i64 s.length ∧ fr 1 = .int .i64 lim) (fun fr _ => s.length - natOf (fr 28)) ?_ ?_
        · exact ⟨rfl, 0, by omega, rfl, by (simp (disch := omega) [go_sem, *]) <;> (try omega), by (simp (disch := omega) [go_sem, *]) <;> (try omega), by (simp (disch := omega) [go_sem, *, decV]) <;> (try omega), by (simp (disch := omega) [go_sem, *]) <;> (try omega), by (simp (disch := omega) [go_sem, *]) <;> (try omega)⟩
        rintro fr B ⟨rfl, j, hj, hd, hix, hs0, h6, hx1, hx2⟩
        have hb := dec_bound hd (by omega)
        by_cases hc : j < s.length
        · have hnx := decV_take hc
          have hall := all_take hc
          rw [hd, Bool.true_and] at hall
          have hlt := (s[j]).toNat_lt
          by_cases hg : isDig s[j] = true
          · rw [hg] at hall
            have hg2 : 48 ≤ s[j].toNat ∧ s[j].toNat ≤ 57 := by simpa [isDig] using hg
            have hb2 := dec_bound hall (by omega)
            have hnx2 : (decV (s.take (j + 1)) : Int) = 10 * decV (s.take j) + (s[j].toNat - 48) := by omega
            rw [hnx] at hb2
            repeat' (first | (with_reducible (first | apply w_seq | apply w_region | apply w_block | apply w_skip | apply w_exit | apply w_ret | apply w_then | apply w_then_exit | apply w_then_ret | apply w_in | apply w_in_here | apply w_in_ret | apply w_round | apply o_nil | apply d_nil)) | ((with_reducible (first | apply w_in_exit)); rfl) | ((with_reducible (first | apply w_draw)); rfl) | ((first | ((with_reducible (first | apply o_op | apply d_op | apply q_op)); rfl; rfl) | ((with_reducible (first | apply w_cond | apply w_end | apply w_return))) | ((with_reducible (first | apply o_guard | apply d_guard | apply q_guard)); rfl)); all_goals (first | ((with_reducible show Is _ _); ((try simp (disch := first | omega | (simp only [yA, yB, yC, yD, yE] <;> omega) | fail) [go_sem, yF, yG, yH, *, if_pos, if_neg, -List.map_take, -List.map_drop, -List.map_append, -List.map_reverse]); exact rfl)) | ((fail_if_success (with_reducible show Is _ _)); (first | ((with_reducible refine fun (hc : (_ : Bool) = _) => ?_); (try simp only [xA, xB, xC, xD, xE, xF, xG, xH, reduceCtorEq, xI, xJ, xK, xL, xM, xN, xO, xP, xQ, xR] at hc); (try (have hx : True := hc; clear hx hc)); (try (exfalso; omega)); (try (with_reducible (exact absurd hc (by assumption)))); (try (with_reducible (exact absurd (by assumption) hc)))) | ((fail_if_success (with_reducible show ACall _ _ _ _ _)); (try ((with_reducible show _ ∨ _); first | exact .inl rfl | (refine .inr ⟨rfl, ?_, ?_⟩; (focus (repeat (first | exact trivial | refine ⟨.inl rfl, ?_⟩ | refine ⟨.inr rfl, ?_⟩))); (first | exact trivial | exact rfl))))))))))
            exact ⟨⟨rfl, j + 1, by omega, hall, by (simp (disch := omega) [go_sem, *]) <;> (try omega), by (simp (disch := omega) [go_sem, *]) <;> (try omega), by rw [hnx2] <;> (simp (disch := omega) [go_sem, *]) <;> (try omega), by (simp (disch := omega) [go_sem, *]) <;> (try omega), by (simp (disch := omega) [go_sem, *]) <;> (try omega)⟩, by (simp (disch := omega) [go_sem, *]) <;> (try omega)⟩
          · have hna := not_all hc (by simpa using hg)
            have e1 : decR 10 s = 0 ∧ decOk 10 s = false := by simp [decR, decOk, hna]
            have hg2 : s[j].toNat < 48 ∨ 57 < s[j].toNat := by
              have : ¬ (48 ≤ s[j].toNat ∧ s[j].toNat ≤ 57) := by simpa [isDig] using hg
              omega
            rw [e1.1, e1.2]
            rcases hg2 with hg2 | hg2
            · repeat' (first | (with_reducible (first | apply w_seq | apply w_region | apply w_block | apply w_skip | apply w_exit | apply w_ret | apply w_then | apply w_then_exit | apply w_then_ret | apply w_in | apply w_in_here | apply w_in_ret | apply w_round | apply o_nil | apply d_nil)) | ((with_reducible (first | apply w_in_exit)); rfl) | ((with_reducible (first | apply w_draw)); rfl) | ((first | ((with_reducible (first | apply o_op | apply d_op | apply q_op)); rfl; rfl) | ((with_reducible (first | apply w_cond | apply w_end | apply w_return))) | ((with_reducible (first | apply o_guard | apply d_guard | apply q_guard)); rfl)); all_goals (first | ((with_reducible show Is _ _); ((try simp (disch := first | omega | (simp only [yA, yB, yC, yD, yE] <;> omega) | fail) [go_sem, yF, yG, yH, *, if_pos, if_neg, -List.map_take, -List.map_drop, -List.map_append, -List.map_reverse]); exact rfl)) | ((fail_if_success (with_reducible show Is _ _)); (first | ((with_reducible refine fun (hc : (_ : Bool) = _) => ?_); (try simp only [xA, xB, xC, xD, xE, xF, xG, xH, reduceCtorEq, xI, xJ, xK, xL, xM, xN, xO, xP, xQ, xR] at hc); (try (have hx : True := hc; clear hx hc)); (try (exfalso; omega)); (try (with_reducible (exact absurd hc (by assumption)))); (try (with_reducible (exact absurd (by assumption) hc)))) | ((fail_if_success (with_reducible show ACall _ _ _ _ _)); (try ((with_reducible show _ ∨ _); first | exact .inl rfl | (refine .inr ⟨rfl, ?_, ?_⟩; (focus (repeat (first | exact trivial | refine ⟨.inl rfl, ?_⟩ | refine ⟨.inr rfl, ?_⟩))); (first | exact trivial | exact rfl))))))))))
              rfl
            · have hg3 : ¬ (s[j].toNat : Int) < 48 := by omega
              repeat' (first | (with_reducible (first | apply w_seq | apply w_region | apply w_block | apply w_skip | apply w_exit | apply w_ret | apply w_then | apply w_then_exit | apply w_then_ret | apply w_in | apply w_in_here | apply w_in_ret | apply w_round | apply o_nil | apply d_nil)) | ((with_reducible (first | apply w_in_exit)); rfl) | ((with_reducible (first | apply w_draw)); rfl) | ((first | ((with_reducible (first | apply o_op | apply d_op | apply q_op)); rfl; rfl) | ((with_reducible (first | apply w_cond | apply w_end | apply w_return))) | ((with_reducible (first | apply o_guard | apply d_guard | apply q_guard)); rfl)); all_goals (first | ((with_reducible show Is _ _); ((try simp (disch := first | omega | (simp only [yA, yB, yC, yD, yE] <;> omega) | fail) [go_sem, yF, yG, yH, *, if_pos, if_neg, -List.map_take, -List.map_drop, -List.map_append, -List.map_reverse]); exact rfl)) | ((fail_if_success (with_reducible show Is _ _)); (first | ((with_reducible refine fun (hc : (_ : Bool) = _) => ?_); (try simp only [xA, xB, xC, xD, xE, xF, xG, xH, reduceCtorEq, xI, xJ, xK, xL, xM, xN, xO, xP, xQ, xR] at hc); (try (have hx : True := hc; clear hx hc)); (try (exfalso; omega)); (try (with_reducible (exact absurd hc (by assumption)))); (try (with_reducible (exact absurd (by assumption) hc)))) | ((fail_if_success (with_reducible show ACall _ _ _ _ _)); (try ((with_reducible show _ ∨ _); first | exact .inl rfl | (refine .inr ⟨rfl, ?_, ?_⟩; (focus (repeat (first | exact trivial | refine ⟨.inl rfl, ?_⟩ | refine ⟨.inr rfl, ?_⟩))); (first | exact trivial | exact rfl))))))))))
              rfl
        · obtain rfl : j = s.length := by omega
          rw [List.take_length] at hd h6 hb
          have e1 : decOk 10 s = true := by simp only [decOk, hh, hd, Bool.and_self]
          rw [decR, if_pos e1, e1]
          repeat' (first | (with_reducible (first | apply w_seq | apply w_region | apply w_block | apply w_skip | apply w_exit | apply w_ret | apply w_then | apply w_then_exit | apply w_then_ret | apply w_in | apply w_in_here | apply w_in_ret | apply w_round | apply o_nil | apply d_nil)) | ((with_reducible (first | apply w_in_exit)); rfl) | ((with_reducible (first | apply w_draw)); rfl) | ((first | ((with_reducible (first | apply o_op | apply d_op | apply q_op)); rfl; rfl) | ((with_reducible (first | apply w_cond | apply w_end | apply w_return))) | ((with_reducible (first | apply o_guard | apply d_guard | apply q_guard)); rfl)); all_goals (first | ((with_reducible show Is _ _); ((try simp (disch := first | omega | (simp only [yA, yB, yC, yD, yE] <;> omega) | fail) [go_sem, yF, yG, yH, *, if_pos, if_neg, -List.map_take, -List.map_drop, -List.map_append, -List.map_reverse]); exact rfl)) | ((fail_if_success (with_reducible show Is _ _)); (first | ((with_reducible refine fun (hc : (_ : Bool) = _) => ?_); (try simp only [xA, xB, xC, xD, xE, xF, xG, xH, reduceCtorEq, xI, xJ, xK, xL, xM, xN, xO, xP, xQ, xR] at hc); (try (have hx : True := hc; clear hx hc)); (try (exfalso; omega)); (try (with_reducible (exact absurd hc (by assumption)))); (try (with_reducible (exact absurd (by assumption) hc)))) | ((fail_if_success (with_reducible show ACall _ _ _ _ _)); (try ((with_reducible show _ ∨ _); first | exact .inl rfl | (refine .inr ⟨rfl, ?_, ?_⟩; (focus (repeat (first | exact trivial | refine ⟨.inl rfl, ?_⟩ | refine ⟨.inr rfl, ?_⟩))); (first | exact trivial | exact rfl))))))))))
          rfl
  · obtain ⟨e1, e2⟩ := hbad (by simp [headOk]; omega)
    rw [e1, e2]
    repeat' (first | (with_reducible (first | apply w_seq | apply w_region | apply w_block | apply w_skip | apply w_exit | apply w_ret | apply w_then | apply w_then_exit | apply w_then_ret | apply w_in | apply w_in_here | apply w_in_ret | apply w_round | apply o_nil | apply d_nil)) | ((with_reducible (first | apply w_in_exit)); rfl) | ((with_reducible (first | apply w_draw)); rfl) | ((first | ((with_reducible (first | apply o_op | apply d_op | apply q_op)); rfl; rfl) | ((with_reducible (first | apply w_cond | apply w_end | apply w_return))) | ((with_reducible (first | apply o_guard | apply d_guard | apply q_guard)); rfl)); all_goals (first | ((with_reducible show Is _ _); ((try simp (disch := first | omega | (simp only [yA, yB, yC, yD, yE] <;> omega) | fail) [go_sem, yF, yG, yH, *, if_pos, if_neg, -List.map_take, -List.map_drop, -List.map_append, -List.map_reverse]); exact rfl)) | ((fail_if_success (with_reducible show Is _ _)); (first | ((with_reducible refine fun (hc : (_ : Bool) = _) => ?_); (try simp only [xA, xB, xC, xD, xE, xF, xG, xH, reduceCtorEq, xI, xJ, xK, xL, xM, xN, xO, xP, xQ, xR] at hc); (try (have hx : True := hc; clear hx hc)); (try (exfalso; omega)); (try (with_reducible (exact absurd hc (by assumption)))); (try (with_reducible (exact absurd (by assumption) hc)))) | ((fail_if_success (with_reducible show ACall _ _ _ _ _)); (try ((with_reducible show _ ∨ _); first | exact .inl rfl | (refine .inr ⟨rfl, ?_, ?_⟩; (focus (repeat (first | exact trivial | refine ⟨.inl rfl, ?_⟩ | refine ⟨.inr rfl, ?_⟩))); (first | exact trivial | exact rfl))))))))))
    rfl
def digV (c : UInt8) : Option Nat := if 48 ≤ c.toNat ∧ c.toNat ≤ 57 then some (c.toNat - 48) else if 97 ≤ c.toNat ∧ c.toNat ≤ 102 then some (c.toNat - 87) else if 65 ≤ c.toNat ∧ c.toNat ≤ 70 then some (c.toNat - 55) else none
def isHex (c : UInt8) : Bool := (digV c).isSome
def hexV (l : List UInt8) : Nat := l.foldl (fun n c => 16 * n + (digV c).getD 0) 0
def hexOk (s : List UInt8) : Bool := decide (1 ≤ s.length) && decide (s.length ≤ 4) && s.all isHex
def hexR (s : List UInt8) : Nat := if hexOk s then hexV s else 0
theorem hexV_app (l : List UInt8) (c : UInt8) : hexV (l ++ [c]) = 16 * hexV l + (digV c).getD 0 := by simp [hexV, List.foldl_append]
theorem hexV_take {l : List UInt8} {k : Nat} (h : k < l.length) : hexV (l.take (k + 1)) = 16 * hexV (l.take k) + (digV l[k]).getD 0 := by rw [List.take_succ_eq_append_getElem h, hexV_app]
theorem digV_lt {c : UInt8} {n : Nat} (h : digV c = some n) : n < 16 := by
  unfold digV at h
  split at h
  · simp at h; omega
  · split at h
    · simp at h; omega
    · split at h
      · simp at h; omega
      · cases h
theorem hexV_lt : ∀ (l : List UInt8), hexV l < 16 ^ l.length := by
  intro l
  suffices h : ∀ (l : List UInt8) (n k : Nat), n < 16 ^ k → l.foldl (fun n c => 16 * n + (digV c).getD 0) n < 16 ^ (k + l.length) by
    have := h l 0 0 (by decide); rwa [Nat.zero_add] at this
  intro l
  induction l with
  | nil => intro n k h; simpa using h
  | cons c l ih =>
    intro n k h
    have hc : (digV c).getD 0 < 16 := by
      cases hd : digV c with
      | none => simp
      | some v => simpa using digV_lt hd
    have := ih (16 * n + (digV c).getD 0) (k + 1) (by rw [Nat.pow_succ]; omega)
    rw [List.foldl_cons, List.length_cons, show k + (l.length + 1) = k + 1 + l.length by omega]
    exact this
theorem hex_bound {s : List UInt8} {j : Nat} (hj : j ≤ 4) : hexV (s.take j) ≤ 65535 := by
  have h1 := hexV_lt (s.take j)
  have h2 : (s.take j).length ≤ 4 := by rw [List.length_take]; omega
  have h3 : 16 ^ (s.take j).length ≤ 16 ^ 4 := Nat.pow_le_pow_right (by decide) h2
  omega
theorem hex_take {s : List UInt8} {j : Nat} (h : j < s.length) : (s.take (j + 1)).all isHex = ((s.take j).all isHex && isHex s[j]) := by
  rw [List.take_succ_eq_append_getElem h, List.all_append]; simp
theorem not_hex {s : List UInt8} {j : Nat} (h : j < s.length) (hn : digV s[j] = none) : s.all isHex = false := by
  rw [List.all_eq_false]
  exact ⟨s[j], List.getElem_mem h, by simp [isHex, hn]⟩
theorem digV_cases (c : UInt8) : (48 ≤ c.toNat ∧ c.toNat ≤ 57 ∧ digV c = some (c.toNat - 48)) ∨ (97 ≤ c.toNat ∧ c.toNat ≤ 102 ∧ digV c = some (c.toNat - 87)) ∨ (65 ≤ c.toNat ∧ c.toNat ≤ 70 ∧ digV c = some (c.toNat - 55)) ∨ (¬ (48 ≤ c.toNat ∧ c.toNat ≤ 57) ∧ ¬ (97 ≤ c.toNat ∧ c.toNat ≤ 102) ∧ ¬ (65 ≤ c.toNat ∧ c.toNat ≤ 70) ∧ digV c = none) := by
  unfold digV
  split
  · rename_i h; exact .inl ⟨h.1, h.2, rfl⟩
  · split
    · rename_i h; exact .inr (.inl ⟨h.1, h.2, rfl⟩)
    · split
      · rename_i h; exact .inr (.inr (.inl ⟨h.1, h.2, rfl⟩))
      · rename_i h1 h2 h3; exact .inr (.inr (.inr ⟨h1, h2, h3, rfl⟩))
theorem hexadecimal_in (s : List UInt8) (hs : s.length < 4611686018427387904) : PC Tryd.prog true 48 [.str s] (.tup [.int .i64 (hexR s), .bool (hexOk s)]) := by
  refine acall_intro mixed Tryd.func48 rfl ca48 (by kernel_rfl) (by rw [Tryd.ntmps48]; simp) ?_
  have hbad : hexOk s = false → hexR s = 0 := fun h => by simp [hexR, h]
  by_cases h0 : s.length = 0
  · have e := hbad (by simp [hexOk, h0])
    have : s = [] := List.eq_nil_of_length_eq_zero h0
    subst this
    repeat' (first | (with_reducible (first | apply w_seq | apply w_region | apply w_block | apply w_skip | apply w_exit | apply w_ret | apply w_then | apply w_then_exit | apply w_then_ret | apply w_in | apply w_in_here | apply w_in_ret | apply w_round | apply o_nil | apply d_nil)) | ((with_reducible (first | apply w_in_exit)); rfl) | ((with_reducible (first | apply w_draw)); rfl) | ((first | ((with_reducible (first | apply o_op | apply d_op | apply q_op)); rfl; rfl) | ((with_reducible (first | apply w_cond | apply w_end | apply w_return))) | ((with_reducible (first | apply o_guard | apply d_guard | apply q_guard)); rfl)); all_goals (first | ((with_reducible show Is _ _); ((try simp (disch := first | omega | (simp only [yA, yB, yC, yD, yE] <;> omega) | fail) [go_sem, yF, yG, yH, *, if_pos, if_neg, -List.map_take, -List.map_drop, -List.map_append, -List.map_reverse]); exact rfl)) | ((fail_if_success (with_reducible show Is _ _)); (first | ((with_reducible refine fun (hc : (_ : Bool) = _) => ?_); (try simp only [xA, xB, xC, xD, xE, xF, xG, xH, reduceCtorEq, xI, xJ, xK, xL, xM, xN, xO, xP, xQ, xR] at hc); (try (have hx : True := hc; clear hx hc)); (try (exfalso; omega)); (try (with_reducible (exact absurd hc (by assumption)))); (try (with_reducible (exact absurd (by assumption) hc)))) | ((fail_if_success (with_reducible show ACall _ _ _ _ _)); (try ((with_reducible show _ ∨ _); first | exact .inl rfl | (refine .inr ⟨rfl, ?_, ?_⟩; (focus (repeat (first | exact trivial | refine ⟨.inl rfl, ?_⟩ | refine ⟨.inr rfl, ?_⟩))); (first | exact trivial | exact rfl))))))))))
    rfl
  by_cases h10 : s.length ≤ 4
  · clear hbad
    repeat' (first | (with_reducible (first | apply w_seq | apply w_region | apply w_block | apply w_skip | apply w_exit | apply w_ret | apply w_then | apply w_then_exit | apply w_then_ret | apply w_in | apply w_in_here | apply w_in_ret | apply w_round | apply o_nil | apply d_nil)) | ((with_reducible (first | apply w_in_exit)); rfl) | ((with_reducible (first | apply w_draw)); rfl) | ((first | ((with_reducible (first | apply o_op | apply d_op | apply q_op)); rfl; rfl) | ((with_reducible (first | apply w_cond | apply w_end | apply w_return))) | ((with_reducible (first | apply o_guard | apply d_guard | apply q_guard)); rfl)); all_goals (first | ((with_reducible show Is _ _); ((try simp (disch := first | omega | (simp only [yA, yB, yC, yD, yE] <;> omega) | fail) [go_sem, yF, yG, yH, *, if_pos, if_neg, -List.map_take, -List.map_drop, -List.map_append, -List.map_reverse]); exact rfl)) | ((fail_if_success (with_reducible show Is _ _)); (first | ((with_reducible refine fun (hc : (_ : Bool) = _) => ?_); (try simp only [xA, xB, xC, xD, xE, xF, xG, xH, reduceCtorEq, xI, xJ, xK, xL, xM, xN, xO, xP, xQ, xR] at hc); (try (have hx : True := hc; clear hx hc)); (try (exfalso; omega)); (try (with_reducible (exact absurd hc (by assumption)))); (try (with_reducible (exact absurd (by assumption) hc)))) | ((fail_if_success (with_reducible show ACall _ _ _ _ _)); (try ((with_reducible show _ ∨ _); first | exact .inl rfl | (refine .inr ⟨rfl, ?_, ?_⟩; (focus (repeat (first | exact trivial | refine ⟨.inl rfl, ?_⟩ | refine ⟨.inr rfl, ?_⟩))); (first | exact trivial | exact rfl))))))))))
    refine w_loop (fun fr B => B = [] ∧ ∃ j : Nat, j ≤ s.length ∧ (s.take j).all isHex = true ∧ fr 17 = .int .i64 j ∧ fr 16 = .int .i64 s.length ∧ fr 0 = .str s ∧ fr 4 = .int .i64 (hexV (s.take j))) (fun fr _ => s.length - natOf (fr 17)) ?_ ?_
    · exact ⟨rfl, 0, by omega, rfl, by (simp (disch := omega) [go_sem, *]) <;> (try omega), by (simp (disch := omega) [go_sem, *]) <;> (try omega), by (simp (disch := omega) [go_sem, *]) <;> (try omega), by (simp (disch := omega) [go_sem, *, hexV]) <;> (try omega)⟩
    rintro fr B ⟨rfl, j, hj, hd, hix, h16, hs0, h4⟩
    have hb := hex_bound (s := s) (j := j) (by omega)
    by_cases hc : j < s.length
    · have hnx := hexV_take hc
      have hall := hex_take hc
      rw [hd, Bool.true_and] at hall
      have hlt := (s[j]).toNat_lt
      have hb2 := hex_bound (s := s) (j := j + 1) (by omega)
      rcases digV_cases s[j] with ⟨g1, g2, g3⟩ | ⟨g1, g2, g3⟩ | ⟨g1, g2, g3⟩ | ⟨g1, g2, g3, g4⟩
      · have hnx2 : (hexV (s.take (j + 1)) : Int) = 16 * hexV (s.take j) + (s[j].toNat - 48) := by rw [hnx, g3]; simp; omega
        rw [isHex, g3] at hall
        clear g3 hnx
        repeat' (first | (with_reducible (first | apply w_seq | apply w_region | apply w_block | apply w_skip | apply w_exit | apply w_ret | apply w_then | apply w_then_exit | apply w_then_ret | apply w_in | apply w_in_here | apply w_in_ret | apply w_round | apply o_nil | apply d_nil)) | ((with_reducible (first | apply w_in_exit)); rfl) | ((with_reducible (first | apply w_draw)); rfl) | ((first | ((with_reducible (first | apply o_op | apply d_op | apply q_op)); rfl; rfl) | ((with_reducible (first | apply w_cond | apply w_end | apply w_return))) | ((with_reducible (first | apply o_guard | apply d_guard | apply q_guard)); rfl)); all_goals (first | ((with_reducible show Is _ _); ((try simp (disch := first | omega | (simp only [yA, yB, yC, yD, yE] <;> omega) | fail) [go_sem, yF, yG, yH, *, if_pos, if_neg, -List.map_take, -List.map_drop, -List.map_append, -List.map_reverse]); exact rfl)) | ((fail_if_success (with_reducible show Is _ _)); (first | ((with_reducible refine fun (hc : (_ : Bool) = _) => ?_); (try simp only [xA, xB, xC, xD, xE, xF, xG, xH, reduceCtorEq, xI, xJ, xK, xL, xM, xN, xO, xP, xQ, xR] at hc); (try (have hx : True := hc; clear hx hc)); (try (exfalso; omega)); (try (with_reducible (exact absurd hc (by assumption)))); (try (with_reducible (exact absurd (by assumption) hc)))) | ((fail_if_success (with_reducible show ACall _ _ _ _ _)); (try ((with_reducible show _ ∨ _); first | exact .inl rfl | (refine .inr ⟨rfl, ?_, ?_⟩; (focus (repeat (first | exact trivial | refine ⟨.inl rfl, ?_⟩ | refine ⟨.inr rfl, ?_⟩))); (first | exact trivial | exact rfl))))))))))
        exact ⟨⟨rfl, j + 1, by omega, hall, by (simp (disch := omega) [go_sem, *]) <;> (try omega), by (simp (disch := omega) [go_sem, *]) <;> (try omega), by (simp (disch := omega) [go_sem, *]) <;> (try omega), by rw [hnx2] <;> (simp (disch := omega) [go_sem, *]) <;> (try omega)⟩, by (simp (disch := omega) [go_sem, *]) <;> (try omega)⟩
      · have hnx2 : (hexV (s.take (j + 1)) : Int) = 16 * hexV (s.take j) + (s[j].toNat - 97) + 10 := by rw [hnx, g3]; simp; omega
        rw [isHex, g3] at hall
        clear g3 hnx
        repeat' (first | (with_reducible (first | apply w_seq | apply w_region | apply w_block | apply w_skip | apply w_exit | apply w_ret | apply w_then | apply w_then_exit | apply w_then_ret | apply w_in | apply w_in_here | apply w_in_ret | apply w_round | apply o_nil | apply d_nil)) | ((with_reducible (first | apply w_in_exit)); rfl) | ((with_reducible (first | apply w_draw)); rfl) | ((first | ((with_reducible (first | apply o_op | apply d_op | apply q_op)); rfl; rfl) | ((with_reducible (first | apply w_cond | apply w_end | apply w_return))) | ((with_reducible (first | apply o_guard | apply d_guard | apply q_guard)); rfl)); all_goals (first | ((with_reducible show Is _ _); ((try simp (disch := first | omega | (simp only [yA, yB, yC, yD, yE] <;> omega) | fail) [go_sem, yF, yG, yH, *, if_pos, if_neg, -List.map_take, -List.map_drop, -List.map_append, -List.map_reverse]); exact rfl)) | ((fail_if_success (with_reducible show Is _ _)); (first | ((with_reducible refine fun (hc : (_ : Bool) = _) => ?_); (try simp only [xA, xB, xC, xD, xE, xF, xG, xH, reduceCtorEq, xI, xJ, xK, xL, xM, xN, xO, xP, xQ, xR] at hc); (try (have hx : True := hc; clear hx hc)); (try (exfalso; omega)); (try (with_reducible (exact absurd hc (by assumption)))); (try (with_reducible (exact absurd (by assumption) hc)))) | ((fail_if_success (with_reducible show ACall _ _ _ _ _)); (try ((with_reducible show _ ∨ _); first | exact .inl rfl | (refine .inr ⟨rfl, ?_, ?_⟩; (focus (repeat (first | exact trivial | refine ⟨.inl rfl, ?_⟩ | refine ⟨.inr rfl, ?_⟩))); (first | exact trivial | exact rfl))))))))))
        exact ⟨⟨rfl, j + 1, by omega, hall, by (simp (disch := omega) [go_sem, *]) <;> (try omega), by (simp (disch := omega) [go_sem, *]) <;> (try omega), by (simp (disch := omega) [go_sem, *]) <;> (try omega), by rw [hnx2] <;> (simp (disch := omega) [go_sem, *]) <;> (try omega)⟩, by (simp (disch := omega) [go_sem, *]) <;> (try omega)⟩
      · have hnx2 : (hexV (s.take (j + 1)) : Int) = 16 * hexV (s.take j) + (s[j].toNat - 65) + 10 := by rw [hnx, g3]; simp; omega
        rw [isHex, g3] at hall
        clear g3 hnx
        repeat' (first | (with_reducible (first | apply w_seq | apply w_region | apply w_block | apply w_skip | apply w_exit | apply w_ret | apply w_then | apply w_then_exit | apply w_then_ret | apply w_in | apply w_in_here | apply w_in_ret | apply w_round | apply o_nil | apply d_nil)) | ((with_reducible (first | apply w_in_exit)); rfl) | ((with_reducible (first | apply w_draw)); rfl) | ((first | ((with_reducible (first | apply o_op | apply d_op | apply q_op)); rfl; rfl) | ((with_reducible (first | apply w_cond | apply w_end | apply w_return))) | ((with_reducible (first | apply o_guard | apply d_guard | apply q_guard)); rfl)); all_goals (first | ((with_reducible show Is _ _); ((try simp (disch := first | omega | (simp only [yA, yB, yC, yD, yE] <;> omega) | fail) [go_sem, yF, yG, yH, *, if_pos, if_neg, -List.map_take, -List.map_drop, -List.map_append, -List.map_reverse]); exact rfl)) | ((fail_if_success (with_reducible show Is _ _)); (first | ((with_reducible refine fun (hc : (_ : Bool) = _) => ?_); (try simp only [xA, xB, xC, xD, xE, xF, xG, xH, reduceCtorEq, xI, xJ, xK, xL, xM, xN, xO, xP, xQ, xR] at hc); (try (have hx : True := hc; clear hx hc)); (try (exfalso; omega)); (try (with_reducible (exact absurd hc (by assumption)))); (try (with_reducible (exact absurd (by assumption) hc)))) | ((fail_if_success (with_reducible show ACall _ _ _ _ _)); (try ((with_reducible show _ ∨ _); first | exact .inl rfl | (refine .inr ⟨rfl, ?_, ?_⟩; (focus (repeat (first | exact trivial | refine ⟨.inl rfl, ?_⟩ | refine ⟨.inr rfl, ?_⟩))); (first | exact trivial | exact rfl))))))))))
        exact ⟨⟨rfl, j + 1, by omega, hall, by (simp (disch := omega) [go_sem, *]) <;> (try omega), by (simp (disch := omega) [go_sem, *]) <;> (try omega), by (simp (disch := omega) [go_sem, *]) <;> (try omega), by rw [hnx2] <;> (simp (disch := omega) [go_sem, *]) <;> (try omega)⟩, by (simp (disch := omega) [go_sem, *]) <;> (try omega)⟩
      · have hna := not_hex hc g4
        have e1 : hexOk s = false := by simp [hexOk, hna]
        rw [hexR, e1]
        clear g4 hnx
        have g5 : s[j].toNat < 48 ∨ (57 < s[j].toNat ∧ s[j].toNat < 65) ∨ (70 < s[j].toNat ∧ s[j].toNat < 97) ∨ 102 < s[j].toNat := by omega
        clear g1 g2 g3
        rcases g5 with g5 | g5 | g5 | g5 <;> (
          (repeat' (first | (with_reducible (first | apply w_seq | apply w_region | apply w_block | apply w_skip | apply w_exit | apply w_ret | apply w_then | apply w_then_exit | apply w_then_ret | apply w_in | apply w_in_here | apply w_in_ret | apply w_round | apply o_nil | apply d_nil)) | ((with_reducible (first | apply w_in_exit)); rfl) | ((with_reducible (first | apply w_draw)); rfl) | ((first | ((with_reducible (first | apply o_op | apply d_op | apply q_op)); rfl; rfl) | ((with_reducible (first | apply w_cond | apply w_end | apply w_return))) | ((with_reducible (first | apply o_guard | apply d_guard | apply q_guard)); rfl)); all_goals (first | ((with_reducible show Is _ _); ((try simp (disch := first | omega | (simp only [yA, yB, yC, yD, yE] <;> omega) | fail) [go_sem, yF, yG, yH, *, if_pos, if_neg, -List.map_take, -List.map_drop, -List.map_append, -List.map_reverse]); exact rfl)) | ((fail_if_success (with_reducible show Is _ _)); (first | ((with_reducible refine fun (hc : (_ : Bool) = _) => ?_); (try simp only [xA, xB, xC, xD, xE, xF, xG, xH, reduceCtorEq, xI, xJ, xK, xL, xM, xN, xO, xP, xQ, xR] at hc); (try (have hx : True := hc; clear hx hc)); (try (exfalso; omega)); (try (with_reducible (exact absurd hc (by assumption)))); (try (with_reducible (exact absurd (by assumption) hc)))) | ((fail_if_success (with_reducible show ACall _ _ _ _ _)); (try ((with_reducible show _ ∨ _); first | exact .inl rfl | (refine .inr ⟨rfl, ?_, ?_⟩; (focus (repeat (first | exact trivial | refine ⟨.inl rfl, ?_⟩ | refine ⟨.inr rfl, ?_⟩))); (first | exact trivial | exact rfl)))))))))))
          rfl)
    · obtain rfl : j = s.length := by omega
      rw [List.take_length] at hd h4 hb
      have e1 : hexOk s = true := by simp [hexOk, hd]; omega
      rw [hexR, if_pos e1, e1]
      repeat' (first | (with_reducible (first | apply w_seq | apply w_region | apply w_block | apply w_skip | apply w_exit | apply w_ret | apply w_then | apply w_then_exit | apply w_then_ret | apply w_in | apply w_in_here | apply w_in_ret | apply w_round | apply o_nil | apply d_nil)) | ((with_reducible (first | apply w_in_exit)); rfl) | ((with_reducible (first | apply w_draw)); rfl) | ((first | ((with_reducible (first | apply o_op | apply d_op | apply q_op)); rfl; rfl) | ((with_reducible (first | apply w_cond | apply w_end | apply w_return))) | ((with_reducible (first | apply o_guard | apply d_guard | apply q_guard)); rfl)); all_goals (first | ((with_reducible show Is _ _); ((try simp (disch := first | omega | (simp only [yA, yB, yC, yD, yE] <;> omega) | fail) [go_sem, yF, yG, yH, *, if_pos, if_neg, -List.map_take, -List.map_drop, -List.map_append, -List.map_reverse]); exact rfl)) | ((fail_if_success (with_reducible show Is _ _)); (first | ((with_reducible refine fun (hc : (_ : Bool) = _) => ?_); (try simp only [xA, xB, xC, xD, xE, xF, xG, xH, reduceCtorEq, xI, xJ, xK, xL, xM, xN, xO, xP, xQ, xR] at hc); (try (have hx : True := hc; clear hx hc)); (try (exfalso; omega)); (try (with_reducible (exact absurd hc (by assumption)))); (try (with_reducible (exact absurd (by assumption) hc)))) | ((fail_if_success (with_reducible show ACall _ _ _ _ _)); (try ((with_reducible show _ ∨ _); first | exact .inl rfl | (refine .inr ⟨rfl, ?_, ?_⟩; (focus (repeat (first | exact trivial | refine ⟨.inl rfl, ?_⟩ | refine ⟨.inr rfl, ?_⟩))); (first | exact trivial | exact rfl))))))))))
      rfl
  · have e2 : hexOk s = false := by simp [hexOk]; omega
    have e := hbad e2
    rw [e, e2]
    repeat' (first | (with_reducible (first | apply w_seq | apply w_region | apply w_block | apply w_skip | apply w_exit | apply w_ret | apply w_then | apply w_then_exit | apply w_then_ret | apply w_in | apply w_in_here | apply w_in_ret | apply w_round | apply o_nil | apply d_nil)) | ((with_reducible (first | apply w_in_exit)); rfl) | ((with_reducible (first | apply w_draw)); rfl) | ((first | ((with_reducible (first | apply o_op | apply d_op | apply q_op)); rfl; rfl) | ((with_reducible (first | apply w_cond | apply w_end | apply w_return))) | ((with_reducible (first | apply o_guard | apply d_guard | apply q_guard)); rfl)); all_goals (first | ((with_reducible show Is _ _); ((try simp (disch := first | omega | (simp only [yA, yB, yC, yD, yE] <;> omega) | fail) [go_sem, yF, yG, yH, *, if_pos, if_neg, -List.map_take, -List.map_drop, -List.map_append, -List.map_reverse]); exact rfl)) | ((fail_if_success (with_reducible show Is _ _)); (first | ((with_reducible refine fun (hc : (_ : Bool) = _) => ?_); (try simp only [xA, xB, xC, xD, xE, xF, xG, xH, reduceCtorEq, xI, xJ, xK, xL, xM, xN, xO, xP, xQ, xR] at hc); (try (have hx : True := hc; clear hx hc)); (try (exfalso; omega)); (try (with_reducible (exact absurd hc (by assumption)))); (try (with_reducible (exact absurd (by assumption) hc)))) | ((fail_if_success (with_reducible show ACall _ _ _ _ _)); (try ((with_reducible show _ ∨ _); first | exact .inl rfl | (refine .inr ⟨rfl, ?_, ?_⟩; (focus (repeat (first | exact trivial | refine ⟨.inl rfl, ?_⟩ | refine ⟨.inr rfl, ?_⟩))); (first | exact trivial | exact rfl))))))))))
    rfl
theorem decimal_at {B : List Box} {s : List UInt8} {lim : Int} (hs : s.length < 4611686018427387904) : ACall Tryd.prog 47 [.str s, .int .i64 lim] B fun c B' => c = .tup [.int .i64 (decR 10 s), .bool (decOk 10 s && decide ((decR 10 s : Int) ≤ lim))] ∧ B' = B := acall_fresh (nz := false) rfl (decimal_in s lim hs)
theorem hexadecimal_at {B : List Box} {s : List UInt8} (hs : s.length < 4611686018427387904) : ACall Tryd.prog 48 [.str s] B fun c B' => c = .tup [.int .i64 (hexR s), .bool (hexOk s)] ∧ B' = B := acall_fresh (nz := false) rfl (hexadecimal_in s hs)
end Go.Proofs.YtdceppjoipoohaaDoor
end
section
namespace Go.Proofs.YtdceppjoipoohaaDoor
open Go Go.Sy
set_option linter.all false
set_option maxRecDepth 100000
set_option maxHeartbeats 4000000
theorem byte_nat (n : Nat) (h : n < 256) : byteC (UInt8.ofNat n) = .int .u8 (n : Int) := by
  rw [byteC]; congr 1; simp; omega
theorem decDigits_len : ∀ (k n : Nat), n < 10 ^ (k + 1) → (Go.Lib.decDigits n).length ≤ k + 1
  | 0, n, h => by
    rw [Go.Lib.decDigits, dif_pos (by simpa using h)]; simp
  | k + 1, n, h => by
    rw [Go.Lib.decDigits]
    split
    · simp
    · rw [List.length_append]
      have := decDigits_len k (n / 10) (by rw [Nat.pow_succ] at h; omega)
      simp only [List.length_singleton]; omega
def lastJ (s : List UInt8) : Nat → Int
  | 0 => -1
  | j + 1 => if s[j]? = some 58 then j else lastJ s j
end Go.Proofs.YtdceppjoipoohaaDoor
end
section
namespace Go.Proofs.YtdceppjoipoohaaDoor
open Go Go.Sy
set_option linter.all false
set_option maxRecDepth 100000
set_option maxHeartbeats 4000000
theorem splitL_cons {b c : UInt8} {s : List UInt8} {x : List UInt8} {xs : List (List UInt8)} (h : splitL b s = x :: xs) (hc : c ≠ b) : splitL b (c :: s) = (c :: x) :: xs := by rw [splitL, if_neg hc, h]
end Go.Proofs.YtdceppjoipoohaaDoor
end
