/- Lemmas and definitions of this claim (own texts, joined by a program; what the claim does not use is left out). -/
import Derived.Test.YtcbdghgogmcllaaGreatDoorSr5
set_option linter.all false
set_option maxRecDepth 100000
set_option maxHeartbeats 4000000
section
namespace Go.Proofs.YtcbdghgogmcllaaGreatDoor
open Go Go.Sy
open Go.RowKit (Below)
theorem Below.grow' {w : World} (os : Array Obj) : Below w.heap.size w (Go.Sort.grow w os) := ⟨rfl, rfl, rfl, by simp [Go.Sort.grow], fun k hk => by simp [Go.Sort.grow, Array.getElem?_append, hk]⟩
theorem row_whole {w : World} {g : Nat} {vs : List Value} (h0 : vs ≠ []) (h : ∀ j : Nat, w.cell? ⟨g, j, none⟩ = vs[j]?) : ∃ cs ty fz, w.heap[g]? = some (.cells cs ty fz) ∧ cs.toList = vs := by
  have hx : ∀ j : Nat, w.cell? ⟨g, j, none⟩ = match w.heap[g]? with | some (.cells cs _ _) => cs[j]? | _ => none := fun j => by
    unfold World.cell?
    cases w.heap[g]? with
    | none => rfl
    | some o => cases o <;> rfl
  cases hg : w.heap[g]? with
  | none =>
    have := h 0
    rw [hx, hg] at this
    cases vs with
    | nil => exact absurd rfl h0
    | cons => cases this
  | some o =>
    cases o with
    | cells cs ty fz =>
      refine ⟨cs, ty, fz, rfl, List.ext_getElem? fun j => ?_⟩
      have := h j
      rw [hx, hg] at this
      rw [Array.getElem?_toList]
      exact this
    | _ =>
      have := h 0
      rw [hx, hg] at this
      cases vs with
      | nil => exact absurd rfl h0
      | cons => cases this
theorem tab_is {I : Nat → Nat → Prop} {w : World} (h : TabsOk I w) : Go.Lib.TabIs Tryz.prog w "internal/strconv.uint64pow10" .u64 Go.Lib.pow10Tab := by
  obtain ⟨cs, ty, fz, h1, h2⟩ := row_whole (g := 1) (vs := Go.Lib.pow10Tab.map fun z => Value.int .u64 z) (by simp [Go.Lib.pow10Tab]) fun j => by
    rw [(h.1 1 .u64 _ rfl j).1, List.getElem?_map]; rfl
  unfold Go.Lib.TabIs World.var?
  have hn : Tryz.prog.globalNamed "internal/strconv.uint64pow10" = some 1 := by kernel_rfl
  rw [hn]
  simp only [Option.bind_some, h1]
  rw [← h2]
theorem max_is {I : Nat → Nat → Prop} {w : World} (h : TabsOk I w) : ∃ m, w.cell? ⟨0, 0, none⟩ = some (.int .i64 m) := (h.2.1 0 (by simp [tabInts])).2
theorem itoa_at {B : List Box} {n : Int} (h : -9223372036854775808 ≤ n ∧ n ≤ 9223372036854775807) : ACall Tryz.prog 83 [.int .i64 n] B fun c B' => c = .str (Go.Lib.itoa n) ∧ B' = B :=
  acall_of_calls (Q := fun c => c = .str (Go.Lib.itoa n)) (by kernel_rfl) fun I μ w vs ht hI hv => by
    obtain ⟨ws, rfl, hv2⟩ := R.int_cons hv
    obtain rfl := R.none hv2
    refine (Tryz.strconv_Itoa n h.1 h.2 w (tab_is ht)).mono fun e w' ⟨he, k, os, hw⟩ => ?_
    subst hw
    exact ⟨_, _, he, rfl, (Below.drewN' k).trans (by have := Below.grow' (w := w.drewN k) os; exact this), .str _ (.nil _)⟩
theorem fmt10_at {B : List Box} {n : Int} (h : -9223372036854775808 ≤ n ∧ n ≤ 9223372036854775807) : ACall Tryz.prog 77 [.int .i64 n, .int .i64 10] B fun c B' => c = .str (Go.Lib.itoa n) ∧ B' = B :=
  acall_of_calls (Q := fun c => c = .str (Go.Lib.itoa n)) (by kernel_rfl) fun I μ w vs ht hI hv => by
    obtain ⟨ws, rfl, hv2⟩ := R.int_cons hv
    obtain ⟨ws, rfl, hv3⟩ := R.int_cons hv2
    obtain rfl := R.none hv3
    refine (Tryz.strconv_FormatInt_10 n h.1 h.2 w (tab_is ht)).mono fun e w' ⟨he, k, os, hw⟩ => ?_
    subst hw
    exact ⟨_, _, he, rfl, (Below.drewN' k).trans (by have := Below.grow' (w := w.drewN k) os; exact this), .str _ (.nil _)⟩
theorem lastIndex_at {B : List Box} {s t : List UInt8} (h : s.length < 4611686018427387904) : ACall Tryz.prog 109 [.str s, .str t] B fun c B' => c = .int .i64 (Go.Lib.lastIndex s t) ∧ B' = B :=
  acall_of_calls (Q := fun c => c = .int .i64 (Go.Lib.lastIndex s t)) (by kernel_rfl) fun I μ w vs ht hI hv => by
    obtain ⟨ws, rfl, hv2⟩ := R.str_cons hv
    obtain ⟨ws, rfl, hv3⟩ := R.str_cons hv2
    obtain rfl := R.none hv3
    refine (Tryz.strings_LastIndex ⟨s.toArray⟩ ⟨t.toArray⟩ h w).mono fun e w' ⟨he, hw⟩ => ?_
    subst hw
    exact ⟨_, _, he, by simp, Below.same, .int _ _ (.nil _)⟩
theorem hasPrefix_at {B : List Box} {s t : List UInt8} : ACall Tryz.prog 111 [.str s, .str t] B fun c B' => c = .bool (Go.Lib.hasPrefix s t) ∧ B' = B :=
  acall_of_calls (Q := fun c => c = .bool (Go.Lib.hasPrefix s t)) (by kernel_rfl) fun I μ w vs ht hI hv => by
    obtain ⟨ws, rfl, hv2⟩ := R.str_cons hv
    obtain ⟨ws, rfl, hv3⟩ := R.str_cons hv2
    obtain rfl := R.none hv3
    refine (Tryz.strings_HasPrefix ⟨s.toArray⟩ ⟨t.toArray⟩ w).mono fun e w' ⟨he, hw⟩ => ?_
    subst hw
    exact ⟨_, _, he, by simp, Below.same, .bool _ (.nil _)⟩
theorem hasSuffix_at {B : List Box} {s t : List UInt8} (h : s.length < 4611686018427387904) : ACall Tryz.prog 112 [.str s, .str t] B fun c B' => c = .bool (Go.Lib.hasSuffix s t) ∧ B' = B :=
  acall_of_calls (Q := fun c => c = .bool (Go.Lib.hasSuffix s t)) (by kernel_rfl) fun I μ w vs ht hI hv => by
    obtain ⟨ws, rfl, hv2⟩ := R.str_cons hv
    obtain ⟨ws, rfl, hv3⟩ := R.str_cons hv2
    obtain rfl := R.none hv3
    refine (Tryz.strings_HasSuffix ⟨s.toArray⟩ ⟨t.toArray⟩ w (by show s.length ≤ _; omega)).mono fun e w' ⟨he, hw⟩ => ?_
    subst hw
    exact ⟨_, _, he, by simp, Below.same, .bool _ (.nil _)⟩
def splitL (b : UInt8) : List UInt8 → List (List UInt8)
  | [] => [[]]
  | c :: s => if c = b then [] :: splitL b s else match splitL b s with
    | [] => [[c]]
    | x :: xs => (c :: x) :: xs
theorem splitL_ne (b : UInt8) : ∀ s, splitL b s ≠ []
  | [] => by simp [splitL]
  | c :: s => by
    rw [splitL]
    split
    · simp
    · split <;> simp
theorem index_one (b c : UInt8) (s : List UInt8) : Go.Lib.index (c :: s) [b] = if c = b then 0 else if Go.Lib.index s [b] = -1 then -1 else Go.Lib.index s [b] + 1 := by
  rw [Go.Lib.index]
  by_cases h : c = b
  · subst h; simp [List.isPrefixOf]
  · have : (b == c) = false := by simpa using Ne.symm h
    simp [List.isPrefixOf, this, h]
theorem splitL_miss (b : UInt8) : ∀ s : List UInt8, Go.Lib.index s [b] = -1 → splitL b s = [s]
  | [], _ => rfl
  | c :: s, h => by
    rw [index_one] at h
    have hg := Go.Lib.index_ge s [b]
    split at h
    · omega
    · rename_i hc
      split at h
      · rename_i h1
        rw [splitL, if_neg hc, splitL_miss b s h1]
      · omega
theorem splitL_hit (b : UInt8) : ∀ (s : List UInt8) (i : Nat), Go.Lib.index s [b] = i → splitL b s = s.take i :: splitL b (s.drop (i + 1))
  | [], i, h => by simp [Go.Lib.index] at h
  | c :: s, i, h => by
    rw [index_one] at h
    have hg := Go.Lib.index_ge s [b]
    split at h
    · rename_i hc
      have : i = 0 := by omega
      subst this
      rw [splitL, if_pos hc]; simp
    · rename_i hc
      split at h
      · omega
      · obtain ⟨k, rfl⟩ : ∃ k, i = k + 1 := ⟨i - 1, by omega⟩
        rw [splitL, if_neg hc, splitL_hit b s k (by omega)]
        simp
theorem splitK_one (b : UInt8) : ∀ (k : Nat) (s : List UInt8), s.count b = k → Go.Lib.splitK [b] 0 k s = splitL b s := by
  intro k
  induction k with
  | zero =>
    intro s hs
    have : Go.Lib.index s [b] = -1 := by
      induction s with
      | nil => simp [Go.Lib.index]
      | cons c s ih =>
        rw [List.count_cons] at hs
        by_cases hc : c = b
        · subst hc; simp at hs
        · rw [index_one, if_neg hc, if_pos (ih (by omega))]
    rw [splitL_miss b s this]; rfl
  | succ k ih =>
    intro s hs
    rw [Go.Lib.splitK]
    have hg := Go.Lib.index_ge s [b]
    by_cases hm : Go.Lib.index s [b] = -1
    · exfalso
      have key : ∀ s : List UInt8, Go.Lib.index s [b] = -1 → s.count b = 0 := by
        intro s
        induction s with
        | nil => simp
        | cons c s ih =>
          intro h
          rw [index_one] at h
          have hg := Go.Lib.index_ge s [b]
          split at h
          · omega
          · rename_i hc
            split at h
            · rename_i h1
              rw [List.count_cons, ih h1]; simp [hc]
            · omega
      rw [key s hm] at hs
      omega
    · obtain ⟨i, hi⟩ : ∃ i : Nat, Go.Lib.index s [b] = i := ⟨(Go.Lib.index s [b]).toNat, by omega⟩
      rw [splitL_hit b s i hi, hi, if_neg (by simp)]
      have hcount : ∀ (s : List UInt8) (i : Nat), Go.Lib.index s [b] = i → s.count b = (s.drop (i + 1)).count b + 1 := by
        intro s
        induction s with
        | nil => intro i h; simp [Go.Lib.index] at h
        | cons c s ih =>
          intro i h
          rw [index_one] at h
          have hg := Go.Lib.index_ge s [b]
          split at h
          · rename_i hc
            have : i = 0 := by omega
            subst this hc
            simp
          · rename_i hc
            split at h
            · omega
            · obtain ⟨k, rfl⟩ : ∃ k, i = k + 1 := ⟨i - 1, by omega⟩
              rw [List.count_cons, ih k (by omega)]; simp [hc]
      have := hcount s i hi
      rw [← ih (s.drop (i + 1)) (by omega)]
      simp
theorem strs_rel {I : Nat → Nat → Prop} {μ : List (List Go.Sy.Place)} {w : World} : ∀ L : List (List UInt8), R I μ w true (L.map CV.str) (L.map fun l => Value.string ⟨l.toArray⟩)
  | [] => .nil _
  | l :: L => .str l (strs_rel L)
theorem split_at {B : List Box} {s : List UInt8} {b : UInt8} (h : s.length < 4294967281) : ACall Tryz.prog 45 [.str s, .str [b]] B fun c B' => c = .lst (splitL b s).length ((splitL b s).map .str) true ∧ B' = B :=
  acall_of_calls (Q := fun c => c = .lst (splitL b s).length ((splitL b s).map .str) true) (by kernel_rfl) fun I μ w vs ht hI hv => by
    obtain ⟨ws, rfl, hv2⟩ := R.str_cons hv
    obtain ⟨ws, rfl, hv3⟩ := R.str_cons hv2
    obtain rfl := R.none hv3
    obtain ⟨m, hm⟩ := max_is ht
    have hc : Go.Lib.countB ⟨s.toArray⟩ ⟨[b].toArray⟩ = s.count b := by
      have : Go.Lib.countB ⟨s.toArray⟩ ⟨[b].toArray⟩ = Go.Lib.count s [b] := rfl
      rw [this, Go.Lib.count_one]
    have hk := Go.Lib.splitB_data ⟨[b].toArray⟩ 0 (s.count b) ⟨s.toArray⟩
    have e1 : (⟨s.toArray⟩ : ByteArray).data.toList = s := by simp
    have e2 : (⟨[b].toArray⟩ : ByteArray).data.toList = [b] := by simp
    rw [e1, e2, splitK_one b _ s rfl] at hk
    have hl : s.count b + 1 = (splitL b s).length := by
      rw [← hk, List.length_map, Go.Lib.splitB_all ⟨[b].toArray⟩ (Nat.le_refl 1) 0 (s.count b) ⟨s.toArray⟩ hc]
    have hx : (Go.Lib.splitB ⟨[b].toArray⟩ 0 (s.count b) ⟨s.toArray⟩).map Value.string = (splitL b s).map fun l => Value.string ⟨l.toArray⟩ := by
      rw [← hk, List.map_map]
      congr 1
    refine (Tryz.strings_Split ⟨s.toArray⟩ ⟨[b].toArray⟩ m w h hm (Nat.le_refl 1)).mono fun e w' ⟨he, hw⟩ => ?_
    rw [hc, hl] at he
    rw [hc, hx] at hw
    have hp : w'.heap = w.heap.push (.cells ((splitL b s).map fun l => Value.string ⟨l.toArray⟩).toArray 9) := by rw [hw]; rfl
    have hbel : Below w.heap.size w w' := Below.of_heap (Nat.le_refl _) hp (by rw [hw]; rfl) (by rw [hw]; rfl) (by rw [hw]; rfl)
    refine ⟨_, _, he, rfl, hbel, ?_⟩
    have hcell : ∀ (j : Nat) (v : Value), ((splitL b s).map fun l => Value.string ⟨l.toArray⟩)[j]? = some v → w'.cell? ⟨w.heap.size, 0 + j, none⟩ = some v := fun j v hj => by
      simp only [World.cell?, push_new hp, Nat.zero_add]
      simp
      simpa using hj
    exact .lst _ true w.heap.size 0 _ (strs_rel _) (fun j v hj => ⟨hcell j v hj, .inr ⟨Nat.le_refl _, by rw [hp]; simp⟩⟩) (Nat.le_refl _) (fun _ => rfl) (.nil _)
theorem str_vals : ∀ (L : List (List UInt8)) {I : Nat → Nat → Prop} {μ : List (List Go.Sy.Place)} {w : World} {vs : List Value}, R I μ w true (L.map CV.str) vs → vs = L.map fun l => Value.string ⟨l.toArray⟩
  | [], _, _, _, _, h => R.none h
  | l :: L, _, _, _, _, h => by
    obtain ⟨ws, rfl, h2⟩ := R.str_cons h
    rw [str_vals L h2]; rfl
theorem join_in {L : List (List UInt8)} {t : List UInt8} {f : Bool} (hL : L.length < 1099511627776) (hl : (Go.Lib.join L t).length < 1099511627776) : ACall Tryz.prog 48 [.lst L.length (L.map .str) f, .str t] [] fun c B' => c = .str (Go.Lib.join L t) ∧ B' = [] :=
  acall_of_calls (Q := fun c => c = .str (Go.Lib.join L t)) (by kernel_rfl) fun I μ w vs ht hI hv => by
    obtain ⟨v0, ws, rfl⟩ : ∃ v0 ws, vs = v0 :: ws := by
      cases vs with
      | nil => have := hv.len; simp at this
      | cons a b => exact ⟨a, b, rfl⟩
    obtain ⟨hv1, _, hv2⟩ := hv.head
    obtain ⟨ws, rfl, hv3⟩ := R.str_cons hv2
    obtain rfl := R.none hv3
    have none_ : L = [] → ∀ A cap, v0 = .slice A 0 cap → Calls Tryz.prog 48 [v0, .string ⟨t.toArray⟩].toArray w fun e w' => ∃ c v, e = .returned v ∧ c = .str (Go.Lib.join L t) ∧ Below w.heap.size w w' ∧ V (fun b j => I b j ∨ (w.heap.size ≤ b ∧ b < w'.heap.size)) μ w' c v := fun hLL A cap hv0 => by
      subst hLL hv0
      refine (Tryz.strings_Join_none A cap ⟨t.toArray⟩ w).mono fun e w' ⟨he, hw⟩ => ?_
      subst hw
      exact ⟨_, _, he, by simp [Go.Lib.join, List.intercalate], Below.same, .str _ (.nil _)⟩
    rcases hv1.lst_inv with ⟨b, o, cap, us, h1, h, hm, hn, hf⟩ | ⟨A, h1, h2, _⟩
    · have hbs := str_vals L h
      subst hbs
      have hj : (L.map fun l => (⟨l.toArray⟩ : ByteArray)).map (·.data.toList) = L := by rw [List.map_map]; simp [Function.comp_def]
      by_cases hLL : L = []
      · exact none_ hLL _ _ (by rw [h1, hLL]; rfl)
      · subst h1
        have hbk : b < w.heap.size := by
          cases hL2 : L with
          | nil => exact absurd hL2 hLL
          | cons x xs => exact hI _ _ (hm 0 (Value.string ⟨x.toArray⟩) (by rw [hL2]; rfl)).2
        have := Tryz.strings_Join b o cap (L.map fun l => (⟨l.toArray⟩ : ByteArray)) ⟨t.toArray⟩ w (fun j y hy => by
          rw [List.getElem?_map, Option.map_eq_some_iff] at hy
          obtain ⟨l, hl, rfl⟩ := hy
          exact (hm j _ (by rw [List.getElem?_map, hl]; rfl)).1) hbk (by rw [List.length_map]; omega) (by rw [List.length_map]; exact hn) (by rw [hj]; show (Go.Lib.join L t).length ≤ _; omega)
        rw [hj, List.length_map] at this
        refine this.mono fun e w' ⟨he, hw⟩ => ?_
        exact ⟨_, _, he, rfl, hw, .str _ (.nil _)⟩
    · have hLL : L = [] := List.eq_nil_of_length_eq_zero (by first | exact h2 | omega)
      exact none_ hLL _ _ (by first | exact h1 | (rw [h1, hLL]; rfl))
theorem join_at {B : List Box} {args : List CV} {n : Nat} {L : List (List UInt8)} {t : List UInt8} {f : Bool} (hz : Is (omap (Go.Sy.fz true false B 6) args) (some [.lst n (L.map .str) f, .str t])) (hn : n = L.length) (hL : L.length < 1099511627776) (hl : (Go.Lib.join L t).length < 1099511627776) :
    ACall Tryz.prog 48 args B fun c B' => c = .str (Go.Lib.join L t) ∧ B' = B := by
  subst hn
  exact acall_fresh hz ((join_in hL hl).mono fun c B' ⟨h, _⟩ => by rw [h]; rfl)
end Go.Proofs.YtcbdghgogmcllaaGreatDoor
end
section
namespace Go.Proofs.YtcbdghgogmcllaaGreatDoor
open Go Go.Sy
def hexD (d : Nat) : UInt8 := if d < 10 then UInt8.ofNat (48 + d) else UInt8.ofNat (87 + d)
def hexT (u : Nat) : List UInt8 :=
  if h : u < 16 then [hexD u] else hexT (u / 16) ++ [hexD (u % 16)]
termination_by u
decreasing_by omega
theorem tz_at {B : List Box} : ACall Tryz.prog 161 [.int .u64 16] B fun c B' => c = .int .i64 4 ∧ B' = B := by
  have h64 : ∀ {B : List Box} {args : List CV}, Is args [.int .u64 16] → ACall Tryz.prog 176 args B fun c B' => c = .int .i64 4 ∧ B' = B := fun {B args} h => by
    have h : _ = _ := h
    subst h
    refine acall_intro mixed Tryz.func176 rfl ca176 (by kernel_rfl) (by rw [Tryz.ntmps176]; simp) ?_
    have e1 : bits .and .u64 16 (IntKind.u64.wrap (-16)) = 16 := by decide
    have ht : tab 7 = some (.u8, [0, 1, 56, 2, 57, 49, 28, 3, 61, 58, 42, 50, 38, 29, 17, 4, 62, 47, 59, 36, 45, 43, 51, 22, 53, 39, 33, 30, 24, 18, 12, 5, 63, 55, 48, 27, 60, 41, 37, 16, 46, 35, 44, 21, 52, 32, 23, 11, 54, 26, 40, 15, 34, 20, 31, 10, 25, 14, 19, 9, 13, 8, 7, 6]) := rfl
    refine w0 ?_ 
    exact ⟨rfl, rfl⟩
  refine acall_intro mixed Tryz.func161 rfl ca161 (by kernel_rfl) (by rw [Tryz.ntmps161]; simp) ?_
  refine w1 @h64 ?_ 
  exact ⟨rfl, rfl⟩
theorem pow2_at {B : List Box} {args : List CV} (ha : Is args [.int .i64 16]) : ACall Tryz.prog 160 args B fun c B' => c = .bool true ∧ B' = B := by
  have h : _ = _ := ha
  subst h
  have e1 : bits .and .i64 16 15 = 0 := by decide
  refine acall_intro mixed Tryz.func160 rfl ca160 (by kernel_rfl) (by rw [Tryz.ntmps160]; simp) ?_
  refine w0 ?_ 
  exact ⟨rfl, rfl⟩
theorem digs_at : ∀ d : Fin 16, ([48, 49, 50, 51, 52, 53, 54, 55, 56, 57, 97, 98, 99, 100, 101, 102, 103, 104, 105, 106, 107, 108, 109, 110, 111, 112, 113, 114, 115, 116, 117, 118, 119, 120, 121, 122] : List UInt8)[d.1]? = some (hexD d.1) := by decide
theorem digs_get {d : Nat} (h : d < 16) (h2 : d < 36) : ([48, 49, 50, 51, 52, 53, 54, 55, 56, 57, 97, 98, 99, 100, 101, 102, 103, 104, 105, 106, 107, 108, 109, 110, 111, 112, 113, 114, 115, 116, 117, 118, 119, 120, 121, 122] : List UInt8)[d]'h2 = hexD d := by
  have := digs_at ⟨d, h⟩
  rw [List.getElem?_eq_getElem (by exact h2)] at this
  exact Option.some.inj this
theorem fmtBits_in (n : Nat) (hn : n < 65536) : PC Tryz.prog true 144 [.nilS, .int .u64 n, .int .i64 16, .bool false, .bool false] (.tup [.lst 0 [] false, .str (hexT n)]) := by
  have htz : ∀ {B : List Box} {args : List CV}, Is args [.int .u64 16] → ACall Tryz.prog 161 args B fun c B' => c = .int .i64 4 ∧ B' = B := fun h => by
    have h : _ = _ := h
    subst h
    exact tz_at
  have hr := rep_bytes 65
  refine acall_intro mixed Tryz.func144 rfl ca144 (by kernel_rfl) (by rw [Tryz.ntmps144]; simp) ?_
  refine w2 @htz @pow2_at ?_ 
  refine w_loop (fun fr B => ∃ (u i : Nat) (t : List UInt8), hexT n = hexT u ++ t ∧ ((t.length = 0 ∧ u < 65536) ∨ (t.length = 1 ∧ u < 4096) ∨ (t.length = 2 ∧ u < 256) ∨ (t.length = 3 ∧ u < 16)) ∧ i + t.length = 65 ∧ fr 1 = .int .u64 u ∧ fr 13 = .int .i64 i ∧ fr 12 = .ptr 0 0 ∧ fr 14 = .int .u64 4 ∧ fr 15 = .int .u64 16 ∧ fr 16 = .int .u64 15 ∧ fr 0 = .nilS ∧ fr 3 = .bool false ∧ fr 4 = .bool false ∧ fr 10 = .nilS ∧ B = [⟨(List.replicate i (0 : UInt8) ++ t).map byteC, false⟩]) (fun fr _ => natOf (fr 1)) ?_ ?_
  · exact ⟨n, 65, [], by simp, .inl ⟨rfl, hn⟩, rfl, kS, kS, kS, kS, kS, kS, kS, kS, kS, kS, rfl⟩
  clear hr
  rintro fr B ⟨u, i, t, he, hu, hi, h1, h13, h12, h14, h15, h16, h0, h3, h4, h10, rfl⟩
  have hul : u < 65536 := by omega
  obtain ⟨k, rfl⟩ : ∃ k, i = k + 1 := ⟨i - 1, by omega⟩
  have hll : (List.replicate (k + 1) (0 : UInt8) ++ t).length = 65 := by simp; omega
  have hset : ∀ x : UInt8, (List.replicate (k + 1) (0 : UInt8) ++ t).set k x = List.replicate k 0 ++ x :: t := fun x => by
    rw [List.set_append_left _ _ (by simp), List.replicate_succ', List.set_append_right _ _ (by simp)]; simp
  by_cases hc : 16 ≤ u
  · obtain ⟨d, hd⟩ : ∃ d, u % 16 = d := ⟨_, rfl⟩
    have hd16 : d < 16 := by omega
    have hand : bits .and .u64 (u : Int) 15 = (d : Int) := by
      rw [show (15 : Int) = ((15 : Nat) : Int) from rfl, u64_and_nat u 15 (by omega) (by omega), show (15 : Nat) = 2 ^ 4 - 1 from rfl, Nat.and_two_pow_sub_one_eq_mod, ← hd]
    have hdg := digs_get (d := d) (by omega) (by omega)
    dsimp only at hdg
    have hx := hset (hexD d)
    have hT : hexT n = hexT (u / 16) ++ hexD d :: t := by rw [he, hexT, dif_neg (by omega), hd]; simp
    clear hset
    replace hd : Hid _ := hd
    refine w0 ?_ 
    refine ⟨⟨u / 16, k, hexD d :: t, hT, by simp only [List.length_cons]; omega, by rw [List.length_cons]; omega, kS, kS, kS, kS, kS, kS, kS, kS, kS, kS, ?_⟩, kS⟩
    rw [← hx, bytes_mid, List.set_eq_take_append_cons_drop, if_pos (by omega)]
  · have hdg := digs_get (d := u) (by omega) (by omega)
    dsimp only at hdg
    have hx := hset (hexD u)
    have hT : hexT n = hexD u :: t := by rw [he, hexT, dif_pos (by omega)]; rfl
    refine w0 ?_ 
    have hcell : (List.take k (List.replicate (k + 1) (0 : UInt8) ++ t)).map byteC ++ byteC (hexD u) :: (List.drop (k + 1) (List.replicate (k + 1) (0 : UInt8) ++ t)).map byteC = (List.replicate k 0 ++ hexD u :: t).map byteC := by
      rw [← hx, bytes_mid, List.set_eq_take_append_cons_drop, if_pos (by omega)]
    rw [hcell]
    have hlt : (hexD u :: t).length = 65 - k := by rw [List.length_cons]; omega
    clear hcell hx hset hdg
    generalize hexD u :: t = D at *
    have hdr : (List.replicate k (0 : UInt8) ++ D).drop k = D := by rw [List.drop_append_of_le_length (by simp)]; simp
    have htk : D.take (65 - k) = D := List.take_of_length_le (by omega)
    refine w0 ?_ 
    rw [hT]; rfl
theorem fmt16_at {B : List Box} {n : Nat} (hn : n < 65536) : ACall Tryz.prog 77 [.int .i64 n, .int .i64 16] B fun c B' => c = .str (hexT n) ∧ B' = B := by
  have h1 : ∀ {B : List Box} {args : List CV}, Is args [.nilS, .int .u64 n, .int .i64 16, .bool false, .bool false] → ACall Tryz.prog 144 args B fun c B' => c = .tup [.lst 0 [] false, .str (hexT n)] ∧ B' = B := fun {B args} h => by
    have h : _ = _ := h
    subst h
    exact acall_fresh (nz := false) rfl (fmtBits_in n hn)
  have h2 : ∀ {B : List Box} {args : List CV}, Is args [.int .i64 n, .int .i64 16] → ACall Tryz.prog 114 args B fun c B' => c = .str (hexT n) ∧ B' = B := fun {B args} h => by
    have h : _ = _ := h
    subst h
    refine acall_intro mixed Tryz.func114 rfl ca114 (by kernel_rfl) (by rw [Tryz.ntmps114]; simp) ?_
    refine w1 @h1 ?_ 
    exact ⟨rfl, rfl⟩
  refine acall_intro mixed Tryz.func77 rfl ca77 (by kernel_rfl) (by rw [Tryz.ntmps77]; simp) ?_
  refine w1 @h2 ?_ 
  exact ⟨rfl, rfl⟩
end Go.Proofs.YtcbdghgogmcllaaGreatDoor
end
section
namespace Go.Proofs.YtcbdghgogmcllaaGreatDoor
open Go Go.Sy
def isDig (c : UInt8) : Bool := decide (48 ≤ c.toNat) && decide (c.toNat ≤ 57)
def decV (l : List UInt8) : Nat := l.foldl (fun n c => 10 * n + (c.toNat - 48)) 0
def headOk (m : Nat) (s : List UInt8) : Bool := decide (1 ≤ s.length) && decide (s.length ≤ m) && !(decide (1 < s.length) && (s.head? == some 48))
def decOk (m : Nat) (s : List UInt8) : Bool := headOk m s && s.all isDig
def decR (m : Nat) (s : List UInt8) : Nat := if decOk m s then decV s else 0
theorem decV_app (l : List UInt8) (c : UInt8) : decV (l ++ [c]) = 10 * decV l + (c.toNat - 48) := by simp [decV, List.foldl_append]
theorem decV_take {l : List UInt8} {k : Nat} (h : k < l.length) : decV (l.take (k + 1)) = 10 * decV (l.take k) + (l[k].toNat - 48) := by rw [List.take_succ_eq_append_getElem h, decV_app]
theorem decV_lt : ∀ (l : List UInt8), l.all isDig = true → decV l < 10 ^ l.length := by
  intro l
  suffices h : ∀ (l : List UInt8) (n k : Nat), n < 10 ^ k → l.all isDig = true → l.foldl (fun n c => 10 * n + (c.toNat - 48)) n < 10 ^ (k + l.length) by
    intro hl; have := h l 0 0 (by decide) hl; rwa [Nat.zero_add] at this
  intro l
  induction l with
  | nil => intro n k h _; simpa using h
  | cons c l ih =>
    intro n k h hl
    simp only [List.all_cons, Bool.and_eq_true] at hl
    have hc : 48 ≤ c.toNat ∧ c.toNat ≤ 57 := by simpa [isDig] using hl.1
    have := ih (10 * n + (c.toNat - 48)) (k + 1) (by rw [Nat.pow_succ]; omega) hl.2
    rw [List.foldl_cons, List.length_cons, show k + (l.length + 1) = k + 1 + l.length by omega]
    exact this
theorem dec_bound {s : List UInt8} {j : Nat} (hd : (s.take j).all isDig = true) (hj : j ≤ 10) : decV (s.take j) ≤ 9999999999 := by
  have h1 := decV_lt _ hd
  have h2 : (s.take j).length ≤ 10 := by rw [List.length_take]; omega
  have h3 : 10 ^ (s.take j).length ≤ 10 ^ 10 := Nat.pow_le_pow_right (by decide) h2
  omega
theorem all_take {s : List UInt8} {j : Nat} (h : j < s.length) : (s.take (j + 1)).all isDig = ((s.take j).all isDig && isDig s[j]) := by
  rw [List.take_succ_eq_append_getElem h, List.all_append]; simp
theorem not_all {s : List UInt8} {j : Nat} (h : j < s.length) (hn : isDig s[j] = false) : s.all isDig = false := by
  rw [List.all_eq_false]
  exact ⟨s[j], List.getElem_mem h, by simp [hn]⟩
theorem decimal_in (s : List UInt8) (lim : Int) (hs : s.length < 4611686018427387904) : PC Tryz.prog true 110 [.str s, .int .i64 lim] (.tup [.int .i64 (decR 10 s), .bool (decOk 10 s && decide ((decR 10 s : Int) ≤ lim))]) := by
  refine acall_intro mixed Tryz.func110 rfl ca110 (by kernel_rfl) (by rw [Tryz.ntmps110]; simp) ?_
  have hbad : headOk 10 s = false → decR 10 s = 0 ∧ decOk 10 s = false := fun h => by simp [decR, decOk, h]
  by_cases h0 : s.length = 0
  · obtain ⟨e1, e2⟩ := hbad (by simp [headOk, h0])
    have : s = [] := List.eq_nil_of_length_eq_zero h0
    subst this
    refine w0 ?_ 
    rfl
  have hpos : 0 < s.length := by omega
  by_cases h10 : s.length ≤ 10
  · by_cases hz : 1 < s.length ∧ s[0]'hpos = 48
    · obtain ⟨hz1, hz2⟩ := hz
      have hh : s.head? = some 48 := by rw [List.head?_eq_getElem?, List.getElem?_eq_getElem (by omega), hz2]
      obtain ⟨e1, e2⟩ := hbad (by simp [headOk, hz1, hh])
      rw [e1, e2]
      refine w0 ?_ 
      rfl
    · have hh : headOk 10 s = true := by
        cases s with
        | nil => simp at h0
        | cons c s => simp [headOk] at hz ⊢; simp at h10; exact ⟨h10, by cases s with | nil => exact .inl rfl | cons d s => exact .inr (hz (by simp))⟩
      have hz' : 1 < s.length → (s[0]'hpos).toNat ≠ 48 := fun h e => hz ⟨h, UInt8.toNat_inj.1 e⟩
      clear hbad hz
      by_cases h1l : 1 < s.length
      · have hz2 := hz' h1l
        clear hz'
        have hz3 : ((s[0]'hpos).toNat : Int) ≠ 48 := by omega
        refine w0 ?_ 
        refine w_loop (fun fr B => B = [] ∧ ∃ j : Nat, j ≤ s.length ∧ (s.take j).all isDig = true ∧ fr 28 = .int .i64 j ∧ fr 0 = .str s ∧ fr 6 = .int .i64 (decV (s.take j)) ∧ fr 27 = .int .i64 s.length ∧ fr 1 = .int .i64 lim) (fun fr _ => s.length - natOf (fr 28)) ?_ ?_
        · exact ⟨rfl, 0, by omega, rfl, kS, kS, by (simp (disch := omega) [go_sem, *, decV]) <;> (try omega), kS, kS⟩
        rintro fr B ⟨rfl, j, hj, hd, hix, hs0, h6, hx1, hx2⟩
        have hb := dec_bound hd (by omega)
        by_cases hc : j < s.length
        · have hnx := decV_take hc
          have hall := all_take hc
          rw [hd, Bool.true_and] at hall
          have hlt := (s[j]).toNat_lt
          by_cases hg : isDig s[j] = true
          · rw [hg] at hall
            have hg2 : 48 ≤ s[j].toNat ∧ s[j].toNat ≤ 57 := by simpa [isDig] using hg
            have hb2 := dec_bound hall (by omega)
            have hnx2 : (decV (s.take (j + 1)) : Int) = 10 * decV (s.take j) + (s[j].toNat - 48) := by omega
            rw [hnx] at hb2
            refine w0 ?_ 
            exact ⟨⟨rfl, j + 1, by omega, hall, kS, kS, by rw [hnx2] <;> (simp (disch := omega) [go_sem, *]) <;> (try omega), kS, kS⟩, kS⟩
          · have hna := not_all hc (by simpa using hg)
            have e1 : decR 10 s = 0 ∧ decOk 10 s = false := by simp [decR, decOk, hna]
            have hg2 : s[j].toNat < 48 ∨ 57 < s[j].toNat := by
              have : ¬ (48 ≤ s[j].toNat ∧ s[j].toNat ≤ 57) := by simpa [isDig] using hg
              omega
            rw [e1.1, e1.2]
            rcases hg2 with hg2 | hg2
            · refine w0 ?_ 
              rfl
            · have hg3 : ¬ (s[j].toNat : Int) < 48 := by omega
              refine w0 ?_ 
              rfl
        · obtain rfl : j = s.length := by omega
          rw [List.take_length] at hd h6 hb
          have e1 : decOk 10 s = true := by simp only [decOk, hh, hd, Bool.and_self]
          rw [decR, if_pos e1, e1]
          refine w0 ?_ 
          rfl
      · clear hz'
        refine w0 ?_ 
        refine w_loop (fun fr B => B = [] ∧ ∃ j : Nat, j ≤ s.length ∧ (s.take j).all isDig = true ∧ fr 28 = .int .i64 j ∧ fr 0 = .str s ∧ fr 6 = .int .i64 (decV (s.take j)) ∧ fr 27 = .int .i64 s.length ∧ fr 1 = .int .i64 lim) (fun fr _ => s.length - natOf (fr 28)) ?_ ?_
        · exact ⟨rfl, 0, by omega, rfl, kS, kS, by (simp (disch := omega) [go_sem, *, decV]) <;> (try omega), kS, kS⟩
        rintro fr B ⟨rfl, j, hj, hd, hix, hs0, h6, hx1, hx2⟩
        have hb := dec_bound hd (by omega)
        by_cases hc : j < s.length
        · have hnx := decV_take hc
          have hall := all_take hc
          rw [hd, Bool.true_and] at hall
          have hlt := (s[j]).toNat_lt
          by_cases hg : isDig s[j] = true
          · rw [hg] at hall
            have hg2 : 48 ≤ s[j].toNat ∧ s[j].toNat ≤ 57 := by simpa [isDig] using hg
            have hb2 := dec_bound hall (by omega)
            have hnx2 : (decV (s.take (j + 1)) : Int) = 10 * decV (s.take j) + (s[j].toNat - 48) := by omega
            rw [hnx] at hb2
            refine w0 ?_ 
            exact ⟨⟨rfl, j + 1, by omega, hall, kS, kS, by rw [hnx2] <;> (simp (disch := omega) [go_sem, *]) <;> (try omega), kS, kS⟩, kS⟩
          · have hna := not_all hc (by simpa using hg)
            have e1 : decR 10 s = 0 ∧ decOk 10 s = false := by simp [decR, decOk, hna]
            have hg2 : s[j].toNat < 48 ∨ 57 < s[j].toNat := by
              have : ¬ (48 ≤ s[j].toNat ∧ s[j].toNat ≤ 57) := by simpa [isDig] using hg
              omega
            rw [e1.1, e1.2]
            rcases hg2 with hg2 | hg2
            · refine w0 ?_ 
              rfl
            · have hg3 : ¬ (s[j].toNat : Int) < 48 := by omega
              refine w0 ?_ 
              rfl
        · obtain rfl : j = s.length := by omega
          rw [List.take_length] at hd h6 hb
          have e1 : decOk 10 s = true := by simp only [decOk, hh, hd, Bool.and_self]
          rw [decR, if_pos e1, e1]
          refine w0 ?_ 
          rfl
  · obtain ⟨e1, e2⟩ := hbad (by simp [headOk]; omega)
    rw [e1, e2]
    refine w0 ?_ 
    rfl
def digV (c : UInt8) : Option Nat := if 48 ≤ c.toNat ∧ c.toNat ≤ 57 then some (c.toNat - 48) else if 97 ≤ c.toNat ∧ c.toNat ≤ 102 then some (c.toNat - 87) else if 65 ≤ c.toNat ∧ c.toNat ≤ 70 then some (c.toNat - 55) else none
def isHex (c : UInt8) : Bool := (digV c).isSome
def hexV (l : List UInt8) : Nat := l.foldl (fun n c => 16 * n + (digV c).getD 0) 0
def hexOk (s : List UInt8) : Bool := decide (1 ≤ s.length) && decide (s.length ≤ 4) && s.all isHex
def hexR (s : List UInt8) : Nat := if hexOk s then hexV s else 0
theorem hexV_app (l : List UInt8) (c : UInt8) : hexV (l ++ [c]) = 16 * hexV l + (digV c).getD 0 := by simp [hexV, List.foldl_append]
theorem hexV_take {l : List UInt8} {k : Nat} (h : k < l.length) : hexV (l.take (k + 1)) = 16 * hexV (l.take k) + (digV l[k]).getD 0 := by rw [List.take_succ_eq_append_getElem h, hexV_app]
theorem digV_lt {c : UInt8} {n : Nat} (h : digV c = some n) : n < 16 := by
  unfold digV at h
  split at h
  · simp at h; omega
  · split at h
    · simp at h; omega
    · split at h
      · simp at h; omega
      · cases h
theorem hexV_lt : ∀ (l : List UInt8), hexV l < 16 ^ l.length := by
  intro l
  suffices h : ∀ (l : List UInt8) (n k : Nat), n < 16 ^ k → l.foldl (fun n c => 16 * n + (digV c).getD 0) n < 16 ^ (k + l.length) by
    have := h l 0 0 (by decide); rwa [Nat.zero_add] at this
  intro l
  induction l with
  | nil => intro n k h; simpa using h
  | cons c l ih =>
    intro n k h
    have hc : (digV c).getD 0 < 16 := by
      cases hd : digV c with
      | none => simp
      | some v => simpa using digV_lt hd
    have := ih (16 * n + (digV c).getD 0) (k + 1) (by rw [Nat.pow_succ]; omega)
    rw [List.foldl_cons, List.length_cons, show k + (l.length + 1) = k + 1 + l.length by omega]
    exact this
theorem hex_bound {s : List UInt8} {j : Nat} (hj : j ≤ 4) : hexV (s.take j) ≤ 65535 := by
  have h1 := hexV_lt (s.take j)
  have h2 : (s.take j).length ≤ 4 := by rw [List.length_take]; omega
  have h3 : 16 ^ (s.take j).length ≤ 16 ^ 4 := Nat.pow_le_pow_right (by decide) h2
  omega
theorem hex_take {s : List UInt8} {j : Nat} (h : j < s.length) : (s.take (j + 1)).all isHex = ((s.take j).all isHex && isHex s[j]) := by
  rw [List.take_succ_eq_append_getElem h, List.all_append]; simp
theorem not_hex {s : List UInt8} {j : Nat} (h : j < s.length) (hn : digV s[j] = none) : s.all isHex = false := by
  rw [List.all_eq_false]
  exact ⟨s[j], List.getElem_mem h, by simp [isHex, hn]⟩
theorem digV_cases (c : UInt8) : (48 ≤ c.toNat ∧ c.toNat ≤ 57 ∧ digV c = some (c.toNat - 48)) ∨ (97 ≤ c.toNat ∧ c.toNat ≤ 102 ∧ digV c = some (c.toNat - 87)) ∨ (65 ≤ c.toNat ∧ c.toNat ≤ 70 ∧ digV c = some (c.toNat - 55)) ∨ (¬ (48 ≤ c.toNat ∧ c.toNat ≤ 57) ∧ ¬ (97 ≤ c.toNat ∧ c.toNat ≤ 102) ∧ ¬ (65 ≤ c.toNat ∧ c.toNat ≤ 70) ∧ digV c = none) := by
  unfold digV
  split
  · rename_i h; exact .inl ⟨h.1, h.2, rfl⟩
  · split
    · rename_i h; exact .inr (.inl ⟨h.1, h.2, rfl⟩)
    · split
      · rename_i h; exact .inr (.inr (.inl ⟨h.1, h.2, rfl⟩))
      · rename_i h1 h2 h3; exact .inr (.inr (.inr ⟨h1, h2, h3, rfl⟩))
theorem hexadecimal_in (s : List UInt8) (hs : s.length < 4611686018427387904) : PC Tryz.prog true 140 [.str s] (.tup [.int .i64 (hexR s), .bool (hexOk s)]) := by
  refine acall_intro mixed Tryz.func140 rfl ca140 (by kernel_rfl) (by rw [Tryz.ntmps140]; simp) ?_
  have hbad : hexOk s = false → hexR s = 0 := fun h => by simp [hexR, h]
  by_cases h0 : s.length = 0
  · have e := hbad (by simp [hexOk, h0])
    have : s = [] := List.eq_nil_of_length_eq_zero h0
    subst this
    refine w0 ?_ 
    rfl
  by_cases h10 : s.length ≤ 4
  · clear hbad
    refine w0 ?_ 
    refine w_loop (fun fr B => B = [] ∧ ∃ j : Nat, j ≤ s.length ∧ (s.take j).all isHex = true ∧ fr 17 = .int .i64 j ∧ fr 16 = .int .i64 s.length ∧ fr 0 = .str s ∧ fr 4 = .int .i64 (hexV (s.take j))) (fun fr _ => s.length - natOf (fr 17)) ?_ ?_
    · exact ⟨rfl, 0, by omega, rfl, kS, kS, kS, by (simp (disch := omega) [go_sem, *, hexV]) <;> (try omega)⟩
    rintro fr B ⟨rfl, j, hj, hd, hix, h16, hs0, h4⟩
    have hb := hex_bound (s := s) (j := j) (by omega)
    by_cases hc : j < s.length
    · have hnx := hexV_take hc
      have hall := hex_take hc
      rw [hd, Bool.true_and] at hall
      have hlt := (s[j]).toNat_lt
      have hb2 := hex_bound (s := s) (j := j + 1) (by omega)
      rcases digV_cases s[j] with ⟨g1, g2, g3⟩ | ⟨g1, g2, g3⟩ | ⟨g1, g2, g3⟩ | ⟨g1, g2, g3, g4⟩
      · have hnx2 : (hexV (s.take (j + 1)) : Int) = 16 * hexV (s.take j) + (s[j].toNat - 48) := by rw [hnx, g3]; simp; omega
        rw [isHex, g3] at hall
        clear g3 hnx
        refine w0 ?_ 
        exact ⟨⟨rfl, j + 1, by omega, hall, kS, kS, kS, by rw [hnx2] <;> (simp (disch := omega) [go_sem, *]) <;> (try omega)⟩, kS⟩
      · have hnx2 : (hexV (s.take (j + 1)) : Int) = 16 * hexV (s.take j) + (s[j].toNat - 97) + 10 := by rw [hnx, g3]; simp; omega
        rw [isHex, g3] at hall
        clear g3 hnx
        refine w0 ?_ 
        exact ⟨⟨rfl, j + 1, by omega, hall, kS, kS, kS, by rw [hnx2] <;> (simp (disch := omega) [go_sem, *]) <;> (try omega)⟩, kS⟩
      · have hnx2 : (hexV (s.take (j + 1)) : Int) = 16 * hexV (s.take j) + (s[j].toNat - 65) + 10 := by rw [hnx, g3]; simp; omega
        rw [isHex, g3] at hall
        clear g3 hnx
        refine w0 ?_ 
        exact ⟨⟨rfl, j + 1, by omega, hall, kS, kS, kS, by rw [hnx2] <;> (simp (disch := omega) [go_sem, *]) <;> (try omega)⟩, kS⟩
      · have hna := not_hex hc g4
        have e1 : hexOk s = false := by simp [hexOk, hna]
        rw [hexR, e1]
        clear g4 hnx
        have g5 : s[j].toNat < 48 ∨ (57 < s[j].toNat ∧ s[j].toNat < 65) ∨ (70 < s[j].toNat ∧ s[j].toNat < 97) ∨ 102 < s[j].toNat := by omega
        clear g1 g2 g3
        rcases g5 with g5 | g5 | g5 | g5 <;> (
          (refine w0 ?_ )
          rfl)
    · obtain rfl : j = s.length := by omega
      rw [List.take_length] at hd h4 hb
      have e1 : hexOk s = true := by simp [hexOk, hd]; omega
      rw [hexR, if_pos e1, e1]
      refine w0 ?_ 
      rfl
  · have e2 : hexOk s = false := by simp [hexOk]; omega
    have e := hbad e2
    rw [e, e2]
    refine w0 ?_ 
    rfl
theorem decimal_at {B : List Box} {s : List UInt8} {lim : Int} (hs : s.length < 4611686018427387904) : ACall Tryz.prog 110 [.str s, .int .i64 lim] B fun c B' => c = .tup [.int .i64 (decR 10 s), .bool (decOk 10 s && decide ((decR 10 s : Int) ≤ lim))] ∧ B' = B := acall_fresh (nz := false) rfl (decimal_in s lim hs)
theorem hexadecimal_at {B : List Box} {s : List UInt8} (hs : s.length < 4611686018427387904) : ACall Tryz.prog 140 [.str s] B fun c B' => c = .tup [.int .i64 (hexR s), .bool (hexOk s)] ∧ B' = B := acall_fresh (nz := false) rfl (hexadecimal_in s hs)
end Go.Proofs.YtcbdghgogmcllaaGreatDoor
end
section
namespace Go.Proofs.YtcbdghgogmcllaaGreatDoor
open Go Go.Sy
theorem byte_nat (n : Nat) (h : n < 256) : byteC (UInt8.ofNat n) = .int .u8 (n : Int) := by
  rw [byteC]; congr 1; simp; omega
theorem decDigits_len : ∀ (k n : Nat), n < 10 ^ (k + 1) → (Go.Lib.decDigits n).length ≤ k + 1
  | 0, n, h => by
    rw [Go.Lib.decDigits, dif_pos (by simpa using h)]; simp
  | k + 1, n, h => by
    rw [Go.Lib.decDigits]
    split
    · simp
    · rw [List.length_append]
      have := decDigits_len k (n / 10) (by rw [Nat.pow_succ] at h; omega)
      simp only [List.length_singleton]; omega
def lastJ (s : List UInt8) : Nat → Int
  | 0 => -1
  | j + 1 => if s[j]? = some 58 then j else lastJ s j
end Go.Proofs.YtcbdghgogmcllaaGreatDoor
end
section
namespace Go.Proofs.YtcbdghgogmcllaaGreatDoor
open Go Go.Sy
theorem splitL_cons {b c : UInt8} {s : List UInt8} {x : List UInt8} {xs : List (List UInt8)} (h : splitL b s = x :: xs) (hc : c ≠ b) : splitL b (c :: s) = (c :: x) :: xs := by rw [splitL, if_neg hc, h]
end Go.Proofs.YtcbdghgogmcllaaGreatDoor
end
section
namespace Go.Proofs.YtcbdghgogmcllaaGreatDoor
open Go Go.Sy
theorem kE_GG0 {α : Type} {x y : α} (h : Is x y := by first | ((try simp (disch := first | omega | (simp only [yZ, yB] <;> omega) | fail) [go_sem, yY, *, addrC, if_pos, if_neg, -List.map_take, -List.map_drop, -List.map_append, -List.map_reverse]); exact rfl) | fail) : Is x y := h
theorem kD_GG0 {p : Prop} (h : p := by (first | omega | assumption | exact rfl | ((simp (disch := first | omega | (simp only [yZ, yB] <;> omega) | fail) [go_sem, yY, *, addrC, -List.map_take, -List.map_drop, -List.map_append, -List.map_reverse]) <;> (first | done | omega | exact rfl)) | fail)) : p := h
theorem kE_GG1 {α : Type} {x y : α} (h : Is x y := by first | ((try simp (disch := first | omega | (simp only [yZ, yB] <;> omega) | fail) [go_sem, yY, *, cons_get1, cons_take1, cons_drop1, if_pos, if_neg, -List.map_take, -List.map_drop, -List.map_append, -List.map_reverse]); exact rfl) | fail) : Is x y := h
theorem kD_GG1 {p : Prop} (h : p := by (first | omega | assumption | exact rfl | ((simp (disch := first | omega | (simp only [yZ, yB] <;> omega) | fail) [go_sem, yY, *, cons_get1, cons_take1, cons_drop1, -List.map_take, -List.map_drop, -List.map_append, -List.map_reverse]) <;> (first | done | omega | exact rfl)) | fail)) : p := h
theorem kE_GG2 {α : Type} {x y : α} (h : Is x y := by first | ((try simp (disch := first | omega | (simp only [yZ, yB] <;> omega) | fail) [go_sem, yY, *, omap_strs, if_pos, if_neg, -List.map_take, -List.map_drop, -List.map_append, -List.map_reverse]); exact rfl) | fail) : Is x y := h
theorem kD_GG2 {p : Prop} (h : p := by (first | omega | assumption | exact rfl | ((simp (disch := first | omega | (simp only [yZ, yB] <;> omega) | fail) [go_sem, yY, *, omap_strs, -List.map_take, -List.map_drop, -List.map_append, -List.map_reverse]) <;> (first | done | omega | exact rfl)) | fail)) : p := h
theorem wB_GG0 {p q : Prop} (k : q) (h : Hq q → p := by (intro k; (repeat' (first | (with_reducible first | apply jA | apply jB | apply jC | apply jD | apply jE | apply jF | apply jG | apply jH | apply jI | apply jJ | apply jK | apply jL | apply jM | apply jN | apply jO) | ((with_reducible first | apply jP | apply jQ); rfl) | ((first | ((with_reducible first | apply jR | apply jS | apply jT); rfl; rfl) | (with_reducible first | apply jU | apply jV | apply jW) | ((with_reducible first | apply jX | apply jY | apply jZ); rfl) | ((with_reducible first | apply kA | apply kB | apply kC); rfl)); all_goals (first | ((with_reducible show Is _ _); exact kE_GG0) | ((with_reducible refine fun (hc : (_ : Bool) = _) => ?_); (try simp only [xZ, xY, xP, reduceCtorEq] at hc); (try (have hx : True := hc; clear hx hc)); (try exact kX)) | ((with_reducible show ACall _ _ _ _ _); (first | ((with_reducible apply c0) <;> exact kD_GG0) | ((with_reducible apply c1) <;> exact kD_GG0) | ((with_reducible apply c2) <;> exact kD_GG0) | ((with_reducible apply c3) <;> exact kD_GG0) | ((with_reducible apply c4) <;> exact kD_GG0) | ((with_reducible apply c5) <;> exact kD_GG0) | ((with_reducible apply c6) <;> exact kD_GG0) | ((with_reducible apply c7) <;> exact kD_GG0))) | ((fail_if_success (with_reducible first | show Is _ _ | show ACall _ _ _ _ _)); (try ((with_reducible show _ ∨ _); exact kT))))) | (((with_reducible first | apply o_callQ | apply q_callQ); rfl); (iterate 2 exact kE_GG0); (first | ((with_reducible apply q0) <;> exact kD_GG0))))); exact hq k)) : p := h ⟨k⟩
theorem wB_GG1 {p q : Prop} (k : q) (h : Hq q → p := by (intro k; (repeat' (first | (with_reducible first | apply jA | apply jB | apply jC | apply jD | apply jE | apply jF | apply jG | apply jH | apply jI | apply jJ | apply jK | apply jL | apply jM | apply jN | apply jO) | ((with_reducible first | apply jP | apply jQ); rfl) | ((first | ((with_reducible first | apply jR | apply jS | apply jT); rfl; rfl) | (with_reducible first | apply jU | apply jV | apply jW) | ((with_reducible first | apply jX | apply jY | apply jZ); rfl) | ((with_reducible first | apply kA | apply kB | apply kC); rfl)); all_goals (first | ((with_reducible show Is _ _); exact kE_GG1) | ((with_reducible refine fun (hc : (_ : Bool) = _) => ?_); (try simp only [xZ, xY, xP, reduceCtorEq] at hc); (try (have hx : True := hc; clear hx hc)); (try exact kX)) | ((with_reducible show ACall _ _ _ _ _); (first | ((with_reducible apply c0) <;> exact kD_GG1) | ((with_reducible apply c1) <;> exact kD_GG1) | ((with_reducible apply c2) <;> exact kD_GG1) | ((with_reducible apply c3) <;> exact kD_GG1) | ((with_reducible apply c4) <;> exact kD_GG1) | ((with_reducible apply c5) <;> exact kD_GG1) | ((with_reducible apply c6) <;> exact kD_GG1) | ((with_reducible apply c7) <;> exact kD_GG1))) | ((fail_if_success (with_reducible first | show Is _ _ | show ACall _ _ _ _ _)); (try ((with_reducible show _ ∨ _); exact kT))))) | (((with_reducible first | apply o_callQ | apply q_callQ); rfl); (iterate 2 exact kE_GG1); (first | ((with_reducible apply q0) <;> exact kD_GG1))))); exact hq k)) : p := h ⟨k⟩
theorem wB_GG2 {p q : Prop} (k : q) (h : Hq q → p := by (intro k; (repeat' (first | (with_reducible first | apply jA | apply jB | apply jC | apply jD | apply jE | apply jF | apply jG | apply jH | apply jI | apply jJ | apply jK | apply jL | apply jM | apply jN | apply jO) | ((with_reducible first | apply jP | apply jQ); rfl) | ((first | ((with_reducible first | apply jR | apply jS | apply jT); rfl; rfl) | (with_reducible first | apply jU | apply jV | apply jW) | ((with_reducible first | apply jX | apply jY | apply jZ); rfl) | ((with_reducible first | apply kA | apply kB | apply kC); rfl)); all_goals (first | ((with_reducible show Is _ _); exact kE_GG2) | ((with_reducible refine fun (hc : (_ : Bool) = _) => ?_); (try simp only [xZ, xY, xP, reduceCtorEq] at hc); (try (have hx : True := hc; clear hx hc)); (try exact kX)) | ((with_reducible show ACall _ _ _ _ _); (first | ((with_reducible apply c0) <;> exact kD_GG2) | ((with_reducible apply c1) <;> exact kD_GG2) | ((with_reducible apply c2) <;> exact kD_GG2) | ((with_reducible apply c3) <;> exact kD_GG2) | ((with_reducible apply c4) <;> exact kD_GG2) | ((with_reducible apply c5) <;> exact kD_GG2) | ((with_reducible apply c6) <;> exact kD_GG2) | ((with_reducible apply c7) <;> exact kD_GG2))) | ((fail_if_success (with_reducible first | show Is _ _ | show ACall _ _ _ _ _)); (try ((with_reducible show _ ∨ _); exact kT))))) | (((with_reducible first | apply o_callQ | apply q_callQ); rfl); (iterate 2 exact kE_GG2); (first | ((with_reducible apply q0) <;> exact kD_GG2))))); exact hq k)) : p := h ⟨k⟩
theorem w_GG01 {A0 p q : Prop} (c0 : A0) (k : q) (h : A0 → Hq q → p := by (intro c0 k; exact wB_GG0 (hq k))) : p := h c0 ⟨k⟩
theorem w_GG11 {A0 p q : Prop} (c0 : A0) (k : q) (h : A0 → Hq q → p := by (intro c0 k; exact wB_GG1 (hq k))) : p := h c0 ⟨k⟩
theorem w_GG21 {A0 p q : Prop} (c0 : A0) (k : q) (h : A0 → Hq q → p := by (intro c0 k; exact wB_GG2 (hq k))) : p := h c0 ⟨k⟩
theorem vld_full {six : Bool} {A : List UInt8} (hA : A.length = 16) : vld six A (if six then 128 else 32) = okA six A := by
  cases h : okA six A with
  | false => simp [vld, h]
  | true =>
    have hc : cutL A (if six then 128 else 32) = A := by
      rw [cut_same hA]
      intro k h1 h2
      cases six with
      | true => simp at h1; omega
      | false =>
        simp at h1
        have hz : A.drop 4 = z12 := by simpa [okA] using h
        have hk : k / 8 < 16 := by omega
        have : A.getD (k / 8) 0 = 0 := by
          have h3 : (A.drop 4)[k / 8 - 4]? = some 0 := by
            rw [hz]
            have : k / 8 - 4 < 12 := by omega
            show (List.replicate 12 (0 : UInt8))[k / 8 - 4]? = some 0
            rw [List.getElem?_replicate, if_pos this]
          rw [List.getElem?_drop, show 4 + (k / 8 - 4) = k / 8 by omega] at h3
          rw [List.getD_eq_getElem?_getD, h3]; rfl
        rw [bitI, this]; simp
    cases six with
    | true => simp [vld, h]; simpa using hc
    | false => simp [vld, h]; simpa using hc
theorem cvalid_in (six : Bool) (A : List UInt8) (hA : A.length = 16) : PC Tryz.prog true 137 [addrC six A] (.bool (okA six A)) := by
  have hv := vld_full (six := six) hA
  have hiv : ∀ {B : List Box} {args : List CV} {s : Int}, Is (omap (Go.Sy.fz true false B 6) args) (some [prefC six A s]) → s = (if six then 128 else 32) → ACall Tryz.prog 155 args B fun c B' => c = .bool (okA six A) ∧ B' = B := fun h hs => by
    rw [← hv]
    have := iValid_at h hA
    rw [hs] at this
    exact this
  refine acall_intro mixed Tryz.func137 rfl ca137 (by kernel_rfl) (by rw [Tryz.ntmps137]; simp) ?_
  cases six
  · refine w_GG01 @hiv ?_ 
    rfl
  · refine w_GG01 @hiv ?_ 
    rfl
theorem cvalid_at {B : List Box} {args : List CV} {six : Bool} {A : List UInt8} (hz : Is (omap (Go.Sy.fz true false B 6) args) (some [addrC six A])) (hA : A.length = 16) : ACall Tryz.prog 137 args B fun c B' => c = .bool (okA six A) ∧ B' = B := acall_fresh hz (cvalid_in six A hA)
def grp (A : List UInt8) (i : Nat) : Nat := (A.getD (2 * i) 0).toNat * 256 + (A.getD (2 * i + 1) 0).toNat
theorem grp_lt (A : List UInt8) (i : Nat) : grp A i < 65536 := by
  have h1 := (A.getD (2 * i) 0).toNat_lt
  have h2 := (A.getD (2 * i + 1) 0).toNat_lt
  unfold grp; omega
def parts6 (A : List UInt8) (n : Nat) : List (List UInt8) := (List.range n).map fun i => hexT (grp A i)
def parts4 (A : List UInt8) (n : Nat) : List (List UInt8) := (List.range n).map fun i => Go.Lib.decDigits (A.getD i 0).toNat
theorem parts6_succ (A : List UInt8) (n : Nat) : parts6 A (n + 1) = parts6 A n ++ [hexT (grp A n)] := by simp [parts6, List.range_succ]
theorem parts4_succ (A : List UInt8) (n : Nat) : parts4 A (n + 1) = parts4 A n ++ [Go.Lib.decDigits (A.getD n 0).toNat] := by simp [parts4, List.range_succ]
def fmtA (six : Bool) (A : List UInt8) : List UInt8 := if okA six A then (if six then Go.Lib.join (parts6 A 8) [58] else Go.Lib.join (parts4 A 4) [46]) else []
theorem or_grp (a b : UInt8) : bits .or .i64 ((a.toNat : Int) * 256) (b.toNat : Int) = ((a.toNat * 256 + b.toNat : Nat) : Int) := by
  have ha := a.toNat_lt
  have hb := b.toNat_lt
  rw [show ((a.toNat : Int) * 256) = ((a.toNat * 256 : Nat) : Int) by omega, i64_or_nat _ _ (by omega) (by omega)]
  congr 1
  have := Nat.two_pow_add_eq_or_of_lt (i := 8) (b := b.toNat) (by omega) a.toNat
  rw [show (2 : Nat) ^ 8 * a.toNat = a.toNat * 256 by omega] at this
  omega
theorem omap_strs {nz fr : Bool} {k : Nat} {B : List Box} : ∀ L : List (List UInt8), omap (Go.Sy.fz nz fr B (k + 1)) (L.map CV.str) = some (L.map CV.str)
  | [] => rfl
  | x :: xs => by rw [List.map_cons, omap_two, omap_strs xs]; rfl
theorem join_le {t : List UInt8} {k : Nat} : ∀ L : List (List UInt8), (∀ x ∈ L, x.length ≤ k) → (Go.Lib.join L t).length ≤ L.length * (k + t.length)
  | [], _ => by simp [Go.Lib.join_nil]
  | x :: xs, h => by
    rw [Go.Lib.join_cons, List.length_append]
    have h1 := h x (by simp)
    have h2 : (Go.Lib.joinTail t xs).length ≤ xs.length * (k + t.length) := by
      have hx : ∀ y ∈ xs, y.length ≤ k := fun y hy => h y (by simp [hy])
      clear h h1
      induction xs with
      | nil => simp [Go.Lib.joinTail]
      | cons y ys ih =>
        have := ih (fun z hz => hx z (by simp [hz]))
        have h1 := hx y (by simp)
        unfold Go.Lib.joinTail at this ⊢
        rw [List.map_cons, List.flatten_cons, List.length_append, List.length_append, List.length_cons, Nat.succ_mul]
        omega
    rw [List.length_cons, Nat.succ_mul]; omega
theorem hexT_len : ∀ (k n : Nat), n < 16 ^ (k + 1) → (hexT n).length ≤ k + 1
  | 0, n, h => by rw [hexT, dif_pos (by simpa using h)]; simp
  | k + 1, n, h => by
    rw [hexT]
    split
    · simp
    · rw [List.length_append]
      have := hexT_len k (n / 16) (by rw [Nat.pow_succ] at h; omega)
      simp only [List.length_singleton]; omega
theorem fmtAddr_in (six : Bool) (A : List UInt8) (hA : A.length = 16) : PC Tryz.prog true 108 [addrC six A] (.str (fmtA six A)) := by
  have hv : ∀ {B : List Box} {args : List CV}, Is (omap (Go.Sy.fz true false B 6) args) (some [addrC six A]) → ACall Tryz.prog 137 args B fun c B' => c = .bool (okA six A) ∧ B' = B := fun h => cvalid_at h hA
  refine acall_intro mixed Tryz.func108 rfl ca108 (by kernel_rfl) (by rw [Tryz.ntmps108]; simp) ?_
  cases hok : okA six A with
  | false =>
    rw [hok] at hv
    have hf : fmtA six A = [] := by simp [fmtA, hok]
    rw [hf]
    refine w_GG01 @hv ?_ 
    rfl
  | true =>
    rw [hok] at hv
    cases six
    · have hf : fmtA false A = Go.Lib.join (parts4 A 4) [46] := by simp [fmtA, hok]
      rw [hf]
      refine w_GG01 @hv ?_ 
      refine w_loop (fun fr B => ∃ (i : Nat) (oc : CV), i ≤ 4 ∧ fr 36 = .int .i64 i ∧ fr 1 = .ptr 0 0 ∧ fr 3 = oc ∧ B[0]? = some ⟨.bool false :: A.map byteC, false⟩ ∧ ((i = 0 ∧ oc = .nilS) ∨ ∃ β m, β ≠ 0 ∧ oc = .view β 0 i 1 false ∧ B[β]? = some ⟨(parts4 A i).map .str, m⟩)) (fun fr _ => 4 - natOf (fr 36)) ?_ ?_
      · exact ⟨0, .nilS, by omega, kS, kS, kS, kS, .inl ⟨rfl, rfl⟩⟩
      rintro fr B ⟨i, oc, hi, h36, h1, h3, h0, hO⟩
      have x0 := bx_pack h0
      by_cases hc : i < 4
      · have hp := parts4_succ A i
        have hpl : (parts4 A i).length = i := by simp [parts4]
        have hgd : A.getD i 0 = A[i]'(by omega) := by rw [List.getD_eq_getElem?_getD, List.getElem?_eq_getElem (by omega)]; rfl
        have hlt := (A[i]'(by omega)).toNat_lt
        have hit : ∀ {B : List Box} {args : List CV}, Is args [.int .i64 ((A[i]'(by omega)).toNat : Int)] → ACall Tryz.prog 83 args B fun c B' => c = .str (Go.Lib.decDigits (A.getD i 0).toNat) ∧ B' = B := fun {B args} h => by
          have h : _ = _ := h
          subst h
          have := itoa_at (B := B) (n := ((A[i]'(by omega)).toNat : Int)) (by omega)
          rw [Go.Lib.itoa, if_neg (by omega), Int.toNat_natCast] at this
          rw [hgd]
          exact this
        generalize Go.Lib.decDigits (A.getD i 0).toNat = T at *
        clear hgd
        rcases hO with ⟨hi0, rfl⟩ | ⟨β, m, hβ0, rfl, hβ⟩
        · have hp0 : parts4 A i = [] := by rw [hi0]; rfl
          rw [hp0] at hp
          replace hi0 : Hid _ := hi0
          refine w_GG11 @hit ?_ 
          have hi0 : i = 0 := hi0
          refine ⟨⟨i + 1, .view (B.length + 1) 0 1 1 false, by omega, kS, kS, kS, kS, .inr ⟨B.length + 1, false, by omega, by rw [hi0], ?_⟩⟩, kS⟩
          rw [hp]; simp
        · have xb := bx_pack hβ
          have z0 : ∀ y X, (B.set β y ++ X)[0]? = some ⟨.bool false :: A.map byteC, false⟩ := fun y X => by
            rw [List.getElem?_append_left (by rw [List.length_set]; exact (List.getElem?_eq_some_iff.1 h0).1), List.getElem?_set_ne hβ0]; exact h0
          refine w_GG11 @hit ?_ 
          refine ⟨⟨i + 1, .view β 0 (i + 1) 1 false, by omega, kS, kS, kS, kS, .inr ⟨β, true, hβ0, rfl, ?_⟩⟩, kS⟩
          rw [hp, List.map_append]; (simp (disch := omega) [go_sem, *]) <;> (try omega)
      · obtain rfl : i = 4 := by omega
        rcases hO with ⟨hi0, _⟩ | ⟨β, m, hβ0, rfl, hβ⟩
        · omega
        · have hpl : (parts4 A 4).length = 4 := by simp [parts4]
          have hj : ∀ {B : List Box} {args : List CV}, Is (omap (Go.Sy.fz true false B 6) args) (some [.lst 4 ((parts4 A 4).map .str) false, .str [46]]) → ACall Tryz.prog 48 args B fun c B' => c = .str (Go.Lib.join (parts4 A 4) [46]) ∧ B' = B := fun h => join_at h hpl.symm (by omega) (by
            have := join_le (t := [46]) (k := 3) (parts4 A 4) fun x hx => by
              simp only [parts4, List.mem_map, List.mem_range] at hx
              obtain ⟨i, _, rfl⟩ := hx
              have := (A.getD i 0).toNat_lt
              exact decDigits_len 2 _ (by omega)
            rw [hpl] at this
            simp at this
            omega)
          generalize parts4 A 4 = L at *
          have xb := bx_pack hβ
          have htk : (L.map CV.str).take 4 = L.map CV.str := List.take_of_length_le (by simp; omega)
          refine w_GG21 @hj ?_ 
          rfl
    · have hf : fmtA true A = Go.Lib.join (parts6 A 8) [58] := by simp [fmtA, hok]
      rw [hf]
      refine w_GG01 @hv ?_ 
      refine w_loop (fun fr B => ∃ (i : Nat) (oc : CV), i ≤ 8 ∧ fr 11 = .int .i64 i ∧ fr 1 = .ptr 0 0 ∧ fr 3 = oc ∧ B[0]? = some ⟨.bool true :: A.map byteC, false⟩ ∧ ((i = 0 ∧ oc = .nilS) ∨ ∃ β m, β ≠ 0 ∧ oc = .view β 0 i 1 false ∧ B[β]? = some ⟨(parts6 A i).map .str, m⟩)) (fun fr _ => 8 - natOf (fr 11)) ?_ ?_
      · exact ⟨0, .nilS, by omega, kS, kS, kS, kS, .inl ⟨rfl, rfl⟩⟩
      rintro fr B ⟨i, oc, hi, h11, h1, h3, h0, hO⟩
      have x0 := bx_pack h0
      by_cases hc : i < 8
      · have hp := parts6_succ A i
        have hpl : (parts6 A i).length = i := by simp [parts6]
        have hg1 : A.getD (2 * i) 0 = A[2 * i]'(by omega) := by rw [List.getD_eq_getElem?_getD, List.getElem?_eq_getElem (by omega)]; rfl
        have hg2 : A.getD (2 * i + 1) 0 = A[2 * i + 1]'(by omega) := by rw [List.getD_eq_getElem?_getD, List.getElem?_eq_getElem (by omega)]; rfl
        have hgl := grp_lt A i
        have hor : bits .or .i64 (((A[2 * i]'(by omega)).toNat : Int) * 256) ((A[2 * i + 1]'(by omega)).toNat : Int) = (grp A i : Int) := by rw [or_grp, grp, hg1, hg2]
        have hlt1 := (A[2 * i]'(by omega)).toNat_lt
        have hlt2 := (A[2 * i + 1]'(by omega)).toNat_lt
        have hfm : ∀ {B : List Box} {args : List CV}, Is args [.int .i64 (grp A i), .int .i64 16] → ACall Tryz.prog 77 args B fun c B' => c = .str (hexT (grp A i)) ∧ B' = B := fun {B args} h => by
          have h : _ = _ := h
          subst h
          exact fmt16_at hgl
        generalize hexT (grp A i) = T at *
        generalize grp A i = g at *
        clear hg1 hg2
        have h2i : (2 * (i : Int)).toNat = 2 * i := by omega
        have h2i1 : (2 * (i : Int) + 1).toNat = 2 * i + 1 := by omega
        have z1 : ∀ (X : List Box) (h : 0 < (B ++ X).length), (B ++ X)[0]'h = ⟨.bool true :: A.map byteC, false⟩ := fun X h => by
          have := x0.1 X
          rw [List.getElem?_eq_getElem h] at this
          exact Option.some.inj this
        rcases hO with ⟨hi0, rfl⟩ | ⟨β, m, hβ0, rfl, hβ⟩
        · have hp0 : parts6 A i = [] := by rw [hi0]; rfl
          rw [hp0] at hp
          replace hi0 : Hid _ := hi0
          repeat' (first | (with_reducible first | apply jA | apply jB | apply jC | apply jD | apply jE | apply jF | apply jG | apply jH | apply jI | apply jJ | apply jK | apply jL | apply jM | apply jN | apply jO) | ((with_reducible apply jP); rfl) | ((first | ((with_reducible first | apply jR | apply jS | apply jT); rfl; rfl) | (with_reducible first | apply jU | apply jV | apply jW) | ((with_reducible first | apply jX | apply jY | apply jZ); rfl)); all_goals (first | ((with_reducible show Is _ _); exact kE) | ((with_reducible refine fun (hc : (_ : Bool) = _) => ?_); (try simp only [xZ, xY, xP, reduceCtorEq] at hc); (try (have hx : True := hc; clear hx hc)); (try exact kX)) | ((fail_if_success (with_reducible first | show Is _ _ | show ACall _ _ _ _ _)); (try ((with_reducible show _ ∨ _); exact kT))))))
          refine w_drawH [17] [⟨[.str T], false⟩] rfl rfl ?_
          repeat' (first | (with_reducible first | apply jA | apply jB | apply jC | apply jD | apply jE | apply jF | apply jG | apply jH | apply jI | apply jJ | apply jK | apply jL | apply jM | apply jN | apply jO) | ((with_reducible apply jP); rfl) | ((first | ((with_reducible first | apply d_made | apply q_made); rfl; rfl)); (iterate 6 exact kE_GG1)) | ((first | ((with_reducible first | apply d_fop | apply q_fop); rfl; rfl)); (intro Bx hJ; (first | (obtain ⟨_, hJ1, hJ2⟩ := hJ) | (try simp only at hJ)); exact kE_GG1)) | ((with_reducible first | apply d_free | apply q_free); rfl; (iterate 2 exact kE_GG1); (intro Bx hJ); (first | ((with_reducible apply hfm) <;> exact kD_GG1))) | ((first | ((with_reducible first | apply jR | apply jS | apply jT); rfl; rfl) | (with_reducible first | apply jU | apply jV | apply jW) | ((with_reducible first | apply jX | apply jY | apply jZ); rfl) | ((with_reducible first | apply kA | apply kB | apply kC); rfl)); all_goals (first | ((with_reducible show Is _ _); exact kE_GG1) | ((with_reducible refine fun (hc : (_ : Bool) = _) => ?_); (try simp only [xZ, xY, xP, reduceCtorEq] at hc); (try (have hx : True := hc; clear hx hc)); (try exact kX)) | ((with_reducible show ACall _ _ _ _ _); (first | ((with_reducible apply hfm) <;> exact kD_GG1))) | ((fail_if_success (with_reducible first | show Is _ _ | show ACall _ _ _ _ _)); (try ((with_reducible show _ ∨ _); first | exact .inl rfl | (refine .inr ⟨rfl, ?_, ?_⟩; (focus (repeat (first | exact trivial | refine ⟨.inl rfl, ?_⟩ | refine ⟨.inr rfl, ?_⟩ | refine ⟨.inr (by (simp (disch := first | omega | (simp only [yZ, yB] <;> omega) | fail) [go_sem, yY, *, cons_get1, cons_take1, cons_drop1, -List.map_take, -List.map_drop, -List.map_append, -List.map_reverse])), ?_⟩))); (first | exact trivial | exact rfl | (refine ⟨_, ?_, ?_⟩; (focus (simp (disch := first | omega | (simp only [yZ, yB] <;> omega) | fail) [go_sem, yY, *, cons_get1, cons_take1, cons_drop1, -List.map_take, -List.map_drop, -List.map_append, -List.map_reverse]; (try exact rfl))); (simp (disch := first | omega | (simp only [yZ, yB] <;> omega) | fail) [go_sem, yY, *, cons_get1, cons_take1, cons_drop1, -List.map_take, -List.map_drop, -List.map_append, -List.map_reverse])) | (simp (disch := first | omega | (simp only [yZ, yB] <;> omega) | fail) [go_sem, yY, *, cons_get1, cons_take1, cons_drop1, -List.map_take, -List.map_drop, -List.map_append, -List.map_reverse]))) | exact .inl (by (simp (disch := first | omega | (simp only [yZ, yB] <;> omega) | fail) [go_sem, yY, *, cons_get1, cons_take1, cons_drop1, -List.map_take, -List.map_drop, -List.map_append, -List.map_reverse]))))))))
          have hi0 : i = 0 := hi0
          refine ⟨⟨i + 1, .view (B.length + 1) 0 1 1 false, by omega, kS, kS, kS, kS, .inr ⟨B.length + 1, false, by omega, by rw [hi0], ?_⟩⟩, kS⟩
          rw [hp]; simp
        · have xb := bx_pack hβ
          have z0 : ∀ y X, (B.set β y ++ X)[0]? = some ⟨.bool true :: A.map byteC, false⟩ := fun y X => by
            rw [List.getElem?_append_left (by rw [List.length_set]; exact (List.getElem?_eq_some_iff.1 h0).1), List.getElem?_set_ne hβ0]; exact h0
          repeat' (first | (with_reducible first | apply jA | apply jB | apply jC | apply jD | apply jE | apply jF | apply jG | apply jH | apply jI | apply jJ | apply jK | apply jL | apply jM | apply jN | apply jO) | ((with_reducible apply jP); rfl) | ((first | ((with_reducible first | apply jR | apply jS | apply jT); rfl; rfl) | (with_reducible first | apply jU | apply jV | apply jW) | ((with_reducible first | apply jX | apply jY | apply jZ); rfl)); all_goals (first | ((with_reducible show Is _ _); exact kE) | ((with_reducible refine fun (hc : (_ : Bool) = _) => ?_); (try simp only [xZ, xY, xP, reduceCtorEq] at hc); (try (have hx : True := hc; clear hx hc)); (try exact kX)) | ((fail_if_success (with_reducible first | show Is _ _ | show ACall _ _ _ _ _)); (try ((with_reducible show _ ∨ _); exact kT))))))
          refine w_drawH [17] [⟨[.str T], false⟩] rfl rfl ?_
          repeat' (first | (with_reducible first | apply jA | apply jB | apply jC | apply jD | apply jE | apply jF | apply jG | apply jH | apply jI | apply jJ | apply jK | apply jL | apply jM | apply jN | apply jO) | ((with_reducible apply jP); rfl) | ((first | ((with_reducible first | apply d_made | apply q_made); rfl; rfl)); (iterate 6 exact kE_GG1)) | ((first | ((with_reducible first | apply d_fop | apply q_fop); rfl; rfl)); (intro Bx hJ; (first | (obtain ⟨_, hJ1, hJ2⟩ := hJ) | (try simp only at hJ)); exact kE_GG1)) | ((with_reducible first | apply d_free | apply q_free); rfl; (iterate 2 exact kE_GG1); (intro Bx hJ); (first | ((with_reducible apply hfm) <;> exact kD_GG1))) | ((first | ((with_reducible first | apply jR | apply jS | apply jT); rfl; rfl) | (with_reducible first | apply jU | apply jV | apply jW) | ((with_reducible first | apply jX | apply jY | apply jZ); rfl) | ((with_reducible first | apply kA | apply kB | apply kC); rfl)); all_goals (first | ((with_reducible show Is _ _); exact kE_GG1) | ((with_reducible refine fun (hc : (_ : Bool) = _) => ?_); (try simp only [xZ, xY, xP, reduceCtorEq] at hc); (try (have hx : True := hc; clear hx hc)); (try exact kX)) | ((with_reducible show ACall _ _ _ _ _); (first | ((with_reducible apply hfm) <;> exact kD_GG1))) | ((fail_if_success (with_reducible first | show Is _ _ | show ACall _ _ _ _ _)); (try ((with_reducible show _ ∨ _); first | exact .inl rfl | (refine .inr ⟨rfl, ?_, ?_⟩; (focus (repeat (first | exact trivial | refine ⟨.inl rfl, ?_⟩ | refine ⟨.inr rfl, ?_⟩ | refine ⟨.inr (by (simp (disch := first | omega | (simp only [yZ, yB] <;> omega) | fail) [go_sem, yY, *, cons_get1, cons_take1, cons_drop1, -List.map_take, -List.map_drop, -List.map_append, -List.map_reverse])), ?_⟩))); (first | exact trivial | exact rfl | (refine ⟨_, ?_, ?_⟩; (focus (simp (disch := first | omega | (simp only [yZ, yB] <;> omega) | fail) [go_sem, yY, *, cons_get1, cons_take1, cons_drop1, -List.map_take, -List.map_drop, -List.map_append, -List.map_reverse]; (try exact rfl))); (simp (disch := first | omega | (simp only [yZ, yB] <;> omega) | fail) [go_sem, yY, *, cons_get1, cons_take1, cons_drop1, -List.map_take, -List.map_drop, -List.map_append, -List.map_reverse])) | (simp (disch := first | omega | (simp only [yZ, yB] <;> omega) | fail) [go_sem, yY, *, cons_get1, cons_take1, cons_drop1, -List.map_take, -List.map_drop, -List.map_append, -List.map_reverse]))) | exact .inl (by (simp (disch := first | omega | (simp only [yZ, yB] <;> omega) | fail) [go_sem, yY, *, cons_get1, cons_take1, cons_drop1, -List.map_take, -List.map_drop, -List.map_append, -List.map_reverse]))))))))
          refine ⟨⟨i + 1, .view β 0 (i + 1) 1 false, by omega, kS, kS, kS, kS, .inr ⟨β, true, hβ0, rfl, ?_⟩⟩, kS⟩
          rw [hp, List.map_append]; (simp (disch := omega) [go_sem, *]) <;> (try omega)
      · obtain rfl : i = 8 := by omega
        rcases hO with ⟨hi0, _⟩ | ⟨β, m, hβ0, rfl, hβ⟩
        · omega
        · have hpl : (parts6 A 8).length = 8 := by simp [parts6]
          have hj : ∀ {B : List Box} {args : List CV}, Is (omap (Go.Sy.fz true false B 6) args) (some [.lst 8 ((parts6 A 8).map .str) false, .str [58]]) → ACall Tryz.prog 48 args B fun c B' => c = .str (Go.Lib.join (parts6 A 8) [58]) ∧ B' = B := fun h => join_at h hpl.symm (by omega) (by
            have := join_le (t := [58]) (k := 4) (parts6 A 8) fun x hx => by
              simp only [parts6, List.mem_map, List.mem_range] at hx
              obtain ⟨i, _, rfl⟩ := hx
              exact hexT_len 3 _ (grp_lt A i)
            rw [hpl] at this
            simp at this
            omega)
          generalize parts6 A 8 = L at *
          have xb := bx_pack hβ
          have htk : (L.map CV.str).take 8 = L.map CV.str := List.take_of_length_le (by simp; omega)
          refine w_GG21 @hj ?_ 
          rfl
theorem fmtAddr_at {B : List Box} {args : List CV} {six : Bool} {A : List UInt8} (hz : Is (omap (Go.Sy.fz true false B 6) args) (some [addrC six A])) (hA : A.length = 16) : ACall Tryz.prog 108 args B fun c B' => c = .str (fmtA six A) ∧ B' = B := acall_fresh hz (fmtAddr_in six A hA)
end Go.Proofs.YtcbdghgogmcllaaGreatDoor
end
section
namespace Go.Proofs.YtcbdghgogmcllaaGreatDoor
open Go Go.Sy
def oct (x : List UInt8) : Bool := decOk 3 x && decide (decV x ≤ 255)
theorem foldl_ge : ∀ (l : List UInt8) (n : Nat), n * 10 ^ l.length ≤ l.foldl (fun n c => 10 * n + (c.toNat - 48)) n
  | [], n => by simp
  | c :: l, n => by
    have := foldl_ge l (10 * n + (c.toNat - 48))
    rw [List.foldl_cons, List.length_cons, Nat.pow_succ]
    refine Nat.le_trans ?_ this
    have h : n * (10 ^ l.length * 10) = (10 * n) * 10 ^ l.length := by rw [Nat.mul_comm (10 ^ l.length), ← Nat.mul_assoc, Nat.mul_comm n]
    rw [h]
    exact Nat.mul_le_mul_right _ (by omega)
theorem oct_eq (x : List UInt8) : (decOk 10 x && decide ((decR 10 x : Int) ≤ 255)) = oct x := by
  by_cases h : x.length ≤ 3
  · have e : decOk 10 x = decOk 3 x := by
      have h10 : x.length ≤ 10 := by omega
      simp [decOk, headOk, h, h10]
    rw [oct, ← e]
    cases hd : decOk 10 x with
    | false => simp
    | true => simp [decR, hd]; omega
  · have e3 : decOk 3 x = false := by simp [decOk, headOk, h]
    rw [oct, e3, Bool.false_and, Bool.and_eq_false_iff]
    cases hd : decOk 10 x with
    | false => exact .inl rfl
    | true =>
      right
      rw [decR, if_pos hd]
      cases x with
      | nil => simp at h
      | cons c x =>
        simp only [decOk, Bool.and_eq_true, List.all_cons] at hd
        have hc : 48 ≤ c.toNat ∧ c.toNat ≤ 57 := by simpa [isDig] using hd.2.1
        have hne : c ≠ 48 := by
          intro hc48
          have := hd.1
          simp [headOk, hc48] at this
          have hl : 1 < (c :: x).length := by simp; simp at h; omega
          simp at h
          have := this.2
          subst this
          simp at h
        have hc1 : 49 ≤ c.toNat := by
          rcases Nat.lt_or_ge c.toNat 49 with h1 | h1
          · exact absurd (UInt8.toNat_inj.1 (by show c.toNat = 48; omega)) hne
          · exact h1
        have hge := foldl_ge x (10 * 0 + (c.toNat - 48))
        have hp : 10 ^ 3 ≤ 10 ^ x.length := Nat.pow_le_pow_right (by decide) (by simp at h; omega)
        have : 1 * 10 ^ x.length ≤ (10 * 0 + (c.toNat - 48)) * 10 ^ x.length := Nat.mul_le_mul_right _ (by omega)
        have hv : decV (c :: x) = x.foldl (fun n c => 10 * n + (c.toNat - 48)) (10 * 0 + (c.toNat - 48)) := rfl
        rw [hv]
        simp only [decide_eq_false_iff_not]
        omega
def a4 (L : List (List UInt8)) (j : Nat) : List UInt8 := (L.take j).map (fun x => UInt8.ofNat (decV x)) ++ List.replicate (16 - j) 0
def p4 (L : List (List UInt8)) : Option (Bool × List UInt8) := if L.all oct then some (false, a4 L 4) else none
def rA (o : Option (Bool × List UInt8)) : CV := match o with | some (six, A) => .tup [addrC six A, .int .i64 0] | none => .tup [addrC false z16, .int .i64 5]
theorem a4_set {L : List (List UInt8)} {j : Nat} (hL : L.length = 4) (hj : j < 4) : (a4 L j).set j (UInt8.ofNat (decV (L[j]'(by omega)))) = a4 L (j + 1) := by
  have e : 16 - j = (16 - (j + 1)) + 1 := by omega
  have hl : ((L.take j).map fun x => UInt8.ofNat (decV x)).length = j := by rw [List.length_map, List.length_take]; omega
  rw [a4, a4, List.set_append_right _ _ (by omega), hl, Nat.sub_self, e, List.replicate_succ, List.set_cons_zero, List.take_succ_eq_append_getElem (by omega), List.map_append, List.append_assoc]
  rfl
theorem a4_len {L : List (List UInt8)} {j : Nat} (hL : L.length = 4) (hj : j ≤ 4) : (a4 L j).length = 16 := by simp [a4, hL]; omega
def a6 (L : List (List UInt8)) (j : Nat) : List UInt8 := (L.take j).flatMap (fun x => [UInt8.ofNat (hexV x / 256), UInt8.ofNat (hexV x)]) ++ List.replicate (16 - 2 * j) 0
def p6 (L : List (List UInt8)) : Option (Bool × List UInt8) := if L.all hexOk then some (true, a6 L 8) else none
theorem fm_len (L : List (List UInt8)) : (L.flatMap (fun x => [UInt8.ofNat (hexV x / 256), UInt8.ofNat (hexV x)])).length = 2 * L.length := by
  induction L with
  | nil => rfl
  | cons x xs ih => rw [List.flatMap_cons, List.length_append, ih]; simp; omega
theorem a6_len {L : List (List UInt8)} {j : Nat} (hL : L.length = 8) (hj : j ≤ 8) : (a6 L j).length = 16 := by
  rw [a6, List.length_append, fm_len, List.length_take, List.length_replicate]; omega
theorem a6_set {L : List (List UInt8)} {j : Nat} (hL : L.length = 8) (hj : j < 8) : ((a6 L j).set (2 * j) (UInt8.ofNat (hexV (L[j]'(by omega)) / 256))).set (2 * j + 1) (UInt8.ofNat (hexV (L[j]'(by omega)))) = a6 L (j + 1) := by
  have e : 16 - 2 * j = (16 - 2 * (j + 1)) + 1 + 1 := by omega
  have hl : ((L.take j).flatMap (fun x => [UInt8.ofNat (hexV x / 256), UInt8.ofNat (hexV x)])).length = 2 * j := by rw [fm_len, List.length_take]; omega
  rw [a6, a6, List.take_succ_eq_append_getElem (by omega), List.flatMap_append]
  generalize (L.take j).flatMap (fun x => [UInt8.ofNat (hexV x / 256), UInt8.ofNat (hexV x)]) = F at *
  rw [List.set_append_right _ _ (by omega), hl, Nat.sub_self, e, List.replicate_succ, List.set_cons_zero, List.set_append_right _ _ (by omega), hl, show 2 * j + 1 - 2 * j = 1 by omega, List.replicate_succ]
  simp
end Go.Proofs.YtcbdghgogmcllaaGreatDoor
end
section
namespace Go.Proofs.YtcbdghgogmcllaaGreatDoor
open Go Go.Sy
theorem kE_GJ0 {α : Type} {x y : α} (h : Is x y := by first | ((try simp (disch := first | omega | (simp only [yZ, yB] <;> omega) | fail) [go_sem, yY, *, cons_get1, cons_take1, cons_drop1, if_pos, if_neg, -List.map_take, -List.map_drop, -List.map_append, -List.map_reverse]); exact rfl) | fail) : Is x y := h
theorem kD_GJ0 {p : Prop} (h : p := by (first | omega | assumption | exact rfl | ((simp (disch := first | omega | (simp only [yZ, yB] <;> omega) | fail) [go_sem, yY, *, cons_get1, cons_take1, cons_drop1, -List.map_take, -List.map_drop, -List.map_append, -List.map_reverse]) <;> (first | done | omega | exact rfl)) | fail)) : p := h
theorem wB_GJ0 {p q : Prop} (k : q) (h : Hq q → p := by (intro k; (repeat' (first | (with_reducible first | apply jA | apply jB | apply jC | apply jD | apply jE | apply jF | apply jG | apply jH | apply jI | apply jJ | apply jK | apply jL | apply jM | apply jN | apply jO) | ((with_reducible first | apply jP | apply jQ); rfl) | ((first | ((with_reducible first | apply jR | apply jS | apply jT); rfl; rfl) | (with_reducible first | apply jU | apply jV | apply jW) | ((with_reducible first | apply jX | apply jY | apply jZ); rfl) | ((with_reducible first | apply kA | apply kB | apply kC); rfl)); all_goals (first | ((with_reducible show Is _ _); exact kE_GJ0) | ((with_reducible refine fun (hc : (_ : Bool) = _) => ?_); (try simp only [xZ, xY, xP, reduceCtorEq] at hc); (try (have hx : True := hc; clear hx hc)); (try exact kX)) | ((with_reducible show ACall _ _ _ _ _); (first | ((with_reducible apply c0) <;> exact kD_GJ0) | ((with_reducible apply c1) <;> exact kD_GJ0) | ((with_reducible apply c2) <;> exact kD_GJ0) | ((with_reducible apply c3) <;> exact kD_GJ0) | ((with_reducible apply c4) <;> exact kD_GJ0) | ((with_reducible apply c5) <;> exact kD_GJ0) | ((with_reducible apply c6) <;> exact kD_GJ0) | ((with_reducible apply c7) <;> exact kD_GJ0))) | ((fail_if_success (with_reducible first | show Is _ _ | show ACall _ _ _ _ _)); (try ((with_reducible show _ ∨ _); exact kT))))) | (((with_reducible first | apply o_callQ | apply q_callQ); rfl); (iterate 2 exact kE_GJ0); (first | ((with_reducible apply q0) <;> exact kD_GJ0))))); exact hq k)) : p := h ⟨k⟩
theorem w_GJ01 {A0 p q : Prop} (c0 : A0) (k : q) (h : A0 → Hq q → p := by (intro c0 k; exact wB_GJ0 (hq k))) : p := h c0 ⟨k⟩
theorem splitL_mem (b : UInt8) : ∀ (s x : List UInt8), x ∈ splitL b s → x.length ≤ s.length
  | [], x, h => by simp [splitL] at h; subst h; simp
  | c :: s, x, h => by
    rw [splitL] at h
    have ih := splitL_mem b s
    split at h
    · rcases List.mem_cons.1 h with rfl | h
      · simp
      · have := ih x h; simp; omega
    · split at h
      · have : x = [c] := by simpa using h
        subst this; simp
      · rename_i y ys he
        rcases List.mem_cons.1 h with rfl | h
        · have := ih y (by rw [he]; simp); simp; omega
        · have := ih x (by rw [he]; simp [h]); simp; omega
theorem splitL_num (b : UInt8) : ∀ (s : List UInt8), (splitL b s).length ≤ s.length + 1
  | [] => by simp [splitL]
  | c :: s => by
    have ih := splitL_num b s
    rw [splitL]
    split
    · simp; omega
    · split
      · simp
      · rename_i y ys he
        rw [he] at ih
        simp at ih ⊢; omega
theorem p4_len {L : List (List UInt8)} {six : Bool} {A : List UInt8} (hL : L.length = 4) (h : p4 L = some (six, A)) : A.length = 16 := by
  rw [p4] at h
  split at h
  · have := (Prod.mk.inj (Option.some.inj h)).2
    subst this; exact a4_len hL (by omega)
  · cases h
theorem p6_len {L : List (List UInt8)} {six : Bool} {A : List UInt8} (hL : L.length = 8) (h : p6 L = some (six, A)) : A.length = 16 := by
  rw [p6] at h
  split at h
  · have := (Prod.mk.inj (Option.some.inj h)).2
    subst this; exact a6_len hL (by omega)
  · cases h
def parseA (s : List UInt8) : Option (Bool × List UInt8) := if (splitL 46 s).length = 4 then p4 (splitL 46 s) else if (splitL 58 s).length = 8 then p6 (splitL 58 s) else none
theorem set2b {a b : CV} {M : List CV} {n : Nat} (hn : n + 1 < M.length) : (M.take n ++ a :: M.drop (1 + n)).take (n + 1) ++ b :: (M.take n ++ a :: M.drop (1 + n)).drop (1 + (n + 1)) = (M.set n a).set (n + 1) b := by
  have hX : M.take n ++ a :: M.drop (1 + n) = M.set n a := by
    rw [List.set_eq_take_append_cons_drop, if_pos (by omega), Nat.add_comm 1 n]
  rw [hX, List.set_eq_take_append_cons_drop (l := M.set n a), if_pos (by simp; omega), Nat.add_comm 1 (n + 1)]
theorem parse_in (s : List UInt8) (hs : s.length < 1000000000) : PC Tryz.prog true 113 [.str s] (rA (parseA s)) := by
  refine acall_intro mixed Tryz.func113 rfl ca113 (by kernel_rfl) (by rw [Tryz.ntmps113]; simp) ?_
  have hn4 := splitL_num 46 s
  have hn6 := splitL_num 58 s
  have hm4 := fun x hx => Nat.lt_of_le_of_lt (splitL_mem 46 s x hx) hs
  have hm6 := fun x hx => Nat.lt_of_le_of_lt (splitL_mem 58 s x hx) hs
  have hsp4 : ∀ {B : List Box}, ACall Tryz.prog 45 [.str s, .str [46]] B fun c B' => c = .lst (splitL 46 s).length ((splitL 46 s).map .str) true ∧ B' = B := split_at (b := 46) (by omega)
  have hsp6 : ∀ {B : List Box}, ACall Tryz.prog 45 [.str s, .str [58]] B fun c B' => c = .lst (splitL 58 s).length ((splitL 58 s).map .str) true ∧ B' = B := split_at (b := 58) (by omega)
  by_cases hL : (splitL 46 s).length = 4
  · have hp : parseA s = p4 (splitL 46 s) := by rw [parseA, if_pos hL]
    rw [hp]
    rw [hL] at hsp4
    generalize splitL 46 s = L at *
    clear hp hsp6 hn4 hn6 hm6
    refine w1 @hsp4 ?_ 
    refine w_loop (fun fr B => ∃ j : Nat, j ≤ 4 ∧ (L.take j).all oct = true ∧ fr 22 = .int .i64 j ∧ fr 21 = .int .i64 4 ∧ fr 20 = .lst 4 (L.map .str) true ∧ fr 4 = .ptr 1 0 ∧ fr 2 = .ptr 0 0 ∧ fr 3 = .int .i64 0 ∧ B = [⟨.bool false :: z16.map byteC, false⟩, ⟨.bool false :: (a4 L j).map byteC, false⟩]) (fun fr _ => 4 - natOf (fr 22)) ?_ ?_
    · exact ⟨0, by omega, rfl, kS, kS, kS, kS, kS, kS, rfl⟩
    rintro fr B ⟨j, hj, hall, h11, h10, h9, h4, h2, h3, rfl⟩
    have hal := a4_len hL hj
    by_cases hc : j < 4
    · have hset := a4_set hL hc
      have hx : (L.map CV.str).drop j = .str (L[j]'(by omega)) :: (L.map CV.str).drop (j + 1) := by
        rw [List.drop_eq_getElem_cons (by simp; omega)]; simp
      have hxl := hm4 (L[j]'(by omega)) (List.getElem_mem _)
      have hnall : (L.take (j + 1)).all oct = oct (L[j]'(by omega)) := by rw [List.take_succ_eq_append_getElem (by omega), List.all_append, hall]; simp
      have hno : oct (L[j]'(by omega)) = false → p4 L = none := fun h => by
        have : L.all oct = false := by
          rw [List.all_eq_false]
          exact ⟨_, List.getElem_mem (show j < L.length by omega), by simp [h]⟩
        simp [p4, this]
      have hnum : ∀ {B : List Box}, ACall Tryz.prog 110 [.str (L[j]'(by omega)), .int .i64 255] B fun c B' => c = .tup [.int .i64 (decR 10 (L[j]'(by omega))), .bool (oct (L[j]'(by omega)))] ∧ B' = B := by
        intro B
        have := @decimal_at B (L[j]'(by omega)) 255 (by omega)
        rwa [oct_eq] at this
      generalize (L[j]'(by omega)) = x at *
      cases ho : oct x with
      | false =>
        rw [hno ho]
        rw [ho] at hnum
        clear hset hno hnall ho
        generalize decR 10 x = v at *
        refine w_GJ01 @hnum ?_ 
        rfl
      | true =>
        have hb : decR 10 x ≤ 255 ∧ decV x = decR 10 x := by
          rw [← oct_eq, Bool.and_eq_true] at ho
          have h2 := of_decide_eq_true ho.2
          exact ⟨by omega, by rw [decR, if_pos ho.1]⟩
        rw [ho] at hnall hnum
        have hby := byte_nat (decR 10 x) (by omega)
        rw [hb.2] at hset
        have hb2 := hb.1
        clear hb ho hno
        generalize decR 10 x = v at *
        generalize UInt8.ofNat v = y at *
        refine w_GJ01 @hnum ?_ 
        refine ⟨⟨j + 1, by omega, hnall, kS, kS, kS, kS, kS, kS, ?_⟩, kS⟩
        rw [← hset, List.set_eq_take_append_cons_drop, if_pos (by omega), List.map_append, List.map_cons, hby, Nat.add_comm 1 j]
    · obtain rfl : j = 4 := by omega
      have hp : p4 L = some (false, a4 L 4) := by rw [List.take_of_length_le (by omega)] at hall; simp [p4, hall]
      rw [hp]
      refine w0 ?_ 
      (simp (disch := omega) [go_sem, *, rA, addrC]) <;> (try omega)
  by_cases hL6 : (splitL 58 s).length = 8
  · have hp : parseA s = p6 (splitL 58 s) := by rw [parseA, if_neg hL, if_pos hL6]
    rw [hp]
    rw [hL6] at hsp6
    generalize splitL 58 s = L at *
    clear hp hm4
    refine w2 @hsp4 @hsp6 ?_ 
    clear hsp4 hsp6 hL
    refine w_loop (fun fr B => ∃ j : Nat, j ≤ 8 ∧ (L.take j).all hexOk = true ∧ fr 51 = .int .i64 j ∧ fr 50 = .int .i64 8 ∧ fr 49 = .lst 8 (L.map .str) true ∧ fr 4 = .ptr 1 0 ∧ fr 2 = .ptr 0 0 ∧ fr 3 = .int .i64 0 ∧ B = [⟨.bool false :: z16.map byteC, false⟩, ⟨.bool true :: (a6 L j).map byteC, false⟩]) (fun fr _ => 8 - natOf (fr 51)) ?_ ?_
    · exact ⟨0, by omega, rfl, kS, kS, kS, kS, kS, kS, rfl⟩
    rintro fr B ⟨j, hj, hall, h13, h12, h11, h4, h2, h3, rfl⟩
    have hal := a6_len hL6 hj
    by_cases hc : j < 8
    · have hset := a6_set hL6 hc
      have hx : (L.map CV.str).drop j = .str (L[j]'(by omega)) :: (L.map CV.str).drop (j + 1) := by
        rw [List.drop_eq_getElem_cons (by simp; omega)]; simp
      have hxl := hm6 (L[j]'(by omega)) (List.getElem_mem _)
      have hnall : (L.take (j + 1)).all hexOk = hexOk (L[j]'(by omega)) := by rw [List.take_succ_eq_append_getElem (by omega), List.all_append, hall]; simp
      have hno : hexOk (L[j]'(by omega)) = false → p6 L = none := fun h => by
        have : L.all hexOk = false := by
          rw [List.all_eq_false]
          exact ⟨_, List.getElem_mem (show j < L.length by omega), by simp [h]⟩
        simp [p6, this]
      have hnum : ∀ {B : List Box}, ACall Tryz.prog 140 [.str (L[j]'(by omega))] B fun c B' => c = .tup [.int .i64 (hexR (L[j]'(by omega))), .bool (hexOk (L[j]'(by omega)))] ∧ B' = B := hexadecimal_at (by omega)
      generalize (L[j]'(by omega)) = x at *
      cases ho : hexOk x with
      | false =>
        rw [hno ho]
        rw [ho] at hnum
        clear hset hno hnall ho
        generalize hexR x = v at *
        refine w_GJ01 @hnum ?_ 
        rfl
      | true =>
        have hb : hexR x ≤ 65535 ∧ hexV x = hexR x := by
          have hl : x.length ≤ 4 := by simp [hexOk] at ho; exact ho.1.2
          have := hex_bound (s := x) hl
          rw [List.take_length] at this
          rw [hexR, if_pos ho]
          exact ⟨this, rfl⟩
        rw [ho] at hnall hnum
        have hby1 := byte_nat (hexR x / 256) (by omega)
        have hby2 := byte_wrap (hexR x)
        rw [hb.2] at hset
        have hb2 := hb.1
        clear hb ho hno
        generalize hexR x = w at *
        replace hset : Hid _ := hset
        have h2i : (2 * (j : Int)).toNat = 2 * j := by omega
        refine w_GJ01 @hnum ?_ 
        refine ⟨⟨j + 1, by omega, hnall, kS, kS, kS, kS, kS, kS, ?_⟩, kS⟩
        rw [← (show _ = a6 L (j + 1) from hset), List.map_set, List.map_set, hby1, hby2]
        simp only [List.map_drop, List.map_take]
        rw [set2b (by simp; omega)]
        simp
    · obtain rfl : j = 8 := by omega
      have hp : p6 L = some (true, a6 L 8) := by rw [List.take_of_length_le (by omega)] at hall; simp [p6, hall]
      rw [hp]
      refine w0 ?_ 
      (simp (disch := omega) [go_sem, *, rA, addrC]) <;> (try omega)
  · have hp : parseA s = none := by rw [parseA, if_neg hL, if_neg hL6]
    rw [hp]
    clear hp hm4 hm6
    refine w2 @hsp4 @hsp6 ?_ 
    rfl
end Go.Proofs.YtcbdghgogmcllaaGreatDoor
end
section
namespace Go.Proofs.YtcbdghgogmcllaaGreatDoor
open Go Go.Sy
theorem kE_GK0 {α : Type} {x y : α} (h : Is x y := by first | ((try simp (disch := first | omega | (simp only [yZ, yB] <;> omega) | fail) [go_sem, yY, *, prefC, if_pos, if_neg, -List.map_take, -List.map_drop, -List.map_append, -List.map_reverse]); exact rfl) | fail) : Is x y := h
theorem kD_GK0 {p : Prop} (h : p := by (first | omega | assumption | exact rfl | ((simp (disch := first | omega | (simp only [yZ, yB] <;> omega) | fail) [go_sem, yY, *, prefC, -List.map_take, -List.map_drop, -List.map_append, -List.map_reverse]) <;> (first | done | omega | exact rfl)) | fail)) : p := h
theorem wB_GK0 {p q : Prop} (k : q) (h : Hq q → p := by (intro k; (repeat' (first | (with_reducible first | apply jA | apply jB | apply jC | apply jD | apply jE | apply jF | apply jG | apply jH | apply jI | apply jJ | apply jK | apply jL | apply jM | apply jN | apply jO) | ((with_reducible first | apply jP | apply jQ); rfl) | ((first | ((with_reducible first | apply jR | apply jS | apply jT); rfl; rfl) | (with_reducible first | apply jU | apply jV | apply jW) | ((with_reducible first | apply jX | apply jY | apply jZ); rfl) | ((with_reducible first | apply kA | apply kB | apply kC); rfl)); all_goals (first | ((with_reducible show Is _ _); exact kE_GK0) | ((with_reducible refine fun (hc : (_ : Bool) = _) => ?_); (try simp only [xZ, xY, xP, reduceCtorEq] at hc); (try (have hx : True := hc; clear hx hc)); (try exact kX)) | ((with_reducible show ACall _ _ _ _ _); (first | ((with_reducible apply c0) <;> exact kD_GK0) | ((with_reducible apply c1) <;> exact kD_GK0) | ((with_reducible apply c2) <;> exact kD_GK0) | ((with_reducible apply c3) <;> exact kD_GK0) | ((with_reducible apply c4) <;> exact kD_GK0) | ((with_reducible apply c5) <;> exact kD_GK0) | ((with_reducible apply c6) <;> exact kD_GK0) | ((with_reducible apply c7) <;> exact kD_GK0))) | ((fail_if_success (with_reducible first | show Is _ _ | show ACall _ _ _ _ _)); (try ((with_reducible show _ ∨ _); exact kT))))) | (((with_reducible first | apply o_callQ | apply q_callQ); rfl); (iterate 2 exact kE_GK0); (first | ((with_reducible apply q0) <;> exact kD_GK0))))); exact hq k)) : p := h ⟨k⟩
theorem w_GK01 {A0 p q : Prop} (c0 : A0) (k : q) (h : A0 → Hq q → p := by (intro c0 k; exact wB_GK0 (hq k))) : p := h c0 ⟨k⟩
theorem fmtA_len (six : Bool) (A : List UInt8) : (fmtA six A).length ≤ 40 := by
  rw [fmtA]
  split
  · split
    · have := join_le (t := [58]) (k := 4) (parts6 A 8) fun x hx => by
        simp only [parts6, List.mem_map, List.mem_range] at hx
        obtain ⟨i, _, rfl⟩ := hx
        exact hexT_len 3 _ (grp_lt A i)
      simpa [parts6] using this
    · have := join_le (t := [46]) (k := 3) (parts4 A 4) fun x hx => by
        simp only [parts4, List.mem_map, List.mem_range] at hx
        obtain ⟨i, _, rfl⟩ := hx
        have := (A.getD i 0).toNat_lt
        exact decDigits_len 2 _ (by omega)
      simp [parts4] at this ⊢
      omega
  · simp
def brk (six : Bool) (t : List UInt8) : List UInt8 := if six then 91 :: (t ++ [93]) else t
def fmtE (six : Bool) (A : List UInt8) (p : Int) : List UInt8 := if okA six A = true ∧ 1 ≤ p ∧ p ≤ 65535 then brk six (fmtA six A) ++ 58 :: Go.Lib.decDigits p.toNat else []
theorem decDigits_ne (n : Nat) : Go.Lib.decDigits n ≠ [] := by
  rw [Go.Lib.decDigits]; split <;> simp
theorem fmtA_nil {six : Bool} {A : List UInt8} : (fmtA six A = []) ↔ okA six A = false := by
  cases h : okA six A with
  | false => simp [fmtA, h]
  | true =>
    simp only [fmtA, h, if_true, Bool.true_eq_false, iff_false]
    cases six with
    | true => simp [parts6, show List.range 8 = [0, 1, 2, 3, 4, 5, 6, 7] from rfl, Go.Lib.join_cons, Go.Lib.joinTail]
    | false => simp [parts4, show List.range 4 = [0, 1, 2, 3] from rfl, Go.Lib.join_cons, Go.Lib.joinTail]
theorem fmtE_in (six : Bool) (A : List UInt8) (p : Int) (hA : A.length = 16) (hp : -9223372036854775808 ≤ p ∧ p ≤ 9223372036854775807) : PC Tryz.prog true 73 [prefC six A p] (.str (fmtE six A p)) := by
  refine acall_intro mixed Tryz.func73 rfl ca73 (by kernel_rfl) (by rw [Tryz.ntmps73]; simp) ?_
  have hf : ∀ {B : List Box} {args : List CV}, Is (omap (Go.Sy.fz true false B 6) args) (some [addrC six A]) → ACall Tryz.prog 108 args B fun c B' => c = .str (fmtA six A) ∧ B' = B := fun h => fmtAddr_at h hA
  have hfl := fmtA_len six A
  have hnil := @fmtA_nil six A
  by_cases hok : okA six A = true
  · have hne : fmtA six A ≠ [] := fun h => by rw [hnil.1 h] at hok; cases hok
    have hq : (fmtA six A == []) = false := by simpa using hne
    by_cases hr : 1 ≤ p ∧ p ≤ 65535
    · have e : fmtE six A p = brk six (fmtA six A) ++ 58 :: Go.Lib.decDigits p.toNat := by rw [fmtE, if_pos ⟨hok, hr⟩]
      have hi : ∀ {B : List Box}, ACall Tryz.prog 83 [.int .i64 p] B fun c B' => c = .str (Go.Lib.decDigits p.toNat) ∧ B' = B := by
        intro B
        have := itoa_at (B := B) (n := p) hp
        rwa [Go.Lib.itoa, if_neg (by omega)] at this
      have hdl := decDigits_len 4 p.toNat (by omega)
      rw [e]
      have hr1 := hr.1
      have hr2 := hr.2
      clear e hnil hok hne hr
      generalize fmtA six A = t at *
      generalize Go.Lib.decDigits p.toNat = d at *
      cases six with
      | true =>
        repeat' (first | (with_reducible first | apply jA | apply jB | apply jC | apply jD | apply jE | apply jF | apply jG | apply jH | apply jI | apply jJ | apply jK | apply jL | apply jM | apply jN | apply jO) | ((with_reducible first | apply jP | apply jQ); rfl) | ((first | ((with_reducible first | apply jR | apply jS | apply jT); rfl; rfl) | (with_reducible first | apply jU | apply jV | apply jW) | ((with_reducible first | apply jX | apply jY | apply jZ); rfl) | ((with_reducible first | apply kA | apply kB | apply kC); rfl)); all_goals (first | ((with_reducible show Is _ _); exact kE_GK0) | ((with_reducible refine fun (hc : (_ : Bool) = _) => ?_); (try simp only [xZ, xY, xP, reduceCtorEq] at hc); (try (have hx : True := hc; clear hx hc)); (try exact kX)) | ((with_reducible show ACall _ _ _ _ _); (first | ((with_reducible apply hf) <;> exact kD_GK0) | ((with_reducible apply hi) <;> exact kD_GK0))) | ((fail_if_success (with_reducible first | show Is _ _ | show ACall _ _ _ _ _)); (try ((with_reducible show _ ∨ _); exact kT))))))
        (simp (disch := omega) [go_sem, *, brk]) <;> (try omega)
      | false =>
        repeat' (first | (with_reducible first | apply jA | apply jB | apply jC | apply jD | apply jE | apply jF | apply jG | apply jH | apply jI | apply jJ | apply jK | apply jL | apply jM | apply jN | apply jO) | ((with_reducible first | apply jP | apply jQ); rfl) | ((first | ((with_reducible first | apply jR | apply jS | apply jT); rfl; rfl) | (with_reducible first | apply jU | apply jV | apply jW) | ((with_reducible first | apply jX | apply jY | apply jZ); rfl) | ((with_reducible first | apply kA | apply kB | apply kC); rfl)); all_goals (first | ((with_reducible show Is _ _); exact kE_GK0) | ((with_reducible refine fun (hc : (_ : Bool) = _) => ?_); (try simp only [xZ, xY, xP, reduceCtorEq] at hc); (try (have hx : True := hc; clear hx hc)); (try exact kX)) | ((with_reducible show ACall _ _ _ _ _); (first | ((with_reducible apply hf) <;> exact kD_GK0) | ((with_reducible apply hi) <;> exact kD_GK0))) | ((fail_if_success (with_reducible first | show Is _ _ | show ACall _ _ _ _ _)); (try ((with_reducible show _ ∨ _); exact kT))))))
        (simp (disch := omega) [go_sem, *, brk]) <;> (try omega)
    · have e : fmtE six A p = [] := by rw [fmtE, if_neg fun h => hr h.2]
      rw [e]
      have hr2 : p < 1 ∨ (1 ≤ p ∧ 65535 < p) := by omega
      clear e hnil hok hne hr
      generalize fmtA six A = t at *
      rcases hr2 with hr | ⟨hr, hr2⟩
      · repeat' (first | (with_reducible first | apply jA | apply jB | apply jC | apply jD | apply jE | apply jF | apply jG | apply jH | apply jI | apply jJ | apply jK | apply jL | apply jM | apply jN | apply jO) | ((with_reducible first | apply jP | apply jQ); rfl) | ((first | ((with_reducible first | apply jR | apply jS | apply jT); rfl; rfl) | (with_reducible first | apply jU | apply jV | apply jW) | ((with_reducible first | apply jX | apply jY | apply jZ); rfl) | ((with_reducible first | apply kA | apply kB | apply kC); rfl)); all_goals (first | ((with_reducible show Is _ _); exact kE_GK0) | ((with_reducible refine fun (hc : (_ : Bool) = _) => ?_); (try simp only [xZ, xY, xP, reduceCtorEq] at hc); (try (have hx : True := hc; clear hx hc)); (try exact kX)) | ((with_reducible show ACall _ _ _ _ _); (first | ((with_reducible apply hf) <;> exact kD_GK0))) | ((fail_if_success (with_reducible first | show Is _ _ | show ACall _ _ _ _ _)); (try ((with_reducible show _ ∨ _); exact kT))))))
        rfl
      · repeat' (first | (with_reducible first | apply jA | apply jB | apply jC | apply jD | apply jE | apply jF | apply jG | apply jH | apply jI | apply jJ | apply jK | apply jL | apply jM | apply jN | apply jO) | ((with_reducible first | apply jP | apply jQ); rfl) | ((first | ((with_reducible first | apply jR | apply jS | apply jT); rfl; rfl) | (with_reducible first | apply jU | apply jV | apply jW) | ((with_reducible first | apply jX | apply jY | apply jZ); rfl) | ((with_reducible first | apply kA | apply kB | apply kC); rfl)); all_goals (first | ((with_reducible show Is _ _); exact kE_GK0) | ((with_reducible refine fun (hc : (_ : Bool) = _) => ?_); (try simp only [xZ, xY, xP, reduceCtorEq] at hc); (try (have hx : True := hc; clear hx hc)); (try exact kX)) | ((with_reducible show ACall _ _ _ _ _); (first | ((with_reducible apply hf) <;> exact kD_GK0))) | ((fail_if_success (with_reducible first | show Is _ _ | show ACall _ _ _ _ _)); (try ((with_reducible show _ ∨ _); exact kT))))))
        rfl
  · have e : fmtE six A p = [] := by rw [fmtE, if_neg fun h => hok h.1]
    rw [e]
    rw [hnil.2 (by simpa using hok)] at hf
    refine w_GK01 @hf ?_ 
    rfl
end Go.Proofs.YtcbdghgogmcllaaGreatDoor
end
section
namespace Go.Proofs.YtcbdghgogmcllaaGreatDoor
open Go Go.Sy
theorem kE_GL0 {α : Type} {x y : α} (h : Is x y := by first | ((try simp (disch := first | omega | (simp only [yZ, yB] <;> omega) | fail) [go_sem, yY, *, rA, addrC, if_pos, if_neg, -List.map_take, -List.map_drop, -List.map_append, -List.map_reverse]); exact rfl) | fail) : Is x y := h
theorem kD_GL0 {p : Prop} (h : p := by (first | omega | assumption | exact rfl | ((simp (disch := first | omega | (simp only [yZ, yB] <;> omega) | fail) [go_sem, yY, *, rA, addrC, -List.map_take, -List.map_drop, -List.map_append, -List.map_reverse]) <;> (first | done | omega | exact rfl)) | fail)) : p := h
theorem wB_GL0 {p q : Prop} (k : q) (h : Hq q → p := by (intro k; (repeat' (first | (with_reducible first | apply jA | apply jB | apply jC | apply jD | apply jE | apply jF | apply jG | apply jH | apply jI | apply jJ | apply jK | apply jL | apply jM | apply jN | apply jO) | ((with_reducible first | apply jP | apply jQ); rfl) | ((first | ((with_reducible first | apply jR | apply jS | apply jT); rfl; rfl) | (with_reducible first | apply jU | apply jV | apply jW) | ((with_reducible first | apply jX | apply jY | apply jZ); rfl) | ((with_reducible first | apply kA | apply kB | apply kC); rfl)); all_goals (first | ((with_reducible show Is _ _); exact kE_GL0) | ((with_reducible refine fun (hc : (_ : Bool) = _) => ?_); (try simp only [xZ, xY, xP, reduceCtorEq] at hc); (try (have hx : True := hc; clear hx hc)); (try exact kX)) | ((with_reducible show ACall _ _ _ _ _); (first | ((with_reducible apply c0) <;> exact kD_GL0) | ((with_reducible apply c1) <;> exact kD_GL0) | ((with_reducible apply c2) <;> exact kD_GL0) | ((with_reducible apply c3) <;> exact kD_GL0) | ((with_reducible apply c4) <;> exact kD_GL0) | ((with_reducible apply c5) <;> exact kD_GL0) | ((with_reducible apply c6) <;> exact kD_GL0) | ((with_reducible apply c7) <;> exact kD_GL0))) | ((fail_if_success (with_reducible first | show Is _ _ | show ACall _ _ _ _ _)); (try ((with_reducible show _ ∨ _); exact kT))))) | (((with_reducible first | apply o_callQ | apply q_callQ); rfl); (iterate 2 exact kE_GL0); (first | ((with_reducible apply q0) <;> exact kD_GL0))))); exact hq k)) : p := h ⟨k⟩
theorem w_GL05 {A0 A1 A2 A3 A4 p q : Prop} (c0 : A0) (c1 : A1) (c2 : A2) (c3 : A3) (c4 : A4) (k : q) (h : A0 → A1 → A2 → A3 → A4 → Hq q → p := by (intro c0 c1 c2 c3 c4 k; exact wB_GL0 (hq k))) : p := h c0 c1 c2 c3 c4 ⟨k⟩
theorem dec_eq (m lim : Nat) (h1 : 1 ≤ m) (hm : m ≤ 10) (hl : lim < 10 ^ m) (x : List UInt8) : (decOk 10 x && decide ((decR 10 x : Int) ≤ lim)) = (decOk m x && decide (decV x ≤ lim)) := by
  by_cases h : x.length ≤ m
  · have e : decOk 10 x = decOk m x := by
      have h10 : x.length ≤ 10 := by omega
      simp [decOk, headOk, h, h10]
    rw [← e]
    cases hd : decOk 10 x with
    | false => simp
    | true => simp [decR, hd]
  · have e3 : decOk m x = false := by simp [decOk, headOk, h]
    rw [e3, Bool.false_and, Bool.and_eq_false_iff]
    cases hd : decOk 10 x with
    | false => exact .inl rfl
    | true =>
      right
      rw [decR, if_pos hd]
      cases x with
      | nil => simp at h
      | cons c x =>
        simp only [decOk, Bool.and_eq_true, List.all_cons] at hd
        have hc : 48 ≤ c.toNat ∧ c.toNat ≤ 57 := by simpa [isDig] using hd.2.1
        have hne : c ≠ 48 ∨ x = [] := by
          by_cases hx : x = []
          · exact .inr hx
          left
          intro hc48
          have := hd.1
          simp [headOk, hc48] at this
          exact hx this.2
        simp at h
        have hp : 10 ^ m ≤ 10 ^ x.length := Nat.pow_le_pow_right (by decide) (by omega)
        have hge := foldl_ge x (10 * 0 + (c.toNat - 48))
        have hv : decV (c :: x) = x.foldl (fun n c => 10 * n + (c.toNat - 48)) (10 * 0 + (c.toNat - 48)) := rfl
        rw [hv]
        simp only [decide_eq_false_iff_not]
        rcases hne with hne | rfl
        · have hc1 : 49 ≤ c.toNat := by
            rcases Nat.lt_or_ge c.toNat 49 with h1 | h1
            · exact absurd (UInt8.toNat_inj.1 (by show c.toNat = 48; omega)) hne
            · exact h1
          have : 1 * 10 ^ x.length ≤ (10 * 0 + (c.toNat - 48)) * 10 ^ x.length := Nat.mul_le_mul_right _ (by omega)
          omega
        · simp at h
          omega
theorem pre_one (b : UInt8) (t : List UInt8) : [b].isPrefixOf t = (t.head? == some b) := by
  cases t with
  | nil => rfl
  | cons c t =>
    rw [Bool.eq_iff_iff]
    simp [List.isPrefixOf]
    exact eq_comm
theorem suf_one (b : UInt8) (t : List UInt8) : [b].isSuffixOf t = (t.getLast? == some b) := by
  rw [List.isSuffixOf, List.reverse_singleton, pre_one, List.head?_reverse]
theorem lastOcc_lastJ (s : List UInt8) : ∀ k, Go.Lib.lastOcc s [58] k = lastJ s k
  | 0 => rfl
  | k + 1 => by
    rw [Go.Lib.lastOcc, lastJ, lastOcc_lastJ s k]
    have : Go.Lib.occAt s [58] k = true ↔ s[k]? = some 58 := by
      rw [Go.Lib.occAt, pre_one, ← List.head?_drop]; simp
    simp only [this]
theorem lastIndex_lastJ (s : List UInt8) : Go.Lib.lastIndex s [58] = lastJ s s.length := by
  rw [Go.Lib.lastIndex, lastOcc_lastJ]
  cases s with
  | nil => rfl
  | cons c s => rw [if_pos (by simp)]; simp
def brkt (t : List UInt8) : Bool := decide (2 ≤ t.length) && (t.head? == some 91) && (t.getLast? == some 93)
def unb (t : List UInt8) : List UInt8 := if brkt t then (t.drop 1).take (t.length - 2) else t
def endE (br : Bool) (q : Option (Bool × List UInt8)) (y : List UInt8) : Option (Bool × List UInt8 × Nat) :=
  match q with
  | some (six, A) => if decOk 5 y = true ∧ 1 ≤ decV y ∧ decV y ≤ 65535 ∧ six = br then some (six, A, decV y) else none
  | none => none
def parseE (s : List UInt8) : Option (Bool × List UInt8 × Nat) :=
  if lastJ s s.length < 0 then none else endE (brkt (s.take (lastJ s s.length).toNat)) (parseA (unb (s.take (lastJ s s.length).toNat))) (s.drop ((lastJ s s.length).toNat + 1))
def rE (o : Option (Bool × List UInt8 × Nat)) : CV := match o with | some (six, A, n) => .tup [prefC six A n, .int .i64 0] | none => .tup [prefC false z16 0, .int .i64 5]
theorem pre_suf (t : List UInt8) : (Go.Lib.hasPrefix t [91] && Go.Lib.hasSuffix t [93]) = brkt t := by
  rw [Go.Lib.hasPrefix, Go.Lib.hasSuffix, pre_one, suf_one, brkt]
  match t with
  | [] => rfl
  | [c] =>
    simp
    intro h1 h2
    rw [h1] at h2
    exact absurd h2 (by decide)
  | c :: d :: t => simp
theorem lastJ_lt (s : List UInt8) : ∀ k, lastJ s k < k ∧ -1 ≤ lastJ s k
  | 0 => ⟨by simp [lastJ], by simp [lastJ]⟩
  | k + 1 => by
    have := lastJ_lt s k
    rw [lastJ]
    split <;> omega
theorem unb_le (t : List UInt8) : (unb t).length ≤ t.length := by
  rw [unb]
  split
  · rw [List.length_take, List.length_drop]; omega
  · exact Nat.le_refl _
theorem parse_at {B : List Box} {s : List UInt8} (hs : s.length < 1000000000) : ACall Tryz.prog 113 [.str s] B fun c B' => c = rA (parseA s) ∧ B' = B := acall_fresh (nz := false) rfl (parse_in s hs)
theorem parseA_len {s : List UInt8} {six : Bool} {A : List UInt8} (h : parseA s = some (six, A)) : A.length = 16 := by
  rw [parseA] at h
  split at h
  · exact p4_len (by assumption) h
  · split at h
    · exact p6_len (by assumption) h
    · cases h
theorem parseE_in (s : List UInt8) (hs : s.length < 1000000000) : PC Tryz.prog true 75 [.str s] (rE (parseE s)) := by
  refine acall_intro mixed Tryz.func75 rfl ca75 (by kernel_rfl) (by rw [Tryz.ntmps75]; simp) ?_
  have hla : ∀ {B : List Box}, ACall Tryz.prog 109 [.str s, .str [58]] B fun c B' => c = .int .i64 (lastJ s s.length) ∧ B' = B := by
    intro B
    have := @lastIndex_at B s [58] (by omega)
    rwa [lastIndex_lastJ] at this
  have hlt := lastJ_lt s s.length
  rw [parseE]
  by_cases hn : lastJ s s.length < 0
  · rw [if_pos hn]
    refine w1 @hla ?_ 
    rfl
  rw [if_neg hn]
  obtain ⟨a, ha⟩ : ∃ a : Nat, lastJ s s.length = a := ⟨_, (Int.toNat_of_nonneg (by omega)).symm⟩
  rw [ha] at hlt hla ⊢
  rw [Int.toNat_natCast]
  obtain ⟨t, hT⟩ : ∃ t, s.take a = t := ⟨_, rfl⟩
  obtain ⟨y, hY⟩ : ∃ y, s.drop (a + 1) = y := ⟨_, rfl⟩
  have htl : t.length = a := by rw [← hT, List.length_take]; omega
  have hyl : y.length = s.length - (a + 1) := by rw [← hY, List.length_drop]
  have hY2 : y.take (s.length - (a + 1)) = y := List.take_of_length_le (by omega)
  rw [hT, hY]
  have hul := unb_le t
  have hde : ∀ {B : List Box}, ACall Tryz.prog 110 [.str y, .int .i64 65535] B fun c B' => c = .tup [.int .i64 (decR 10 y), .bool (decOk 5 y && decide (decV y ≤ 65535))] ∧ B' = B := by
    intro B
    have := @decimal_at B y 65535 (by omega)
    rwa [show (65535 : Int) = (65535 : Nat) from rfl, dec_eq 5 65535 (by decide) (by decide) (by decide)] at this
  have hpf : ∀ {B : List Box}, ACall Tryz.prog 111 [.str t, .str [91]] B fun c B' => c = .bool (Go.Lib.hasPrefix t [91]) ∧ B' = B := hasPrefix_at
  have hsf : ∀ {B : List Box}, ACall Tryz.prog 112 [.str t, .str [93]] B fun c B' => c = .bool (Go.Lib.hasSuffix t [93]) ∧ B' = B := hasSuffix_at (by omega)
  have hpa : ∀ {B : List Box}, ACall Tryz.prog 113 [.str (unb t)] B fun c B' => c = rA (parseA (unb t)) ∧ B' = B := parse_at (by omega)
  have hps := pre_suf t
  have hpl := @parseA_len (unb t)
  have hv : decOk 5 y = true → decR 10 y = decV y := fun h => by
    have h10 : decOk 10 y = true := by
      simp only [decOk, headOk, Bool.and_eq_true, decide_eq_true_eq] at h ⊢
      exact ⟨⟨⟨h.1.1.1, by omega⟩, h.1.2⟩, h.2⟩
    rw [decR, if_pos h10]
  have hub : unb t = if brkt t then (t.drop 1).take (t.length - 2) else t := rfl
  have hb2 : brkt t = true → 2 ≤ t.length := fun h => by
    simp only [brkt, Bool.and_eq_true, decide_eq_true_eq] at h; exact h.1.1
  generalize unb t = u at *
  generalize parseA u = q at *
  generalize brkt t = br at *
  generalize Go.Lib.hasPrefix t [91] = pf at *
  generalize Go.Lib.hasSuffix t [93] = sf at *
  generalize decR 10 y = v at *
  clear hn ha
  cases pf with
  | false =>
    obtain rfl : br = false := by rw [← hps]; rfl
    obtain rfl : u = t := by rw [hub]; rfl
    clear hps hub hb2
    cases q with
    | none =>
      refine w_GL05 @hla @hde @hpf @hsf @hpa ?_ 
      rfl
    | some q =>
      obtain ⟨six, A⟩ := q
      have hA := hpl rfl
      clear hpl
      simp only [rA, addrC] at hpa
      cases hok : decOk 5 y && decide (decV y ≤ 65535) with
      | false =>
        rw [hok] at hde
        have e : endE false (some (six, A)) y = none := by
          rw [endE, if_neg]; rintro ⟨h1, h2, h3, h4⟩; simp [h1, h3] at hok
        rw [e]
        clear hok hv e
        refine w5 @hla @hde @hpf @hsf @hpa ?_ 
        rfl
      | true =>
        rw [hok] at hde
        rw [Bool.and_eq_true, decide_eq_true_eq] at hok
        have hv := hv hok.1
        by_cases h1 : 1 ≤ decV y
        · by_cases h6 : six = false
          · have e : endE false (some (six, A)) y = some (six, A, decV y) := by rw [endE, if_pos ⟨hok.1, h1, hok.2, h6⟩]
            rw [e]
            have hvl := hok.2
            clear hok e
            subst h6
            rw [← hv] at h1 hvl ⊢
            clear hv
            refine w5 @hla @hde @hpf @hsf @hpa ?_ 
            (simp (disch := omega) [go_sem, *, rE, prefC]) <;> (try omega)
          · have e : endE false (some (six, A)) y = none := by
              rw [endE, if_neg]; rintro ⟨_, _, _, h4⟩; exact h6 h4
            rw [e]
            have hvl := hok.2
            have h6 : six = !false := by cases six <;> simp at h6 ⊢
            clear hok e
            subst h6
            rw [← hv] at h1 hvl
            clear hv
            refine w5 @hla @hde @hpf @hsf @hpa ?_ 
            rfl
        · have e : endE false (some (six, A)) y = none := by
            rw [endE, if_neg]; rintro ⟨_, h2, _⟩; exact h1 h2
          rw [e]
          have hvl := hok.2
          clear hok e
          rw [← hv] at h1 hvl
          clear hv
          refine w5 @hla @hde @hpf @hsf @hpa ?_ 
          rfl
  | true =>
    cases sf with
    | false =>
      obtain rfl : br = false := by rw [← hps]; rfl
      obtain rfl : u = t := by rw [hub]; rfl
      clear hps hub hb2
      cases q with
      | none =>
        refine w_GL05 @hla @hde @hpf @hsf @hpa ?_ 
        rfl
      | some q =>
        obtain ⟨six, A⟩ := q
        have hA := hpl rfl
        clear hpl
        simp only [rA, addrC] at hpa
        cases hok : decOk 5 y && decide (decV y ≤ 65535) with
        | false =>
          rw [hok] at hde
          have e : endE false (some (six, A)) y = none := by
            rw [endE, if_neg]; rintro ⟨h1, h2, h3, h4⟩; simp [h1, h3] at hok
          rw [e]
          clear hok hv e
          refine w5 @hla @hde @hpf @hsf @hpa ?_ 
          rfl
        | true =>
          rw [hok] at hde
          rw [Bool.and_eq_true, decide_eq_true_eq] at hok
          have hv := hv hok.1
          by_cases h1 : 1 ≤ decV y
          · by_cases h6 : six = false
            · have e : endE false (some (six, A)) y = some (six, A, decV y) := by rw [endE, if_pos ⟨hok.1, h1, hok.2, h6⟩]
              rw [e]
              have hvl := hok.2
              clear hok e
              subst h6
              rw [← hv] at h1 hvl ⊢
              clear hv
              refine w5 @hla @hde @hpf @hsf @hpa ?_ 
              (simp (disch := omega) [go_sem, *, rE, prefC]) <;> (try omega)
            · have e : endE false (some (six, A)) y = none := by
                rw [endE, if_neg]; rintro ⟨_, _, _, h4⟩; exact h6 h4
              rw [e]
              have hvl := hok.2
              have h6 : six = !false := by cases six <;> simp at h6 ⊢
              clear hok e
              subst h6
              rw [← hv] at h1 hvl
              clear hv
              refine w5 @hla @hde @hpf @hsf @hpa ?_ 
              rfl
          · have e : endE false (some (six, A)) y = none := by
              rw [endE, if_neg]; rintro ⟨_, h2, _⟩; exact h1 h2
            rw [e]
            have hvl := hok.2
            clear hok e
            rw [← hv] at h1 hvl
            clear hv
            refine w5 @hla @hde @hpf @hsf @hpa ?_ 
            rfl
    | true =>
      obtain rfl : br = true := by rw [← hps]; rfl
      rw [if_pos rfl] at hub
      have hb2 := hb2 rfl
      have hub2 : t.tail.take (a - 1 - 1) = u := by rw [hub, ← htl, List.drop_one]; rfl
      clear hps hub
      cases q with
      | none =>
        refine w_GL05 @hla @hde @hpf @hsf @hpa ?_ 
        rfl
      | some q =>
        obtain ⟨six, A⟩ := q
        have hA := hpl rfl
        clear hpl
        simp only [rA, addrC] at hpa
        cases hok : decOk 5 y && decide (decV y ≤ 65535) with
        | false =>
          rw [hok] at hde
          have e : endE true (some (six, A)) y = none := by
            rw [endE, if_neg]; rintro ⟨h1, h2, h3, h4⟩; simp [h1, h3] at hok
          rw [e]
          clear hok hv e
          refine w5 @hla @hde @hpf @hsf @hpa ?_ 
          rfl
        | true =>
          rw [hok] at hde
          rw [Bool.and_eq_true, decide_eq_true_eq] at hok
          have hv := hv hok.1
          by_cases h1 : 1 ≤ decV y
          · by_cases h6 : six = true
            · have e : endE true (some (six, A)) y = some (six, A, decV y) := by rw [endE, if_pos ⟨hok.1, h1, hok.2, h6⟩]
              rw [e]
              have hvl := hok.2
              clear hok e
              subst h6
              rw [← hv] at h1 hvl ⊢
              clear hv
              refine w5 @hla @hde @hpf @hsf @hpa ?_ 
              (simp (disch := omega) [go_sem, *, rE, prefC]) <;> (try omega)
            · have e : endE true (some (six, A)) y = none := by
                rw [endE, if_neg]; rintro ⟨_, _, _, h4⟩; exact h6 h4
              rw [e]
              have hvl := hok.2
              have h6 : six = !true := by cases six <;> simp at h6 ⊢
              clear hok e
              subst h6
              rw [← hv] at h1 hvl
              clear hv
              refine w5 @hla @hde @hpf @hsf @hpa ?_ 
              rfl
          · have e : endE true (some (six, A)) y = none := by
              rw [endE, if_neg]; rintro ⟨_, h2, _⟩; exact h1 h2
            rw [e]
            have hvl := hok.2
            clear hok e
            rw [← hv] at h1 hvl
            clear hv
            refine w5 @hla @hde @hpf @hsf @hpa ?_ 
            rfl
end Go.Proofs.YtcbdghgogmcllaaGreatDoor
end
section
namespace Go.Proofs.YtcbdghgogmcllaaGreatDoor
open Go Go.Sy
theorem splitL_has (b : UInt8) (s : List UInt8) (h : b ∉ s) : splitL b s = [s] := by
  induction s with
  | nil => rfl
  | cons c s ih =>
    rw [splitL, if_neg fun e => h (by simp [e]), ih fun e => h (by simp [e])]
end Go.Proofs.YtcbdghgogmcllaaGreatDoor
end
section
namespace Go.Proofs.YtcbdghgogmcllaaGreatDoor
open Go Go.Sy
theorem digit_ok : ∀ d : Fin 10, isDig (UInt8.ofNat (48 + d.1)) = true ∧ (UInt8.ofNat (48 + d.1)).toNat - 48 = d.1 ∧ (UInt8.ofNat (48 + d.1) = 48 → d.1 = 0) := by decide
theorem dec_all : ∀ n : Nat, (Go.Lib.decDigits n).all isDig = true ∧ decV (Go.Lib.decDigits n) = n ∧ (n ≠ 0 → (Go.Lib.decDigits n).head? ≠ some 48) := by
  intro n
  induction n using Nat.strongRecOn with
  | _ n ih =>
    rw [Go.Lib.decDigits]
    split
    · rename_i h
      obtain ⟨h1, h2, h3⟩ := digit_ok ⟨n, h⟩
      refine ⟨by rw [List.all_cons, h1]; rfl, ?_, fun hn => ?_⟩
      · show 10 * 0 + _ = n
        rw [h2]; simp
      · intro e
        exact hn (h3 (Option.some.inj e))
    · rename_i h
      obtain ⟨h1, h2, h3⟩ := digit_ok ⟨n % 10, by omega⟩
      obtain ⟨i1, i2, i3⟩ := ih (n / 10) (by omega)
      dsimp only at h1 h2 h3
      refine ⟨by rw [List.all_append, i1, List.all_cons, h1]; rfl, ?_, fun _ => ?_⟩
      · rw [decV_app, i2, h2]; omega
      · have hne := decDigits_ne (n / 10)
        rw [List.head?_append]
        obtain ⟨c, r, hcr⟩ := List.exists_cons_of_ne_nil hne
        have := i3 (by omega)
        rw [hcr] at this ⊢
        exact this
theorem decOk_dec (k n : Nat) (h : n < 10 ^ (k + 1)) : decOk (k + 1) (Go.Lib.decDigits n) = true := by
  obtain ⟨h1, _, h3⟩ := dec_all n
  have hl := decDigits_len k n h
  have hne : 0 < (Go.Lib.decDigits n).length := List.length_pos_iff.2 (decDigits_ne n)
  rw [decOk, h1, headOk]
  have : (decide (1 < (Go.Lib.decDigits n).length) && ((Go.Lib.decDigits n).head? == some 48)) = false := by
    by_cases hn : n = 0
    · subst hn; rw [show Go.Lib.decDigits 0 = [48] by rw [Go.Lib.decDigits]; rfl]; rfl
    · have := h3 hn
      rw [Bool.and_eq_false_iff]; right
      simpa using this
  rw [this]
  simp; omega
theorem dec_mem {n : Nat} {c : UInt8} (h : c ∈ Go.Lib.decDigits n) : 48 ≤ c.toNat ∧ c.toNat ≤ 57 := by
  have := List.all_eq_true.1 (dec_all n).1 c h
  simpa [isDig] using this
theorem hexD_ok : ∀ d : Fin 16, digV (hexD d.1) = some d.1 ∧ ((48 ≤ (hexD d.1).toNat ∧ (hexD d.1).toNat ≤ 57) ∨ (97 ≤ (hexD d.1).toNat ∧ (hexD d.1).toNat ≤ 102)) := by decide
theorem hex_all : ∀ n : Nat, (hexT n).all isHex = true ∧ hexV (hexT n) = n ∧ (∀ c ∈ hexT n, (48 ≤ c.toNat ∧ c.toNat ≤ 57) ∨ (97 ≤ c.toNat ∧ c.toNat ≤ 102)) ∧ hexT n ≠ [] := by
  intro n
  induction n using Nat.strongRecOn with
  | _ n ih =>
    rw [hexT]
    split
    · rename_i h
      obtain ⟨h1, h2⟩ := hexD_ok ⟨n, h⟩
      dsimp only at h1 h2
      refine ⟨by rw [List.all_cons, isHex, h1]; rfl, ?_, fun c hc => ?_, by simp⟩
      · show 16 * 0 + _ = n
        rw [h1]; simp
      · rw [List.mem_singleton] at hc; subst hc; exact h2
    · rename_i h
      obtain ⟨h1, h2⟩ := hexD_ok ⟨n % 16, by omega⟩
      obtain ⟨i1, i2, i3, i4⟩ := ih (n / 16) (by omega)
      dsimp only at h1 h2
      refine ⟨by rw [List.all_append, i1, List.all_cons, isHex, h1]; rfl, ?_, fun c hc => ?_, by simp⟩
      · rw [hexV_app, i2, h1, Option.getD_some]; omega
      · rcases List.mem_append.1 hc with hc | hc
        · exact i3 c hc
        · rw [List.mem_singleton] at hc; subst hc; exact h2
theorem hexOk_hex {n : Nat} (h : n < 65536) : hexOk (hexT n) = true := by
  obtain ⟨h1, _, _, h4⟩ := hex_all n
  have hl := hexT_len 3 n (by omega)
  have := List.length_pos_iff.2 h4
  rw [hexOk, h1]
  simp; omega
theorem splitL_app (b : UInt8) (s : List UInt8) : ∀ x : List UInt8, b ∉ x → splitL b (x ++ b :: s) = x :: splitL b s
  | [], _ => by simp [splitL]
  | c :: x, h => by
    rw [List.cons_append]
    exact splitL_cons (splitL_app b s x fun e => h (by simp [e])) fun e => h (by simp [e])
theorem join_two (x y : List UInt8) (r : List (List UInt8)) (b : UInt8) : Go.Lib.join (x :: y :: r) [b] = x ++ b :: Go.Lib.join (y :: r) [b] := by
  rw [Go.Lib.join_cons, Go.Lib.join_cons]; simp [Go.Lib.joinTail]
theorem splitL_join (b : UInt8) : ∀ (r : List (List UInt8)) (x : List UInt8), (∀ y ∈ x :: r, b ∉ y) → splitL b (Go.Lib.join (x :: r) [b]) = x :: r
  | [], x, h => by rw [Go.Lib.join_one, splitL_has b x (h x (by simp))]
  | y :: r, x, h => by rw [join_two, splitL_app b _ x (h x (by simp)), splitL_join b r y fun z hz => h z (by simp [hz])]
theorem mem_join (b c : UInt8) : ∀ (r : List (List UInt8)) (x : List UInt8), c ∈ Go.Lib.join (x :: r) [b] → c = b ∨ ∃ y ∈ x :: r, c ∈ y
  | [], x, h => by rw [Go.Lib.join_one] at h; exact .inr ⟨x, by simp, h⟩
  | y :: r, x, h => by
    rw [join_two] at h
    rcases List.mem_append.1 h with h | h
    · exact .inr ⟨x, by simp, h⟩
    · rcases List.mem_cons.1 h with h | h
      · exact .inl h
      · rcases mem_join b c r y h with h | ⟨z, hz, h⟩
        · exact .inl h
        · exact .inr ⟨z, by simp [hz], h⟩
theorem a4_back {A : List UInt8} (hA : A.length = 16) (hz : A.drop 4 = z12) : a4 (parts4 A 4) 4 = A := by
  have hd : ∀ x : UInt8, UInt8.ofNat (decV (Go.Lib.decDigits x.toNat)) = x := fun x => by rw [(dec_all _).2.1]; exact UInt8.ofNat_toNat
  match A, hA with
  | [a, b, c, d, _, _, _, _, _, _, _, _, _, _, _, _], _ =>
    have hz : _ = z12 := hz
    show [UInt8.ofNat (decV (Go.Lib.decDigits a.toNat)), UInt8.ofNat (decV (Go.Lib.decDigits b.toNat)), UInt8.ofNat (decV (Go.Lib.decDigits c.toNat)), UInt8.ofNat (decV (Go.Lib.decDigits d.toNat))] ++ z12 = _
    rw [hd, hd, hd, hd, ← hz]
    rfl
theorem a6_back {A : List UInt8} (hA : A.length = 16) : a6 (parts6 A 8) 8 = A := by
  have h1 : ∀ x y : UInt8, UInt8.ofNat (hexV (hexT (x.toNat * 256 + y.toNat)) / 256) = x := fun x y => by
    have := y.toNat_lt
    rw [(hex_all _).2.1, show (x.toNat * 256 + y.toNat) / 256 = x.toNat by omega]; exact UInt8.ofNat_toNat
  have h2 : ∀ x y : UInt8, UInt8.ofNat (hexV (hexT (x.toNat * 256 + y.toNat))) = y := fun x y => by
    have := y.toNat_lt
    rw [(hex_all _).2.1]
    apply UInt8.toNat_inj.1
    rw [UInt8.toNat_ofNat']; omega
  match A, hA with
  | [a0, a1, a2, a3, a4, a5, a6, a7, a8, a9, a10, a11, a12, a13, a14, a15], _ =>
    show [UInt8.ofNat (hexV (hexT (a0.toNat * 256 + a1.toNat)) / 256), UInt8.ofNat (hexV (hexT (a0.toNat * 256 + a1.toNat))), UInt8.ofNat (hexV (hexT (a2.toNat * 256 + a3.toNat)) / 256), UInt8.ofNat (hexV (hexT (a2.toNat * 256 + a3.toNat))), UInt8.ofNat (hexV (hexT (a4.toNat * 256 + a5.toNat)) / 256), UInt8.ofNat (hexV (hexT (a4.toNat * 256 + a5.toNat))), UInt8.ofNat (hexV (hexT (a6.toNat * 256 + a7.toNat)) / 256), UInt8.ofNat (hexV (hexT (a6.toNat * 256 + a7.toNat))), UInt8.ofNat (hexV (hexT (a8.toNat * 256 + a9.toNat)) / 256), UInt8.ofNat (hexV (hexT (a8.toNat * 256 + a9.toNat))), UInt8.ofNat (hexV (hexT (a10.toNat * 256 + a11.toNat)) / 256), UInt8.ofNat (hexV (hexT (a10.toNat * 256 + a11.toNat))), UInt8.ofNat (hexV (hexT (a12.toNat * 256 + a13.toNat)) / 256), UInt8.ofNat (hexV (hexT (a12.toNat * 256 + a13.toNat))), UInt8.ofNat (hexV (hexT (a14.toNat * 256 + a15.toNat)) / 256), UInt8.ofNat (hexV (hexT (a14.toNat * 256 + a15.toNat)))] = _
    simp only [h1, h2]
theorem parts4_mem {A x : List UInt8} {n : Nat} (h : x ∈ parts4 A n) : oct x = true ∧ ∀ c ∈ x, 48 ≤ c.toNat ∧ c.toNat ≤ 57 := by
  simp only [parts4, List.mem_map, List.mem_range] at h
  obtain ⟨i, _, rfl⟩ := h
  have := (A.getD i 0).toNat_lt
  refine ⟨?_, fun c hc => dec_mem hc⟩
  rw [oct, decOk_dec 2 _ (by omega), (dec_all _).2.1, Bool.true_and, decide_eq_true_eq]
  omega
theorem parts6_mem {A x : List UInt8} {n : Nat} (h : x ∈ parts6 A n) : hexOk x = true ∧ ∀ c ∈ x, (48 ≤ c.toNat ∧ c.toNat ≤ 57) ∨ (97 ≤ c.toNat ∧ c.toNat ≤ 102) := by
  simp only [parts6, List.mem_map, List.mem_range] at h
  obtain ⟨i, _, rfl⟩ := h
  exact ⟨hexOk_hex (grp_lt A i), (hex_all _).2.2.1⟩
theorem fmtA_mem {six : Bool} {A : List UInt8} {c : UInt8} (h : c ∈ fmtA six A) : (48 ≤ c.toNat ∧ c.toNat ≤ 58) ∨ (97 ≤ c.toNat ∧ c.toNat ≤ 102) ∨ (c.toNat = 46 ∧ six = false) := by
  rw [fmtA] at h
  split at h
  · split at h
    · rcases mem_join 58 c _ _ h with rfl | ⟨y, hy, hc⟩
      · left; decide
      · have := (parts6_mem (A := A) (n := 8) hy).2 c hc; omega
    · rename_i h6
      rcases mem_join 46 c _ _ h with rfl | ⟨y, hy, hc⟩
      · right; right; exact ⟨rfl, by simpa using h6⟩
      · have := (parts4_mem (A := A) (n := 4) hy).2 c hc; omega
  · simp at h
theorem parseA_back {six : Bool} {A : List UInt8} (hA : A.length = 16) (hok : okA six A = true) : parseA (fmtA six A) = some (six, A) := by
  cases six with
  | true =>
    have e : fmtA true A = Go.Lib.join (parts6 A 8) [58] := by rw [fmtA, if_pos hok]; rfl
    have h46 : (46 : UInt8) ∉ fmtA true A := fun h => by
      rcases fmtA_mem h with h | h | h <;> simp at h
    rw [parseA, splitL_has 46 _ h46, if_neg (by simp), e]
    have h58 : splitL 58 (Go.Lib.join (parts6 A 8) [58]) = parts6 A 8 := splitL_join 58 _ _ fun y hy hc => by
      have := (parts6_mem (A := A) (n := 8) hy).2 58 hc; simp at this
    rw [h58, if_pos (by simp [parts6]), p6, if_pos, a6_back hA]
    rw [List.all_eq_true]
    exact fun x hx => (parts6_mem hx).1
  | false =>
    have e : fmtA false A = Go.Lib.join (parts4 A 4) [46] := by rw [fmtA, if_pos hok]; rfl
    have h46 : splitL 46 (Go.Lib.join (parts4 A 4) [46]) = parts4 A 4 := splitL_join 46 _ _ fun y hy hc => by
      have := (parts4_mem (A := A) (n := 4) hy).2 46 hc; simp at this
    rw [parseA, e, h46, if_pos (by simp [parts4]), p4, if_pos, a4_back hA (by simpa [okA] using hok)]
    rw [List.all_eq_true]
    exact fun x hx => (parts4_mem hx).1
theorem lastJ_none (s : List UInt8) (k : Nat) : ∀ j, (∀ i, k < i → i < k + 1 + j → s[i]? ≠ some 58) → s[k]? = some 58 → lastJ s (k + 1 + j) = k
  | 0, _, h => by rw [Nat.add_zero, lastJ, if_pos h]
  | j + 1, hn, h => by
    rw [show k + 1 + (j + 1) = (k + 1 + j) + 1 by omega, lastJ, if_neg (hn _ (by omega) (by omega))]
    exact lastJ_none s k j (fun i h1 h2 => hn i h1 (by omega)) h
theorem lastJ_app (t d : List UInt8) (h : (58 : UInt8) ∉ d) : lastJ (t ++ 58 :: d) (t ++ 58 :: d).length = t.length := by
  have hl : (t ++ 58 :: d).length = t.length + 1 + d.length := by simp; omega
  rw [hl]
  refine lastJ_none _ t.length d.length (fun i h1 h2 e => ?_) (by simp)
  obtain ⟨j, rfl⟩ : ∃ j, i = t.length + 1 + j := ⟨i - (t.length + 1), by omega⟩
  rw [List.getElem?_append_right (by omega), show t.length + 1 + j - t.length = j + 1 by omega, List.getElem?_cons_succ] at e
  exact h (List.mem_of_getElem? e)
theorem fmtA_ne {six : Bool} {A : List UInt8} (hok : okA six A = true) : fmtA six A ≠ [] := fun h => by
  rw [fmtA_nil.1 h] at hok; cases hok
theorem brk_back {six : Bool} {A : List UInt8} (hok : okA six A = true) : brkt (brk six (fmtA six A)) = six ∧ unb (brk six (fmtA six A)) = fmtA six A := by
  have hm := fun c => @fmtA_mem six A c
  have hne := fmtA_ne hok
  generalize fmtA six A = t at *
  have h1 : brkt (brk six t) = six := by
    cases six with
    | true => 
      have : (91 :: (t ++ [93])).getLast? = some 93 := by rw [show (91 : UInt8) :: (t ++ [93]) = (91 :: t) ++ [93] by simp, List.getLast?_concat]
      simp only [brkt, brk, if_true, this]
      simp
    | false =>
      obtain ⟨c, t, rfl⟩ : ∃ c r, t = c :: r := by
        cases t with
        | nil => exact absurd rfl hne
        | cons c r => exact ⟨c, r, rfl⟩
      have : c ≠ 91 := fun e => by
        subst e
        have := hm 91 (by simp)
        simp at this
      simp [brkt, brk, this]
  refine ⟨h1, ?_⟩
  rw [unb, h1]
  cases six with
  | true => simp [brk]
  | false => rfl
theorem parseE_back {six : Bool} {A : List UInt8} {p : Nat} (hA : A.length = 16) (hok : okA six A = true) (h1 : 1 ≤ p) (h2 : p ≤ 65535) : parseE (fmtE six A p) = some (six, A, p) := by
  have e : fmtE six A p = brk six (fmtA six A) ++ 58 :: Go.Lib.decDigits p := by rw [fmtE, if_pos ⟨hok, by omega, by omega⟩]; rfl
  have hd : (58 : UInt8) ∉ Go.Lib.decDigits p := fun h => by have := dec_mem h; simp at this
  obtain ⟨b1, b2⟩ := brk_back hok
  have hpa := parseA_back hA hok
  rw [e, parseE, lastJ_app _ _ hd, if_neg (by omega), Int.toNat_natCast, List.take_left, b1, b2, hpa]
  have : (brk six (fmtA six A) ++ 58 :: Go.Lib.decDigits p).drop ((brk six (fmtA six A)).length + 1) = Go.Lib.decDigits p := by
    rw [← List.drop_drop, List.drop_left]; rfl
  rw [this, endE, if_pos ⟨decOk_dec 4 p (by omega), by rw [(dec_all p).2.1]; exact h1, by rw [(dec_all p).2.1]; exact h2, rfl⟩, (dec_all p).2.1]
end Go.Proofs.YtcbdghgogmcllaaGreatDoor
end
section
namespace Go.Proofs.YtcbdghgogmcllaaGreatDoor
open Go Go.Sy
theorem fmtE_len (six : Bool) (A : List UInt8) (p : Int) : (fmtE six A p).length < 1000 := by
  rw [fmtE]
  split
  · rename_i h
    have h1 := fmtA_len six A
    have h2 := decDigits_len 4 p.toNat (by omega)
    have h3 : (brk six (fmtA six A)).length ≤ (fmtA six A).length + 2 := by rw [brk]; split <;> simp
    rw [List.length_append, List.length_cons]; omega
  · simp
theorem parseE_at {B : List Box} {s : List UInt8} (hs : s.length < 1000000000) : ACall Tryz.prog 75 [.str s] B fun c B' => c = rE (parseE s) ∧ B' = B := acall_fresh (nz := false) rfl (parseE_in s hs)
theorem fmtE_at {B : List Box} {args : List CV} {six : Bool} {A : List UInt8} {p : Int} (hz : Is (omap (Go.Sy.fz true false B 6) args) (some [prefC six A p])) (hA : A.length = 16) (hp : -9223372036854775808 ≤ p ∧ p ≤ 9223372036854775807) : ACall Tryz.prog 73 args B fun c B' => c = .str (fmtE six A p) ∧ B' = B := acall_fresh hz (fmtE_in six A p hA hp)
end Go.Proofs.YtcbdghgogmcllaaGreatDoor
end
