/- Lemmas and definitions of this claim (own texts, joined by a program; what the claim does not use is left out). -/
import Derived.Test.YtcbdghgogmcllaaGreatDoorSf5
set_option linter.all false
set_option maxRecDepth 100000
set_option maxHeartbeats 4000000
section
namespace Go.Proofs.YtcbdghgogmcllaaGreatDoor
open Go Go.Sy
open Go.RowKit (Below)
theorem Below.grow' {w : World} (os : Array Obj) : Below w.heap.size w (Go.Sort.grow w os) := ⟨rfl, rfl, rfl, by simp [Go.Sort.grow], fun k hk => by simp [Go.Sort.grow, Array.getElem?_append, hk]⟩
theorem row_whole {w : World} {g : Nat} {vs : List Value} (h0 : vs ≠ []) (h : ∀ j : Nat, w.cell? ⟨g, j, none⟩ = vs[j]?) : ∃ cs ty fz, w.heap[g]? = some (.cells cs ty fz) ∧ cs.toList = vs := by
  have hx : ∀ j : Nat, w.cell? ⟨g, j, none⟩ = match w.heap[g]? with | some (.cells cs _ _) => cs[j]? | _ => none := fun j => by
    unfold World.cell?
    cases w.heap[g]? with
    | none => rfl
    | some o => cases o <;> rfl
  cases hg : w.heap[g]? with
  | none =>
    have := h 0
    rw [hx, hg] at this
    cases vs with
    | nil => exact absurd rfl h0
    | cons => cases this
  | some o =>
    cases o with
    | cells cs ty fz =>
      refine ⟨cs, ty, fz, rfl, List.ext_getElem? fun j => ?_⟩
      have := h j
      rw [hx, hg] at this
      rw [Array.getElem?_toList]
      exact this
    | _ =>
      have := h 0
      rw [hx, hg] at this
      cases vs with
      | nil => exact absurd rfl h0
      | cons => cases this
theorem tab_is {I : Nat → Nat → Prop} {w : World} (h : TabsOk I w) : Go.Lib.TabIs Tryz.prog w "internal/strconv.uint64pow10" .u64 Go.Lib.pow10Tab := by
  obtain ⟨cs, ty, fz, h1, h2⟩ := row_whole (g := 1) (vs := Go.Lib.pow10Tab.map fun z => Value.int .u64 z) (by simp [Go.Lib.pow10Tab]) fun j => by
    rw [(h.1 1 .u64 _ rfl j).1, List.getElem?_map]; rfl
  unfold Go.Lib.TabIs World.var?
  have hn : Tryz.prog.globalNamed "internal/strconv.uint64pow10" = some 1 := by kernel_rfl
  rw [hn]
  simp only [Option.bind_some, h1]
  rw [← h2]
theorem max_is {I : Nat → Nat → Prop} {w : World} (h : TabsOk I w) : ∃ m, w.cell? ⟨0, 0, none⟩ = some (.int .i64 m) := (h.2.1 0 (by simp [tabInts])).2
theorem itoa_at {B : List Box} {n : Int} (h : -9223372036854775808 ≤ n ∧ n ≤ 9223372036854775807) : ACall Tryz.prog 83 [.int .i64 n] B fun c B' => c = .str (Go.Lib.itoa n) ∧ B' = B :=
  acall_of_calls (Q := fun c => c = .str (Go.Lib.itoa n)) (by kernel_rfl) fun I μ w vs ht hI hv => by
    obtain ⟨ws, rfl, hv2⟩ := R.int_cons hv
    obtain rfl := R.none hv2
    refine (Tryz.strconv_Itoa n h.1 h.2 w (tab_is ht)).mono fun e w' ⟨he, k, os, hw⟩ => ?_
    subst hw
    exact ⟨_, _, he, rfl, (Below.drewN' k).trans (by have := Below.grow' (w := w.drewN k) os; exact this), .str _ (.nil _)⟩
theorem fmt10_at {B : List Box} {n : Int} (h : -9223372036854775808 ≤ n ∧ n ≤ 9223372036854775807) : ACall Tryz.prog 77 [.int .i64 n, .int .i64 10] B fun c B' => c = .str (Go.Lib.itoa n) ∧ B' = B :=
  acall_of_calls (Q := fun c => c = .str (Go.Lib.itoa n)) (by kernel_rfl) fun I μ w vs ht hI hv => by
    obtain ⟨ws, rfl, hv2⟩ := R.int_cons hv
    obtain ⟨ws, rfl, hv3⟩ := R.int_cons hv2
    obtain rfl := R.none hv3
    refine (Tryz.strconv_FormatInt_10 n h.1 h.2 w (tab_is ht)).mono fun e w' ⟨he, k, os, hw⟩ => ?_
    subst hw
    exact ⟨_, _, he, rfl, (Below.drewN' k).trans (by have := Below.grow' (w := w.drewN k) os; exact this), .str _ (.nil _)⟩
theorem lastIndex_at {B : List Box} {s t : List UInt8} (h : s.length < 4611686018427387904) : ACall Tryz.prog 109 [.str s, .str t] B fun c B' => c = .int .i64 (Go.Lib.lastIndex s t) ∧ B' = B :=
  acall_of_calls (Q := fun c => c = .int .i64 (Go.Lib.lastIndex s t)) (by kernel_rfl) fun I μ w vs ht hI hv => by
    obtain ⟨ws, rfl, hv2⟩ := R.str_cons hv
    obtain ⟨ws, rfl, hv3⟩ := R.str_cons hv2
    obtain rfl := R.none hv3
    refine (Tryz.strings_LastIndex ⟨s.toArray⟩ ⟨t.toArray⟩ h w).mono fun e w' ⟨he, hw⟩ => ?_
    subst hw
    exact ⟨_, _, he, by simp, Below.same, .int _ _ (.nil _)⟩
theorem hasPrefix_at {B : List Box} {s t : List UInt8} : ACall Tryz.prog 111 [.str s, .str t] B fun c B' => c = .bool (Go.Lib.hasPrefix s t) ∧ B' = B :=
  acall_of_calls (Q := fun c => c = .bool (Go.Lib.hasPrefix s t)) (by kernel_rfl) fun I μ w vs ht hI hv => by
    obtain ⟨ws, rfl, hv2⟩ := R.str_cons hv
    obtain ⟨ws, rfl, hv3⟩ := R.str_cons hv2
    obtain rfl := R.none hv3
    refine (Tryz.strings_HasPrefix ⟨s.toArray⟩ ⟨t.toArray⟩ w).mono fun e w' ⟨he, hw⟩ => ?_
    subst hw
    exact ⟨_, _, he, by simp, Below.same, .bool _ (.nil _)⟩
theorem hasSuffix_at {B : List Box} {s t : List UInt8} (h : s.length < 4611686018427387904) : ACall Tryz.prog 112 [.str s, .str t] B fun c B' => c = .bool (Go.Lib.hasSuffix s t) ∧ B' = B :=
  acall_of_calls (Q := fun c => c = .bool (Go.Lib.hasSuffix s t)) (by kernel_rfl) fun I μ w vs ht hI hv => by
    obtain ⟨ws, rfl, hv2⟩ := R.str_cons hv
    obtain ⟨ws, rfl, hv3⟩ := R.str_cons hv2
    obtain rfl := R.none hv3
    refine (Tryz.strings_HasSuffix ⟨s.toArray⟩ ⟨t.toArray⟩ w (by show s.length ≤ _; omega)).mono fun e w' ⟨he, hw⟩ => ?_
    subst hw
    exact ⟨_, _, he, by simp, Below.same, .bool _ (.nil _)⟩
def splitL (b : UInt8) : List UInt8 → List (List UInt8)
  | [] => [[]]
  | c :: s => if c = b then [] :: splitL b s else match splitL b s with
    | [] => [[c]]
    | x :: xs => (c :: x) :: xs
theorem splitL_ne (b : UInt8) : ∀ s, splitL b s ≠ []
  | [] => by simp [splitL]
  | c :: s => by
    rw [splitL]
    split
    · simp
    · split <;> simp
theorem index_one (b c : UInt8) (s : List UInt8) : Go.Lib.index (c :: s) [b] = if c = b then 0 else if Go.Lib.index s [b] = -1 then -1 else Go.Lib.index s [b] + 1 := by
  rw [Go.Lib.index]
  by_cases h : c = b
  · subst h; simp [List.isPrefixOf]
  · have : (b == c) = false := by simpa using Ne.symm h
    simp [List.isPrefixOf, this, h]
theorem splitL_miss (b : UInt8) : ∀ s : List UInt8, Go.Lib.index s [b] = -1 → splitL b s = [s]
  | [], _ => rfl
  | c :: s, h => by
    rw [index_one] at h
    have hg := Go.Lib.index_ge s [b]
    split at h
    · omega
    · rename_i hc
      split at h
      · rename_i h1
        rw [splitL, if_neg hc, splitL_miss b s h1]
      · omega
theorem splitL_hit (b : UInt8) : ∀ (s : List UInt8) (i : Nat), Go.Lib.index s [b] = i → splitL b s = s.take i :: splitL b (s.drop (i + 1))
  | [], i, h => by simp [Go.Lib.index] at h
  | c :: s, i, h => by
    rw [index_one] at h
    have hg := Go.Lib.index_ge s [b]
    split at h
    · rename_i hc
      have : i = 0 := by omega
      subst this
      rw [splitL, if_pos hc]; simp
    · rename_i hc
      split at h
      · omega
      · obtain ⟨k, rfl⟩ : ∃ k, i = k + 1 := ⟨i - 1, by omega⟩
        rw [splitL, if_neg hc, splitL_hit b s k (by omega)]
        simp
theorem splitK_one (b : UInt8) : ∀ (k : Nat) (s : List UInt8), s.count b = k → Go.Lib.splitK [b] 0 k s = splitL b s := by
  intro k
  induction k with
  | zero =>
    intro s hs
    have : Go.Lib.index s [b] = -1 := by
      induction s with
      | nil => simp [Go.Lib.index]
      | cons c s ih =>
        rw [List.count_cons] at hs
        by_cases hc : c = b
        · subst hc; simp at hs
        · rw [index_one, if_neg hc, if_pos (ih (by omega))]
    rw [splitL_miss b s this]; rfl
  | succ k ih =>
    intro s hs
    rw [Go.Lib.splitK]
    have hg := Go.Lib.index_ge s [b]
    by_cases hm : Go.Lib.index s [b] = -1
    · exfalso
      have key : ∀ s : List UInt8, Go.Lib.index s [b] = -1 → s.count b = 0 := by
        intro s
        induction s with
        | nil => simp
        | cons c s ih =>
          intro h
          rw [index_one] at h
          have hg := Go.Lib.index_ge s [b]
          split at h
          · omega
          · rename_i hc
            split at h
            · rename_i h1
              rw [List.count_cons, ih h1]; simp [hc]
            · omega
      rw [key s hm] at hs
      omega
    · obtain ⟨i, hi⟩ : ∃ i : Nat, Go.Lib.index s [b] = i := ⟨(Go.Lib.index s [b]).toNat, by omega⟩
      rw [splitL_hit b s i hi, hi, if_neg (by simp)]
      have hcount : ∀ (s : List UInt8) (i : Nat), Go.Lib.index s [b] = i → s.count b = (s.drop (i + 1)).count b + 1 := by
        intro s
        induction s with
        | nil => intro i h; simp [Go.Lib.index] at h
        | cons c s ih =>
          intro i h
          rw [index_one] at h
          have hg := Go.Lib.index_ge s [b]
          split at h
          · rename_i hc
            have : i = 0 := by omega
            subst this hc
            simp
          · rename_i hc
            split at h
            · omega
            · obtain ⟨k, rfl⟩ : ∃ k, i = k + 1 := ⟨i - 1, by omega⟩
              rw [List.count_cons, ih k (by omega)]; simp [hc]
      have := hcount s i hi
      rw [← ih (s.drop (i + 1)) (by omega)]
      simp
theorem strs_rel {I : Nat → Nat → Prop} {μ : List (List Go.Sy.Place)} {w : World} : ∀ L : List (List UInt8), R I μ w true (L.map CV.str) (L.map fun l => Value.string ⟨l.toArray⟩)
  | [] => .nil _
  | l :: L => .str l (strs_rel L)
theorem split_at {B : List Box} {s : List UInt8} {b : UInt8} (h : s.length < 4294967281) : ACall Tryz.prog 45 [.str s, .str [b]] B fun c B' => c = .lst (splitL b s).length ((splitL b s).map .str) true ∧ B' = B :=
  acall_of_calls (Q := fun c => c = .lst (splitL b s).length ((splitL b s).map .str) true) (by kernel_rfl) fun I μ w vs ht hI hv => by
    obtain ⟨ws, rfl, hv2⟩ := R.str_cons hv
    obtain ⟨ws, rfl, hv3⟩ := R.str_cons hv2
    obtain rfl := R.none hv3
    obtain ⟨m, hm⟩ := max_is ht
    have hc : Go.Lib.countB ⟨s.toArray⟩ ⟨[b].toArray⟩ = s.count b := by
      have : Go.Lib.countB ⟨s.toArray⟩ ⟨[b].toArray⟩ = Go.Lib.count s [b] := rfl
      rw [this, Go.Lib.count_one]
    have hk := Go.Lib.splitB_data ⟨[b].toArray⟩ 0 (s.count b) ⟨s.toArray⟩
    have e1 : (⟨s.toArray⟩ : ByteArray).data.toList = s := by simp
    have e2 : (⟨[b].toArray⟩ : ByteArray).data.toList = [b] := by simp
    rw [e1, e2, splitK_one b _ s rfl] at hk
    have hl : s.count b + 1 = (splitL b s).length := by
      rw [← hk, List.length_map, Go.Lib.splitB_all ⟨[b].toArray⟩ (Nat.le_refl 1) 0 (s.count b) ⟨s.toArray⟩ hc]
    have hx : (Go.Lib.splitB ⟨[b].toArray⟩ 0 (s.count b) ⟨s.toArray⟩).map Value.string = (splitL b s).map fun l => Value.string ⟨l.toArray⟩ := by
      rw [← hk, List.map_map]
      congr 1
    refine (Tryz.strings_Split ⟨s.toArray⟩ ⟨[b].toArray⟩ m w h hm (Nat.le_refl 1)).mono fun e w' ⟨he, hw⟩ => ?_
    rw [hc, hl] at he
    rw [hc, hx] at hw
    have hp : w'.heap = w.heap.push (.cells ((splitL b s).map fun l => Value.string ⟨l.toArray⟩).toArray 9) := by rw [hw]; rfl
    have hbel : Below w.heap.size w w' := Below.of_heap (Nat.le_refl _) hp (by rw [hw]; rfl) (by rw [hw]; rfl) (by rw [hw]; rfl)
    refine ⟨_, _, he, rfl, hbel, ?_⟩
    have hcell : ∀ (j : Nat) (v : Value), ((splitL b s).map fun l => Value.string ⟨l.toArray⟩)[j]? = some v → w'.cell? ⟨w.heap.size, 0 + j, none⟩ = some v := fun j v hj => by
      simp only [World.cell?, push_new hp, Nat.zero_add]
      simp
      simpa using hj
    exact .lst _ true w.heap.size 0 _ (strs_rel _) (fun j v hj => ⟨hcell j v hj, .inr ⟨Nat.le_refl _, by rw [hp]; simp⟩⟩) (Nat.le_refl _) (fun _ => rfl) (.nil _)
theorem str_vals : ∀ (L : List (List UInt8)) {I : Nat → Nat → Prop} {μ : List (List Go.Sy.Place)} {w : World} {vs : List Value}, R I μ w true (L.map CV.str) vs → vs = L.map fun l => Value.string ⟨l.toArray⟩
  | [], _, _, _, _, h => R.none h
  | l :: L, _, _, _, _, h => by
    obtain ⟨ws, rfl, h2⟩ := R.str_cons h
    rw [str_vals L h2]; rfl
theorem join_in {L : List (List UInt8)} {t : List UInt8} {f : Bool} (hL : L.length < 1099511627776) (hl : (Go.Lib.join L t).length < 1099511627776) : ACall Tryz.prog 48 [.lst L.length (L.map .str) f, .str t] [] fun c B' => c = .str (Go.Lib.join L t) ∧ B' = [] :=
  acall_of_calls (Q := fun c => c = .str (Go.Lib.join L t)) (by kernel_rfl) fun I μ w vs ht hI hv => by
    obtain ⟨v0, ws, rfl⟩ : ∃ v0 ws, vs = v0 :: ws := by
      cases vs with
      | nil => have := hv.len; simp at this
      | cons a b => exact ⟨a, b, rfl⟩
    obtain ⟨hv1, _, hv2⟩ := hv.head
    obtain ⟨ws, rfl, hv3⟩ := R.str_cons hv2
    obtain rfl := R.none hv3
    have none_ : L = [] → ∀ A cap, v0 = .slice A 0 cap → Calls Tryz.prog 48 [v0, .string ⟨t.toArray⟩].toArray w fun e w' => ∃ c v, e = .returned v ∧ c = .str (Go.Lib.join L t) ∧ Below w.heap.size w w' ∧ V (fun b j => I b j ∨ (w.heap.size ≤ b ∧ b < w'.heap.size)) μ w' c v := fun hLL A cap hv0 => by
      subst hLL hv0
      refine (Tryz.strings_Join_none A cap ⟨t.toArray⟩ w).mono fun e w' ⟨he, hw⟩ => ?_
      subst hw
      exact ⟨_, _, he, by simp [Go.Lib.join, List.intercalate], Below.same, .str _ (.nil _)⟩
    rcases hv1.lst_inv with ⟨b, o, cap, us, h1, h, hm, hn, hf⟩ | ⟨A, h1, h2, _⟩
    · have hbs := str_vals L h
      subst hbs
      have hj : (L.map fun l => (⟨l.toArray⟩ : ByteArray)).map (·.data.toList) = L := by rw [List.map_map]; simp [Function.comp_def]
      by_cases hLL : L = []
      · exact none_ hLL _ _ (by rw [h1, hLL]; rfl)
      · subst h1
        have hbk : b < w.heap.size := by
          cases hL2 : L with
          | nil => exact absurd hL2 hLL
          | cons x xs => exact hI _ _ (hm 0 (Value.string ⟨x.toArray⟩) (by rw [hL2]; rfl)).2
        have := Tryz.strings_Join b o cap (L.map fun l => (⟨l.toArray⟩ : ByteArray)) ⟨t.toArray⟩ w (fun j y hy => by
          rw [List.getElem?_map, Option.map_eq_some_iff] at hy
          obtain ⟨l, hl, rfl⟩ := hy
          exact (hm j _ (by rw [List.getElem?_map, hl]; rfl)).1) hbk (by rw [List.length_map]; omega) (by rw [List.length_map]; exact hn) (by rw [hj]; show (Go.Lib.join L t).length ≤ _; omega)
        rw [hj, List.length_map] at this
        refine this.mono fun e w' ⟨he, hw⟩ => ?_
        exact ⟨_, _, he, rfl, hw, .str _ (.nil _)⟩
    · have hLL : L = [] := List.eq_nil_of_length_eq_zero (by first | exact h2 | omega)
      exact none_ hLL _ _ (by first | exact h1 | (rw [h1, hLL]; rfl))
theorem join_at {B : List Box} {args : List CV} {n : Nat} {L : List (List UInt8)} {t : List UInt8} {f : Bool} (hz : Is (omap (Go.Sy.fz true false B 6) args) (some [.lst n (L.map .str) f, .str t])) (hn : n = L.length) (hL : L.length < 1099511627776) (hl : (Go.Lib.join L t).length < 1099511627776) :
    ACall Tryz.prog 48 args B fun c B' => c = .str (Go.Lib.join L t) ∧ B' = B := by
  subst hn
  exact acall_fresh hz ((join_in hL hl).mono fun c B' ⟨h, _⟩ => by rw [h]; rfl)
end Go.Proofs.YtcbdghgogmcllaaGreatDoor
end
section
namespace Go.Proofs.YtcbdghgogmcllaaGreatDoor
open Go Go.Sy
def hexD (d : Nat) : UInt8 := if d < 10 then UInt8.ofNat (48 + d) else UInt8.ofNat (87 + d)
def hexT (u : Nat) : List UInt8 :=
  if h : u < 16 then [hexD u] else hexT (u / 16) ++ [hexD (u % 16)]
termination_by u
decreasing_by omega
theorem tz_at {B : List Box} : ACall Tryz.prog 161 [.int .u64 16] B fun c B' => c = .int .i64 4 ∧ B' = B := by
  have h64 : ∀ {B : List Box} {args : List CV}, Is args [.int .u64 16] → ACall Tryz.prog 176 args B fun c B' => c = .int .i64 4 ∧ B' = B := fun {B args} h => by
    have h : _ = _ := h
    subst h
    refine acall_intro mixed Tryz.func176 rfl ca176 (by kernel_rfl) (by rw [Tryz.ntmps176]; simp) ?_
    have e1 : bits .and .u64 16 (IntKind.u64.wrap (-16)) = 16 := by decide
    have ht : tab 7 = some (.u8, [0, 1, 56, 2, 57, 49, 28, 3, 61, 58, 42, 50, 38, 29, 17, 4, 62, 47, 59, 36, 45, 43, 51, 22, 53, 39, 33, 30, 24, 18, 12, 5, 63, 55, 48, 27, 60, 41, 37, 16, 46, 35, 44, 21, 52, 32, 23, 11, 54, 26, 40, 15, 34, 20, 31, 10, 25, 14, 19, 9, 13, 8, 7, 6]) := rfl
    refine w0 ?_ 
    exact ⟨rfl, rfl⟩
  refine acall_intro mixed Tryz.func161 rfl ca161 (by kernel_rfl) (by rw [Tryz.ntmps161]; simp) ?_
  refine w1 @h64 ?_ 
  exact ⟨rfl, rfl⟩
theorem pow2_at {B : List Box} {args : List CV} (ha : Is args [.int .i64 16]) : ACall Tryz.prog 160 args B fun c B' => c = .bool true ∧ B' = B := by
  have h : _ = _ := ha
  subst h
  have e1 : bits .and .i64 16 15 = 0 := by decide
  refine acall_intro mixed Tryz.func160 rfl ca160 (by kernel_rfl) (by rw [Tryz.ntmps160]; simp) ?_
  refine w0 ?_ 
  exact ⟨rfl, rfl⟩
theorem digs_at : ∀ d : Fin 16, ([48, 49, 50, 51, 52, 53, 54, 55, 56, 57, 97, 98, 99, 100, 101, 102, 103, 104, 105, 106, 107, 108, 109, 110, 111, 112, 113, 114, 115, 116, 117, 118, 119, 120, 121, 122] : List UInt8)[d.1]? = some (hexD d.1) := by decide
theorem digs_get {d : Nat} (h : d < 16) (h2 : d < 36) : ([48, 49, 50, 51, 52, 53, 54, 55, 56, 57, 97, 98, 99, 100, 101, 102, 103, 104, 105, 106, 107, 108, 109, 110, 111, 112, 113, 114, 115, 116, 117, 118, 119, 120, 121, 122] : List UInt8)[d]'h2 = hexD d := by
  have := digs_at ⟨d, h⟩
  rw [List.getElem?_eq_getElem (by exact h2)] at this
  exact Option.some.inj this
theorem fmtBits_in (n : Nat) (hn : n < 65536) : PC Tryz.prog true 144 [.nilS, .int .u64 n, .int .i64 16, .bool false, .bool false] (.tup [.lst 0 [] false, .str (hexT n)]) := by
  have htz : ∀ {B : List Box} {args : List CV}, Is args [.int .u64 16] → ACall Tryz.prog 161 args B fun c B' => c = .int .i64 4 ∧ B' = B := fun h => by
    have h : _ = _ := h
    subst h
    exact tz_at
  have hr := rep_bytes 65
  refine acall_intro mixed Tryz.func144 rfl ca144 (by kernel_rfl) (by rw [Tryz.ntmps144]; simp) ?_
  refine w2 @htz @pow2_at ?_ 
  refine w_loop (fun fr B => ∃ (u i : Nat) (t : List UInt8), hexT n = hexT u ++ t ∧ ((t.length = 0 ∧ u < 65536) ∨ (t.length = 1 ∧ u < 4096) ∨ (t.length = 2 ∧ u < 256) ∨ (t.length = 3 ∧ u < 16)) ∧ i + t.length = 65 ∧ fr 1 = .int .u64 u ∧ fr 13 = .int .i64 i ∧ fr 12 = .ptr 0 0 ∧ fr 14 = .int .u64 4 ∧ fr 15 = .int .u64 16 ∧ fr 16 = .int .u64 15 ∧ fr 0 = .nilS ∧ fr 3 = .bool false ∧ fr 4 = .bool false ∧ fr 10 = .nilS ∧ B = [⟨(List.replicate i (0 : UInt8) ++ t).map byteC, false⟩]) (fun fr _ => natOf (fr 1)) ?_ ?_
  · exact ⟨n, 65, [], by simp, .inl ⟨rfl, hn⟩, rfl, kS, kS, kS, kS, kS, kS, kS, kS, kS, kS, rfl⟩
  clear hr
  rintro fr B ⟨u, i, t, he, hu, hi, h1, h13, h12, h14, h15, h16, h0, h3, h4, h10, rfl⟩
  have hul : u < 65536 := by omega
  obtain ⟨k, rfl⟩ : ∃ k, i = k + 1 := ⟨i - 1, by omega⟩
  have hll : (List.replicate (k + 1) (0 : UInt8) ++ t).length = 65 := by simp; omega
  have hset : ∀ x : UInt8, (List.replicate (k + 1) (0 : UInt8) ++ t).set k x = List.replicate k 0 ++ x :: t := fun x => by
    rw [List.set_append_left _ _ (by simp), List.replicate_succ', List.set_append_right _ _ (by simp)]; simp
  by_cases hc : 16 ≤ u
  · obtain ⟨d, hd⟩ : ∃ d, u % 16 = d := ⟨_, rfl⟩
    have hd16 : d < 16 := by omega
    have hand : bits .and .u64 (u : Int) 15 = (d : Int) := by
      rw [show (15 : Int) = ((15 : Nat) : Int) from rfl, u64_and_nat u 15 (by omega) (by omega), show (15 : Nat) = 2 ^ 4 - 1 from rfl, Nat.and_two_pow_sub_one_eq_mod, ← hd]
    have hdg := digs_get (d := d) (by omega) (by omega)
    dsimp only at hdg
    have hx := hset (hexD d)
    have hT : hexT n = hexT (u / 16) ++ hexD d :: t := by rw [he, hexT, dif_neg (by omega), hd]; simp
    clear hset
    replace hd : Hid _ := hd
    refine w0 ?_ 
    refine ⟨⟨u / 16, k, hexD d :: t, hT, by simp only [List.length_cons]; omega, by rw [List.length_cons]; omega, kS, kS, kS, kS, kS, kS, kS, kS, kS, kS, ?_⟩, kS⟩
    rw [← hx, bytes_mid, List.set_eq_take_append_cons_drop, if_pos (by omega)]
  · have hdg := digs_get (d := u) (by omega) (by omega)
    dsimp only at hdg
    have hx := hset (hexD u)
    have hT : hexT n = hexD u :: t := by rw [he, hexT, dif_pos (by omega)]; rfl
    refine w0 ?_ 
    have hcell : (List.take k (List.replicate (k + 1) (0 : UInt8) ++ t)).map byteC ++ byteC (hexD u) :: (List.drop (k + 1) (List.replicate (k + 1) (0 : UInt8) ++ t)).map byteC = (List.replicate k 0 ++ hexD u :: t).map byteC := by
      rw [← hx, bytes_mid, List.set_eq_take_append_cons_drop, if_pos (by omega)]
    rw [hcell]
    have hlt : (hexD u :: t).length = 65 - k := by rw [List.length_cons]; omega
    clear hcell hx hset hdg
    generalize hexD u :: t = D at *
    have hdr : (List.replicate k (0 : UInt8) ++ D).drop k = D := by rw [List.drop_append_of_le_length (by simp)]; simp
    have htk : D.take (65 - k) = D := List.take_of_length_le (by omega)
    refine w0 ?_ 
    rw [hT]; rfl
theorem fmt16_at {B : List Box} {n : Nat} (hn : n < 65536) : ACall Tryz.prog 77 [.int .i64 n, .int .i64 16] B fun c B' => c = .str (hexT n) ∧ B' = B := by
  have h1 : ∀ {B : List Box} {args : List CV}, Is args [.nilS, .int .u64 n, .int .i64 16, .bool false, .bool false] → ACall Tryz.prog 144 args B fun c B' => c = .tup [.lst 0 [] false, .str (hexT n)] ∧ B' = B := fun {B args} h => by
    have h : _ = _ := h
    subst h
    exact acall_fresh (nz := false) rfl (fmtBits_in n hn)
  have h2 : ∀ {B : List Box} {args : List CV}, Is args [.int .i64 n, .int .i64 16] → ACall Tryz.prog 114 args B fun c B' => c = .str (hexT n) ∧ B' = B := fun {B args} h => by
    have h : _ = _ := h
    subst h
    refine acall_intro mixed Tryz.func114 rfl ca114 (by kernel_rfl) (by rw [Tryz.ntmps114]; simp) ?_
    refine w1 @h1 ?_ 
    exact ⟨rfl, rfl⟩
  refine acall_intro mixed Tryz.func77 rfl ca77 (by kernel_rfl) (by rw [Tryz.ntmps77]; simp) ?_
  refine w1 @h2 ?_ 
  exact ⟨rfl, rfl⟩
end Go.Proofs.YtcbdghgogmcllaaGreatDoor
end
section
namespace Go.Proofs.YtcbdghgogmcllaaGreatDoor
open Go Go.Sy
def isDig (c : UInt8) : Bool := decide (48 ≤ c.toNat) && decide (c.toNat ≤ 57)
def decV (l : List UInt8) : Nat := l.foldl (fun n c => 10 * n + (c.toNat - 48)) 0
def headOk (m : Nat) (s : List UInt8) : Bool := decide (1 ≤ s.length) && decide (s.length ≤ m) && !(decide (1 < s.length) && (s.head? == some 48))
def decOk (m : Nat) (s : List UInt8) : Bool := headOk m s && s.all isDig
def decR (m : Nat) (s : List UInt8) : Nat := if decOk m s then decV s else 0
theorem decV_app (l : List UInt8) (c : UInt8) : decV (l ++ [c]) = 10 * decV l + (c.toNat - 48) := by simp [decV, List.foldl_append]
theorem decV_take {l : List UInt8} {k : Nat} (h : k < l.length) : decV (l.take (k + 1)) = 10 * decV (l.take k) + (l[k].toNat - 48) := by rw [List.take_succ_eq_append_getElem h, decV_app]
theorem decV_lt : ∀ (l : List UInt8), l.all isDig = true → decV l < 10 ^ l.length := by
  intro l
  suffices h : ∀ (l : List UInt8) (n k : Nat), n < 10 ^ k → l.all isDig = true → l.foldl (fun n c => 10 * n + (c.toNat - 48)) n < 10 ^ (k + l.length) by
    intro hl; have := h l 0 0 (by decide) hl; rwa [Nat.zero_add] at this
  intro l
  induction l with
  | nil => intro n k h _; simpa using h
  | cons c l ih =>
    intro n k h hl
    simp only [List.all_cons, Bool.and_eq_true] at hl
    have hc : 48 ≤ c.toNat ∧ c.toNat ≤ 57 := by simpa [isDig] using hl.1
    have := ih (10 * n + (c.toNat - 48)) (k + 1) (by rw [Nat.pow_succ]; omega) hl.2
    rw [List.foldl_cons, List.length_cons, show k + (l.length + 1) = k + 1 + l.length by omega]
    exact this
theorem dec_bound {s : List UInt8} {j : Nat} (hd : (s.take j).all isDig = true) (hj : j ≤ 10) : decV (s.take j) ≤ 9999999999 := by
  have h1 := decV_lt _ hd
  have h2 : (s.take j).length ≤ 10 := by rw [List.length_take]; omega
  have h3 : 10 ^ (s.take j).length ≤ 10 ^ 10 := Nat.pow_le_pow_right (by decide) h2
  omega
theorem all_take {s : List UInt8} {j : Nat} (h : j < s.length) : (s.take (j + 1)).all isDig = ((s.take j).all isDig && isDig s[j]) := by
  rw [List.take_succ_eq_append_getElem h, List.all_append]; simp
theorem not_all {s : List UInt8} {j : Nat} (h : j < s.length) (hn : isDig s[j] = false) : s.all isDig = false := by
  rw [List.all_eq_false]
  exact ⟨s[j], List.getElem_mem h, by simp [hn]⟩
theorem decimal_in (s : List UInt8) (lim : Int) (hs : s.length < 4611686018427387904) : PC Tryz.prog true 110 [.str s, .int .i64 lim] (.tup [.int .i64 (decR 10 s), .bool (decOk 10 s && decide ((decR 10 s : Int) ≤ lim))]) := by
  refine acall_intro mixed Tryz.func110 rfl ca110 (by kernel_rfl) (by rw [Tryz.ntmps110]; simp) ?_
  have hbad : headOk 10 s = false → decR 10 s = 0 ∧ decOk 10 s = false := fun h => by simp [decR, decOk, h]
  by_cases h0 : s.length = 0
  · obtain ⟨e1, e2⟩ := hbad (by simp [headOk, h0])
    have : s = [] := List.eq_nil_of_length_eq_zero h0
    subst this
    refine w0 ?_ 
    rfl
  have hpos : 0 < s.length := by omega
  by_cases h10 : s.length ≤ 10
  · by_cases hz : 1 < s.length ∧ s[0]'hpos = 48
    · obtain ⟨hz1, hz2⟩ := hz
      have hh : s.head? = some 48 := by rw [List.head?_eq_getElem?, List.getElem?_eq_getElem (by omega), hz2]
      obtain ⟨e1, e2⟩ := hbad (by simp [headOk, hz1, hh])
      rw [e1, e2]
      refine w0 ?_ 
      rfl
    · have hh : headOk 10 s = true := by
        cases s with
        | nil => simp at h0
        | cons c s => simp [headOk] at hz ⊢; simp at h10; exact ⟨h10, by cases s with | nil => exact .inl rfl | cons d s => exact .inr (hz (by simp))⟩
      have hz' : 1 < s.length → (s[0]'hpos).toNat ≠ 48 := fun h e => hz ⟨h, UInt8.toNat_inj.1 e⟩
      clear hbad hz
      by_cases h1l : 1 < s.length
      · have hz2 := hz' h1l
        clear hz'
        have hz3 : ((s[0]'hpos).toNat : Int) ≠ 48 := by omega
        refine w0 ?_ 
        refine w_loop (fun fr B => B = [] ∧ ∃ j : Nat, j ≤ s.length ∧ (s.take j).all isDig = true ∧ fr 28 = .int .i64 j ∧ fr 0 = .str s ∧ fr 6 = .int .i64 (decV (s.take j)) ∧ fr 27 = .int .i64 s.length ∧ fr 1 = .int .i64 lim) (fun fr _ => s.length - natOf (fr 28)) ?_ ?_
        · exact ⟨rfl, 0, by omega, rfl, kS, kS, by (simp (disch := omega) [go_sem, *, decV]) <;> (try omega), kS, kS⟩
        rintro fr B ⟨rfl, j, hj, hd, hix, hs0, h6, hx1, hx2⟩
        have hb := dec_bound hd (by omega)
        by_cases hc : j < s.length
        · have hnx := decV_take hc
          have hall := all_take hc
          rw [hd, Bool.true_and] at hall
          have hlt := (s[j]).toNat_lt
          by_cases hg : isDig s[j] = true
          · rw [hg] at hall
            have hg2 : 48 ≤ s[j].toNat ∧ s[j].toNat ≤ 57 := by simpa [isDig] using hg
            have hb2 := dec_bound hall (by omega)
            have hnx2 : (decV (s.take (j + 1)) : Int) = 10 * decV (s.take j) + (s[j].toNat - 48) := by omega
            rw [hnx] at hb2
            refine w0 ?_ 
            exact ⟨⟨rfl, j + 1, by omega, hall, kS, kS, by rw [hnx2] <;> (simp (disch := omega) [go_sem, *]) <;> (try omega), kS, kS⟩, kS⟩
          · have hna := not_all hc (by simpa using hg)
            have e1 : decR 10 s = 0 ∧ decOk 10 s = false := by simp [decR, decOk, hna]
            have hg2 : s[j].toNat < 48 ∨ 57 < s[j].toNat := by
              have : ¬ (48 ≤ s[j].toNat ∧ s[j].toNat ≤ 57) := by simpa [isDig] using hg
              omega
            rw [e1.1, e1.2]
            rcases hg2 with hg2 | hg2
            · refine w0 ?_ 
              rfl
            · have hg3 : ¬ (s[j].toNat : Int) < 48 := by omega
              refine w0 ?_ 
              rfl
        · obtain rfl : j = s.length := by omega
          rw [List.take_length] at hd h6 hb
          have e1 : decOk 10 s = true := by simp only [decOk, hh, hd, Bool.and_self]
          rw [decR, if_pos e1, e1]
          refine w0 ?_ 
          rfl
      · clear hz'
        refine w0 ?_ 
        refine w_loop (fun fr B => B = [] ∧ ∃ j : Nat, j ≤ s.length ∧ (s.take j).all isDig = true ∧ fr 28 = .int .i64 j ∧ fr 0 = .str s ∧ fr 6 = .int .i64 (decV (s.take j)) ∧ fr 27 = .int .i64 s.length ∧ fr 1 = .int .i64 lim) (fun fr _ => s.length - natOf (fr 28)) ?_ ?_
        · exact ⟨rfl, 0, by omega, rfl, kS, kS, by (simp (disch := omega) [go_sem, *, decV]) <;> (try omega), kS, kS⟩
        rintro fr B ⟨rfl, j, hj, hd, hix, hs0, h6, hx1, hx2⟩
        have hb := dec_bound hd (by omega)
        by_cases hc : j < s.length
        · have hnx := decV_take hc
          have hall := all_take hc
          rw [hd, Bool.true_and] at hall
          have hlt := (s[j]).toNat_lt
          by_cases hg : isDig s[j] = true
          · rw [hg] at hall
            have hg2 : 48 ≤ s[j].toNat ∧ s[j].toNat ≤ 57 := by simpa [isDig] using hg
            have hb2 := dec_bound hall (by omega)
            have hnx2 : (decV (s.take (j + 1)) : Int) = 10 * decV (s.take j) + (s[j].toNat - 48) := by omega
            rw [hnx] at hb2
            refine w0 ?_ 
            exact ⟨⟨rfl, j + 1, by omega, hall, kS, kS, by rw [hnx2] <;> (simp (disch := omega) [go_sem, *]) <;> (try omega), kS, kS⟩, kS⟩
          · have hna := not_all hc (by simpa using hg)
            have e1 : decR 10 s = 0 ∧ decOk 10 s = false := by simp [decR, decOk, hna]
            have hg2 : s[j].toNat < 48 ∨ 57 < s[j].toNat := by
              have : ¬ (48 ≤ s[j].toNat ∧ s[j].toNat ≤ 57) := by simpa [isDig] using hg
              omega
            rw [e1.1, e1.2]
            rcases hg2 with hg2 | hg2
            · refine w0 ?_ 
              rfl
            · have hg3 : ¬ (s[j].toNat : Int) < 48 := by omega
              refine w0 ?_ 
              rfl
        · obtain rfl : j = s.length := by omega
          rw [List.take_length] at hd h6 hb
          have e1 : decOk 10 s = true := by simp only [decOk, hh, hd, Bool.and_self]
          rw [decR, if_pos e1, e1]
          refine w0 ?_ 
          rfl
  · obtain ⟨e1, e2⟩ := hbad (by simp [headOk]; omega)
    rw [e1, e2]
    refine w0 ?_ 
    rfl
theorem rnumber_in (s : List UInt8) (m : Nat) (hm : m ≤ 10) (hs : s.length < 4611686018427387904) : PC Tryz.prog true 97 [.str s, .int .i64 m] (.tup [.int .i64 (decR m s), .bool (decOk m s)]) := by
  refine acall_intro mixed Tryz.func97 rfl ca97 (by kernel_rfl) (by rw [Tryz.ntmps97]; simp) ?_
  have hbad : headOk m s = false → decR m s = 0 ∧ decOk m s = false := fun h => by simp [decR, decOk, h]
  by_cases h0 : s.length = 0
  · obtain ⟨e1, e2⟩ := hbad (by simp [headOk, h0])
    have : s = [] := List.eq_nil_of_length_eq_zero h0
    subst this
    refine w0 ?_ 
    rfl
  have hpos : 0 < s.length := by omega
  by_cases h10 : s.length ≤ m
  · by_cases hz : 1 < s.length ∧ s[0]'hpos = 48
    · obtain ⟨hz1, hz2⟩ := hz
      have hh : s.head? = some 48 := by rw [List.head?_eq_getElem?, List.getElem?_eq_getElem (by omega), hz2]
      obtain ⟨e1, e2⟩ := hbad (by simp [headOk, hz1, hh])
      rw [e1, e2]
      refine w0 ?_ 
      rfl
    · have hh : headOk m s = true := by
        cases s with
        | nil => simp at h0
        | cons c s => simp [headOk] at hz ⊢; simp at h10; exact ⟨h10, by cases s with | nil => exact .inl rfl | cons d s => exact .inr (hz (by simp))⟩
      have hz' : 1 < s.length → (s[0]'hpos).toNat ≠ 48 := fun h e => hz ⟨h, UInt8.toNat_inj.1 e⟩
      clear hbad hz
      by_cases h1l : 1 < s.length
      · have hz2 := hz' h1l
        clear hz'
        have hz3 : ((s[0]'hpos).toNat : Int) ≠ 48 := by omega
        refine w0 ?_ 
        refine w_loop (fun fr B => B = [] ∧ ∃ j : Nat, j ≤ s.length ∧ (s.take j).all isDig = true ∧ fr 7 = .int .i64 j ∧ fr 0 = .str s ∧ fr 6 = .int .i64 (decV (s.take j)) ∧ fr 1 = .int .i64 m ∧ fr 1 = .int .i64 m) (fun fr _ => s.length - natOf (fr 7)) ?_ ?_
        · exact ⟨rfl, 0, by omega, rfl, kS, kS, by (simp (disch := omega) [go_sem, *, decV]) <;> (try omega), kS, kS⟩
        rintro fr B ⟨rfl, j, hj, hd, hix, hs0, h6, hx1, hx2⟩
        have hb := dec_bound hd (by omega)
        by_cases hc : j < s.length
        · have hnx := decV_take hc
          have hall := all_take hc
          rw [hd, Bool.true_and] at hall
          have hlt := (s[j]).toNat_lt
          by_cases hg : isDig s[j] = true
          · rw [hg] at hall
            have hg2 : 48 ≤ s[j].toNat ∧ s[j].toNat ≤ 57 := by simpa [isDig] using hg
            have hb2 := dec_bound hall (by omega)
            have hnx2 : (decV (s.take (j + 1)) : Int) = 10 * decV (s.take j) + (s[j].toNat - 48) := by omega
            rw [hnx] at hb2
            refine w0 ?_ 
            exact ⟨⟨rfl, j + 1, by omega, hall, kS, kS, by rw [hnx2] <;> (simp (disch := omega) [go_sem, *]) <;> (try omega), kS, kS⟩, kS⟩
          · have hna := not_all hc (by simpa using hg)
            have e1 : decR m s = 0 ∧ decOk m s = false := by simp [decR, decOk, hna]
            have hg2 : s[j].toNat < 48 ∨ 57 < s[j].toNat := by
              have : ¬ (48 ≤ s[j].toNat ∧ s[j].toNat ≤ 57) := by simpa [isDig] using hg
              omega
            rw [e1.1, e1.2]
            rcases hg2 with hg2 | hg2
            · refine w0 ?_ 
              rfl
            · have hg3 : ¬ (s[j].toNat : Int) < 48 := by omega
              refine w0 ?_ 
              rfl
        · obtain rfl : j = s.length := by omega
          rw [List.take_length] at hd h6 hb
          have e1 : decOk m s = true := by simp only [decOk, hh, hd, Bool.and_self]
          rw [decR, if_pos e1, e1]
          refine w0 ?_ 
          rfl
      · clear hz'
        refine w0 ?_ 
        refine w_loop (fun fr B => B = [] ∧ ∃ j : Nat, j ≤ s.length ∧ (s.take j).all isDig = true ∧ fr 7 = .int .i64 j ∧ fr 0 = .str s ∧ fr 6 = .int .i64 (decV (s.take j)) ∧ fr 1 = .int .i64 m ∧ fr 1 = .int .i64 m) (fun fr _ => s.length - natOf (fr 7)) ?_ ?_
        · exact ⟨rfl, 0, by omega, rfl, kS, kS, by (simp (disch := omega) [go_sem, *, decV]) <;> (try omega), kS, kS⟩
        rintro fr B ⟨rfl, j, hj, hd, hix, hs0, h6, hx1, hx2⟩
        have hb := dec_bound hd (by omega)
        by_cases hc : j < s.length
        · have hnx := decV_take hc
          have hall := all_take hc
          rw [hd, Bool.true_and] at hall
          have hlt := (s[j]).toNat_lt
          by_cases hg : isDig s[j] = true
          · rw [hg] at hall
            have hg2 : 48 ≤ s[j].toNat ∧ s[j].toNat ≤ 57 := by simpa [isDig] using hg
            have hb2 := dec_bound hall (by omega)
            have hnx2 : (decV (s.take (j + 1)) : Int) = 10 * decV (s.take j) + (s[j].toNat - 48) := by omega
            rw [hnx] at hb2
            refine w0 ?_ 
            exact ⟨⟨rfl, j + 1, by omega, hall, kS, kS, by rw [hnx2] <;> (simp (disch := omega) [go_sem, *]) <;> (try omega), kS, kS⟩, kS⟩
          · have hna := not_all hc (by simpa using hg)
            have e1 : decR m s = 0 ∧ decOk m s = false := by simp [decR, decOk, hna]
            have hg2 : s[j].toNat < 48 ∨ 57 < s[j].toNat := by
              have : ¬ (48 ≤ s[j].toNat ∧ s[j].toNat ≤ 57) := by simpa [isDig] using hg
              omega
            rw [e1.1, e1.2]
            rcases hg2 with hg2 | hg2
            · refine w0 ?_ 
              rfl
            · have hg3 : ¬ (s[j].toNat : Int) < 48 := by omega
              refine w0 ?_ 
              rfl
        · obtain rfl : j = s.length := by omega
          rw [List.take_length] at hd h6 hb
          have e1 : decOk m s = true := by simp only [decOk, hh, hd, Bool.and_self]
          rw [decR, if_pos e1, e1]
          refine w0 ?_ 
          rfl
  · obtain ⟨e1, e2⟩ := hbad (by simp [headOk]; omega)
    rw [e1, e2]
    refine w0 ?_ 
    rfl
def digV (c : UInt8) : Option Nat := if 48 ≤ c.toNat ∧ c.toNat ≤ 57 then some (c.toNat - 48) else if 97 ≤ c.toNat ∧ c.toNat ≤ 102 then some (c.toNat - 87) else if 65 ≤ c.toNat ∧ c.toNat ≤ 70 then some (c.toNat - 55) else none
theorem rdigit_in (c : UInt8) : PC Tryz.prog true 125 [byteC c] (.int .i64 ((digV c).getD 16)) := by
  refine acall_intro mixed Tryz.func125 rfl ca125 (by kernel_rfl) (by rw [Tryz.ntmps125]; simp) ?_
  repeat' (first | (with_reducible first | apply jA | apply jB | apply jC | apply jD | apply jE | apply jF | apply jG | apply jH | apply jI | apply jJ | apply jK | apply jL | apply jM | apply jN | apply jO) | ((with_reducible first | apply jP | apply jQ); rfl) | ((first | ((with_reducible first | apply jR | apply jS | apply jT); rfl; rfl) | (with_reducible first | apply jU | apply jV | apply jW) | ((with_reducible first | apply jX | apply jY | apply jZ); rfl)); all_goals (first | ((with_reducible show Is _ _); exact kE) | ((with_reducible refine fun (hc : (_ : Bool) = _) => ?_); (try simp only [xZ, xY, xP, reduceCtorEq] at hc); (try (have hx : True := hc; clear hx hc)); (try exact kX)) | ((fail_if_success (with_reducible first | show Is _ _ | show ACall _ _ _ _ _)); (try ((with_reducible show _ ∨ _); exact kT))))))
  all_goals (rw [digV]; repeat' split)
  all_goals first | (exfalso; omega) | (simp [go_sem] <;> omega) | (simp [go_sem]; done)
theorem rdigit_at {B : List Box} {args : List CV} {c : UInt8} (hz : Is (omap (Go.Sy.fz true false B 6) args) (some [byteC c])) : ACall Tryz.prog 125 args B fun r B' => r = .int .i64 ((digV c).getD 16) ∧ B' = B := acall_fresh hz (rdigit_in c)
def isHex (c : UInt8) : Bool := (digV c).isSome
def hexV (l : List UInt8) : Nat := l.foldl (fun n c => 16 * n + (digV c).getD 0) 0
def hexOk (s : List UInt8) : Bool := decide (1 ≤ s.length) && decide (s.length ≤ 4) && s.all isHex
def hexR (s : List UInt8) : Nat := if hexOk s then hexV s else 0
theorem hexV_app (l : List UInt8) (c : UInt8) : hexV (l ++ [c]) = 16 * hexV l + (digV c).getD 0 := by simp [hexV, List.foldl_append]
theorem hexV_take {l : List UInt8} {k : Nat} (h : k < l.length) : hexV (l.take (k + 1)) = 16 * hexV (l.take k) + (digV l[k]).getD 0 := by rw [List.take_succ_eq_append_getElem h, hexV_app]
theorem digV_lt {c : UInt8} {n : Nat} (h : digV c = some n) : n < 16 := by
  unfold digV at h
  split at h
  · simp at h; omega
  · split at h
    · simp at h; omega
    · split at h
      · simp at h; omega
      · cases h
theorem hexV_lt : ∀ (l : List UInt8), hexV l < 16 ^ l.length := by
  intro l
  suffices h : ∀ (l : List UInt8) (n k : Nat), n < 16 ^ k → l.foldl (fun n c => 16 * n + (digV c).getD 0) n < 16 ^ (k + l.length) by
    have := h l 0 0 (by decide); rwa [Nat.zero_add] at this
  intro l
  induction l with
  | nil => intro n k h; simpa using h
  | cons c l ih =>
    intro n k h
    have hc : (digV c).getD 0 < 16 := by
      cases hd : digV c with
      | none => simp
      | some v => simpa using digV_lt hd
    have := ih (16 * n + (digV c).getD 0) (k + 1) (by rw [Nat.pow_succ]; omega)
    rw [List.foldl_cons, List.length_cons, show k + (l.length + 1) = k + 1 + l.length by omega]
    exact this
theorem hex_bound {s : List UInt8} {j : Nat} (hj : j ≤ 4) : hexV (s.take j) ≤ 65535 := by
  have h1 := hexV_lt (s.take j)
  have h2 : (s.take j).length ≤ 4 := by rw [List.length_take]; omega
  have h3 : 16 ^ (s.take j).length ≤ 16 ^ 4 := Nat.pow_le_pow_right (by decide) h2
  omega
theorem hex_take {s : List UInt8} {j : Nat} (h : j < s.length) : (s.take (j + 1)).all isHex = ((s.take j).all isHex && isHex s[j]) := by
  rw [List.take_succ_eq_append_getElem h, List.all_append]; simp
theorem not_hex {s : List UInt8} {j : Nat} (h : j < s.length) (hn : digV s[j] = none) : s.all isHex = false := by
  rw [List.all_eq_false]
  exact ⟨s[j], List.getElem_mem h, by simp [isHex, hn]⟩
theorem digV_cases (c : UInt8) : (48 ≤ c.toNat ∧ c.toNat ≤ 57 ∧ digV c = some (c.toNat - 48)) ∨ (97 ≤ c.toNat ∧ c.toNat ≤ 102 ∧ digV c = some (c.toNat - 87)) ∨ (65 ≤ c.toNat ∧ c.toNat ≤ 70 ∧ digV c = some (c.toNat - 55)) ∨ (¬ (48 ≤ c.toNat ∧ c.toNat ≤ 57) ∧ ¬ (97 ≤ c.toNat ∧ c.toNat ≤ 102) ∧ ¬ (65 ≤ c.toNat ∧ c.toNat ≤ 70) ∧ digV c = none) := by
  unfold digV
  split
  · rename_i h; exact .inl ⟨h.1, h.2, rfl⟩
  · split
    · rename_i h; exact .inr (.inl ⟨h.1, h.2, rfl⟩)
    · split
      · rename_i h; exact .inr (.inr (.inl ⟨h.1, h.2, rfl⟩))
      · rename_i h1 h2 h3; exact .inr (.inr (.inr ⟨h1, h2, h3, rfl⟩))
theorem hexadecimal_in (s : List UInt8) (hs : s.length < 4611686018427387904) : PC Tryz.prog true 140 [.str s] (.tup [.int .i64 (hexR s), .bool (hexOk s)]) := by
  refine acall_intro mixed Tryz.func140 rfl ca140 (by kernel_rfl) (by rw [Tryz.ntmps140]; simp) ?_
  have hbad : hexOk s = false → hexR s = 0 := fun h => by simp [hexR, h]
  by_cases h0 : s.length = 0
  · have e := hbad (by simp [hexOk, h0])
    have : s = [] := List.eq_nil_of_length_eq_zero h0
    subst this
    refine w0 ?_ 
    rfl
  by_cases h10 : s.length ≤ 4
  · clear hbad
    refine w0 ?_ 
    refine w_loop (fun fr B => B = [] ∧ ∃ j : Nat, j ≤ s.length ∧ (s.take j).all isHex = true ∧ fr 17 = .int .i64 j ∧ fr 16 = .int .i64 s.length ∧ fr 0 = .str s ∧ fr 4 = .int .i64 (hexV (s.take j))) (fun fr _ => s.length - natOf (fr 17)) ?_ ?_
    · exact ⟨rfl, 0, by omega, rfl, kS, kS, kS, by (simp (disch := omega) [go_sem, *, hexV]) <;> (try omega)⟩
    rintro fr B ⟨rfl, j, hj, hd, hix, h16, hs0, h4⟩
    have hb := hex_bound (s := s) (j := j) (by omega)
    by_cases hc : j < s.length
    · have hnx := hexV_take hc
      have hall := hex_take hc
      rw [hd, Bool.true_and] at hall
      have hlt := (s[j]).toNat_lt
      have hb2 := hex_bound (s := s) (j := j + 1) (by omega)
      rcases digV_cases s[j] with ⟨g1, g2, g3⟩ | ⟨g1, g2, g3⟩ | ⟨g1, g2, g3⟩ | ⟨g1, g2, g3, g4⟩
      · have hnx2 : (hexV (s.take (j + 1)) : Int) = 16 * hexV (s.take j) + (s[j].toNat - 48) := by rw [hnx, g3]; simp; omega
        rw [isHex, g3] at hall
        clear g3 hnx
        refine w0 ?_ 
        exact ⟨⟨rfl, j + 1, by omega, hall, kS, kS, kS, by rw [hnx2] <;> (simp (disch := omega) [go_sem, *]) <;> (try omega)⟩, kS⟩
      · have hnx2 : (hexV (s.take (j + 1)) : Int) = 16 * hexV (s.take j) + (s[j].toNat - 97) + 10 := by rw [hnx, g3]; simp; omega
        rw [isHex, g3] at hall
        clear g3 hnx
        refine w0 ?_ 
        exact ⟨⟨rfl, j + 1, by omega, hall, kS, kS, kS, by rw [hnx2] <;> (simp (disch := omega) [go_sem, *]) <;> (try omega)⟩, kS⟩
      · have hnx2 : (hexV (s.take (j + 1)) : Int) = 16 * hexV (s.take j) + (s[j].toNat - 65) + 10 := by rw [hnx, g3]; simp; omega
        rw [isHex, g3] at hall
        clear g3 hnx
        refine w0 ?_ 
        exact ⟨⟨rfl, j + 1, by omega, hall, kS, kS, kS, by rw [hnx2] <;> (simp (disch := omega) [go_sem, *]) <;> (try omega)⟩, kS⟩
      · have hna := not_hex hc g4
        have e1 : hexOk s = false := by simp [hexOk, hna]
        rw [hexR, e1]
        clear g4 hnx
        have g5 : s[j].toNat < 48 ∨ (57 < s[j].toNat ∧ s[j].toNat < 65) ∨ (70 < s[j].toNat ∧ s[j].toNat < 97) ∨ 102 < s[j].toNat := by omega
        clear g1 g2 g3
        rcases g5 with g5 | g5 | g5 | g5 <;> (
          (refine w0 ?_ )
          rfl)
    · obtain rfl : j = s.length := by omega
      rw [List.take_length] at hd h4 hb
      have e1 : hexOk s = true := by simp [hexOk, hd]; omega
      rw [hexR, if_pos e1, e1]
      refine w0 ?_ 
      rfl
  · have e2 : hexOk s = false := by simp [hexOk]; omega
    have e := hbad e2
    rw [e, e2]
    refine w0 ?_ 
    rfl
theorem decimal_at {B : List Box} {s : List UInt8} {lim : Int} (hs : s.length < 4611686018427387904) : ACall Tryz.prog 110 [.str s, .int .i64 lim] B fun c B' => c = .tup [.int .i64 (decR 10 s), .bool (decOk 10 s && decide ((decR 10 s : Int) ≤ lim))] ∧ B' = B := acall_fresh (nz := false) rfl (decimal_in s lim hs)
theorem rnumber_at {B : List Box} {s : List UInt8} {k : Int} {m : Nat} (hk : k = m) (hm : m ≤ 10) (hs : s.length < 4611686018427387904) : ACall Tryz.prog 97 [.str s, .int .i64 k] B fun c B' => c = .tup [.int .i64 (decR m s), .bool (decOk m s)] ∧ B' = B := by subst hk; exact acall_fresh (nz := false) rfl (rnumber_in s m hm hs)
theorem hexadecimal_at {B : List Box} {s : List UInt8} (hs : s.length < 4611686018427387904) : ACall Tryz.prog 140 [.str s] B fun c B' => c = .tup [.int .i64 (hexR s), .bool (hexOk s)] ∧ B' = B := acall_fresh (nz := false) rfl (hexadecimal_in s hs)
end Go.Proofs.YtcbdghgogmcllaaGreatDoor
end
section
namespace Go.Proofs.YtcbdghgogmcllaaGreatDoor
open Go Go.Sy
theorem byte_nat (n : Nat) (h : n < 256) : byteC (UInt8.ofNat n) = .int .u8 (n : Int) := by
  rw [byteC]; congr 1; simp; omega
theorem decDigits_len : ∀ (k n : Nat), n < 10 ^ (k + 1) → (Go.Lib.decDigits n).length ≤ k + 1
  | 0, n, h => by
    rw [Go.Lib.decDigits, dif_pos (by simpa using h)]; simp
  | k + 1, n, h => by
    rw [Go.Lib.decDigits]
    split
    · simp
    · rw [List.length_append]
      have := decDigits_len k (n / 10) (by rw [Nat.pow_succ] at h; omega)
      simp only [List.length_singleton]; omega
theorem rdec_at : ∀ (n : Nat), n < 4611686018427387904 → ∀ {B : List Box}, ACall Tryz.prog 29 [.int .i64 n] B fun c B' => c = .str (Go.Lib.decDigits n) ∧ B' = B := by
  intro n
  induction n using Nat.strongRecOn with
  | _ n ih =>
    intro hn B
    rw [Go.Lib.decDigits]
    by_cases hc : n < 10
    · rw [dif_pos hc]
      have hb := byte_nat (48 + n) (by omega)
      generalize UInt8.ofNat (48 + n) = x at *
      have hb' : CV.int .u8 (48 + (n : Int)) = byteC x := by rw [hb]; push_cast; rfl
      clear hb ih
      refine acall_intro mixed Tryz.func29 rfl ca29 (by kernel_rfl) (by rw [Tryz.ntmps29]; simp) ?_
      refine w0 ?_ 
      exact ⟨rfl, rfl⟩
    · rw [dif_neg hc]
      have ih' : ∀ {B : List Box}, ACall Tryz.prog 29 [.int .i64 ((n : Int) / 10)] B fun c B' => c = .str (Go.Lib.decDigits (n / 10)) ∧ B' = B := by
        intro B
        rw [show ((n : Int) / 10) = ((n / 10 : Nat) : Int) by omega]
        exact ih (n / 10) (by omega) (by omega)
      have hr : ∀ {B : List Box} {args : List CV}, Is args [.int .i64 ((n : Int) / 10)] → ACall Tryz.prog 29 args B fun c B' => c = .str (Go.Lib.decDigits (n / 10)) ∧ B' = B := fun h => by
        have h : _ = _ := h
        subst h
        exact ih'
      have hb := byte_nat (48 + n % 10) (by omega)
      generalize UInt8.ofNat (48 + n % 10) = x at *
      have hb' : CV.int .u8 (48 + (n : Int) % 10) = byteC x := by rw [hb]; congr 1
      have hDl := decDigits_len 18 (n / 10) (by omega)
      generalize Go.Lib.decDigits (n / 10) = D at *
      clear hb ih ih'
      refine acall_intro mixed Tryz.func29 rfl ca29 (by kernel_rfl) (by rw [Tryz.ntmps29]; simp) ?_
      refine w1 @hr ?_ 
      exact ⟨rfl, rfl⟩
theorem digs16 : ∀ d : Fin 16, (([48, 49, 50, 51, 52, 53, 54, 55, 56, 57, 97, 98, 99, 100, 101, 102] : List UInt8).drop d.1).take 1 = [hexD d.1] := by decide
def empC (c : CV) : Nat := match c with | .str [] => 1 | _ => 0
theorem group_in (n0 : Nat) (hn0 : n0 < 65536) : PC Tryz.prog true 124 [.int .i64 n0] (.str (hexT n0)) := by
  refine acall_intro mixed Tryz.func124 rfl ca124 (by kernel_rfl) (by rw [Tryz.ntmps124]; simp) ?_
  refine w0 ?_ 
  refine w_loop (fun fr B => B = [] ∧ ∃ (n : Nat) (s : List UInt8), ((s = [] ∧ n = n0) ∨ (s ≠ [] ∧ ((n = 0 ∧ s = hexT n0) ∨ (0 < n ∧ hexT n0 = hexT n ++ s)))) ∧ ((s.length = 0 ∧ n < 65536) ∨ (s.length = 1 ∧ n < 4096) ∨ (s.length = 2 ∧ n < 256) ∨ (s.length = 3 ∧ n < 16) ∨ (s.length ≤ 4 ∧ n = 0)) ∧ fr 0 = .int .i64 n ∧ fr 3 = .str s) (fun fr _ => 2 * natOf (fr 0) + empC (fr 3)) ?_ ?_
  · exact ⟨rfl, n0, [], .inl ⟨rfl, rfl⟩, .inl ⟨rfl, hn0⟩, kS, kS⟩
  rintro fr B ⟨rfl, n, s, hs, hl, h0, h3⟩
  have step : ∀ d, n % 16 = d → (0 < n ∨ s = []) → ((hexD d :: s = [] ∧ n / 16 = n0) ∨ (hexD d :: s ≠ [] ∧ ((n / 16 = 0 ∧ hexD d :: s = hexT n0) ∨ (0 < n / 16 ∧ hexT n0 = hexT (n / 16) ++ hexD d :: s)))) := fun d hd hgo => by
    refine .inr ⟨by simp, ?_⟩
    have key2 : hexT n0 = hexT n ++ s := by
      rcases hs with ⟨rfl, rfl⟩ | ⟨h1, ⟨h2, h3⟩ | ⟨h2, h3⟩⟩
      · simp
      · rcases hgo with h | h
        · omega
        · exact absurd h h1
      · exact h3
    by_cases hc : n < 16
    · left
      refine ⟨by omega, ?_⟩
      rw [key2, hexT, dif_pos hc, ← hd, Nat.mod_eq_of_lt hc]; rfl
    · right
      refine ⟨by omega, ?_⟩
      rw [key2, hexT, dif_neg hc, hd]; simp
  obtain ⟨d, hd⟩ : ∃ d, n % 16 = d := ⟨_, rfl⟩
  have hd16 : d < 16 := by omega
  have hdi : (n : Int) % 16 = d := by omega
  have hdg := digs16 ⟨d, by omega⟩
  dsimp only at hdg
  have step := step d hd
  by_cases hg : 0 < n
  · have st := step (.inl hg)
    clear step hs
    replace hd : Hid _ := hd
    have hlen : s.length ≤ 4 := by omega
    refine w0 ?_ 
    refine ⟨⟨rfl, n / 16, hexD d :: s, st, by simp only [List.length_cons]; omega, kS, kS⟩, ?_⟩
    (simp (disch := omega) [go_sem, *, empC, natOf]) <;> (try omega)
  · obtain rfl : n = 0 := by omega
    by_cases hs0 : s = []
    · subst hs0
      have st := step (.inr rfl)
      clear step hs
      replace hd : Hid _ := hd
      obtain rfl : d = 0 := by have hd : 0 % 16 = d := hd; omega
      refine w0 ?_ 
      exact ⟨⟨rfl, 0, [48], st, by simp, kS, kS⟩, by (simp (disch := omega) [go_sem, *, empC, natOf]) <;> (try omega)⟩
    · have hfin : s = hexT n0 := by
        rcases hs with ⟨h, _⟩ | ⟨_, ⟨_, h⟩ | ⟨h, _⟩⟩
        · exact absurd h hs0
        · exact h
        · omega
      clear step hs
      have hne : s.isEmpty = false := by cases s with | nil => exact absurd rfl hs0 | cons => rfl
      subst hfin
      refine w0 ?_ 
      rfl
theorem group_at {B : List Box} {n : Int} {m : Nat} (hn : n = m) (hm : m < 65536) : ACall Tryz.prog 124 [.int .i64 n] B fun c B' => c = .str (hexT m) ∧ B' = B := by subst hn; exact acall_fresh (nz := false) rfl (group_in m hm)
def lastJ (s : List UInt8) : Nat → Int
  | 0 => -1
  | j + 1 => if s[j]? = some 58 then j else lastJ s j
theorem last_in (s : List UInt8) (hs : s.length < 4611686018427387904) : PC Tryz.prog true 95 [.str s] (.int .i64 (lastJ s s.length)) := by
  refine acall_intro mixed Tryz.func95 rfl ca95 (by kernel_rfl) (by rw [Tryz.ntmps95]; simp) ?_
  refine w0 ?_ 
  refine w_loop (fun fr B => B = [] ∧ ∃ j : Nat, j ≤ s.length ∧ fr 4 = .int .i64 j ∧ fr 0 = .str s ∧ fr 3 = .int .i64 (lastJ s j)) (fun fr _ => s.length - natOf (fr 4)) ?_ ?_
  · exact ⟨rfl, 0, by omega, kS, kS, by (simp (disch := omega) [go_sem, *, lastJ]) <;> (try omega)⟩
  rintro fr B ⟨rfl, j, hj, h4, h0, h3⟩
  by_cases hc : j < s.length
  · have hnx : lastJ s (j + 1) = if s[j] = 58 then (j : Int) else lastJ s j := by rw [lastJ, List.getElem?_eq_getElem hc]; simp
    have hlt := s[j].toNat_lt
    by_cases h58 : s[j] = 58
    · rw [if_pos h58] at hnx
      have h58' : (s[j].toNat : Int) = 58 := by rw [h58]; rfl
      clear h58
      refine w0 ?_ 
      exact ⟨⟨rfl, j + 1, by omega, kS, kS, by rw [hnx] <;> (simp (disch := omega) [go_sem, *]) <;> (try omega)⟩, kS⟩
    · rw [if_neg h58] at hnx
      have h58' : (s[j].toNat : Int) ≠ 58 := fun h => h58 (UInt8.toNat_inj.1 (by have : s[j].toNat = 58 := (by omega); rw [this]; rfl))
      clear h58
      refine w0 ?_ 
      exact ⟨⟨rfl, j + 1, by omega, kS, kS, by rw [hnx] <;> (simp (disch := omega) [go_sem, *]) <;> (try omega)⟩, kS⟩
  · obtain rfl : j = s.length := by omega
    refine w0 ?_ 
    rfl
end Go.Proofs.YtcbdghgogmcllaaGreatDoor
end
section
namespace Go.Proofs.YtcbdghgogmcllaaGreatDoor
open Go Go.Sy
theorem splitL_cons {b c : UInt8} {s : List UInt8} {x : List UInt8} {xs : List (List UInt8)} (h : splitL b s = x :: xs) (hc : c ≠ b) : splitL b (c :: s) = (c :: x) :: xs := by rw [splitL, if_neg hc, h]
theorem splitL_snoc (b : UInt8) : ∀ (s : List UInt8) (c : UInt8), splitL b (s ++ [c]) = if c = b then splitL b s ++ [[]] else (splitL b s).dropLast ++ [((splitL b s).getLast?.getD []) ++ [c]]
  | [], c => by
    by_cases hc : c = b
    · rw [if_pos hc]; simp [splitL, hc]
    · rw [if_neg hc]; simp [splitL, hc]
  | d :: s, c => by
    have ih := splitL_snoc b s c
    obtain ⟨x, xs, h⟩ : ∃ x xs, splitL b s = x :: xs := by
      cases h : splitL b s with
      | nil => exact absurd h (splitL_ne b s)
      | cons x xs => exact ⟨x, xs, rfl⟩
    by_cases hc : c = b
    · rw [if_pos hc] at ih ⊢
      by_cases hd : d = b
      · rw [List.cons_append, splitL, if_pos hd, ih, splitL, if_pos hd]; rfl
      · rw [h] at ih
        rw [List.cons_append, splitL_cons ih hd, splitL_cons h hd]; rfl
    · rw [if_neg hc] at ih ⊢
      by_cases hd : d = b
      · rw [List.cons_append, splitL, if_pos hd, ih, splitL, if_pos hd, h]; simp
      · rw [h] at ih
        cases xs with
        | nil =>
          simp at ih
          rw [List.cons_append, splitL_cons ih hd, splitL_cons h hd]; simp
        | cons y ys =>
          simp at ih
          rw [List.cons_append, splitL_cons ih hd, splitL_cons h hd]; simp
theorem rsplit_in (s : List UInt8) (b : UInt8) (hs : s.length < 1000000000) : PC Tryz.prog true 24 [.str s, byteC b] (.lst (splitL b s).length ((splitL b s).map .str) false) := by
  refine acall_intro mixed Tryz.func24 rfl ca24 (by kernel_rfl) (by rw [Tryz.ntmps24]; simp) ?_
  refine w0 ?_ 
  refine w_loop (fun fr B => ∃ (j β n : Nat) (init : List (List UInt8)) (last : List UInt8) (ic rest : List CV), j ≤ s.length ∧ splitL b (s.take j) = init ++ [last] ∧ ic = init.map .str ∧ ic.length = n ∧ n ≤ j ∧ last.length ≤ j ∧ fr 0 = .str s ∧ fr 1 = byteC b ∧ fr 6 = .int .i64 j ∧ fr 5 = .cview β 0 (n + 1) (n + 1 + rest.length) 1 ∧ B[β]? = some ⟨ic ++ .str last :: rest, false⟩) (fun fr _ => s.length - natOf (fr 6)) ?_ ?_
  · exact ⟨0, 0, 0, [], [], [], [], by omega, rfl, rfl, rfl, by omega, by simp, kS, kS, kS, kS, kS⟩
  rintro fr B ⟨j, β, n, init, last, ic, rest, hj, hsp, hic, hn, hnj, hlj, h0, h1, h6, h5, hβ⟩
  have hdr : (ic ++ .str last :: rest).drop n = .str last :: rest := by rw [← hn]; simp
  have htk : (ic ++ .str last :: rest).take n = ic := by rw [← hn]; simp
  have hdr1 : (ic ++ .str last :: rest).drop (n + 1) = rest := by rw [← List.drop_drop, hdr]; rfl
  have htk1 : (ic ++ .str last :: rest).take (n + 1) = ic ++ [.str last] := by rw [← hn, List.take_length_add_append]; rfl
  have hln : (ic ++ .str last :: rest).length = n + 1 + rest.length := by rw [List.length_append, List.length_cons, hn]; omega
  have xb := bx_pack hβ
  replace hic : Hid _ := hic
  by_cases hc : j < s.length
  · have hsn := splitL_snoc b (s.take j) s[j]
    rw [← List.take_succ_eq_append_getElem hc, hsp] at hsn
    have hlt := s[j].toNat_lt
    by_cases heb : s[j] = b
    · rw [if_pos heb] at hsn
      have heb' : (s[j].toNat : Int) = b.toNat := by rw [heb]
      by_cases hroom : 0 < rest.length
      · obtain ⟨r0, rest, rfl⟩ : ∃ r0 r, rest = r0 :: r := by
          cases rest with
          | nil => simp at hroom
          | cons a b => exact ⟨a, b, rfl⟩
        have hsp2 : (ic ++ .str last :: r0 :: rest).drop (n + 1 + 1) = rest := by rw [← List.drop_drop, hdr1]; rfl
        replace hsn : Hid _ := hsn
        replace hsp : Hid _ := hsp
        clear heb
        refine w0 ?_ 
        have hsn : _ = _ := hsn
        have hic : ic = init.map .str := hic
        refine ⟨⟨j + 1, β, n + 1, init ++ [last], [], ic ++ [.str last], rest, by omega, hsn, by rw [hic]; simp, by simp [hn], by omega, by simp, kS, kS, kS, kS, ?_⟩, kS⟩
        (simp (disch := omega) [go_sem, *]) <;> (try omega)
        rw [show n + 1 + 1 - n = 2 by omega]; rfl
      · obtain rfl : rest = [] := List.eq_nil_of_length_eq_zero (by omega)
        obtain ⟨k1, hk1⟩ : ∃ k1, n + 1 = k1 := ⟨_, rfl⟩
        obtain ⟨k2, hk2⟩ : ∃ k2, n + 1 = k2 := ⟨_, rfl⟩
        replace h5 : fr 5 = .cview β 0 k1 k2 1 := by rw [← hk1, ← hk2]; exact hk1 ▸ h5
        replace hk1 : Hid _ := hk1
        replace hk2 : Hid _ := hk2
        replace hsn : Hid _ := hsn
        replace hsp : Hid _ := hsp
        clear heb
        refine w0 ?_ 
        have hk1 : n + 1 = k1 := hk1
        have hk2 : n + 1 = k2 := hk2
        subst hk1 hk2
        have hβ2 : (B ++ [⟨[CV.str []], false⟩])[β]? = some ⟨ic ++ [.str last], false⟩ := by simp [xb]
        refine o_appendG (P := Tryz.prog) (e := 9) (esz := 1) (m := 1) (k := n + 1) (zs := [.str []]) (olds := ic ++ [.str last]) (news := [.str []]) rfl (by (try simp (disch := first | omega | (simp only [yZ, yB] <;> omega) | fail) [go_sem, yY, *, -List.map_take, -List.map_drop, -List.map_append, -List.map_reverse]); exact rfl) (by (try simp (disch := first | omega | (simp only [yZ, yB] <;> omega) | fail) [go_sem, yY, *, -List.map_take, -List.map_drop, -List.map_append, -List.map_reverse]); exact rfl) (by simp (disch := first | omega | (simp only [yZ, yB] <;> omega) | fail) [go_sem, yY, *, -List.map_take, -List.map_drop, -List.map_append, -List.map_reverse]) (by simp (disch := first | omega | (simp only [yZ, yB] <;> omega) | fail) [go_sem, yY, *, -List.map_take, -List.map_drop, -List.map_append, -List.map_reverse]) (by simp (disch := first | omega | (simp only [yZ, yB] <;> omega) | fail) [go_sem, yY, *, -List.map_take, -List.map_drop, -List.map_append, -List.map_reverse]) rfl (by decide) ⟨_, by simp (disch := first | omega | (simp only [yZ, yB] <;> omega) | fail) [go_sem, yY, *, -List.map_take, -List.map_drop, -List.map_append, -List.map_reverse]; rfl⟩ (by simp (disch := first | omega | (simp only [yZ, yB] <;> omega) | fail) [go_sem, yY, *, -List.map_take, -List.map_drop, -List.map_append, -List.map_reverse]) (by simp) (by decide) (.inr (.inr ⟨β, 0, n + 1, _, rfl, hβ2, by omega, by rw [List.drop_zero, List.take_of_length_le (by simp [hn])]⟩)) (by simp (disch := first | omega | (simp only [yZ, yB] <;> omega) | fail) [go_sem, yY, *, -List.map_take, -List.map_drop, -List.map_append, -List.map_reverse]; omega) (by omega) ?_
        intro cap hcap
        obtain ⟨rs, hrs, hrl⟩ : ∃ rs, repC [CV.str []] (cap - (n + 1 + 1)) = rs ∧ cap = n + 1 + 1 + rs.length := ⟨_, rfl, by rw [repC_length]; simp; omega⟩
        rw [hrs]
        subst hrl
        clear hrs hcap
        refine w0 ?_ 
        have hsn : _ = _ := hsn
        have hic : ic = init.map .str := hic
        refine ⟨⟨j + 1, B.length + 1, n + 1, init ++ [last], [], ic ++ [.str last], rs, by omega, hsn, by rw [hic]; simp, by simp [hn], by omega, by simp, kS, kS, kS, kS, ?_⟩, kS⟩
        simp
    · rw [if_neg heb] at hsn
      have heb' : (s[j].toNat : Int) ≠ b.toNat := fun h => heb (UInt8.toNat_inj.1 (by omega))
      have hsl : (s.drop j).take 1 = [s[j]] := by rw [List.drop_eq_getElem_cons hc]; rfl
      replace hsn : Hid _ := hsn
      replace hsp : Hid _ := hsp
      clear heb
      refine w0 ?_ 
      have hsn : _ = _ := hsn
      have hic : ic = init.map .str := hic
      refine ⟨⟨j + 1, β, n, init, last ++ [s[j]], ic, rest, by omega, by rw [hsn]; simp, hic, hn, by omega, by simp; omega, kS, kS, kS, kS, ?_⟩, kS⟩
      (simp (disch := omega) [go_sem, *]) <;> (try omega)
  · obtain rfl : j = s.length := by omega
    refine w0 ?_ 
    have hic : ic = init.map .str := hic
    rw [List.take_length] at hsp
    rw [fz_cview, hβ]
    simp only [List.drop_zero, Nat.mul_one]
    rw [htk1, hic, ← List.map_singleton (f := CV.str), ← List.map_append, ← hsp]
    have hl2 : n + 1 = (splitL b s).length := by rw [hsp, List.length_append, ← hn, hic]; simp
    rw [hl2]
    have : ∀ L : List (List UInt8), omap (Go.Sy.fz true true B 5) (L.map CV.str) = some (L.map CV.str) := fun L => by
      induction L with
      | nil => rfl
      | cons x xs ih => rw [List.map_cons, omap_two, ih]; rfl
    rw [this]; rfl
end Go.Proofs.YtcbdghgogmcllaaGreatDoor
end
section
namespace Go.Proofs.YtcbdghgogmcllaaGreatDoor
open Go Go.Sy
theorem kE_GG0 {α : Type} {x y : α} (h : Is x y := by first | ((try simp (disch := first | omega | (simp only [yZ, yB] <;> omega) | fail) [go_sem, yY, *, addrC, if_pos, if_neg, -List.map_take, -List.map_drop, -List.map_append, -List.map_reverse]); exact rfl) | fail) : Is x y := h
theorem kD_GG0 {p : Prop} (h : p := by (first | omega | assumption | exact rfl | ((simp (disch := first | omega | (simp only [yZ, yB] <;> omega) | fail) [go_sem, yY, *, addrC, -List.map_take, -List.map_drop, -List.map_append, -List.map_reverse]) <;> (first | done | omega | exact rfl)) | fail)) : p := h
theorem kE_GG1 {α : Type} {x y : α} (h : Is x y := by first | ((try simp (disch := first | omega | (simp only [yZ, yB] <;> omega) | fail) [go_sem, yY, *, cons_get1, cons_take1, cons_drop1, if_pos, if_neg, -List.map_take, -List.map_drop, -List.map_append, -List.map_reverse]); exact rfl) | fail) : Is x y := h
theorem kD_GG1 {p : Prop} (h : p := by (first | omega | assumption | exact rfl | ((simp (disch := first | omega | (simp only [yZ, yB] <;> omega) | fail) [go_sem, yY, *, cons_get1, cons_take1, cons_drop1, -List.map_take, -List.map_drop, -List.map_append, -List.map_reverse]) <;> (first | done | omega | exact rfl)) | fail)) : p := h
theorem kE_GG2 {α : Type} {x y : α} (h : Is x y := by first | ((try simp (disch := first | omega | (simp only [yZ, yB] <;> omega) | fail) [go_sem, yY, *, omap_strs, if_pos, if_neg, -List.map_take, -List.map_drop, -List.map_append, -List.map_reverse]); exact rfl) | fail) : Is x y := h
theorem kD_GG2 {p : Prop} (h : p := by (first | omega | assumption | exact rfl | ((simp (disch := first | omega | (simp only [yZ, yB] <;> omega) | fail) [go_sem, yY, *, omap_strs, -List.map_take, -List.map_drop, -List.map_append, -List.map_reverse]) <;> (first | done | omega | exact rfl)) | fail)) : p := h
theorem wB_GG0 {p q : Prop} (k : q) (h : Hq q → p := by (intro k; (repeat' (first | (with_reducible first | apply jA | apply jB | apply jC | apply jD | apply jE | apply jF | apply jG | apply jH | apply jI | apply jJ | apply jK | apply jL | apply jM | apply jN | apply jO) | ((with_reducible first | apply jP | apply jQ); rfl) | ((first | ((with_reducible first | apply jR | apply jS | apply jT); rfl; rfl) | (with_reducible first | apply jU | apply jV | apply jW) | ((with_reducible first | apply jX | apply jY | apply jZ); rfl) | ((with_reducible first | apply kA | apply kB | apply kC); rfl)); all_goals (first | ((with_reducible show Is _ _); exact kE_GG0) | ((with_reducible refine fun (hc : (_ : Bool) = _) => ?_); (try simp only [xZ, xY, xP, reduceCtorEq] at hc); (try (have hx : True := hc; clear hx hc)); (try exact kX)) | ((with_reducible show ACall _ _ _ _ _); (first | ((with_reducible apply c0) <;> exact kD_GG0) | ((with_reducible apply c1) <;> exact kD_GG0) | ((with_reducible apply c2) <;> exact kD_GG0) | ((with_reducible apply c3) <;> exact kD_GG0) | ((with_reducible apply c4) <;> exact kD_GG0) | ((with_reducible apply c5) <;> exact kD_GG0) | ((with_reducible apply c6) <;> exact kD_GG0) | ((with_reducible apply c7) <;> exact kD_GG0))) | ((fail_if_success (with_reducible first | show Is _ _ | show ACall _ _ _ _ _)); (try ((with_reducible show _ ∨ _); exact kT))))) | (((with_reducible first | apply o_callQ | apply q_callQ); rfl); (iterate 2 exact kE_GG0); (first | ((with_reducible apply q0) <;> exact kD_GG0))))); exact hq k)) : p := h ⟨k⟩
theorem wB_GG1 {p q : Prop} (k : q) (h : Hq q → p := by (intro k; (repeat' (first | (with_reducible first | apply jA | apply jB | apply jC | apply jD | apply jE | apply jF | apply jG | apply jH | apply jI | apply jJ | apply jK | apply jL | apply jM | apply jN | apply jO) | ((with_reducible first | apply jP | apply jQ); rfl) | ((first | ((with_reducible first | apply jR | apply jS | apply jT); rfl; rfl) | (with_reducible first | apply jU | apply jV | apply jW) | ((with_reducible first | apply jX | apply jY | apply jZ); rfl) | ((with_reducible first | apply kA | apply kB | apply kC); rfl)); all_goals (first | ((with_reducible show Is _ _); exact kE_GG1) | ((with_reducible refine fun (hc : (_ : Bool) = _) => ?_); (try simp only [xZ, xY, xP, reduceCtorEq] at hc); (try (have hx : True := hc; clear hx hc)); (try exact kX)) | ((with_reducible show ACall _ _ _ _ _); (first | ((with_reducible apply c0) <;> exact kD_GG1) | ((with_reducible apply c1) <;> exact kD_GG1) | ((with_reducible apply c2) <;> exact kD_GG1) | ((with_reducible apply c3) <;> exact kD_GG1) | ((with_reducible apply c4) <;> exact kD_GG1) | ((with_reducible apply c5) <;> exact kD_GG1) | ((with_reducible apply c6) <;> exact kD_GG1) | ((with_reducible apply c7) <;> exact kD_GG1))) | ((fail_if_success (with_reducible first | show Is _ _ | show ACall _ _ _ _ _)); (try ((with_reducible show _ ∨ _); exact kT))))) | (((with_reducible first | apply o_callQ | apply q_callQ); rfl); (iterate 2 exact kE_GG1); (first | ((with_reducible apply q0) <;> exact kD_GG1))))); exact hq k)) : p := h ⟨k⟩
theorem wB_GG2 {p q : Prop} (k : q) (h : Hq q → p := by (intro k; (repeat' (first | (with_reducible first | apply jA | apply jB | apply jC | apply jD | apply jE | apply jF | apply jG | apply jH | apply jI | apply jJ | apply jK | apply jL | apply jM | apply jN | apply jO) | ((with_reducible first | apply jP | apply jQ); rfl) | ((first | ((with_reducible first | apply jR | apply jS | apply jT); rfl; rfl) | (with_reducible first | apply jU | apply jV | apply jW) | ((with_reducible first | apply jX | apply jY | apply jZ); rfl) | ((with_reducible first | apply kA | apply kB | apply kC); rfl)); all_goals (first | ((with_reducible show Is _ _); exact kE_GG2) | ((with_reducible refine fun (hc : (_ : Bool) = _) => ?_); (try simp only [xZ, xY, xP, reduceCtorEq] at hc); (try (have hx : True := hc; clear hx hc)); (try exact kX)) | ((with_reducible show ACall _ _ _ _ _); (first | ((with_reducible apply c0) <;> exact kD_GG2) | ((with_reducible apply c1) <;> exact kD_GG2) | ((with_reducible apply c2) <;> exact kD_GG2) | ((with_reducible apply c3) <;> exact kD_GG2) | ((with_reducible apply c4) <;> exact kD_GG2) | ((with_reducible apply c5) <;> exact kD_GG2) | ((with_reducible apply c6) <;> exact kD_GG2) | ((with_reducible apply c7) <;> exact kD_GG2))) | ((fail_if_success (with_reducible first | show Is _ _ | show ACall _ _ _ _ _)); (try ((with_reducible show _ ∨ _); exact kT))))) | (((with_reducible first | apply o_callQ | apply q_callQ); rfl); (iterate 2 exact kE_GG2); (first | ((with_reducible apply q0) <;> exact kD_GG2))))); exact hq k)) : p := h ⟨k⟩
theorem w_GG01 {A0 p q : Prop} (c0 : A0) (k : q) (h : A0 → Hq q → p := by (intro c0 k; exact wB_GG0 (hq k))) : p := h c0 ⟨k⟩
theorem w_GG11 {A0 p q : Prop} (c0 : A0) (k : q) (h : A0 → Hq q → p := by (intro c0 k; exact wB_GG1 (hq k))) : p := h c0 ⟨k⟩
theorem w_GG21 {A0 p q : Prop} (c0 : A0) (k : q) (h : A0 → Hq q → p := by (intro c0 k; exact wB_GG2 (hq k))) : p := h c0 ⟨k⟩
theorem vld_full {six : Bool} {A : List UInt8} (hA : A.length = 16) : vld six A (if six then 128 else 32) = okA six A := by
  cases h : okA six A with
  | false => simp [vld, h]
  | true =>
    have hc : cutL A (if six then 128 else 32) = A := by
      rw [cut_same hA]
      intro k h1 h2
      cases six with
      | true => simp at h1; omega
      | false =>
        simp at h1
        have hz : A.drop 4 = z12 := by simpa [okA] using h
        have hk : k / 8 < 16 := by omega
        have : A.getD (k / 8) 0 = 0 := by
          have h3 : (A.drop 4)[k / 8 - 4]? = some 0 := by
            rw [hz]
            have : k / 8 - 4 < 12 := by omega
            show (List.replicate 12 (0 : UInt8))[k / 8 - 4]? = some 0
            rw [List.getElem?_replicate, if_pos this]
          rw [List.getElem?_drop, show 4 + (k / 8 - 4) = k / 8 by omega] at h3
          rw [List.getD_eq_getElem?_getD, h3]; rfl
        rw [bitI, this]; simp
    cases six with
    | true => simp [vld, h]; simpa using hc
    | false => simp [vld, h]; simpa using hc
theorem cvalid_in (six : Bool) (A : List UInt8) (hA : A.length = 16) : PC Tryz.prog true 137 [addrC six A] (.bool (okA six A)) := by
  have hv := vld_full (six := six) hA
  have hiv : ∀ {B : List Box} {args : List CV} {s : Int}, Is (omap (Go.Sy.fz true false B 6) args) (some [prefC six A s]) → s = (if six then 128 else 32) → ACall Tryz.prog 155 args B fun c B' => c = .bool (okA six A) ∧ B' = B := fun h hs => by
    rw [← hv]
    have := iValid_at h hA
    rw [hs] at this
    exact this
  refine acall_intro mixed Tryz.func137 rfl ca137 (by kernel_rfl) (by rw [Tryz.ntmps137]; simp) ?_
  cases six
  · refine w_GG01 @hiv ?_ 
    rfl
  · refine w_GG01 @hiv ?_ 
    rfl
theorem cvalid_at {B : List Box} {args : List CV} {six : Bool} {A : List UInt8} (hz : Is (omap (Go.Sy.fz true false B 6) args) (some [addrC six A])) (hA : A.length = 16) : ACall Tryz.prog 137 args B fun c B' => c = .bool (okA six A) ∧ B' = B := acall_fresh hz (cvalid_in six A hA)
def grp (A : List UInt8) (i : Nat) : Nat := (A.getD (2 * i) 0).toNat * 256 + (A.getD (2 * i + 1) 0).toNat
theorem grp_lt (A : List UInt8) (i : Nat) : grp A i < 65536 := by
  have h1 := (A.getD (2 * i) 0).toNat_lt
  have h2 := (A.getD (2 * i + 1) 0).toNat_lt
  unfold grp; omega
def parts6 (A : List UInt8) (n : Nat) : List (List UInt8) := (List.range n).map fun i => hexT (grp A i)
def parts4 (A : List UInt8) (n : Nat) : List (List UInt8) := (List.range n).map fun i => Go.Lib.decDigits (A.getD i 0).toNat
theorem parts6_succ (A : List UInt8) (n : Nat) : parts6 A (n + 1) = parts6 A n ++ [hexT (grp A n)] := by simp [parts6, List.range_succ]
theorem parts4_succ (A : List UInt8) (n : Nat) : parts4 A (n + 1) = parts4 A n ++ [Go.Lib.decDigits (A.getD n 0).toNat] := by simp [parts4, List.range_succ]
def fmtA (six : Bool) (A : List UInt8) : List UInt8 := if okA six A then (if six then Go.Lib.join (parts6 A 8) [58] else Go.Lib.join (parts4 A 4) [46]) else []
theorem or_grp (a b : UInt8) : bits .or .i64 ((a.toNat : Int) * 256) (b.toNat : Int) = ((a.toNat * 256 + b.toNat : Nat) : Int) := by
  have ha := a.toNat_lt
  have hb := b.toNat_lt
  rw [show ((a.toNat : Int) * 256) = ((a.toNat * 256 : Nat) : Int) by omega, i64_or_nat _ _ (by omega) (by omega)]
  congr 1
  have := Nat.two_pow_add_eq_or_of_lt (i := 8) (b := b.toNat) (by omega) a.toNat
  rw [show (2 : Nat) ^ 8 * a.toNat = a.toNat * 256 by omega] at this
  omega
theorem omap_strs {nz fr : Bool} {k : Nat} {B : List Box} : ∀ L : List (List UInt8), omap (Go.Sy.fz nz fr B (k + 1)) (L.map CV.str) = some (L.map CV.str)
  | [] => rfl
  | x :: xs => by rw [List.map_cons, omap_two, omap_strs xs]; rfl
theorem join_le {t : List UInt8} {k : Nat} : ∀ L : List (List UInt8), (∀ x ∈ L, x.length ≤ k) → (Go.Lib.join L t).length ≤ L.length * (k + t.length)
  | [], _ => by simp [Go.Lib.join_nil]
  | x :: xs, h => by
    rw [Go.Lib.join_cons, List.length_append]
    have h1 := h x (by simp)
    have h2 : (Go.Lib.joinTail t xs).length ≤ xs.length * (k + t.length) := by
      have hx : ∀ y ∈ xs, y.length ≤ k := fun y hy => h y (by simp [hy])
      clear h h1
      induction xs with
      | nil => simp [Go.Lib.joinTail]
      | cons y ys ih =>
        have := ih (fun z hz => hx z (by simp [hz]))
        have h1 := hx y (by simp)
        unfold Go.Lib.joinTail at this ⊢
        rw [List.map_cons, List.flatten_cons, List.length_append, List.length_append, List.length_cons, Nat.succ_mul]
        omega
    rw [List.length_cons, Nat.succ_mul]; omega
theorem hexT_len : ∀ (k n : Nat), n < 16 ^ (k + 1) → (hexT n).length ≤ k + 1
  | 0, n, h => by rw [hexT, dif_pos (by simpa using h)]; simp
  | k + 1, n, h => by
    rw [hexT]
    split
    · simp
    · rw [List.length_append]
      have := hexT_len k (n / 16) (by rw [Nat.pow_succ] at h; omega)
      simp only [List.length_singleton]; omega
theorem fmtAddr_in (six : Bool) (A : List UInt8) (hA : A.length = 16) : PC Tryz.prog true 108 [addrC six A] (.str (fmtA six A)) := by
  have hv : ∀ {B : List Box} {args : List CV}, Is (omap (Go.Sy.fz true false B 6) args) (some [addrC six A]) → ACall Tryz.prog 137 args B fun c B' => c = .bool (okA six A) ∧ B' = B := fun h => cvalid_at h hA
  refine acall_intro mixed Tryz.func108 rfl ca108 (by kernel_rfl) (by rw [Tryz.ntmps108]; simp) ?_
  cases hok : okA six A with
  | false =>
    rw [hok] at hv
    have hf : fmtA six A = [] := by simp [fmtA, hok]
    rw [hf]
    refine w_GG01 @hv ?_ 
    rfl
  | true =>
    rw [hok] at hv
    cases six
    · have hf : fmtA false A = Go.Lib.join (parts4 A 4) [46] := by simp [fmtA, hok]
      rw [hf]
      refine w_GG01 @hv ?_ 
      refine w_loop (fun fr B => ∃ (i : Nat) (oc : CV), i ≤ 4 ∧ fr 36 = .int .i64 i ∧ fr 1 = .ptr 0 0 ∧ fr 3 = oc ∧ B[0]? = some ⟨.bool false :: A.map byteC, false⟩ ∧ ((i = 0 ∧ oc = .nilS) ∨ ∃ β m, β ≠ 0 ∧ oc = .view β 0 i 1 false ∧ B[β]? = some ⟨(parts4 A i).map .str, m⟩)) (fun fr _ => 4 - natOf (fr 36)) ?_ ?_
      · exact ⟨0, .nilS, by omega, kS, kS, kS, kS, .inl ⟨rfl, rfl⟩⟩
      rintro fr B ⟨i, oc, hi, h36, h1, h3, h0, hO⟩
      have x0 := bx_pack h0
      by_cases hc : i < 4
      · have hp := parts4_succ A i
        have hpl : (parts4 A i).length = i := by simp [parts4]
        have hgd : A.getD i 0 = A[i]'(by omega) := by rw [List.getD_eq_getElem?_getD, List.getElem?_eq_getElem (by omega)]; rfl
        have hlt := (A[i]'(by omega)).toNat_lt
        have hit : ∀ {B : List Box} {args : List CV}, Is args [.int .i64 ((A[i]'(by omega)).toNat : Int)] → ACall Tryz.prog 83 args B fun c B' => c = .str (Go.Lib.decDigits (A.getD i 0).toNat) ∧ B' = B := fun {B args} h => by
          have h : _ = _ := h
          subst h
          have := itoa_at (B := B) (n := ((A[i]'(by omega)).toNat : Int)) (by omega)
          rw [Go.Lib.itoa, if_neg (by omega), Int.toNat_natCast] at this
          rw [hgd]
          exact this
        generalize Go.Lib.decDigits (A.getD i 0).toNat = T at *
        clear hgd
        rcases hO with ⟨hi0, rfl⟩ | ⟨β, m, hβ0, rfl, hβ⟩
        · have hp0 : parts4 A i = [] := by rw [hi0]; rfl
          rw [hp0] at hp
          replace hi0 : Hid _ := hi0
          refine w_GG11 @hit ?_ 
          have hi0 : i = 0 := hi0
          refine ⟨⟨i + 1, .view (B.length + 1) 0 1 1 false, by omega, kS, kS, kS, kS, .inr ⟨B.length + 1, false, by omega, by rw [hi0], ?_⟩⟩, kS⟩
          rw [hp]; simp
        · have xb := bx_pack hβ
          have z0 : ∀ y X, (B.set β y ++ X)[0]? = some ⟨.bool false :: A.map byteC, false⟩ := fun y X => by
            rw [List.getElem?_append_left (by rw [List.length_set]; exact (List.getElem?_eq_some_iff.1 h0).1), List.getElem?_set_ne hβ0]; exact h0
          refine w_GG11 @hit ?_ 
          refine ⟨⟨i + 1, .view β 0 (i + 1) 1 false, by omega, kS, kS, kS, kS, .inr ⟨β, true, hβ0, rfl, ?_⟩⟩, kS⟩
          rw [hp, List.map_append]; (simp (disch := omega) [go_sem, *]) <;> (try omega)
      · obtain rfl : i = 4 := by omega
        rcases hO with ⟨hi0, _⟩ | ⟨β, m, hβ0, rfl, hβ⟩
        · omega
        · have hpl : (parts4 A 4).length = 4 := by simp [parts4]
          have hj : ∀ {B : List Box} {args : List CV}, Is (omap (Go.Sy.fz true false B 6) args) (some [.lst 4 ((parts4 A 4).map .str) false, .str [46]]) → ACall Tryz.prog 48 args B fun c B' => c = .str (Go.Lib.join (parts4 A 4) [46]) ∧ B' = B := fun h => join_at h hpl.symm (by omega) (by
            have := join_le (t := [46]) (k := 3) (parts4 A 4) fun x hx => by
              simp only [parts4, List.mem_map, List.mem_range] at hx
              obtain ⟨i, _, rfl⟩ := hx
              have := (A.getD i 0).toNat_lt
              exact decDigits_len 2 _ (by omega)
            rw [hpl] at this
            simp at this
            omega)
          generalize parts4 A 4 = L at *
          have xb := bx_pack hβ
          have htk : (L.map CV.str).take 4 = L.map CV.str := List.take_of_length_le (by simp; omega)
          refine w_GG21 @hj ?_ 
          rfl
    · have hf : fmtA true A = Go.Lib.join (parts6 A 8) [58] := by simp [fmtA, hok]
      rw [hf]
      refine w_GG01 @hv ?_ 
      refine w_loop (fun fr B => ∃ (i : Nat) (oc : CV), i ≤ 8 ∧ fr 11 = .int .i64 i ∧ fr 1 = .ptr 0 0 ∧ fr 3 = oc ∧ B[0]? = some ⟨.bool true :: A.map byteC, false⟩ ∧ ((i = 0 ∧ oc = .nilS) ∨ ∃ β m, β ≠ 0 ∧ oc = .view β 0 i 1 false ∧ B[β]? = some ⟨(parts6 A i).map .str, m⟩)) (fun fr _ => 8 - natOf (fr 11)) ?_ ?_
      · exact ⟨0, .nilS, by omega, kS, kS, kS, kS, .inl ⟨rfl, rfl⟩⟩
      rintro fr B ⟨i, oc, hi, h11, h1, h3, h0, hO⟩
      have x0 := bx_pack h0
      by_cases hc : i < 8
      · have hp := parts6_succ A i
        have hpl : (parts6 A i).length = i := by simp [parts6]
        have hg1 : A.getD (2 * i) 0 = A[2 * i]'(by omega) := by rw [List.getD_eq_getElem?_getD, List.getElem?_eq_getElem (by omega)]; rfl
        have hg2 : A.getD (2 * i + 1) 0 = A[2 * i + 1]'(by omega) := by rw [List.getD_eq_getElem?_getD, List.getElem?_eq_getElem (by omega)]; rfl
        have hgl := grp_lt A i
        have hor : bits .or .i64 (((A[2 * i]'(by omega)).toNat : Int) * 256) ((A[2 * i + 1]'(by omega)).toNat : Int) = (grp A i : Int) := by rw [or_grp, grp, hg1, hg2]
        have hlt1 := (A[2 * i]'(by omega)).toNat_lt
        have hlt2 := (A[2 * i + 1]'(by omega)).toNat_lt
        have hfm : ∀ {B : List Box} {args : List CV}, Is args [.int .i64 (grp A i), .int .i64 16] → ACall Tryz.prog 77 args B fun c B' => c = .str (hexT (grp A i)) ∧ B' = B := fun {B args} h => by
          have h : _ = _ := h
          subst h
          exact fmt16_at hgl
        generalize hexT (grp A i) = T at *
        generalize grp A i = g at *
        clear hg1 hg2
        have h2i : (2 * (i : Int)).toNat = 2 * i := by omega
        have h2i1 : (2 * (i : Int) + 1).toNat = 2 * i + 1 := by omega
        have z1 : ∀ (X : List Box) (h : 0 < (B ++ X).length), (B ++ X)[0]'h = ⟨.bool true :: A.map byteC, false⟩ := fun X h => by
          have := x0.1 X
          rw [List.getElem?_eq_getElem h] at this
          exact Option.some.inj this
        rcases hO with ⟨hi0, rfl⟩ | ⟨β, m, hβ0, rfl, hβ⟩
        · have hp0 : parts6 A i = [] := by rw [hi0]; rfl
          rw [hp0] at hp
          replace hi0 : Hid _ := hi0
          repeat' (first | (with_reducible first | apply jA | apply jB | apply jC | apply jD | apply jE | apply jF | apply jG | apply jH | apply jI | apply jJ | apply jK | apply jL | apply jM | apply jN | apply jO) | ((with_reducible apply jP); rfl) | ((first | ((with_reducible first | apply jR | apply jS | apply jT); rfl; rfl) | (with_reducible first | apply jU | apply jV | apply jW) | ((with_reducible first | apply jX | apply jY | apply jZ); rfl)); all_goals (first | ((with_reducible show Is _ _); exact kE) | ((with_reducible refine fun (hc : (_ : Bool) = _) => ?_); (try simp only [xZ, xY, xP, reduceCtorEq] at hc); (try (have hx : True := hc; clear hx hc)); (try exact kX)) | ((fail_if_success (with_reducible first | show Is _ _ | show ACall _ _ _ _ _)); (try ((with_reducible show _ ∨ _); exact kT))))))
          refine w_drawH [17] [⟨[.str T], false⟩] rfl rfl ?_
          repeat' (first | (with_reducible first | apply jA | apply jB | apply jC | apply jD | apply jE | apply jF | apply jG | apply jH | apply jI | apply jJ | apply jK | apply jL | apply jM | apply jN | apply jO) | ((with_reducible apply jP); rfl) | ((first | ((with_reducible first | apply d_made | apply q_made); rfl; rfl)); (iterate 6 exact kE_GG1)) | ((first | ((with_reducible first | apply d_fop | apply q_fop); rfl; rfl)); (intro Bx hJ; (first | (obtain ⟨_, hJ1, hJ2⟩ := hJ) | (try simp only at hJ)); exact kE_GG1)) | ((with_reducible first | apply d_free | apply q_free); rfl; (iterate 2 exact kE_GG1); (intro Bx hJ); (first | ((with_reducible apply hfm) <;> exact kD_GG1))) | ((first | ((with_reducible first | apply jR | apply jS | apply jT); rfl; rfl) | (with_reducible first | apply jU | apply jV | apply jW) | ((with_reducible first | apply jX | apply jY | apply jZ); rfl) | ((with_reducible first | apply kA | apply kB | apply kC); rfl)); all_goals (first | ((with_reducible show Is _ _); exact kE_GG1) | ((with_reducible refine fun (hc : (_ : Bool) = _) => ?_); (try simp only [xZ, xY, xP, reduceCtorEq] at hc); (try (have hx : True := hc; clear hx hc)); (try exact kX)) | ((with_reducible show ACall _ _ _ _ _); (first | ((with_reducible apply hfm) <;> exact kD_GG1))) | ((fail_if_success (with_reducible first | show Is _ _ | show ACall _ _ _ _ _)); (try ((with_reducible show _ ∨ _); first | exact .inl rfl | (refine .inr ⟨rfl, ?_, ?_⟩; (focus (repeat (first | exact trivial | refine ⟨.inl rfl, ?_⟩ | refine ⟨.inr rfl, ?_⟩ | refine ⟨.inr (by (simp (disch := first | omega | (simp only [yZ, yB] <;> omega) | fail) [go_sem, yY, *, cons_get1, cons_take1, cons_drop1, -List.map_take, -List.map_drop, -List.map_append, -List.map_reverse])), ?_⟩))); (first | exact trivial | exact rfl | (refine ⟨_, ?_, ?_⟩; (focus (simp (disch := first | omega | (simp only [yZ, yB] <;> omega) | fail) [go_sem, yY, *, cons_get1, cons_take1, cons_drop1, -List.map_take, -List.map_drop, -List.map_append, -List.map_reverse]; (try exact rfl))); (simp (disch := first | omega | (simp only [yZ, yB] <;> omega) | fail) [go_sem, yY, *, cons_get1, cons_take1, cons_drop1, -List.map_take, -List.map_drop, -List.map_append, -List.map_reverse])) | (simp (disch := first | omega | (simp only [yZ, yB] <;> omega) | fail) [go_sem, yY, *, cons_get1, cons_take1, cons_drop1, -List.map_take, -List.map_drop, -List.map_append, -List.map_reverse]))) | exact .inl (by (simp (disch := first | omega | (simp only [yZ, yB] <;> omega) | fail) [go_sem, yY, *, cons_get1, cons_take1, cons_drop1, -List.map_take, -List.map_drop, -List.map_append, -List.map_reverse]))))))))
          have hi0 : i = 0 := hi0
          refine ⟨⟨i + 1, .view (B.length + 1) 0 1 1 false, by omega, kS, kS, kS, kS, .inr ⟨B.length + 1, false, by omega, by rw [hi0], ?_⟩⟩, kS⟩
          rw [hp]; simp
        · have xb := bx_pack hβ
          have z0 : ∀ y X, (B.set β y ++ X)[0]? = some ⟨.bool true :: A.map byteC, false⟩ := fun y X => by
            rw [List.getElem?_append_left (by rw [List.length_set]; exact (List.getElem?_eq_some_iff.1 h0).1), List.getElem?_set_ne hβ0]; exact h0
          repeat' (first | (with_reducible first | apply jA | apply jB | apply jC | apply jD | apply jE | apply jF | apply jG | apply jH | apply jI | apply jJ | apply jK | apply jL | apply jM | apply jN | apply jO) | ((with_reducible apply jP); rfl) | ((first | ((with_reducible first | apply jR | apply jS | apply jT); rfl; rfl) | (with_reducible first | apply jU | apply jV | apply jW) | ((with_reducible first | apply jX | apply jY | apply jZ); rfl)); all_goals (first | ((with_reducible show Is _ _); exact kE) | ((with_reducible refine fun (hc : (_ : Bool) = _) => ?_); (try simp only [xZ, xY, xP, reduceCtorEq] at hc); (try (have hx : True := hc; clear hx hc)); (try exact kX)) | ((fail_if_success (with_reducible first | show Is _ _ | show ACall _ _ _ _ _)); (try ((with_reducible show _ ∨ _); exact kT))))))
          refine w_drawH [17] [⟨[.str T], false⟩] rfl rfl ?_
          repeat' (first | (with_reducible first | apply jA | apply jB | apply jC | apply jD | apply jE | apply jF | apply jG | apply jH | apply jI | apply jJ | apply jK | apply jL | apply jM | apply jN | apply jO) | ((with_reducible apply jP); rfl) | ((first | ((with_reducible first | apply d_made | apply q_made); rfl; rfl)); (iterate 6 exact kE_GG1)) | ((first | ((with_reducible first | apply d_fop | apply q_fop); rfl; rfl)); (intro Bx hJ; (first | (obtain ⟨_, hJ1, hJ2⟩ := hJ) | (try simp only at hJ)); exact kE_GG1)) | ((with_reducible first | apply d_free | apply q_free); rfl; (iterate 2 exact kE_GG1); (intro Bx hJ); (first | ((with_reducible apply hfm) <;> exact kD_GG1))) | ((first | ((with_reducible first | apply jR | apply jS | apply jT); rfl; rfl) | (with_reducible first | apply jU | apply jV | apply jW) | ((with_reducible first | apply jX | apply jY | apply jZ); rfl) | ((with_reducible first | apply kA | apply kB | apply kC); rfl)); all_goals (first | ((with_reducible show Is _ _); exact kE_GG1) | ((with_reducible refine fun (hc : (_ : Bool) = _) => ?_); (try simp only [xZ, xY, xP, reduceCtorEq] at hc); (try (have hx : True := hc; clear hx hc)); (try exact kX)) | ((with_reducible show ACall _ _ _ _ _); (first | ((with_reducible apply hfm) <;> exact kD_GG1))) | ((fail_if_success (with_reducible first | show Is _ _ | show ACall _ _ _ _ _)); (try ((with_reducible show _ ∨ _); first | exact .inl rfl | (refine .inr ⟨rfl, ?_, ?_⟩; (focus (repeat (first | exact trivial | refine ⟨.inl rfl, ?_⟩ | refine ⟨.inr rfl, ?_⟩ | refine ⟨.inr (by (simp (disch := first | omega | (simp only [yZ, yB] <;> omega) | fail) [go_sem, yY, *, cons_get1, cons_take1, cons_drop1, -List.map_take, -List.map_drop, -List.map_append, -List.map_reverse])), ?_⟩))); (first | exact trivial | exact rfl | (refine ⟨_, ?_, ?_⟩; (focus (simp (disch := first | omega | (simp only [yZ, yB] <;> omega) | fail) [go_sem, yY, *, cons_get1, cons_take1, cons_drop1, -List.map_take, -List.map_drop, -List.map_append, -List.map_reverse]; (try exact rfl))); (simp (disch := first | omega | (simp only [yZ, yB] <;> omega) | fail) [go_sem, yY, *, cons_get1, cons_take1, cons_drop1, -List.map_take, -List.map_drop, -List.map_append, -List.map_reverse])) | (simp (disch := first | omega | (simp only [yZ, yB] <;> omega) | fail) [go_sem, yY, *, cons_get1, cons_take1, cons_drop1, -List.map_take, -List.map_drop, -List.map_append, -List.map_reverse]))) | exact .inl (by (simp (disch := first | omega | (simp only [yZ, yB] <;> omega) | fail) [go_sem, yY, *, cons_get1, cons_take1, cons_drop1, -List.map_take, -List.map_drop, -List.map_append, -List.map_reverse]))))))))
          refine ⟨⟨i + 1, .view β 0 (i + 1) 1 false, by omega, kS, kS, kS, kS, .inr ⟨β, true, hβ0, rfl, ?_⟩⟩, kS⟩
          rw [hp, List.map_append]; (simp (disch := omega) [go_sem, *]) <;> (try omega)
      · obtain rfl : i = 8 := by omega
        rcases hO with ⟨hi0, _⟩ | ⟨β, m, hβ0, rfl, hβ⟩
        · omega
        · have hpl : (parts6 A 8).length = 8 := by simp [parts6]
          have hj : ∀ {B : List Box} {args : List CV}, Is (omap (Go.Sy.fz true false B 6) args) (some [.lst 8 ((parts6 A 8).map .str) false, .str [58]]) → ACall Tryz.prog 48 args B fun c B' => c = .str (Go.Lib.join (parts6 A 8) [58]) ∧ B' = B := fun h => join_at h hpl.symm (by omega) (by
            have := join_le (t := [58]) (k := 4) (parts6 A 8) fun x hx => by
              simp only [parts6, List.mem_map, List.mem_range] at hx
              obtain ⟨i, _, rfl⟩ := hx
              exact hexT_len 3 _ (grp_lt A i)
            rw [hpl] at this
            simp at this
            omega)
          generalize parts6 A 8 = L at *
          have xb := bx_pack hβ
          have htk : (L.map CV.str).take 8 = L.map CV.str := List.take_of_length_le (by simp; omega)
          refine w_GG21 @hj ?_ 
          rfl
theorem fmtAddr_at {B : List Box} {args : List CV} {six : Bool} {A : List UInt8} (hz : Is (omap (Go.Sy.fz true false B 6) args) (some [addrC six A])) (hA : A.length = 16) : ACall Tryz.prog 108 args B fun c B' => c = .str (fmtA six A) ∧ B' = B := acall_fresh hz (fmtAddr_in six A hA)
end Go.Proofs.YtcbdghgogmcllaaGreatDoor
end
section
namespace Go.Proofs.YtcbdghgogmcllaaGreatDoor
open Go Go.Sy
theorem kE_GH0 {α : Type} {x y : α} (h : Is x y := by first | ((try simp (disch := first | omega | (simp only [yZ, yB] <;> omega) | fail) [go_sem, yY, *, addrC, if_pos, if_neg, -List.map_take, -List.map_drop, -List.map_append, -List.map_reverse]); exact rfl) | fail) : Is x y := h
theorem kD_GH0 {p : Prop} (h : p := by (first | omega | assumption | exact rfl | ((simp (disch := first | omega | (simp only [yZ, yB] <;> omega) | fail) [go_sem, yY, *, addrC, -List.map_take, -List.map_drop, -List.map_append, -List.map_reverse]) <;> (first | done | omega | exact rfl)) | fail)) : p := h
theorem kE_GH1 {α : Type} {x y : α} (h : Is x y := by first | ((try simp (disch := first | omega | (simp only [yZ, yB] <;> omega) | fail) [go_sem, yY, *, cons_get1, cons_take1, cons_drop1, if_pos, if_neg, -List.map_take, -List.map_drop, -List.map_append, -List.map_reverse]); exact rfl) | fail) : Is x y := h
theorem kD_GH1 {p : Prop} (h : p := by (first | omega | assumption | exact rfl | ((simp (disch := first | omega | (simp only [yZ, yB] <;> omega) | fail) [go_sem, yY, *, cons_get1, cons_take1, cons_drop1, -List.map_take, -List.map_drop, -List.map_append, -List.map_reverse]) <;> (first | done | omega | exact rfl)) | fail)) : p := h
theorem wB_GH0 {p q : Prop} (k : q) (h : Hq q → p := by (intro k; (repeat' (first | (with_reducible first | apply jA | apply jB | apply jC | apply jD | apply jE | apply jF | apply jG | apply jH | apply jI | apply jJ | apply jK | apply jL | apply jM | apply jN | apply jO) | ((with_reducible first | apply jP | apply jQ); rfl) | ((first | ((with_reducible first | apply jR | apply jS | apply jT); rfl; rfl) | (with_reducible first | apply jU | apply jV | apply jW) | ((with_reducible first | apply jX | apply jY | apply jZ); rfl) | ((with_reducible first | apply kA | apply kB | apply kC); rfl)); all_goals (first | ((with_reducible show Is _ _); exact kE_GH0) | ((with_reducible refine fun (hc : (_ : Bool) = _) => ?_); (try simp only [xZ, xY, xP, reduceCtorEq] at hc); (try (have hx : True := hc; clear hx hc)); (try exact kX)) | ((with_reducible show ACall _ _ _ _ _); (first | ((with_reducible apply c0) <;> exact kD_GH0) | ((with_reducible apply c1) <;> exact kD_GH0) | ((with_reducible apply c2) <;> exact kD_GH0) | ((with_reducible apply c3) <;> exact kD_GH0) | ((with_reducible apply c4) <;> exact kD_GH0) | ((with_reducible apply c5) <;> exact kD_GH0) | ((with_reducible apply c6) <;> exact kD_GH0) | ((with_reducible apply c7) <;> exact kD_GH0))) | ((fail_if_success (with_reducible first | show Is _ _ | show ACall _ _ _ _ _)); (try ((with_reducible show _ ∨ _); exact kT))))) | (((with_reducible first | apply o_callQ | apply q_callQ); rfl); (iterate 2 exact kE_GH0); (first | ((with_reducible apply q0) <;> exact kD_GH0))))); exact hq k)) : p := h ⟨k⟩
theorem wB_GH1 {p q : Prop} (k : q) (h : Hq q → p := by (intro k; (repeat' (first | (with_reducible first | apply jA | apply jB | apply jC | apply jD | apply jE | apply jF | apply jG | apply jH | apply jI | apply jJ | apply jK | apply jL | apply jM | apply jN | apply jO) | ((with_reducible first | apply jP | apply jQ); rfl) | ((first | ((with_reducible first | apply jR | apply jS | apply jT); rfl; rfl) | (with_reducible first | apply jU | apply jV | apply jW) | ((with_reducible first | apply jX | apply jY | apply jZ); rfl) | ((with_reducible first | apply kA | apply kB | apply kC); rfl)); all_goals (first | ((with_reducible show Is _ _); exact kE_GH1) | ((with_reducible refine fun (hc : (_ : Bool) = _) => ?_); (try simp only [xZ, xY, xP, reduceCtorEq] at hc); (try (have hx : True := hc; clear hx hc)); (try exact kX)) | ((with_reducible show ACall _ _ _ _ _); (first | ((with_reducible apply c0) <;> exact kD_GH1) | ((with_reducible apply c1) <;> exact kD_GH1) | ((with_reducible apply c2) <;> exact kD_GH1) | ((with_reducible apply c3) <;> exact kD_GH1) | ((with_reducible apply c4) <;> exact kD_GH1) | ((with_reducible apply c5) <;> exact kD_GH1) | ((with_reducible apply c6) <;> exact kD_GH1) | ((with_reducible apply c7) <;> exact kD_GH1))) | ((fail_if_success (with_reducible first | show Is _ _ | show ACall _ _ _ _ _)); (try ((with_reducible show _ ∨ _); exact kT))))) | (((with_reducible first | apply o_callQ | apply q_callQ); rfl); (iterate 2 exact kE_GH1); (first | ((with_reducible apply q0) <;> exact kD_GH1))))); exact hq k)) : p := h ⟨k⟩
theorem w_GH01 {A0 p q : Prop} (c0 : A0) (k : q) (h : A0 → Hq q → p := by (intro c0 k; exact wB_GH0 (hq k))) : p := h c0 ⟨k⟩
theorem w_GH11 {A0 p q : Prop} (c0 : A0) (k : q) (h : A0 → Hq q → p := by (intro c0 k; exact wB_GH1 (hq k))) : p := h c0 ⟨k⟩
theorem joinTail_snoc (t : List UInt8) (L : List (List UInt8)) (x : List UInt8) : Go.Lib.joinTail t (L ++ [x]) = Go.Lib.joinTail t L ++ (t ++ x) := by simp [Go.Lib.joinTail]
theorem joinTail_drop (c : UInt8) (L : List (List UInt8)) : (Go.Lib.joinTail [c] L).drop 1 = Go.Lib.join L [c] := by
  cases L with
  | nil => rfl
  | cons x xs => rw [Go.Lib.join_cons]; simp [Go.Lib.joinTail]
theorem joinTail_le {t : List UInt8} {k : Nat} : ∀ L : List (List UInt8), (∀ x ∈ L, x.length ≤ k) → (Go.Lib.joinTail t L).length ≤ L.length * (k + t.length)
  | [], _ => by simp [Go.Lib.joinTail]
  | y :: ys, h => by
    have := joinTail_le (t := t) ys (fun z hz => h z (by simp [hz]))
    have h1 := h y (by simp)
    unfold Go.Lib.joinTail at this ⊢
    rw [List.map_cons, List.flatten_cons, List.length_append, List.length_append, List.length_cons, Nat.succ_mul]
    omega
theorem parts4_le (A : List UInt8) (n : Nat) : (Go.Lib.joinTail [46] (parts4 A n)).length ≤ n * 4 := by
  have := joinTail_le (t := [46]) (k := 3) (parts4 A n) fun x hx => by
    simp only [parts4, List.mem_map, List.mem_range] at hx
    obtain ⟨i, _, rfl⟩ := hx
    have := (A.getD i 0).toNat_lt
    exact decDigits_len 2 _ (by omega)
  simpa [parts4] using this
theorem parts6_le (A : List UInt8) (n : Nat) : (Go.Lib.joinTail [58] (parts6 A n)).length ≤ n * 5 := by
  have := joinTail_le (t := [58]) (k := 4) (parts6 A n) fun x hx => by
    simp only [parts6, List.mem_map, List.mem_range] at hx
    obtain ⟨i, _, rfl⟩ := hx
    exact hexT_len 3 _ (grp_lt A i)
  simpa [parts6] using this
theorem rfmtAddr_in (six : Bool) (A : List UInt8) (hA : A.length = 16) : PC Tryz.prog true 93 [addrC six A] (.str (fmtA six A)) := by
  have hv : ∀ {B : List Box} {args : List CV}, Is (omap (Go.Sy.fz true false B 6) args) (some [addrC six A]) → ACall Tryz.prog 123 args B fun c B' => c = .bool (okA six A) ∧ B' = B := fun h => sound_at h hA
  refine acall_intro mixed Tryz.func93 rfl ca93 (by kernel_rfl) (by rw [Tryz.ntmps93]; simp) ?_
  cases hok : okA six A with
  | false =>
    rw [hok] at hv
    have hf : fmtA six A = [] := by simp [fmtA, hok]
    rw [hf]
    refine w_GH01 @hv ?_ 
    rfl
  | true =>
    rw [hok] at hv
    cases six
    · have hf : fmtA false A = (Go.Lib.joinTail [46] (parts4 A 4)).drop 1 := by rw [joinTail_drop]; simp [fmtA, hok]
      rw [hf]
      refine w_GH01 @hv ?_ 
      refine w_loop (fun fr B => ∃ i : Nat, i ≤ 4 ∧ fr 4 = .int .i64 i ∧ fr 1 = .ptr 0 0 ∧ fr 3 = .str (Go.Lib.joinTail [46] (parts4 A i)) ∧ B = [⟨.bool false :: A.map byteC, false⟩]) (fun fr _ => 4 - natOf (fr 4)) ?_ ?_
      · exact ⟨0, by omega, kS, kS, by (simp (disch := omega) [go_sem, *, parts4, Go.Lib.joinTail]) <;> (try omega), rfl⟩
      rintro fr B ⟨i, hi, h4, h1, h3, rfl⟩
      have hle := parts4_le A i
      by_cases hc : i < 4
      · have hp := joinTail_snoc [46] (parts4 A i) (Go.Lib.decDigits (A.getD i 0).toNat)
        rw [← parts4_succ] at hp
        have hgd : A.getD i 0 = A[i]'(by omega) := by rw [List.getD_eq_getElem?_getD, List.getElem?_eq_getElem (by omega)]; rfl
        have hlt := (A[i]'(by omega)).toNat_lt
        have hit : ∀ {B : List Box} {args : List CV}, Is args [.int .i64 ((A[i]'(by omega)).toNat : Int)] → ACall Tryz.prog 29 args B fun c B' => c = .str (Go.Lib.decDigits (A.getD i 0).toNat) ∧ B' = B := fun {B args} h => by
          have h : _ = _ := h
          subst h
          rw [hgd]
          exact rdec_at _ (by omega)
        have hdl := decDigits_len 2 (A.getD i 0).toNat (by rw [hgd]; omega)
        generalize Go.Lib.decDigits (A.getD i 0).toNat = T at *
        generalize Go.Lib.joinTail [46] (parts4 A i) = J at *
        clear hgd
        refine w_GH11 @hit ?_ 
        exact ⟨⟨i + 1, by omega, kS, kS, by rw [hp] <;> (simp (disch := omega) [go_sem, *]) <;> (try omega), rfl⟩, kS⟩
      · obtain rfl : i = 4 := by omega
        have h1l : 1 ≤ (Go.Lib.joinTail [46] (parts4 A 4)).length := by simp [parts4, Go.Lib.joinTail, List.range_succ]
        generalize Go.Lib.joinTail [46] (parts4 A 4) = J at *
        refine w0 ?_ 
        rw [show List.take (J.length - 1) J.tail = List.drop 1 J from by rw [List.drop_one]; exact List.take_of_length_le (by simp)]
        rfl
    · have hf : fmtA true A = (Go.Lib.joinTail [58] (parts6 A 8)).drop 1 := by rw [joinTail_drop]; simp [fmtA, hok]
      rw [hf]
      refine w_GH01 @hv ?_ 
      refine w_loop (fun fr B => ∃ i : Nat, i ≤ 8 ∧ fr 5 = .int .i64 i ∧ fr 1 = .ptr 0 0 ∧ fr 3 = .str (Go.Lib.joinTail [58] (parts6 A i)) ∧ B = [⟨.bool true :: A.map byteC, false⟩]) (fun fr _ => 8 - natOf (fr 5)) ?_ ?_
      · exact ⟨0, by omega, kS, kS, by (simp (disch := omega) [go_sem, *, parts6, Go.Lib.joinTail]) <;> (try omega), rfl⟩
      rintro fr B ⟨i, hi, h5, h1, h3, rfl⟩
      have hle := parts6_le A i
      by_cases hc : i < 8
      · have hp := joinTail_snoc [58] (parts6 A i) (hexT (grp A i))
        rw [← parts6_succ] at hp
        have hg1 : A.getD (2 * i) 0 = A[2 * i]'(by omega) := by rw [List.getD_eq_getElem?_getD, List.getElem?_eq_getElem (by omega)]; rfl
        have hg2 : A.getD (2 * i + 1) 0 = A[2 * i + 1]'(by omega) := by rw [List.getD_eq_getElem?_getD, List.getElem?_eq_getElem (by omega)]; rfl
        have hgl := grp_lt A i
        have hor : ((A[2 * i]'(by omega)).toNat : Int) * 256 + ((A[2 * i + 1]'(by omega)).toNat : Int) = (grp A i : Int) := by rw [grp, hg1, hg2]; push_cast; rfl
        have hlt1 := (A[2 * i]'(by omega)).toNat_lt
        have hlt2 := (A[2 * i + 1]'(by omega)).toNat_lt
        have hfm : ∀ {B : List Box} {args : List CV}, Is args [.int .i64 (grp A i)] → ACall Tryz.prog 124 args B fun c B' => c = .str (hexT (grp A i)) ∧ B' = B := fun {B args} h => by
          have h : _ = _ := h
          subst h
          exact group_at rfl hgl
        have hdl := hexT_len 3 (grp A i) hgl
        have h2i : (2 * (i : Int)).toNat = 2 * i := by omega
        have h2i1 : (2 * (i : Int) + 1).toNat = 2 * i + 1 := by omega
        generalize hexT (grp A i) = T at *
        generalize grp A i = g at *
        generalize Go.Lib.joinTail [58] (parts6 A i) = J at *
        clear hg1 hg2
        refine w_GH11 @hfm ?_ 
        exact ⟨⟨i + 1, by omega, kS, kS, by rw [hp] <;> (simp (disch := omega) [go_sem, *]) <;> (try omega), rfl⟩, kS⟩
      · obtain rfl : i = 8 := by omega
        have h1l : 1 ≤ (Go.Lib.joinTail [58] (parts6 A 8)).length := by simp [parts6, Go.Lib.joinTail, List.range_succ]
        generalize Go.Lib.joinTail [58] (parts6 A 8) = J at *
        refine w0 ?_ 
        rw [show List.take (J.length - 1) J.tail = List.drop 1 J from by rw [List.drop_one]; exact List.take_of_length_le (by simp)]
        rfl
theorem rfmtAddr_at {B : List Box} {args : List CV} {six : Bool} {A : List UInt8} (hz : Is (omap (Go.Sy.fz true false B 6) args) (some [addrC six A])) (hA : A.length = 16) : ACall Tryz.prog 93 args B fun c B' => c = .str (fmtA six A) ∧ B' = B := acall_fresh hz (rfmtAddr_in six A hA)
end Go.Proofs.YtcbdghgogmcllaaGreatDoor
end
section
namespace Go.Proofs.YtcbdghgogmcllaaGreatDoor
open Go Go.Sy
theorem kE_GI0 {α : Type} {x y : α} (h : Is x y := by first | ((try simp (disch := first | omega | (simp only [yZ, yB] <;> omega) | fail) [go_sem, yY, *, cons_get1, cons_take1, cons_drop1, if_pos, if_neg, -List.map_take, -List.map_drop, -List.map_append, -List.map_reverse]); exact rfl) | fail) : Is x y := h
theorem kD_GI0 {p : Prop} (h : p := by (first | omega | assumption | exact rfl | ((simp (disch := first | omega | (simp only [yZ, yB] <;> omega) | fail) [go_sem, yY, *, cons_get1, cons_take1, cons_drop1, -List.map_take, -List.map_drop, -List.map_append, -List.map_reverse]) <;> (first | done | omega | exact rfl)) | fail)) : p := h
theorem wB_GI0 {p q : Prop} (k : q) (h : Hq q → p := by (intro k; (repeat' (first | (with_reducible first | apply jA | apply jB | apply jC | apply jD | apply jE | apply jF | apply jG | apply jH | apply jI | apply jJ | apply jK | apply jL | apply jM | apply jN | apply jO) | ((with_reducible first | apply jP | apply jQ); rfl) | ((first | ((with_reducible first | apply jR | apply jS | apply jT); rfl; rfl) | (with_reducible first | apply jU | apply jV | apply jW) | ((with_reducible first | apply jX | apply jY | apply jZ); rfl) | ((with_reducible first | apply kA | apply kB | apply kC); rfl)); all_goals (first | ((with_reducible show Is _ _); exact kE_GI0) | ((with_reducible refine fun (hc : (_ : Bool) = _) => ?_); (try simp only [xZ, xY, xP, reduceCtorEq] at hc); (try (have hx : True := hc; clear hx hc)); (try exact kX)) | ((with_reducible show ACall _ _ _ _ _); (first | ((with_reducible apply c0) <;> exact kD_GI0) | ((with_reducible apply c1) <;> exact kD_GI0) | ((with_reducible apply c2) <;> exact kD_GI0) | ((with_reducible apply c3) <;> exact kD_GI0) | ((with_reducible apply c4) <;> exact kD_GI0) | ((with_reducible apply c5) <;> exact kD_GI0) | ((with_reducible apply c6) <;> exact kD_GI0) | ((with_reducible apply c7) <;> exact kD_GI0))) | ((fail_if_success (with_reducible first | show Is _ _ | show ACall _ _ _ _ _)); (try ((with_reducible show _ ∨ _); exact kT))))) | (((with_reducible first | apply o_callQ | apply q_callQ); rfl); (iterate 2 exact kE_GI0); (first | ((with_reducible apply q0) <;> exact kD_GI0))))); exact hq k)) : p := h ⟨k⟩
theorem w_GI00 {p q : Prop}  (k : q) (h : Hq q → p := by (intro  k; exact wB_GI0 (hq k))) : p := h  ⟨k⟩
theorem w_GI01 {A0 p q : Prop} (c0 : A0) (k : q) (h : A0 → Hq q → p := by (intro c0 k; exact wB_GI0 (hq k))) : p := h c0 ⟨k⟩
def oct (x : List UInt8) : Bool := decOk 3 x && decide (decV x ≤ 255)
theorem foldl_ge : ∀ (l : List UInt8) (n : Nat), n * 10 ^ l.length ≤ l.foldl (fun n c => 10 * n + (c.toNat - 48)) n
  | [], n => by simp
  | c :: l, n => by
    have := foldl_ge l (10 * n + (c.toNat - 48))
    rw [List.foldl_cons, List.length_cons, Nat.pow_succ]
    refine Nat.le_trans ?_ this
    have h : n * (10 ^ l.length * 10) = (10 * n) * 10 ^ l.length := by rw [Nat.mul_comm (10 ^ l.length), ← Nat.mul_assoc, Nat.mul_comm n]
    rw [h]
    exact Nat.mul_le_mul_right _ (by omega)
theorem oct_eq (x : List UInt8) : (decOk 10 x && decide ((decR 10 x : Int) ≤ 255)) = oct x := by
  by_cases h : x.length ≤ 3
  · have e : decOk 10 x = decOk 3 x := by
      have h10 : x.length ≤ 10 := by omega
      simp [decOk, headOk, h, h10]
    rw [oct, ← e]
    cases hd : decOk 10 x with
    | false => simp
    | true => simp [decR, hd]; omega
  · have e3 : decOk 3 x = false := by simp [decOk, headOk, h]
    rw [oct, e3, Bool.false_and, Bool.and_eq_false_iff]
    cases hd : decOk 10 x with
    | false => exact .inl rfl
    | true =>
      right
      rw [decR, if_pos hd]
      cases x with
      | nil => simp at h
      | cons c x =>
        simp only [decOk, Bool.and_eq_true, List.all_cons] at hd
        have hc : 48 ≤ c.toNat ∧ c.toNat ≤ 57 := by simpa [isDig] using hd.2.1
        have hne : c ≠ 48 := by
          intro hc48
          have := hd.1
          simp [headOk, hc48] at this
          have hl : 1 < (c :: x).length := by simp; simp at h; omega
          simp at h
          have := this.2
          subst this
          simp at h
        have hc1 : 49 ≤ c.toNat := by
          rcases Nat.lt_or_ge c.toNat 49 with h1 | h1
          · exact absurd (UInt8.toNat_inj.1 (by show c.toNat = 48; omega)) hne
          · exact h1
        have hge := foldl_ge x (10 * 0 + (c.toNat - 48))
        have hp : 10 ^ 3 ≤ 10 ^ x.length := Nat.pow_le_pow_right (by decide) (by simp at h; omega)
        have : 1 * 10 ^ x.length ≤ (10 * 0 + (c.toNat - 48)) * 10 ^ x.length := Nat.mul_le_mul_right _ (by omega)
        have hv : decV (c :: x) = x.foldl (fun n c => 10 * n + (c.toNat - 48)) (10 * 0 + (c.toNat - 48)) := rfl
        rw [hv]
        simp only [decide_eq_false_iff_not]
        omega
def a4 (L : List (List UInt8)) (j : Nat) : List UInt8 := (L.take j).map (fun x => UInt8.ofNat (decV x)) ++ List.replicate (16 - j) 0
def p4 (L : List (List UInt8)) : Option (Bool × List UInt8) := if L.all oct then some (false, a4 L 4) else none
def rA (o : Option (Bool × List UInt8)) : CV := match o with | some (six, A) => .tup [addrC six A, .int .i64 0] | none => .tup [addrC false z16, .int .i64 5]
theorem a4_set {L : List (List UInt8)} {j : Nat} (hL : L.length = 4) (hj : j < 4) : (a4 L j).set j (UInt8.ofNat (decV (L[j]'(by omega)))) = a4 L (j + 1) := by
  have e : 16 - j = (16 - (j + 1)) + 1 := by omega
  have hl : ((L.take j).map fun x => UInt8.ofNat (decV x)).length = j := by rw [List.length_map, List.length_take]; omega
  rw [a4, a4, List.set_append_right _ _ (by omega), hl, Nat.sub_self, e, List.replicate_succ, List.set_cons_zero, List.take_succ_eq_append_getElem (by omega), List.map_append, List.append_assoc]
  rfl
theorem a4_len {L : List (List UInt8)} {j : Nat} (hL : L.length = 4) (hj : j ≤ 4) : (a4 L j).length = 16 := by simp [a4, hL]; omega
theorem rfour_in (L : List (List UInt8)) (hL : L.length = 4) (hs : ∀ x ∈ L, x.length < 1000000000) : PC Tryz.prog true 126 [.lst 4 (L.map .str) false] (rA (p4 L)) := by
  refine acall_intro mixed Tryz.func126 rfl ca126 (by kernel_rfl) (by rw [Tryz.ntmps126]; simp) ?_
  refine w0 ?_ 
  refine w_loop (fun fr B => ∃ j : Nat, j ≤ 4 ∧ (L.take j).all oct = true ∧ fr 11 = .int .i64 j ∧ fr 10 = .int .i64 4 ∧ fr 9 = .lst 4 (L.map .str) false ∧ fr 4 = .ptr 1 0 ∧ fr 2 = .ptr 0 0 ∧ fr 3 = .int .i64 0 ∧ B = [⟨.bool false :: z16.map byteC, false⟩, ⟨.bool false :: (a4 L j).map byteC, false⟩]) (fun fr _ => 4 - natOf (fr 11)) ?_ ?_
  · exact ⟨0, by omega, rfl, kS, kS, kS, kS, kS, kS, rfl⟩
  rintro fr B ⟨j, hj, hall, h11, h10, h9, h4, h2, h3, rfl⟩
  have hal := a4_len hL hj
  by_cases hc : j < 4
  · have hset := a4_set hL hc
    have hx : (L.map CV.str).drop j = .str (L[j]'(by omega)) :: (L.map CV.str).drop (j + 1) := by
      rw [List.drop_eq_getElem_cons (by simp; omega)]; simp
    have hxl := hs (L[j]'(by omega)) (List.getElem_mem _)
    have hnall : (L.take (j + 1)).all oct = oct (L[j]'(by omega)) := by rw [List.take_succ_eq_append_getElem (by omega), List.all_append, hall]; simp
    have hno : oct (L[j]'(by omega)) = false → p4 L = none := fun h => by
      have : L.all oct = false := by
        rw [List.all_eq_false]
        exact ⟨_, List.getElem_mem (show j < L.length by omega), by simp [h]⟩
      simp [p4, this]
    have hnum : ∀ {B : List Box} {args : List CV}, Is args [.str (L[j]'(by omega)), .int .i64 3] → ACall Tryz.prog 97 args B fun c B' => c = .tup [.int .i64 (decR 3 (L[j]'(by omega))), .bool (decOk 3 (L[j]'(by omega)))] ∧ B' = B := fun {B args} h => by
      have h : _ = _ := h
      subst h
      exact rnumber_at (m := 3) rfl (by decide) (by omega)
    generalize (L[j]'(by omega)) = x at *
    cases ho : oct x with
    | false =>
      rw [hno ho]
      clear hset hno hnall
      have hb : decOk 3 x = false ∨ (decOk 3 x = true ∧ ¬ (decR 3 x : Int) ≤ 255) := by
        cases hd : decOk 3 x with
        | false => exact .inl rfl
        | true => exact .inr ⟨rfl, by simp [oct, hd] at ho; simp [decR, hd]; omega⟩
      clear ho
      rcases hb with hb | ⟨hb, hb2⟩
      · rw [hb] at hnum
        refine w_GI01 @hnum ?_ 
        rfl
      · rw [hb] at hnum
        have hb3 : (255 : Int) < decR 3 x := by omega
        clear hb2
        generalize decR 3 x = v at *
        refine w_GI01 @hnum ?_ 
        rfl
    | true =>
      have hb : decOk 3 x = true ∧ decV x ≤ 255 := by simpa [oct] using ho
      have hv : decR 3 x = decV x := by rw [decR, if_pos hb.1]
      rw [hb.1, hv] at hnum
      rw [ho] at hnall
      have hb2 := hb.2
      have hby := byte_nat (decV x) (by omega)
      clear hb hv ho hno
      generalize decV x = v at *
      generalize UInt8.ofNat v = y at *
      refine w_GI01 @hnum ?_ 
      refine ⟨⟨j + 1, by omega, hnall, kS, kS, kS, kS, kS, kS, ?_⟩, kS⟩
      rw [← hset, List.set_eq_take_append_cons_drop, if_pos (by omega), List.map_append, List.map_cons, hby, Nat.add_comm 1 j]
  · obtain rfl : j = 4 := by omega
    have hp : p4 L = some (false, a4 L 4) := by rw [List.take_of_length_le (by omega)] at hall; simp [p4, hall]
    rw [hp]
    refine w0 ?_ 
    (simp (disch := omega) [go_sem, *, rA, addrC]) <;> (try omega)
def a6 (L : List (List UInt8)) (j : Nat) : List UInt8 := (L.take j).flatMap (fun x => [UInt8.ofNat (hexV x / 256), UInt8.ofNat (hexV x)]) ++ List.replicate (16 - 2 * j) 0
def p6 (L : List (List UInt8)) : Option (Bool × List UInt8) := if L.all hexOk then some (true, a6 L 8) else none
theorem fm_len (L : List (List UInt8)) : (L.flatMap (fun x => [UInt8.ofNat (hexV x / 256), UInt8.ofNat (hexV x)])).length = 2 * L.length := by
  induction L with
  | nil => rfl
  | cons x xs ih => rw [List.flatMap_cons, List.length_append, ih]; simp; omega
theorem a6_len {L : List (List UInt8)} {j : Nat} (hL : L.length = 8) (hj : j ≤ 8) : (a6 L j).length = 16 := by
  rw [a6, List.length_append, fm_len, List.length_take, List.length_replicate]; omega
theorem a6_set {L : List (List UInt8)} {j : Nat} (hL : L.length = 8) (hj : j < 8) : ((a6 L j).set (2 * j) (UInt8.ofNat (hexV (L[j]'(by omega)) / 256))).set (2 * j + 1) (UInt8.ofNat (hexV (L[j]'(by omega)))) = a6 L (j + 1) := by
  have e : 16 - 2 * j = (16 - 2 * (j + 1)) + 1 + 1 := by omega
  have hl : ((L.take j).flatMap (fun x => [UInt8.ofNat (hexV x / 256), UInt8.ofNat (hexV x)])).length = 2 * j := by rw [fm_len, List.length_take]; omega
  rw [a6, a6, List.take_succ_eq_append_getElem (by omega), List.flatMap_append]
  generalize (L.take j).flatMap (fun x => [UInt8.ofNat (hexV x / 256), UInt8.ofNat (hexV x)]) = F at *
  rw [List.set_append_right _ _ (by omega), hl, Nat.sub_self, e, List.replicate_succ, List.set_cons_zero, List.set_append_right _ _ (by omega), hl, show 2 * j + 1 - 2 * j = 1 by omega, List.replicate_succ]
  simp
theorem set2 {h a b : CV} {M : List CV} {n : Nat} (hn : n + 1 < M.length) : ((h :: M).take (1 + n) ++ a :: M.drop (1 + n)).take (1 + (n + 1)) ++ b :: ((h :: M).take (1 + n) ++ a :: M.drop (1 + n)).drop (1 + (n + 1) + 1) = h :: (M.set n a).set (n + 1) b := by
  have hX : (h :: M).take (1 + n) ++ a :: M.drop (1 + n) = h :: M.set n a := by
    rw [List.set_eq_take_append_cons_drop, if_pos (by omega), Nat.add_comm 1 n]; simp
  rw [hX, List.set_eq_take_append_cons_drop (l := M.set n a), if_pos (by simp; omega), Nat.add_comm 1 (n + 1)]; simp
theorem rsix_in (L : List (List UInt8)) (hL : L.length = 8) (hs : ∀ x ∈ L, x.length < 1000000000) : PC Tryz.prog true 127 [.lst 8 (L.map .str) false] (rA (p6 L)) := by
  refine acall_intro mixed Tryz.func127 rfl ca127 (by kernel_rfl) (by rw [Tryz.ntmps127]; simp) ?_
  refine w0 ?_ 
  refine w_loop (fun fr B => ∃ j : Nat, j ≤ 8 ∧ (L.take j).all hexOk = true ∧ fr 13 = .int .i64 j ∧ fr 12 = .int .i64 8 ∧ fr 11 = .lst 8 (L.map .str) false ∧ fr 4 = .ptr 1 0 ∧ fr 2 = .ptr 0 0 ∧ fr 3 = .int .i64 0 ∧ B = [⟨.bool false :: z16.map byteC, false⟩, ⟨.bool true :: (a6 L j).map byteC, false⟩]) (fun fr _ => 8 - natOf (fr 13)) ?_ ?_
  · exact ⟨0, by omega, rfl, kS, kS, kS, kS, kS, kS, rfl⟩
  rintro fr B ⟨j, hj, hall, h13, h12, h11, h4, h2, h3, rfl⟩
  have hal := a6_len hL hj
  by_cases hc : j < 8
  · have hset := a6_set hL hc
    have hx : (L.map CV.str).drop j = .str (L[j]'(by omega)) :: (L.map CV.str).drop (j + 1) := by
      rw [List.drop_eq_getElem_cons (by simp; omega)]; simp
    have hxl := hs (L[j]'(by omega)) (List.getElem_mem _)
    have hnall : (L.take (j + 1)).all hexOk = hexOk (L[j]'(by omega)) := by rw [List.take_succ_eq_append_getElem (by omega), List.all_append, hall]; simp
    have hno : hexOk (L[j]'(by omega)) = false → p6 L = none := fun h => by
      have : L.all hexOk = false := by
        rw [List.all_eq_false]
        exact ⟨_, List.getElem_mem (show j < L.length by omega), by simp [h]⟩
      simp [p6, this]
    generalize (L[j]'(by omega)) = x at *
    by_cases hx1 : x.length = 0
    · have ho : hexOk x = false := by simp [hexOk, hx1]
      rw [hno ho]
      have : x = [] := List.eq_nil_of_length_eq_zero hx1
      subst this
      clear hset hno hnall
      refine w_GI00 ?_ 
      rfl
    by_cases hx4 : x.length ≤ 4
    · refine w_GI00 ?_ 
      replace hset : Hid _ := hset
      replace hno : Hid _ := hno
      replace hnall : Hid _ := hnall
      refine w_loop (fun fr B => ∃ k : Nat, k ≤ x.length ∧ (x.take k).all isHex = true ∧ fr 8 = .int .i64 k ∧ fr 7 = .int .i64 (hexV (x.take k)) ∧ fr 6 = .str x ∧ fr 5 = .int .i64 j ∧ fr 13 = .int .i64 j ∧ fr 12 = .int .i64 8 ∧ fr 11 = .lst 8 (L.map .str) false ∧ fr 4 = .ptr 1 0 ∧ fr 2 = .ptr 0 0 ∧ fr 3 = .int .i64 0 ∧ B = [⟨.bool false :: z16.map byteC, false⟩, ⟨.bool true :: (a6 L j).map byteC, false⟩]) (fun fr _ => x.length - natOf (fr 8)) ?_ ?_
      · exact ⟨0, by omega, rfl, kS, by (simp (disch := omega) [go_sem, *, hexV]) <;> (try omega), kS, kS, kS, kS, kS, kS, kS, kS, rfl⟩
      clear hx
      rintro fr B ⟨k, hk, hd, g8, g7, g6, g5, g13, g12, g11, g4, g2, g3, rfl⟩
      have hb := hex_bound (s := x) (j := k) (by omega)
      by_cases hkc : k < x.length
      · have hnx := hexV_take hkc
        have hall := hex_take hkc
        rw [hd, Bool.true_and] at hall
        have hb2 := hex_bound (s := x) (j := k + 1) (by omega)
        have hdig := @rdigit_at
        cases hdv : digV x[k] with
        | none =>
          have ho : hexOk x = false := by simp [hexOk, not_hex hkc hdv]
          rw [show p6 L = none from (show hexOk x = false → p6 L = none from hno) ho]
          have hdg : ∀ B : List Box, ACall Tryz.prog 125 [byteC x[k]] B fun r B' => r = .int .i64 16 ∧ B' = B := fun B => by
            have := @rdigit_at B [byteC x[k]] x[k] rfl
            rwa [hdv] at this
          clear hdig hdv hnx hall hset hnall ho hno
          refine w1 @hdg ?_ 
          rfl
        | some v =>
          have hv := digV_lt hdv
          have hdg : ∀ B : List Box, ACall Tryz.prog 125 [byteC x[k]] B fun r B' => r = .int .i64 v ∧ B' = B := fun B => by
            have := @rdigit_at B [byteC x[k]] x[k] rfl
            rwa [hdv] at this
          rw [hdv] at hnx
          rw [isHex, hdv] at hall
          have hnx2 : (hexV (x.take (k + 1)) : Int) = 16 * hexV (x.take k) + v := by rw [hnx]; simp
          clear hdig hdv hnx
          refine w1 @hdg ?_ 
          exact ⟨⟨k + 1, by omega, hall, kS, by rw [hnx2] <;> (simp (disch := omega) [go_sem, *]) <;> (try omega), kS, kS, kS, kS, kS, kS, kS, kS, rfl⟩, kS⟩
      · obtain rfl : k = x.length := by omega
        rw [List.take_length] at hd g7 hb
        have ho : hexOk x = true := by simp [hexOk, hd]; omega
        have hby1 := byte_nat (hexV x / 256) (by omega)
        have hby2 := byte_wrap (hexV x)
        clear hkc
        generalize hexV x = w at *
        have h2i : (2 * (j : Int)).toNat = 2 * j := by omega
        refine w0 ?_ 
        have hall2 : (L.take (j + 1)).all hexOk = true := by rw [show (L.take (j + 1)).all hexOk = hexOk x from hnall, ho]
        refine ⟨⟨j + 1, by omega, hall2, kS, kS, kS, kS, kS, kS, ?_⟩, kS⟩
        rw [← (show _ = a6 L (j + 1) from hset), List.map_set, List.map_set, hby1, hby2]
        simp only [List.map_drop]
        rw [set2 (by simp; omega)]
        simp
    · have ho : hexOk x = false := by simp [hexOk]; omega
      rw [hno ho]
      clear hset hno hnall
      refine w_GI00 ?_ 
      rfl
  · obtain rfl : j = 8 := by omega
    have hp : p6 L = some (true, a6 L 8) := by rw [List.take_of_length_le (by omega)] at hall; simp [p6, hall]
    rw [hp]
    refine w0 ?_ 
    (simp (disch := omega) [go_sem, *, rA, addrC]) <;> (try omega)
end Go.Proofs.YtcbdghgogmcllaaGreatDoor
end
