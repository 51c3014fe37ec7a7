import Derived.Test.YtolpcdmcgpgnpaaSyX
namespace Go.Proofs.Ytolpcdmcgpgnpaa
open Go Go.Sy
set_option linter.all false
set_option maxRecDepth 100000
set_option maxHeartbeats 4000000
/-- A slot: its index, its peer, whether it is a session's. -/
abbrev Sl := Int × List UInt8 × Bool
def sFree (l : List Sl) (n : Int) : Bool := l.all fun s => s.1 != n
/-- The least free index from a number on, in k tries. -/
def freeF (l : List Sl) : Nat → Int → Option Int
  | 0, _ => none
  | k + 1, n => if sFree l n then some n else if n = 4294967295 then none else freeF l k (n + 1)
theorem sFree_false {l : List Sl} {n : Int} : sFree l n = false ↔ ∃ s ∈ l, s.1 = n := by
  rw [sFree, List.all_eq_false]
  constructor
  · rintro ⟨s, h1, h2⟩; exact ⟨s, h1, by simpa using h2⟩
  · rintro ⟨s, h1, h2⟩; exact ⟨s, h1, by simpa using h2⟩
theorem pigeon : ∀ (k : Nat) (l : List Sl) (n : Int), (∀ i : Nat, i < k → ∃ s ∈ l, s.1 = n + i) → k ≤ l.length
  | 0, _, _, _ => Nat.zero_le _
  | k + 1, l, n, h => by
    obtain ⟨s, hs, he⟩ := h k (Nat.lt_succ_self k)
    obtain ⟨l1, l2, rfl⟩ := List.append_of_mem hs
    have := pigeon k (l1 ++ l2) n fun i hi => by
      obtain ⟨t, ht, hte⟩ := h i (by omega)
      refine ⟨t, ?_, hte⟩
      rw [List.mem_append, List.mem_cons] at ht
      rw [List.mem_append]
      rcases ht with ht | rfl | ht
      · exact .inl ht
      · omega
      · exact .inr ht
    simp only [List.length_append, List.length_cons] at this ⊢
    omega
theorem freeF_some {l : List Sl} : ∀ {k : Nat} {n m : Int}, freeF l k n = some m → n ≤ 4294967295 → n ≤ m ∧ m ≤ 4294967295 ∧ sFree l m = true ∧ ∀ j, n ≤ j → j < m → sFree l j = false
  | 0, _, _, h, _ => by cases h
  | k + 1, n, m, h, hn => by
    unfold freeF at h
    split at h
    · rename_i hf
      simp at h; subst h
      exact ⟨Int.le_refl _, hn, hf, fun j h1 h2 => by omega⟩
    · rename_i hf
      split at h
      · cases h
      · rename_i hm
        obtain ⟨h1, h2, h3, h4⟩ := freeF_some h (by omega)
        refine ⟨by omega, h2, h3, fun j hj1 hj2 => ?_⟩
        rcases Int.lt_or_eq_of_le hj1 with hj | rfl
        · exact h4 j (by omega) hj2
        · simpa using hf
theorem freeF_none {l : List Sl} : ∀ {k : Nat} {n : Int}, freeF l k n = none → n ≤ 4294967295 → ∀ i : Nat, i < k → n + i ≤ 4294967295 → sFree l (n + i) = false
  | 0, _, _, _, i, hi, _ => absurd hi (Nat.not_lt_zero i)
  | k + 1, n, h, hn, i, hi, him => by
    unfold freeF at h
    split at h
    · cases h
    · rename_i hf
      cases i with
      | zero => simpa using hf
      | succ i =>
        split at h
        · rename_i hm; omega
        · have := freeF_none h (by omega) i (by omega) (by omega)
          rwa [show n + ((i + 1 : Nat) : Int) = n + 1 + i by omega]
/-- Where no try finds one, none is free up to the greatest index. -/
theorem freeF_all {l : List Sl} {n : Int} (h : freeF l (l.length + 1) n = none) (hn : n ≤ 4294967295) : ∀ j, n ≤ j → j ≤ 4294967295 → sFree l j = false := by
  intro j h1 h2
  obtain ⟨i, rfl⟩ : ∃ i : Nat, j = n + i := ⟨(j - n).toNat, by omega⟩
  rcases Nat.lt_or_ge i (l.length + 1) with hi | hi
  · exact freeF_none h hn i hi h2
  · exfalso
    have := pigeon (l.length + 1) l n fun i' hi' => sFree_false.1 (freeF_none h hn i' hi' (by omega))
    omega
/-- Below a bound of the table's length, one of the first indices is free. -/
theorem freeF_one {l : List Sl} (hl : l.length < 4294967295) : ∃ m, freeF l (l.length + 1) 1 = some m := by
  cases h : freeF l (l.length + 1) 1 with
  | some m => exact ⟨m, rfl⟩
  | none =>
    exfalso
    have := pigeon (l.length + 1) l 1 fun i hi => sFree_false.1 (freeF_none h (by omega) i hi (by omega))
    omega
/-- The index that is taken. -/
def takeN (l : List Sl) (w : Int) : Int := match freeF l (l.length + 1) (max w 1) with
  | some n => n
  | none => (freeF l (l.length + 1) 1).getD 0
def sIns (l : List Sl) (n : Int) (s : Sl) : List Sl := (l.takeWhile fun x => !decide (n < x.1)) ++ s :: (l.dropWhile fun x => !decide (n < x.1))
theorem takeN_spec {l : List Sl} {w : Int} (hl : l.length < 4294967295) (hw : 0 ≤ w ∧ w ≤ 4294967295) : 1 ≤ takeN l w ∧ takeN l w ≤ 4294967295 ∧ sFree l (takeN l w) = true ∧
    ((max w 1 ≤ takeN l w ∧ ∀ j, max w 1 ≤ j → j < takeN l w → sFree l j = false) ∨ (takeN l w < max w 1 ∧ (∀ j, max w 1 ≤ j → j ≤ 4294967295 → sFree l j = false) ∧ ∀ j, 1 ≤ j → j < takeN l w → sFree l j = false)) := by
  unfold takeN
  cases h : freeF l (l.length + 1) (max w 1) with
  | some n =>
    obtain ⟨h1, h2, h3, h4⟩ := freeF_some h (by omega)
    exact ⟨by dsimp only; omega, h2, h3, .inl ⟨h1, h4⟩⟩
  | none =>
    have ha := freeF_all h (by omega)
    obtain ⟨m, hm⟩ := freeF_one hl
    rw [hm]
    obtain ⟨h1, h2, h3, h4⟩ := freeF_some hm (by omega)
    refine ⟨h1, h2, h3, .inr ⟨?_, ha, h4⟩⟩
    dsimp only [Option.getD_some]
    rcases Int.lt_or_le m (max w 1) with hlt | hge
    · exact hlt
    · have := ha m hge h2
      rw [h3] at this; cases this
/-- The table of IndexLimits behind i rounds. -/
def limL (k : List UInt8) (i : Nat) : List Sl := (List.range i).map fun (j : Nat) => ((9 : Int) + (j : Int), k, true)
theorem limL_len (k : List UInt8) (i : Nat) : (limL k i).length = i := by simp [limL]
theorem limL_succ (k : List UInt8) (i : Nat) : limL k (i + 1) = limL k i ++ [((9 : Int) + i, k, true)] := by simp [limL, List.range_succ]
theorem limL_mem {k : List UInt8} {i : Nat} {s : Sl} (h : s ∈ limL k i) : 9 ≤ s.1 ∧ s.1 < 9 + i := by
  obtain ⟨j, hj, rfl⟩ := List.mem_map.1 h
  rw [List.mem_range] at hj
  exact ⟨by dsimp only; omega, by dsimp only; omega⟩
theorem limL_free {k : List UInt8} {i : Nat} {n : Int} (h : 9 ≤ n) : sFree (limL k i) n = decide (9 + (i : Int) ≤ n) := by
  by_cases hn : 9 + (i : Int) ≤ n
  · rw [decide_eq_true hn, sFree, List.all_eq_true]
    intro s hs
    have := limL_mem hs
    simp only [bne_iff_ne, ne_eq]; omega
  · rw [decide_eq_false hn, sFree_false]
    exact ⟨((9 : Int) + ((n - 9).toNat : Nat), k, true), List.mem_map.2 ⟨(n - 9).toNat, List.mem_range.2 (by omega), rfl⟩, by dsimp only; omega⟩
theorem limL_freeF {k : List UInt8} {i : Nat} : ∀ (m : Nat) (n : Int), 9 ≤ n → n ≤ 9 + i → 9 + (i : Int) < 4294967295 → 9 + (i : Int) - n < m → freeF (limL k i) m n = some (9 + (i : Int))
  | 0, n, h1, h2, _, h4 => by omega
  | m + 1, n, h1, h2, h3, h4 => by
    unfold freeF
    rw [limL_free h1]
    by_cases h : 9 + (i : Int) ≤ n
    · have : n = 9 + i := by omega
      subst this
      simp
    · rw [decide_eq_false h, if_neg (by simp), if_neg (by omega)]
      exact limL_freeF m (n + 1) (by omega) (by omega) h3 (by omega)
theorem limL_take {k : List UInt8} {i : Nat} (hi : i < 1000000) : takeN (limL k i) 9 = 9 + (i : Int) := by
  unfold takeN
  rw [limL_len, show max (9 : Int) 1 = 9 by rfl, limL_freeF (i + 1) 9 (by omega) (by omega) (by omega) (by omega)]
theorem limL_ins {k : List UInt8} {i : Nat} (s : Sl) : sIns (limL k i) (9 + i) s = limL k i ++ [s] := by
  have h : ∀ x ∈ limL k i, (!decide ((9 : Int) + i < x.1)) = true := fun x hx => by
    have := limL_mem hx
    rw [decide_eq_false (by omega)]; rfl
  have tw : ∀ (p : Sl → Bool) (l : List Sl), (∀ x ∈ l, p x = true) → l.takeWhile p = l ∧ l.dropWhile p = [] := by
    intro p l
    induction l with
    | nil => intro _; exact ⟨rfl, rfl⟩
    | cons x l ih =>
      intro h
      obtain ⟨h1, h2⟩ := ih fun y hy => h y (by simp [hy])
      rw [List.takeWhile_cons, List.dropWhile_cons, if_pos (h x (by simp)), if_pos (h x (by simp)), h1, h2]
      exact ⟨rfl, rfl⟩
  obtain ⟨h1, h2⟩ := tw _ _ h
  rw [sIns, h1, h2]
end Go.Proofs.Ytolpcdmcgpgnpaa
