import Derived.Test.YtolpcdmcgpgnpaaS0
namespace Go.Proofs.Ytolpcdmcgpgnpaa
open Go Go.Sy
set_option linter.all false
set_option maxRecDepth 100000
set_option maxHeartbeats 4000000
/-! What the index's functions answer, and what is shown of it. -/
def sl0 : Sl := (0, List.replicate 32 0, false)
def findF (L : List Sl) (n : Int) : Sl × Bool := match L.find? fun s => s.1 == n with
  | some s => (s, true)
  | none => (sl0, false)
def dropF (L : List Sl) (n : Int) : List Sl := L.filter fun s => s.1 != n
def promF (L : List Sl) (n : Int) : List Sl := L.map fun s => (s.1, s.2.1, s.2.2 || s.1 == n)
/-- The indices rise, from above a bound. -/
def srtF : Int → List Sl → Bool
  | _, [] => true
  | p, s :: l => decide (p < s.1) && srtF s.1 l
def validS (L : List Sl) : Bool := srtF 0 L && decide (L.length ≤ 32)
theorem find_idx (p : Sl → Bool) : ∀ L : List Sl, L.find? p = L[L.findIdx p]?
  | [] => rfl
  | x :: l => by
    rw [List.find?_cons, List.findIdx_cons]
    cases h : p x with
    | true => simp
    | false => simpa using find_idx p l
theorem find_free {L : List Sl} {n : Int} : (findF L n).2 = !sFree L n := by
  unfold findF
  cases h : L.find? fun s => s.1 == n with
  | none =>
    rw [List.find?_eq_none] at h
    have : sFree L n = true := by rw [sFree, List.all_eq_true]; intro x hx; have := h x hx; simpa using this
    rw [this]; rfl
  | some s =>
    have h1 := List.mem_of_find?_eq_some h
    have h2 := List.find?_some h
    have : sFree L n = false := sFree_false.2 ⟨s, h1, by simpa using h2⟩
    rw [this]; rfl
theorem sIns_len (L : List Sl) (n : Int) (s : Sl) : (sIns L n s).length = L.length + 1 := by
  have h := congrArg List.length (List.takeWhile_append_dropWhile (p := fun x : Sl => !decide (n < x.1)) (l := L))
  rw [List.length_append] at h
  rw [sIns, List.length_append, List.length_cons]; omega
theorem sIns_cons (x : Sl) (l : List Sl) (n : Int) (s : Sl) : sIns (x :: l) n s = if n < x.1 then s :: x :: l else x :: sIns l n s := by
  rw [sIns, List.takeWhile_cons, List.dropWhile_cons]
  by_cases h : n < x.1
  · simp [h]
  · simp [h, sIns]
theorem sIns_srt {n : Int} {s : Sl} (hs : s.1 = n) : ∀ {L : List Sl} {p : Int}, p < n → srtF p L = true → sFree L n = true → srtF p (sIns L n s) = true
  | [], p, h, _, _ => by show (decide (p < s.1) && true) = true; simp [hs, h]
  | x :: l, p, h, h1, h2 => by
    rw [sIns_cons]
    unfold srtF at h1
    rw [Bool.and_eq_true, decide_eq_true_eq] at h1
    simp only [sFree, List.all_cons, Bool.and_eq_true, bne_iff_ne, ne_eq] at h2
    by_cases hx : n < x.1
    · rw [if_pos hx]
      simp only [srtF, Bool.and_eq_true, decide_eq_true_eq, hs]
      exact ⟨h, hx, h1.2⟩
    · rw [if_neg hx]
      unfold srtF
      rw [Bool.and_eq_true, decide_eq_true_eq]
      exact ⟨h1.1, sIns_srt hs (by omega) h1.2 (by rw [sFree]; exact h2.2)⟩
theorem sIns_mem {L : List Sl} {n : Int} {s x : Sl} (h : x ∈ sIns L n s) : x = s ∨ x ∈ L := by
  rw [sIns, List.mem_append, List.mem_cons] at h
  rcases h with h | h | h
  · exact .inr (List.takeWhile_sublist _ |>.mem h)
  · exact .inl h
  · exact .inr (List.dropWhile_sublist _ |>.mem h)
theorem sIns_find {L : List Sl} {n : Int} {s : Sl} (hs : s.1 = n) (hf : sFree L n = true) : findF (sIns L n s) n = (s, true) := by
  have : (sIns L n s).find? (fun s => s.1 == n) = some s := by
    rw [sIns, List.find?_append, List.find?_eq_none.2, List.find?_cons]
    · simp [hs]
    · intro x hx
      rw [sFree, List.all_eq_true] at hf
      have := hf x ((List.takeWhile_sublist _).mem hx)
      simpa using this
  rw [findF, this]
theorem sIns_drop {L : List Sl} {n : Int} {s : Sl} (hs : s.1 = n) (hf : sFree L n = true) : dropF (sIns L n s) n = L := by
  rw [sFree, List.all_eq_true] at hf
  rw [dropF, sIns, List.filter_append, List.filter_cons, hs]
  simp only [bne_self_eq_false, Bool.false_eq_true, if_false]
  rw [← List.filter_append, List.takeWhile_append_dropWhile, List.filter_eq_self]
  exact hf
theorem prom_find {L : List Sl} {n : Int} {s : Sl} (h : findF L n = (s, true)) : findF (promF L n) n = ((s.1, s.2.1, true), true) := by
  unfold findF at h ⊢
  cases hf : L.find? fun s => s.1 == n with
  | none => rw [hf] at h; simp at h
  | some t =>
    rw [hf] at h
    simp at h
    subst h
    have h1 := List.find?_some hf
    rw [promF, List.find?_map]
    have : ((fun s : Sl => s.1 == n) ∘ fun s : Sl => (s.1, s.2.1, s.2.2 || s.1 == n)) = fun s => s.1 == n := rfl
    rw [this, hf]
    simp only [Option.map_some, h1, Bool.or_true]
theorem prom_len (L : List Sl) (n : Int) : (promF L n).length = L.length := by simp [promF]
theorem srt_pos {L : List Sl} : ∀ {p : Int}, srtF p L = true → ∀ s ∈ L, p < s.1 := by
  induction L with
  | nil => intro p _ s h; cases h
  | cons x l ih =>
    intro p h s hs
    unfold srtF at h
    rw [Bool.and_eq_true, decide_eq_true_eq] at h
    rcases List.mem_cons.1 hs with rfl | hs
    · exact h.1
    · have := ih h.2 s hs; omega
theorem srt_step {L : List Sl} {j : Nat} {p : Int} (h : j < L.length) : srtF p (L.drop j) = (decide (p < L[j].1) && srtF L[j].1 (L.drop (j + 1))) := by
  rw [List.drop_eq_getElem_cons h]; rfl
/-- A table as the laws make it. -/
def sGood (L : List Sl) : Prop := srtF 0 L = true ∧ ∀ s ∈ L, s.2.1.length = 32 ∧ 0 ≤ s.1 ∧ s.1 ≤ 4294967295
theorem sGood.nil : sGood [] := ⟨rfl, fun _ h => by cases h⟩
theorem sGood.take {L : List Sl} {w : Int} {k : List UInt8} {b : Bool} (h : sGood L) (hl : L.length < 1000000) (hw : 0 ≤ w ∧ w ≤ 4294967295) (hk : k.length = 32) : sGood (sIns L (takeN L w) (takeN L w, k, b)) := by
  obtain ⟨h1, h2, h3, _⟩ := takeN_spec (l := L) (w := w) (by omega) hw
  refine ⟨sIns_srt (n := takeN L w) (s := (takeN L w, k, b)) rfl (by omega) h.1 h3, fun s hs => ?_⟩
  rcases sIns_mem hs with rfl | hs
  · exact ⟨hk, by dsimp only; omega, h2⟩
  · exact h.2 s hs
/-- Going on from a wish leads to the index that is taken, over none that is free. -/
def On (L : List Sl) (T i : Int) : Prop := 1 ≤ i ∧ i ≤ 4294967295 ∧ ((i ≤ T ∧ ∀ j, i ≤ j → j < T → sFree L j = false) ∨ (T < i ∧ (∀ j, i ≤ j → j ≤ 4294967295 → sFree L j = false) ∧ ∀ j, 1 ≤ j → j < T → sFree L j = false))
def onM (T i : Int) : Nat := if i ≤ T then (T - i).toNat else (T - i + 4294967296).toNat
theorem On.first {L : List Sl} {w : Int} (hl : L.length < 4294967295) (hw : 0 ≤ w ∧ w ≤ 4294967295) : On L (takeN L w) (max w 1) := by
  obtain ⟨h1, h2, h3, h4⟩ := takeN_spec hl hw
  exact ⟨by omega, by omega, h4⟩
theorem On.busy {L : List Sl} {T i : Int} (h : On L T i) (hi : i ≠ T) : sFree L i = false := by
  obtain ⟨_, h2, ⟨h3, h4⟩ | ⟨h3, h4, _⟩⟩ := h
  · exact h4 i (by omega) (by omega)
  · exact h4 i (by omega) h2
theorem On.next {L : List Sl} {T i : Int} (h : On L T i) (hT : 1 ≤ T) (hi : i ≠ T) (hm : i < 4294967295) : On L T (i + 1) ∧ onM T (i + 1) < onM T i := by
  obtain ⟨h1, h2, ⟨h3, h4⟩ | ⟨h3, h4, h5⟩⟩ := h
  · exact ⟨⟨by omega, by omega, .inl ⟨by omega, fun j h6 h7 => h4 j (by omega) h7⟩⟩, by unfold onM; rw [if_pos (by omega), if_pos (by omega)]; omega⟩
  · exact ⟨⟨by omega, by omega, .inr ⟨by omega, fun j h6 h7 => h4 j (by omega) h7, h5⟩⟩, by unfold onM; rw [if_neg (by omega), if_neg (by omega)]; omega⟩
theorem On.wrap {L : List Sl} {T i : Int} (h : On L T i) (hT : 1 ≤ T ∧ T ≤ 4294967295) (hi : i ≠ T) (hm : i = 4294967295) : On L T 1 ∧ onM T 1 < onM T i := by
  obtain ⟨h1, h2, ⟨h3, h4⟩ | ⟨h3, h4, h5⟩⟩ := h
  · omega
  · exact ⟨⟨by omega, by omega, .inl ⟨by omega, h5⟩⟩, by unfold onM; rw [if_pos (by omega), if_neg (by omega)]; omega⟩
/-- Where an index that none has is put: behind the lower ones. -/
theorem sIns_lt {L : List Sl} {n : Int} (s : Sl) (hf : sFree L n = true) : sIns L n s = L.take (L.findIdx fun x => !decide (x.1 < n)) ++ s :: L.drop (L.findIdx fun x => !decide (x.1 < n)) := by
  induction L with
  | nil => rfl
  | cons x l ih =>
    simp only [sFree, List.all_cons, Bool.and_eq_true, bne_iff_ne, ne_eq] at hf
    rw [sIns_cons, List.findIdx_cons]
    by_cases h : n < x.1
    · rw [if_pos h, show decide (x.1 < n) = false by simp; omega]; rfl
    · rw [if_neg h, show decide (x.1 < n) = true by simp; omega, ih hf.2]
      rfl
end Go.Proofs.Ytolpcdmcgpgnpaa
