import Derived.Test.YtnedgmdbehpodaaD15
namespace Go.Proofs.Ytnedgmdbehpodaa
open Go Go.Sy
set_option linter.all false
set_option maxRecDepth 100000
set_option maxHeartbeats 4000000
theorem cut_cut0 : ∀ x : Fin 256, ∀ h : Fin 9, ∀ k : Fin 9, cutN (cutN x.1 h.1) k.1 = cutN x.1 (min h.1 k.1) := by decide +kernel
theorem cutB_cutB (x : UInt8) {h k : Nat} (hh : h ≤ 8) (hk : k ≤ 8) : cutB (cutB x h) k = cutB x (min h k) := UInt8.toNat_inj.1 (by
  rw [cutB_toNat, cutB_toNat, cutB_toNat]; exact cut_cut0 ⟨x.toNat, x.toNat_lt⟩ ⟨h, by omega⟩ ⟨k, by omega⟩)
theorem cutL_get (A : List UInt8) (s : Nat) {i : Nat} (hi : i < 16) : (cutL A s).getD i 0 = cutB (A.getD i 0) (min (s - 8 * i) 8) := getD_row16 _ hi
theorem cutL_cutL (A : List UInt8) {l s : Nat} (h : s ≤ l) : cutL (cutL A l) s = cutL A s := by
  apply List.map_congr_left
  intro i hi
  rw [List.mem_range] at hi
  rw [cutL_get A l hi, cutB_cutB _ (Nat.min_le_right _ _) (Nat.min_le_right _ _)]
  congr 1; omega
theorem okA_cut {six : Bool} {A : List UInt8} {s : Nat} (hA : A.length = 16) (h : okA six A = true) : okA six (cutL A s) = true := by
  cases six with
  | true => rfl
  | false =>
    simp only [okA, Bool.false_or, beq_iff_eq] at h ⊢
    have hz : ∀ i, 4 ≤ i → i < 16 → A.getD i 0 = 0 := by
      intro i h1 h2
      have : A.getD i 0 = (A.drop 4).getD (i - 4) 0 := by
        rw [List.getD_eq_getElem?_getD, List.getD_eq_getElem?_getD, List.getElem?_drop]; congr 2; congr 1; omega
      rw [this, h]
      have : ∀ j : Fin 12, z12.getD j.1 0 = 0 := by decide
      exact this ⟨i - 4, by omega⟩
    apply List.ext_getElem
    · rw [List.length_drop, cutL_len]; rfl
    · intro i h1 h2
      rw [List.length_drop, cutL_len] at h1
      rw [List.getElem_drop, get_of_getD (cutL_get A s (i := 4 + i) (by omega)) (by rw [cutL_len]; omega), hz (4 + i) (by omega) (by omega)]
      have e : ∀ j : Fin 12, z12.getD j.1 0 = 0 := by decide
      have := get_of_getD (e ⟨i, by omega⟩) h2
      dsimp only at this
      rw [this]
      apply UInt8.toNat_inj.1
      rw [cutB_toNat, cutN]
      simp
theorem vld_cut {six : Bool} {A : List UInt8} {s : Nat} (hA : A.length = 16) (h : okA six A = true) (hs : s ≤ if six then 128 else 32) : vld six (cutL A s) s = true := by
  simp only [vld, Bool.and_eq_true, decide_eq_true_eq, beq_iff_eq]
  refine ⟨okA_cut hA h, by omega, ?_, by rw [Int.toNat_natCast, cutL_cutL A (Nat.le_refl s)]⟩
  cases six <;> simp at hs ⊢ <;> omega
theorem cont_cut {six : Bool} {A : List UInt8} {s : Nat} (hA : A.length = 16) (h : okA six A = true) (hs : s ≤ if six then 128 else 32) : cont six (cutL A s) s six A = true := by
  simp only [cont, Bool.and_eq_true, beq_iff_eq]
  exact ⟨vld_cut hA h hs, h, trivial, by rw [Int.toNat_natCast]⟩
theorem nests {six : Bool} {A X : List UInt8} {l s : Nat} (hA : A.length = 16) (hX : X.length = 16) (h : okA six A = true) (hs : s ≤ l) (hl : l ≤ if six then 128 else 32) (hc : cont six (cutL A l) l six X = true) : cont six (cutL A s) s six X = true := by
  simp only [cont, Bool.and_eq_true, beq_iff_eq, Int.toNat_natCast] at hc ⊢
  refine ⟨vld_cut hA h (by omega), hc.2.1, trivial, ?_⟩
  rw [← cutL_cutL X hs, hc.2.2.2, cutL_cutL A hs]
theorem okA_ad (l : List UInt8) (a : Nat) : okA (adSix l a) (adIP l a) = true := by
  unfold okA adIP
  cases adSix l a <;> rfl
end Go.Proofs.Ytnedgmdbehpodaa
