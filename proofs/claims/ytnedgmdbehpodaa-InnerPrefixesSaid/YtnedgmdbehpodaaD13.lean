import Derived.Test.YtnedgmdbehpodaaD12
namespace Go.Proofs.Ytnedgmdbehpodaa
open Go Go.Sy
set_option linter.all false
set_option maxRecDepth 100000
set_option maxHeartbeats 4000000
/-- The first h bits of a byte; a byte with the bits from lo on cleared, up to r. -/
def cutN (x h : Nat) : Nat := x / 2 ^ (8 - h) * 2 ^ (8 - h)
def clrN (x lo : Nat) : Nat → Nat
  | 0 => x
  | r + 1 => if lo ≤ r then (if clrN x lo r / 2 ^ (7 - r) % 2 = 1 then clrN x lo r - 2 ^ (7 - r) else clrN x lo r) else clrN x lo r
theorem andNot_bit0 : ∀ x : Fin 256, ∀ r : Fin 8, bits .andNot .u8 (x.1 : Int) (2 ^ (7 - r.1)) = ((if x.1 / 2 ^ (7 - r.1) % 2 = 1 then x.1 - 2 ^ (7 - r.1) else x.1 : Nat) : Int) := by decide +kernel
theorem andNot_bit1 (x r : Nat) (hx : x < 256) (hr : r < 8) : bits .andNot .u8 (x : Int) (2 ^ (7 - r)) = ((if x / 2 ^ (7 - r) % 2 = 1 then x - 2 ^ (7 - r) else x : Nat) : Int) := andNot_bit0 ⟨x, hx⟩ ⟨r, hr⟩
theorem cut_bits0 : ∀ x : Fin 256, ∀ h : Fin 9, ∀ q : Fin 8, cutN x.1 h.1 / 2 ^ (7 - q.1) % 2 = if q.1 < h.1 then x.1 / 2 ^ (7 - q.1) % 2 else 0 := by decide +kernel
theorem clr_cut0 : ∀ x : Fin 256, ∀ h : Fin 9, clrN x.1 h.1 8 = cutN x.1 h.1 := by decide +kernel
theorem clrN_le (x lo : Nat) : ∀ r, clrN x lo r ≤ x
  | 0 => Nat.le_refl _
  | r + 1 => by
    have := clrN_le x lo r
    have h2 := Nat.sub_le (clrN x lo r) (2 ^ (7 - r))
    unfold clrN; split
    · split
      · exact Nat.le_trans h2 this
      · exact this
    · exact this
theorem clrN_id (x lo : Nat) : ∀ r, r ≤ lo → clrN x lo r = x
  | 0, _ => rfl
  | r + 1, h => by rw [clrN, if_neg (by omega), clrN_id x lo r (by omega)]
theorem cutN_le (x h : Nat) : cutN x h ≤ x := Nat.div_mul_le_self _ _
def cutB (x : UInt8) (h : Nat) : UInt8 := UInt8.ofNat (cutN x.toNat h)
def clrB (x : UInt8) (lo r : Nat) : UInt8 := UInt8.ofNat (clrN x.toNat lo r)
theorem cutB_toNat (x : UInt8) (h : Nat) : (cutB x h).toNat = cutN x.toNat h := by
  have := x.toNat_lt; have := cutN_le x.toNat h
  rw [cutB, UInt8.toNat_ofNat']; omega
theorem clrB_toNat (x : UInt8) (lo r : Nat) : (clrB x lo r).toNat = clrN x.toNat lo r := by
  have := x.toNat_lt; have := clrN_le x.toNat lo r
  rw [clrB, UInt8.toNat_ofNat']; omega
theorem clrB_id {x : UInt8} {lo r : Nat} (h : r ≤ lo) : clrB x lo r = x := UInt8.toNat_inj.1 (by rw [clrB_toNat, clrN_id _ _ _ h])
theorem clrB_cut {x : UInt8} {h : Nat} (hh : h ≤ 8) : clrB x h 8 = cutB x h := UInt8.toNat_inj.1 (by
  rw [clrB_toNat, cutB_toNat]; exact clr_cut0 ⟨x.toNat, x.toNat_lt⟩ ⟨h, by omega⟩)
theorem andNot_bit (x : UInt8) {lo r : Nat} (hl : lo ≤ r) (hr : r < 8) : CV.int .u8 (bits .andNot .u8 ((clrB x lo r).toNat : Int) (2 ^ (7 - r))) = byteC (clrB x lo (r + 1)) := by
  rw [andNot_bit1 _ _ (clrB x lo r).toNat_lt hr, byteC, clrB_toNat x lo (r + 1), clrN, if_pos hl, clrB_toNat]
def cutL (A : List UInt8) (s : Nat) : List UInt8 := (List.range 16).map fun i => cutB (A.getD i 0) (min (s - 8 * i) 8)
def mskL (A : List UInt8) (s i : Nat) : List UInt8 := (List.range 16).map fun j => clrB (A.getD j 0) (min (s - 8 * j) 8) (min (i - 8 * j) 8)
def cutJ (A : List UInt8) (s k : Nat) : List UInt8 := (List.range 16).map fun i => if i < k then cutB (A.getD i 0) (min (s - 8 * i) 8) else A.getD i 0
theorem row16 {A : List UInt8} (h : A.length = 16) (f : Nat → UInt8) (hf : ∀ i, i < 16 → f i = A.getD i 0) : (List.range 16).map f = A := by
  apply List.ext_getElem
  · simp [h]
  · intro i h1 h2
    rw [List.getElem_map, List.getElem_range, hf i (by omega), List.getD_eq_getElem?_getD, List.getElem?_eq_getElem h2, Option.getD_some]
theorem row16_set (f g : Nat → UInt8) (k : Nat) (x : UInt8) (hk : k < 16) (hx : g k = x) (hg : ∀ i, i < 16 → i ≠ k → g i = f i) : ((List.range 16).map f).set k x = (List.range 16).map g := by
  apply List.ext_getElem
  · simp
  · intro i h1 h2
    rw [List.getElem_set, List.getElem_map, List.getElem_range]
    split
    · rename_i h; subst h; rw [List.getElem_map, List.getElem_range]; exact hx.symm
    · rename_i h
      rw [List.getElem_map, List.getElem_range]
      exact (hg i (by simpa using h2) (fun e => h e.symm)).symm
theorem cutL_len (A : List UInt8) (s : Nat) : (cutL A s).length = 16 := by simp [cutL]
theorem mskL_len (A : List UInt8) (s i : Nat) : (mskL A s i).length = 16 := by simp [mskL]
theorem cutJ_len (A : List UInt8) (s i : Nat) : (cutJ A s i).length = 16 := by simp [cutJ]
theorem mskL_start {A : List UInt8} (h : A.length = 16) (s : Nat) : mskL A s s = A := row16 h _ fun _ _ => clrB_id (Nat.le_refl _)
theorem mskL_end (A : List UInt8) (s : Nat) : mskL A s 128 = cutL A s := by
  apply List.map_congr_left
  intro i hi
  rw [List.mem_range] at hi
  rw [show min (128 - 8 * i) 8 = 8 by omega, clrB_cut (Nat.min_le_right _ _)]
theorem getD_row16 (f : Nat → UInt8) {k : Nat} (hk : k < 16) : ((List.range 16).map f).getD k 0 = f k := by
  rw [List.getD_eq_getElem?_getD, List.getElem?_map, List.getElem?_range hk]; rfl
theorem mskL_get (A : List UInt8) {s i q : Nat} (hq : i / 8 = q) (hi : i < 128) : (mskL A s i).getD q 0 = clrB (A.getD q 0) (min (s - 8 * q) 8) (i % 8) := by
  rw [mskL, getD_row16 _ (by omega), show min (i - 8 * q) 8 = i % 8 by omega]
theorem mskL_step (A : List UInt8) {s i : Nat} (hs : s ≤ i) (hi : i < 128) : (mskL A s i).set (i / 8) (clrB (A.getD (i / 8) 0) (min (s - 8 * (i / 8)) 8) (i % 8 + 1)) = mskL A s (i + 1) := by
  refine row16_set _ _ _ _ (by omega) ?_ fun j hj hne => ?_
  · rw [show min (i + 1 - 8 * (i / 8)) 8 = i % 8 + 1 by omega]
  · rw [show min (i + 1 - 8 * j) 8 = min (i - 8 * j) 8 by omega]
theorem cutJ_start {A : List UInt8} (h : A.length = 16) (s : Nat) : cutJ A s 0 = A := row16 h _ fun _ _ => rfl
theorem cutJ_end (A : List UInt8) (s : Nat) : cutJ A s 16 = cutL A s := by
  apply List.map_congr_left
  intro i hi
  rw [List.mem_range] at hi
  rw [if_pos hi]
theorem cutJ_get (A : List UInt8) {s k : Nat} (hk : k < 16) : (cutJ A s k).getD k 0 = A.getD k 0 := by
  rw [cutJ, getD_row16 _ hk, if_neg (by omega)]
theorem cutJ_step (A : List UInt8) {s k : Nat} (hk : k < 16) : (cutJ A s k).set k (cutB (A.getD k 0) (min (s - 8 * k) 8)) = cutJ A s (k + 1) := by
  refine row16_set _ _ _ _ hk (by rw [if_pos (by omega)]) fun j hj hne => ?_
  by_cases h : j < k
  · rw [if_pos h, if_pos (by omega)]
  · rw [if_neg h, if_neg (by omega)]
end Go.Proofs.Ytnedgmdbehpodaa
