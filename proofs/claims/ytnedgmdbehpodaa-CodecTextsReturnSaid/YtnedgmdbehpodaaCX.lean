import Derived.Test.YtnedgmdbehpodaaC13
namespace Go.Proofs.Ytnedgmdbehpodaa
open Go Go.Sy
set_option linter.all false
set_option maxRecDepth 100000
set_option maxHeartbeats 4000000
/-- Recovery from the texts, in plain words. -/
theorem digV_hd {n : Nat} (h : n < 16) : digV (hd n) = some n := by
  have : ∀ k : Fin 16, digV (hd k.1) = some k.1 := by decide
  exact this ⟨n, h⟩
theorem unhex_hexS (l : List UInt8) : unhex (hexS l) = some l := by
  induction l with
  | nil => rfl
  | cons x l ih =>
    have hx := x.toNat_lt
    have e : hexS (x :: l) = hd (x.toNat / 16) :: hd (x.toNat % 16) :: hexS l := rfl
    rw [e, unhex, digV_hd (by omega), digV_hd (by omega), ih]
    simp only [Option.bind_some, Option.map_some, hexb, Option.some.injEq, List.cons.injEq, and_true]
    apply UInt8.toNat_inj.1
    rw [UInt8.toNat_ofNat']
    omega
theorem byte_ext {x y : UInt8} (h : ∀ r, r < 8 → x.toNat / 2 ^ r % 2 = y.toNat / 2 ^ r % 2) : x = y := by
  apply UInt8.toNat_inj.1
  apply Nat.eq_of_testBit_eq
  intro i
  rcases Nat.lt_or_ge i 8 with hi | hi
  · have := h i hi
    rw [Nat.testBit_eq_decide_div_mod_eq, Nat.testBit_eq_decide_div_mod_eq, this]
  · have hx := x.toNat_lt; have hy := y.toNat_lt
    have hp : (2 : Nat) ^ 8 ≤ 2 ^ i := Nat.pow_le_pow_right (by omega) hi
    rw [Nat.testBit_lt_two_pow (by omega), Nat.testBit_lt_two_pow (by omega)]
theorem key_ext {a b : List UInt8} (ha : a.length = 32) (hb : b.length = 32) (h : ∀ m, m < 256 → bitAt a m = bitAt b m) : a = b := by
  apply List.ext_getElem (by omega)
  intro i h1 h2
  apply byte_ext
  intro r hr
  have := h (8 * i + (7 - r)) (by omega)
  unfold bitAt at this
  rw [show (8 * i + (7 - r)) / 8 = i by omega, show 7 - (8 * i + (7 - r)) % 8 = r by omega, List.getD_eq_getElem?_getD, List.getElem?_eq_getElem h1, List.getD_eq_getElem?_getD, List.getElem?_eq_getElem h2] at this
  exact this
theorem or_bit {x : UInt8} {r q : Nat} (hr : r < 8) (hq : q < 8) : (x ||| pw r).toNat / 2 ^ q % 2 = if q = r then 1 else x.toNat / 2 ^ q % 2 := by
  have e : ∀ n : Nat, n / 2 ^ q % 2 = if n.testBit q then 1 else 0 := by
    intro n
    rw [Nat.testBit_eq_decide_div_mod_eq]
    have := Nat.mod_lt (n / 2 ^ q) (show 0 < 2 by omega)
    by_cases h : n / 2 ^ q % 2 = 1 <;> simp [h]
    omega
  rw [e, e, UInt8.toNat_or, pw_toNat (by omega), Nat.testBit_or, Nat.testBit_two_pow]
  by_cases h : q = r
  · subst h; simp
  · have : ¬ r = q := fun e => h e.symm
    simp [h, this]
theorem keyP_bit (f : Nat → Nat) (hf : ∀ m, f m < 2) (n m : Nat) (hm : m < 256) : bitAt (keyP f n) m = if m < n then f m else 0 := by
  induction n with
  | zero =>
    simp only [keyP, bitAt, List.getD_eq_getElem?_getD, List.getElem?_replicate]
    split <;> simp
  | succ n ih =>
    have hl := keyP_len f n
    simp only [keyP]
    split
    · rename_i hn
      by_cases hb : m / 8 = n / 8
      · have e : bitAt ((keyP f n).set (n / 8) ((keyP f n).getD (n / 8) 0 ||| pw (7 - n % 8))) m = ((keyP f n).getD (n / 8) 0 ||| pw (7 - n % 8)).toNat / 2 ^ (7 - m % 8) % 2 := by
          rw [bitAt, hb, List.getD_eq_getElem?_getD, List.getElem?_set_self (by omega), Option.getD_some]
        rw [e, or_bit (by omega) (by omega)]
        by_cases hmn : m = n
        · subst hmn; rw [if_pos rfl, if_pos (by omega), hn.2]
        · rw [if_neg (by omega)]
          have : (keyP f n).getD (n / 8) 0 = (keyP f n).getD (m / 8) 0 := by rw [hb]
          rw [this]
          have ih2 : ((keyP f n).getD (m / 8) 0).toNat / 2 ^ (7 - m % 8) % 2 = _ := ih
          rw [ih2]
          by_cases h : m < n
          · rw [if_pos h, if_pos (by omega)]
          · rw [if_neg h, if_neg (by omega)]
      · have e : bitAt ((keyP f n).set (n / 8) ((keyP f n).getD (n / 8) 0 ||| pw (7 - n % 8))) m = bitAt (keyP f n) m := by
          rw [bitAt, bitAt, List.getD_eq_getElem?_getD, List.getElem?_set_ne (by omega), ← List.getD_eq_getElem?_getD]
        rw [e, ih]
        by_cases h : m < n
        · rw [if_pos h, if_pos (by omega)]
        · rw [if_neg h, if_neg (by rintro h2; exact hb (by rw [show m = n by omega]))]
    · rename_i hn
      rw [ih]
      by_cases h : m < n
      · rw [if_pos h, if_pos (by omega)]
      · by_cases h2 : m < n + 1
        · have : m = n := by omega
          subst this
          rw [if_neg h, if_pos h2]
          have := hf m
          have : ¬ f m = 1 := fun e => hn ⟨hm, e⟩
          omega
        · rw [if_neg h, if_neg h2]
theorem valV_mk {v : Nat} (h : v < 64) : valV (mk64 v) = some v := by
  have : ∀ k : Fin 64, valV (mk64 k.1) = some k.1 := by decide
  exact this ⟨v, h⟩
theorem mk_valV {c : UInt8} {v : Nat} (h : valV c = some v) : mk64 v = c := by
  have hl := valV_lt h
  rw [valV, List.findIdx?_eq_some_iff_getElem] at h
  obtain ⟨h1, h2, _⟩ := h
  rw [marks_ix hl] at h2
  simpa using h2
theorem six_bits (k : List UInt8) (i j : Nat) (hj : j < 6) : sixP k i 6 / 2 ^ (5 - j) % 2 = bitAt k (6 * i + j) := by
  have h0 := bitAt_lt k (6 * i + 0); have h1 := bitAt_lt k (6 * i + 1); have h2 := bitAt_lt k (6 * i + 2); have h3 := bitAt_lt k (6 * i + 3); have h4 := bitAt_lt k (6 * i + 4); have h5 := bitAt_lt k (6 * i + 5)
  simp only [sixP]
  rcases (show j = 0 ∨ j = 1 ∨ j = 2 ∨ j = 3 ∨ j = 4 ∨ j = 5 by omega) with rfl | rfl | rfl | rfl | rfl | rfl <;> simp only [Nat.sub_zero, Nat.reduceSub, Nat.reducePow] <;> omega
theorem textS_get (k : List UInt8) {i : Nat} (h : i < 43) : (textS k).getD i 0 = mk64 (sixP k i 6) := by
  rw [textS, List.getD_eq_getElem?_getD, List.getElem?_append_left (by rw [textP_len]; exact h), textP, List.getElem?_map, List.getElem?_range h]; rfl
theorem textS_last (k : List UInt8) : (textS k).getD 43 0 = 61 := by
  rw [textS, List.getD_eq_getElem?_getD, List.getElem?_append_right (by rw [textP_len]; omega), textP_len]; rfl
theorem six_lt (k : List UInt8) (i : Nat) : sixP k i 6 < 64 := sixP_lt k i 6
theorem fbit_text (k : List UInt8) {n : Nat} (h : n < 258) : fbit (textS k) n = bitAt k n := by
  rw [fbit, textS_get k (by omega), valV_mk (six_lt _ _), Option.getD_some, six_bits k _ _ (by omega), Nat.div_add_mod]
theorem bitAt_out {k : List UInt8} (hk : k.length = 32) {n : Nat} (h : 256 ≤ n) : bitAt k n = 0 := by
  rw [bitAt, List.getD_eq_getElem?_getD, List.getElem?_eq_none (by omega)]; simp
theorem fbit_lt (s : List UInt8) (n : Nat) : fbit s n < 2 := Nat.mod_lt _ (by omega)
theorem unkey_text {k : List UInt8} (hk : k.length = 32) : unkey (textS k) = some k := by
  rw [unkey, if_pos ⟨textS_len k, textS_last k, fun i hi => by rw [textS_get k hi, valV_mk (six_lt _ _)]; rfl, by rw [fbit_text k (by omega), bitAt_out hk (by omega)], by rw [fbit_text k (by omega), bitAt_out hk (by omega)]⟩]
  congr 1
  apply key_ext (keyP_len _ _) hk
  intro m hm
  rw [keyP_bit _ (fbit_lt _) _ _ hm, if_pos (by omega), fbit_text k (by omega)]
theorem six_of_bits {v : Nat} (hv : v < 64) : v = 2 * (2 * (2 * (2 * (2 * (2 * 0 + v / 32 % 2) + v / 16 % 2) + v / 8 % 2) + v / 4 % 2) + v / 2 % 2) + v / 1 % 2 := by omega
theorem text_unkey {t q : List UInt8} (h : unkey t = some q) : textS q = t ∧ q.length = 32 := by
  rw [unkey] at h
  split at h
  · rename_i hg
    obtain ⟨hl, he, hv, h6, h7⟩ := hg
    have hq : keyP (fbit t) 258 = q := by simpa using h
    have hql : q.length = 32 := by rw [← hq, keyP_len]
    refine ⟨?_, hql⟩
    have hbit : ∀ n, n < 258 → bitAt q n = fbit t n := by
      intro n hn
      rcases Nat.lt_or_ge n 256 with h1 | h1
      · rw [← hq, keyP_bit _ (fbit_lt _) _ _ h1, if_pos (by omega)]
      · rw [bitAt_out hql h1]
        rcases (show n = 256 ∨ n = 257 by omega) with rfl | rfl <;> omega
    apply List.ext_getElem (by rw [textS_len, hl])
    intro i h1 h2
    rw [hl] at h2
    rcases Nat.lt_or_ge i 43 with hi | hi
    · have e1 := textS_get q hi
      rw [List.getD_eq_getElem?_getD, List.getElem?_eq_getElem h1, Option.getD_some] at e1
      rw [e1]
      have hvi := hv i hi
      rw [List.getD_eq_getElem?_getD, List.getElem?_eq_getElem (by omega), Option.getD_some] at hvi
      obtain ⟨v, hvv⟩ := Option.isSome_iff_exists.1 hvi
      have hvl := valV_lt hvv
      rw [← mk_valV hvv]
      congr 1
      have hb : ∀ j, j < 6 → bitAt q (6 * i + j) = v / 2 ^ (5 - j) % 2 := by
        intro j hj
        rw [hbit _ (by omega), fbit, show (6 * i + j) / 6 = i by omega, show (6 * i + j) % 6 = j by omega, List.getD_eq_getElem?_getD, List.getElem?_eq_getElem (by omega), Option.getD_some, hvv]; rfl
      simp only [sixP]
      rw [hb 0 (by omega), hb 1 (by omega), hb 2 (by omega), hb 3 (by omega), hb 4 (by omega), hb 5 (by omega)]
      exact (six_of_bits hvl).symm
    · have hi : i = 43 := by omega
      subst hi
      have e1 := textS_last q
      rw [List.getD_eq_getElem?_getD, List.getElem?_eq_getElem h1, Option.getD_some] at e1
      rw [List.getD_eq_getElem?_getD, List.getElem?_eq_getElem (by omega), Option.getD_some] at he
      rw [e1, he]
  · cases h
end Go.Proofs.Ytnedgmdbehpodaa
