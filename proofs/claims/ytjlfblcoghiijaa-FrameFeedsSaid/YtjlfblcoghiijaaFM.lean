import Derived.Test.YtjlfblcoghiijaaFK
namespace Go.Proofs.Ytjlfblcoghiijaa
open Go Go.Sy
set_option linter.all false
set_option maxRecDepth 100000
set_option maxHeartbeats 4000000
/-! The plain law: frames behind one another, chunks, a changed byte. -/
theorem kindN_app {d c : List UInt8} (h : 0 < d.length) : kindN (d ++ c) = kindN d := by
  cases d with
  | nil => simp at h
  | cons x d => rfl
theorem lenN_app {d c : List UInt8} (h : 4 ≤ d.length) : lenN (d ++ c) = lenN d := by
  rw [lenN, lenN, List.drop_append_of_le_length (by omega), List.take_append_of_le_length (by rw [List.length_drop]; omega)]
theorem sub_app {d c : List UInt8} {a b : Nat} (h : a + b ≤ d.length) : ((d ++ c).drop a).take b = (d.drop a).take b := by
  rw [List.drop_append_of_le_length (by omega), List.take_append_of_le_length (by rw [List.length_drop]; omega)]
theorem fstep_app {d : List UInt8} (c : List UInt8) : (fstep d = .bad → fstep (d ++ c) = .bad) ∧ ∀ k p r, fstep d = .frame k p r → fstep (d ++ c) = .frame k p (r ++ c) := by
  by_cases h8 : d.length < 8
  · have : fstep d = .stop := by unfold fstep; rw [if_pos h8]
    rw [this]
    exact ⟨fun h => (by cases h), fun k p r h => (by cases h)⟩
  · have e1 : kindN (d ++ c) = kindN d := kindN_app (by omega)
    have e2 : lenN (d ++ c) = lenN d := lenN_app (by omega)
    have e3 : (d ++ c).take 4 = d.take 4 := List.take_append_of_le_length (by omega)
    have e4 : ((d ++ c).drop 4).take 4 = (d.drop 4).take 4 := sub_app (by omega)
    have h8' : ¬ (d ++ c).length < 8 := by rw [List.length_append]; omega
    unfold fstep
    rw [if_neg h8, if_neg h8', e1, e2, e3, e4]
    by_cases hb : kindOk (kindN d) = false ∨ 512 < lenN d ∨ sumB (d.take 4) ≠ (d.drop 4).take 4
    · rw [if_pos hb, if_pos hb]
      exact ⟨fun _ => rfl, fun k p r h => (by cases h)⟩
    · rw [if_neg hb, if_neg hb]
      by_cases hl : d.length < lenN d + 12
      · rw [if_pos hl]
        exact ⟨fun h => (by cases h), fun k p r h => (by cases h)⟩
      · have hl' : ¬ (d ++ c).length < lenN d + 12 := by rw [List.length_append]; omega
        rw [if_neg hl, if_neg hl', sub_app (by omega), sub_app (by omega), List.drop_append_of_le_length (by omega)]
        split
        · exact ⟨fun _ => rfl, fun k p r h => (by cases h)⟩
        · refine ⟨fun h => (by cases h), fun k p r h => ?_⟩
          simp only [FS.frame.injEq] at h ⊢
          obtain ⟨rfl, rfl, rfl⟩ := h
          exact ⟨rfl, rfl, rfl⟩
theorem feedA_app : ∀ (n : Nat) (d c : List UInt8), d.length ≤ n → feedA (d ++ c) = match (feedA d).2 with
    | none => ((feedA d).1, none)
    | some r => ((feedA d).1 ++ (feedA (r ++ c)).1, (feedA (r ++ c)).2) := by
  intro n
  induction n with
  | zero =>
    intro d c h
    obtain rfl : d = [] := List.eq_nil_of_length_eq_zero (by omega)
    simp [feedA, feedL]
  | succ n ih =>
    intro d c h
    cases he : fstep d with
    | stop =>
      have e : feedA d = ([], some d) := by rw [feedA_eq, he]
      rw [e]; simp
    | bad =>
      have e : feedA d = ([], none) := by rw [feedA_eq, he]
      rw [e, feedA_eq (d ++ c), (fstep_app c).1 he]
    | frame k p r =>
      have e : feedA d = ((k, p) :: (feedA r).1, (feedA r).2) := by rw [feedA_eq d, he]
      have hr := fstep_rest he
      rw [e, feedA_eq (d ++ c), (fstep_app c).2 _ _ _ he]
      dsimp only
      rw [ih r c (by omega)]
      cases (feedA r).2 <;> simp
theorem feedA_stuck : ∀ (n : Nat) (d : List UInt8) (r : List UInt8), d.length ≤ n → (feedA d).2 = some r → feedA r = ([], some r) := by
  intro n
  induction n with
  | zero =>
    intro d r h hr
    obtain rfl : d = [] := List.eq_nil_of_length_eq_zero (by omega)
    simp [feedA, feedL] at hr; subst hr; simp [feedA, feedL]
  | succ n ih =>
    intro d r h hr
    cases he : fstep d with
    | stop =>
      have e : feedA d = ([], some d) := by rw [feedA_eq, he]
      rw [e] at hr; simp at hr; subst hr; exact e
    | bad => rw [feedA_eq, he] at hr; cases hr
    | frame k p q =>
      rw [feedA_eq, he] at hr
      exact ih q r (by have := fstep_rest he; omega) hr
theorem rbF_be3 {n : Nat} (h : n < 16777216) : rbF (be n 3) = n := by
  simp only [rbF, be, List.range_succ, List.range_zero, List.nil_append, List.map_append, List.map_cons, List.map_nil, List.foldl_append, List.foldl_cons, List.foldl_nil, UInt8.toNat_ofNat']
  omega
theorem fstep_enc {k : Int} {p : List UInt8} (hk : kindOk k = true) (hp : p.length ≤ 512) (rest : List UInt8) : fstep ((encB k p).1 ++ rest) = .frame k p rest := by
  have hh := headB_len k p.length
  have hs := sumB_len (headB k p.length)
  have hs2 := sumB_len p
  have he : (encB k p).1 = headB k p.length ++ sumB (headB k p.length) ++ p ++ sumB p := by rw [encB, if_pos hk, if_pos hp]
  have hk2 : 1 ≤ k ∧ k ≤ 5 := by simpa [kindOk] using hk
  generalize hH : headB k p.length = H at *
  have hx : kindN (H ++ (sumB H ++ (p ++ (sumB p ++ rest)))) = k := by
    rw [kindN_app (by omega), ← hH]
    show (((UInt8.ofNat k.toNat).toNat : Nat) : Int) = k
    rw [UInt8.toNat_ofNat']; omega
  have hn : lenN (H ++ (sumB H ++ (p ++ (sumB p ++ rest)))) = p.length := by
    rw [lenN_app (by omega), ← hH, lenN, headB, List.drop_succ_cons, List.drop_zero, List.take_of_length_le (by rw [be_len]; omega), rbF_be3 (by omega)]
  have e1 : (H ++ (sumB H ++ (p ++ (sumB p ++ rest)))).take 4 = H := by rw [List.take_append_of_le_length (by omega), List.take_of_length_le (by omega)]
  have d4 : (H ++ (sumB H ++ (p ++ (sumB p ++ rest)))).drop 4 = sumB H ++ (p ++ (sumB p ++ rest)) := by rw [List.drop_left' hh]
  have d8 : (H ++ (sumB H ++ (p ++ (sumB p ++ rest)))).drop 8 = p ++ (sumB p ++ rest) := by rw [show 8 = 4 + 4 from rfl, ← List.drop_drop, d4, List.drop_left' hs]
  have dn : (H ++ (sumB H ++ (p ++ (sumB p ++ rest)))).drop (8 + p.length) = sumB p ++ rest := by rw [← List.drop_drop, d8, List.drop_left]
  have dn4 : (H ++ (sumB H ++ (p ++ (sumB p ++ rest)))).drop (8 + p.length + 4) = rest := by rw [← List.drop_drop, dn, List.drop_left' hs2]
  have hl : (H ++ (sumB H ++ (p ++ (sumB p ++ rest)))).length = 12 + p.length + rest.length := by simp [hh, hs, hs2]; omega
  rw [he, List.append_assoc, List.append_assoc, List.append_assoc]
  unfold fstep
  rw [if_neg (by omega), hx, hn, e1, d4, List.take_left' hs, if_neg (by simp [hk]; omega), if_neg (by omega), d8, List.take_left, dn, List.take_left' hs2, dn4]
  simp
theorem feedA_enc {k : Int} {p : List UInt8} (hk : kindOk k = true) (hp : p.length ≤ 512) (rest : List UInt8) : feedA ((encB k p).1 ++ rest) = ((k, p) :: (feedA rest).1, (feedA rest).2) := by rw [feedA_eq, fstep_enc hk hp]
theorem encL_cons (f : Int × List UInt8) (L : List (Int × List UInt8)) : encL (f :: L) = (encB f.1 f.2).1 ++ encL L := by simp [encL]
theorem encL_app (L M : List (Int × List UInt8)) : encL (L ++ M) = encL L ++ encL M := by simp [encL]
theorem feedA_encL : ∀ (L : List (Int × List UInt8)) (rest : List UInt8), frOk L → feedA (encL L ++ rest) = (L ++ (feedA rest).1, (feedA rest).2)
  | [], rest, _ => by simp [encL]
  | f :: L, rest, h => by
    have h1 := h f (by simp)
    rw [encL_cons, List.append_assoc, feedA_enc h1.1 h1.2, feedA_encL L rest fun g hg => h g (by simp [hg])]
    rfl
theorem stepB_inj {a b : Nat} (ha : a < 4294967296) (hb : b < 4294967296) (h : stepB a = stepB b) : a = b := by
  unfold stepB at h
  have hx : ∀ x : Nat, ((x * 2 % 4294967296) ^^^ 79764919) % 2 = 1 := fun x => by
    have := Nat.xor_mod_two_pow (a := x * 2 % 4294967296) (b := 79764919) (n := 1)
    simp only [Nat.pow_one] at this
    rw [this, show x * 2 % 4294967296 % 2 = 0 by omega]
    decide
  split at h <;> split at h
  · have := congrArg (· ^^^ 79764919) h
    simp only [Nat.xor_assoc, Nat.xor_self, Nat.xor_zero] at this
    omega
  · have := hx a; omega
  · have := hx b; omega
  · omega
theorem stepN_inj : ∀ (k : Nat) {a b : Nat}, a < 4294967296 → b < 4294967296 → stepN k a = stepN k b → a = b
  | 0, a, b, _, _, h => h
  | k + 1, a, b, ha, hb, h => stepN_inj k ha hb (stepB_inj (stepN_lt k a ha) (stepN_lt k b hb) h)
theorem crc1_injc {c d : Nat} {x : UInt8} (hc : c < 4294967296) (hd : d < 4294967296) (h : crc1 c x = crc1 d x) : c = d := by
  have := stepN_inj 8 (mix_lt c x hc) (mix_lt d x hd) h
  have := congrArg (· ^^^ (x.toNat * 16777216)) this
  simpa only [Nat.xor_assoc, Nat.xor_self, Nat.xor_zero] using this
theorem crc1_injx {c : Nat} {x y : UInt8} (hc : c < 4294967296) (h : crc1 c x = crc1 c y) : x = y := by
  have := stepN_inj 8 (mix_lt c x hc) (mix_lt c y hc) h
  have := congrArg (c ^^^ ·) this
  simp only [← Nat.xor_assoc, Nat.xor_self, Nat.zero_xor] at this
  exact UInt8.toNat_inj.1 (by omega)
theorem crcF_inj : ∀ (l : List UInt8) {c d : Nat}, c < 4294967296 → d < 4294967296 → l.foldl crc1 c = l.foldl crc1 d → c = d
  | [], c, d, _, _, h => h
  | x :: l, c, d, hc, hd, h => crc1_injc hc hd (crcF_inj l (crc1_lt c x hc) (crc1_lt d x hd) h)
theorem crc_set {l : List UInt8} {i : Nat} {y : UInt8} (hi : i < l.length) (hy : y ≠ l[i]) : crc (l.set i y) ≠ crc l := by
  intro h
  have e1 : l.set i y = l.take i ++ y :: l.drop (i + 1) := by rw [List.set_eq_take_append_cons_drop, if_pos hi]
  have e2 : l = l.take i ++ l[i] :: l.drop (i + 1) := by rw [List.getElem_cons_drop]; exact (List.take_append_drop i l).symm
  rw [e1] at h
  conv at h => rhs; rw [e2]
  unfold crc at h
  rw [List.foldl_append, List.foldl_append, List.foldl_cons, List.foldl_cons] at h
  have hc := crcF_lt (l.take i) 4294967295 (by omega)
  exact hy (crc1_injx hc (crcF_inj _ (crc1_lt _ _ hc) (crc1_lt _ _ hc) h))
theorem be4_inj {a b : Nat} (ha : a < 4294967296) (hb : b < 4294967296) (h : be a 4 = be b 4) : a = b := by
  simp only [be, List.range_succ, List.range_zero, List.nil_append, List.map_append, List.map_cons, List.map_nil, List.cons_append, List.cons.injEq, and_true] at h
  obtain ⟨h1, h2, h3, h4⟩ := h
  have e : ∀ x y : Nat, UInt8.ofNat x = UInt8.ofNat y → x % 256 = y % 256 := fun x y h => by
    have := congrArg UInt8.toNat h
    rwa [UInt8.toNat_ofNat', UInt8.toNat_ofNat'] at this
  have h1 := e _ _ h1
  have h2 := e _ _ h2
  have h3 := e _ _ h3
  have h4 := e _ _ h4
  simp only [Nat.reduceSub, Nat.reducePow, Nat.reduceAdd] at h1 h2 h3 h4
  omega
theorem sumB_set {l : List UInt8} {i : Nat} {y : UInt8} (hi : i < l.length) (hy : y ≠ l[i]) : sumB (l.set i y) ≠ sumB l := fun h => crc_set hi hy (be4_inj (crc_lt _) (crc_lt _) h)
theorem set_ne {l : List UInt8} {i : Nat} {y : UInt8} (hi : i < l.length) (hy : y ≠ l[i]) : l.set i y ≠ l := fun h => by
  have : (l.set i y)[i]? = l[i]? := by rw [h]
  rw [List.getElem?_set_self hi, List.getElem?_eq_getElem hi] at this
  exact hy (by simpa using this)
/-- What the parts of a frame come to. -/
theorem fstep_parts {H S p T rest : List UInt8} (hh : H.length = 4) (hs : S.length = 4) (ht : T.length = 4) :
    (sumB H ≠ S → fstep (H ++ (S ++ (p ++ (T ++ rest)))) = .bad) ∧
    (lenN H = p.length → sumB p ≠ T → fstep (H ++ (S ++ (p ++ (T ++ rest)))) = .bad) := by
  have hn : lenN (H ++ (S ++ (p ++ (T ++ rest)))) = lenN H := lenN_app (by omega)
  have hx : kindN (H ++ (S ++ (p ++ (T ++ rest)))) = kindN H := kindN_app (by omega)
  have e1 : (H ++ (S ++ (p ++ (T ++ rest)))).take 4 = H := by rw [List.take_append_of_le_length (by omega), List.take_of_length_le (by omega)]
  have d4 : (H ++ (S ++ (p ++ (T ++ rest)))).drop 4 = S ++ (p ++ (T ++ rest)) := by rw [List.drop_left' hh]
  have d8 : (H ++ (S ++ (p ++ (T ++ rest)))).drop 8 = p ++ (T ++ rest) := by rw [show 8 = 4 + 4 from rfl, ← List.drop_drop, d4, List.drop_left' hs]
  have dn : (H ++ (S ++ (p ++ (T ++ rest)))).drop (8 + p.length) = T ++ rest := by rw [← List.drop_drop, d8, List.drop_left]
  have hl : (H ++ (S ++ (p ++ (T ++ rest)))).length = 12 + p.length + rest.length := by simp [hh, hs, ht]; omega
  refine ⟨fun h => ?_, fun h1 h => ?_⟩
  · unfold fstep
    rw [if_neg (by omega), hx, hn, e1, d4, List.take_left' hs, if_pos (.inr (.inr h))]
  · unfold fstep
    rw [if_neg (by omega), hx, hn, e1, d4, List.take_left' hs, h1]
    split
    · rfl
    · rw [if_neg (by omega), d8, List.take_left, dn, List.take_left' ht, if_pos h]
theorem fstep_flip {k : Int} {p : List UInt8} (hk : kindOk k = true) (hp : p.length ≤ 512) (rest : List UInt8) {j : Nat} {y : UInt8} (hj : j < (encB k p).1.length) (hy : y ≠ (encB k p).1[j]) : fstep ((encB k p).1.set j y ++ rest) = .bad := by
  have hh := headB_len k p.length
  have hs := sumB_len (headB k p.length)
  have hs2 := sumB_len p
  have he : (encB k p).1 = headB k p.length ++ (sumB (headB k p.length) ++ (p ++ sumB p)) := by rw [encB, if_pos hk, if_pos hp]; simp
  have hn : lenN (headB k p.length) = p.length := by rw [lenN, headB, List.drop_succ_cons, List.drop_zero, List.take_of_length_le (by rw [be_len]; omega), rbF_be3 (by omega)]
  generalize headB k p.length = H at *
  generalize hE : (encB k p).1 = E at *
  subst he
  have hlen : (H ++ (sumB H ++ (p ++ sumB p))).length = 12 + p.length := by simp [hh, hs, hs2]; omega
  rw [hlen] at hj
  by_cases h1 : j < 4
  · rw [List.set_append_left _ _ (by omega)]
    rw [List.getElem_append_left (by omega)] at hy
    have := (fstep_parts (H := H.set j y) (S := sumB H) (p := p) (T := sumB p) (rest := rest) (by simp [hh]) hs hs2).1 (sumB_set (by omega) hy)
    simpa using this
  rw [List.set_append_right _ _ (by omega)]
  rw [List.getElem_append_right (by omega)] at hy
  simp only [hh] at hy ⊢
  by_cases h2 : j < 8
  · rw [List.set_append_left _ _ (by omega)]
    rw [List.getElem_append_left (by omega)] at hy
    have := (fstep_parts (H := H) (S := (sumB H).set (j - 4) y) (p := p) (T := sumB p) (rest := rest) hh (by simp [hs]) hs2).1 (Ne.symm (set_ne (by omega) hy))
    simpa using this
  rw [List.set_append_right _ _ (by omega)]
  rw [List.getElem_append_right (by omega)] at hy
  simp only [hs] at hy ⊢
  by_cases h3 : j < 8 + p.length
  · rw [List.set_append_left _ _ (by omega)]
    rw [List.getElem_append_left (by omega)] at hy
    have := (fstep_parts (H := H) (S := sumB H) (p := p.set (j - 4 - 4) y) (T := sumB p) (rest := rest) hh hs hs2).2 (by simpa using hn) (sumB_set (by omega) hy)
    simpa using this
  · rw [List.set_append_right _ _ (by omega)]
    rw [List.getElem_append_right (by omega)] at hy
    have := (fstep_parts (H := H) (S := sumB H) (p := p) (T := (sumB p).set (j - 4 - 4 - p.length) y) (rest := rest) hh hs (by simp [hs2])).2 hn (Ne.symm (set_ne (by omega) hy))
    simpa using this
theorem fstep_short {k : Int} {p : List UInt8} (hk : kindOk k = true) (hp : p.length ≤ 512) {j : Nat} (hj : j < (encB k p).1.length) : fstep ((encB k p).1.take j) = .stop := by
  by_cases h8 : j < 8
  · unfold fstep; rw [if_pos (by rw [List.length_take]; omega)]
  · have h := fstep_enc hk hp []
    rw [List.append_nil] at h
    obtain ⟨E, hE⟩ : ∃ E, (encB k p).1 = E := ⟨_, rfl⟩
    rw [hE] at hj h ⊢
    have hl : (E.take j).length = j := by rw [List.length_take]; omega
    have e0 : E = E.take j ++ E.drop j := (List.take_append_drop j E).symm
    have a1 : kindN E = kindN (E.take j) := by (conv => lhs; rw [e0]); exact kindN_app (by omega)
    have a2 : lenN E = lenN (E.take j) := by (conv => lhs; rw [e0]); exact lenN_app (by omega)
    have a3 : E.take 4 = (E.take j).take 4 := by rw [List.take_take, Nat.min_eq_left (by omega)]
    have a4 : (E.drop 4).take 4 = ((E.take j).drop 4).take 4 := by (conv => lhs; rw [e0]); exact sub_app (by omega)
    have hlen : lenN E + 12 = E.length := by
      have he : (encB k p).1.length = 12 + p.length := by rw [encB, if_pos hk, if_pos hp]; simp [headB_len, sumB_len]; omega
      unfold fstep at h
      split at h
      · cases h
      split at h
      · cases h
      split at h
      · cases h
      split at h
      · cases h
      · simp only [FS.frame.injEq] at h
        have := congrArg List.length h.2.1
        rw [List.length_take, List.length_drop] at this
        rw [hE] at he
        omega
    unfold fstep at h ⊢
    rw [if_neg (by omega)] at h ⊢
    rw [← a1, ← a2, ← a3, ← a4]
    split at h
    · cases h
    · rename_i hc
      rw [if_neg hc, if_pos (by omega)]
/-- One changed byte, and a missing end. -/
theorem detect {L : List (Int × List UInt8)} {n i : Nat} {y : UInt8} (hL : frOk L) (hn : n < L.length) (h1 : (encL (L.take n)).length ≤ i) (h2 : i < (encL (L.take (n + 1))).length) (hi : i < (encL L).length) (hy : y ≠ (encL L)[i]) :
    feedA ((encL L).set i y) = (L.take n, none) ∧ ∃ r, feedA ((encL L).take i) = (L.take n, some r) := by
  have hok : frOk (L.take n) := fun f hf => hL f (List.mem_of_mem_take hf)
  obtain ⟨hk, hp⟩ := hL L[n] (List.getElem_mem hn)
  obtain ⟨E, hE⟩ : ∃ E, (encB L[n].1 L[n].2).1 = E := ⟨_, rfl⟩
  have e1 : encL (L.take (n + 1)) = encL (L.take n) ++ E := by rw [List.take_succ_eq_append_getElem hn, encL_app, encL_cons, hE]; simp [encL]
  have e2 : encL L = encL (L.take n) ++ (E ++ encL (L.drop (n + 1))) := by
    conv => lhs; rw [← List.take_append_drop n L]
    rw [encL_app, List.drop_eq_getElem_cons hn, encL_cons, hE]
  rw [e1, List.length_append] at h2
  generalize hA : encL (L.take n) = A at *
  have hy' : y ≠ E[i - A.length]'(by omega) := by
    intro h; apply hy; rw [h]
    simp only [e2]
    rw [List.getElem_append_right (by omega), List.getElem_append_left (by omega)]
  constructor
  · rw [e2, List.set_append_right _ _ h1, List.set_append_left _ _ (by omega), ← hA, feedA_encL _ _ hok, feedA_eq, ← hE]
    rw [hA]
    rw [fstep_flip hk hp _ (by rw [hE]; omega) (by simpa only [hE] using hy')]
    simp
  · rw [e2, List.take_append, List.take_of_length_le h1, List.take_append_of_le_length (by omega), ← hA, feedA_encL _ _ hok, feedA_eq, ← hE]
    rw [hA]
    rw [fstep_short hk hp (by rw [hE]; omega)]
    simp
end Go.Proofs.Ytjlfblcoghiijaa
