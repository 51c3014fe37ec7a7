import Derived.Test.YtjlfblcoghiijaaSyZ
import Derived.Test.YtjlfblcoghiijaaSyX
import Derived.Laws.BitsAllLaws
namespace Go.Proofs.Ytjlfblcoghiijaa
open Go Go.Sy
set_option linter.all false
set_option maxRecDepth 100000
set_option maxHeartbeats 4000000
/-- Operations on bytes. -/
theorem xor_byte (a b : UInt8) : bits .xor .u8 (a.toNat : Int) (b.toNat : Int) = ((a ^^^ b).toNat : Int) := by
  rw [u8_xor_nat _ _ a.toNat_lt b.toNat_lt, UInt8.toNat_xor]
theorem or_byte (a b : UInt8) : bits .or .u8 (a.toNat : Int) (b.toNat : Int) = ((a ||| b).toNat : Int) := by
  rw [u8_or_nat _ _ a.toNat_lt b.toNat_lt, UInt8.toNat_or]
theorem and_byte (a b : UInt8) : bits .and .u8 (a.toNat : Int) (b.toNat : Int) = ((a &&& b).toNat : Int) := by
  rw [u8_and_nat _ _ a.toNat_lt b.toNat_lt, UInt8.toNat_and]
theorem xor_nat (a b : UInt8) : bits .xor .u8 (a.toNat : Int) (b.toNat : Int) = ((a.toNat ^^^ b.toNat : Nat) : Int) := u8_xor_nat _ _ a.toNat_lt b.toNat_lt
theorem or_nat (a b : UInt8) : bits .or .u8 (a.toNat : Int) (b.toNat : Int) = ((a.toNat ||| b.toNat : Nat) : Int) := u8_or_nat _ _ a.toNat_lt b.toNat_lt
theorem and_nat (a b : UInt8) : bits .and .u8 (a.toNat : Int) (b.toNat : Int) = ((a.toNat &&& b.toNat : Nat) : Int) := u8_and_nat _ _ a.toNat_lt b.toNat_lt
theorem xor_fold (a b : UInt8) : CV.int .u8 ((a.toNat ^^^ b.toNat : Nat) : Int) = byteC (a ^^^ b) := by rw [byteC, UInt8.toNat_xor]
theorem or_fold (a b : UInt8) : CV.int .u8 ((a.toNat ||| b.toNat : Nat) : Int) = byteC (a ||| b) := by rw [byteC, UInt8.toNat_or]
theorem and_fold (a b : UInt8) : CV.int .u8 ((a.toNat &&& b.toNat : Nat) : Int) = byteC (a &&& b) := by rw [byteC, UInt8.toNat_and]
theorem int_byte (b : UInt8) : CV.int .u8 (b.toNat : Int) = byteC b := rfl
theorem bytes_mid (l m : List UInt8) (x : UInt8) : l.map byteC ++ byteC x :: m.map byteC = (l ++ x :: m).map byteC := by simp
section
variable {α : Type} {l m : List α} {n : Nat}
theorem take_all (h : l.length ≤ n) : l.take n = l := List.take_of_length_le h
theorem drop_all (h : l.length ≤ n) : l.drop n = [] := List.drop_eq_nil_of_le h
theorem take_app (h : l.length ≤ n) : (l ++ m).take n = l ++ m.take (n - l.length) := by rw [List.take_append, List.take_of_length_le h]
theorem drop_app (h : l.length ≤ n) : (l ++ m).drop n = m.drop (n - l.length) := by rw [List.drop_append, List.drop_eq_nil_of_le h, List.nil_append]
theorem take_app' (h : n ≤ l.length) : (l ++ m).take n = l.take n := List.take_append_of_le_length h
theorem drop_app' (h : n ≤ l.length) : (l ++ m).drop n = l.drop n ++ m := List.drop_append_of_le_length h
end
section
variable {l : List UInt8} {m : List CV} {n : Nat}
theorem take_bapp (h : l.length ≤ n) : (l.map byteC ++ m).take n = l.map byteC ++ m.take (n - l.length) := by rw [take_app (by simpa using h)]; simp
theorem drop_bapp (h : l.length ≤ n) : (l.map byteC ++ m).drop n = m.drop (n - l.length) := by rw [drop_app (by simpa using h)]; simp
theorem take_bapp' (h : n ≤ l.length) : (l.map byteC ++ m).take n = (l.take n).map byteC := by rw [take_app' (by simpa using h), bytes_take]
theorem drop_bapp' (h : n ≤ l.length) : (l.map byteC ++ m).drop n = (l.drop n).map byteC ++ m := by rw [drop_app' (by simpa using h), bytes_drop]
end
attribute [go_sem] take_all drop_all take_app drop_app take_app' drop_app' take_bapp drop_bapp take_bapp' drop_bapp'
theorem fdivL0 (a : Int) : a.fdiv 1 = a / 1 := Int.fdiv_eq_ediv_of_nonneg a (by omega)
theorem fdivL1 (a : Int) : a.fdiv 2 = a / 2 := Int.fdiv_eq_ediv_of_nonneg a (by omega)
theorem fdivL2 (a : Int) : a.fdiv 4 = a / 4 := Int.fdiv_eq_ediv_of_nonneg a (by omega)
theorem fdivL3 (a : Int) : a.fdiv 8 = a / 8 := Int.fdiv_eq_ediv_of_nonneg a (by omega)
theorem fdivL4 (a : Int) : a.fdiv 16 = a / 16 := Int.fdiv_eq_ediv_of_nonneg a (by omega)
theorem fdivL5 (a : Int) : a.fdiv 32 = a / 32 := Int.fdiv_eq_ediv_of_nonneg a (by omega)
theorem fdivL6 (a : Int) : a.fdiv 64 = a / 64 := Int.fdiv_eq_ediv_of_nonneg a (by omega)
theorem fdivL7 (a : Int) : a.fdiv 128 = a / 128 := Int.fdiv_eq_ediv_of_nonneg a (by omega)
theorem fdivL8 (a : Int) : a.fdiv 256 = a / 256 := Int.fdiv_eq_ediv_of_nonneg a (by omega)
theorem fdivL9 (a : Int) : a.fdiv 512 = a / 512 := Int.fdiv_eq_ediv_of_nonneg a (by omega)
theorem fdivL10 (a : Int) : a.fdiv 1024 = a / 1024 := Int.fdiv_eq_ediv_of_nonneg a (by omega)
theorem fdivL11 (a : Int) : a.fdiv 2048 = a / 2048 := Int.fdiv_eq_ediv_of_nonneg a (by omega)
theorem fdivL12 (a : Int) : a.fdiv 4096 = a / 4096 := Int.fdiv_eq_ediv_of_nonneg a (by omega)
theorem fdivL13 (a : Int) : a.fdiv 8192 = a / 8192 := Int.fdiv_eq_ediv_of_nonneg a (by omega)
theorem fdivL14 (a : Int) : a.fdiv 16384 = a / 16384 := Int.fdiv_eq_ediv_of_nonneg a (by omega)
theorem fdivL15 (a : Int) : a.fdiv 32768 = a / 32768 := Int.fdiv_eq_ediv_of_nonneg a (by omega)
theorem fdivL16 (a : Int) : a.fdiv 65536 = a / 65536 := Int.fdiv_eq_ediv_of_nonneg a (by omega)
theorem fdivL24 (a : Int) : a.fdiv 16777216 = a / 16777216 := Int.fdiv_eq_ediv_of_nonneg a (by omega)
theorem fdivL31 (a : Int) : a.fdiv 2147483648 = a / 2147483648 := Int.fdiv_eq_ediv_of_nonneg a (by omega)
theorem fdivL32 (a : Int) : a.fdiv 4294967296 = a / 4294967296 := Int.fdiv_eq_ediv_of_nonneg a (by omega)
theorem fdivL40 (a : Int) : a.fdiv 1099511627776 = a / 1099511627776 := Int.fdiv_eq_ediv_of_nonneg a (by omega)
theorem fdivL48 (a : Int) : a.fdiv 281474976710656 = a / 281474976710656 := Int.fdiv_eq_ediv_of_nonneg a (by omega)
theorem fdivL56 (a : Int) : a.fdiv 72057594037927936 = a / 72057594037927936 := Int.fdiv_eq_ediv_of_nonneg a (by omega)
theorem fdivL62 (a : Int) : a.fdiv 4611686018427387904 = a / 4611686018427387904 := Int.fdiv_eq_ediv_of_nonneg a (by omega)
theorem fdivL63 (a : Int) : a.fdiv 9223372036854775808 = a / 9223372036854775808 := Int.fdiv_eq_ediv_of_nonneg a (by omega)
attribute [go_sem] fdivL0 fdivL1 fdivL2 fdivL3 fdivL4 fdivL5 fdivL6 fdivL7 fdivL8 fdivL9 fdivL10 fdivL11 fdivL12 fdivL13 fdivL14 fdivL15 fdivL16 fdivL24 fdivL31 fdivL32 fdivL40 fdivL48 fdivL56 fdivL62 fdivL63
theorem head_bytes {l : List UInt8} (h : 0 < l.length) : (l.map byteC).head? = some (byteC l[0]) := by cases l with | nil => simp at h | cons x l => rfl
attribute [go_sem] head_bytes
theorem toNat_ediv' {a b : Int} (ha : 0 ≤ a) (hb : 0 ≤ b) : (a / b).toNat = a.toNat / b.toNat := by
  obtain ⟨m, rfl⟩ := Int.eq_ofNat_of_zero_le ha; obtain ⟨n, rfl⟩ := Int.eq_ofNat_of_zero_le hb
  rw [← Int.natCast_ediv, Int.toNat_natCast, Int.toNat_natCast, Int.toNat_natCast]
theorem toNat_emod' {a b : Int} (ha : 0 ≤ a) (hb : 0 ≤ b) : (a % b).toNat = a.toNat % b.toNat := by
  obtain ⟨m, rfl⟩ := Int.eq_ofNat_of_zero_le ha; obtain ⟨n, rfl⟩ := Int.eq_ofNat_of_zero_le hb
  rw [← Int.natCast_emod, Int.toNat_natCast, Int.toNat_natCast, Int.toNat_natCast]
theorem toNat_succ' {a : Int} (ha : 0 ≤ a) : (a + 1).toNat = a.toNat + 1 := by omega
attribute [go_sem] toNat_ediv' toNat_emod' toNat_succ'
theorem i64_or_nat (a b : Nat) (ha : a < 9223372036854775808) (hb : b < 9223372036854775808) : bits .or .i64 (a : Int) (b : Int) = ((a ||| b : Nat) : Int) := by
  have hx : a ||| b < 2 ^ 63 := Nat.or_lt_two_pow (by omega) (by omega)
  show IntKind.i64.wrap ((BitVec.ofInt 64 (a : Int) ||| BitVec.ofInt 64 (b : Int)).toNat : Int) = _
  rw [BitVec.toNat_or, ofInt_u64 a (by omega), ofInt_u64 b (by omega), wi64 (by omega)]
theorem i64_and_nat (a b : Nat) (ha : a < 9223372036854775808) (hb : b < 9223372036854775808) : bits .and .i64 (a : Int) (b : Int) = ((a &&& b : Nat) : Int) := by
  have hx : a &&& b < 2 ^ 63 := Nat.and_lt_two_pow _ (by omega)
  show IntKind.i64.wrap ((BitVec.ofInt 64 (a : Int) &&& BitVec.ofInt 64 (b : Int)).toNat : Int) = _
  rw [BitVec.toNat_and, ofInt_u64 a (by omega), ofInt_u64 b (by omega), wi64 (by omega)]
theorem or_even {n : Nat} {x : Int} (hn : n < 4611686018427387904) : bits .or .i64 ((n : Int) * 2) (x % 2) = (n : Int) * 2 + x % 2 := by
  obtain ⟨b, hb, hx⟩ : ∃ b : Nat, b < 2 ∧ x % 2 = b := ⟨(x % 2).toNat, by omega, by omega⟩
  rw [hx, show ((n : Int) * 2) = ((2 * n : Nat) : Int) by omega, i64_or_nat _ _ (by omega) (by omega), nat_join1 _ _ (by omega) hb]; omega
theorem div_pow_lt {n : Nat} (m : Nat) {b : Int} (h : (n : Int) < b) : 0 ≤ (n : Int) / 2 ^ m ∧ (n : Int) / 2 ^ m < b := by
  have : ((n : Int) / 2 ^ m) = ((n / 2 ^ m : Nat) : Int) := by rw [Int.natCast_ediv]; simp
  have h2 := Nat.div_le_self n (2 ^ m)
  rw [this]; generalize n / 2 ^ m = d at h2 ⊢; omega
theorem and1_u8 {x : Int} (h : 0 ≤ x ∧ x < 256) : bits .and .u8 x 1 = x % 2 := by
  obtain ⟨n, rfl⟩ := Int.eq_ofNat_of_zero_le h.1
  have := u8_and_nat n 1 (by omega) (by omega)
  rw [show ((1 : Nat) : Int) = 1 from rfl] at this
  rw [this, show (1 : Nat) = 2 ^ 1 - 1 from rfl, Nat.and_two_pow_sub_one_eq_mod]; omega
theorem and1_i64 {x : Int} (h : 0 ≤ x ∧ x < 9223372036854775808) : bits .and .i64 x 1 = x % 2 := by
  obtain ⟨n, rfl⟩ := Int.eq_ofNat_of_zero_le h.1
  have := i64_and_nat n 1 (by omega) (by omega)
  rw [show ((1 : Nat) : Int) = 1 from rfl] at this
  rw [this, show (1 : Nat) = 2 ^ 1 - 1 from rfl, Nat.and_two_pow_sub_one_eq_mod]; omega
/-- A row of the call's own that grows by appends, behind the boxes B0; begun with nothing. -/
def Grow (B0 : List Box) (sz : Nat) (c : CV) (B : List Box) (n : Nat) (cells : List CV) : Prop :=
  cells.length = n * sz ∧ ((n = 0 ∧ (c = .nilS ∨ c = .lst 0 [] true) ∧ B = B0) ∨ (0 < n ∧ ∃ m, c = .view B0.length 0 n sz false ∧ B = B0 ++ [⟨cells, m⟩]))
theorem Grow.nil (B0 : List Box) (sz : Nat) : Grow B0 sz .nilS B0 0 [] := ⟨by simp, .inl ⟨rfl, .inl rfl, rfl⟩⟩
theorem Grow.empty (B0 : List Box) (sz : Nat) : Grow B0 sz (.lst 0 [] true) B0 0 [] := ⟨by simp, .inl ⟨rfl, .inr rfl, rfl⟩⟩
theorem Grow.app {P : Program} {e : TypeId} {B0 : List Box} {sz : Nat} {c : CV} {B : List Box} {n : Nat} {cells : List CV} (h : Grow B0 sz c B n cells) (x : CV) (m : Nat) (news : List CV) (hx : srcC B sz x = some (m, news)) (hm : news.length = m * sz)
    (hb : (n + m) * P.bytesOf e ≤ 140737488355328 ∧ n + m ≤ 140737488355328) : ∃ c' B', appendK P e sz B c x = some (c', B') ∧ Grow B0 sz c' B' (n + m) (cells ++ news) := by
  obtain ⟨hl, h⟩ := h
  rcases Nat.eq_zero_or_pos m with rfl | hp
  · have hnil : news = [] := List.eq_nil_of_length_eq_zero (by simpa using hm)
    subst hnil
    refine ⟨c, B, ?_, by simpa using hl, by simpa using h⟩
    simp only [appendK]
    rcases h with ⟨_, rfl | rfl, _⟩ | ⟨_, _, rfl, _⟩ <;> simp [hx, appendM_nilS, appendM_lst, appendM_view]
  · rcases h with ⟨rfl, rfl | rfl, rfl⟩ | ⟨h0, k, rfl, rfl⟩
    · have hc : cells = [] := List.eq_nil_of_length_eq_zero (by simpa using hl)
      subst hc
      refine ⟨.view B.length 0 m sz false, B ++ [{ cells := news }], ?_, by simpa using hm, .inr ⟨by omega, false, by simp, by simp⟩⟩
      simp only [appendK]
      rw [Nat.zero_add] at hb
      simp [hx, appendM_nilS, appendM_lst, appendM_view, Nat.pos_iff_ne_zero.1 hp, hb]
    · have hc : cells = [] := List.eq_nil_of_length_eq_zero (by simpa using hl)
      subst hc
      refine ⟨.view B.length 0 m sz false, B ++ [{ cells := news }], ?_, by simpa using hm, .inr ⟨by omega, false, by simp, by simp⟩⟩
      simp only [appendK]
      rw [Nat.zero_add] at hb
      simp [hx, appendM_nilS, appendM_lst, appendM_view, Nat.pos_iff_ne_zero.1 hp, hb]
    · refine ⟨.view B0.length 0 (n + m) sz false, B0 ++ [⟨cells ++ news, true⟩], ?_, by simp [hl, hm, Nat.add_mul], .inr ⟨by omega, true, rfl, rfl⟩⟩
      simp only [appendK]
      simp [hx, appendM_nilS, appendM_lst, appendM_view, Nat.pos_iff_ne_zero.1 hp, hb, hl]
theorem Grow.fz {B0 : List Box} {sz : Nat} {c : CV} {B : List Box} {n : Nat} {cells : List CV} (h : Grow B0 sz c B n cells) (k : Nat) (hs : omap (fz true true B k) cells = some cells) : fz true true B (k + 1) c = some (.lst n cells false) := by
  obtain ⟨hl, ⟨rfl, rfl | rfl, rfl⟩ | ⟨h0, m, rfl, rfl⟩⟩ := h
  · have : cells = [] := List.eq_nil_of_length_eq_zero (by simpa using hl)
    subst this; simp [fz_nilS]
  · have : cells = [] := List.eq_nil_of_length_eq_zero (by simpa using hl)
    subst this; simp [fz_lst, omap_nil]
  · rw [fz_view]
    simp only [List.getElem?_concat_length, List.drop_zero]
    rw [List.take_of_length_le (by omega), hs]; simp
theorem Grow.read {B0 : List Box} {sz : Nat} {c : CV} {B : List Box} {n : Nat} {cells : List CV} (h : Grow B0 sz c B n cells) : readC B sz c = some (n, cells) := by
  obtain ⟨hl, ⟨rfl, rfl | rfl, rfl⟩ | ⟨h0, m, rfl, rfl⟩⟩ := h
  · have : cells = [] := List.eq_nil_of_length_eq_zero (by simpa using hl)
    subst this; simp [readC]
  · have : cells = [] := List.eq_nil_of_length_eq_zero (by simpa using hl)
    subst this; simp [readC]
  · simp only [readC, List.getElem?_concat_length, List.drop_zero, if_pos]
    rw [List.take_of_length_le (by omega)]
theorem Grow.view {B0 : List Box} {sz : Nat} {c : CV} {B : List Box} {n : Nat} {cells : List CV} (h : Grow B0 sz c B n cells) (hn : 0 < n) : ∃ m, c = .view B0.length 0 n sz false ∧ B = B0 ++ [⟨cells, m⟩] := by
  obtain ⟨_, ⟨rfl, _⟩ | ⟨_, m, h1, h2⟩⟩ := h
  · omega
  · exact ⟨m, h1, h2⟩
theorem Grow.old {B0 : List Box} {sz : Nat} {c : CV} {B : List Box} {n : Nat} {cells : List CV} (h : Grow B0 sz c B n cells) {b : Nat} {box : Box} (hb : B0[b]? = some box) : B[b]? = some box := by
  obtain ⟨hl, ⟨rfl, _, rfl⟩ | ⟨h0, m, rfl, rfl⟩⟩ := h
  · exact hb
  · rw [List.getElem?_append_left (List.getElem?_eq_some_iff.1 hb).1]; exact hb
theorem omap_app {f : CV → Option CV} : ∀ {a b : List CV}, omap f (a ++ b) = (omap f a).bind fun x => (omap f b).map (x ++ ·)
  | [], b => by rw [List.nil_append, omap_nil]; cases omap f b <;> rfl
  | c :: a, b => by rw [List.cons_append, omap_two, omap_two, omap_app]; cases f c <;> cases omap f a <;> cases omap f b <;> rfl
attribute [go_sem] omap_app
/-- A byte string that grows. -/
abbrev GrowB (B0 : List Box) (c : CV) (B : List Box) (l : List UInt8) : Prop := Grow B0 1 c B l.length (l.map byteC)
theorem GrowB.app {P : Program} {e : TypeId} {B0 : List Box} {c : CV} {B : List Box} {l : List UInt8} (h : GrowB B0 c B l) (x : CV) (m : List UInt8) (hx : srcC B 1 x = some (m.length, m.map byteC)) (he : P.bytesOf e = 1) (hb : l.length + m.length ≤ 140737488355328) :
    ∃ c' B', appendK P e 1 B c x = some (c', B') ∧ GrowB B0 c' B' (l ++ m) := by
  obtain ⟨c', B', h1, h2⟩ := Grow.app (P := P) (e := e) h x m.length (m.map byteC) hx (by simp) (by rw [he]; omega)
  exact ⟨c', B', h1, by simpa [GrowB] using h2⟩
theorem GrowB.fz {B0 : List Box} {c : CV} {B : List Box} {l : List UInt8} (h : GrowB B0 c B l) (k : Nat) : Go.Sy.fz true true B (k + 2) c = some (lb l) := Grow.fz h (k + 1) (omap_bytes l)
/-- A byte string with one byte changed. -/
def flip (l : List UInt8) (i : Nat) (b : UInt8) : List UInt8 := l.set i ((l.getD i 0) ^^^ b)
theorem flip_len (l : List UInt8) (i : Nat) (b : UInt8) : (flip l i b).length = l.length := by simp [flip]
theorem flip_eq (l : List UInt8) (i : Nat) (b : UInt8) (h : i < l.length) : l.take i ++ (l[i] ^^^ b) :: l.drop (i + 1) = flip l i b := by
  rw [flip, List.set_eq_take_append_cons_drop, if_pos h, List.getD_eq_getElem?_getD, List.getElem?_eq_getElem h, Option.getD_some]
theorem flip_same {l : List UInt8} {i : Nat} {x : UInt8} (h : i < l.length) : (l == flip l i x) = (x == 0) := by
  rw [Bool.eq_iff_iff, beq_iff_eq, beq_iff_eq]
  constructor
  · intro he
    have h2 : l[i]? = (flip l i x)[i]? := by rw [← he]
    rw [flip, List.getElem?_set_self h, List.getElem?_eq_getElem h, List.getD_eq_getElem?_getD, List.getElem?_eq_getElem h, Option.getD_some] at h2
    have h3 := Option.some.inj h2
    have h4 : l[i] ^^^ l[i] = l[i] ^^^ (l[i] ^^^ x) := by rw [← h3]
    rw [← UInt8.xor_assoc, UInt8.xor_self, UInt8.zero_xor] at h4
    exact h4.symm
  · rintro rfl
    rw [flip, List.getD_eq_getElem?_getD, List.getElem?_eq_getElem h, Option.getD_some, UInt8.xor_zero, List.set_getElem_self]
end Go.Proofs.Ytjlfblcoghiijaa
