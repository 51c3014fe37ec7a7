/- Lemmas and definitions of this claim (own texts, joined by a program; what the claim does not use is left out). -/
import Derived.Test.YtdceppjoipoohaaDoorCc6
section
namespace Go.Proofs.YtdceppjoipoohaaDoor
open Go Go.Sy
set_option linter.all false
set_option maxRecDepth 100000
set_option maxHeartbeats 4000000
def hexD (d : Nat) : UInt8 := if d < 10 then UInt8.ofNat (48 + d) else UInt8.ofNat (87 + d)
def hexT (u : Nat) : List UInt8 :=
  if h : u < 16 then [hexD u] else hexT (u / 16) ++ [hexD (u % 16)]
termination_by u
decreasing_by omega
theorem tz_at {B : List Box} : ACall Tryd.prog 109 [.int .u64 16] B fun c B' => c = .int .i64 4 ∧ B' = B := by
  have h64 : ∀ {B : List Box} {args : List CV}, Is args [.int .u64 16] → ACall Tryd.prog 119 args B fun c B' => c = .int .i64 4 ∧ B' = B := fun {B args} h => by
    have h : _ = _ := h
    subst h
    refine acall_intro mixed Tryd.func119 rfl ca119 (by kernel_rfl) (by rw [Tryd.ntmps119]; simp) ?_
    have e1 : bits .and .u64 16 (IntKind.u64.wrap (-16)) = 16 := by decide
    have ht : tab 3 = some (.u8, [0, 1, 56, 2, 57, 49, 28, 3, 61, 58, 42, 50, 38, 29, 17, 4, 62, 47, 59, 36, 45, 43, 51, 22, 53, 39, 33, 30, 24, 18, 12, 5, 63, 55, 48, 27, 60, 41, 37, 16, 46, 35, 44, 21, 52, 32, 23, 11, 54, 26, 40, 15, 34, 20, 31, 10, 25, 14, 19, 9, 13, 8, 7, 6]) := rfl
    repeat' (first | (with_reducible first | apply jA | apply jB | apply jC | apply jD | apply jE | apply jF | apply jG | apply jH | apply jI | apply jJ | apply jK | apply jL | apply jM | apply jN | apply jO) | ((with_reducible first | apply jP | apply jQ); rfl) | ((first | ((with_reducible first | apply jR | apply jS | apply jT); rfl; rfl) | (with_reducible first | apply jU | apply jV | apply jW) | ((with_reducible first | apply jX | apply jY | apply jZ); rfl)); all_goals (first | ((with_reducible show Is _ _); exact kE) | ((with_reducible refine fun (hc : (_ : Bool) = _) => ?_); (try simp only [xZ, xY, xP, reduceCtorEq] at hc); (try (have hx : True := hc; clear hx hc)); (try exact kX)) | ((fail_if_success (with_reducible first | show Is _ _ | show ACall _ _ _ _ _)); (try ((with_reducible show _ ∨ _); exact kT))))))
    exact ⟨rfl, rfl⟩
  refine acall_intro mixed Tryd.func109 rfl ca109 (by kernel_rfl) (by rw [Tryd.ntmps109]; simp) ?_
  repeat' (first | (with_reducible first | apply jA | apply jB | apply jC | apply jD | apply jE | apply jF | apply jG | apply jH | apply jI | apply jJ | apply jK | apply jL | apply jM | apply jN | apply jO) | ((with_reducible first | apply jP | apply jQ); rfl) | ((first | ((with_reducible first | apply jR | apply jS | apply jT); rfl; rfl) | (with_reducible first | apply jU | apply jV | apply jW) | ((with_reducible first | apply jX | apply jY | apply jZ); rfl) | ((with_reducible first | apply kA | apply kB | apply kC); rfl)); all_goals (first | ((with_reducible show Is _ _); exact kE) | ((with_reducible refine fun (hc : (_ : Bool) = _) => ?_); (try simp only [xZ, xY, xP, reduceCtorEq] at hc); (try (have hx : True := hc; clear hx hc)); (try exact kX)) | ((with_reducible show ACall _ _ _ _ _); (first | ((with_reducible apply h64) <;> exact kD))) | ((fail_if_success (with_reducible first | show Is _ _ | show ACall _ _ _ _ _)); (try ((with_reducible show _ ∨ _); exact kT))))))
  exact ⟨rfl, rfl⟩
theorem pow2_at {B : List Box} {args : List CV} (ha : Is args [.int .i64 16]) : ACall Tryd.prog 108 args B fun c B' => c = .bool true ∧ B' = B := by
  have h : _ = _ := ha
  subst h
  have e1 : bits .and .i64 16 15 = 0 := by decide
  refine acall_intro mixed Tryd.func108 rfl ca108 (by kernel_rfl) (by rw [Tryd.ntmps108]; simp) ?_
  repeat' (first | (with_reducible first | apply jA | apply jB | apply jC | apply jD | apply jE | apply jF | apply jG | apply jH | apply jI | apply jJ | apply jK | apply jL | apply jM | apply jN | apply jO) | ((with_reducible first | apply jP | apply jQ); rfl) | ((first | ((with_reducible first | apply jR | apply jS | apply jT); rfl; rfl) | (with_reducible first | apply jU | apply jV | apply jW) | ((with_reducible first | apply jX | apply jY | apply jZ); rfl)); all_goals (first | ((with_reducible show Is _ _); exact kE) | ((with_reducible refine fun (hc : (_ : Bool) = _) => ?_); (try simp only [xZ, xY, xP, reduceCtorEq] at hc); (try (have hx : True := hc; clear hx hc)); (try exact kX)) | ((fail_if_success (with_reducible first | show Is _ _ | show ACall _ _ _ _ _)); (try ((with_reducible show _ ∨ _); exact kT))))))
  exact ⟨rfl, rfl⟩
theorem digs_at : ∀ d : Fin 16, ([48, 49, 50, 51, 52, 53, 54, 55, 56, 57, 97, 98, 99, 100, 101, 102, 103, 104, 105, 106, 107, 108, 109, 110, 111, 112, 113, 114, 115, 116, 117, 118, 119, 120, 121, 122] : List UInt8)[d.1]? = some (hexD d.1) := by decide
theorem digs_get {d : Nat} (h : d < 16) (h2 : d < 36) : ([48, 49, 50, 51, 52, 53, 54, 55, 56, 57, 97, 98, 99, 100, 101, 102, 103, 104, 105, 106, 107, 108, 109, 110, 111, 112, 113, 114, 115, 116, 117, 118, 119, 120, 121, 122] : List UInt8)[d]'h2 = hexD d := by
  have := digs_at ⟨d, h⟩
  rw [List.getElem?_eq_getElem (by exact h2)] at this
  exact Option.some.inj this
theorem fmtBits_in (n : Nat) (hn : n < 65536) : PC Tryd.prog true 96 [.nilS, .int .u64 n, .int .i64 16, .bool false, .bool false] (.tup [.lst 0 [] false, .str (hexT n)]) := by
  have htz : ∀ {B : List Box} {args : List CV}, Is args [.int .u64 16] → ACall Tryd.prog 109 args B fun c B' => c = .int .i64 4 ∧ B' = B := fun h => by
    have h : _ = _ := h
    subst h
    exact tz_at
  have hr := rep_bytes 65
  refine acall_intro mixed Tryd.func96 rfl ca96 (by kernel_rfl) (by rw [Tryd.ntmps96]; simp) ?_
  repeat' (first | (with_reducible first | apply jA | apply jB | apply jC | apply jD | apply jE | apply jF | apply jG | apply jH | apply jI | apply jJ | apply jK | apply jL | apply jM | apply jN | apply jO) | ((with_reducible first | apply jP | apply jQ); rfl) | ((first | ((with_reducible first | apply jR | apply jS | apply jT); rfl; rfl) | (with_reducible first | apply jU | apply jV | apply jW) | ((with_reducible first | apply jX | apply jY | apply jZ); rfl) | ((with_reducible first | apply kA | apply kB | apply kC); rfl)); all_goals (first | ((with_reducible show Is _ _); exact kE) | ((with_reducible refine fun (hc : (_ : Bool) = _) => ?_); (try simp only [xZ, xY, xP, reduceCtorEq] at hc); (try (have hx : True := hc; clear hx hc)); (try exact kX)) | ((with_reducible show ACall _ _ _ _ _); (first | ((with_reducible apply htz) <;> exact kD) | ((with_reducible apply pow2_at) <;> exact kD))) | ((fail_if_success (with_reducible first | show Is _ _ | show ACall _ _ _ _ _)); (try ((with_reducible show _ ∨ _); exact kT))))))
  refine w_loop (fun fr B => ∃ (u i : Nat) (t : List UInt8), hexT n = hexT u ++ t ∧ ((t.length = 0 ∧ u < 65536) ∨ (t.length = 1 ∧ u < 4096) ∨ (t.length = 2 ∧ u < 256) ∨ (t.length = 3 ∧ u < 16)) ∧ i + t.length = 65 ∧ fr 1 = .int .u64 u ∧ fr 13 = .int .i64 i ∧ fr 12 = .ptr 0 0 ∧ fr 14 = .int .u64 4 ∧ fr 15 = .int .u64 16 ∧ fr 16 = .int .u64 15 ∧ fr 0 = .nilS ∧ fr 3 = .bool false ∧ fr 4 = .bool false ∧ fr 10 = .nilS ∧ B = [⟨(List.replicate i (0 : UInt8) ++ t).map byteC, false⟩]) (fun fr _ => natOf (fr 1)) ?_ ?_
  · exact ⟨n, 65, [], by simp, .inl ⟨rfl, hn⟩, rfl, by (simp (disch := omega) [go_sem, *]) <;> (try omega), by (simp (disch := omega) [go_sem, *]) <;> (try omega), by (simp (disch := omega) [go_sem, *]) <;> (try omega), by (simp (disch := omega) [go_sem, *]) <;> (try omega), by (simp (disch := omega) [go_sem, *]) <;> (try omega), by (simp (disch := omega) [go_sem, *]) <;> (try omega), by (simp (disch := omega) [go_sem, *]) <;> (try omega), by (simp (disch := omega) [go_sem, *]) <;> (try omega), by (simp (disch := omega) [go_sem, *]) <;> (try omega), by (simp (disch := omega) [go_sem, *]) <;> (try omega), rfl⟩
  clear hr
  rintro fr B ⟨u, i, t, he, hu, hi, h1, h13, h12, h14, h15, h16, h0, h3, h4, h10, rfl⟩
  have hul : u < 65536 := by omega
  obtain ⟨k, rfl⟩ : ∃ k, i = k + 1 := ⟨i - 1, by omega⟩
  have hll : (List.replicate (k + 1) (0 : UInt8) ++ t).length = 65 := by simp; omega
  have hset : ∀ x : UInt8, (List.replicate (k + 1) (0 : UInt8) ++ t).set k x = List.replicate k 0 ++ x :: t := fun x => by
    rw [List.set_append_left _ _ (by simp), List.replicate_succ', List.set_append_right _ _ (by simp)]; simp
  by_cases hc : 16 ≤ u
  · obtain ⟨d, hd⟩ : ∃ d, u % 16 = d := ⟨_, rfl⟩
    have hd16 : d < 16 := by omega
    have hand : bits .and .u64 (u : Int) 15 = (d : Int) := by
      rw [show (15 : Int) = ((15 : Nat) : Int) from rfl, u64_and_nat u 15 (by omega) (by omega), show (15 : Nat) = 2 ^ 4 - 1 from rfl, Nat.and_two_pow_sub_one_eq_mod, ← hd]
    have hdg := digs_get (d := d) (by omega) (by omega)
    dsimp only at hdg
    have hx := hset (hexD d)
    have hT : hexT n = hexT (u / 16) ++ hexD d :: t := by rw [he, hexT, dif_neg (by omega), hd]; simp
    clear hset
    replace hd : Hid _ := hd
    repeat' (first | (with_reducible first | apply jA | apply jB | apply jC | apply jD | apply jE | apply jF | apply jG | apply jH | apply jI | apply jJ | apply jK | apply jL | apply jM | apply jN | apply jO) | ((with_reducible first | apply jP | apply jQ); rfl) | ((first | ((with_reducible first | apply jR | apply jS | apply jT); rfl; rfl) | (with_reducible first | apply jU | apply jV | apply jW) | ((with_reducible first | apply jX | apply jY | apply jZ); rfl)); all_goals (first | ((with_reducible show Is _ _); exact kE) | ((with_reducible refine fun (hc : (_ : Bool) = _) => ?_); (try simp only [xZ, xY, xP, reduceCtorEq] at hc); (try (have hx : True := hc; clear hx hc)); (try exact kX)) | ((fail_if_success (with_reducible first | show Is _ _ | show ACall _ _ _ _ _)); (try ((with_reducible show _ ∨ _); exact kT))))))
    refine ⟨⟨u / 16, k, hexD d :: t, hT, by simp only [List.length_cons]; omega, by rw [List.length_cons]; omega, by (simp (disch := omega) [go_sem, *]) <;> (try omega), by (simp (disch := omega) [go_sem, *]) <;> (try omega), by (simp (disch := omega) [go_sem, *]) <;> (try omega), by (simp (disch := omega) [go_sem, *]) <;> (try omega), by (simp (disch := omega) [go_sem, *]) <;> (try omega), by (simp (disch := omega) [go_sem, *]) <;> (try omega), by (simp (disch := omega) [go_sem, *]) <;> (try omega), by (simp (disch := omega) [go_sem, *]) <;> (try omega), by (simp (disch := omega) [go_sem, *]) <;> (try omega), by (simp (disch := omega) [go_sem, *]) <;> (try omega), ?_⟩, by (simp (disch := omega) [go_sem, *]) <;> (try omega)⟩
    rw [← hx, bytes_mid, List.set_eq_take_append_cons_drop, if_pos (by omega)]
  · have hdg := digs_get (d := u) (by omega) (by omega)
    dsimp only at hdg
    have hx := hset (hexD u)
    have hT : hexT n = hexD u :: t := by rw [he, hexT, dif_pos (by omega)]; rfl
    repeat' (first | (with_reducible first | apply jA | apply jB | apply jC | apply jD | apply jE | apply jF | apply jG | apply jH | apply jI | apply jJ | apply jK | apply jL | apply jM | apply jN | apply jO) | ((with_reducible first | apply jP | apply jQ); rfl) | ((first | ((with_reducible first | apply jR | apply jS | apply jT); rfl; rfl) | (with_reducible first | apply jU | apply jV | apply jW) | ((with_reducible first | apply jX | apply jY | apply jZ); rfl)); all_goals (first | ((with_reducible show Is _ _); exact kE) | ((with_reducible refine fun (hc : (_ : Bool) = _) => ?_); (try simp only [xZ, xY, xP, reduceCtorEq] at hc); (try (have hx : True := hc; clear hx hc)); (try exact kX)) | ((fail_if_success (with_reducible first | show Is _ _ | show ACall _ _ _ _ _)); (try ((with_reducible show _ ∨ _); exact kT))))))
    have hcell : (List.take k (List.replicate (k + 1) (0 : UInt8) ++ t)).map byteC ++ byteC (hexD u) :: (List.drop (k + 1) (List.replicate (k + 1) (0 : UInt8) ++ t)).map byteC = (List.replicate k 0 ++ hexD u :: t).map byteC := by
      rw [← hx, bytes_mid, List.set_eq_take_append_cons_drop, if_pos (by omega)]
    rw [hcell]
    have hlt : (hexD u :: t).length = 65 - k := by rw [List.length_cons]; omega
    clear hcell hx hset hdg
    generalize hexD u :: t = D at *
    have hdr : (List.replicate k (0 : UInt8) ++ D).drop k = D := by rw [List.drop_append_of_le_length (by simp)]; simp
    have htk : D.take (65 - k) = D := List.take_of_length_le (by omega)
    repeat' (first | (with_reducible first | apply jA | apply jB | apply jC | apply jD | apply jE | apply jF | apply jG | apply jH | apply jI | apply jJ | apply jK | apply jL | apply jM | apply jN | apply jO) | ((with_reducible first | apply jP | apply jQ); rfl) | ((first | ((with_reducible first | apply jR | apply jS | apply jT); rfl; rfl) | (with_reducible first | apply jU | apply jV | apply jW) | ((with_reducible first | apply jX | apply jY | apply jZ); rfl)); all_goals (first | ((with_reducible show Is _ _); exact kE) | ((with_reducible refine fun (hc : (_ : Bool) = _) => ?_); (try simp only [xZ, xY, xP, reduceCtorEq] at hc); (try (have hx : True := hc; clear hx hc)); (try exact kX)) | ((fail_if_success (with_reducible first | show Is _ _ | show ACall _ _ _ _ _)); (try ((with_reducible show _ ∨ _); exact kT))))))
    rw [hT]; rfl
theorem fmt16_at {B : List Box} {n : Nat} (hn : n < 65536) : ACall Tryd.prog 41 [.int .i64 n, .int .i64 16] B fun c B' => c = .str (hexT n) ∧ B' = B := by
  have h1 : ∀ {B : List Box} {args : List CV}, Is args [.nilS, .int .u64 n, .int .i64 16, .bool false, .bool false] → ACall Tryd.prog 96 args B fun c B' => c = .tup [.lst 0 [] false, .str (hexT n)] ∧ B' = B := fun {B args} h => by
    have h : _ = _ := h
    subst h
    exact acall_fresh (nz := false) rfl (fmtBits_in n hn)
  have h2 : ∀ {B : List Box} {args : List CV}, Is args [.int .i64 n, .int .i64 16] → ACall Tryd.prog 75 args B fun c B' => c = .str (hexT n) ∧ B' = B := fun {B args} h => by
    have h : _ = _ := h
    subst h
    refine acall_intro mixed Tryd.func75 rfl ca75 (by kernel_rfl) (by rw [Tryd.ntmps75]; simp) ?_
    repeat' (first | (with_reducible first | apply jA | apply jB | apply jC | apply jD | apply jE | apply jF | apply jG | apply jH | apply jI | apply jJ | apply jK | apply jL | apply jM | apply jN | apply jO) | ((with_reducible first | apply jP | apply jQ); rfl) | ((first | ((with_reducible first | apply jR | apply jS | apply jT); rfl; rfl) | (with_reducible first | apply jU | apply jV | apply jW) | ((with_reducible first | apply jX | apply jY | apply jZ); rfl) | ((with_reducible first | apply kA | apply kB | apply kC); rfl)); all_goals (first | ((with_reducible show Is _ _); exact kE) | ((with_reducible refine fun (hc : (_ : Bool) = _) => ?_); (try simp only [xZ, xY, xP, reduceCtorEq] at hc); (try (have hx : True := hc; clear hx hc)); (try exact kX)) | ((with_reducible show ACall _ _ _ _ _); (first | ((with_reducible apply h1) <;> exact kD))) | ((fail_if_success (with_reducible first | show Is _ _ | show ACall _ _ _ _ _)); (try ((with_reducible show _ ∨ _); exact kT))))))
    exact ⟨rfl, rfl⟩
  refine acall_intro mixed Tryd.func41 rfl ca41 (by kernel_rfl) (by rw [Tryd.ntmps41]; simp) ?_
  repeat' (first | (with_reducible first | apply jA | apply jB | apply jC | apply jD | apply jE | apply jF | apply jG | apply jH | apply jI | apply jJ | apply jK | apply jL | apply jM | apply jN | apply jO) | ((with_reducible first | apply jP | apply jQ); rfl) | ((first | ((with_reducible first | apply jR | apply jS | apply jT); rfl; rfl) | (with_reducible first | apply jU | apply jV | apply jW) | ((with_reducible first | apply jX | apply jY | apply jZ); rfl) | ((with_reducible first | apply kA | apply kB | apply kC); rfl)); all_goals (first | ((with_reducible show Is _ _); exact kE) | ((with_reducible refine fun (hc : (_ : Bool) = _) => ?_); (try simp only [xZ, xY, xP, reduceCtorEq] at hc); (try (have hx : True := hc; clear hx hc)); (try exact kX)) | ((with_reducible show ACall _ _ _ _ _); (first | ((with_reducible apply h2) <;> exact kD))) | ((fail_if_success (with_reducible first | show Is _ _ | show ACall _ _ _ _ _)); (try ((with_reducible show _ ∨ _); exact kT))))))
  exact ⟨rfl, rfl⟩
end Go.Proofs.YtdceppjoipoohaaDoor
end
section
namespace Go.Proofs.YtdceppjoipoohaaDoor
open Go Go.Sy
set_option linter.all false
set_option maxRecDepth 100000
set_option maxHeartbeats 4000000
def isDig (c : UInt8) : Bool := decide (48 ≤ c.toNat) && decide (c.toNat ≤ 57)
def decV (l : List UInt8) : Nat := l.foldl (fun n c => 10 * n + (c.toNat - 48)) 0
def headOk (m : Nat) (s : List UInt8) : Bool := decide (1 ≤ s.length) && decide (s.length ≤ m) && !(decide (1 < s.length) && (s.head? == some 48))
def decOk (m : Nat) (s : List UInt8) : Bool := headOk m s && s.all isDig
def decR (m : Nat) (s : List UInt8) : Nat := if decOk m s then decV s else 0
theorem decV_app (l : List UInt8) (c : UInt8) : decV (l ++ [c]) = 10 * decV l + (c.toNat - 48) := by simp [decV, List.foldl_append]
theorem decV_take {l : List UInt8} {k : Nat} (h : k < l.length) : decV (l.take (k + 1)) = 10 * decV (l.take k) + (l[k].toNat - 48) := by rw [List.take_succ_eq_append_getElem h, decV_app]
theorem decV_lt : ∀ (l : List UInt8), l.all isDig = true → decV l < 10 ^ l.length := by
  intro l
  suffices h : ∀ (l : List UInt8) (n k : Nat), n < 10 ^ k → l.all isDig = true → l.foldl (fun n c => 10 * n + (c.toNat - 48)) n < 10 ^ (k + l.length) by
    intro hl; have := h l 0 0 (by decide) hl; rwa [Nat.zero_add] at this
  intro l
  induction l with
  | nil => intro n k h _; simpa using h
  | cons c l ih =>
    intro n k h hl
    simp only [List.all_cons, Bool.and_eq_true] at hl
    have hc : 48 ≤ c.toNat ∧ c.toNat ≤ 57 := by simpa [isDig] using hl.1
    have := ih (10 * n + (c.toNat - 48)) (k + 1) (by rw [Nat.pow_succ]; omega) hl.2
    rw [List.foldl_cons, List.length_cons, show k + (l.length + 1) = k + 1 + l.length by omega]
    exact this
theorem dec_bound {s : List UInt8} {j : Nat} (hd : (s.take j).all isDig = true) (hj : j ≤ 10) : decV (s.take j) ≤ 9999999999 := by
  have h1 := decV_lt _ hd
  have h2 : (s.take j).length ≤ 10 := by rw [List.length_take]; omega
  have h3 : 10 ^ (s.take j).length ≤ 10 ^ 10 := Nat.pow_le_pow_right (by decide) h2
  omega
theorem all_take {s : List UInt8} {j : Nat} (h : j < s.length) : (s.take (j + 1)).all isDig = ((s.take j).all isDig && isDig s[j]) := by
  rw [List.take_succ_eq_append_getElem h, List.all_append]; simp
theorem not_all {s : List UInt8} {j : Nat} (h : j < s.length) (hn : isDig s[j] = false) : s.all isDig = false := by
  rw [List.all_eq_false]
  exact ⟨s[j], List.getElem_mem h, by simp [hn]⟩
theorem decimal_in (s : List UInt8) (lim : Int) (hs : s.length < 4611686018427387904) : PC Tryd.prog true 47 [.str s, .int .i64 lim] (.tup [.int .i64 (decR 10 s), .bool (decOk 10 s && decide ((decR 10 s : Int) ≤ lim))]) := by
  refine acall_intro mixed Tryd.func47 rfl ca47 (by kernel_rfl) (by rw [Tryd.ntmps47]; simp) ?_
  have hbad : headOk 10 s = false → decR 10 s = 0 ∧ decOk 10 s = false := fun h => by simp [decR, decOk, h]
  by_cases h0 : s.length = 0
  · obtain ⟨e1, e2⟩ := hbad (by simp [headOk, h0])
    have : s = [] := List.eq_nil_of_length_eq_zero h0
    subst this
    repeat' (first | (with_reducible first | apply jA | apply jB | apply jC | apply jD | apply jE | apply jF | apply jG | apply jH | apply jI | apply jJ | apply jK | apply jL | apply jM | apply jN | apply jO) | ((with_reducible first | apply jP | apply jQ); rfl) | ((first | ((with_reducible first | apply jR | apply jS | apply jT); rfl; rfl) | (with_reducible first | apply jU | apply jV | apply jW) | ((with_reducible first | apply jX | apply jY | apply jZ); rfl)); all_goals (first | ((with_reducible show Is _ _); exact kE) | ((with_reducible refine fun (hc : (_ : Bool) = _) => ?_); (try simp only [xZ, xY, xP, reduceCtorEq] at hc); (try (have hx : True := hc; clear hx hc)); (try exact kX)) | ((fail_if_success (with_reducible first | show Is _ _ | show ACall _ _ _ _ _)); (try ((with_reducible show _ ∨ _); exact kT))))))
    rfl
  have hpos : 0 < s.length := by omega
  by_cases h10 : s.length ≤ 10
  · by_cases hz : 1 < s.length ∧ s[0]'hpos = 48
    · obtain ⟨hz1, hz2⟩ := hz
      have hh : s.head? = some 48 := by rw [List.head?_eq_getElem?, List.getElem?_eq_getElem (by omega), hz2]
      obtain ⟨e1, e2⟩ := hbad (by simp [headOk, hz1, hh])
      rw [e1, e2]
      repeat' (first | (with_reducible first | apply jA | apply jB | apply jC | apply jD | apply jE | apply jF | apply jG | apply jH | apply jI | apply jJ | apply jK | apply jL | apply jM | apply jN | apply jO) | ((with_reducible first | apply jP | apply jQ); rfl) | ((first | ((with_reducible first | apply jR | apply jS | apply jT); rfl; rfl) | (with_reducible first | apply jU | apply jV | apply jW) | ((with_reducible first | apply jX | apply jY | apply jZ); rfl)); all_goals (first | ((with_reducible show Is _ _); exact kE) | ((with_reducible refine fun (hc : (_ : Bool) = _) => ?_); (try simp only [xZ, xY, xP, reduceCtorEq] at hc); (try (have hx : True := hc; clear hx hc)); (try exact kX)) | ((fail_if_success (with_reducible first | show Is _ _ | show ACall _ _ _ _ _)); (try ((with_reducible show _ ∨ _); exact kT))))))
      rfl
    · have hh : headOk 10 s = true := by
        cases s with
        | nil => simp at h0
        | cons c s => simp [headOk] at hz ⊢; simp at h10; exact ⟨h10, by cases s with | nil => exact .inl rfl | cons d s => exact .inr (hz (by simp))⟩
      have hz' : 1 < s.length → (s[0]'hpos).toNat ≠ 48 := fun h e => hz ⟨h, UInt8.toNat_inj.1 e⟩
      clear hbad hz
      by_cases h1l : 1 < s.length
      · have hz2 := hz' h1l
        clear hz'
        have hz3 : ((s[0]'hpos).toNat : Int) ≠ 48 := by omega
        repeat' (first | (with_reducible first | apply jA | apply jB | apply jC | apply jD | apply jE | apply jF | apply jG | apply jH | apply jI | apply jJ | apply jK | apply jL | apply jM | apply jN | apply jO) | ((with_reducible first | apply jP | apply jQ); rfl) | ((first | ((with_reducible first | apply jR | apply jS | apply jT); rfl; rfl) | (with_reducible first | apply jU | apply jV | apply jW) | ((with_reducible first | apply jX | apply jY | apply jZ); rfl)); all_goals (first | ((with_reducible show Is _ _); exact kE) | ((with_reducible refine fun (hc : (_ : Bool) = _) => ?_); (try simp only [xZ, xY, xP, reduceCtorEq] at hc); (try (have hx : True := hc; clear hx hc)); (try exact kX)) | ((fail_if_success (with_reducible first | show Is _ _ | show ACall _ _ _ _ _)); (try ((with_reducible show _ ∨ _); exact kT))))))
        refine w_loop (fun fr B => B = [] ∧ ∃ j : Nat, j ≤ s.length ∧ (s.take j).all isDig = true ∧ fr 28 = .int .i64 j ∧ fr 0 = .str s ∧ fr 6 = .int .i64 (decV (s.take j)) ∧ fr 27 = .int .i64 s.length ∧ fr 1 = .int .i64 lim) (fun fr _ => s.length - natOf (fr 28)) ?_ ?_
        · exact ⟨rfl, 0, by omega, rfl, by (simp (disch := omega) [go_sem, *]) <;> (try omega), by (simp (disch := omega) [go_sem, *]) <;> (try omega), by (simp (disch := omega) [go_sem, *, decV]) <;> (try omega), by (simp (disch := omega) [go_sem, *]) <;> (try omega), by (simp (disch := omega) [go_sem, *]) <;> (try omega)⟩
        rintro fr B ⟨rfl, j, hj, hd, hix, hs0, h6, hx1, hx2⟩
        have hb := dec_bound hd (by omega)
        by_cases hc : j < s.length
        · have hnx := decV_take hc
          have hall := all_take hc
          rw [hd, Bool.true_and] at hall
          have hlt := (s[j]).toNat_lt
          by_cases hg : isDig s[j] = true
          · rw [hg] at hall
            have hg2 : 48 ≤ s[j].toNat ∧ s[j].toNat ≤ 57 := by simpa [isDig] using hg
            have hb2 := dec_bound hall (by omega)
            have hnx2 : (decV (s.take (j + 1)) : Int) = 10 * decV (s.take j) + (s[j].toNat - 48) := by omega
            rw [hnx] at hb2
            repeat' (first | (with_reducible first | apply jA | apply jB | apply jC | apply jD | apply jE | apply jF | apply jG | apply jH | apply jI | apply jJ | apply jK | apply jL | apply jM | apply jN | apply jO) | ((with_reducible first | apply jP | apply jQ); rfl) | ((first | ((with_reducible first | apply jR | apply jS | apply jT); rfl; rfl) | (with_reducible first | apply jU | apply jV | apply jW) | ((with_reducible first | apply jX | apply jY | apply jZ); rfl)); all_goals (first | ((with_reducible show Is _ _); exact kE) | ((with_reducible refine fun (hc : (_ : Bool) = _) => ?_); (try simp only [xZ, xY, xP, reduceCtorEq] at hc); (try (have hx : True := hc; clear hx hc)); (try exact kX)) | ((fail_if_success (with_reducible first | show Is _ _ | show ACall _ _ _ _ _)); (try ((with_reducible show _ ∨ _); exact kT))))))
            exact ⟨⟨rfl, j + 1, by omega, hall, by (simp (disch := omega) [go_sem, *]) <;> (try omega), by (simp (disch := omega) [go_sem, *]) <;> (try omega), by rw [hnx2] <;> (simp (disch := omega) [go_sem, *]) <;> (try omega), by (simp (disch := omega) [go_sem, *]) <;> (try omega), by (simp (disch := omega) [go_sem, *]) <;> (try omega)⟩, by (simp (disch := omega) [go_sem, *]) <;> (try omega)⟩
          · have hna := not_all hc (by simpa using hg)
            have e1 : decR 10 s = 0 ∧ decOk 10 s = false := by simp [decR, decOk, hna]
            have hg2 : s[j].toNat < 48 ∨ 57 < s[j].toNat := by
              have : ¬ (48 ≤ s[j].toNat ∧ s[j].toNat ≤ 57) := by simpa [isDig] using hg
              omega
            rw [e1.1, e1.2]
            rcases hg2 with hg2 | hg2
            · repeat' (first | (with_reducible first | apply jA | apply jB | apply jC | apply jD | apply jE | apply jF | apply jG | apply jH | apply jI | apply jJ | apply jK | apply jL | apply jM | apply jN | apply jO) | ((with_reducible first | apply jP | apply jQ); rfl) | ((first | ((with_reducible first | apply jR | apply jS | apply jT); rfl; rfl) | (with_reducible first | apply jU | apply jV | apply jW) | ((with_reducible first | apply jX | apply jY | apply jZ); rfl)); all_goals (first | ((with_reducible show Is _ _); exact kE) | ((with_reducible refine fun (hc : (_ : Bool) = _) => ?_); (try simp only [xZ, xY, xP, reduceCtorEq] at hc); (try (have hx : True := hc; clear hx hc)); (try exact kX)) | ((fail_if_success (with_reducible first | show Is _ _ | show ACall _ _ _ _ _)); (try ((with_reducible show _ ∨ _); exact kT))))))
              rfl
            · have hg3 : ¬ (s[j].toNat : Int) < 48 := by omega
              repeat' (first | (with_reducible first | apply jA | apply jB | apply jC | apply jD | apply jE | apply jF | apply jG | apply jH | apply jI | apply jJ | apply jK | apply jL | apply jM | apply jN | apply jO) | ((with_reducible first | apply jP | apply jQ); rfl) | ((first | ((with_reducible first | apply jR | apply jS | apply jT); rfl; rfl) | (with_reducible first | apply jU | apply jV | apply jW) | ((with_reducible first | apply jX | apply jY | apply jZ); rfl)); all_goals (first | ((with_reducible show Is _ _); exact kE) | ((with_reducible refine fun (hc : (_ : Bool) = _) => ?_); (try simp only [xZ, xY, xP, reduceCtorEq] at hc); (try (have hx : True := hc; clear hx hc)); (try exact kX)) | ((fail_if_success (with_reducible first | show Is _ _ | show ACall _ _ _ _ _)); (try ((with_reducible show _ ∨ _); exact kT))))))
              rfl
        · obtain rfl : j = s.length := by omega
          rw [List.take_length] at hd h6 hb
          have e1 : decOk 10 s = true := by simp only [decOk, hh, hd, Bool.and_self]
          rw [decR, if_pos e1, e1]
          repeat' (first | (with_reducible first | apply jA | apply jB | apply jC | apply jD | apply jE | apply jF | apply jG | apply jH | apply jI | apply jJ | apply jK | apply jL | apply jM | apply jN | apply jO) | ((with_reducible first | apply jP | apply jQ); rfl) | ((first | ((with_reducible first | apply jR | apply jS | apply jT); rfl; rfl) | (with_reducible first | apply jU | apply jV | apply jW) | ((with_reducible first | apply jX | apply jY | apply jZ); rfl)); all_goals (first | ((with_reducible show Is _ _); exact kE) | ((with_reducible refine fun (hc : (_ : Bool) = _) => ?_); (try simp only [xZ, xY, xP, reduceCtorEq] at hc); (try (have hx : True := hc; clear hx hc)); (try exact kX)) | ((fail_if_success (with_reducible first | show Is _ _ | show ACall _ _ _ _ _)); (try ((with_reducible show _ ∨ _); exact kT))))))
          rfl
      · clear hz'
        repeat' (first | (with_reducible first | apply jA | apply jB | apply jC | apply jD | apply jE | apply jF | apply jG | apply jH | apply jI | apply jJ | apply jK | apply jL | apply jM | apply jN | apply jO) | ((with_reducible first | apply jP | apply jQ); rfl) | ((first | ((with_reducible first | apply jR | apply jS | apply jT); rfl; rfl) | (with_reducible first | apply jU | apply jV | apply jW) | ((with_reducible first | apply jX | apply jY | apply jZ); rfl)); all_goals (first | ((with_reducible show Is _ _); exact kE) | ((with_reducible refine fun (hc : (_ : Bool) = _) => ?_); (try simp only [xZ, xY, xP, reduceCtorEq] at hc); (try (have hx : True := hc; clear hx hc)); (try exact kX)) | ((fail_if_success (with_reducible first | show Is _ _ | show ACall _ _ _ _ _)); (try ((with_reducible show _ ∨ _); exact kT))))))
        refine w_loop (fun fr B => B = [] ∧ ∃ j : Nat, j ≤ s.length ∧ (s.take j).all isDig = true ∧ fr 28 = .int .i64 j ∧ fr 0 = .str s ∧ fr 6 = .int .i64 (decV (s.take j)) ∧ fr 27 = .int .i64 s.length ∧ fr 1 = .int .i64 lim) (fun fr _ => s.length - natOf (fr 28)) ?_ ?_
        · exact ⟨rfl, 0, by omega, rfl, by (simp (disch := omega) [go_sem, *]) <;> (try omega), by (simp (disch := omega) [go_sem, *]) <;> (try omega), by (simp (disch := omega) [go_sem, *, decV]) <;> (try omega), by (simp (disch := omega) [go_sem, *]) <;> (try omega), by (simp (disch := omega) [go_sem, *]) <;> (try omega)⟩
        rintro fr B ⟨rfl, j, hj, hd, hix, hs0, h6, hx1, hx2⟩
        have hb := dec_bound hd (by omega)
        by_cases hc : j < s.length
        · have hnx := decV_take hc
          have hall := all_take hc
          rw [hd, Bool.true_and] at hall
          have hlt := (s[j]).toNat_lt
          by_cases hg : isDig s[j] = true
          · rw [hg] at hall
            have hg2 : 48 ≤ s[j].toNat ∧ s[j].toNat ≤ 57 := by simpa [isDig] using hg
            have hb2 := dec_bound hall (by omega)
            have hnx2 : (decV (s.take (j + 1)) : Int) = 10 * decV (s.take j) + (s[j].toNat - 48) := by omega
            rw [hnx] at hb2
            repeat' (first | (with_reducible first | apply jA | apply jB | apply jC | apply jD | apply jE | apply jF | apply jG | apply jH | apply jI | apply jJ | apply jK | apply jL | apply jM | apply jN | apply jO) | ((with_reducible first | apply jP | apply jQ); rfl) | ((first | ((with_reducible first | apply jR | apply jS | apply jT); rfl; rfl) | (with_reducible first | apply jU | apply jV | apply jW) | ((with_reducible first | apply jX | apply jY | apply jZ); rfl)); all_goals (first | ((with_reducible show Is _ _); exact kE) | ((with_reducible refine fun (hc : (_ : Bool) = _) => ?_); (try simp only [xZ, xY, xP, reduceCtorEq] at hc); (try (have hx : True := hc; clear hx hc)); (try exact kX)) | ((fail_if_success (with_reducible first | show Is _ _ | show ACall _ _ _ _ _)); (try ((with_reducible show _ ∨ _); exact kT))))))
            exact ⟨⟨rfl, j + 1, by omega, hall, by (simp (disch := omega) [go_sem, *]) <;> (try omega), by (simp (disch := omega) [go_sem, *]) <;> (try omega), by rw [hnx2] <;> (simp (disch := omega) [go_sem, *]) <;> (try omega), by (simp (disch := omega) [go_sem, *]) <;> (try omega), by (simp (disch := omega) [go_sem, *]) <;> (try omega)⟩, by (simp (disch := omega) [go_sem, *]) <;> (try omega)⟩
          · have hna := not_all hc (by simpa using hg)
            have e1 : decR 10 s = 0 ∧ decOk 10 s = false := by simp [decR, decOk, hna]
            have hg2 : s[j].toNat < 48 ∨ 57 < s[j].toNat := by
              have : ¬ (48 ≤ s[j].toNat ∧ s[j].toNat ≤ 57) := by simpa [isDig] using hg
              omega
            rw [e1.1, e1.2]
            rcases hg2 with hg2 | hg2
            · repeat' (first | (with_reducible first | apply jA | apply jB | apply jC | apply jD | apply jE | apply jF | apply jG | apply jH | apply jI | apply jJ | apply jK | apply jL | apply jM | apply jN | apply jO) | ((with_reducible first | apply jP | apply jQ); rfl) | ((first | ((with_reducible first | apply jR | apply jS | apply jT); rfl; rfl) | (with_reducible first | apply jU | apply jV | apply jW) | ((with_reducible first | apply jX | apply jY | apply jZ); rfl)); all_goals (first | ((with_reducible show Is _ _); exact kE) | ((with_reducible refine fun (hc : (_ : Bool) = _) => ?_); (try simp only [xZ, xY, xP, reduceCtorEq] at hc); (try (have hx : True := hc; clear hx hc)); (try exact kX)) | ((fail_if_success (with_reducible first | show Is _ _ | show ACall _ _ _ _ _)); (try ((with_reducible show _ ∨ _); exact kT))))))
              rfl
            · have hg3 : ¬ (s[j].toNat : Int) < 48 := by omega
              repeat' (first | (with_reducible first | apply jA | apply jB | apply jC | apply jD | apply jE | apply jF | apply jG | apply jH | apply jI | apply jJ | apply jK | apply jL | apply jM | apply jN | apply jO) | ((with_reducible first | apply jP | apply jQ); rfl) | ((first | ((with_reducible first | apply jR | apply jS | apply jT); rfl; rfl) | (with_reducible first | apply jU | apply jV | apply jW) | ((with_reducible first | apply jX | apply jY | apply jZ); rfl)); all_goals (first | ((with_reducible show Is _ _); exact kE) | ((with_reducible refine fun (hc : (_ : Bool) = _) => ?_); (try simp only [xZ, xY, xP, reduceCtorEq] at hc); (try (have hx : True := hc; clear hx hc)); (try exact kX)) | ((fail_if_success (with_reducible first | show Is _ _ | show ACall _ _ _ _ _)); (try ((with_reducible show _ ∨ _); exact kT))))))
              rfl
        · obtain rfl : j = s.length := by omega
          rw [List.take_length] at hd h6 hb
          have e1 : decOk 10 s = true := by simp only [decOk, hh, hd, Bool.and_self]
          rw [decR, if_pos e1, e1]
          repeat' (first | (with_reducible first | apply jA | apply jB | apply jC | apply jD | apply jE | apply jF | apply jG | apply jH | apply jI | apply jJ | apply jK | apply jL | apply jM | apply jN | apply jO) | ((with_reducible first | apply jP | apply jQ); rfl) | ((first | ((with_reducible first | apply jR | apply jS | apply jT); rfl; rfl) | (with_reducible first | apply jU | apply jV | apply jW) | ((with_reducible first | apply jX | apply jY | apply jZ); rfl)); all_goals (first | ((with_reducible show Is _ _); exact kE) | ((with_reducible refine fun (hc : (_ : Bool) = _) => ?_); (try simp only [xZ, xY, xP, reduceCtorEq] at hc); (try (have hx : True := hc; clear hx hc)); (try exact kX)) | ((fail_if_success (with_reducible first | show Is _ _ | show ACall _ _ _ _ _)); (try ((with_reducible show _ ∨ _); exact kT))))))
          rfl
  · obtain ⟨e1, e2⟩ := hbad (by simp [headOk]; omega)
    rw [e1, e2]
    repeat' (first | (with_reducible first | apply jA | apply jB | apply jC | apply jD | apply jE | apply jF | apply jG | apply jH | apply jI | apply jJ | apply jK | apply jL | apply jM | apply jN | apply jO) | ((with_reducible first | apply jP | apply jQ); rfl) | ((first | ((with_reducible first | apply jR | apply jS | apply jT); rfl; rfl) | (with_reducible first | apply jU | apply jV | apply jW) | ((with_reducible first | apply jX | apply jY | apply jZ); rfl)); all_goals (first | ((with_reducible show Is _ _); exact kE) | ((with_reducible refine fun (hc : (_ : Bool) = _) => ?_); (try simp only [xZ, xY, xP, reduceCtorEq] at hc); (try (have hx : True := hc; clear hx hc)); (try exact kX)) | ((fail_if_success (with_reducible first | show Is _ _ | show ACall _ _ _ _ _)); (try ((with_reducible show _ ∨ _); exact kT))))))
    rfl
def digV (c : UInt8) : Option Nat := if 48 ≤ c.toNat ∧ c.toNat ≤ 57 then some (c.toNat - 48) else if 97 ≤ c.toNat ∧ c.toNat ≤ 102 then some (c.toNat - 87) else if 65 ≤ c.toNat ∧ c.toNat ≤ 70 then some (c.toNat - 55) else none
def isHex (c : UInt8) : Bool := (digV c).isSome
def hexV (l : List UInt8) : Nat := l.foldl (fun n c => 16 * n + (digV c).getD 0) 0
def hexOk (s : List UInt8) : Bool := decide (1 ≤ s.length) && decide (s.length ≤ 4) && s.all isHex
def hexR (s : List UInt8) : Nat := if hexOk s then hexV s else 0
theorem hexV_app (l : List UInt8) (c : UInt8) : hexV (l ++ [c]) = 16 * hexV l + (digV c).getD 0 := by simp [hexV, List.foldl_append]
theorem hexV_take {l : List UInt8} {k : Nat} (h : k < l.length) : hexV (l.take (k + 1)) = 16 * hexV (l.take k) + (digV l[k]).getD 0 := by rw [List.take_succ_eq_append_getElem h, hexV_app]
theorem digV_lt {c : UInt8} {n : Nat} (h : digV c = some n) : n < 16 := by
  unfold digV at h
  split at h
  · simp at h; omega
  · split at h
    · simp at h; omega
    · split at h
      · simp at h; omega
      · cases h
theorem hexV_lt : ∀ (l : List UInt8), hexV l < 16 ^ l.length := by
  intro l
  suffices h : ∀ (l : List UInt8) (n k : Nat), n < 16 ^ k → l.foldl (fun n c => 16 * n + (digV c).getD 0) n < 16 ^ (k + l.length) by
    have := h l 0 0 (by decide); rwa [Nat.zero_add] at this
  intro l
  induction l with
  | nil => intro n k h; simpa using h
  | cons c l ih =>
    intro n k h
    have hc : (digV c).getD 0 < 16 := by
      cases hd : digV c with
      | none => simp
      | some v => simpa using digV_lt hd
    have := ih (16 * n + (digV c).getD 0) (k + 1) (by rw [Nat.pow_succ]; omega)
    rw [List.foldl_cons, List.length_cons, show k + (l.length + 1) = k + 1 + l.length by omega]
    exact this
theorem hex_bound {s : List UInt8} {j : Nat} (hj : j ≤ 4) : hexV (s.take j) ≤ 65535 := by
  have h1 := hexV_lt (s.take j)
  have h2 : (s.take j).length ≤ 4 := by rw [List.length_take]; omega
  have h3 : 16 ^ (s.take j).length ≤ 16 ^ 4 := Nat.pow_le_pow_right (by decide) h2
  omega
theorem hex_take {s : List UInt8} {j : Nat} (h : j < s.length) : (s.take (j + 1)).all isHex = ((s.take j).all isHex && isHex s[j]) := by
  rw [List.take_succ_eq_append_getElem h, List.all_append]; simp
theorem not_hex {s : List UInt8} {j : Nat} (h : j < s.length) (hn : digV s[j] = none) : s.all isHex = false := by
  rw [List.all_eq_false]
  exact ⟨s[j], List.getElem_mem h, by simp [isHex, hn]⟩
theorem digV_cases (c : UInt8) : (48 ≤ c.toNat ∧ c.toNat ≤ 57 ∧ digV c = some (c.toNat - 48)) ∨ (97 ≤ c.toNat ∧ c.toNat ≤ 102 ∧ digV c = some (c.toNat - 87)) ∨ (65 ≤ c.toNat ∧ c.toNat ≤ 70 ∧ digV c = some (c.toNat - 55)) ∨ (¬ (48 ≤ c.toNat ∧ c.toNat ≤ 57) ∧ ¬ (97 ≤ c.toNat ∧ c.toNat ≤ 102) ∧ ¬ (65 ≤ c.toNat ∧ c.toNat ≤ 70) ∧ digV c = none) := by
  unfold digV
  split
  · rename_i h; exact .inl ⟨h.1, h.2, rfl⟩
  · split
    · rename_i h; exact .inr (.inl ⟨h.1, h.2, rfl⟩)
    · split
      · rename_i h; exact .inr (.inr (.inl ⟨h.1, h.2, rfl⟩))
      · rename_i h1 h2 h3; exact .inr (.inr (.inr ⟨h1, h2, h3, rfl⟩))
theorem hexadecimal_in (s : List UInt8) (hs : s.length < 4611686018427387904) : PC Tryd.prog true 48 [.str s] (.tup [.int .i64 (hexR s), .bool (hexOk s)]) := by
  refine acall_intro mixed Tryd.func48 rfl ca48 (by kernel_rfl) (by rw [Tryd.ntmps48]; simp) ?_
  have hbad : hexOk s = false → hexR s = 0 := fun h => by simp [hexR, h]
  by_cases h0 : s.length = 0
  · have e := hbad (by simp [hexOk, h0])
    have : s = [] := List.eq_nil_of_length_eq_zero h0
    subst this
    repeat' (first | (with_reducible first | apply jA | apply jB | apply jC | apply jD | apply jE | apply jF | apply jG | apply jH | apply jI | apply jJ | apply jK | apply jL | apply jM | apply jN | apply jO) | ((with_reducible first | apply jP | apply jQ); rfl) | ((first | ((with_reducible first | apply jR | apply jS | apply jT); rfl; rfl) | (with_reducible first | apply jU | apply jV | apply jW) | ((with_reducible first | apply jX | apply jY | apply jZ); rfl)); all_goals (first | ((with_reducible show Is _ _); exact kE) | ((with_reducible refine fun (hc : (_ : Bool) = _) => ?_); (try simp only [xZ, xY, xP, reduceCtorEq] at hc); (try (have hx : True := hc; clear hx hc)); (try exact kX)) | ((fail_if_success (with_reducible first | show Is _ _ | show ACall _ _ _ _ _)); (try ((with_reducible show _ ∨ _); exact kT))))))
    rfl
  by_cases h10 : s.length ≤ 4
  · clear hbad
    repeat' (first | (with_reducible first | apply jA | apply jB | apply jC | apply jD | apply jE | apply jF | apply jG | apply jH | apply jI | apply jJ | apply jK | apply jL | apply jM | apply jN | apply jO) | ((with_reducible first | apply jP | apply jQ); rfl) | ((first | ((with_reducible first | apply jR | apply jS | apply jT); rfl; rfl) | (with_reducible first | apply jU | apply jV | apply jW) | ((with_reducible first | apply jX | apply jY | apply jZ); rfl)); all_goals (first | ((with_reducible show Is _ _); exact kE) | ((with_reducible refine fun (hc : (_ : Bool) = _) => ?_); (try simp only [xZ, xY, xP, reduceCtorEq] at hc); (try (have hx : True := hc; clear hx hc)); (try exact kX)) | ((fail_if_success (with_reducible first | show Is _ _ | show ACall _ _ _ _ _)); (try ((with_reducible show _ ∨ _); exact kT))))))
    refine w_loop (fun fr B => B = [] ∧ ∃ j : Nat, j ≤ s.length ∧ (s.take j).all isHex = true ∧ fr 17 = .int .i64 j ∧ fr 16 = .int .i64 s.length ∧ fr 0 = .str s ∧ fr 4 = .int .i64 (hexV (s.take j))) (fun fr _ => s.length - natOf (fr 17)) ?_ ?_
    · exact ⟨rfl, 0, by omega, rfl, by (simp (disch := omega) [go_sem, *]) <;> (try omega), by (simp (disch := omega) [go_sem, *]) <;> (try omega), by (simp (disch := omega) [go_sem, *]) <;> (try omega), by (simp (disch := omega) [go_sem, *, hexV]) <;> (try omega)⟩
    rintro fr B ⟨rfl, j, hj, hd, hix, h16, hs0, h4⟩
    have hb := hex_bound (s := s) (j := j) (by omega)
    by_cases hc : j < s.length
    · have hnx := hexV_take hc
      have hall := hex_take hc
      rw [hd, Bool.true_and] at hall
      have hlt := (s[j]).toNat_lt
      have hb2 := hex_bound (s := s) (j := j + 1) (by omega)
      rcases digV_cases s[j] with ⟨g1, g2, g3⟩ | ⟨g1, g2, g3⟩ | ⟨g1, g2, g3⟩ | ⟨g1, g2, g3, g4⟩
      · have hnx2 : (hexV (s.take (j + 1)) : Int) = 16 * hexV (s.take j) + (s[j].toNat - 48) := by rw [hnx, g3]; simp; omega
        rw [isHex, g3] at hall
        clear g3 hnx
        repeat' (first | (with_reducible first | apply jA | apply jB | apply jC | apply jD | apply jE | apply jF | apply jG | apply jH | apply jI | apply jJ | apply jK | apply jL | apply jM | apply jN | apply jO) | ((with_reducible first | apply jP | apply jQ); rfl) | ((first | ((with_reducible first | apply jR | apply jS | apply jT); rfl; rfl) | (with_reducible first | apply jU | apply jV | apply jW) | ((with_reducible first | apply jX | apply jY | apply jZ); rfl)); all_goals (first | ((with_reducible show Is _ _); exact kE) | ((with_reducible refine fun (hc : (_ : Bool) = _) => ?_); (try simp only [xZ, xY, xP, reduceCtorEq] at hc); (try (have hx : True := hc; clear hx hc)); (try exact kX)) | ((fail_if_success (with_reducible first | show Is _ _ | show ACall _ _ _ _ _)); (try ((with_reducible show _ ∨ _); exact kT))))))
        exact ⟨⟨rfl, j + 1, by omega, hall, by (simp (disch := omega) [go_sem, *]) <;> (try omega), by (simp (disch := omega) [go_sem, *]) <;> (try omega), by (simp (disch := omega) [go_sem, *]) <;> (try omega), by rw [hnx2] <;> (simp (disch := omega) [go_sem, *]) <;> (try omega)⟩, by (simp (disch := omega) [go_sem, *]) <;> (try omega)⟩
      · have hnx2 : (hexV (s.take (j + 1)) : Int) = 16 * hexV (s.take j) + (s[j].toNat - 97) + 10 := by rw [hnx, g3]; simp; omega
        rw [isHex, g3] at hall
        clear g3 hnx
        repeat' (first | (with_reducible first | apply jA | apply jB | apply jC | apply jD | apply jE | apply jF | apply jG | apply jH | apply jI | apply jJ | apply jK | apply jL | apply jM | apply jN | apply jO) | ((with_reducible first | apply jP | apply jQ); rfl) | ((first | ((with_reducible first | apply jR | apply jS | apply jT); rfl; rfl) | (with_reducible first | apply jU | apply jV | apply jW) | ((with_reducible first | apply jX | apply jY | apply jZ); rfl)); all_goals (first | ((with_reducible show Is _ _); exact kE) | ((with_reducible refine fun (hc : (_ : Bool) = _) => ?_); (try simp only [xZ, xY, xP, reduceCtorEq] at hc); (try (have hx : True := hc; clear hx hc)); (try exact kX)) | ((fail_if_success (with_reducible first | show Is _ _ | show ACall _ _ _ _ _)); (try ((with_reducible show _ ∨ _); exact kT))))))
        exact ⟨⟨rfl, j + 1, by omega, hall, by (simp (disch := omega) [go_sem, *]) <;> (try omega), by (simp (disch := omega) [go_sem, *]) <;> (try omega), by (simp (disch := omega) [go_sem, *]) <;> (try omega), by rw [hnx2] <;> (simp (disch := omega) [go_sem, *]) <;> (try omega)⟩, by (simp (disch := omega) [go_sem, *]) <;> (try omega)⟩
      · have hnx2 : (hexV (s.take (j + 1)) : Int) = 16 * hexV (s.take j) + (s[j].toNat - 65) + 10 := by rw [hnx, g3]; simp; omega
        rw [isHex, g3] at hall
        clear g3 hnx
        repeat' (first | (with_reducible first | apply jA | apply jB | apply jC | apply jD | apply jE | apply jF | apply jG | apply jH | apply jI | apply jJ | apply jK | apply jL | apply jM | apply jN | apply jO) | ((with_reducible first | apply jP | apply jQ); rfl) | ((first | ((with_reducible first | apply jR | apply jS | apply jT); rfl; rfl) | (with_reducible first | apply jU | apply jV | apply jW) | ((with_reducible first | apply jX | apply jY | apply jZ); rfl)); all_goals (first | ((with_reducible show Is _ _); exact kE) | ((with_reducible refine fun (hc : (_ : Bool) = _) => ?_); (try simp only [xZ, xY, xP, reduceCtorEq] at hc); (try (have hx : True := hc; clear hx hc)); (try exact kX)) | ((fail_if_success (with_reducible first | show Is _ _ | show ACall _ _ _ _ _)); (try ((with_reducible show _ ∨ _); exact kT))))))
        exact ⟨⟨rfl, j + 1, by omega, hall, by (simp (disch := omega) [go_sem, *]) <;> (try omega), by (simp (disch := omega) [go_sem, *]) <;> (try omega), by (simp (disch := omega) [go_sem, *]) <;> (try omega), by rw [hnx2] <;> (simp (disch := omega) [go_sem, *]) <;> (try omega)⟩, by (simp (disch := omega) [go_sem, *]) <;> (try omega)⟩
      · have hna := not_hex hc g4
        have e1 : hexOk s = false := by simp [hexOk, hna]
        rw [hexR, e1]
        clear g4 hnx
        have g5 : s[j].toNat < 48 ∨ (57 < s[j].toNat ∧ s[j].toNat < 65) ∨ (70 < s[j].toNat ∧ s[j].toNat < 97) ∨ 102 < s[j].toNat := by omega
        clear g1 g2 g3
        rcases g5 with g5 | g5 | g5 | g5 <;> (
          (repeat' (first | (with_reducible first | apply jA | apply jB | apply jC | apply jD | apply jE | apply jF | apply jG | apply jH | apply jI | apply jJ | apply jK | apply jL | apply jM | apply jN | apply jO) | ((with_reducible first | apply jP | apply jQ); rfl) | ((first | ((with_reducible first | apply jR | apply jS | apply jT); rfl; rfl) | (with_reducible first | apply jU | apply jV | apply jW) | ((with_reducible first | apply jX | apply jY | apply jZ); rfl)); all_goals (first | ((with_reducible show Is _ _); exact kE) | ((with_reducible refine fun (hc : (_ : Bool) = _) => ?_); (try simp only [xZ, xY, xP, reduceCtorEq] at hc); (try (have hx : True := hc; clear hx hc)); (try exact kX)) | ((fail_if_success (with_reducible first | show Is _ _ | show ACall _ _ _ _ _)); (try ((with_reducible show _ ∨ _); exact kT)))))))
          rfl)
    · obtain rfl : j = s.length := by omega
      rw [List.take_length] at hd h4 hb
      have e1 : hexOk s = true := by simp [hexOk, hd]; omega
      rw [hexR, if_pos e1, e1]
      repeat' (first | (with_reducible first | apply jA | apply jB | apply jC | apply jD | apply jE | apply jF | apply jG | apply jH | apply jI | apply jJ | apply jK | apply jL | apply jM | apply jN | apply jO) | ((with_reducible first | apply jP | apply jQ); rfl) | ((first | ((with_reducible first | apply jR | apply jS | apply jT); rfl; rfl) | (with_reducible first | apply jU | apply jV | apply jW) | ((with_reducible first | apply jX | apply jY | apply jZ); rfl)); all_goals (first | ((with_reducible show Is _ _); exact kE) | ((with_reducible refine fun (hc : (_ : Bool) = _) => ?_); (try simp only [xZ, xY, xP, reduceCtorEq] at hc); (try (have hx : True := hc; clear hx hc)); (try exact kX)) | ((fail_if_success (with_reducible first | show Is _ _ | show ACall _ _ _ _ _)); (try ((with_reducible show _ ∨ _); exact kT))))))
      rfl
  · have e2 : hexOk s = false := by simp [hexOk]; omega
    have e := hbad e2
    rw [e, e2]
    repeat' (first | (with_reducible first | apply jA | apply jB | apply jC | apply jD | apply jE | apply jF | apply jG | apply jH | apply jI | apply jJ | apply jK | apply jL | apply jM | apply jN | apply jO) | ((with_reducible first | apply jP | apply jQ); rfl) | ((first | ((with_reducible first | apply jR | apply jS | apply jT); rfl; rfl) | (with_reducible first | apply jU | apply jV | apply jW) | ((with_reducible first | apply jX | apply jY | apply jZ); rfl)); all_goals (first | ((with_reducible show Is _ _); exact kE) | ((with_reducible refine fun (hc : (_ : Bool) = _) => ?_); (try simp only [xZ, xY, xP, reduceCtorEq] at hc); (try (have hx : True := hc; clear hx hc)); (try exact kX)) | ((fail_if_success (with_reducible first | show Is _ _ | show ACall _ _ _ _ _)); (try ((with_reducible show _ ∨ _); exact kT))))))
    rfl
theorem decimal_at {B : List Box} {s : List UInt8} {lim : Int} (hs : s.length < 4611686018427387904) : ACall Tryd.prog 47 [.str s, .int .i64 lim] B fun c B' => c = .tup [.int .i64 (decR 10 s), .bool (decOk 10 s && decide ((decR 10 s : Int) ≤ lim))] ∧ B' = B := acall_fresh (nz := false) rfl (decimal_in s lim hs)
theorem hexadecimal_at {B : List Box} {s : List UInt8} (hs : s.length < 4611686018427387904) : ACall Tryd.prog 48 [.str s] B fun c B' => c = .tup [.int .i64 (hexR s), .bool (hexOk s)] ∧ B' = B := acall_fresh (nz := false) rfl (hexadecimal_in s hs)
end Go.Proofs.YtdceppjoipoohaaDoor
end
section
namespace Go.Proofs.YtdceppjoipoohaaDoor
open Go Go.Sy
set_option linter.all false
set_option maxRecDepth 100000
set_option maxHeartbeats 4000000
theorem byte_nat (n : Nat) (h : n < 256) : byteC (UInt8.ofNat n) = .int .u8 (n : Int) := by
  rw [byteC]; congr 1; simp; omega
theorem decDigits_len : ∀ (k n : Nat), n < 10 ^ (k + 1) → (Go.Lib.decDigits n).length ≤ k + 1
  | 0, n, h => by
    rw [Go.Lib.decDigits, dif_pos (by simpa using h)]; simp
  | k + 1, n, h => by
    rw [Go.Lib.decDigits]
    split
    · simp
    · rw [List.length_append]
      have := decDigits_len k (n / 10) (by rw [Nat.pow_succ] at h; omega)
      simp only [List.length_singleton]; omega
theorem rdec_at : ∀ (n : Nat), n < 4611686018427387904 → ∀ {B : List Box}, ACall Tryd.prog 34 [.int .i64 n] B fun c B' => c = .str (Go.Lib.decDigits n) ∧ B' = B := by
  intro n
  induction n using Nat.strongRecOn with
  | _ n ih =>
    intro hn B
    rw [Go.Lib.decDigits]
    by_cases hc : n < 10
    · rw [dif_pos hc]
      have hb := byte_nat (48 + n) (by omega)
      generalize UInt8.ofNat (48 + n) = x at *
      have hb' : CV.int .u8 (48 + (n : Int)) = byteC x := by rw [hb]; push_cast; rfl
      clear hb ih
      refine acall_intro mixed Tryd.func34 rfl ca34 (by kernel_rfl) (by rw [Tryd.ntmps34]; simp) ?_
      repeat' (first | (with_reducible first | apply jA | apply jB | apply jC | apply jD | apply jE | apply jF | apply jG | apply jH | apply jI | apply jJ | apply jK | apply jL | apply jM | apply jN | apply jO) | ((with_reducible first | apply jP | apply jQ); rfl) | ((first | ((with_reducible first | apply jR | apply jS | apply jT); rfl; rfl) | (with_reducible first | apply jU | apply jV | apply jW) | ((with_reducible first | apply jX | apply jY | apply jZ); rfl)); all_goals (first | ((with_reducible show Is _ _); exact kE) | ((with_reducible refine fun (hc : (_ : Bool) = _) => ?_); (try simp only [xZ, xY, xP, reduceCtorEq] at hc); (try (have hx : True := hc; clear hx hc)); (try exact kX)) | ((fail_if_success (with_reducible first | show Is _ _ | show ACall _ _ _ _ _)); (try ((with_reducible show _ ∨ _); exact kT))))))
      exact ⟨rfl, rfl⟩
    · rw [dif_neg hc]
      have ih' : ∀ {B : List Box}, ACall Tryd.prog 34 [.int .i64 ((n : Int) / 10)] B fun c B' => c = .str (Go.Lib.decDigits (n / 10)) ∧ B' = B := by
        intro B
        rw [show ((n : Int) / 10) = ((n / 10 : Nat) : Int) by omega]
        exact ih (n / 10) (by omega) (by omega)
      have hr : ∀ {B : List Box} {args : List CV}, Is args [.int .i64 ((n : Int) / 10)] → ACall Tryd.prog 34 args B fun c B' => c = .str (Go.Lib.decDigits (n / 10)) ∧ B' = B := fun h => by
        have h : _ = _ := h
        subst h
        exact ih'
      have hb := byte_nat (48 + n % 10) (by omega)
      generalize UInt8.ofNat (48 + n % 10) = x at *
      have hb' : CV.int .u8 (48 + (n : Int) % 10) = byteC x := by rw [hb]; congr 1
      have hDl := decDigits_len 18 (n / 10) (by omega)
      generalize Go.Lib.decDigits (n / 10) = D at *
      clear hb ih ih'
      refine acall_intro mixed Tryd.func34 rfl ca34 (by kernel_rfl) (by rw [Tryd.ntmps34]; simp) ?_
      repeat' (first | (with_reducible first | apply jA | apply jB | apply jC | apply jD | apply jE | apply jF | apply jG | apply jH | apply jI | apply jJ | apply jK | apply jL | apply jM | apply jN | apply jO) | ((with_reducible first | apply jP | apply jQ); rfl) | ((first | ((with_reducible first | apply jR | apply jS | apply jT); rfl; rfl) | (with_reducible first | apply jU | apply jV | apply jW) | ((with_reducible first | apply jX | apply jY | apply jZ); rfl) | ((with_reducible first | apply kA | apply kB | apply kC); rfl)); all_goals (first | ((with_reducible show Is _ _); exact kE) | ((with_reducible refine fun (hc : (_ : Bool) = _) => ?_); (try simp only [xZ, xY, xP, reduceCtorEq] at hc); (try (have hx : True := hc; clear hx hc)); (try exact kX)) | ((with_reducible show ACall _ _ _ _ _); (first | ((with_reducible apply hr) <;> exact kD))) | ((fail_if_success (with_reducible first | show Is _ _ | show ACall _ _ _ _ _)); (try ((with_reducible show _ ∨ _); exact kT))))))
      exact ⟨rfl, rfl⟩
theorem digs16 : ∀ d : Fin 16, (([48, 49, 50, 51, 52, 53, 54, 55, 56, 57, 97, 98, 99, 100, 101, 102] : List UInt8).drop d.1).take 1 = [hexD d.1] := by decide
def empC (c : CV) : Nat := match c with | .str [] => 1 | _ => 0
theorem group_in (n0 : Nat) (hn0 : n0 < 65536) : PC Tryd.prog true 35 [.int .i64 n0] (.str (hexT n0)) := by
  refine acall_intro mixed Tryd.func35 rfl ca35 (by kernel_rfl) (by rw [Tryd.ntmps35]; simp) ?_
  repeat' (first | (with_reducible first | apply jA | apply jB | apply jC | apply jD | apply jE | apply jF | apply jG | apply jH | apply jI | apply jJ | apply jK | apply jL | apply jM | apply jN | apply jO) | ((with_reducible first | apply jP | apply jQ); rfl) | ((first | ((with_reducible first | apply jR | apply jS | apply jT); rfl; rfl) | (with_reducible first | apply jU | apply jV | apply jW) | ((with_reducible first | apply jX | apply jY | apply jZ); rfl)); all_goals (first | ((with_reducible show Is _ _); exact kE) | ((with_reducible refine fun (hc : (_ : Bool) = _) => ?_); (try simp only [xZ, xY, xP, reduceCtorEq] at hc); (try (have hx : True := hc; clear hx hc)); (try exact kX)) | ((fail_if_success (with_reducible first | show Is _ _ | show ACall _ _ _ _ _)); (try ((with_reducible show _ ∨ _); exact kT))))))
  refine w_loop (fun fr B => B = [] ∧ ∃ (n : Nat) (s : List UInt8), ((s = [] ∧ n = n0) ∨ (s ≠ [] ∧ ((n = 0 ∧ s = hexT n0) ∨ (0 < n ∧ hexT n0 = hexT n ++ s)))) ∧ ((s.length = 0 ∧ n < 65536) ∨ (s.length = 1 ∧ n < 4096) ∨ (s.length = 2 ∧ n < 256) ∨ (s.length = 3 ∧ n < 16) ∨ (s.length ≤ 4 ∧ n = 0)) ∧ fr 0 = .int .i64 n ∧ fr 3 = .str s) (fun fr _ => 2 * natOf (fr 0) + empC (fr 3)) ?_ ?_
  · exact ⟨rfl, n0, [], .inl ⟨rfl, rfl⟩, .inl ⟨rfl, hn0⟩, by (simp (disch := omega) [go_sem, *]) <;> (try omega), by (simp (disch := omega) [go_sem, *]) <;> (try omega)⟩
  rintro fr B ⟨rfl, n, s, hs, hl, h0, h3⟩
  have step : ∀ d, n % 16 = d → (0 < n ∨ s = []) → ((hexD d :: s = [] ∧ n / 16 = n0) ∨ (hexD d :: s ≠ [] ∧ ((n / 16 = 0 ∧ hexD d :: s = hexT n0) ∨ (0 < n / 16 ∧ hexT n0 = hexT (n / 16) ++ hexD d :: s)))) := fun d hd hgo => by
    refine .inr ⟨by simp, ?_⟩
    have key2 : hexT n0 = hexT n ++ s := by
      rcases hs with ⟨rfl, rfl⟩ | ⟨h1, ⟨h2, h3⟩ | ⟨h2, h3⟩⟩
      · simp
      · rcases hgo with h | h
        · omega
        · exact absurd h h1
      · exact h3
    by_cases hc : n < 16
    · left
      refine ⟨by omega, ?_⟩
      rw [key2, hexT, dif_pos hc, ← hd, Nat.mod_eq_of_lt hc]; rfl
    · right
      refine ⟨by omega, ?_⟩
      rw [key2, hexT, dif_neg hc, hd]; simp
  obtain ⟨d, hd⟩ : ∃ d, n % 16 = d := ⟨_, rfl⟩
  have hd16 : d < 16 := by omega
  have hdi : (n : Int) % 16 = d := by omega
  have hdg := digs16 ⟨d, by omega⟩
  dsimp only at hdg
  have step := step d hd
  by_cases hg : 0 < n
  · have st := step (.inl hg)
    clear step hs
    replace hd : Hid _ := hd
    have hlen : s.length ≤ 4 := by omega
    repeat' (first | (with_reducible first | apply jA | apply jB | apply jC | apply jD | apply jE | apply jF | apply jG | apply jH | apply jI | apply jJ | apply jK | apply jL | apply jM | apply jN | apply jO) | ((with_reducible first | apply jP | apply jQ); rfl) | ((first | ((with_reducible first | apply jR | apply jS | apply jT); rfl; rfl) | (with_reducible first | apply jU | apply jV | apply jW) | ((with_reducible first | apply jX | apply jY | apply jZ); rfl)); all_goals (first | ((with_reducible show Is _ _); exact kE) | ((with_reducible refine fun (hc : (_ : Bool) = _) => ?_); (try simp only [xZ, xY, xP, reduceCtorEq] at hc); (try (have hx : True := hc; clear hx hc)); (try exact kX)) | ((fail_if_success (with_reducible first | show Is _ _ | show ACall _ _ _ _ _)); (try ((with_reducible show _ ∨ _); exact kT))))))
    refine ⟨⟨rfl, n / 16, hexD d :: s, st, by simp only [List.length_cons]; omega, by (simp (disch := omega) [go_sem, *]) <;> (try omega), by (simp (disch := omega) [go_sem, *]) <;> (try omega)⟩, ?_⟩
    (simp (disch := omega) [go_sem, *, empC, natOf]) <;> (try omega)
  · obtain rfl : n = 0 := by omega
    by_cases hs0 : s = []
    · subst hs0
      have st := step (.inr rfl)
      clear step hs
      replace hd : Hid _ := hd
      obtain rfl : d = 0 := by have hd : 0 % 16 = d := hd; omega
      repeat' (first | (with_reducible first | apply jA | apply jB | apply jC | apply jD | apply jE | apply jF | apply jG | apply jH | apply jI | apply jJ | apply jK | apply jL | apply jM | apply jN | apply jO) | ((with_reducible first | apply jP | apply jQ); rfl) | ((first | ((with_reducible first | apply jR | apply jS | apply jT); rfl; rfl) | (with_reducible first | apply jU | apply jV | apply jW) | ((with_reducible first | apply jX | apply jY | apply jZ); rfl)); all_goals (first | ((with_reducible show Is _ _); exact kE) | ((with_reducible refine fun (hc : (_ : Bool) = _) => ?_); (try simp only [xZ, xY, xP, reduceCtorEq] at hc); (try (have hx : True := hc; clear hx hc)); (try exact kX)) | ((fail_if_success (with_reducible first | show Is _ _ | show ACall _ _ _ _ _)); (try ((with_reducible show _ ∨ _); exact kT))))))
      exact ⟨⟨rfl, 0, [48], st, by simp, by (simp (disch := omega) [go_sem, *]) <;> (try omega), by (simp (disch := omega) [go_sem, *]) <;> (try omega)⟩, by (simp (disch := omega) [go_sem, *, empC, natOf]) <;> (try omega)⟩
    · have hfin : s = hexT n0 := by
        rcases hs with ⟨h, _⟩ | ⟨_, ⟨_, h⟩ | ⟨h, _⟩⟩
        · exact absurd h hs0
        · exact h
        · omega
      clear step hs
      have hne : s.isEmpty = false := by cases s with | nil => exact absurd rfl hs0 | cons => rfl
      subst hfin
      repeat' (first | (with_reducible first | apply jA | apply jB | apply jC | apply jD | apply jE | apply jF | apply jG | apply jH | apply jI | apply jJ | apply jK | apply jL | apply jM | apply jN | apply jO) | ((with_reducible first | apply jP | apply jQ); rfl) | ((first | ((with_reducible first | apply jR | apply jS | apply jT); rfl; rfl) | (with_reducible first | apply jU | apply jV | apply jW) | ((with_reducible first | apply jX | apply jY | apply jZ); rfl)); all_goals (first | ((with_reducible show Is _ _); exact kE) | ((with_reducible refine fun (hc : (_ : Bool) = _) => ?_); (try simp only [xZ, xY, xP, reduceCtorEq] at hc); (try (have hx : True := hc; clear hx hc)); (try exact kX)) | ((fail_if_success (with_reducible first | show Is _ _ | show ACall _ _ _ _ _)); (try ((with_reducible show _ ∨ _); exact kT))))))
      rfl
theorem group_at {B : List Box} {n : Int} {m : Nat} (hn : n = m) (hm : m < 65536) : ACall Tryd.prog 35 [.int .i64 n] B fun c B' => c = .str (hexT m) ∧ B' = B := by subst hn; exact acall_fresh (nz := false) rfl (group_in m hm)
end Go.Proofs.YtdceppjoipoohaaDoor
end
section
namespace Go.Proofs.YtdceppjoipoohaaDoor
open Go Go.Sy
set_option linter.all false
set_option maxRecDepth 100000
set_option maxHeartbeats 4000000
theorem kE_GG0 {α : Type} {x y : α} (h : Is x y := by first | ((try simp (disch := first | omega | (simp only [yZ, yB] <;> omega) | fail) [go_sem, yY, *, addrC, if_pos, if_neg, -List.map_take, -List.map_drop, -List.map_append, -List.map_reverse]); exact rfl) | fail) : Is x y := h
theorem kD_GG0 {p : Prop} (h : p := by (first | omega | assumption | exact rfl | ((simp (disch := first | omega | (simp only [yZ, yB] <;> omega) | fail) [go_sem, yY, *, addrC, -List.map_take, -List.map_drop, -List.map_append, -List.map_reverse]) <;> (first | done | omega | exact rfl)) | fail)) : p := h
theorem kE_GG1 {α : Type} {x y : α} (h : Is x y := by first | ((try simp (disch := first | omega | (simp only [yZ, yB] <;> omega) | fail) [go_sem, yY, *, cons_get1, cons_take1, cons_drop1, if_pos, if_neg, -List.map_take, -List.map_drop, -List.map_append, -List.map_reverse]); exact rfl) | fail) : Is x y := h
theorem kD_GG1 {p : Prop} (h : p := by (first | omega | assumption | exact rfl | ((simp (disch := first | omega | (simp only [yZ, yB] <;> omega) | fail) [go_sem, yY, *, cons_get1, cons_take1, cons_drop1, -List.map_take, -List.map_drop, -List.map_append, -List.map_reverse]) <;> (first | done | omega | exact rfl)) | fail)) : p := h
theorem kE_GG2 {α : Type} {x y : α} (h : Is x y := by first | ((try simp (disch := first | omega | (simp only [yZ, yB] <;> omega) | fail) [go_sem, yY, *, omap_strs, if_pos, if_neg, -List.map_take, -List.map_drop, -List.map_append, -List.map_reverse]); exact rfl) | fail) : Is x y := h
theorem kD_GG2 {p : Prop} (h : p := by (first | omega | assumption | exact rfl | ((simp (disch := first | omega | (simp only [yZ, yB] <;> omega) | fail) [go_sem, yY, *, omap_strs, -List.map_take, -List.map_drop, -List.map_append, -List.map_reverse]) <;> (first | done | omega | exact rfl)) | fail)) : p := h
theorem vld_full {six : Bool} {A : List UInt8} (hA : A.length = 16) : vld six A (if six then 128 else 32) = okA six A := by
  cases h : okA six A with
  | false => simp [vld, h]
  | true =>
    have hc : cutL A (if six then 128 else 32) = A := by
      rw [cut_same hA]
      intro k h1 h2
      cases six with
      | true => simp at h1; omega
      | false =>
        simp at h1
        have hz : A.drop 4 = z12 := by simpa [okA] using h
        have hk : k / 8 < 16 := by omega
        have : A.getD (k / 8) 0 = 0 := by
          have h3 : (A.drop 4)[k / 8 - 4]? = some 0 := by
            rw [hz]
            have : k / 8 - 4 < 12 := by omega
            show (List.replicate 12 (0 : UInt8))[k / 8 - 4]? = some 0
            rw [List.getElem?_replicate, if_pos this]
          rw [List.getElem?_drop, show 4 + (k / 8 - 4) = k / 8 by omega] at h3
          rw [List.getD_eq_getElem?_getD, h3]; rfl
        rw [bitI, this]; simp
    cases six with
    | true => simp [vld, h]; simpa using hc
    | false => simp [vld, h]; simpa using hc
theorem cvalid_in (six : Bool) (A : List UInt8) (hA : A.length = 16) : PC Tryd.prog true 40 [addrC six A] (.bool (okA six A)) := by
  have hv := vld_full (six := six) hA
  have hiv : ∀ {B : List Box} {args : List CV} {s : Int}, Is (omap (Go.Sy.fz true false B 6) args) (some [prefC six A s]) → s = (if six then 128 else 32) → ACall Tryd.prog 44 args B fun c B' => c = .bool (okA six A) ∧ B' = B := fun h hs => by
    rw [← hv]
    have := iValid_at h hA
    rw [hs] at this
    exact this
  refine acall_intro mixed Tryd.func40 rfl ca40 (by kernel_rfl) (by rw [Tryd.ntmps40]; simp) ?_
  cases six
  · repeat' (first | (with_reducible first | apply jA | apply jB | apply jC | apply jD | apply jE | apply jF | apply jG | apply jH | apply jI | apply jJ | apply jK | apply jL | apply jM | apply jN | apply jO) | ((with_reducible first | apply jP | apply jQ); rfl) | ((first | ((with_reducible first | apply jR | apply jS | apply jT); rfl; rfl) | (with_reducible first | apply jU | apply jV | apply jW) | ((with_reducible first | apply jX | apply jY | apply jZ); rfl) | ((with_reducible first | apply kA | apply kB | apply kC); rfl)); all_goals (first | ((with_reducible show Is _ _); exact kE_GG0) | ((with_reducible refine fun (hc : (_ : Bool) = _) => ?_); (try simp only [xZ, xY, xP, reduceCtorEq] at hc); (try (have hx : True := hc; clear hx hc)); (try exact kX)) | ((with_reducible show ACall _ _ _ _ _); (first | ((with_reducible apply hiv) <;> exact kD_GG0))) | ((fail_if_success (with_reducible first | show Is _ _ | show ACall _ _ _ _ _)); (try ((with_reducible show _ ∨ _); exact kT))))))
    rfl
  · repeat' (first | (with_reducible first | apply jA | apply jB | apply jC | apply jD | apply jE | apply jF | apply jG | apply jH | apply jI | apply jJ | apply jK | apply jL | apply jM | apply jN | apply jO) | ((with_reducible first | apply jP | apply jQ); rfl) | ((first | ((with_reducible first | apply jR | apply jS | apply jT); rfl; rfl) | (with_reducible first | apply jU | apply jV | apply jW) | ((with_reducible first | apply jX | apply jY | apply jZ); rfl) | ((with_reducible first | apply kA | apply kB | apply kC); rfl)); all_goals (first | ((with_reducible show Is _ _); exact kE_GG0) | ((with_reducible refine fun (hc : (_ : Bool) = _) => ?_); (try simp only [xZ, xY, xP, reduceCtorEq] at hc); (try (have hx : True := hc; clear hx hc)); (try exact kX)) | ((with_reducible show ACall _ _ _ _ _); (first | ((with_reducible apply hiv) <;> exact kD_GG0))) | ((fail_if_success (with_reducible first | show Is _ _ | show ACall _ _ _ _ _)); (try ((with_reducible show _ ∨ _); exact kT))))))
    rfl
theorem cvalid_at {B : List Box} {args : List CV} {six : Bool} {A : List UInt8} (hz : Is (omap (Go.Sy.fz true false B 6) args) (some [addrC six A])) (hA : A.length = 16) : ACall Tryd.prog 40 args B fun c B' => c = .bool (okA six A) ∧ B' = B := acall_fresh hz (cvalid_in six A hA)
def grp (A : List UInt8) (i : Nat) : Nat := (A.getD (2 * i) 0).toNat * 256 + (A.getD (2 * i + 1) 0).toNat
theorem grp_lt (A : List UInt8) (i : Nat) : grp A i < 65536 := by
  have h1 := (A.getD (2 * i) 0).toNat_lt
  have h2 := (A.getD (2 * i + 1) 0).toNat_lt
  unfold grp; omega
def parts6 (A : List UInt8) (n : Nat) : List (List UInt8) := (List.range n).map fun i => hexT (grp A i)
def parts4 (A : List UInt8) (n : Nat) : List (List UInt8) := (List.range n).map fun i => Go.Lib.decDigits (A.getD i 0).toNat
theorem parts6_succ (A : List UInt8) (n : Nat) : parts6 A (n + 1) = parts6 A n ++ [hexT (grp A n)] := by simp [parts6, List.range_succ]
theorem parts4_succ (A : List UInt8) (n : Nat) : parts4 A (n + 1) = parts4 A n ++ [Go.Lib.decDigits (A.getD n 0).toNat] := by simp [parts4, List.range_succ]
def fmtA (six : Bool) (A : List UInt8) : List UInt8 := if okA six A then (if six then Go.Lib.join (parts6 A 8) [58] else Go.Lib.join (parts4 A 4) [46]) else []
theorem or_grp (a b : UInt8) : bits .or .i64 ((a.toNat : Int) * 256) (b.toNat : Int) = ((a.toNat * 256 + b.toNat : Nat) : Int) := by
  have ha := a.toNat_lt
  have hb := b.toNat_lt
  rw [show ((a.toNat : Int) * 256) = ((a.toNat * 256 : Nat) : Int) by omega, i64_or_nat _ _ (by omega) (by omega)]
  congr 1
  have := Nat.two_pow_add_eq_or_of_lt (i := 8) (b := b.toNat) (by omega) a.toNat
  rw [show (2 : Nat) ^ 8 * a.toNat = a.toNat * 256 by omega] at this
  omega
theorem omap_strs {nz fr : Bool} {k : Nat} {B : List Box} : ∀ L : List (List UInt8), omap (Go.Sy.fz nz fr B (k + 1)) (L.map CV.str) = some (L.map CV.str)
  | [] => rfl
  | x :: xs => by rw [List.map_cons, omap_two, omap_strs xs]; rfl
theorem join_le {t : List UInt8} {k : Nat} : ∀ L : List (List UInt8), (∀ x ∈ L, x.length ≤ k) → (Go.Lib.join L t).length ≤ L.length * (k + t.length)
  | [], _ => by simp [Go.Lib.join_nil]
  | x :: xs, h => by
    rw [Go.Lib.join_cons, List.length_append]
    have h1 := h x (by simp)
    have h2 : (Go.Lib.joinTail t xs).length ≤ xs.length * (k + t.length) := by
      have hx : ∀ y ∈ xs, y.length ≤ k := fun y hy => h y (by simp [hy])
      clear h h1
      induction xs with
      | nil => simp [Go.Lib.joinTail]
      | cons y ys ih =>
        have := ih (fun z hz => hx z (by simp [hz]))
        have h1 := hx y (by simp)
        unfold Go.Lib.joinTail at this ⊢
        rw [List.map_cons, List.flatten_cons, List.length_append, List.length_append, List.length_cons, Nat.succ_mul]
        omega
    rw [List.length_cons, Nat.succ_mul]; omega
theorem hexT_len : ∀ (k n : Nat), n < 16 ^ (k + 1) → (hexT n).length ≤ k + 1
  | 0, n, h => by rw [hexT, dif_pos (by simpa using h)]; simp
  | k + 1, n, h => by
    rw [hexT]
    split
    · simp
    · rw [List.length_append]
      have := hexT_len k (n / 16) (by rw [Nat.pow_succ] at h; omega)
      simp only [List.length_singleton]; omega
theorem fmtAddr_in (six : Bool) (A : List UInt8) (hA : A.length = 16) : PC Tryd.prog true 15 [addrC six A] (.str (fmtA six A)) := by
  have hv : ∀ {B : List Box} {args : List CV}, Is (omap (Go.Sy.fz true false B 6) args) (some [addrC six A]) → ACall Tryd.prog 40 args B fun c B' => c = .bool (okA six A) ∧ B' = B := fun h => cvalid_at h hA
  refine acall_intro mixed Tryd.func15 rfl ca15 (by kernel_rfl) (by rw [Tryd.ntmps15]; simp) ?_
  cases hok : okA six A with
  | false =>
    rw [hok] at hv
    have hf : fmtA six A = [] := by simp [fmtA, hok]
    rw [hf]
    repeat' (first | (with_reducible first | apply jA | apply jB | apply jC | apply jD | apply jE | apply jF | apply jG | apply jH | apply jI | apply jJ | apply jK | apply jL | apply jM | apply jN | apply jO) | ((with_reducible first | apply jP | apply jQ); rfl) | ((first | ((with_reducible first | apply jR | apply jS | apply jT); rfl; rfl) | (with_reducible first | apply jU | apply jV | apply jW) | ((with_reducible first | apply jX | apply jY | apply jZ); rfl) | ((with_reducible first | apply kA | apply kB | apply kC); rfl)); all_goals (first | ((with_reducible show Is _ _); exact kE_GG0) | ((with_reducible refine fun (hc : (_ : Bool) = _) => ?_); (try simp only [xZ, xY, xP, reduceCtorEq] at hc); (try (have hx : True := hc; clear hx hc)); (try exact kX)) | ((with_reducible show ACall _ _ _ _ _); (first | ((with_reducible apply hv) <;> exact kD_GG0))) | ((fail_if_success (with_reducible first | show Is _ _ | show ACall _ _ _ _ _)); (try ((with_reducible show _ ∨ _); exact kT))))))
    rfl
  | true =>
    rw [hok] at hv
    cases six
    · have hf : fmtA false A = Go.Lib.join (parts4 A 4) [46] := by simp [fmtA, hok]
      rw [hf]
      repeat' (first | (with_reducible first | apply jA | apply jB | apply jC | apply jD | apply jE | apply jF | apply jG | apply jH | apply jI | apply jJ | apply jK | apply jL | apply jM | apply jN | apply jO) | ((with_reducible first | apply jP | apply jQ); rfl) | ((first | ((with_reducible first | apply jR | apply jS | apply jT); rfl; rfl) | (with_reducible first | apply jU | apply jV | apply jW) | ((with_reducible first | apply jX | apply jY | apply jZ); rfl) | ((with_reducible first | apply kA | apply kB | apply kC); rfl)); all_goals (first | ((with_reducible show Is _ _); exact kE_GG0) | ((with_reducible refine fun (hc : (_ : Bool) = _) => ?_); (try simp only [xZ, xY, xP, reduceCtorEq] at hc); (try (have hx : True := hc; clear hx hc)); (try exact kX)) | ((with_reducible show ACall _ _ _ _ _); (first | ((with_reducible apply hv) <;> exact kD_GG0))) | ((fail_if_success (with_reducible first | show Is _ _ | show ACall _ _ _ _ _)); (try ((with_reducible show _ ∨ _); exact kT))))))
      refine w_loop (fun fr B => ∃ (i : Nat) (oc : CV), i ≤ 4 ∧ fr 36 = .int .i64 i ∧ fr 1 = .ptr 0 0 ∧ fr 3 = oc ∧ B[0]? = some ⟨.bool false :: A.map byteC, false⟩ ∧ ((i = 0 ∧ oc = .nilS) ∨ ∃ β m, β ≠ 0 ∧ oc = .view β 0 i 1 false ∧ B[β]? = some ⟨(parts4 A i).map .str, m⟩)) (fun fr _ => 4 - natOf (fr 36)) ?_ ?_
      · exact ⟨0, .nilS, by omega, by (simp (disch := omega) [go_sem, *]) <;> (try omega), by (simp (disch := omega) [go_sem, *]) <;> (try omega), by (simp (disch := omega) [go_sem, *]) <;> (try omega), by (simp (disch := omega) [go_sem, *]) <;> (try omega), .inl ⟨rfl, rfl⟩⟩
      rintro fr B ⟨i, oc, hi, h36, h1, h3, h0, hO⟩
      have x0 := bx_pack h0
      by_cases hc : i < 4
      · have hp := parts4_succ A i
        have hpl : (parts4 A i).length = i := by simp [parts4]
        have hgd : A.getD i 0 = A[i]'(by omega) := by rw [List.getD_eq_getElem?_getD, List.getElem?_eq_getElem (by omega)]; rfl
        have hlt := (A[i]'(by omega)).toNat_lt
        have hit : ∀ {B : List Box} {args : List CV}, Is args [.int .i64 ((A[i]'(by omega)).toNat : Int)] → ACall Tryd.prog 43 args B fun c B' => c = .str (Go.Lib.decDigits (A.getD i 0).toNat) ∧ B' = B := fun {B args} h => by
          have h : _ = _ := h
          subst h
          have := itoa_at (B := B) (n := ((A[i]'(by omega)).toNat : Int)) (by omega)
          rw [Go.Lib.itoa, if_neg (by omega), Int.toNat_natCast] at this
          rw [hgd]
          exact this
        generalize Go.Lib.decDigits (A.getD i 0).toNat = T at *
        clear hgd
        rcases hO with ⟨hi0, rfl⟩ | ⟨β, m, hβ0, rfl, hβ⟩
        · have hp0 : parts4 A i = [] := by rw [hi0]; rfl
          rw [hp0] at hp
          replace hi0 : Hid _ := hi0
          repeat' (first | (with_reducible first | apply jA | apply jB | apply jC | apply jD | apply jE | apply jF | apply jG | apply jH | apply jI | apply jJ | apply jK | apply jL | apply jM | apply jN | apply jO) | ((with_reducible first | apply jP | apply jQ); rfl) | ((first | ((with_reducible first | apply jR | apply jS | apply jT); rfl; rfl) | (with_reducible first | apply jU | apply jV | apply jW) | ((with_reducible first | apply jX | apply jY | apply jZ); rfl) | ((with_reducible first | apply kA | apply kB | apply kC); rfl)); all_goals (first | ((with_reducible show Is _ _); exact kE_GG1) | ((with_reducible refine fun (hc : (_ : Bool) = _) => ?_); (try simp only [xZ, xY, xP, reduceCtorEq] at hc); (try (have hx : True := hc; clear hx hc)); (try exact kX)) | ((with_reducible show ACall _ _ _ _ _); (first | ((with_reducible apply hit) <;> exact kD_GG1))) | ((fail_if_success (with_reducible first | show Is _ _ | show ACall _ _ _ _ _)); (try ((with_reducible show _ ∨ _); exact kT))))))
          have hi0 : i = 0 := hi0
          refine ⟨⟨i + 1, .view (B.length + 1) 0 1 1 false, by omega, by (simp (disch := omega) [go_sem, *]) <;> (try omega), by (simp (disch := omega) [go_sem, *]) <;> (try omega), by (simp (disch := omega) [go_sem, *]) <;> (try omega), by (simp (disch := omega) [go_sem, *]) <;> (try omega), .inr ⟨B.length + 1, false, by omega, by rw [hi0], ?_⟩⟩, by (simp (disch := omega) [go_sem, *]) <;> (try omega)⟩
          rw [hp]; simp
        · have xb := bx_pack hβ
          have z0 : ∀ y X, (B.set β y ++ X)[0]? = some ⟨.bool false :: A.map byteC, false⟩ := fun y X => by
            rw [List.getElem?_append_left (by rw [List.length_set]; exact (List.getElem?_eq_some_iff.1 h0).1), List.getElem?_set_ne hβ0]; exact h0
          repeat' (first | (with_reducible first | apply jA | apply jB | apply jC | apply jD | apply jE | apply jF | apply jG | apply jH | apply jI | apply jJ | apply jK | apply jL | apply jM | apply jN | apply jO) | ((with_reducible first | apply jP | apply jQ); rfl) | ((first | ((with_reducible first | apply jR | apply jS | apply jT); rfl; rfl) | (with_reducible first | apply jU | apply jV | apply jW) | ((with_reducible first | apply jX | apply jY | apply jZ); rfl) | ((with_reducible first | apply kA | apply kB | apply kC); rfl)); all_goals (first | ((with_reducible show Is _ _); exact kE_GG1) | ((with_reducible refine fun (hc : (_ : Bool) = _) => ?_); (try simp only [xZ, xY, xP, reduceCtorEq] at hc); (try (have hx : True := hc; clear hx hc)); (try exact kX)) | ((with_reducible show ACall _ _ _ _ _); (first | ((with_reducible apply hit) <;> exact kD_GG1))) | ((fail_if_success (with_reducible first | show Is _ _ | show ACall _ _ _ _ _)); (try ((with_reducible show _ ∨ _); exact kT))))))
          refine ⟨⟨i + 1, .view β 0 (i + 1) 1 false, by omega, by (simp (disch := omega) [go_sem, *]) <;> (try omega), by (simp (disch := omega) [go_sem, *]) <;> (try omega), by (simp (disch := omega) [go_sem, *]) <;> (try omega), by (simp (disch := omega) [go_sem, *]) <;> (try omega), .inr ⟨β, true, hβ0, rfl, ?_⟩⟩, by (simp (disch := omega) [go_sem, *]) <;> (try omega)⟩
          rw [hp, List.map_append]; (simp (disch := omega) [go_sem, *]) <;> (try omega)
      · obtain rfl : i = 4 := by omega
        rcases hO with ⟨hi0, _⟩ | ⟨β, m, hβ0, rfl, hβ⟩
        · omega
        · have hpl : (parts4 A 4).length = 4 := by simp [parts4]
          have hj : ∀ {B : List Box} {args : List CV}, Is (omap (Go.Sy.fz true false B 6) args) (some [.lst 4 ((parts4 A 4).map .str) false, .str [46]]) → ACall Tryd.prog 42 args B fun c B' => c = .str (Go.Lib.join (parts4 A 4) [46]) ∧ B' = B := fun h => join_at h hpl.symm (by omega) (by
            have := join_le (t := [46]) (k := 3) (parts4 A 4) fun x hx => by
              simp only [parts4, List.mem_map, List.mem_range] at hx
              obtain ⟨i, _, rfl⟩ := hx
              have := (A.getD i 0).toNat_lt
              exact decDigits_len 2 _ (by omega)
            rw [hpl] at this
            simp at this
            omega)
          generalize parts4 A 4 = L at *
          have xb := bx_pack hβ
          have htk : (L.map CV.str).take 4 = L.map CV.str := List.take_of_length_le (by simp; omega)
          repeat' (first | (with_reducible first | apply jA | apply jB | apply jC | apply jD | apply jE | apply jF | apply jG | apply jH | apply jI | apply jJ | apply jK | apply jL | apply jM | apply jN | apply jO) | ((with_reducible first | apply jP | apply jQ); rfl) | ((first | ((with_reducible first | apply jR | apply jS | apply jT); rfl; rfl) | (with_reducible first | apply jU | apply jV | apply jW) | ((with_reducible first | apply jX | apply jY | apply jZ); rfl) | ((with_reducible first | apply kA | apply kB | apply kC); rfl)); all_goals (first | ((with_reducible show Is _ _); exact kE_GG2) | ((with_reducible refine fun (hc : (_ : Bool) = _) => ?_); (try simp only [xZ, xY, xP, reduceCtorEq] at hc); (try (have hx : True := hc; clear hx hc)); (try exact kX)) | ((with_reducible show ACall _ _ _ _ _); (first | ((with_reducible apply hj) <;> exact kD_GG2))) | ((fail_if_success (with_reducible first | show Is _ _ | show ACall _ _ _ _ _)); (try ((with_reducible show _ ∨ _); exact kT))))))
          rfl
    · have hf : fmtA true A = Go.Lib.join (parts6 A 8) [58] := by simp [fmtA, hok]
      rw [hf]
      repeat' (first | (with_reducible first | apply jA | apply jB | apply jC | apply jD | apply jE | apply jF | apply jG | apply jH | apply jI | apply jJ | apply jK | apply jL | apply jM | apply jN | apply jO) | ((with_reducible first | apply jP | apply jQ); rfl) | ((first | ((with_reducible first | apply jR | apply jS | apply jT); rfl; rfl) | (with_reducible first | apply jU | apply jV | apply jW) | ((with_reducible first | apply jX | apply jY | apply jZ); rfl) | ((with_reducible first | apply kA | apply kB | apply kC); rfl)); all_goals (first | ((with_reducible show Is _ _); exact kE_GG0) | ((with_reducible refine fun (hc : (_ : Bool) = _) => ?_); (try simp only [xZ, xY, xP, reduceCtorEq] at hc); (try (have hx : True := hc; clear hx hc)); (try exact kX)) | ((with_reducible show ACall _ _ _ _ _); (first | ((with_reducible apply hv) <;> exact kD_GG0))) | ((fail_if_success (with_reducible first | show Is _ _ | show ACall _ _ _ _ _)); (try ((with_reducible show _ ∨ _); exact kT))))))
      refine w_loop (fun fr B => ∃ (i : Nat) (oc : CV), i ≤ 8 ∧ fr 11 = .int .i64 i ∧ fr 1 = .ptr 0 0 ∧ fr 3 = oc ∧ B[0]? = some ⟨.bool true :: A.map byteC, false⟩ ∧ ((i = 0 ∧ oc = .nilS) ∨ ∃ β m, β ≠ 0 ∧ oc = .view β 0 i 1 false ∧ B[β]? = some ⟨(parts6 A i).map .str, m⟩)) (fun fr _ => 8 - natOf (fr 11)) ?_ ?_
      · exact ⟨0, .nilS, by omega, by (simp (disch := omega) [go_sem, *]) <;> (try omega), by (simp (disch := omega) [go_sem, *]) <;> (try omega), by (simp (disch := omega) [go_sem, *]) <;> (try omega), by (simp (disch := omega) [go_sem, *]) <;> (try omega), .inl ⟨rfl, rfl⟩⟩
      rintro fr B ⟨i, oc, hi, h11, h1, h3, h0, hO⟩
      have x0 := bx_pack h0
      by_cases hc : i < 8
      · have hp := parts6_succ A i
        have hpl : (parts6 A i).length = i := by simp [parts6]
        have hg1 : A.getD (2 * i) 0 = A[2 * i]'(by omega) := by rw [List.getD_eq_getElem?_getD, List.getElem?_eq_getElem (by omega)]; rfl
        have hg2 : A.getD (2 * i + 1) 0 = A[2 * i + 1]'(by omega) := by rw [List.getD_eq_getElem?_getD, List.getElem?_eq_getElem (by omega)]; rfl
        have hgl := grp_lt A i
        have hor : bits .or .i64 (((A[2 * i]'(by omega)).toNat : Int) * 256) ((A[2 * i + 1]'(by omega)).toNat : Int) = (grp A i : Int) := by rw [or_grp, grp, hg1, hg2]
        have hlt1 := (A[2 * i]'(by omega)).toNat_lt
        have hlt2 := (A[2 * i + 1]'(by omega)).toNat_lt
        have hfm : ∀ {B : List Box} {args : List CV}, Is args [.int .i64 (grp A i), .int .i64 16] → ACall Tryd.prog 41 args B fun c B' => c = .str (hexT (grp A i)) ∧ B' = B := fun {B args} h => by
          have h : _ = _ := h
          subst h
          exact fmt16_at hgl
        generalize hexT (grp A i) = T at *
        generalize grp A i = g at *
        clear hg1 hg2
        have h2i : (2 * (i : Int)).toNat = 2 * i := by omega
        have h2i1 : (2 * (i : Int) + 1).toNat = 2 * i + 1 := by omega
        have z1 : ∀ (X : List Box) (h : 0 < (B ++ X).length), (B ++ X)[0]'h = ⟨.bool true :: A.map byteC, false⟩ := fun X h => by
          have := x0.1 X
          rw [List.getElem?_eq_getElem h] at this
          exact Option.some.inj this
        rcases hO with ⟨hi0, rfl⟩ | ⟨β, m, hβ0, rfl, hβ⟩
        · have hp0 : parts6 A i = [] := by rw [hi0]; rfl
          rw [hp0] at hp
          replace hi0 : Hid _ := hi0
          repeat' (first | (with_reducible first | apply jA | apply jB | apply jC | apply jD | apply jE | apply jF | apply jG | apply jH | apply jI | apply jJ | apply jK | apply jL | apply jM | apply jN | apply jO) | ((with_reducible apply jP); rfl) | ((first | ((with_reducible first | apply jR | apply jS | apply jT); rfl; rfl) | (with_reducible first | apply jU | apply jV | apply jW) | ((with_reducible first | apply jX | apply jY | apply jZ); rfl)); all_goals (first | ((with_reducible show Is _ _); exact kE) | ((with_reducible refine fun (hc : (_ : Bool) = _) => ?_); (try simp only [xZ, xY, xP, reduceCtorEq] at hc); (try (have hx : True := hc; clear hx hc)); (try exact kX)) | ((fail_if_success (with_reducible first | show Is _ _ | show ACall _ _ _ _ _)); (try ((with_reducible show _ ∨ _); exact kT))))))
          refine w_drawH [17] [⟨[.str T], false⟩] rfl rfl ?_
          repeat' (first | (with_reducible first | apply jA | apply jB | apply jC | apply jD | apply jE | apply jF | apply jG | apply jH | apply jI | apply jJ | apply jK | apply jL | apply jM | apply jN | apply jO) | ((with_reducible apply jP); rfl) | ((first | ((with_reducible first | apply d_made | apply q_made); rfl; rfl)); (iterate 6 exact kE_GG1)) | ((first | ((with_reducible first | apply d_fop | apply q_fop); rfl; rfl)); (intro Bx hJ; (first | (obtain ⟨_, hJ1, hJ2⟩ := hJ) | (try simp only at hJ)); exact kE_GG1)) | ((with_reducible first | apply d_free | apply q_free); rfl; (iterate 2 exact kE_GG1); (intro Bx hJ); (first | ((with_reducible apply hfm) <;> exact kD_GG1))) | ((first | ((with_reducible first | apply jR | apply jS | apply jT); rfl; rfl) | (with_reducible first | apply jU | apply jV | apply jW) | ((with_reducible first | apply jX | apply jY | apply jZ); rfl) | ((with_reducible first | apply kA | apply kB | apply kC); rfl)); all_goals (first | ((with_reducible show Is _ _); exact kE_GG1) | ((with_reducible refine fun (hc : (_ : Bool) = _) => ?_); (try simp only [xZ, xY, xP, reduceCtorEq] at hc); (try (have hx : True := hc; clear hx hc)); (try exact kX)) | ((with_reducible show ACall _ _ _ _ _); (first | ((with_reducible apply hfm) <;> exact kD_GG1))) | ((fail_if_success (with_reducible first | show Is _ _ | show ACall _ _ _ _ _)); (try ((with_reducible show _ ∨ _); first | exact .inl rfl | (refine .inr ⟨rfl, ?_, ?_⟩; (focus (repeat (first | exact trivial | refine ⟨.inl rfl, ?_⟩ | refine ⟨.inr rfl, ?_⟩ | refine ⟨.inr (by (simp (disch := first | omega | (simp only [yZ, yB] <;> omega) | fail) [go_sem, yY, *, cons_get1, cons_take1, cons_drop1, -List.map_take, -List.map_drop, -List.map_append, -List.map_reverse])), ?_⟩))); (first | exact trivial | exact rfl | (refine ⟨_, ?_, ?_⟩; (focus (simp (disch := first | omega | (simp only [yZ, yB] <;> omega) | fail) [go_sem, yY, *, cons_get1, cons_take1, cons_drop1, -List.map_take, -List.map_drop, -List.map_append, -List.map_reverse]; (try exact rfl))); (simp (disch := first | omega | (simp only [yZ, yB] <;> omega) | fail) [go_sem, yY, *, cons_get1, cons_take1, cons_drop1, -List.map_take, -List.map_drop, -List.map_append, -List.map_reverse])) | (simp (disch := first | omega | (simp only [yZ, yB] <;> omega) | fail) [go_sem, yY, *, cons_get1, cons_take1, cons_drop1, -List.map_take, -List.map_drop, -List.map_append, -List.map_reverse]))) | exact .inl (by (simp (disch := first | omega | (simp only [yZ, yB] <;> omega) | fail) [go_sem, yY, *, cons_get1, cons_take1, cons_drop1, -List.map_take, -List.map_drop, -List.map_append, -List.map_reverse]))))))))
          have hi0 : i = 0 := hi0
          refine ⟨⟨i + 1, .view (B.length + 1) 0 1 1 false, by omega, by (simp (disch := omega) [go_sem, *]) <;> (try omega), by (simp (disch := omega) [go_sem, *]) <;> (try omega), by (simp (disch := omega) [go_sem, *]) <;> (try omega), by (simp (disch := omega) [go_sem, *]) <;> (try omega), .inr ⟨B.length + 1, false, by omega, by rw [hi0], ?_⟩⟩, by (simp (disch := omega) [go_sem, *]) <;> (try omega)⟩
          rw [hp]; simp
        · have xb := bx_pack hβ
          have z0 : ∀ y X, (B.set β y ++ X)[0]? = some ⟨.bool true :: A.map byteC, false⟩ := fun y X => by
            rw [List.getElem?_append_left (by rw [List.length_set]; exact (List.getElem?_eq_some_iff.1 h0).1), List.getElem?_set_ne hβ0]; exact h0
          repeat' (first | (with_reducible first | apply jA | apply jB | apply jC | apply jD | apply jE | apply jF | apply jG | apply jH | apply jI | apply jJ | apply jK | apply jL | apply jM | apply jN | apply jO) | ((with_reducible apply jP); rfl) | ((first | ((with_reducible first | apply jR | apply jS | apply jT); rfl; rfl) | (with_reducible first | apply jU | apply jV | apply jW) | ((with_reducible first | apply jX | apply jY | apply jZ); rfl)); all_goals (first | ((with_reducible show Is _ _); exact kE) | ((with_reducible refine fun (hc : (_ : Bool) = _) => ?_); (try simp only [xZ, xY, xP, reduceCtorEq] at hc); (try (have hx : True := hc; clear hx hc)); (try exact kX)) | ((fail_if_success (with_reducible first | show Is _ _ | show ACall _ _ _ _ _)); (try ((with_reducible show _ ∨ _); exact kT))))))
          refine w_drawH [17] [⟨[.str T], false⟩] rfl rfl ?_
          repeat' (first | (with_reducible first | apply jA | apply jB | apply jC | apply jD | apply jE | apply jF | apply jG | apply jH | apply jI | apply jJ | apply jK | apply jL | apply jM | apply jN | apply jO) | ((with_reducible apply jP); rfl) | ((first | ((with_reducible first | apply d_made | apply q_made); rfl; rfl)); (iterate 6 exact kE_GG1)) | ((first | ((with_reducible first | apply d_fop | apply q_fop); rfl; rfl)); (intro Bx hJ; (first | (obtain ⟨_, hJ1, hJ2⟩ := hJ) | (try simp only at hJ)); exact kE_GG1)) | ((with_reducible first | apply d_free | apply q_free); rfl; (iterate 2 exact kE_GG1); (intro Bx hJ); (first | ((with_reducible apply hfm) <;> exact kD_GG1))) | ((first | ((with_reducible first | apply jR | apply jS | apply jT); rfl; rfl) | (with_reducible first | apply jU | apply jV | apply jW) | ((with_reducible first | apply jX | apply jY | apply jZ); rfl) | ((with_reducible first | apply kA | apply kB | apply kC); rfl)); all_goals (first | ((with_reducible show Is _ _); exact kE_GG1) | ((with_reducible refine fun (hc : (_ : Bool) = _) => ?_); (try simp only [xZ, xY, xP, reduceCtorEq] at hc); (try (have hx : True := hc; clear hx hc)); (try exact kX)) | ((with_reducible show ACall _ _ _ _ _); (first | ((with_reducible apply hfm) <;> exact kD_GG1))) | ((fail_if_success (with_reducible first | show Is _ _ | show ACall _ _ _ _ _)); (try ((with_reducible show _ ∨ _); first | exact .inl rfl | (refine .inr ⟨rfl, ?_, ?_⟩; (focus (repeat (first | exact trivial | refine ⟨.inl rfl, ?_⟩ | refine ⟨.inr rfl, ?_⟩ | refine ⟨.inr (by (simp (disch := first | omega | (simp only [yZ, yB] <;> omega) | fail) [go_sem, yY, *, cons_get1, cons_take1, cons_drop1, -List.map_take, -List.map_drop, -List.map_append, -List.map_reverse])), ?_⟩))); (first | exact trivial | exact rfl | (refine ⟨_, ?_, ?_⟩; (focus (simp (disch := first | omega | (simp only [yZ, yB] <;> omega) | fail) [go_sem, yY, *, cons_get1, cons_take1, cons_drop1, -List.map_take, -List.map_drop, -List.map_append, -List.map_reverse]; (try exact rfl))); (simp (disch := first | omega | (simp only [yZ, yB] <;> omega) | fail) [go_sem, yY, *, cons_get1, cons_take1, cons_drop1, -List.map_take, -List.map_drop, -List.map_append, -List.map_reverse])) | (simp (disch := first | omega | (simp only [yZ, yB] <;> omega) | fail) [go_sem, yY, *, cons_get1, cons_take1, cons_drop1, -List.map_take, -List.map_drop, -List.map_append, -List.map_reverse]))) | exact .inl (by (simp (disch := first | omega | (simp only [yZ, yB] <;> omega) | fail) [go_sem, yY, *, cons_get1, cons_take1, cons_drop1, -List.map_take, -List.map_drop, -List.map_append, -List.map_reverse]))))))))
          refine ⟨⟨i + 1, .view β 0 (i + 1) 1 false, by omega, by (simp (disch := omega) [go_sem, *]) <;> (try omega), by (simp (disch := omega) [go_sem, *]) <;> (try omega), by (simp (disch := omega) [go_sem, *]) <;> (try omega), by (simp (disch := omega) [go_sem, *]) <;> (try omega), .inr ⟨β, true, hβ0, rfl, ?_⟩⟩, by (simp (disch := omega) [go_sem, *]) <;> (try omega)⟩
          rw [hp, List.map_append]; (simp (disch := omega) [go_sem, *]) <;> (try omega)
      · obtain rfl : i = 8 := by omega
        rcases hO with ⟨hi0, _⟩ | ⟨β, m, hβ0, rfl, hβ⟩
        · omega
        · have hpl : (parts6 A 8).length = 8 := by simp [parts6]
          have hj : ∀ {B : List Box} {args : List CV}, Is (omap (Go.Sy.fz true false B 6) args) (some [.lst 8 ((parts6 A 8).map .str) false, .str [58]]) → ACall Tryd.prog 42 args B fun c B' => c = .str (Go.Lib.join (parts6 A 8) [58]) ∧ B' = B := fun h => join_at h hpl.symm (by omega) (by
            have := join_le (t := [58]) (k := 4) (parts6 A 8) fun x hx => by
              simp only [parts6, List.mem_map, List.mem_range] at hx
              obtain ⟨i, _, rfl⟩ := hx
              exact hexT_len 3 _ (grp_lt A i)
            rw [hpl] at this
            simp at this
            omega)
          generalize parts6 A 8 = L at *
          have xb := bx_pack hβ
          have htk : (L.map CV.str).take 8 = L.map CV.str := List.take_of_length_le (by simp; omega)
          repeat' (first | (with_reducible first | apply jA | apply jB | apply jC | apply jD | apply jE | apply jF | apply jG | apply jH | apply jI | apply jJ | apply jK | apply jL | apply jM | apply jN | apply jO) | ((with_reducible first | apply jP | apply jQ); rfl) | ((first | ((with_reducible first | apply jR | apply jS | apply jT); rfl; rfl) | (with_reducible first | apply jU | apply jV | apply jW) | ((with_reducible first | apply jX | apply jY | apply jZ); rfl) | ((with_reducible first | apply kA | apply kB | apply kC); rfl)); all_goals (first | ((with_reducible show Is _ _); exact kE_GG2) | ((with_reducible refine fun (hc : (_ : Bool) = _) => ?_); (try simp only [xZ, xY, xP, reduceCtorEq] at hc); (try (have hx : True := hc; clear hx hc)); (try exact kX)) | ((with_reducible show ACall _ _ _ _ _); (first | ((with_reducible apply hj) <;> exact kD_GG2))) | ((fail_if_success (with_reducible first | show Is _ _ | show ACall _ _ _ _ _)); (try ((with_reducible show _ ∨ _); exact kT))))))
          rfl
theorem fmtAddr_at {B : List Box} {args : List CV} {six : Bool} {A : List UInt8} (hz : Is (omap (Go.Sy.fz true false B 6) args) (some [addrC six A])) (hA : A.length = 16) : ACall Tryd.prog 15 args B fun c B' => c = .str (fmtA six A) ∧ B' = B := acall_fresh hz (fmtAddr_in six A hA)
end Go.Proofs.YtdceppjoipoohaaDoor
end
section
namespace Go.Proofs.YtdceppjoipoohaaDoor
open Go Go.Sy
set_option linter.all false
set_option maxRecDepth 100000
set_option maxHeartbeats 4000000
theorem kE_GH0 {α : Type} {x y : α} (h : Is x y := by first | ((try simp (disch := first | omega | (simp only [yZ, yB] <;> omega) | fail) [go_sem, yY, *, addrC, if_pos, if_neg, -List.map_take, -List.map_drop, -List.map_append, -List.map_reverse]); exact rfl) | fail) : Is x y := h
theorem kD_GH0 {p : Prop} (h : p := by (first | omega | assumption | exact rfl | ((simp (disch := first | omega | (simp only [yZ, yB] <;> omega) | fail) [go_sem, yY, *, addrC, -List.map_take, -List.map_drop, -List.map_append, -List.map_reverse]) <;> (first | done | omega | exact rfl)) | fail)) : p := h
theorem kE_GH1 {α : Type} {x y : α} (h : Is x y := by first | ((try simp (disch := first | omega | (simp only [yZ, yB] <;> omega) | fail) [go_sem, yY, *, cons_get1, cons_take1, cons_drop1, if_pos, if_neg, -List.map_take, -List.map_drop, -List.map_append, -List.map_reverse]); exact rfl) | fail) : Is x y := h
theorem kD_GH1 {p : Prop} (h : p := by (first | omega | assumption | exact rfl | ((simp (disch := first | omega | (simp only [yZ, yB] <;> omega) | fail) [go_sem, yY, *, cons_get1, cons_take1, cons_drop1, -List.map_take, -List.map_drop, -List.map_append, -List.map_reverse]) <;> (first | done | omega | exact rfl)) | fail)) : p := h
theorem joinTail_snoc (t : List UInt8) (L : List (List UInt8)) (x : List UInt8) : Go.Lib.joinTail t (L ++ [x]) = Go.Lib.joinTail t L ++ (t ++ x) := by simp [Go.Lib.joinTail]
theorem joinTail_drop (c : UInt8) (L : List (List UInt8)) : (Go.Lib.joinTail [c] L).drop 1 = Go.Lib.join L [c] := by
  cases L with
  | nil => rfl
  | cons x xs => rw [Go.Lib.join_cons]; simp [Go.Lib.joinTail]
theorem joinTail_le {t : List UInt8} {k : Nat} : ∀ L : List (List UInt8), (∀ x ∈ L, x.length ≤ k) → (Go.Lib.joinTail t L).length ≤ L.length * (k + t.length)
  | [], _ => by simp [Go.Lib.joinTail]
  | y :: ys, h => by
    have := joinTail_le (t := t) ys (fun z hz => h z (by simp [hz]))
    have h1 := h y (by simp)
    unfold Go.Lib.joinTail at this ⊢
    rw [List.map_cons, List.flatten_cons, List.length_append, List.length_append, List.length_cons, Nat.succ_mul]
    omega
theorem parts4_le (A : List UInt8) (n : Nat) : (Go.Lib.joinTail [46] (parts4 A n)).length ≤ n * 4 := by
  have := joinTail_le (t := [46]) (k := 3) (parts4 A n) fun x hx => by
    simp only [parts4, List.mem_map, List.mem_range] at hx
    obtain ⟨i, _, rfl⟩ := hx
    have := (A.getD i 0).toNat_lt
    exact decDigits_len 2 _ (by omega)
  simpa [parts4] using this
theorem parts6_le (A : List UInt8) (n : Nat) : (Go.Lib.joinTail [58] (parts6 A n)).length ≤ n * 5 := by
  have := joinTail_le (t := [58]) (k := 4) (parts6 A n) fun x hx => by
    simp only [parts6, List.mem_map, List.mem_range] at hx
    obtain ⟨i, _, rfl⟩ := hx
    exact hexT_len 3 _ (grp_lt A i)
  simpa [parts6] using this
theorem rfmtAddr_in (six : Bool) (A : List UInt8) (hA : A.length = 16) : PC Tryd.prog true 11 [addrC six A] (.str (fmtA six A)) := by
  have hv : ∀ {B : List Box} {args : List CV}, Is (omap (Go.Sy.fz true false B 6) args) (some [addrC six A]) → ACall Tryd.prog 33 args B fun c B' => c = .bool (okA six A) ∧ B' = B := fun h => sound_at h hA
  refine acall_intro mixed Tryd.func11 rfl ca11 (by kernel_rfl) (by rw [Tryd.ntmps11]; simp) ?_
  cases hok : okA six A with
  | false =>
    rw [hok] at hv
    have hf : fmtA six A = [] := by simp [fmtA, hok]
    rw [hf]
    repeat' (first | (with_reducible first | apply jA | apply jB | apply jC | apply jD | apply jE | apply jF | apply jG | apply jH | apply jI | apply jJ | apply jK | apply jL | apply jM | apply jN | apply jO) | ((with_reducible first | apply jP | apply jQ); rfl) | ((first | ((with_reducible first | apply jR | apply jS | apply jT); rfl; rfl) | (with_reducible first | apply jU | apply jV | apply jW) | ((with_reducible first | apply jX | apply jY | apply jZ); rfl) | ((with_reducible first | apply kA | apply kB | apply kC); rfl)); all_goals (first | ((with_reducible show Is _ _); exact kE_GH0) | ((with_reducible refine fun (hc : (_ : Bool) = _) => ?_); (try simp only [xZ, xY, xP, reduceCtorEq] at hc); (try (have hx : True := hc; clear hx hc)); (try exact kX)) | ((with_reducible show ACall _ _ _ _ _); (first | ((with_reducible apply hv) <;> exact kD_GH0))) | ((fail_if_success (with_reducible first | show Is _ _ | show ACall _ _ _ _ _)); (try ((with_reducible show _ ∨ _); exact kT))))))
    rfl
  | true =>
    rw [hok] at hv
    cases six
    · have hf : fmtA false A = (Go.Lib.joinTail [46] (parts4 A 4)).drop 1 := by rw [joinTail_drop]; simp [fmtA, hok]
      rw [hf]
      repeat' (first | (with_reducible first | apply jA | apply jB | apply jC | apply jD | apply jE | apply jF | apply jG | apply jH | apply jI | apply jJ | apply jK | apply jL | apply jM | apply jN | apply jO) | ((with_reducible first | apply jP | apply jQ); rfl) | ((first | ((with_reducible first | apply jR | apply jS | apply jT); rfl; rfl) | (with_reducible first | apply jU | apply jV | apply jW) | ((with_reducible first | apply jX | apply jY | apply jZ); rfl) | ((with_reducible first | apply kA | apply kB | apply kC); rfl)); all_goals (first | ((with_reducible show Is _ _); exact kE_GH0) | ((with_reducible refine fun (hc : (_ : Bool) = _) => ?_); (try simp only [xZ, xY, xP, reduceCtorEq] at hc); (try (have hx : True := hc; clear hx hc)); (try exact kX)) | ((with_reducible show ACall _ _ _ _ _); (first | ((with_reducible apply hv) <;> exact kD_GH0))) | ((fail_if_success (with_reducible first | show Is _ _ | show ACall _ _ _ _ _)); (try ((with_reducible show _ ∨ _); exact kT))))))
      refine w_loop (fun fr B => ∃ i : Nat, i ≤ 4 ∧ fr 4 = .int .i64 i ∧ fr 1 = .ptr 0 0 ∧ fr 3 = .str (Go.Lib.joinTail [46] (parts4 A i)) ∧ B = [⟨.bool false :: A.map byteC, false⟩]) (fun fr _ => 4 - natOf (fr 4)) ?_ ?_
      · exact ⟨0, by omega, by (simp (disch := omega) [go_sem, *]) <;> (try omega), by (simp (disch := omega) [go_sem, *]) <;> (try omega), by (simp (disch := omega) [go_sem, *, parts4, Go.Lib.joinTail]) <;> (try omega), rfl⟩
      rintro fr B ⟨i, hi, h4, h1, h3, rfl⟩
      have hle := parts4_le A i
      by_cases hc : i < 4
      · have hp := joinTail_snoc [46] (parts4 A i) (Go.Lib.decDigits (A.getD i 0).toNat)
        rw [← parts4_succ] at hp
        have hgd : A.getD i 0 = A[i]'(by omega) := by rw [List.getD_eq_getElem?_getD, List.getElem?_eq_getElem (by omega)]; rfl
        have hlt := (A[i]'(by omega)).toNat_lt
        have hit : ∀ {B : List Box} {args : List CV}, Is args [.int .i64 ((A[i]'(by omega)).toNat : Int)] → ACall Tryd.prog 34 args B fun c B' => c = .str (Go.Lib.decDigits (A.getD i 0).toNat) ∧ B' = B := fun {B args} h => by
          have h : _ = _ := h
          subst h
          rw [hgd]
          exact rdec_at _ (by omega)
        have hdl := decDigits_len 2 (A.getD i 0).toNat (by rw [hgd]; omega)
        generalize Go.Lib.decDigits (A.getD i 0).toNat = T at *
        generalize Go.Lib.joinTail [46] (parts4 A i) = J at *
        clear hgd
        repeat' (first | (with_reducible first | apply jA | apply jB | apply jC | apply jD | apply jE | apply jF | apply jG | apply jH | apply jI | apply jJ | apply jK | apply jL | apply jM | apply jN | apply jO) | ((with_reducible first | apply jP | apply jQ); rfl) | ((first | ((with_reducible first | apply jR | apply jS | apply jT); rfl; rfl) | (with_reducible first | apply jU | apply jV | apply jW) | ((with_reducible first | apply jX | apply jY | apply jZ); rfl) | ((with_reducible first | apply kA | apply kB | apply kC); rfl)); all_goals (first | ((with_reducible show Is _ _); exact kE_GH1) | ((with_reducible refine fun (hc : (_ : Bool) = _) => ?_); (try simp only [xZ, xY, xP, reduceCtorEq] at hc); (try (have hx : True := hc; clear hx hc)); (try exact kX)) | ((with_reducible show ACall _ _ _ _ _); (first | ((with_reducible apply hit) <;> exact kD_GH1))) | ((fail_if_success (with_reducible first | show Is _ _ | show ACall _ _ _ _ _)); (try ((with_reducible show _ ∨ _); exact kT))))))
        exact ⟨⟨i + 1, by omega, by (simp (disch := omega) [go_sem, *]) <;> (try omega), by (simp (disch := omega) [go_sem, *]) <;> (try omega), by rw [hp] <;> (simp (disch := omega) [go_sem, *]) <;> (try omega), rfl⟩, by (simp (disch := omega) [go_sem, *]) <;> (try omega)⟩
      · obtain rfl : i = 4 := by omega
        have h1l : 1 ≤ (Go.Lib.joinTail [46] (parts4 A 4)).length := by simp [parts4, Go.Lib.joinTail, List.range_succ]
        generalize Go.Lib.joinTail [46] (parts4 A 4) = J at *
        repeat' (first | (with_reducible first | apply jA | apply jB | apply jC | apply jD | apply jE | apply jF | apply jG | apply jH | apply jI | apply jJ | apply jK | apply jL | apply jM | apply jN | apply jO) | ((with_reducible first | apply jP | apply jQ); rfl) | ((first | ((with_reducible first | apply jR | apply jS | apply jT); rfl; rfl) | (with_reducible first | apply jU | apply jV | apply jW) | ((with_reducible first | apply jX | apply jY | apply jZ); rfl)); all_goals (first | ((with_reducible show Is _ _); exact kE) | ((with_reducible refine fun (hc : (_ : Bool) = _) => ?_); (try simp only [xZ, xY, xP, reduceCtorEq] at hc); (try (have hx : True := hc; clear hx hc)); (try exact kX)) | ((fail_if_success (with_reducible first | show Is _ _ | show ACall _ _ _ _ _)); (try ((with_reducible show _ ∨ _); exact kT))))))
        rw [show List.take (J.length - 1) J.tail = List.drop 1 J from by rw [List.drop_one]; exact List.take_of_length_le (by simp)]
        rfl
    · have hf : fmtA true A = (Go.Lib.joinTail [58] (parts6 A 8)).drop 1 := by rw [joinTail_drop]; simp [fmtA, hok]
      rw [hf]
      repeat' (first | (with_reducible first | apply jA | apply jB | apply jC | apply jD | apply jE | apply jF | apply jG | apply jH | apply jI | apply jJ | apply jK | apply jL | apply jM | apply jN | apply jO) | ((with_reducible first | apply jP | apply jQ); rfl) | ((first | ((with_reducible first | apply jR | apply jS | apply jT); rfl; rfl) | (with_reducible first | apply jU | apply jV | apply jW) | ((with_reducible first | apply jX | apply jY | apply jZ); rfl) | ((with_reducible first | apply kA | apply kB | apply kC); rfl)); all_goals (first | ((with_reducible show Is _ _); exact kE_GH0) | ((with_reducible refine fun (hc : (_ : Bool) = _) => ?_); (try simp only [xZ, xY, xP, reduceCtorEq] at hc); (try (have hx : True := hc; clear hx hc)); (try exact kX)) | ((with_reducible show ACall _ _ _ _ _); (first | ((with_reducible apply hv) <;> exact kD_GH0))) | ((fail_if_success (with_reducible first | show Is _ _ | show ACall _ _ _ _ _)); (try ((with_reducible show _ ∨ _); exact kT))))))
      refine w_loop (fun fr B => ∃ i : Nat, i ≤ 8 ∧ fr 5 = .int .i64 i ∧ fr 1 = .ptr 0 0 ∧ fr 3 = .str (Go.Lib.joinTail [58] (parts6 A i)) ∧ B = [⟨.bool true :: A.map byteC, false⟩]) (fun fr _ => 8 - natOf (fr 5)) ?_ ?_
      · exact ⟨0, by omega, by (simp (disch := omega) [go_sem, *]) <;> (try omega), by (simp (disch := omega) [go_sem, *]) <;> (try omega), by (simp (disch := omega) [go_sem, *, parts6, Go.Lib.joinTail]) <;> (try omega), rfl⟩
      rintro fr B ⟨i, hi, h5, h1, h3, rfl⟩
      have hle := parts6_le A i
      by_cases hc : i < 8
      · have hp := joinTail_snoc [58] (parts6 A i) (hexT (grp A i))
        rw [← parts6_succ] at hp
        have hg1 : A.getD (2 * i) 0 = A[2 * i]'(by omega) := by rw [List.getD_eq_getElem?_getD, List.getElem?_eq_getElem (by omega)]; rfl
        have hg2 : A.getD (2 * i + 1) 0 = A[2 * i + 1]'(by omega) := by rw [List.getD_eq_getElem?_getD, List.getElem?_eq_getElem (by omega)]; rfl
        have hgl := grp_lt A i
        have hor : ((A[2 * i]'(by omega)).toNat : Int) * 256 + ((A[2 * i + 1]'(by omega)).toNat : Int) = (grp A i : Int) := by rw [grp, hg1, hg2]; push_cast; rfl
        have hlt1 := (A[2 * i]'(by omega)).toNat_lt
        have hlt2 := (A[2 * i + 1]'(by omega)).toNat_lt
        have hfm : ∀ {B : List Box} {args : List CV}, Is args [.int .i64 (grp A i)] → ACall Tryd.prog 35 args B fun c B' => c = .str (hexT (grp A i)) ∧ B' = B := fun {B args} h => by
          have h : _ = _ := h
          subst h
          exact group_at rfl hgl
        have hdl := hexT_len 3 (grp A i) hgl
        have h2i : (2 * (i : Int)).toNat = 2 * i := by omega
        have h2i1 : (2 * (i : Int) + 1).toNat = 2 * i + 1 := by omega
        generalize hexT (grp A i) = T at *
        generalize grp A i = g at *
        generalize Go.Lib.joinTail [58] (parts6 A i) = J at *
        clear hg1 hg2
        repeat' (first | (with_reducible first | apply jA | apply jB | apply jC | apply jD | apply jE | apply jF | apply jG | apply jH | apply jI | apply jJ | apply jK | apply jL | apply jM | apply jN | apply jO) | ((with_reducible first | apply jP | apply jQ); rfl) | ((first | ((with_reducible first | apply jR | apply jS | apply jT); rfl; rfl) | (with_reducible first | apply jU | apply jV | apply jW) | ((with_reducible first | apply jX | apply jY | apply jZ); rfl) | ((with_reducible first | apply kA | apply kB | apply kC); rfl)); all_goals (first | ((with_reducible show Is _ _); exact kE_GH1) | ((with_reducible refine fun (hc : (_ : Bool) = _) => ?_); (try simp only [xZ, xY, xP, reduceCtorEq] at hc); (try (have hx : True := hc; clear hx hc)); (try exact kX)) | ((with_reducible show ACall _ _ _ _ _); (first | ((with_reducible apply hfm) <;> exact kD_GH1))) | ((fail_if_success (with_reducible first | show Is _ _ | show ACall _ _ _ _ _)); (try ((with_reducible show _ ∨ _); exact kT))))))
        exact ⟨⟨i + 1, by omega, by (simp (disch := omega) [go_sem, *]) <;> (try omega), by (simp (disch := omega) [go_sem, *]) <;> (try omega), by rw [hp] <;> (simp (disch := omega) [go_sem, *]) <;> (try omega), rfl⟩, by (simp (disch := omega) [go_sem, *]) <;> (try omega)⟩
      · obtain rfl : i = 8 := by omega
        have h1l : 1 ≤ (Go.Lib.joinTail [58] (parts6 A 8)).length := by simp [parts6, Go.Lib.joinTail, List.range_succ]
        generalize Go.Lib.joinTail [58] (parts6 A 8) = J at *
        repeat' (first | (with_reducible first | apply jA | apply jB | apply jC | apply jD | apply jE | apply jF | apply jG | apply jH | apply jI | apply jJ | apply jK | apply jL | apply jM | apply jN | apply jO) | ((with_reducible first | apply jP | apply jQ); rfl) | ((first | ((with_reducible first | apply jR | apply jS | apply jT); rfl; rfl) | (with_reducible first | apply jU | apply jV | apply jW) | ((with_reducible first | apply jX | apply jY | apply jZ); rfl)); all_goals (first | ((with_reducible show Is _ _); exact kE) | ((with_reducible refine fun (hc : (_ : Bool) = _) => ?_); (try simp only [xZ, xY, xP, reduceCtorEq] at hc); (try (have hx : True := hc; clear hx hc)); (try exact kX)) | ((fail_if_success (with_reducible first | show Is _ _ | show ACall _ _ _ _ _)); (try ((with_reducible show _ ∨ _); exact kT))))))
        rw [show List.take (J.length - 1) J.tail = List.drop 1 J from by rw [List.drop_one]; exact List.take_of_length_le (by simp)]
        rfl
theorem rfmtAddr_at {B : List Box} {args : List CV} {six : Bool} {A : List UInt8} (hz : Is (omap (Go.Sy.fz true false B 6) args) (some [addrC six A])) (hA : A.length = 16) : ACall Tryd.prog 11 args B fun c B' => c = .str (fmtA six A) ∧ B' = B := acall_fresh hz (rfmtAddr_in six A hA)
end Go.Proofs.YtdceppjoipoohaaDoor
end
section
namespace Go.Proofs.YtdceppjoipoohaaDoor
open Go Go.Sy
set_option linter.all false
set_option maxRecDepth 100000
set_option maxHeartbeats 4000000
def oct (x : List UInt8) : Bool := decOk 3 x && decide (decV x ≤ 255)
theorem foldl_ge : ∀ (l : List UInt8) (n : Nat), n * 10 ^ l.length ≤ l.foldl (fun n c => 10 * n + (c.toNat - 48)) n
  | [], n => by simp
  | c :: l, n => by
    have := foldl_ge l (10 * n + (c.toNat - 48))
    rw [List.foldl_cons, List.length_cons, Nat.pow_succ]
    refine Nat.le_trans ?_ this
    have h : n * (10 ^ l.length * 10) = (10 * n) * 10 ^ l.length := by rw [Nat.mul_comm (10 ^ l.length), ← Nat.mul_assoc, Nat.mul_comm n]
    rw [h]
    exact Nat.mul_le_mul_right _ (by omega)
theorem oct_eq (x : List UInt8) : (decOk 10 x && decide ((decR 10 x : Int) ≤ 255)) = oct x := by
  by_cases h : x.length ≤ 3
  · have e : decOk 10 x = decOk 3 x := by
      have h10 : x.length ≤ 10 := by omega
      simp [decOk, headOk, h, h10]
    rw [oct, ← e]
    cases hd : decOk 10 x with
    | false => simp
    | true => simp [decR, hd]; omega
  · have e3 : decOk 3 x = false := by simp [decOk, headOk, h]
    rw [oct, e3, Bool.false_and, Bool.and_eq_false_iff]
    cases hd : decOk 10 x with
    | false => exact .inl rfl
    | true =>
      right
      rw [decR, if_pos hd]
      cases x with
      | nil => simp at h
      | cons c x =>
        simp only [decOk, Bool.and_eq_true, List.all_cons] at hd
        have hc : 48 ≤ c.toNat ∧ c.toNat ≤ 57 := by simpa [isDig] using hd.2.1
        have hne : c ≠ 48 := by
          intro hc48
          have := hd.1
          simp [headOk, hc48] at this
          have hl : 1 < (c :: x).length := by simp; simp at h; omega
          simp at h
          have := this.2
          subst this
          simp at h
        have hc1 : 49 ≤ c.toNat := by
          rcases Nat.lt_or_ge c.toNat 49 with h1 | h1
          · exact absurd (UInt8.toNat_inj.1 (by show c.toNat = 48; omega)) hne
          · exact h1
        have hge := foldl_ge x (10 * 0 + (c.toNat - 48))
        have hp : 10 ^ 3 ≤ 10 ^ x.length := Nat.pow_le_pow_right (by decide) (by simp at h; omega)
        have : 1 * 10 ^ x.length ≤ (10 * 0 + (c.toNat - 48)) * 10 ^ x.length := Nat.mul_le_mul_right _ (by omega)
        have hv : decV (c :: x) = x.foldl (fun n c => 10 * n + (c.toNat - 48)) (10 * 0 + (c.toNat - 48)) := rfl
        rw [hv]
        simp only [decide_eq_false_iff_not]
        omega
def a4 (L : List (List UInt8)) (j : Nat) : List UInt8 := (L.take j).map (fun x => UInt8.ofNat (decV x)) ++ List.replicate (16 - j) 0
def p4 (L : List (List UInt8)) : Option (Bool × List UInt8) := if L.all oct then some (false, a4 L 4) else none
def rA (o : Option (Bool × List UInt8)) : CV := match o with | some (six, A) => .tup [addrC six A, .int .i64 0] | none => .tup [addrC false z16, .int .i64 5]
theorem a4_set {L : List (List UInt8)} {j : Nat} (hL : L.length = 4) (hj : j < 4) : (a4 L j).set j (UInt8.ofNat (decV (L[j]'(by omega)))) = a4 L (j + 1) := by
  have e : 16 - j = (16 - (j + 1)) + 1 := by omega
  have hl : ((L.take j).map fun x => UInt8.ofNat (decV x)).length = j := by rw [List.length_map, List.length_take]; omega
  rw [a4, a4, List.set_append_right _ _ (by omega), hl, Nat.sub_self, e, List.replicate_succ, List.set_cons_zero, List.take_succ_eq_append_getElem (by omega), List.map_append, List.append_assoc]
  rfl
theorem a4_len {L : List (List UInt8)} {j : Nat} (hL : L.length = 4) (hj : j ≤ 4) : (a4 L j).length = 16 := by simp [a4, hL]; omega
def a6 (L : List (List UInt8)) (j : Nat) : List UInt8 := (L.take j).flatMap (fun x => [UInt8.ofNat (hexV x / 256), UInt8.ofNat (hexV x)]) ++ List.replicate (16 - 2 * j) 0
def p6 (L : List (List UInt8)) : Option (Bool × List UInt8) := if L.all hexOk then some (true, a6 L 8) else none
theorem fm_len (L : List (List UInt8)) : (L.flatMap (fun x => [UInt8.ofNat (hexV x / 256), UInt8.ofNat (hexV x)])).length = 2 * L.length := by
  induction L with
  | nil => rfl
  | cons x xs ih => rw [List.flatMap_cons, List.length_append, ih]; simp; omega
theorem a6_len {L : List (List UInt8)} {j : Nat} (hL : L.length = 8) (hj : j ≤ 8) : (a6 L j).length = 16 := by
  rw [a6, List.length_append, fm_len, List.length_take, List.length_replicate]; omega
theorem a6_set {L : List (List UInt8)} {j : Nat} (hL : L.length = 8) (hj : j < 8) : ((a6 L j).set (2 * j) (UInt8.ofNat (hexV (L[j]'(by omega)) / 256))).set (2 * j + 1) (UInt8.ofNat (hexV (L[j]'(by omega)))) = a6 L (j + 1) := by
  have e : 16 - 2 * j = (16 - 2 * (j + 1)) + 1 + 1 := by omega
  have hl : ((L.take j).flatMap (fun x => [UInt8.ofNat (hexV x / 256), UInt8.ofNat (hexV x)])).length = 2 * j := by rw [fm_len, List.length_take]; omega
  rw [a6, a6, List.take_succ_eq_append_getElem (by omega), List.flatMap_append]
  generalize (L.take j).flatMap (fun x => [UInt8.ofNat (hexV x / 256), UInt8.ofNat (hexV x)]) = F at *
  rw [List.set_append_right _ _ (by omega), hl, Nat.sub_self, e, List.replicate_succ, List.set_cons_zero, List.set_append_right _ _ (by omega), hl, show 2 * j + 1 - 2 * j = 1 by omega, List.replicate_succ]
  simp
end Go.Proofs.YtdceppjoipoohaaDoor
end
