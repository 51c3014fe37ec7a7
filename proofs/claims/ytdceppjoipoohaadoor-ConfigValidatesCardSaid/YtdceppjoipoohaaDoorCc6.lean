/- Lemmas and definitions of this claim (own texts, joined by a program; what the claim does not use is left out). -/
import Derived.Test.YtdceppjoipoohaaDoorCc5
import Derived.Shelf.Strings.Builder1
import Derived.Shelf.Strings.Builder2
import Derived.Shelf.Strings.OnBuilder
import Derived.Shelf.Strings.BuilderF
import Derived.Shelf.Strings.BuilderK
import Derived.Shelf.Utf8.RuneCount
import Derived.Shelf.Strconv.Itoa0
import Derived.Shelf.Strconv.Itoa1
import Derived.Shelf.LaysM
import Derived.Shelf.Strconv.Itoa2
import Derived.Shelf.Strconv.Itoa3
import Derived.Shelf.Strconv.Itoa4
import Derived.Shelf.Strings.Search1
import Derived.Shelf.Strings.Search2
import Derived.Shelf.Strings.Search3
import Derived.Shelf.Strings.Cut
import Derived.Shelf.Strings.Count
import Derived.Shelf.Strings.Shaped
import Derived.Shelf.Strings.LastIndex
import Derived.Shelf.Strings.LastIndexAll
import Derived.Shelf.Strings.Prefix
import Derived.Shelf.Strings.Split
import Derived.Shelf.Strings.SplitShaped
import Derived.Shelf.Unicode.Decode
import Derived.Shelf.Strings.RuneCount
import Derived.Shelf.Strings.Explode
import Derived.Shelf.Unicode.DecodeSlow
import Derived.Shelf.Unicode.DecodeAny
import Derived.Test.YtdceppjoipoohaaDoorProg
section
namespace Go.Proofs.YtdceppjoipoohaaDoor
open Go Go.Sy
set_option linter.all false
set_option maxRecDepth 100000
set_option maxHeartbeats 4000000
theorem kE_GD0 {α : Type} {x y : α} (h : Is x y := by first | ((try simp (disch := first | omega | (simp only [yZ, yB] <;> omega) | fail) [go_sem, yY, *, addrC, if_pos, if_neg, -List.map_take, -List.map_drop, -List.map_append, -List.map_reverse]); exact rfl) | fail) : Is x y := h
theorem kE_GD1 {α : Type} {x y : α} (h : Is x y := by first | ((try simp (disch := first | omega | (simp only [yZ, yB] <;> omega) | fail) [go_sem, yY, *, cons_get1, cons_take1, cons_drop1, cons_drop2, if_pos, if_neg, -List.map_take, -List.map_drop, -List.map_append, -List.map_reverse]); exact rfl) | fail) : Is x y := h
theorem kE_GD2 {α : Type} {x y : α} (h : Is x y := by first | ((try simp (disch := first | omega | (simp only [yZ, yB] <;> omega) | fail) [go_sem, yY, *, u8_ones, cons_get1, cons_take1, cons_drop1, cons_drop2, if_pos, if_neg, -List.map_take, -List.map_drop, -List.map_append, -List.map_reverse]); exact rfl) | fail) : Is x y := h
theorem kE_GD3 {α : Type} {x y : α} (h : Is x y := by first | ((try simp (disch := first | omega | (simp only [yZ, yB] <;> omega) | fail) [go_sem, yY, *, addrC, zeros12, if_pos, if_neg, -List.map_take, -List.map_drop, -List.map_append, -List.map_reverse]); exact rfl) | fail) : Is x y := h
theorem kE_GD4 {α : Type} {x y : α} (h : Is x y := by first | ((try simp (disch := first | omega | (simp only [yZ, yB] <;> omega) | fail) [go_sem, yY, *, prefC, if_pos, if_neg, -List.map_take, -List.map_drop, -List.map_append, -List.map_reverse]); exact rfl) | fail) : Is x y := h
theorem kD_GD4 {p : Prop} (h : p := by (first | omega | assumption | exact rfl | ((simp (disch := first | omega | (simp only [yZ, yB] <;> omega) | fail) [go_sem, yY, *, prefC, -List.map_take, -List.map_drop, -List.map_append, -List.map_reverse]) <;> (first | done | omega | exact rfl)) | fail)) : p := h
theorem kE_GD5 {α : Type} {x y : α} (h : Is x y := by first | ((try simp (disch := first | omega | (simp only [yZ, yB] <;> omega) | fail) [go_sem, yY, *, addrC, cons_get1, byteC, if_pos, if_neg, -List.map_take, -List.map_drop, -List.map_append, -List.map_reverse]); exact rfl) | fail) : Is x y := h
theorem kE_GD6 {α : Type} {x y : α} (h : Is x y := by first | ((try simp (disch := first | omega | (simp only [yZ, yB] <;> omega) | fail) [go_sem, yY, *, addrC, prefC, bx_get0, bx_get, bx_set0, bx_set, if_pos, if_neg, -List.map_take, -List.map_drop, -List.map_append, -List.map_reverse]); exact rfl) | fail) : Is x y := h
theorem kD_GD6 {p : Prop} (h : p := by (first | omega | assumption | exact rfl | ((simp (disch := first | omega | (simp only [yZ, yB] <;> omega) | fail) [go_sem, yY, *, addrC, prefC, bx_get0, bx_get, bx_set0, bx_set, -List.map_take, -List.map_drop, -List.map_append, -List.map_reverse]) <;> (first | done | omega | exact rfl)) | fail)) : p := h
def z12 : List UInt8 := List.replicate 12 0
def z16 : List UInt8 := List.replicate 16 0
def addrC (six : Bool) (ip : List UInt8) : CV := .agg (.bool six :: ip.map byteC)
theorem rep_bytes : ∀ n : Nat, repC [CV.int .u8 0] n = (List.replicate n (0 : UInt8)).map byteC
  | 0 => rfl
  | n + 1 => by rw [List.replicate_succ, List.map_cons, ← rep_bytes n]; rfl
theorem byte_wrap (n : Nat) : byteC (UInt8.ofNat n) = .int .u8 (IntKind.u8.wrap n) := by
  have h : (UInt8.ofNat n).toNat = n % 256 := by rw [UInt8.toNat_ofNat']
  rw [byteC, h]; congr 1
theorem z12_len : z12.length = 12 := rfl
def bytesV (x s n : Nat) : List UInt8 := (List.range n).map fun i => UInt8.ofNat (x + i * s)
def bytesJ (x s n j : Nat) : List UInt8 := bytesV x s j ++ List.replicate (n - j) 0
theorem bytesV_len (x s n : Nat) : (bytesV x s n).length = n := by simp [bytesV]
theorem bytesJ_len {x s n j : Nat} (h : j ≤ n) : (bytesJ x s n j).length = n := by simp [bytesJ, bytesV]; omega
theorem bytesJ_set {x s n j : Nat} (h : j < n) : (bytesJ x s n j).set j (UInt8.ofNat (x + j * s)) = bytesJ x s n (j + 1) := by
  have e : n - j = (n - (j + 1)) + 1 := by omega
  rw [bytesJ, bytesJ, List.set_append_right _ _ (by simp [bytesV]), bytesV_len, Nat.sub_self, e, List.replicate_succ, List.set_cons_zero, bytesV, bytesV, List.range_succ, List.map_append, List.append_assoc]
  rfl
theorem bytes_at {B : List Box} {β : Nat} {args : List CV} {l : List UInt8} {a n : Nat} {m : Int} (ha : Is args [.ptr β 0, .int .i64 m]) (hm : m = n) (hB : B[β]? = some (cb l a)) (hl : a ≤ l.length ∧ l.length < 1000000) (hn : n ≤ 1000) : ACall Tryd.prog 30 args B fun c B' => c = .view B.length 0 n 1 true ∧ B' = B.set β (cb l (nxA l a 256)) ++ [⟨(bytesV (nxV l a 256) (2 * nxA l a 256 + 1) n).map byteC, false⟩] := by
  have ha : args = _ := ha
  subst ha hm
  obtain ⟨p1, p2, p3, p4, p5, p6, p7, p8, p9, p10, p11, p12, p13⟩ := bx_pack hB
  have hx := nxV_lt (l := l) (a := a) (n := 256) (by omega)
  have hA := nxA_le (l := l) (n := 256) hl.1
  have hnx : ∀ {B : List Box} {args : List CV}, Is args [.ptr β 0, .int .i64 256] → B[β]? = some (cb l a) → ACall Tryd.prog 29 args B fun c B' => c = .int .i64 (nxV l a 256) ∧ B' = B.set β (cb l (nxA l a 256)) := fun h h2 => next_at h rfl h2 ⟨hl.1, by omega⟩
  generalize nxV l a 256 = x at *
  generalize hA' : nxA l a 256 = A at *
  have hr := rep_bytes n
  have h0 : List.replicate n (0 : UInt8) = bytesJ x (2 * A + 1) n 0 := by simp [bytesJ, bytesV]
  rw [h0] at hr
  have hcb : cb l A = ⟨[.lst l.length (l.map byteC) false, .int .i64 A], false⟩ := rfl
  refine acall_intro mixed Tryd.func30 rfl ca30 (by kernel_rfl) (by rw [Tryd.ntmps30]; simp) ?_
  repeat' (first | (with_reducible first | apply jA | apply jB | apply jC | apply jD | apply jE | apply jF | apply jG | apply jH | apply jI | apply jJ | apply jK | apply jL | apply jM | apply jN | apply jO) | ((with_reducible first | apply jP | apply jQ); rfl) | ((first | ((with_reducible first | apply jR | apply jS | apply jT); rfl; rfl) | (with_reducible first | apply jU | apply jV | apply jW) | ((with_reducible first | apply jX | apply jY | apply jZ); rfl) | ((with_reducible first | apply kA | apply kB | apply kC); rfl)); all_goals (first | ((with_reducible show Is _ _); exact kE) | ((with_reducible refine fun (hc : (_ : Bool) = _) => ?_); (try simp only [xZ, xY, xP, reduceCtorEq] at hc); (try (have hx : True := hc; clear hx hc)); (try exact kX)) | ((with_reducible show ACall _ _ _ _ _); (first | ((with_reducible apply hnx) <;> exact kD))) | ((fail_if_success (with_reducible first | show Is _ _ | show ACall _ _ _ _ _)); (try ((with_reducible show _ ∨ _); exact kT))))))
  obtain ⟨s, hs, hs2⟩ : ∃ s : Nat, 2 * A + 1 = s ∧ s ≤ 2000001 := ⟨_, rfl, by omega⟩
  have hsi : (2 * (A : Int) + 1) = s := by omega
  rw [hs] at *
  refine w_loop (fun fr B1 => ∃ j : Nat, j ≤ n ∧ fr 5 = .view B.length 0 n 1 true ∧ fr 6 = .int .i64 x ∧ fr 7 = .int .i64 s ∧ fr 20 = .int .i64 n ∧ fr 21 = .int .i64 j ∧ B1 = B.set β (cb l A) ++ [⟨(bytesJ x s n j).map byteC, false⟩]) (fun fr _ => n - natOf (fr 21)) ?_ ?_
  · exact ⟨0, by omega, by (simp (disch := omega) [go_sem, *]) <;> (try omega), by (simp (disch := omega) [go_sem, *]) <;> (try omega), by (simp (disch := omega) [go_sem, *]) <;> (try omega), by (simp (disch := omega) [go_sem, *]) <;> (try omega), by (simp (disch := omega) [go_sem, *]) <;> (try omega), rfl⟩
  · rintro fr B1 ⟨j, hj, h5, h6, h7, h20, h21, rfl⟩
    have hjl := bytesJ_len (x := x) (s := s) hj
    by_cases hc : j < n
    · have hset := bytesJ_set (x := x) (s := s) hc
      have hb : j * s ≤ 1000 * 2000001 := Nat.mul_le_mul (by omega) hs2
      have hb2 : 0 ≤ (j : Int) * s ∧ (j : Int) * s ≤ 2000001000 := by rw [← Int.natCast_mul]; omega
      have hv : byteC (UInt8.ofNat (x + j * s)) = .int .u8 (IntKind.u8.wrap (x + (j : Int) * s)) := by rw [byte_wrap]; push_cast; rfl
      repeat' (first | (with_reducible first | apply jA | apply jB | apply jC | apply jD | apply jE | apply jF | apply jG | apply jH | apply jI | apply jJ | apply jK | apply jL | apply jM | apply jN | apply jO) | ((with_reducible first | apply jP | apply jQ); rfl) | ((first | ((with_reducible first | apply jR | apply jS | apply jT); rfl; rfl) | (with_reducible first | apply jU | apply jV | apply jW) | ((with_reducible first | apply jX | apply jY | apply jZ); rfl)); all_goals (first | ((with_reducible show Is _ _); exact kE) | ((with_reducible refine fun (hc : (_ : Bool) = _) => ?_); (try simp only [xZ, xY, xP, reduceCtorEq] at hc); (try (have hx : True := hc; clear hx hc)); (try exact kX)) | ((fail_if_success (with_reducible first | show Is _ _ | show ACall _ _ _ _ _)); (try ((with_reducible show _ ∨ _); exact kT))))))
      refine ⟨⟨j + 1, by omega, by (simp (disch := omega) [go_sem, *]) <;> (try omega), by (simp (disch := omega) [go_sem, *]) <;> (try omega), by (simp (disch := omega) [go_sem, *]) <;> (try omega), by (simp (disch := omega) [go_sem, *]) <;> (try omega), by (simp (disch := omega) [go_sem, *]) <;> (try omega), ?_⟩, by (simp (disch := omega) [go_sem, *]) <;> (try omega)⟩
      rw [cb, ← hv, bytes_mid, ← hset, List.set_eq_take_append_cons_drop (l := bytesJ x s n j), if_pos (by omega)]
    · have : j = n := by omega
      subst this
      repeat' (first | (with_reducible first | apply jA | apply jB | apply jC | apply jD | apply jE | apply jF | apply jG | apply jH | apply jI | apply jJ | apply jK | apply jL | apply jM | apply jN | apply jO) | ((with_reducible first | apply jP | apply jQ); rfl) | ((first | ((with_reducible first | apply jR | apply jS | apply jT); rfl; rfl) | (with_reducible first | apply jU | apply jV | apply jW) | ((with_reducible first | apply jX | apply jY | apply jZ); rfl)); all_goals (first | ((with_reducible show Is _ _); exact kE) | ((with_reducible refine fun (hc : (_ : Bool) = _) => ?_); (try simp only [xZ, xY, xP, reduceCtorEq] at hc); (try (have hx : True := hc; clear hx hc)); (try exact kX)) | ((fail_if_success (with_reducible first | show Is _ _ | show ACall _ _ _ _ _)); (try ((with_reducible show _ ∨ _); exact kT))))))
      have : bytesJ x s j j = bytesV x s j := by simp [bytesJ]
      rw [this]
      exact ⟨rfl, rfl⟩
def adSix (l : List UInt8) (a : Nat) : Bool := nxV l a 3 == 1
def adA (l : List UInt8) (a : Nat) : Nat := if adSix l a then nxA l (nxA l a 3) 256 else nxA l (nxA l (nxA l (nxA l a 3) 4) 4) 256
def adIP (l : List UInt8) (a : Nat) : List UInt8 :=
  if adSix l a then 0xfd :: (bytesV (nxV l (nxA l a 3) 256) (2 * nxA l (nxA l a 3) 256 + 1) 16).drop 1
  else [10, UInt8.ofNat (nxV l (nxA l a 3) 4), UInt8.ofNat (nxV l (nxA l (nxA l a 3) 4) 4), UInt8.ofNat (nxV l (nxA l (nxA l (nxA l a 3) 4) 4) 256)] ++ z12
def adBox (l : List UInt8) (a : Nat) : Box := ⟨.bool (adSix l a) :: (adIP l a).map byteC, false⟩
def adG (l : List UInt8) (a : Nat) : List Box := [adBox l a, adBox l a, ⟨[], false⟩] ++ if adSix l a then [⟨(bytesV (nxV l (nxA l a 3) 256) (2 * nxA l (nxA l a 3) 256 + 1) 16).map byteC, false⟩] else []
theorem adIP_len (l : List UInt8) (a : Nat) : (adIP l a).length = 16 := by
  unfold adIP; split
  · simp [bytesV_len]
  · rfl
theorem adA_le {l : List UInt8} {a : Nat} (h : a ≤ l.length) : adA l a ≤ l.length := by
  unfold adA; split
  · exact nxA_le (nxA_le h)
  · exact nxA_le (nxA_le (nxA_le (nxA_le h)))
theorem addr_at {B : List Box} {β : Nat} {args : List CV} {l : List UInt8} {a : Nat} (ha : Is args [.ptr β 0]) (hB : B[β]? = some (cb l a)) (hl : a ≤ l.length ∧ l.length < 1000000) : ACall Tryd.prog 7 args B fun c B' => c = addrC (adSix l a) (adIP l a) ∧ B' = B.set β (cb l (adA l a)) ++ adG l a := by
  have ha : args = _ := ha
  subst ha
  obtain ⟨p1, p2, p3, p4, p5, p6, p7, p8, p9, p10, p11, p12, p13⟩ := bx_pack hB
  have h1 := nxA_le (n := 3) hl.1
  have hnx : ∀ (b n : Nat), b ≤ l.length → ∀ (B : List Box) (args : List CV) (m : Int), Is args [.ptr β 0, .int .i64 m] → m = n → B[β]? = some (cb l b) → ACall Tryd.prog 29 args B fun c B' => c = .int .i64 (nxV l b n) ∧ B' = B.set β (cb l (nxA l b n)) := fun b n hb _ _ _ h hm h2 => next_at h hm h2 ⟨hb, by omega⟩
  have hn3 := hnx a 3 hl.1
  generalize hs : adSix l a = six
  rw [adA, adIP, adG, adBox, adIP, hs]
  unfold adSix at hs
  generalize nxV l a 3 = v at *
  generalize nxA l a 3 = a1 at *
  cases six with
  | true =>
    have hv : v = 1 := by simpa using hs
    subst hv
    have hby : ∀ {B : List Box} {args : List CV}, Is args [.ptr β 0, .int .i64 16] → B[β]? = some (cb l a1) → ACall Tryd.prog 30 args B fun c B' => c = .view B.length 0 16 1 true ∧ B' = B.set β (cb l (nxA l a1 256)) ++ [⟨(bytesV (nxV l a1 256) (2 * nxA l a1 256 + 1) 16).map byteC, false⟩] := fun h h2 => bytes_at h rfl h2 ⟨h1, hl.2⟩ (by omega)
    generalize nxA l a1 256 = a2 at *
    have hbl := bytesV_len (nxV l a1 256) (2 * a2 + 1) 16
    generalize bytesV (nxV l a1 256) (2 * a2 + 1) 16 = by_ at *
    refine acall_intro mixed Tryd.func7 rfl ca7 (by kernel_rfl) (by rw [Tryd.ntmps7]; simp) ?_
    repeat' (first | (with_reducible first | apply jA | apply jB | apply jC | apply jD | apply jE | apply jF | apply jG | apply jH | apply jI | apply jJ | apply jK | apply jL | apply jM | apply jN | apply jO) | ((with_reducible apply jP); rfl) | ((first | ((with_reducible first | apply jR | apply jS | apply jT); rfl; rfl) | (with_reducible first | apply jU | apply jV | apply jW) | ((with_reducible first | apply jX | apply jY | apply jZ); rfl) | ((with_reducible first | apply kA | apply kB | apply kC); rfl)); all_goals (first | ((with_reducible show Is _ _); exact kE) | ((with_reducible refine fun (hc : (_ : Bool) = _) => ?_); (try simp only [xZ, xY, xP, reduceCtorEq] at hc); (try (have hx : True := hc; clear hx hc)); (try exact kX)) | ((with_reducible show ACall _ _ _ _ _); (first | ((with_reducible apply hn3) <;> exact kD))) | ((fail_if_success (with_reducible first | show Is _ _ | show ACall _ _ _ _ _)); (try ((with_reducible show _ ∨ _); exact kT))))))
    refine w_drawJ [1] [⟨[], false⟩] (fun B' => ∃ cs, B'[B.length + 1]? = some ⟨cs, false⟩ ∧ cs.length = 17) rfl (by simp (disch := first | omega | (simp only [yZ, yB] <;> omega) | fail) [go_sem, yY, *, -List.map_take, -List.map_drop, -List.map_append, -List.map_reverse]; exact rfl) ⟨_, (by (try (simp (disch := omega) [go_sem, *]) <;> (try omega)); rfl), rfl⟩ ?_
    repeat' (first | (with_reducible first | apply jA | apply jB | apply jC | apply jD | apply jE | apply jF | apply jG | apply jH | apply jI | apply jJ | apply jK | apply jL | apply jM | apply jN | apply jO) | ((with_reducible first | apply jP | apply jQ); rfl) | ((with_reducible apply w_drawA); (conv => lhs; reduce); exact kE; exact kE) | ((first | ((with_reducible first | apply d_made | apply q_made); rfl; rfl)); (iterate 6 exact kE)) | ((first | ((with_reducible first | apply d_fop | apply q_fop); rfl; rfl)); (intro Bx hJ; (first | (obtain ⟨_, hJ1, hJ2⟩ := hJ) | (try simp only at hJ)); exact kE)) | ((with_reducible first | apply d_free | apply q_free); rfl; (iterate 2 exact kE); (intro Bx hJ); (first | ((with_reducible apply hby) <;> exact kD))) | ((first | ((with_reducible first | apply jR | apply jS | apply jT); rfl; rfl) | (with_reducible first | apply jU | apply jV | apply jW) | ((with_reducible first | apply jX | apply jY | apply jZ); rfl) | ((with_reducible first | apply kA | apply kB | apply kC); rfl)); all_goals (first | ((with_reducible show Is _ _); exact kE) | ((with_reducible refine fun (hc : (_ : Bool) = _) => ?_); (try simp only [xZ, xY, xP, reduceCtorEq] at hc); (try (have hx : True := hc; clear hx hc)); (try exact kX)) | ((with_reducible show ACall _ _ _ _ _); (first | ((with_reducible apply hby) <;> exact kD))) | ((fail_if_success (with_reducible first | show Is _ _ | show ACall _ _ _ _ _)); (try ((with_reducible show _ ∨ _); first | exact .inl rfl | (refine .inr ⟨rfl, ?_, ?_⟩; (focus (repeat (first | exact trivial | refine ⟨.inl rfl, ?_⟩ | refine ⟨.inr rfl, ?_⟩ | refine ⟨.inr (by (simp (disch := first | omega | (simp only [yZ, yB] <;> omega) | fail) [go_sem, yY, *, -List.map_take, -List.map_drop, -List.map_append, -List.map_reverse])), ?_⟩))); (first | exact trivial | exact rfl | (refine ⟨_, ?_, ?_⟩; (focus (simp (disch := first | omega | (simp only [yZ, yB] <;> omega) | fail) [go_sem, yY, *, -List.map_take, -List.map_drop, -List.map_append, -List.map_reverse]; (try exact rfl))); (simp (disch := first | omega | (simp only [yZ, yB] <;> omega) | fail) [go_sem, yY, *, -List.map_take, -List.map_drop, -List.map_append, -List.map_reverse])) | (simp (disch := first | omega | (simp only [yZ, yB] <;> omega) | fail) [go_sem, yY, *, -List.map_take, -List.map_drop, -List.map_append, -List.map_reverse]))) | exact .inl (by (simp (disch := first | omega | (simp only [yZ, yB] <;> omega) | fail) [go_sem, yY, *, -List.map_take, -List.map_drop, -List.map_append, -List.map_reverse]))))))))
    have e : List.take 15 (List.map byteC by_).tail = (List.map byteC by_).tail := List.take_of_length_le (by rw [List.length_tail, List.length_map]; omega)
    rw [e, e, if_pos rfl, if_pos rfl, if_pos rfl, addrC, List.map_cons, List.map_drop, List.drop_one]
    exact ⟨rfl, rfl⟩
  | false =>
    refine acall_intro mixed Tryd.func7 rfl ca7 (by kernel_rfl) (by rw [Tryd.ntmps7]; simp) ?_
    have hv : ((v : Int) == 1) = false := by
      rw [beq_eq_false_iff_ne] at hs ⊢; omega
    repeat' (first | (with_reducible first | apply jA | apply jB | apply jC | apply jD | apply jE | apply jF | apply jG | apply jH | apply jI | apply jJ | apply jK | apply jL | apply jM | apply jN | apply jO) | ((with_reducible apply jP); rfl) | ((first | ((with_reducible first | apply jR | apply jS | apply jT); rfl; rfl) | (with_reducible first | apply jU | apply jV | apply jW) | ((with_reducible first | apply jX | apply jY | apply jZ); rfl) | ((with_reducible first | apply kA | apply kB | apply kC); rfl)); all_goals (first | ((with_reducible show Is _ _); exact kE) | ((with_reducible refine fun (hc : (_ : Bool) = _) => ?_); (try simp only [xZ, xY, xP, reduceCtorEq] at hc); (try (have hx : True := hc; clear hx hc)); (try exact kX)) | ((with_reducible show ACall _ _ _ _ _); (first | ((with_reducible apply hn3) <;> exact kD))) | ((fail_if_success (with_reducible first | show Is _ _ | show ACall _ _ _ _ _)); (try ((with_reducible show _ ∨ _); exact kT))))))
    refine w_drawJ [1] [⟨[], false⟩] (fun B' => ∃ cs, B'[B.length + 1]? = some ⟨cs, false⟩ ∧ cs.length = 17) rfl (by simp (disch := first | omega | (simp only [yZ, yB] <;> omega) | fail) [go_sem, yY, *, -List.map_take, -List.map_drop, -List.map_append, -List.map_reverse]; exact rfl) ⟨_, (by (try (simp (disch := omega) [go_sem, *]) <;> (try omega)); rfl), rfl⟩ ?_
    have h2 := nxA_le (n := 4) h1
    have h3 := nxA_le (n := 4) h2
    have k1 := hnx a1 4 h1
    have k2 := hnx (nxA l a1 4) 4 h2
    have k3 := hnx (nxA l (nxA l a1 4) 4) 256 h3
    generalize nxA l a1 4 = a2 at *
    generalize nxA l a2 4 = a3 at *
    generalize nxA l a3 256 = a4 at *
    generalize nxV l a1 4 = v1 at *
    generalize nxV l a2 4 = v2 at *
    generalize nxV l a3 256 = v3 at *
    repeat' (first | (with_reducible first | apply jA | apply jB | apply jC | apply jD | apply jE | apply jF | apply jG | apply jH | apply jI | apply jJ | apply jK | apply jL | apply jM | apply jN | apply jO) | ((with_reducible first | apply jP | apply jQ); rfl) | ((with_reducible apply w_drawA); (conv => lhs; reduce); exact kE; exact kE) | ((first | ((with_reducible first | apply d_made | apply q_made); rfl; rfl)); (iterate 6 exact kE)) | ((first | ((with_reducible first | apply d_fop | apply q_fop); rfl; rfl)); (intro Bx hJ; (first | (obtain ⟨_, hJ1, hJ2⟩ := hJ) | (try simp only at hJ)); exact kE)) | ((with_reducible first | apply d_free | apply q_free); rfl; (iterate 2 exact kE); (intro Bx hJ); (first | ((with_reducible apply k1) <;> exact kD) | ((with_reducible apply k2) <;> exact kD) | ((with_reducible apply k3) <;> exact kD))) | ((first | ((with_reducible first | apply jR | apply jS | apply jT); rfl; rfl) | (with_reducible first | apply jU | apply jV | apply jW) | ((with_reducible first | apply jX | apply jY | apply jZ); rfl) | ((with_reducible first | apply kA | apply kB | apply kC); rfl)); all_goals (first | ((with_reducible show Is _ _); exact kE) | ((with_reducible refine fun (hc : (_ : Bool) = _) => ?_); (try simp only [xZ, xY, xP, reduceCtorEq] at hc); (try (have hx : True := hc; clear hx hc)); (try exact kX)) | ((with_reducible show ACall _ _ _ _ _); (first | ((with_reducible apply k1) <;> exact kD) | ((with_reducible apply k2) <;> exact kD) | ((with_reducible apply k3) <;> exact kD))) | ((fail_if_success (with_reducible first | show Is _ _ | show ACall _ _ _ _ _)); (try ((with_reducible show _ ∨ _); first | exact .inl rfl | (refine .inr ⟨rfl, ?_, ?_⟩; (focus (repeat (first | exact trivial | refine ⟨.inl rfl, ?_⟩ | refine ⟨.inr rfl, ?_⟩ | refine ⟨.inr (by (simp (disch := first | omega | (simp only [yZ, yB] <;> omega) | fail) [go_sem, yY, *, -List.map_take, -List.map_drop, -List.map_append, -List.map_reverse])), ?_⟩))); (first | exact trivial | exact rfl | (refine ⟨_, ?_, ?_⟩; (focus (simp (disch := first | omega | (simp only [yZ, yB] <;> omega) | fail) [go_sem, yY, *, -List.map_take, -List.map_drop, -List.map_append, -List.map_reverse]; (try exact rfl))); (simp (disch := first | omega | (simp only [yZ, yB] <;> omega) | fail) [go_sem, yY, *, -List.map_take, -List.map_drop, -List.map_append, -List.map_reverse])) | (simp (disch := first | omega | (simp only [yZ, yB] <;> omega) | fail) [go_sem, yY, *, -List.map_take, -List.map_drop, -List.map_append, -List.map_reverse]))) | exact .inl (by (simp (disch := first | omega | (simp only [yZ, yB] <;> omega) | fail) [go_sem, yY, *, -List.map_take, -List.map_drop, -List.map_append, -List.map_reverse]))))))))
    rw [← byte_wrap, ← byte_wrap, ← byte_wrap]
    exact ⟨rfl, rfl⟩
def cutN (x h : Nat) : Nat := x / 2 ^ (8 - h) * 2 ^ (8 - h)
def clrN (x lo : Nat) : Nat → Nat
  | 0 => x
  | r + 1 => if lo ≤ r then (if clrN x lo r / 2 ^ (7 - r) % 2 = 1 then clrN x lo r - 2 ^ (7 - r) else clrN x lo r) else clrN x lo r
theorem andNot_bit0 : ∀ x : Fin 256, ∀ r : Fin 8, bits .andNot .u8 (x.1 : Int) (2 ^ (7 - r.1)) = ((if x.1 / 2 ^ (7 - r.1) % 2 = 1 then x.1 - 2 ^ (7 - r.1) else x.1 : Nat) : Int) := by decide +kernel
theorem andNot_bit1 (x r : Nat) (hx : x < 256) (hr : r < 8) : bits .andNot .u8 (x : Int) (2 ^ (7 - r)) = ((if x / 2 ^ (7 - r) % 2 = 1 then x - 2 ^ (7 - r) else x : Nat) : Int) := andNot_bit0 ⟨x, hx⟩ ⟨r, hr⟩
theorem cut_bits0 : ∀ x : Fin 256, ∀ h : Fin 9, ∀ q : Fin 8, cutN x.1 h.1 / 2 ^ (7 - q.1) % 2 = if q.1 < h.1 then x.1 / 2 ^ (7 - q.1) % 2 else 0 := by decide +kernel
theorem clr_cut0 : ∀ x : Fin 256, ∀ h : Fin 9, clrN x.1 h.1 8 = cutN x.1 h.1 := by decide +kernel
theorem clrN_le (x lo : Nat) : ∀ r, clrN x lo r ≤ x
  | 0 => Nat.le_refl _
  | r + 1 => by
    have := clrN_le x lo r
    have h2 := Nat.sub_le (clrN x lo r) (2 ^ (7 - r))
    unfold clrN; split
    · split
      · exact Nat.le_trans h2 this
      · exact this
    · exact this
theorem clrN_id (x lo : Nat) : ∀ r, r ≤ lo → clrN x lo r = x
  | 0, _ => rfl
  | r + 1, h => by rw [clrN, if_neg (by omega), clrN_id x lo r (by omega)]
theorem cutN_le (x h : Nat) : cutN x h ≤ x := Nat.div_mul_le_self _ _
def cutB (x : UInt8) (h : Nat) : UInt8 := UInt8.ofNat (cutN x.toNat h)
def clrB (x : UInt8) (lo r : Nat) : UInt8 := UInt8.ofNat (clrN x.toNat lo r)
theorem cutB_toNat (x : UInt8) (h : Nat) : (cutB x h).toNat = cutN x.toNat h := by
  have := x.toNat_lt; have := cutN_le x.toNat h
  rw [cutB, UInt8.toNat_ofNat']; omega
theorem clrB_toNat (x : UInt8) (lo r : Nat) : (clrB x lo r).toNat = clrN x.toNat lo r := by
  have := x.toNat_lt; have := clrN_le x.toNat lo r
  rw [clrB, UInt8.toNat_ofNat']; omega
theorem clrB_id {x : UInt8} {lo r : Nat} (h : r ≤ lo) : clrB x lo r = x := UInt8.toNat_inj.1 (by rw [clrB_toNat, clrN_id _ _ _ h])
theorem clrB_cut {x : UInt8} {h : Nat} (hh : h ≤ 8) : clrB x h 8 = cutB x h := UInt8.toNat_inj.1 (by
  rw [clrB_toNat, cutB_toNat]; exact clr_cut0 ⟨x.toNat, x.toNat_lt⟩ ⟨h, by omega⟩)
theorem andNot_bit (x : UInt8) {lo r : Nat} (hl : lo ≤ r) (hr : r < 8) : CV.int .u8 (bits .andNot .u8 ((clrB x lo r).toNat : Int) (2 ^ (7 - r))) = byteC (clrB x lo (r + 1)) := by
  rw [andNot_bit1 _ _ (clrB x lo r).toNat_lt hr, byteC, clrB_toNat x lo (r + 1), clrN, if_pos hl, clrB_toNat]
def cutL (A : List UInt8) (s : Nat) : List UInt8 := (List.range 16).map fun i => cutB (A.getD i 0) (min (s - 8 * i) 8)
def mskL (A : List UInt8) (s i : Nat) : List UInt8 := (List.range 16).map fun j => clrB (A.getD j 0) (min (s - 8 * j) 8) (min (i - 8 * j) 8)
def cutJ (A : List UInt8) (s k : Nat) : List UInt8 := (List.range 16).map fun i => if i < k then cutB (A.getD i 0) (min (s - 8 * i) 8) else A.getD i 0
theorem row16 {A : List UInt8} (h : A.length = 16) (f : Nat → UInt8) (hf : ∀ i, i < 16 → f i = A.getD i 0) : (List.range 16).map f = A := by
  apply List.ext_getElem
  · simp [h]
  · intro i h1 h2
    rw [List.getElem_map, List.getElem_range, hf i (by omega), List.getD_eq_getElem?_getD, List.getElem?_eq_getElem h2, Option.getD_some]
theorem row16_set (f g : Nat → UInt8) (k : Nat) (x : UInt8) (hk : k < 16) (hx : g k = x) (hg : ∀ i, i < 16 → i ≠ k → g i = f i) : ((List.range 16).map f).set k x = (List.range 16).map g := by
  apply List.ext_getElem
  · simp
  · intro i h1 h2
    rw [List.getElem_set, List.getElem_map, List.getElem_range]
    split
    · rename_i h; subst h; rw [List.getElem_map, List.getElem_range]; exact hx.symm
    · rename_i h
      rw [List.getElem_map, List.getElem_range]
      exact (hg i (by simpa using h2) (fun e => h e.symm)).symm
theorem cutL_len (A : List UInt8) (s : Nat) : (cutL A s).length = 16 := by simp [cutL]
theorem mskL_len (A : List UInt8) (s i : Nat) : (mskL A s i).length = 16 := by simp [mskL]
theorem cutJ_len (A : List UInt8) (s i : Nat) : (cutJ A s i).length = 16 := by simp [cutJ]
theorem mskL_start {A : List UInt8} (h : A.length = 16) (s : Nat) : mskL A s s = A := row16 h _ fun _ _ => clrB_id (Nat.le_refl _)
theorem mskL_end (A : List UInt8) (s : Nat) : mskL A s 128 = cutL A s := by
  apply List.map_congr_left
  intro i hi
  rw [List.mem_range] at hi
  rw [show min (128 - 8 * i) 8 = 8 by omega, clrB_cut (Nat.min_le_right _ _)]
theorem getD_row16 (f : Nat → UInt8) {k : Nat} (hk : k < 16) : ((List.range 16).map f).getD k 0 = f k := by
  rw [List.getD_eq_getElem?_getD, List.getElem?_map, List.getElem?_range hk]; rfl
theorem mskL_get (A : List UInt8) {s i q : Nat} (hq : i / 8 = q) (hi : i < 128) : (mskL A s i).getD q 0 = clrB (A.getD q 0) (min (s - 8 * q) 8) (i % 8) := by
  rw [mskL, getD_row16 _ (by omega), show min (i - 8 * q) 8 = i % 8 by omega]
theorem mskL_step (A : List UInt8) {s i : Nat} (hs : s ≤ i) (hi : i < 128) : (mskL A s i).set (i / 8) (clrB (A.getD (i / 8) 0) (min (s - 8 * (i / 8)) 8) (i % 8 + 1)) = mskL A s (i + 1) := by
  refine row16_set _ _ _ _ (by omega) ?_ fun j hj hne => ?_
  · rw [show min (i + 1 - 8 * (i / 8)) 8 = i % 8 + 1 by omega]
  · rw [show min (i + 1 - 8 * j) 8 = min (i - 8 * j) 8 by omega]
theorem cutJ_start {A : List UInt8} (h : A.length = 16) (s : Nat) : cutJ A s 0 = A := row16 h _ fun _ _ => rfl
theorem cutJ_end (A : List UInt8) (s : Nat) : cutJ A s 16 = cutL A s := by
  apply List.map_congr_left
  intro i hi
  rw [List.mem_range] at hi
  rw [if_pos hi]
theorem cutJ_get (A : List UInt8) {s k : Nat} (hk : k < 16) : (cutJ A s k).getD k 0 = A.getD k 0 := by
  rw [cutJ, getD_row16 _ hk, if_neg (by omega)]
theorem cutJ_step (A : List UInt8) {s k : Nat} (hk : k < 16) : (cutJ A s k).set k (cutB (A.getD k 0) (min (s - 8 * k) 8)) = cutJ A s (k + 1) := by
  refine row16_set _ _ _ _ hk (by rw [if_pos (by omega)]) fun j hj hne => ?_
  by_cases h : j < k
  · rw [if_pos h, if_pos (by omega)]
  · rw [if_neg h, if_neg (by omega)]
section
variable {α : Type} {c : α} {l : List α} {k : Nat}
theorem cons_get1 (h : 1 + k < (c :: l).length) : (c :: l)[1 + k]'h = l[k]'(by simp at h; omega) := by
  simp only [Nat.add_comm 1 k, List.getElem_cons_succ]
theorem cons_take1 : (c :: l).take (1 + k) = c :: l.take k := by rw [Nat.add_comm, List.take_succ_cons]
theorem cons_drop1 : (c :: l).drop (1 + k) = l.drop k := by rw [Nat.add_comm, List.drop_succ_cons]
theorem cons_drop2 : (c :: l).drop (1 + k + 1) = l.drop (k + 1) := by rw [Nat.add_comm 1 k, List.drop_succ_cons]
end
theorem u8_ones : (if IntKind.u8.signed = true then (-1 : Int) else IntKind.u8.max) = 255 := rfl
theorem shr128' : ∀ r : Nat, r < 8 → Int.fdiv 128 (2 ^ r) = 2 ^ (7 - r) := by
  have : ∀ r : Fin 8, Int.fdiv 128 (2 ^ r.1) = 2 ^ (7 - r.1) := by decide
  exact fun r h => this ⟨r, h⟩
theorem get_of_getD {l : List UInt8} {i : Nat} {y : UInt8} (h : l.getD i 0 = y) (hi : i < l.length) : l[i] = y := by
  rw [← h, List.getD_eq_getElem?_getD, List.getElem?_eq_getElem hi, Option.getD_some]
theorem and_cut0 : ∀ x : Fin 256, ∀ h : Fin 9, bits .and .u8 (x.1 : Int) (bits .xor .u8 255 (Int.fdiv 255 (2 ^ h.1))) = (cutN x.1 h.1 : Int) := by decide +kernel
theorem and_cut (x : UInt8) {h : Nat} (hh : h ≤ 8) : CV.int .u8 (bits .and .u8 (x.toNat : Int) (bits .xor .u8 255 (Int.fdiv 255 (2 ^ h)))) = byteC (cutB x h) := by
  rw [byteC, cutB_toNat]; exact congrArg _ (and_cut0 ⟨x.toNat, x.toNat_lt⟩ ⟨h, by omega⟩)
def prefC (six : Bool) (A : List UInt8) (s : Int) : CV := .agg (.bool six :: (A.map byteC ++ [.int .i64 s]))
theorem masked_in (six : Bool) (A : List UInt8) (s : Nat) (hA : A.length = 16) (hs : s ≤ 128) : PC Tryd.prog true 32 [addrC six A, .int .i64 s] (prefC six (cutL A s) s) := by
  refine acall_intro mixed Tryd.func32 rfl ca32 (by kernel_rfl) (by rw [Tryd.ntmps32]; simp) ?_
  repeat' (first | (with_reducible first | apply jA | apply jB | apply jC | apply jD | apply jE | apply jF | apply jG | apply jH | apply jI | apply jJ | apply jK | apply jL | apply jM | apply jN | apply jO) | ((with_reducible first | apply jP | apply jQ); rfl) | ((first | ((with_reducible first | apply jR | apply jS | apply jT); rfl; rfl) | (with_reducible first | apply jU | apply jV | apply jW) | ((with_reducible first | apply jX | apply jY | apply jZ); rfl)); all_goals (first | ((with_reducible show Is _ _); exact kE_GD0) | ((with_reducible refine fun (hc : (_ : Bool) = _) => ?_); (try simp only [xZ, xY, xP, reduceCtorEq] at hc); (try (have hx : True := hc; clear hx hc)); (try exact kX)) | ((fail_if_success (with_reducible first | show Is _ _ | show ACall _ _ _ _ _)); (try ((with_reducible show _ ∨ _); exact kT))))))
  refine w_loop (fun fr B => ∃ i b, s ≤ i ∧ i ≤ 128 ∧ fr 5 = .int .i64 (i : Nat) ∧ fr 1 = .int .i64 s ∧ fr 2 = .ptr 0 0 ∧ fr 4 = .ptr 1 0 ∧ b.cells.length = 18 ∧ b.multi = false ∧ B = [⟨.bool six :: (mskL A s i).map byteC, false⟩, b]) (fun fr _ => 128 - natOf (fr 5)) ?_ ?_
  · refine ⟨s, _, Nat.le_refl _, hs, by (simp (disch := omega) [go_sem, *]) <;> (try omega), by (simp (disch := omega) [go_sem, *]) <;> (try omega), by (simp (disch := omega) [go_sem, *]) <;> (try omega), by (simp (disch := omega) [go_sem, *]) <;> (try omega), ?_, ?_, by rw [mskL_start hA]⟩ <;> rfl
  · rintro fr B ⟨i, ⟨bc, bm⟩, h1, h2, h5, h1', h2', h4, hb, hbm, rfl⟩
    dsimp only at hb hbm
    subst hbm
    have hl := mskL_len A s i
    by_cases hc : i < 128
    · have hq : ((i : Int) / 8).toNat = i / 8 := by omega
      have hg := get_of_getD (mskL_get A (s := s) (i := i) rfl hc)
      have hsh := shr128' (i % 8) (by omega)
      have han := andNot_bit (A.getD (i / 8) 0) (lo := min (s - 8 * (i / 8)) 8) (r := i % 8) (by omega) (by omega)
      have hst := mskL_step A h1 hc
      generalize clrB (A.getD (i / 8) 0) (min (s - 8 * (i / 8)) 8) (i % 8) = y at *
      generalize clrB (A.getD (i / 8) 0) (min (s - 8 * (i / 8)) 8) (i % 8 + 1) = y' at *
      repeat' (first | (with_reducible first | apply jA | apply jB | apply jC | apply jD | apply jE | apply jF | apply jG | apply jH | apply jI | apply jJ | apply jK | apply jL | apply jM | apply jN | apply jO) | ((with_reducible first | apply jP | apply jQ); rfl) | ((first | ((with_reducible first | apply jR | apply jS | apply jT); rfl; rfl) | (with_reducible first | apply jU | apply jV | apply jW) | ((with_reducible first | apply jX | apply jY | apply jZ); rfl)); all_goals (first | ((with_reducible show Is _ _); exact kE_GD1) | ((with_reducible refine fun (hc : (_ : Bool) = _) => ?_); (try simp only [xZ, xY, xP, reduceCtorEq] at hc); (try (have hx : True := hc; clear hx hc)); (try exact kX)) | ((fail_if_success (with_reducible first | show Is _ _ | show ACall _ _ _ _ _)); (try ((with_reducible show _ ∨ _); exact kT))))))
      refine ⟨⟨i + 1, ⟨bc, false⟩, by omega, by omega, by (simp (disch := omega) [go_sem, *]) <;> (try omega), by (simp (disch := omega) [go_sem, *]) <;> (try omega), by (simp (disch := omega) [go_sem, *]) <;> (try omega), by (simp (disch := omega) [go_sem, *]) <;> (try omega), hb, rfl, ?_⟩, by (simp (disch := omega) [go_sem, *]) <;> (try omega)⟩
      rw [← hst, List.set_eq_take_append_cons_drop, if_pos (by rw [hl]; omega), ← bytes_mid]
      rw [Nat.add_comm 1]
    · have : i = 128 := by omega
      subst this
      rw [mskL_end] at *
      repeat' (first | (with_reducible first | apply jA | apply jB | apply jC | apply jD | apply jE | apply jF | apply jG | apply jH | apply jI | apply jJ | apply jK | apply jL | apply jM | apply jN | apply jO) | ((with_reducible first | apply jP | apply jQ); rfl) | ((first | ((with_reducible first | apply jR | apply jS | apply jT); rfl; rfl) | (with_reducible first | apply jU | apply jV | apply jW) | ((with_reducible first | apply jX | apply jY | apply jZ); rfl)); all_goals (first | ((with_reducible show Is _ _); exact kE) | ((with_reducible refine fun (hc : (_ : Bool) = _) => ?_); (try simp only [xZ, xY, xP, reduceCtorEq] at hc); (try (have hx : True := hc; clear hx hc)); (try exact kX)) | ((fail_if_success (with_reducible first | show Is _ _ | show ACall _ _ _ _ _)); (try ((with_reducible show _ ∨ _); exact kT))))))
      rw [prefC]
      (simp (disch := omega) [go_sem, *]) <;> (try omega)
theorem icut_in (six : Bool) (A : List UInt8) (s : Nat) (hA : A.length = 16) (hs : s ≤ 128) : PC Tryd.prog true 79 [addrC six A, .int .i64 s] (addrC six (cutL A s)) := by
  refine acall_intro mixed Tryd.func79 rfl ca79 (by kernel_rfl) (by rw [Tryd.ntmps79]; simp) ?_
  repeat' (first | (with_reducible first | apply jA | apply jB | apply jC | apply jD | apply jE | apply jF | apply jG | apply jH | apply jI | apply jJ | apply jK | apply jL | apply jM | apply jN | apply jO) | ((with_reducible first | apply jP | apply jQ); rfl) | ((first | ((with_reducible first | apply jR | apply jS | apply jT); rfl; rfl) | (with_reducible first | apply jU | apply jV | apply jW) | ((with_reducible first | apply jX | apply jY | apply jZ); rfl)); all_goals (first | ((with_reducible show Is _ _); exact kE_GD0) | ((with_reducible refine fun (hc : (_ : Bool) = _) => ?_); (try simp only [xZ, xY, xP, reduceCtorEq] at hc); (try (have hx : True := hc; clear hx hc)); (try exact kX)) | ((fail_if_success (with_reducible first | show Is _ _ | show ACall _ _ _ _ _)); (try ((with_reducible show _ ∨ _); exact kT))))))
  refine w_loop (fun fr B => ∃ i b, i ≤ 16 ∧ fr 7 = .int .i64 (i : Nat) ∧ fr 1 = .int .i64 s ∧ fr 2 = .ptr 0 0 ∧ fr 4 = .ptr 1 0 ∧ b.cells.length = 17 ∧ b.multi = false ∧ B = [⟨.bool six :: (cutJ A s i).map byteC, false⟩, b]) (fun fr _ => 16 - natOf (fr 7)) ?_ ?_
  · refine ⟨0, _, by omega, by (simp (disch := omega) [go_sem, *]) <;> (try omega), by (simp (disch := omega) [go_sem, *]) <;> (try omega), by (simp (disch := omega) [go_sem, *]) <;> (try omega), by (simp (disch := omega) [go_sem, *]) <;> (try omega), ?_, ?_, by rw [cutJ_start hA]⟩ <;> rfl
  · rintro fr B ⟨i, ⟨bc, bm⟩, h1, h7, h1', h2', h4, hb, hbm, rfl⟩
    dsimp only at hb hbm
    subst hbm
    have hl := cutJ_len A s i
    by_cases hc : i < 16
    · have hg := get_of_getD (cutJ_get A (s := s) hc)
      have hm : (min (max ((s : Int) - 8 * i) 0) 8).toNat = min (s - 8 * i) 8 := by omega
      have han := and_cut (A.getD i 0) (h := min (s - 8 * i) 8) (by omega)
      have hst := cutJ_step A (s := s) hc
      generalize min (s - 8 * i) 8 = r at *
      generalize A.getD i 0 = y at *
      generalize cutB y r = y' at *
      repeat' (first | (with_reducible first | apply jA | apply jB | apply jC | apply jD | apply jE | apply jF | apply jG | apply jH | apply jI | apply jJ | apply jK | apply jL | apply jM | apply jN | apply jO) | ((with_reducible first | apply jP | apply jQ); rfl) | ((first | ((with_reducible first | apply jR | apply jS | apply jT); rfl; rfl) | (with_reducible first | apply jU | apply jV | apply jW) | ((with_reducible first | apply jX | apply jY | apply jZ); rfl)); all_goals (first | ((with_reducible show Is _ _); exact kE_GD2) | ((with_reducible refine fun (hc : (_ : Bool) = _) => ?_); (try simp only [xZ, xY, xP, reduceCtorEq] at hc); (try (have hx : True := hc; clear hx hc)); (try exact kX)) | ((fail_if_success (with_reducible first | show Is _ _ | show ACall _ _ _ _ _)); (try ((with_reducible show _ ∨ _); exact kT))))))
      refine ⟨⟨i + 1, ⟨bc, false⟩, by omega, by (simp (disch := omega) [go_sem, *]) <;> (try omega), by (simp (disch := omega) [go_sem, *]) <;> (try omega), by (simp (disch := omega) [go_sem, *]) <;> (try omega), by (simp (disch := omega) [go_sem, *]) <;> (try omega), hb, rfl, ?_⟩, by (simp (disch := omega) [go_sem, *]) <;> (try omega)⟩
      rw [← hst, List.set_eq_take_append_cons_drop, if_pos (by rw [hl]; omega), ← bytes_mid]
      rw [Nat.add_comm 1]
    · have : i = 16 := by omega
      subst this
      rw [cutJ_end] at *
      repeat' (first | (with_reducible first | apply jA | apply jB | apply jC | apply jD | apply jE | apply jF | apply jG | apply jH | apply jI | apply jJ | apply jK | apply jL | apply jM | apply jN | apply jO) | ((with_reducible first | apply jP | apply jQ); rfl) | ((first | ((with_reducible first | apply jR | apply jS | apply jT); rfl; rfl) | (with_reducible first | apply jU | apply jV | apply jW) | ((with_reducible first | apply jX | apply jY | apply jZ); rfl)); all_goals (first | ((with_reducible show Is _ _); exact kE) | ((with_reducible refine fun (hc : (_ : Bool) = _) => ?_); (try simp only [xZ, xY, xP, reduceCtorEq] at hc); (try (have hx : True := hc; clear hx hc)); (try exact kX)) | ((fail_if_success (with_reducible first | show Is _ _ | show ACall _ _ _ _ _)); (try ((with_reducible show _ ∨ _); exact kT))))))
      rw [addrC]
      (simp (disch := omega) [go_sem, *]) <;> (try omega)
def okA (six : Bool) (A : List UInt8) : Bool := six || (A.drop 4 == z12)
def vld (six : Bool) (A : List UInt8) (s : Int) : Bool := okA six A && (decide (0 ≤ s) && (decide (s ≤ if six then 128 else 32) && (cutL A s.toNat == A)))
theorem icut_at {B : List Box} {args : List CV} {six : Bool} {A : List UInt8} {n : Int} {s : Nat} (hz : Is (omap (fz true false B 6) args) (some [addrC six A, .int .i64 n])) (hn : n = s) (hA : A.length = 16) (hs : s ≤ 128) : ACall Tryd.prog 79 args B fun c B' => c = addrC six (cutL A s) ∧ B' = B := by subst hn; exact acall_fresh hz (icut_in six A s hA hs)
theorem masked_at {B : List Box} {args : List CV} {six : Bool} {A : List UInt8} {n : Int} {s : Nat} (hz : Is (omap (fz true false B 6) args) (some [addrC six A, .int .i64 n])) (hn : n = s) (hA : A.length = 16) (hs : s ≤ 128) : ACall Tryd.prog 32 args B fun c B' => c = prefC six (cutL A s) s ∧ B' = B := by subst hn; exact acall_fresh hz (masked_in six A s hA hs)
theorem zeros12 : [CV.int IntKind.u8 0, CV.int IntKind.u8 0, CV.int IntKind.u8 0, CV.int IntKind.u8 0, CV.int IntKind.u8 0, CV.int IntKind.u8 0, CV.int IntKind.u8 0, CV.int IntKind.u8 0, CV.int IntKind.u8 0, CV.int IntKind.u8 0, CV.int IntKind.u8 0, CV.int IntKind.u8 0] = z12.map byteC := rfl
theorem valid_in (six : Bool) (A : List UInt8) (hA : A.length = 16) : PC Tryd.prog true 78 [addrC six A] (.bool (okA six A)) := by
  obtain ⟨H, T, rfl, hH, hT⟩ : ∃ H T, H ++ T = A ∧ H.length = 4 ∧ T.length = 12 := ⟨A.take 4, A.drop 4, List.take_append_drop _ _, by rw [List.length_take]; omega, by rw [List.length_drop]; omega⟩
  have hd : (H ++ T).drop 4 = T := by rw [← hH]; simp
  rw [okA, hd]
  refine acall_intro mixed Tryd.func78 rfl ca78 (by kernel_rfl) (by rw [Tryd.ntmps78]; simp) ?_
  cases six with
  | true =>
    repeat' (first | (with_reducible first | apply jA | apply jB | apply jC | apply jD | apply jE | apply jF | apply jG | apply jH | apply jI | apply jJ | apply jK | apply jL | apply jM | apply jN | apply jO) | ((with_reducible first | apply jP | apply jQ); rfl) | ((first | ((with_reducible first | apply jR | apply jS | apply jT); rfl; rfl) | (with_reducible first | apply jU | apply jV | apply jW) | ((with_reducible first | apply jX | apply jY | apply jZ); rfl)); all_goals (first | ((with_reducible show Is _ _); exact kE_GD3) | ((with_reducible refine fun (hc : (_ : Bool) = _) => ?_); (try simp only [xZ, xY, xP, reduceCtorEq] at hc); (try (have hx : True := hc; clear hx hc)); (try exact kX)) | ((fail_if_success (with_reducible first | show Is _ _ | show ACall _ _ _ _ _)); (try ((with_reducible show _ ∨ _); exact kT))))))
    simp [fz_bool]
  | false =>
    have hz := z12_len
    repeat' (first | (with_reducible first | apply jA | apply jB | apply jC | apply jD | apply jE | apply jF | apply jG | apply jH | apply jI | apply jJ | apply jK | apply jL | apply jM | apply jN | apply jO) | ((with_reducible first | apply jP | apply jQ); rfl) | ((first | ((with_reducible first | apply jR | apply jS | apply jT); rfl; rfl) | (with_reducible first | apply jU | apply jV | apply jW) | ((with_reducible first | apply jX | apply jY | apply jZ); rfl)); all_goals (first | ((with_reducible show Is _ _); exact kE_GD3) | ((with_reducible refine fun (hc : (_ : Bool) = _) => ?_); (try simp only [xZ, xY, xP, reduceCtorEq] at hc); (try (have hx : True := hc; clear hx hc)); (try exact kX)) | ((fail_if_success (with_reducible first | show Is _ _ | show ACall _ _ _ _ _)); (try ((with_reducible show _ ∨ _); exact kT))))))
    have e : (H ++ T == H ++ z12) = (T == z12) := by rw [Bool.eq_iff_iff]; simp
    simp [fz_bool, e]
theorem valid_at {B : List Box} {args : List CV} {six : Bool} {A : List UInt8} (hz : Is (omap (fz true false B 6) args) (some [addrC six A])) (hA : A.length = 16) : ACall Tryd.prog 78 args B fun c B' => c = .bool (okA six A) ∧ B' = B := acall_fresh hz (valid_in six A hA)
theorem iValid_in (six : Bool) (A : List UInt8) (s : Int) (hA : A.length = 16) : PC Tryd.prog true 44 [prefC six A s] (.bool (vld six A s)) := by
  have hv : ∀ {B : List Box} {args : List CV}, Is (omap (fz true false B 6) args) (some [.agg (.bool six :: A.map byteC)]) → ACall Tryd.prog 78 args B fun c B' => c = .bool (okA six A) ∧ B' = B := fun h => valid_at h hA
  rw [vld]
  generalize okA six A = ok at *
  have hc : ∀ {B : List Box} {args : List CV}, 0 ≤ s ∧ s ≤ 128 → Is (omap (fz true false B 6) args) (some [.agg (.bool six :: A.map byteC), .int .i64 s]) → ACall Tryd.prog 79 args B fun c B' => c = .agg (.bool six :: (cutL A s.toNat).map byteC) ∧ B' = B := fun hs h => icut_at (s := s.toNat) h (by omega) hA (by omega)
  have hl := cutL_len A s.toNat
  generalize cutL A s.toNat = C at *
  refine acall_intro mixed Tryd.func44 rfl ca44 (by kernel_rfl) (by rw [Tryd.ntmps44]; simp) ?_
  cases ok with
  | false =>
    cases six
    all_goals
      repeat' (first | (with_reducible first | apply jA | apply jB | apply jC | apply jD | apply jE | apply jF | apply jG | apply jH | apply jI | apply jJ | apply jK | apply jL | apply jM | apply jN | apply jO) | ((with_reducible first | apply jP | apply jQ); rfl) | ((first | ((with_reducible first | apply jR | apply jS | apply jT); rfl; rfl) | (with_reducible first | apply jU | apply jV | apply jW) | ((with_reducible first | apply jX | apply jY | apply jZ); rfl) | ((with_reducible first | apply kA | apply kB | apply kC); rfl)); all_goals (first | ((with_reducible show Is _ _); exact kE_GD4) | ((with_reducible refine fun (hc : (_ : Bool) = _) => ?_); (try simp only [xZ, xY, xP, reduceCtorEq] at hc); (try (have hx : True := hc; clear hx hc)); (try exact kX)) | ((with_reducible show ACall _ _ _ _ _); (first | ((with_reducible apply hv) <;> exact kD_GD4))) | ((fail_if_success (with_reducible first | show Is _ _ | show ACall _ _ _ _ _)); (try ((with_reducible show _ ∨ _); exact kT))))))
      all_goals simp [fz_bool]
  | true =>
    by_cases h1 : 0 ≤ s
    · cases six
      · by_cases h2 : s ≤ 32
        · repeat' (first | (with_reducible first | apply jA | apply jB | apply jC | apply jD | apply jE | apply jF | apply jG | apply jH | apply jI | apply jJ | apply jK | apply jL | apply jM | apply jN | apply jO) | ((with_reducible first | apply jP | apply jQ); rfl) | ((first | ((with_reducible first | apply jR | apply jS | apply jT); rfl; rfl) | (with_reducible first | apply jU | apply jV | apply jW) | ((with_reducible first | apply jX | apply jY | apply jZ); rfl) | ((with_reducible first | apply kA | apply kB | apply kC); rfl)); all_goals (first | ((with_reducible show Is _ _); exact kE_GD4) | ((with_reducible refine fun (hc : (_ : Bool) = _) => ?_); (try simp only [xZ, xY, xP, reduceCtorEq] at hc); (try (have hx : True := hc; clear hx hc)); (try exact kX)) | ((with_reducible show ACall _ _ _ _ _); (first | ((with_reducible apply hv) <;> exact kD_GD4) | ((with_reducible apply hc) <;> exact kD_GD4))) | ((fail_if_success (with_reducible first | show Is _ _ | show ACall _ _ _ _ _)); (try ((with_reducible show _ ∨ _); exact kT))))))
          all_goals simp [fz_bool, *]
        · repeat' (first | (with_reducible first | apply jA | apply jB | apply jC | apply jD | apply jE | apply jF | apply jG | apply jH | apply jI | apply jJ | apply jK | apply jL | apply jM | apply jN | apply jO) | ((with_reducible first | apply jP | apply jQ); rfl) | ((first | ((with_reducible first | apply jR | apply jS | apply jT); rfl; rfl) | (with_reducible first | apply jU | apply jV | apply jW) | ((with_reducible first | apply jX | apply jY | apply jZ); rfl) | ((with_reducible first | apply kA | apply kB | apply kC); rfl)); all_goals (first | ((with_reducible show Is _ _); exact kE_GD4) | ((with_reducible refine fun (hc : (_ : Bool) = _) => ?_); (try simp only [xZ, xY, xP, reduceCtorEq] at hc); (try (have hx : True := hc; clear hx hc)); (try exact kX)) | ((with_reducible show ACall _ _ _ _ _); (first | ((with_reducible apply hv) <;> exact kD_GD4))) | ((fail_if_success (with_reducible first | show Is _ _ | show ACall _ _ _ _ _)); (try ((with_reducible show _ ∨ _); exact kT))))))
          all_goals simp [fz_bool, *]
      · by_cases h2 : s ≤ 128
        · repeat' (first | (with_reducible first | apply jA | apply jB | apply jC | apply jD | apply jE | apply jF | apply jG | apply jH | apply jI | apply jJ | apply jK | apply jL | apply jM | apply jN | apply jO) | ((with_reducible first | apply jP | apply jQ); rfl) | ((first | ((with_reducible first | apply jR | apply jS | apply jT); rfl; rfl) | (with_reducible first | apply jU | apply jV | apply jW) | ((with_reducible first | apply jX | apply jY | apply jZ); rfl) | ((with_reducible first | apply kA | apply kB | apply kC); rfl)); all_goals (first | ((with_reducible show Is _ _); exact kE_GD4) | ((with_reducible refine fun (hc : (_ : Bool) = _) => ?_); (try simp only [xZ, xY, xP, reduceCtorEq] at hc); (try (have hx : True := hc; clear hx hc)); (try exact kX)) | ((with_reducible show ACall _ _ _ _ _); (first | ((with_reducible apply hv) <;> exact kD_GD4) | ((with_reducible apply hc) <;> exact kD_GD4))) | ((fail_if_success (with_reducible first | show Is _ _ | show ACall _ _ _ _ _)); (try ((with_reducible show _ ∨ _); exact kT))))))
          all_goals simp [fz_bool, *]
        · repeat' (first | (with_reducible first | apply jA | apply jB | apply jC | apply jD | apply jE | apply jF | apply jG | apply jH | apply jI | apply jJ | apply jK | apply jL | apply jM | apply jN | apply jO) | ((with_reducible first | apply jP | apply jQ); rfl) | ((first | ((with_reducible first | apply jR | apply jS | apply jT); rfl; rfl) | (with_reducible first | apply jU | apply jV | apply jW) | ((with_reducible first | apply jX | apply jY | apply jZ); rfl) | ((with_reducible first | apply kA | apply kB | apply kC); rfl)); all_goals (first | ((with_reducible show Is _ _); exact kE_GD4) | ((with_reducible refine fun (hc : (_ : Bool) = _) => ?_); (try simp only [xZ, xY, xP, reduceCtorEq] at hc); (try (have hx : True := hc; clear hx hc)); (try exact kX)) | ((with_reducible show ACall _ _ _ _ _); (first | ((with_reducible apply hv) <;> exact kD_GD4))) | ((fail_if_success (with_reducible first | show Is _ _ | show ACall _ _ _ _ _)); (try ((with_reducible show _ ∨ _); exact kT))))))
          all_goals simp [fz_bool, *]
    · cases six
      all_goals
        repeat' (first | (with_reducible first | apply jA | apply jB | apply jC | apply jD | apply jE | apply jF | apply jG | apply jH | apply jI | apply jJ | apply jK | apply jL | apply jM | apply jN | apply jO) | ((with_reducible first | apply jP | apply jQ); rfl) | ((first | ((with_reducible first | apply jR | apply jS | apply jT); rfl; rfl) | (with_reducible first | apply jU | apply jV | apply jW) | ((with_reducible first | apply jX | apply jY | apply jZ); rfl) | ((with_reducible first | apply kA | apply kB | apply kC); rfl)); all_goals (first | ((with_reducible show Is _ _); exact kE_GD4) | ((with_reducible refine fun (hc : (_ : Bool) = _) => ?_); (try simp only [xZ, xY, xP, reduceCtorEq] at hc); (try (have hx : True := hc; clear hx hc)); (try exact kX)) | ((with_reducible show ACall _ _ _ _ _); (first | ((with_reducible apply hv) <;> exact kD_GD4))) | ((fail_if_success (with_reducible first | show Is _ _ | show ACall _ _ _ _ _)); (try ((with_reducible show _ ∨ _); exact kT))))))
        all_goals simp [fz_bool, *]
theorem iValid_at {B : List Box} {args : List CV} {six : Bool} {A : List UInt8} {s : Int} (hz : Is (omap (fz true false B 6) args) (some [prefC six A s])) (hA : A.length = 16) : ACall Tryd.prog 44 args B fun c B' => c = .bool (vld six A s) ∧ B' = B := acall_fresh hz (iValid_in six A s hA)
theorem vld_range {six : Bool} {A : List UInt8} {s : Int} (h : vld six A s = true) : 0 ≤ s ∧ s ≤ 128 := by
  simp only [vld, Bool.and_eq_true, decide_eq_true_eq] at h
  have := h.2.1
  have := h.2.2.1
  cases six <;> simp at * <;> omega
theorem cut_cut0 : ∀ x : Fin 256, ∀ h : Fin 9, ∀ k : Fin 9, cutN (cutN x.1 h.1) k.1 = cutN x.1 (min h.1 k.1) := by decide +kernel
theorem cutB_cutB (x : UInt8) {h k : Nat} (hh : h ≤ 8) (hk : k ≤ 8) : cutB (cutB x h) k = cutB x (min h k) := UInt8.toNat_inj.1 (by
  rw [cutB_toNat, cutB_toNat, cutB_toNat]; exact cut_cut0 ⟨x.toNat, x.toNat_lt⟩ ⟨h, by omega⟩ ⟨k, by omega⟩)
theorem cutL_get (A : List UInt8) (s : Nat) {i : Nat} (hi : i < 16) : (cutL A s).getD i 0 = cutB (A.getD i 0) (min (s - 8 * i) 8) := getD_row16 _ hi
theorem cutL_cutL (A : List UInt8) {l s : Nat} (h : s ≤ l) : cutL (cutL A l) s = cutL A s := by
  apply List.map_congr_left
  intro i hi
  rw [List.mem_range] at hi
  rw [cutL_get A l hi, cutB_cutB _ (Nat.min_le_right _ _) (Nat.min_le_right _ _)]
  congr 1; omega
theorem okA_cut {six : Bool} {A : List UInt8} {s : Nat} (hA : A.length = 16) (h : okA six A = true) : okA six (cutL A s) = true := by
  cases six with
  | true => rfl
  | false =>
    simp only [okA, Bool.false_or, beq_iff_eq] at h ⊢
    have hz : ∀ i, 4 ≤ i → i < 16 → A.getD i 0 = 0 := by
      intro i h1 h2
      have : A.getD i 0 = (A.drop 4).getD (i - 4) 0 := by
        rw [List.getD_eq_getElem?_getD, List.getD_eq_getElem?_getD, List.getElem?_drop]; congr 2; congr 1; omega
      rw [this, h]
      have : ∀ j : Fin 12, z12.getD j.1 0 = 0 := by decide
      exact this ⟨i - 4, by omega⟩
    apply List.ext_getElem
    · rw [List.length_drop, cutL_len]; rfl
    · intro i h1 h2
      rw [List.length_drop, cutL_len] at h1
      rw [List.getElem_drop, get_of_getD (cutL_get A s (i := 4 + i) (by omega)) (by rw [cutL_len]; omega), hz (4 + i) (by omega) (by omega)]
      have e : ∀ j : Fin 12, z12.getD j.1 0 = 0 := by decide
      have := get_of_getD (e ⟨i, by omega⟩) h2
      dsimp only at this
      rw [this]
      apply UInt8.toNat_inj.1
      rw [cutB_toNat, cutN]
      simp
theorem vld_cut {six : Bool} {A : List UInt8} {s : Nat} (hA : A.length = 16) (h : okA six A = true) (hs : s ≤ if six then 128 else 32) : vld six (cutL A s) s = true := by
  simp only [vld, Bool.and_eq_true, decide_eq_true_eq, beq_iff_eq]
  refine ⟨okA_cut hA h, by omega, ?_, by rw [Int.toNat_natCast, cutL_cutL A (Nat.le_refl s)]⟩
  cases six <;> simp at hs ⊢ <;> omega
theorem okA_ad (l : List UInt8) (a : Nat) : okA (adSix l a) (adIP l a) = true := by
  unfold okA adIP
  cases adSix l a <;> rfl
def bitI (A : List UInt8) (k : Nat) : Nat := (A.getD (k / 8) 0).toNat / 2 ^ (7 - k % 8) % 2
theorem byteExt {x y : UInt8} (h : ∀ r, r < 8 → x.toNat / 2 ^ (7 - r) % 2 = y.toNat / 2 ^ (7 - r) % 2) : x = y := by
  apply UInt8.toNat_inj.1
  apply Nat.eq_of_testBit_eq
  intro i
  rcases Nat.lt_or_ge i 8 with hi | hi
  · have := h (7 - i) (by omega)
    rw [show 7 - (7 - i) = i by omega] at this
    rw [Nat.testBit_eq_decide_div_mod_eq, Nat.testBit_eq_decide_div_mod_eq, this]
  · have hx := x.toNat_lt; have hy := y.toNat_lt
    have hp : (2 : Nat) ^ 8 ≤ 2 ^ i := Nat.pow_le_pow_right (by omega) hi
    rw [Nat.testBit_lt_two_pow (by omega), Nat.testBit_lt_two_pow (by omega)]
theorem ipExt {A C : List UInt8} (hA : A.length = 16) (hC : C.length = 16) (h : ∀ k, k < 128 → bitI A k = bitI C k) : A = C := by
  apply List.ext_getElem
  · rw [hA, hC]
  · intro i h1 h2
    have e1 := get_of_getD (l := A) (i := i) rfl h1
    have e2 := get_of_getD (l := C) (i := i) rfl h2
    rw [e1, e2]
    refine byteExt fun r hr => ?_
    have := h (8 * i + r) (by omega)
    rw [bitI, bitI, show (8 * i + r) / 8 = i by omega, show (8 * i + r) % 8 = r by omega] at this
    exact this
theorem bit_cut (A : List UInt8) (s : Nat) {k : Nat} (hk : k < 128) : bitI (cutL A s) k = if k < s then bitI A k else 0 := by
  rw [bitI, bitI, cutL_get A s (by omega), cutB_toNat]
  have := cut_bits0 ⟨(A.getD (k / 8) 0).toNat, (A.getD (k / 8) 0).toNat_lt⟩ ⟨min (s - 8 * (k / 8)) 8, by omega⟩ ⟨k % 8, by omega⟩
  dsimp only at this
  rw [this]
  by_cases h : k < s
  · rw [if_pos h, if_pos (by omega)]
  · rw [if_neg h, if_neg (by omega)]
theorem cut_same {A : List UInt8} (hA : A.length = 16) (s : Nat) : cutL A s = A ↔ ∀ k, s ≤ k → k < 128 → bitI A k = 0 := by
  constructor
  · intro h k h1 h2
    rw [← h, bit_cut A s h2, if_neg (by omega)]
  · intro h
    refine ipExt (cutL_len _ _) hA fun k hk => ?_
    rw [bit_cut A s hk]
    split
    · rfl
    · rename_i hs; exact (h k (by omega) hk).symm
theorem sound_in (six : Bool) (A : List UInt8) (hA : A.length = 16) : PC Tryd.prog true 33 [addrC six A] (.bool (okA six A)) := by
  obtain ⟨H, T, rfl, hH, hT⟩ : ∃ H T, H ++ T = A ∧ H.length = 4 ∧ T.length = 12 := ⟨A.take 4, A.drop 4, List.take_append_drop _ _, by rw [List.length_take]; omega, by rw [List.length_drop]; omega⟩
  have hd : (H ++ T).drop 4 = T := by rw [← hH]; simp
  rw [okA, hd]
  refine acall_intro mixed Tryd.func33 rfl ca33 (by kernel_rfl) (by rw [Tryd.ntmps33]; simp) ?_
  repeat' (first | (with_reducible first | apply jA | apply jB | apply jC | apply jD | apply jE | apply jF | apply jG | apply jH | apply jI | apply jJ | apply jK | apply jL | apply jM | apply jN | apply jO) | ((with_reducible first | apply jP | apply jQ); rfl) | ((first | ((with_reducible first | apply jR | apply jS | apply jT); rfl; rfl) | (with_reducible first | apply jU | apply jV | apply jW) | ((with_reducible first | apply jX | apply jY | apply jZ); rfl)); all_goals (first | ((with_reducible show Is _ _); exact kE_GD0) | ((with_reducible refine fun (hc : (_ : Bool) = _) => ?_); (try simp only [xZ, xY, xP, reduceCtorEq] at hc); (try (have hx : True := hc; clear hx hc)); (try exact kX)) | ((fail_if_success (with_reducible first | show Is _ _ | show ACall _ _ _ _ _)); (try ((with_reducible show _ ∨ _); exact kT))))))
  refine w_loop (fun fr B => ∃ i : Nat, i ≤ 12 ∧ fr 8 = .int .i64 i ∧ fr 7 = .int .i64 12 ∧ fr 6 = .view 0 5 12 1 true ∧ fr 1 = .ptr 0 0 ∧ B = [⟨.bool six :: (H ++ T).map byteC, false⟩] ∧ (six = false → T.take i = z12.take i)) (fun fr _ => 12 - natOf (fr 8)) ?_ ?_
  · refine ⟨0, by omega, by (simp (disch := omega) [go_sem, *]) <;> (try omega), by (simp (disch := omega) [go_sem, *]) <;> (try omega), ?_, by (simp (disch := omega) [go_sem, *]) <;> (try omega), rfl, fun _ => rfl⟩
    (simp (disch := omega) [go_sem, *]) <;> (try omega)
  · rintro fr B ⟨i, hi, h8, h7, h6, h1, rfl, hz⟩
    by_cases hc : i < 12
    · cases six with
      | true =>
        repeat' (first | (with_reducible first | apply jA | apply jB | apply jC | apply jD | apply jE | apply jF | apply jG | apply jH | apply jI | apply jJ | apply jK | apply jL | apply jM | apply jN | apply jO) | ((with_reducible first | apply jP | apply jQ); rfl) | ((first | ((with_reducible first | apply jR | apply jS | apply jT); rfl; rfl) | (with_reducible first | apply jU | apply jV | apply jW) | ((with_reducible first | apply jX | apply jY | apply jZ); rfl)); all_goals (first | ((with_reducible show Is _ _); exact kE) | ((with_reducible refine fun (hc : (_ : Bool) = _) => ?_); (try simp only [xZ, xY, xP, reduceCtorEq] at hc); (try (have hx : True := hc; clear hx hc)); (try exact kX)) | ((fail_if_success (with_reducible first | show Is _ _ | show ACall _ _ _ _ _)); (try ((with_reducible show _ ∨ _); exact kT))))))
        exact ⟨⟨i + 1, by omega, by (simp (disch := omega) [go_sem, *]) <;> (try omega), by (simp (disch := omega) [go_sem, *]) <;> (try omega), by (simp (disch := omega) [go_sem, *]) <;> (try omega), by (simp (disch := omega) [go_sem, *]) <;> (try omega), rfl, fun h => by cases h⟩, by (simp (disch := omega) [go_sem, *]) <;> (try omega)⟩
      | false =>
        have hz := hz rfl
        have h5 : ∀ h, (CV.bool false :: List.map byteC (H ++ T))[5 + i]'h = byteC (T[i]'(by omega)) := by
          intro h
          simp only [show 5 + i = (4 + i) + 1 by omega, List.getElem_cons_succ, List.getElem_map]
          rw [List.getElem_append_right (by omega)]
          simp only [hH, Nat.add_sub_cancel_left]
        have hzi : z12[i]? = some 0 := by
          have : ∀ j : Fin 12, z12[j.1]? = some 0 := by decide
          exact this ⟨i, hc⟩
        obtain ⟨t, ht⟩ : ∃ t, T[i]'(by omega) = t := ⟨_, rfl⟩
        have hti : T[i]? = some t := by rw [← ht]; exact List.getElem?_eq_getElem _
        rw [ht] at h5
        clear ht
        by_cases h0 : t = 0
        · subst h0
          have hz2 : T.take (i + 1) = z12.take (i + 1) := by rw [List.take_add_one, List.take_add_one, hz, hti, hzi]
          clear hz hti hzi
          repeat' (first | (with_reducible first | apply jA | apply jB | apply jC | apply jD | apply jE | apply jF | apply jG | apply jH | apply jI | apply jJ | apply jK | apply jL | apply jM | apply jN | apply jO) | ((with_reducible first | apply jP | apply jQ); rfl) | ((first | ((with_reducible first | apply jR | apply jS | apply jT); rfl; rfl) | (with_reducible first | apply jU | apply jV | apply jW) | ((with_reducible first | apply jX | apply jY | apply jZ); rfl)); all_goals (first | ((with_reducible show Is _ _); exact kE) | ((with_reducible refine fun (hc : (_ : Bool) = _) => ?_); (try simp only [xZ, xY, xP, reduceCtorEq] at hc); (try (have hx : True := hc; clear hx hc)); (try exact kX)) | ((fail_if_success (with_reducible first | show Is _ _ | show ACall _ _ _ _ _)); (try ((with_reducible show _ ∨ _); exact kT))))))
          exact ⟨⟨i + 1, by omega, by (simp (disch := omega) [go_sem, *]) <;> (try omega), by (simp (disch := omega) [go_sem, *]) <;> (try omega), by (simp (disch := omega) [go_sem, *]) <;> (try omega), by (simp (disch := omega) [go_sem, *]) <;> (try omega), rfl, fun _ => hz2⟩, by (simp (disch := omega) [go_sem, *]) <;> (try omega)⟩
        · have h0' : ¬ (t.toNat : Int) = 0 := by
            intro h; exact h0 (UInt8.toNat_inj.1 (by simpa using h))
          have hne : (T == z12) = false := by
            rw [beq_eq_false_iff_ne]; rintro rfl
            rw [hzi] at hti; exact h0 (Option.some.inj hti).symm
          clear hz hti hzi
          repeat' (first | (with_reducible first | apply jA | apply jB | apply jC | apply jD | apply jE | apply jF | apply jG | apply jH | apply jI | apply jJ | apply jK | apply jL | apply jM | apply jN | apply jO) | ((with_reducible first | apply jP | apply jQ); rfl) | ((first | ((with_reducible first | apply jR | apply jS | apply jT); rfl; rfl) | (with_reducible first | apply jU | apply jV | apply jW) | ((with_reducible first | apply jX | apply jY | apply jZ); rfl)); all_goals (first | ((with_reducible show Is _ _); exact kE) | ((with_reducible refine fun (hc : (_ : Bool) = _) => ?_); (try simp only [xZ, xY, xP, reduceCtorEq] at hc); (try (have hx : True := hc; clear hx hc)); (try exact kX)) | ((fail_if_success (with_reducible first | show Is _ _ | show ACall _ _ _ _ _)); (try ((with_reducible show _ ∨ _); exact kT))))))
          simp [fz_bool, hne]
    · have : i = 12 := by omega
      subst this
      have he : (six || T == z12) = true := by
        cases six with
        | true => rfl
        | false =>
          have := hz rfl
          rw [List.take_of_length_le (by omega), List.take_of_length_le (by rw [z12_len]; omega)] at this
          rw [this]; rfl
      rw [he]
      clear hz
      repeat' (first | (with_reducible first | apply jA | apply jB | apply jC | apply jD | apply jE | apply jF | apply jG | apply jH | apply jI | apply jJ | apply jK | apply jL | apply jM | apply jN | apply jO) | ((with_reducible first | apply jP | apply jQ); rfl) | ((first | ((with_reducible first | apply jR | apply jS | apply jT); rfl; rfl) | (with_reducible first | apply jU | apply jV | apply jW) | ((with_reducible first | apply jX | apply jY | apply jZ); rfl)); all_goals (first | ((with_reducible show Is _ _); exact kE) | ((with_reducible refine fun (hc : (_ : Bool) = _) => ?_); (try simp only [xZ, xY, xP, reduceCtorEq] at hc); (try (have hx : True := hc; clear hx hc)); (try exact kX)) | ((fail_if_success (with_reducible first | show Is _ _ | show ACall _ _ _ _ _)); (try ((with_reducible show _ ∨ _); exact kT))))))
      simp [fz_bool]
theorem bit_in (six : Bool) (A : List UInt8) (k : Nat) (hA : A.length = 16) (hk : k < 128) : PC Tryd.prog true 69 [addrC six A, .int .i64 k] (.int .u8 (bitI A k)) := by
  have hg := get_of_getD (l := A) (i := k / 8) rfl (by omega)
  have hs : (7 - (k : Int) % 8).toNat = 7 - k % 8 := by omega
  have hs2 : 0 ≤ 7 - (k : Int) % 8 := by omega
  rw [bitI]
  generalize A.getD (k / 8) 0 = x at *
  refine acall_intro mixed Tryd.func69 rfl ca69 (by kernel_rfl) (by rw [Tryd.ntmps69]; simp) ?_
  repeat' (first | (with_reducible first | apply jA | apply jB | apply jC | apply jD | apply jE | apply jF | apply jG | apply jH | apply jI | apply jJ | apply jK | apply jL | apply jM | apply jN | apply jO) | ((with_reducible first | apply jP | apply jQ); rfl) | ((first | ((with_reducible first | apply jR | apply jS | apply jT); rfl; rfl) | (with_reducible first | apply jU | apply jV | apply jW) | ((with_reducible first | apply jX | apply jY | apply jZ); rfl)); all_goals (first | ((with_reducible show Is _ _); exact kE_GD5) | ((with_reducible refine fun (hc : (_ : Bool) = _) => ?_); (try simp only [xZ, xY, xP, reduceCtorEq] at hc); (try (have hx : True := hc; clear hx hc)); (try exact kX)) | ((fail_if_success (with_reducible first | show Is _ _ | show ACall _ _ _ _ _)); (try ((with_reducible show _ ∨ _); exact kT))))))
  have hx := x.toNat_lt
  have := div_pow_lt (n := x.toNat) (7 - k % 8) (b := 256) (by omega)
  rw [and1_u8 this, fz_int]
  push_cast
  rfl
theorem width_in (six : Bool) (A : List UInt8) (hA : A.length = 16) : PC Tryd.prog true 68 [addrC six A] (.int .i64 (if six then 128 else 32)) := by
  refine acall_intro mixed Tryd.func68 rfl ca68 (by kernel_rfl) (by rw [Tryd.ntmps68]; simp) ?_
  cases six
  all_goals
    repeat' (first | (with_reducible first | apply jA | apply jB | apply jC | apply jD | apply jE | apply jF | apply jG | apply jH | apply jI | apply jJ | apply jK | apply jL | apply jM | apply jN | apply jO) | ((with_reducible first | apply jP | apply jQ); rfl) | ((first | ((with_reducible first | apply jR | apply jS | apply jT); rfl; rfl) | (with_reducible first | apply jU | apply jV | apply jW) | ((with_reducible first | apply jX | apply jY | apply jZ); rfl)); all_goals (first | ((with_reducible show Is _ _); exact kE_GD0) | ((with_reducible refine fun (hc : (_ : Bool) = _) => ?_); (try simp only [xZ, xY, xP, reduceCtorEq] at hc); (try (have hx : True := hc; clear hx hc)); (try exact kX)) | ((fail_if_success (with_reducible first | show Is _ _ | show ACall _ _ _ _ _)); (try ((with_reducible show _ ∨ _); exact kT))))))
    all_goals simp [fz_int]
theorem sound_at {B : List Box} {args : List CV} {six : Bool} {A : List UInt8} (hz : Is (omap (fz true false B 6) args) (some [addrC six A])) (hA : A.length = 16) : ACall Tryd.prog 33 args B fun c B' => c = .bool (okA six A) ∧ B' = B := acall_fresh hz (sound_in six A hA)
theorem width_at {B : List Box} {args : List CV} {six : Bool} {A : List UInt8} (hz : Is (omap (fz true false B 6) args) (some [addrC six A])) (hA : A.length = 16) : ACall Tryd.prog 68 args B fun c B' => c = .int .i64 (if six then 128 else 32) ∧ B' = B := acall_fresh hz (width_in six A hA)
theorem bit_at {B : List Box} {args : List CV} {six : Bool} {A : List UInt8} {m : Int} {k : Nat} (hz : Is (omap (fz true false B 6) args) (some [addrC six A, .int .i64 m])) (hm : m = k) (hA : A.length = 16) (hk : k < 128) : ACall Tryd.prog 69 args B fun c B' => c = .int .u8 (bitI A k) ∧ B' = B := by subst hm; exact acall_fresh hz (bit_in six A k hA hk)
theorem rValid_in (six : Bool) (A : List UInt8) (s : Int) (hA : A.length = 16) : PC Tryd.prog true 36 [prefC six A s] (.bool (vld six A s)) := by
  have hso : ∀ {B : List Box} {args : List CV}, Is (omap (fz true false B 6) args) (some [.agg (.bool six :: A.map byteC)]) → ACall Tryd.prog 33 args B fun c B' => c = .bool (okA six A) ∧ B' = B := fun h => sound_at h hA
  have hwi : ∀ {B : List Box} {args : List CV}, Is (omap (fz true false B 6) args) (some [.agg (.bool six :: A.map byteC)]) → ACall Tryd.prog 68 args B fun c B' => c = .int .i64 (if six then 128 else 32) ∧ B' = B := fun h => width_at h hA
  obtain ⟨W, hW, hW2⟩ : ∃ W : Int, (if six then 128 else 32) = W ∧ W ≤ 128 := ⟨_, rfl, by cases six <;> simp⟩
  rw [vld, hW]
  rw [hW] at hwi
  generalize okA six A = ok at *
  refine acall_intro mixed Tryd.func36 rfl ca36 (by kernel_rfl) (by rw [Tryd.ntmps36]; simp) ?_
  cases ok with
  | false =>
    repeat' (first | (with_reducible first | apply jA | apply jB | apply jC | apply jD | apply jE | apply jF | apply jG | apply jH | apply jI | apply jJ | apply jK | apply jL | apply jM | apply jN | apply jO) | ((with_reducible first | apply jP | apply jQ); rfl) | ((first | ((with_reducible first | apply jR | apply jS | apply jT); rfl; rfl) | (with_reducible first | apply jU | apply jV | apply jW) | ((with_reducible first | apply jX | apply jY | apply jZ); rfl) | ((with_reducible first | apply kA | apply kB | apply kC); rfl)); all_goals (first | ((with_reducible show Is _ _); exact kE_GD4) | ((with_reducible refine fun (hc : (_ : Bool) = _) => ?_); (try simp only [xZ, xY, xP, reduceCtorEq] at hc); (try (have hx : True := hc; clear hx hc)); (try exact kX)) | ((with_reducible show ACall _ _ _ _ _); (first | ((with_reducible apply hso) <;> exact kD_GD4))) | ((fail_if_success (with_reducible first | show Is _ _ | show ACall _ _ _ _ _)); (try ((with_reducible show _ ∨ _); exact kT))))))
    all_goals simp [fz_bool]
  | true =>
    by_cases h1 : 0 ≤ s
    · by_cases h2 : s ≤ W
      · obtain ⟨n, rfl⟩ := Int.eq_ofNat_of_zero_le h1
        have hcs := cut_same hA n
        rw [Int.toNat_natCast]
        repeat' (first | (with_reducible first | apply jA | apply jB | apply jC | apply jD | apply jE | apply jF | apply jG | apply jH | apply jI | apply jJ | apply jK | apply jL | apply jM | apply jN | apply jO) | ((with_reducible first | apply jP | apply jQ); rfl) | ((first | ((with_reducible first | apply jR | apply jS | apply jT); rfl; rfl) | (with_reducible first | apply jU | apply jV | apply jW) | ((with_reducible first | apply jX | apply jY | apply jZ); rfl) | ((with_reducible first | apply kA | apply kB | apply kC); rfl)); all_goals (first | ((with_reducible show Is _ _); exact kE_GD4) | ((with_reducible refine fun (hc : (_ : Bool) = _) => ?_); (try simp only [xZ, xY, xP, reduceCtorEq] at hc); (try (have hx : True := hc; clear hx hc)); (try exact kX)) | ((with_reducible show ACall _ _ _ _ _); (first | ((with_reducible apply hso) <;> exact kD_GD4) | ((with_reducible apply hwi) <;> exact kD_GD4))) | ((fail_if_success (with_reducible first | show Is _ _ | show ACall _ _ _ _ _)); (try ((with_reducible show _ ∨ _); exact kT))))))
        refine w_loop (fun fr B => ∃ i : Nat, n ≤ i ∧ i ≤ 128 ∧ fr 3 = .int .i64 i ∧ fr 1 = .ptr 0 0 ∧ B = [⟨.bool six :: (A.map byteC ++ [.int .i64 (n : Int)]), false⟩] ∧ ∀ k, n ≤ k → k < i → bitI A k = 0) (fun fr _ => 128 - natOf (fr 3)) ?_ ?_
        · exact ⟨n, Nat.le_refl _, by omega, by (simp (disch := omega) [go_sem, *]) <;> (try omega), by (simp (disch := omega) [go_sem, *]) <;> (try omega), rfl, fun k h1 h2 => by omega⟩
        · rintro fr B ⟨i, hi, hi2, h3, h1', rfl, hz⟩
          by_cases hc : i < 128
          · have hbt : ∀ {B : List Box} {args : List CV}, Is (omap (fz true false B 6) args) (some [.agg (.bool six :: A.map byteC), .int .i64 i]) → ACall Tryd.prog 69 args B fun c B' => c = .int .u8 (bitI A i) ∧ B' = B := fun h => bit_at h rfl hA hc
            by_cases hb : bitI A i = 0
            · have hz2 : ∀ k, n ≤ k → k < i + 1 → bitI A k = 0 := fun k h1 h2 => by
                by_cases hk : k = i
                · rw [hk, hb]
                · exact hz k h1 (by omega)
              rw [hb] at hbt
              clear hz hcs hso hwi
              repeat' (first | (with_reducible first | apply jA | apply jB | apply jC | apply jD | apply jE | apply jF | apply jG | apply jH | apply jI | apply jJ | apply jK | apply jL | apply jM | apply jN | apply jO) | ((with_reducible first | apply jP | apply jQ); rfl) | ((first | ((with_reducible first | apply jR | apply jS | apply jT); rfl; rfl) | (with_reducible first | apply jU | apply jV | apply jW) | ((with_reducible first | apply jX | apply jY | apply jZ); rfl) | ((with_reducible first | apply kA | apply kB | apply kC); rfl)); all_goals (first | ((with_reducible show Is _ _); exact kE) | ((with_reducible refine fun (hc : (_ : Bool) = _) => ?_); (try simp only [xZ, xY, xP, reduceCtorEq] at hc); (try (have hx : True := hc; clear hx hc)); (try exact kX)) | ((with_reducible show ACall _ _ _ _ _); (first | ((with_reducible apply hbt) <;> exact kD))) | ((fail_if_success (with_reducible first | show Is _ _ | show ACall _ _ _ _ _)); (try ((with_reducible show _ ∨ _); exact kT))))))
              exact ⟨⟨i + 1, by omega, by omega, by (simp (disch := omega) [go_sem, *]) <;> (try omega), by (simp (disch := omega) [go_sem, *]) <;> (try omega), rfl, hz2⟩, by (simp (disch := omega) [go_sem, *]) <;> (try omega)⟩
            · have hne : (cutL A n == A) = false := by
                rw [beq_eq_false_iff_ne]
                exact fun h => hb (hcs.1 h i hi hc)
              have hb' : ¬ (bitI A i : Int) = 0 := by omega
              clear hz hcs hso hwi
              repeat' (first | (with_reducible first | apply jA | apply jB | apply jC | apply jD | apply jE | apply jF | apply jG | apply jH | apply jI | apply jJ | apply jK | apply jL | apply jM | apply jN | apply jO) | ((with_reducible first | apply jP | apply jQ); rfl) | ((first | ((with_reducible first | apply jR | apply jS | apply jT); rfl; rfl) | (with_reducible first | apply jU | apply jV | apply jW) | ((with_reducible first | apply jX | apply jY | apply jZ); rfl) | ((with_reducible first | apply kA | apply kB | apply kC); rfl)); all_goals (first | ((with_reducible show Is _ _); exact kE) | ((with_reducible refine fun (hc : (_ : Bool) = _) => ?_); (try simp only [xZ, xY, xP, reduceCtorEq] at hc); (try (have hx : True := hc; clear hx hc)); (try exact kX)) | ((with_reducible show ACall _ _ _ _ _); (first | ((with_reducible apply hbt) <;> exact kD))) | ((fail_if_success (with_reducible first | show Is _ _ | show ACall _ _ _ _ _)); (try ((with_reducible show _ ∨ _); exact kT))))))
              simp [fz_bool, hne]
          · have : i = 128 := by omega
            subst this
            have he : (cutL A n == A) = true := by rw [beq_iff_eq]; exact hcs.2 fun k h1 h2 => hz k h1 h2
            rw [he]
            clear hz hcs hso hwi
            repeat' (first | (with_reducible first | apply jA | apply jB | apply jC | apply jD | apply jE | apply jF | apply jG | apply jH | apply jI | apply jJ | apply jK | apply jL | apply jM | apply jN | apply jO) | ((with_reducible first | apply jP | apply jQ); rfl) | ((first | ((with_reducible first | apply jR | apply jS | apply jT); rfl; rfl) | (with_reducible first | apply jU | apply jV | apply jW) | ((with_reducible first | apply jX | apply jY | apply jZ); rfl)); all_goals (first | ((with_reducible show Is _ _); exact kE) | ((with_reducible refine fun (hc : (_ : Bool) = _) => ?_); (try simp only [xZ, xY, xP, reduceCtorEq] at hc); (try (have hx : True := hc; clear hx hc)); (try exact kX)) | ((fail_if_success (with_reducible first | show Is _ _ | show ACall _ _ _ _ _)); (try ((with_reducible show _ ∨ _); exact kT))))))
            simp [fz_bool, h1, h2]
      · repeat' (first | (with_reducible first | apply jA | apply jB | apply jC | apply jD | apply jE | apply jF | apply jG | apply jH | apply jI | apply jJ | apply jK | apply jL | apply jM | apply jN | apply jO) | ((with_reducible first | apply jP | apply jQ); rfl) | ((first | ((with_reducible first | apply jR | apply jS | apply jT); rfl; rfl) | (with_reducible first | apply jU | apply jV | apply jW) | ((with_reducible first | apply jX | apply jY | apply jZ); rfl) | ((with_reducible first | apply kA | apply kB | apply kC); rfl)); all_goals (first | ((with_reducible show Is _ _); exact kE_GD4) | ((with_reducible refine fun (hc : (_ : Bool) = _) => ?_); (try simp only [xZ, xY, xP, reduceCtorEq] at hc); (try (have hx : True := hc; clear hx hc)); (try exact kX)) | ((with_reducible show ACall _ _ _ _ _); (first | ((with_reducible apply hso) <;> exact kD_GD4) | ((with_reducible apply hwi) <;> exact kD_GD4))) | ((fail_if_success (with_reducible first | show Is _ _ | show ACall _ _ _ _ _)); (try ((with_reducible show _ ∨ _); exact kT))))))
        all_goals simp [fz_bool, h1, h2]
    · repeat' (first | (with_reducible first | apply jA | apply jB | apply jC | apply jD | apply jE | apply jF | apply jG | apply jH | apply jI | apply jJ | apply jK | apply jL | apply jM | apply jN | apply jO) | ((with_reducible first | apply jP | apply jQ); rfl) | ((first | ((with_reducible first | apply jR | apply jS | apply jT); rfl; rfl) | (with_reducible first | apply jU | apply jV | apply jW) | ((with_reducible first | apply jX | apply jY | apply jZ); rfl) | ((with_reducible first | apply kA | apply kB | apply kC); rfl)); all_goals (first | ((with_reducible show Is _ _); exact kE_GD4) | ((with_reducible refine fun (hc : (_ : Bool) = _) => ?_); (try simp only [xZ, xY, xP, reduceCtorEq] at hc); (try (have hx : True := hc; clear hx hc)); (try exact kX)) | ((with_reducible show ACall _ _ _ _ _); (first | ((with_reducible apply hso) <;> exact kD_GD4) | ((with_reducible apply hwi) <;> exact kD_GD4))) | ((fail_if_success (with_reducible first | show Is _ _ | show ACall _ _ _ _ _)); (try ((with_reducible show _ ∨ _); exact kT))))))
      all_goals simp [fz_bool, h1]
theorem rValid_at {B : List Box} {args : List CV} {six : Bool} {A : List UInt8} {s : Int} (hz : Is (omap (fz true false B 6) args) (some [prefC six A s])) (hA : A.length = 16) : ACall Tryd.prog 36 args B fun c B' => c = .bool (vld six A s) ∧ B' = B := acall_fresh hz (rValid_in six A s hA)
def pfN (l : List UInt8) (a : Nat) : Nat := if adSix l a then 129 else 33
def pfBits (l : List UInt8) (a : Nat) : Nat := nxV l (adA l a) (pfN l a)
def pfA (l : List UInt8) (a : Nat) : Nat := nxA l (adA l a) (pfN l a)
def pfIP (l : List UInt8) (a : Nat) : List UInt8 := cutL (adIP l a) (pfBits l a)
def pfG (l : List UInt8) (a : Nat) : List Box := ⟨.bool (adSix l a) :: ((pfIP l a).map byteC ++ [.int .i64 (pfBits l a : Nat)]), false⟩ :: (adG l a ++ [adBox l a, ⟨[], false⟩])
theorem prefix_at {B : List Box} {β : Nat} {args : List CV} {l : List UInt8} {a : Nat} (ha : Is args [.ptr β 0]) (hB : B[β]? = some (cb l a)) (hl : a ≤ l.length ∧ l.length < 1000000) : ACall Tryd.prog 9 args B fun c B' => c = prefC (adSix l a) (pfIP l a) (pfBits l a) ∧ B' = B.set β (cb l (pfA l a)) ++ pfG l a := by
  have ha : args = _ := ha
  subst ha
  obtain ⟨p1, p2, p3, p4, p5, p6, p7, p8, p9, p10, p11, p12, p13⟩ := bx_pack hB
  have had : ∀ (B : List Box) (args : List CV), Is args [.ptr β 0] → B[β]? = some (cb l a) → ACall Tryd.prog 7 args B fun c B' => c = addrC (adSix l a) (adIP l a) ∧ B' = B.set β (cb l (adA l a)) ++ adG l a := fun B args h h2 => addr_at h h2 hl
  have hal := adA_le hl.1
  have hlen := adIP_len l a
  have hnx : ∀ (B : List Box) (args : List CV) (m : Int), Is args [.ptr β 0, .int .i64 m] → m = pfN l a → B[β]? = some (cb l (adA l a)) → ACall Tryd.prog 29 args B fun c B' => c = .int .i64 (nxV l (adA l a) (pfN l a)) ∧ B' = B.set β (cb l (nxA l (adA l a) (pfN l a))) := fun B args m h hm h2 => next_at h hm h2 ⟨hal, by omega⟩
  have hmk : ∀ (s : Nat), s ≤ 128 → ∀ (B : List Box) (args : List CV), Is (omap (fz true false B 6) args) (some [addrC (adSix l a) (adIP l a), .int .i64 s]) → ACall Tryd.prog 32 args B fun c B' => c = prefC (adSix l a) (cutL (adIP l a) s) s ∧ B' = B := fun s hs B args h => masked_at h rfl hlen hs
  have hN : (pfN l a : Int) = if adSix l a then 129 else 33 := by unfold pfN; split <;> rfl
  have hk : nxV l (adA l a) (pfN l a) ≤ 128 := by
    have := nxV_lt (l := l) (a := adA l a) (n := pfN l a) (by unfold pfN; split <;> omega)
    have : pfN l a ≤ 129 := by unfold pfN; split <;> omega
    omega
  have hm := hmk _ hk
  rw [pfA, pfIP, pfG, pfIP, pfBits, adBox]
  have hcl := cutL_len (adIP l a) (nxV l (adA l a) (pfN l a))
  generalize cutL (adIP l a) (nxV l (adA l a) (pfN l a)) = C at *
  generalize nxV l (adA l a) (pfN l a) = k at *
  generalize nxA l (adA l a) (pfN l a) = a2 at *
  generalize pfN l a = N at *
  generalize adSix l a = six at *
  generalize adIP l a = A at *
  generalize adG l a = G at *
  generalize adA l a = a1 at *
  clear hmk
  refine acall_intro mixed Tryd.func9 rfl ca9 (by kernel_rfl) (by rw [Tryd.ntmps9]; simp) ?_
  cases six
  all_goals
    repeat' (first | (with_reducible first | apply jA | apply jB | apply jC | apply jD | apply jE | apply jF | apply jG | apply jH | apply jI | apply jJ | apply jK | apply jL | apply jM | apply jN | apply jO) | ((with_reducible apply jP); rfl) | ((first | ((with_reducible first | apply jR | apply jS | apply jT); rfl; rfl) | (with_reducible first | apply jU | apply jV | apply jW) | ((with_reducible first | apply jX | apply jY | apply jZ); rfl) | ((with_reducible first | apply kA | apply kB | apply kC); rfl)); all_goals (first | ((with_reducible show Is _ _); exact kE_GD6) | ((with_reducible refine fun (hc : (_ : Bool) = _) => ?_); (try simp only [xZ, xY, xP, reduceCtorEq] at hc); (try (have hx : True := hc; clear hx hc)); (try exact kX)) | ((with_reducible show ACall _ _ _ _ _); (first | ((with_reducible apply had) <;> exact kD_GD6))) | ((fail_if_success (with_reducible first | show Is _ _ | show ACall _ _ _ _ _)); (try ((with_reducible show _ ∨ _); exact kT))))))
    refine w_drawJ [0] [⟨[], false⟩] (fun B' => B'[B.length + (G.length + 1)]? = some ⟨_ :: A.map byteC, false⟩) rfl (by simp (disch := first | omega | (simp only [yZ, yB] <;> omega) | fail) [go_sem, yY, *, -List.map_take, -List.map_drop, -List.map_append, -List.map_reverse]; exact rfl) (by simp (disch := first | omega | (simp only [yZ, yB] <;> omega) | fail) [go_sem, yY, *, bx_get0, -List.map_take, -List.map_drop, -List.map_append, -List.map_reverse]; rfl) ?_
    repeat' (first | (with_reducible first | apply jA | apply jB | apply jC | apply jD | apply jE | apply jF | apply jG | apply jH | apply jI | apply jJ | apply jK | apply jL | apply jM | apply jN | apply jO) | ((with_reducible first | apply jP | apply jQ); rfl) | ((with_reducible apply w_drawA); (conv => lhs; reduce); exact kE_GD6; exact kE_GD6) | ((first | ((with_reducible first | apply d_made | apply q_made); rfl; rfl)); (iterate 6 exact kE_GD6)) | ((first | ((with_reducible first | apply d_fop | apply q_fop); rfl; rfl)); (intro Bx hJ; (first | (obtain ⟨_, hJ1, hJ2⟩ := hJ) | (try simp only at hJ)); exact kE_GD6)) | ((with_reducible first | apply d_free | apply q_free); rfl; (iterate 2 exact kE_GD6); (intro Bx hJ); (first | ((with_reducible apply hnx) <;> exact kD_GD6) | ((with_reducible apply hm) <;> exact kD_GD6))) | ((first | ((with_reducible first | apply jR | apply jS | apply jT); rfl; rfl) | (with_reducible first | apply jU | apply jV | apply jW) | ((with_reducible first | apply jX | apply jY | apply jZ); rfl) | ((with_reducible first | apply kA | apply kB | apply kC); rfl)); all_goals (first | ((with_reducible show Is _ _); exact kE_GD6) | ((with_reducible refine fun (hc : (_ : Bool) = _) => ?_); (try simp only [xZ, xY, xP, reduceCtorEq] at hc); (try (have hx : True := hc; clear hx hc)); (try exact kX)) | ((with_reducible show ACall _ _ _ _ _); (first | ((with_reducible apply hnx) <;> exact kD_GD6) | ((with_reducible apply hm) <;> exact kD_GD6))) | ((fail_if_success (with_reducible first | show Is _ _ | show ACall _ _ _ _ _)); (try ((with_reducible show _ ∨ _); first | exact .inl rfl | (refine .inr ⟨rfl, ?_, ?_⟩; (focus (repeat (first | exact trivial | refine ⟨.inl rfl, ?_⟩ | refine ⟨.inr rfl, ?_⟩ | refine ⟨.inr (by (simp (disch := first | omega | (simp only [yZ, yB] <;> omega) | fail) [go_sem, yY, *, addrC, prefC, bx_get0, bx_get, bx_set0, bx_set, -List.map_take, -List.map_drop, -List.map_append, -List.map_reverse])), ?_⟩))); (first | exact trivial | exact rfl | (refine ⟨_, ?_, ?_⟩; (focus (simp (disch := first | omega | (simp only [yZ, yB] <;> omega) | fail) [go_sem, yY, *, addrC, prefC, bx_get0, bx_get, bx_set0, bx_set, -List.map_take, -List.map_drop, -List.map_append, -List.map_reverse]; (try exact rfl))); (simp (disch := first | omega | (simp only [yZ, yB] <;> omega) | fail) [go_sem, yY, *, addrC, prefC, bx_get0, bx_get, bx_set0, bx_set, -List.map_take, -List.map_drop, -List.map_append, -List.map_reverse])) | (simp (disch := first | omega | (simp only [yZ, yB] <;> omega) | fail) [go_sem, yY, *, addrC, prefC, bx_get0, bx_get, bx_set0, bx_set, -List.map_take, -List.map_drop, -List.map_append, -List.map_reverse]))) | exact .inl (by (simp (disch := first | omega | (simp only [yZ, yB] <;> omega) | fail) [go_sem, yY, *, addrC, prefC, bx_get0, bx_get, bx_set0, bx_set, -List.map_take, -List.map_drop, -List.map_append, -List.map_reverse]))))))))
    exact ⟨rfl, rfl⟩
end Go.Proofs.YtdceppjoipoohaaDoor
end
section
namespace Go.Proofs.YtdceppjoipoohaaDoor
open Go Go.Sy
set_option linter.all false
set_option maxRecDepth 100000
set_option maxHeartbeats 4000000
theorem kE_GO0 {α : Type} {x y : α} (h : Is x y := by first | ((try simp (disch := first | omega | (simp only [yZ, yB] <;> omega) | fail) [go_sem, yY, *, addrC, prefC, bx_get0, bx_get, bx_set0, bx_set, if_pos, if_neg, -List.map_take, -List.map_drop, -List.map_append, -List.map_reverse]); exact rfl) | fail) : Is x y := h
theorem kD_GO0 {p : Prop} (h : p := by (first | omega | assumption | exact rfl | ((simp (disch := first | omega | (simp only [yZ, yB] <;> omega) | fail) [go_sem, yY, *, addrC, prefC, bx_get0, bx_get, bx_set0, bx_set, -List.map_take, -List.map_drop, -List.map_append, -List.map_reverse]) <;> (first | done | omega | exact rfl)) | fail)) : p := h
def bgA (l : List UInt8) (a : Nat) : Nat := nxA l (nxA l (nxA l a 256) 256) 256
def bgV (l : List UInt8) (a n : Nat) : Nat := (nxV l a 256 * 65536 + nxV l (nxA l a 256) 256 * 256 + nxV l (nxA l (nxA l a 256) 256) 256) % n
theorem bgA_le {l : List UInt8} {a : Nat} (h : a ≤ l.length) : bgA l a ≤ l.length := nxA_le (nxA_le (nxA_le h))
theorem bgV_lt {l : List UInt8} {a n : Nat} (h : 0 < n) : bgV l a n < n := Nat.mod_lt _ h
theorem or_low (k x y : Nat) (hx : x * 2 ^ k < 4611686018427387904) (hy : y < 2 ^ k) (hy2 : y < 4611686018427387904) : bits .or .i64 ((x * 2 ^ k : Nat) : Int) (y : Int) = ((x * 2 ^ k + y : Nat) : Int) := by
  have h2 := Nat.two_pow_add_eq_or_of_lt (i := k) (b := y) hy x
  rw [i64_or_nat _ _ (by omega) (by omega)]
  congr 1
  rw [Nat.mul_comm] at h2
  exact h2.symm
theorem big_or (x y z : Nat) (hx : x < 256) (hy : y < 256) (hz : z < 256) : bits .or .i64 (bits .or .i64 ((x : Int) * 65536) ((y : Int) * 256)) (z : Int) = ((x * 65536 + y * 256 + z : Nat) : Int) := by
  have e1 := or_low 16 x (y * 256) (by omega) (by omega) (by omega)
  have e2 := or_low 8 (x * 256 + y) z (by omega) (by omega) (by omega)
  rw [show ((x : Int) * 65536) = ((x * 2 ^ 16 : Nat) : Int) by omega, show ((y : Int) * 256) = ((y * 256 : Nat) : Int) by omega, e1, show x * 2 ^ 16 + y * 256 = (x * 256 + y) * 2 ^ 8 by omega, e2]
theorem big_at {B : List Box} {β : Nat} {args : List CV} {l : List UInt8} {a n : Nat} {m : Int} (ha : Is args [.ptr β 0, .int .i64 m]) (hm : m = n) (hn : 1 ≤ n ∧ n ≤ 16777216) (hB : B[β]? = some (cb l a)) (hl : a ≤ l.length ∧ l.length < 1000000) : ACall Tryd.prog 31 args B fun c B' => c = .int .i64 (bgV l a n) ∧ B' = B.set β (cb l (bgA l a)) := by
  have ha : args = _ := ha
  subst ha hm
  obtain ⟨p1, p2, p3, p4, p5, p6, p7, p8, p9, p10, p11, p12, p13⟩ := bx_pack hB
  have h1 := nxA_le (n := 256) hl.1
  have h2 := nxA_le (n := 256) h1
  have hnx : ∀ (b : Nat), b ≤ l.length → ∀ (B : List Box) (args : List CV), Is args [.ptr β 0, .int .i64 256] → B[β]? = some (cb l b) → ACall Tryd.prog 29 args B fun c B' => c = .int .i64 (nxV l b 256) ∧ B' = B.set β (cb l (nxA l b 256)) := fun b hb _ _ h h2 => next_at (n := 256) h rfl h2 ⟨hb, by omega⟩
  have k1 := hnx a hl.1
  have k2 := hnx _ h1
  have k3 := hnx _ h2
  have b1 := nxV_lt (l := l) (a := a) (n := 256) (by omega)
  have b2 := nxV_lt (l := l) (a := nxA l a 256) (n := 256) (by omega)
  have b3 := nxV_lt (l := l) (a := nxA l (nxA l a 256) 256) (n := 256) (by omega)
  rw [bgA, bgV]
  generalize nxV l (nxA l (nxA l a 256) 256) 256 = v3 at *
  generalize nxV l (nxA l a 256) 256 = v2 at *
  generalize nxV l a 256 = v1 at *
  generalize nxA l (nxA l (nxA l a 256) 256) 256 = a3 at *
  generalize nxA l (nxA l a 256) 256 = a2 at *
  generalize nxA l a 256 = a1 at *
  have hor := big_or v1 v2 v3 b1 b2 b3
  have htm : (((v1 * 65536 + v2 * 256 + v3 : Nat) : Int)).tmod (n : Int) = (((v1 * 65536 + v2 * 256 + v3) % n : Nat) : Int) := rfl
  generalize hW : v1 * 65536 + v2 * 256 + v3 = W at *
  have hnp : (n : Int) ≠ 0 := by omega
  have hn1 := hn.1
  have hn2 := hn.2
  clear hnx hn
  refine acall_intro mixed Tryd.func31 rfl ca31 (by kernel_rfl) (by rw [Tryd.ntmps31]; simp) ?_
  repeat' (first | (with_reducible first | apply jA | apply jB | apply jC | apply jD | apply jE | apply jF | apply jG | apply jH | apply jI | apply jJ | apply jK | apply jL | apply jM | apply jN | apply jO) | ((with_reducible first | apply jP | apply jQ); rfl) | ((first | ((with_reducible first | apply jR | apply jS | apply jT); rfl; rfl) | (with_reducible first | apply jU | apply jV | apply jW) | ((with_reducible first | apply jX | apply jY | apply jZ); rfl) | ((with_reducible first | apply kA | apply kB | apply kC); rfl)); all_goals (first | ((with_reducible show Is _ _); exact kE) | ((with_reducible refine fun (hc : (_ : Bool) = _) => ?_); (try simp only [xZ, xY, xP, reduceCtorEq] at hc); (try (have hx : True := hc; clear hx hc)); (try exact kX)) | ((with_reducible show ACall _ _ _ _ _); (first | ((with_reducible apply k1) <;> exact kD) | ((with_reducible apply k2) <;> exact kD) | ((with_reducible apply k3) <;> exact kD))) | ((fail_if_success (with_reducible first | show Is _ _ | show ACall _ _ _ _ _)); (try ((with_reducible show _ ∨ _); exact kT))))))
  exact ⟨rfl, rfl⟩
def epP (l : List UInt8) (a : Nat) : Nat := 1 + bgV l (adA l a) 65535
def epA (l : List UInt8) (a : Nat) : Nat := bgA l (adA l a)
def epG (l : List UInt8) (a : Nat) : List Box := ⟨.bool (adSix l a) :: ((adIP l a).map byteC ++ [.int .i64 (epP l a : Nat)]), false⟩ :: adG l a
theorem epA_le {l : List UInt8} {a : Nat} (h : a ≤ l.length) : epA l a ≤ l.length := bgA_le (adA_le h)
theorem epP_le (l : List UInt8) (a : Nat) : 1 ≤ epP l a ∧ epP l a ≤ 65535 := by
  have := bgV_lt (l := l) (a := adA l a) (n := 65535) (by omega)
  unfold epP; omega
theorem endpoint_at {B : List Box} {β : Nat} {args : List CV} {l : List UInt8} {a : Nat} (ha : Is args [.ptr β 0]) (hB : B[β]? = some (cb l a)) (hl : a ≤ l.length ∧ l.length < 1000000) : ACall Tryd.prog 8 args B fun c B' => c = prefC (adSix l a) (adIP l a) (epP l a) ∧ B' = B.set β (cb l (epA l a)) ++ epG l a := by
  have ha : args = _ := ha
  subst ha
  obtain ⟨p1, p2, p3, p4, p5, p6, p7, p8, p9, p10, p11, p12, p13⟩ := bx_pack hB
  have had : ∀ (B : List Box) (args : List CV), Is args [.ptr β 0] → B[β]? = some (cb l a) → ACall Tryd.prog 7 args B fun c B' => c = addrC (adSix l a) (adIP l a) ∧ B' = B.set β (cb l (adA l a)) ++ adG l a := fun B args h h2 => addr_at h h2 hl
  have hal := adA_le hl.1
  have hlen := adIP_len l a
  have hbg : ∀ (B : List Box) (args : List CV), Is args [.ptr β 0, .int .i64 65535] → B[β]? = some (cb l (adA l a)) → ACall Tryd.prog 31 args B fun c B' => c = .int .i64 (bgV l (adA l a) 65535) ∧ B' = B.set β (cb l (bgA l (adA l a))) := fun B args h h2 => big_at (n := 65535) h rfl (by omega) h2 ⟨hal, hl.2⟩
  have hb := bgV_lt (l := l) (a := adA l a) (n := 65535) (by omega)
  rw [epA, epG, epP]
  generalize bgV l (adA l a) 65535 = v at *
  generalize bgA l (adA l a) = a2 at *
  generalize adSix l a = six at *
  generalize adIP l a = A at *
  generalize adG l a = G at *
  generalize adA l a = a1 at *
  refine acall_intro mixed Tryd.func8 rfl ca8 (by kernel_rfl) (by rw [Tryd.ntmps8]; simp) ?_
  cases six
  all_goals
    repeat' (first | (with_reducible first | apply jA | apply jB | apply jC | apply jD | apply jE | apply jF | apply jG | apply jH | apply jI | apply jJ | apply jK | apply jL | apply jM | apply jN | apply jO) | ((with_reducible first | apply jP | apply jQ); rfl) | ((with_reducible apply w_drawA); (conv => lhs; reduce); exact kE_GO0; exact kE_GO0) | ((first | ((with_reducible first | apply d_made | apply q_made); rfl; rfl)); (iterate 6 exact kE_GO0)) | ((first | ((with_reducible first | apply d_fop | apply q_fop); rfl; rfl)); (intro Bx hJ; (first | (obtain ⟨_, hJ1, hJ2⟩ := hJ) | (try simp only at hJ)); exact kE_GO0)) | ((with_reducible first | apply d_free | apply q_free); rfl; (iterate 2 exact kE_GO0); (intro Bx hJ); (first | ((with_reducible apply had) <;> exact kD_GO0) | ((with_reducible apply hbg) <;> exact kD_GO0))) | ((first | ((with_reducible first | apply jR | apply jS | apply jT); rfl; rfl) | (with_reducible first | apply jU | apply jV | apply jW) | ((with_reducible first | apply jX | apply jY | apply jZ); rfl) | ((with_reducible first | apply kA | apply kB | apply kC); rfl)); all_goals (first | ((with_reducible show Is _ _); exact kE_GO0) | ((with_reducible refine fun (hc : (_ : Bool) = _) => ?_); (try simp only [xZ, xY, xP, reduceCtorEq] at hc); (try (have hx : True := hc; clear hx hc)); (try exact kX)) | ((with_reducible show ACall _ _ _ _ _); (first | ((with_reducible apply had) <;> exact kD_GO0) | ((with_reducible apply hbg) <;> exact kD_GO0))) | ((fail_if_success (with_reducible first | show Is _ _ | show ACall _ _ _ _ _)); (try ((with_reducible show _ ∨ _); first | exact .inl rfl | (refine .inr ⟨rfl, ?_, ?_⟩; (focus (repeat (first | exact trivial | refine ⟨.inl rfl, ?_⟩ | refine ⟨.inr rfl, ?_⟩ | refine ⟨.inr (by (simp (disch := first | omega | (simp only [yZ, yB] <;> omega) | fail) [go_sem, yY, *, addrC, prefC, bx_get0, bx_get, bx_set0, bx_set, -List.map_take, -List.map_drop, -List.map_append, -List.map_reverse])), ?_⟩))); (first | exact trivial | exact rfl | (refine ⟨_, ?_, ?_⟩; (focus (simp (disch := first | omega | (simp only [yZ, yB] <;> omega) | fail) [go_sem, yY, *, addrC, prefC, bx_get0, bx_get, bx_set0, bx_set, -List.map_take, -List.map_drop, -List.map_append, -List.map_reverse]; (try exact rfl))); (simp (disch := first | omega | (simp only [yZ, yB] <;> omega) | fail) [go_sem, yY, *, addrC, prefC, bx_get0, bx_get, bx_set0, bx_set, -List.map_take, -List.map_drop, -List.map_append, -List.map_reverse])) | (simp (disch := first | omega | (simp only [yZ, yB] <;> omega) | fail) [go_sem, yY, *, addrC, prefC, bx_get0, bx_get, bx_set0, bx_set, -List.map_take, -List.map_drop, -List.map_append, -List.map_reverse]))) | exact .inl (by (simp (disch := first | omega | (simp only [yZ, yB] <;> omega) | fail) [go_sem, yY, *, addrC, prefC, bx_get0, bx_get, bx_set0, bx_set, -List.map_take, -List.map_drop, -List.map_append, -List.map_reverse]))))))))
    exact ⟨rfl, rfl⟩
end Go.Proofs.YtdceppjoipoohaaDoor
end
section
namespace Go.Sy
set_option linter.all false
open Go.RowKit (Below)
section
variable {P : Program} {I I' : Nat → Nat → Prop} {μ : List (List Place)} {w w' : World} {B : List Box}
theorem acall_of_calls {f : FuncId} {args : List CV} {Q : CV → Prop} (hc : callable P f = true)
    (h : ∀ (I : Nat → Nat → Prop) (μ : List (List Place)) (w : World) (vs : List Value), TabsOk I w → (∀ b j, I b j → b < w.heap.size) → R I μ w false args vs →
      Calls P f vs.toArray w fun e w' => ∃ c v, e = .returned v ∧ Q c ∧ Below w.heap.size w w' ∧ V (fun b j => I b j ∨ (w.heap.size ≤ b ∧ b < w'.heap.size)) μ w' c v) :
    ACall P f args B fun c B' => Q c ∧ B' = B :=
  ⟨hc, fun N I μ w vs hB hv => (h I μ w vs hB.tabs hB.imm hv).mono fun e w' ⟨c, v, he, hq, hbel, hval⟩ => by
    obtain ⟨g1, g2, g3⟩ := hB.behind (I2 := fun b j => I b j ∨ (w.heap.size ≤ b ∧ b < w'.heap.size)) hbel (fun b j h => .inl h) (fun b j h => h)
    exact ⟨c, v, B, _, μ, he, ⟨hq, rfl⟩, ⟨hval, g1, g2, g3⟩⟩⟩
theorem R.str_cons {one : Bool} {s : List UInt8} {cs : List CV} {vs : List Value} (h : R I μ w one (.str s :: cs) vs) : ∃ ws, vs = .string ⟨s.toArray⟩ :: ws ∧ R I μ w one cs ws := by
  cases h with
  | str s tl => exact ⟨_, rfl, tl⟩
theorem R.int_cons {one : Bool} {k : IntKind} {n : Int} {cs : List CV} {vs : List Value} (h : R I μ w one (.int k n :: cs) vs) : ∃ ws, vs = .int k n :: ws ∧ R I μ w one cs ws := by
  cases h with
  | int k n tl => exact ⟨_, rfl, tl⟩
theorem R.none {one : Bool} {vs : List Value} (h : R I μ w one [] vs) : vs = [] := by cases h; rfl
theorem Below.same : Below w.heap.size w w := ⟨rfl, rfl, rfl, Nat.le_refl _, fun _ _ => rfl⟩
theorem Below.drewN' (n : Nat) : Below w.heap.size w (w.drewN n) := ⟨rfl, rfl, rfl, Nat.le_refl _, fun _ _ => rfl⟩
end
end Go.Sy
end
section
namespace Go.Proofs
open Go.Shelf
def Tryd.lays156_ren : Go.Shelf.Ren := ⟨fun | 156 => 42 | 165 => 76 | 166 => 56 | 169 => 59 | 240 => 86 | 241 => 97 | 276 => 103 | 277 => 110 | n => n, fun | 31 => 39 | 9 => 9 | 3 => 3 | 4 => 4 | 0 => 0 | 20 => 20 | 72 => 94 | 76 => 97 | 70 => 92 | 37 => 22 | 75 => 96 | 127 => 115 | 164 => 131 | 5 => 5 | 80 => 101 | n => n, fun | n => n⟩
theorem Tryd.lays156 : Go.Proofs.Lays.n156 Tryd.prog Tryd.lays156_ren := {
  mixed := by kernel_rfl
  f156 := Tryd.func42.trans (congrArg some (by kernel_rfl))
  f165 := Tryd.func76.trans (congrArg some (by kernel_rfl))
  f166 := Tryd.func56.trans (congrArg some (by kernel_rfl))
  f169 := Tryd.func59.trans (congrArg some (by kernel_rfl))
  f240 := Tryd.func86.trans (congrArg some (by kernel_rfl))
  f241 := Tryd.func97.trans (congrArg some (by kernel_rfl))
  f276 := Tryd.func103.trans (congrArg some (by kernel_rfl))
  f277 := Tryd.func110.trans (congrArg some (by kernel_rfl))
  t0 := Tryd.underlying0
  a0 := Tryd.isAgg0
  z0 := Tryd.sizeOf0
  v0 := Tryd.zeroValue0
  t3 := Tryd.underlying3
  a3 := Tryd.isAgg3
  z3 := Tryd.sizeOf3
  v3 := Tryd.zeroValue3
  t4 := Tryd.underlying4
  a4 := Tryd.isAgg4
  z4 := Tryd.sizeOf4
  v4 := Tryd.zeroValue4
  t9 := Tryd.underlying9
  a9 := Tryd.isAgg9
  z9 := Tryd.sizeOf9
  v9 := Tryd.zeroValue9
  t20 := Tryd.underlying20
  a20 := Tryd.isAgg20
  z20 := Tryd.sizeOf20
  v20 := Tryd.zeroValue20
  t31 := Tryd.underlying39
  a31 := Tryd.isAgg39
  z31 := Tryd.sizeOf39
  v31 := Tryd.zeroValue39
  t37 := Tryd.underlying22
  a37 := Tryd.isAgg22
  z37 := Tryd.sizeOf22
  v37 := Tryd.zeroValue22
  t70 := Tryd.underlying92
  a70 := Tryd.isAgg92
  z70 := Tryd.sizeOf92
  v70 := Tryd.zeroValue92
  t72 := Tryd.underlying94
  a72 := Tryd.isAgg94
  z72 := Tryd.sizeOf94
  v72 := Tryd.zeroValue94
  t75 := Tryd.underlying96
  a75 := Tryd.isAgg96
  z75 := Tryd.sizeOf96
  v75 := Tryd.zeroValue96
  t76 := Tryd.underlying97
  a76 := Tryd.isAgg97
  z76 := Tryd.sizeOf97
  v76 := Tryd.zeroValue97
  t127 := Tryd.underlying115
  a127 := Tryd.isAgg115
  z127 := Tryd.sizeOf115
  v127 := Tryd.zeroValue115
  t164 := Tryd.underlying131
  a164 := Tryd.isAgg131
  z164 := Tryd.sizeOf131
  v164 := Tryd.zeroValue131 }
theorem Tryd.Builder_Extra_156 : Builder.Extra Tryd.prog Tryd.lays156_ren := {
  sizeBuilder := by kernel_rfl
  liesBuilder := by kernel_rfl
  t5 := Tryd.underlying5
  a5 := Tryd.isAgg5
  z5 := Tryd.sizeOf5
  v5 := Tryd.zeroValue5
  infoByte := by kernel_rfl
  cellsByte := by kernel_rfl
  sizeByte := by kernel_rfl
  neB5 := by decide }
open Go.RowKit in
theorem Tryd.strings_Join_none (a : Option Addr) (c : Nat) (sep : ByteArray) (w : World) :
    Calls Tryd.prog 42 #[.slice a 0 c, .string sep] w fun e w' => e = .returned (.string ⟨#[]⟩) ∧ w' = w := Any.strings_Join_none Tryd.lays156 Tryd.Builder_Extra_156 a c sep w
open Go.RowKit in
theorem Tryd.strings_Join (bk o c : Nat) (xs : List ByteArray) (sep : ByteArray) (w : World) (hcells : ∀ (j : Nat) x, xs[j]? = some x → w.cell? ⟨bk, o + j, none⟩ = some (.string x)) (hbk : bk < w.heap.size) (hN : xs.length ≤ 140737488355328) (hcap : xs.length ≤ c) (hlen : (Lib.join (xs.map (·.data.toList)) sep.data.toList).length ≤ 140737488355328) :
    Calls Tryd.prog 42 #[.slice (some ⟨bk, o, none⟩) xs.length c, .string sep] w fun e w' => e = .returned (.string ⟨(Lib.join (xs.map (·.data.toList)) sep.data.toList).toArray⟩) ∧ Below w.heap.size w w' := Any.strings_Join Tryd.lays156 Tryd.Builder_Extra_156 bk o c xs sep w hcells hbk hN hcap hlen
def Tryd.laysM171_ren : Go.Shelf.Ren := ⟨fun | 171 => 43 | 243 => 77 | 246 => 75 | 283 => 93 | 284 => 94 | 285 => 95 | 286 => 96 | 129 => 106 | 317 => 105 | 318 => 107 | 319 => 108 | 320 => 109 | 337 => 118 | 338 => 119 | n => n, fun | 3 => 3 | 9 => 9 | 2 => 2 | 4 => 4 | 171 => 121 | 0 => 0 | 53 => 122 | 37 => 22 | 5 => 5 | 173 => 125 | 212 => 135 | 51 => 128 | 20 => 20 | 213 => 136 | 46 => 72 | 232 => 51 | 233 => 142 | n => n, fun | 17 => 1 | 18 => 2 | 19 => 3 | n => n⟩
theorem Tryd.laysM171 : Go.Proofs.LaysM.n171 Tryd.prog Tryd.laysM171_ren := {
  mixed := by kernel_rfl
  f129 := Tryd.func106.trans (congrArg some (by kernel_rfl))
  f171 := Tryd.func43.trans (congrArg some (by kernel_rfl))
  f243 := Tryd.func77.trans (congrArg some (by kernel_rfl))
  f246 := Tryd.func75.trans (congrArg some (by kernel_rfl))
  f283 := Tryd.func93.trans (congrArg some (by kernel_rfl))
  f284 := Tryd.func94.trans (congrArg some (by kernel_rfl))
  f285 := Tryd.func95.trans (congrArg some (by kernel_rfl))
  f286 := Tryd.func96.trans (congrArg some (by kernel_rfl))
  f317 := Tryd.func105.trans (congrArg some (by kernel_rfl))
  f318 := Tryd.func107.trans (congrArg some (by kernel_rfl))
  f319 := Tryd.func108.trans (congrArg some (by kernel_rfl))
  f320 := Tryd.func109.trans (congrArg some (by kernel_rfl))
  f337 := Tryd.func118.trans (congrArg some (by kernel_rfl))
  f338 := Tryd.func119.trans (congrArg some (by kernel_rfl))
  t0 := Tryd.underlying0
  a0 := Tryd.isAgg0
  z0 := Tryd.sizeOf0
  v0 := Tryd.zeroValue0
  t2 := Tryd.underlying2
  a2 := Tryd.isAgg2
  z2 := Tryd.sizeOf2
  v2 := Tryd.zeroValue2
  t3 := Tryd.underlying3
  a3 := Tryd.isAgg3
  z3 := Tryd.sizeOf3
  v3 := Tryd.zeroValue3
  t4 := Tryd.underlying4
  a4 := Tryd.isAgg4
  z4 := Tryd.sizeOf4
  v4 := Tryd.zeroValue4
  t5 := Tryd.underlying5
  a5 := Tryd.isAgg5
  z5 := Tryd.sizeOf5
  v5 := Tryd.zeroValue5
  t9 := Tryd.underlying9
  a9 := Tryd.isAgg9
  z9 := Tryd.sizeOf9
  v9 := Tryd.zeroValue9
  t20 := Tryd.underlying20
  a20 := Tryd.isAgg20
  z20 := Tryd.sizeOf20
  v20 := Tryd.zeroValue20
  t37 := Tryd.underlying22
  a37 := Tryd.isAgg22
  z37 := Tryd.sizeOf22
  v37 := Tryd.zeroValue22
  t46 := Tryd.underlying72
  a46 := Tryd.isAgg72
  z46 := Tryd.sizeOf72
  v46 := Tryd.zeroValue72
  t51 := Tryd.underlying128
  a51 := Tryd.isAgg128
  z51 := Tryd.sizeOf128
  v51 := Tryd.zeroValue128
  t53 := Tryd.underlying122
  a53 := Tryd.isAgg122
  z53 := Tryd.sizeOf122
  v53 := Tryd.zeroValue122
  t171 := Tryd.underlying121
  a171 := Tryd.isAgg121
  z171 := Tryd.sizeOf121
  v171 := Tryd.zeroValue121
  t173 := Tryd.underlying125
  a173 := Tryd.isAgg125
  z173 := Tryd.sizeOf125
  v173 := Tryd.zeroValue125
  t212 := Tryd.underlying135
  a212 := Tryd.isAgg135
  z212 := Tryd.sizeOf135
  v212 := Tryd.zeroValue135
  t213 := Tryd.underlying136
  a213 := Tryd.isAgg136
  z213 := Tryd.sizeOf136
  t232 := Tryd.underlying51
  a232 := Tryd.isAgg51
  z232 := Tryd.sizeOf51
  v232 := Tryd.zeroValue51
  t233 := Tryd.underlying142
  a233 := Tryd.isAgg142
  z233 := Tryd.sizeOf142
  v233 := Tryd.zeroValue142
  g17 := by kernel_rfl
  g18 := by kernel_rfl
  g19 := by kernel_rfl
  i0 := by kernel_rfl
  i2 := by kernel_rfl
  i3 := by kernel_rfl
  i4 := by kernel_rfl
  i5 := by kernel_rfl
  i9 := by kernel_rfl
  i20 := by kernel_rfl
  i37 := by kernel_rfl
  i46 := by kernel_rfl
  i51 := by kernel_rfl
  i53 := by kernel_rfl
  i171 := by kernel_rfl
  i173 := by kernel_rfl
  i212 := by kernel_rfl
  i232 := by kernel_rfl
  i233 := by kernel_rfl
  m17 := by kernel_rfl
  m18 := by kernel_rfl
  m19 := by kernel_rfl }
open Go.RowKit Go.Sort Go.Lib in
theorem Tryd.strconv_Itoa (n : Int) (h0 : -9223372036854775808 ≤ n) (h1 : n ≤ 9223372036854775807) (w : World) (htab : Lib.TabIs Tryd.prog w "internal/strconv.uint64pow10" .u64 Lib.pow10Tab) :
    Calls Tryd.prog 43 #[.int .i64 n] w fun e w' => e = .returned (.string ⟨(Lib.itoa n).toArray⟩) ∧ ∃ k os, w' = grow (w.drewN k) os := Any.strconv_Itoa Tryd.laysM171 n h0 h1 w htab
def Tryd.laysM173_ren : Go.Shelf.Ren := ⟨fun | 173 => 41 | 246 => 75 | 283 => 93 | 284 => 94 | 285 => 95 | 286 => 96 | 129 => 106 | 317 => 105 | 318 => 107 | 319 => 108 | 320 => 109 | 337 => 118 | 338 => 119 | n => n, fun | 2 => 2 | 3 => 3 | 9 => 9 | 4 => 4 | 171 => 121 | 0 => 0 | 53 => 122 | 37 => 22 | 5 => 5 | 173 => 125 | 212 => 135 | 51 => 128 | 20 => 20 | 213 => 136 | 46 => 72 | 232 => 51 | 233 => 142 | n => n, fun | 17 => 1 | 18 => 2 | 19 => 3 | n => n⟩
theorem Tryd.laysM173 : Go.Proofs.LaysM.n173 Tryd.prog Tryd.laysM173_ren := {
  mixed := by kernel_rfl
  f129 := Tryd.func106.trans (congrArg some (by kernel_rfl))
  f173 := Tryd.func41.trans (congrArg some (by kernel_rfl))
  f246 := Tryd.func75.trans (congrArg some (by kernel_rfl))
  f283 := Tryd.func93.trans (congrArg some (by kernel_rfl))
  f284 := Tryd.func94.trans (congrArg some (by kernel_rfl))
  f285 := Tryd.func95.trans (congrArg some (by kernel_rfl))
  f286 := Tryd.func96.trans (congrArg some (by kernel_rfl))
  f317 := Tryd.func105.trans (congrArg some (by kernel_rfl))
  f318 := Tryd.func107.trans (congrArg some (by kernel_rfl))
  f319 := Tryd.func108.trans (congrArg some (by kernel_rfl))
  f320 := Tryd.func109.trans (congrArg some (by kernel_rfl))
  f337 := Tryd.func118.trans (congrArg some (by kernel_rfl))
  f338 := Tryd.func119.trans (congrArg some (by kernel_rfl))
  t0 := Tryd.underlying0
  a0 := Tryd.isAgg0
  z0 := Tryd.sizeOf0
  v0 := Tryd.zeroValue0
  t2 := Tryd.underlying2
  a2 := Tryd.isAgg2
  z2 := Tryd.sizeOf2
  v2 := Tryd.zeroValue2
  t3 := Tryd.underlying3
  a3 := Tryd.isAgg3
  z3 := Tryd.sizeOf3
  v3 := Tryd.zeroValue3
  t4 := Tryd.underlying4
  a4 := Tryd.isAgg4
  z4 := Tryd.sizeOf4
  v4 := Tryd.zeroValue4
  t5 := Tryd.underlying5
  a5 := Tryd.isAgg5
  z5 := Tryd.sizeOf5
  v5 := Tryd.zeroValue5
  t9 := Tryd.underlying9
  a9 := Tryd.isAgg9
  z9 := Tryd.sizeOf9
  v9 := Tryd.zeroValue9
  t20 := Tryd.underlying20
  a20 := Tryd.isAgg20
  z20 := Tryd.sizeOf20
  v20 := Tryd.zeroValue20
  t37 := Tryd.underlying22
  a37 := Tryd.isAgg22
  z37 := Tryd.sizeOf22
  v37 := Tryd.zeroValue22
  t46 := Tryd.underlying72
  a46 := Tryd.isAgg72
  z46 := Tryd.sizeOf72
  v46 := Tryd.zeroValue72
  t51 := Tryd.underlying128
  a51 := Tryd.isAgg128
  z51 := Tryd.sizeOf128
  v51 := Tryd.zeroValue128
  t53 := Tryd.underlying122
  a53 := Tryd.isAgg122
  z53 := Tryd.sizeOf122
  v53 := Tryd.zeroValue122
  t171 := Tryd.underlying121
  a171 := Tryd.isAgg121
  z171 := Tryd.sizeOf121
  v171 := Tryd.zeroValue121
  t173 := Tryd.underlying125
  a173 := Tryd.isAgg125
  z173 := Tryd.sizeOf125
  v173 := Tryd.zeroValue125
  t212 := Tryd.underlying135
  a212 := Tryd.isAgg135
  z212 := Tryd.sizeOf135
  v212 := Tryd.zeroValue135
  t213 := Tryd.underlying136
  a213 := Tryd.isAgg136
  z213 := Tryd.sizeOf136
  t232 := Tryd.underlying51
  a232 := Tryd.isAgg51
  z232 := Tryd.sizeOf51
  v232 := Tryd.zeroValue51
  t233 := Tryd.underlying142
  a233 := Tryd.isAgg142
  z233 := Tryd.sizeOf142
  v233 := Tryd.zeroValue142
  g17 := by kernel_rfl
  g18 := by kernel_rfl
  g19 := by kernel_rfl
  i0 := by kernel_rfl
  i2 := by kernel_rfl
  i3 := by kernel_rfl
  i4 := by kernel_rfl
  i5 := by kernel_rfl
  i9 := by kernel_rfl
  i20 := by kernel_rfl
  i37 := by kernel_rfl
  i46 := by kernel_rfl
  i51 := by kernel_rfl
  i53 := by kernel_rfl
  i171 := by kernel_rfl
  i173 := by kernel_rfl
  i212 := by kernel_rfl
  i232 := by kernel_rfl
  i233 := by kernel_rfl
  m17 := by kernel_rfl
  m18 := by kernel_rfl
  m19 := by kernel_rfl }
open Go.RowKit Go.Sort Go.Lib in
theorem Tryd.strconv_FormatInt_10 (n : Int) (h0 : -9223372036854775808 ≤ n) (h1 : n ≤ 9223372036854775807) (w : World) (htab : Lib.TabIs Tryd.prog w "internal/strconv.uint64pow10" .u64 Lib.pow10Tab) :
    Calls Tryd.prog 41 #[.int .i64 n, .int .i64 10] w fun e w' => e = .returned (.string ⟨(Lib.itoa n).toArray⟩) ∧ ∃ k os, w' = grow (w.drewN k) os := Any.strconv_FormatInt_10 Tryd.laysM173 n h0 h1 w htab
def Tryd.lays145_ren : Go.Shelf.Ren := ⟨fun | 145 => 52 | 220 => 85 | 219 => 102 | 217 => 114 | 225 => 115 | 224 => 116 | 267 => 117 | 266 => 121 | 314 => 122 | n => n, fun | 9 => 9 | 4 => 4 | 59 => 84 | 3 => 3 | 5 => 5 | 46 => 72 | 146 => 129 | 51 => 128 | n => n, fun | 1 => 0 | n => n⟩
theorem Tryd.lays145 : Go.Proofs.Lays.n145 Tryd.prog Tryd.lays145_ren := {
  mixed := by kernel_rfl
  f145 := Tryd.func52.trans (congrArg some (by kernel_rfl))
  f217 := Tryd.func114.trans (congrArg some (by kernel_rfl))
  f219 := Tryd.func102.trans (congrArg some (by kernel_rfl))
  f220 := Tryd.func85.trans (congrArg some (by kernel_rfl))
  f224 := Tryd.func116.trans (congrArg some (by kernel_rfl))
  f225 := Tryd.func115.trans (congrArg some (by kernel_rfl))
  f266 := Tryd.func121.trans (congrArg some (by kernel_rfl))
  f267 := Tryd.func117.trans (congrArg some (by kernel_rfl))
  f314 := Tryd.func122.trans (congrArg some (by kernel_rfl))
  t3 := Tryd.underlying3
  a3 := Tryd.isAgg3
  z3 := Tryd.sizeOf3
  v3 := Tryd.zeroValue3
  t4 := Tryd.underlying4
  a4 := Tryd.isAgg4
  z4 := Tryd.sizeOf4
  v4 := Tryd.zeroValue4
  t5 := Tryd.underlying5
  a5 := Tryd.isAgg5
  z5 := Tryd.sizeOf5
  v5 := Tryd.zeroValue5
  t9 := Tryd.underlying9
  a9 := Tryd.isAgg9
  z9 := Tryd.sizeOf9
  v9 := Tryd.zeroValue9
  t46 := Tryd.underlying72
  a46 := Tryd.isAgg72
  z46 := Tryd.sizeOf72
  v46 := Tryd.zeroValue72
  t51 := Tryd.underlying128
  a51 := Tryd.isAgg128
  z51 := Tryd.sizeOf128
  v51 := Tryd.zeroValue128
  t59 := Tryd.underlying84
  a59 := Tryd.isAgg84
  z59 := Tryd.sizeOf84
  v59 := Tryd.zeroValue84
  t146 := Tryd.underlying129
  a146 := Tryd.isAgg129
  z146 := Tryd.sizeOf129
  v146 := Tryd.zeroValue129
  g1 := by kernel_rfl }
open Go.RowKit Go.Lib in
theorem Tryd.strings_Cut (s sep : ByteArray) (m : Int) (w : World) (hs : s.size < 4294967281) (hm : w.cell? ⟨0, 0, none⟩ = some (.int .i64 m)) :
    Calls Tryd.prog 52 #[.string s, .string sep] w fun e w' => e = .returned (.tuple #[.string ⟨(Lib.cut s.data.toList sep.data.toList).1.toArray⟩, .string ⟨(Lib.cut s.data.toList sep.data.toList).2.1.toArray⟩, .bool (Lib.cut s.data.toList sep.data.toList).2.2]) ∧ ∃ n, w' = w.drewN n := Any.strings_Cut Tryd.lays145 s sep m w hs hm
def Tryd.lays146_ren : Go.Shelf.Ren := ⟨fun | 146 => 46 | 221 => 80 | 268 => 98 | 138 => 99 | 143 => 100 | 195 => 111 | 197 => 112 | 218 => 113 | 219 => 102 | 260 => 120 | 217 => 114 | 225 => 115 | 224 => 116 | 267 => 117 | 266 => 121 | 314 => 122 | n => n, fun | 9 => 9 | 31 => 39 | 3 => 3 | 4 => 4 | 0 => 0 | 105 => 139 | 21 => 21 | 5 => 5 | 46 => 72 | 119 => 143 | 139 => 146 | 138 => 145 | 146 => 129 | 51 => 128 | n => n, fun | 1 => 0 | 3 => 4 | 4 => 5 | n => n⟩
theorem Tryd.lays146 : Go.Proofs.Lays.n146 Tryd.prog Tryd.lays146_ren := {
  mixed := by kernel_rfl
  f138 := Tryd.func99.trans (congrArg some (by kernel_rfl))
  f143 := Tryd.func100.trans (congrArg some (by kernel_rfl))
  f146 := Tryd.func46.trans (congrArg some (by kernel_rfl))
  f195 := Tryd.func111.trans (congrArg some (by kernel_rfl))
  f197 := Tryd.func112.trans (congrArg some (by kernel_rfl))
  f217 := Tryd.func114.trans (congrArg some (by kernel_rfl))
  f218 := Tryd.func113.trans (congrArg some (by kernel_rfl))
  f219 := Tryd.func102.trans (congrArg some (by kernel_rfl))
  f221 := Tryd.func80.trans (congrArg some (by kernel_rfl))
  f224 := Tryd.func116.trans (congrArg some (by kernel_rfl))
  f225 := Tryd.func115.trans (congrArg some (by kernel_rfl))
  f260 := Tryd.func120.trans (congrArg some (by kernel_rfl))
  f266 := Tryd.func121.trans (congrArg some (by kernel_rfl))
  f267 := Tryd.func117.trans (congrArg some (by kernel_rfl))
  f268 := Tryd.func98.trans (congrArg some (by kernel_rfl))
  f314 := Tryd.func122.trans (congrArg some (by kernel_rfl))
  t0 := Tryd.underlying0
  a0 := Tryd.isAgg0
  z0 := Tryd.sizeOf0
  v0 := Tryd.zeroValue0
  t3 := Tryd.underlying3
  a3 := Tryd.isAgg3
  z3 := Tryd.sizeOf3
  v3 := Tryd.zeroValue3
  t4 := Tryd.underlying4
  a4 := Tryd.isAgg4
  z4 := Tryd.sizeOf4
  v4 := Tryd.zeroValue4
  t5 := Tryd.underlying5
  a5 := Tryd.isAgg5
  z5 := Tryd.sizeOf5
  v5 := Tryd.zeroValue5
  t9 := Tryd.underlying9
  a9 := Tryd.isAgg9
  z9 := Tryd.sizeOf9
  v9 := Tryd.zeroValue9
  t21 := Tryd.underlying21
  a21 := Tryd.isAgg21
  z21 := Tryd.sizeOf21
  v21 := Tryd.zeroValue21
  t31 := Tryd.underlying39
  a31 := Tryd.isAgg39
  z31 := Tryd.sizeOf39
  v31 := Tryd.zeroValue39
  t46 := Tryd.underlying72
  a46 := Tryd.isAgg72
  z46 := Tryd.sizeOf72
  v46 := Tryd.zeroValue72
  t51 := Tryd.underlying128
  a51 := Tryd.isAgg128
  z51 := Tryd.sizeOf128
  v51 := Tryd.zeroValue128
  t105 := Tryd.underlying139
  a105 := Tryd.isAgg139
  z105 := Tryd.sizeOf139
  v105 := Tryd.zeroValue139
  t119 := Tryd.underlying143
  a119 := Tryd.isAgg143
  z119 := Tryd.sizeOf143
  t138 := Tryd.underlying145
  a138 := Tryd.isAgg145
  z138 := Tryd.sizeOf145
  v138 := Tryd.zeroValue145
  t139 := Tryd.underlying146
  a139 := Tryd.isAgg146
  z139 := Tryd.sizeOf146
  v139 := Tryd.zeroValue146
  t146 := Tryd.underlying129
  a146 := Tryd.isAgg129
  z146 := Tryd.sizeOf129
  v146 := Tryd.zeroValue129
  g1 := by kernel_rfl
  g3 := by kernel_rfl
  g4 := by kernel_rfl }
open Go.RowKit Go.Lib in
theorem Tryd.strings_Split (s sep : ByteArray) (m : Int) (w : World) (hs : s.size < 4294967281) (hm : w.cell? ⟨0, 0, none⟩ = some (.int .i64 m)) (h1 : 1 ≤ sep.size) :
    Calls Tryd.prog 46 #[.string s, .string sep] w fun e w' =>
      e = .returned (.slice (some ⟨w.heap.size, 0, none⟩) (Lib.countB s sep + 1) (Lib.countB s sep + 1)) ∧ w' = w.alloc (.cells ((Lib.splitB sep 0 (Lib.countB s sep) s).map Value.string).toArray 9) := Any.strings_Split Tryd.lays146 (by kernel_rfl) s sep m w hs hm h1
end Go.Proofs
end
section
namespace Go.Proofs.YtdceppjoipoohaaDoor
open Go Go.Sy
set_option linter.all false
set_option maxRecDepth 100000
set_option maxHeartbeats 4000000
open Go.RowKit (Below)
theorem Below.grow' {w : World} (os : Array Obj) : Below w.heap.size w (Go.Sort.grow w os) := ⟨rfl, rfl, rfl, by simp [Go.Sort.grow], fun k hk => by simp [Go.Sort.grow, Array.getElem?_append, hk]⟩
theorem row_whole {w : World} {g : Nat} {vs : List Value} (h0 : vs ≠ []) (h : ∀ j : Nat, w.cell? ⟨g, j, none⟩ = vs[j]?) : ∃ cs ty fz, w.heap[g]? = some (.cells cs ty fz) ∧ cs.toList = vs := by
  have hx : ∀ j : Nat, w.cell? ⟨g, j, none⟩ = match w.heap[g]? with | some (.cells cs _ _) => cs[j]? | _ => none := fun j => by
    unfold World.cell?
    cases w.heap[g]? with
    | none => rfl
    | some o => cases o <;> rfl
  cases hg : w.heap[g]? with
  | none =>
    have := h 0
    rw [hx, hg] at this
    cases vs with
    | nil => exact absurd rfl h0
    | cons => cases this
  | some o =>
    cases o with
    | cells cs ty fz =>
      refine ⟨cs, ty, fz, rfl, List.ext_getElem? fun j => ?_⟩
      have := h j
      rw [hx, hg] at this
      rw [Array.getElem?_toList]
      exact this
    | _ =>
      have := h 0
      rw [hx, hg] at this
      cases vs with
      | nil => exact absurd rfl h0
      | cons => cases this
theorem tab_is {I : Nat → Nat → Prop} {w : World} (h : TabsOk I w) : Go.Lib.TabIs Tryd.prog w "internal/strconv.uint64pow10" .u64 Go.Lib.pow10Tab := by
  obtain ⟨cs, ty, fz, h1, h2⟩ := row_whole (g := 1) (vs := Go.Lib.pow10Tab.map fun z => Value.int .u64 z) (by simp [Go.Lib.pow10Tab]) fun j => by
    rw [(h.1 1 .u64 _ rfl j).1, List.getElem?_map]; rfl
  unfold Go.Lib.TabIs World.var?
  have hn : Tryd.prog.globalNamed "internal/strconv.uint64pow10" = some 1 := by kernel_rfl
  rw [hn]
  simp only [Option.bind_some, h1]
  rw [← h2]
theorem max_is {I : Nat → Nat → Prop} {w : World} (h : TabsOk I w) : ∃ m, w.cell? ⟨0, 0, none⟩ = some (.int .i64 m) := (h.2 0 (by simp [tabInts])).2
theorem itoa_at {B : List Box} {n : Int} (h : -9223372036854775808 ≤ n ∧ n ≤ 9223372036854775807) : ACall Tryd.prog 43 [.int .i64 n] B fun c B' => c = .str (Go.Lib.itoa n) ∧ B' = B :=
  acall_of_calls (Q := fun c => c = .str (Go.Lib.itoa n)) (by kernel_rfl) fun I μ w vs ht hI hv => by
    obtain ⟨ws, rfl, hv2⟩ := R.int_cons hv
    obtain rfl := R.none hv2
    refine (Tryd.strconv_Itoa n h.1 h.2 w (tab_is ht)).mono fun e w' ⟨he, k, os, hw⟩ => ?_
    subst hw
    exact ⟨_, _, he, rfl, (Below.drewN' k).trans (by have := Below.grow' (w := w.drewN k) os; exact this), .str _ (.nil _)⟩
theorem fmt10_at {B : List Box} {n : Int} (h : -9223372036854775808 ≤ n ∧ n ≤ 9223372036854775807) : ACall Tryd.prog 41 [.int .i64 n, .int .i64 10] B fun c B' => c = .str (Go.Lib.itoa n) ∧ B' = B :=
  acall_of_calls (Q := fun c => c = .str (Go.Lib.itoa n)) (by kernel_rfl) fun I μ w vs ht hI hv => by
    obtain ⟨ws, rfl, hv2⟩ := R.int_cons hv
    obtain ⟨ws, rfl, hv3⟩ := R.int_cons hv2
    obtain rfl := R.none hv3
    refine (Tryd.strconv_FormatInt_10 n h.1 h.2 w (tab_is ht)).mono fun e w' ⟨he, k, os, hw⟩ => ?_
    subst hw
    exact ⟨_, _, he, rfl, (Below.drewN' k).trans (by have := Below.grow' (w := w.drewN k) os; exact this), .str _ (.nil _)⟩
theorem cutS_at {B : List Box} {s t : List UInt8} (h : s.length < 4294967281) : ACall Tryd.prog 52 [.str s, .str t] B fun c B' => c = .tup [.str (Go.Lib.cut s t).1, .str (Go.Lib.cut s t).2.1, .bool (Go.Lib.cut s t).2.2] ∧ B' = B :=
  acall_of_calls (Q := fun c => c = .tup [.str (Go.Lib.cut s t).1, .str (Go.Lib.cut s t).2.1, .bool (Go.Lib.cut s t).2.2]) (by kernel_rfl) fun I μ w vs ht hI hv => by
    obtain ⟨ws, rfl, hv2⟩ := R.str_cons hv
    obtain ⟨ws, rfl, hv3⟩ := R.str_cons hv2
    obtain rfl := R.none hv3
    obtain ⟨m, hm⟩ := max_is ht
    refine (Tryd.strings_Cut ⟨s.toArray⟩ ⟨t.toArray⟩ m w h hm).mono fun e w' ⟨he, k, hw⟩ => ?_
    subst hw
    exact ⟨_, _, he, rfl, Below.drewN' k, .tup (.str _ (.str _ (.bool _ (.nil _)))) (.nil _)⟩
def splitL (b : UInt8) : List UInt8 → List (List UInt8)
  | [] => [[]]
  | c :: s => if c = b then [] :: splitL b s else match splitL b s with
    | [] => [[c]]
    | x :: xs => (c :: x) :: xs
theorem splitL_ne (b : UInt8) : ∀ s, splitL b s ≠ []
  | [] => by simp [splitL]
  | c :: s => by
    rw [splitL]
    split
    · simp
    · split <;> simp
theorem index_one (b c : UInt8) (s : List UInt8) : Go.Lib.index (c :: s) [b] = if c = b then 0 else if Go.Lib.index s [b] = -1 then -1 else Go.Lib.index s [b] + 1 := by
  rw [Go.Lib.index]
  by_cases h : c = b
  · subst h; simp [List.isPrefixOf]
  · have : (b == c) = false := by simpa using Ne.symm h
    simp [List.isPrefixOf, this, h]
theorem splitL_miss (b : UInt8) : ∀ s : List UInt8, Go.Lib.index s [b] = -1 → splitL b s = [s]
  | [], _ => rfl
  | c :: s, h => by
    rw [index_one] at h
    have hg := Go.Lib.index_ge s [b]
    split at h
    · omega
    · rename_i hc
      split at h
      · rename_i h1
        rw [splitL, if_neg hc, splitL_miss b s h1]
      · omega
theorem splitL_hit (b : UInt8) : ∀ (s : List UInt8) (i : Nat), Go.Lib.index s [b] = i → splitL b s = s.take i :: splitL b (s.drop (i + 1))
  | [], i, h => by simp [Go.Lib.index] at h
  | c :: s, i, h => by
    rw [index_one] at h
    have hg := Go.Lib.index_ge s [b]
    split at h
    · rename_i hc
      have : i = 0 := by omega
      subst this
      rw [splitL, if_pos hc]; simp
    · rename_i hc
      split at h
      · omega
      · obtain ⟨k, rfl⟩ : ∃ k, i = k + 1 := ⟨i - 1, by omega⟩
        rw [splitL, if_neg hc, splitL_hit b s k (by omega)]
        simp
theorem splitK_one (b : UInt8) : ∀ (k : Nat) (s : List UInt8), s.count b = k → Go.Lib.splitK [b] 0 k s = splitL b s := by
  intro k
  induction k with
  | zero =>
    intro s hs
    have : Go.Lib.index s [b] = -1 := by
      induction s with
      | nil => simp [Go.Lib.index]
      | cons c s ih =>
        rw [List.count_cons] at hs
        by_cases hc : c = b
        · subst hc; simp at hs
        · rw [index_one, if_neg hc, if_pos (ih (by omega))]
    rw [splitL_miss b s this]; rfl
  | succ k ih =>
    intro s hs
    rw [Go.Lib.splitK]
    have hg := Go.Lib.index_ge s [b]
    by_cases hm : Go.Lib.index s [b] = -1
    · exfalso
      have key : ∀ s : List UInt8, Go.Lib.index s [b] = -1 → s.count b = 0 := by
        intro s
        induction s with
        | nil => simp
        | cons c s ih =>
          intro h
          rw [index_one] at h
          have hg := Go.Lib.index_ge s [b]
          split at h
          · omega
          · rename_i hc
            split at h
            · rename_i h1
              rw [List.count_cons, ih h1]; simp [hc]
            · omega
      rw [key s hm] at hs
      omega
    · obtain ⟨i, hi⟩ : ∃ i : Nat, Go.Lib.index s [b] = i := ⟨(Go.Lib.index s [b]).toNat, by omega⟩
      rw [splitL_hit b s i hi, hi, if_neg (by simp)]
      have hcount : ∀ (s : List UInt8) (i : Nat), Go.Lib.index s [b] = i → s.count b = (s.drop (i + 1)).count b + 1 := by
        intro s
        induction s with
        | nil => intro i h; simp [Go.Lib.index] at h
        | cons c s ih =>
          intro i h
          rw [index_one] at h
          have hg := Go.Lib.index_ge s [b]
          split at h
          · rename_i hc
            have : i = 0 := by omega
            subst this hc
            simp
          · rename_i hc
            split at h
            · omega
            · obtain ⟨k, rfl⟩ : ∃ k, i = k + 1 := ⟨i - 1, by omega⟩
              rw [List.count_cons, ih k (by omega)]; simp [hc]
      have := hcount s i hi
      rw [← ih (s.drop (i + 1)) (by omega)]
      simp
theorem strs_rel {I : Nat → Nat → Prop} {μ : List (List Go.Sy.Place)} {w : World} : ∀ L : List (List UInt8), R I μ w true (L.map CV.str) (L.map fun l => Value.string ⟨l.toArray⟩)
  | [] => .nil _
  | l :: L => .str l (strs_rel L)
theorem split_at {B : List Box} {s : List UInt8} {b : UInt8} (h : s.length < 4294967281) : ACall Tryd.prog 46 [.str s, .str [b]] B fun c B' => c = .lst (splitL b s).length ((splitL b s).map .str) true ∧ B' = B :=
  acall_of_calls (Q := fun c => c = .lst (splitL b s).length ((splitL b s).map .str) true) (by kernel_rfl) fun I μ w vs ht hI hv => by
    obtain ⟨ws, rfl, hv2⟩ := R.str_cons hv
    obtain ⟨ws, rfl, hv3⟩ := R.str_cons hv2
    obtain rfl := R.none hv3
    obtain ⟨m, hm⟩ := max_is ht
    have hc : Go.Lib.countB ⟨s.toArray⟩ ⟨[b].toArray⟩ = s.count b := by
      have : Go.Lib.countB ⟨s.toArray⟩ ⟨[b].toArray⟩ = Go.Lib.count s [b] := rfl
      rw [this, Go.Lib.count_one]
    have hk := Go.Lib.splitB_data ⟨[b].toArray⟩ 0 (s.count b) ⟨s.toArray⟩
    have e1 : (⟨s.toArray⟩ : ByteArray).data.toList = s := by simp
    have e2 : (⟨[b].toArray⟩ : ByteArray).data.toList = [b] := by simp
    rw [e1, e2, splitK_one b _ s rfl] at hk
    have hl : s.count b + 1 = (splitL b s).length := by
      rw [← hk, List.length_map, Go.Lib.splitB_all ⟨[b].toArray⟩ (Nat.le_refl 1) 0 (s.count b) ⟨s.toArray⟩ hc]
    have hx : (Go.Lib.splitB ⟨[b].toArray⟩ 0 (s.count b) ⟨s.toArray⟩).map Value.string = (splitL b s).map fun l => Value.string ⟨l.toArray⟩ := by
      rw [← hk, List.map_map]
      congr 1
    refine (Tryd.strings_Split ⟨s.toArray⟩ ⟨[b].toArray⟩ m w h hm (Nat.le_refl 1)).mono fun e w' ⟨he, hw⟩ => ?_
    rw [hc, hl] at he
    rw [hc, hx] at hw
    have hp : w'.heap = w.heap.push (.cells ((splitL b s).map fun l => Value.string ⟨l.toArray⟩).toArray 9) := by rw [hw]; rfl
    have hbel : Below w.heap.size w w' := Below.of_heap (Nat.le_refl _) hp (by rw [hw]; rfl) (by rw [hw]; rfl) (by rw [hw]; rfl)
    refine ⟨_, _, he, rfl, hbel, ?_⟩
    have hcell : ∀ (j : Nat) (v : Value), ((splitL b s).map fun l => Value.string ⟨l.toArray⟩)[j]? = some v → w'.cell? ⟨w.heap.size, 0 + j, none⟩ = some v := fun j v hj => by
      simp only [World.cell?, push_new hp, Nat.zero_add]
      simp
      simpa using hj
    exact .lst _ true w.heap.size 0 _ (strs_rel _) (fun j v hj => ⟨hcell j v hj, .inr ⟨Nat.le_refl _, by rw [hp]; simp⟩⟩) (Nat.le_refl _) (fun _ => rfl) (.nil _)
theorem str_vals : ∀ (L : List (List UInt8)) {I : Nat → Nat → Prop} {μ : List (List Go.Sy.Place)} {w : World} {vs : List Value}, R I μ w true (L.map CV.str) vs → vs = L.map fun l => Value.string ⟨l.toArray⟩
  | [], _, _, _, _, h => R.none h
  | l :: L, _, _, _, _, h => by
    obtain ⟨ws, rfl, h2⟩ := R.str_cons h
    rw [str_vals L h2]; rfl
theorem join_in {L : List (List UInt8)} {t : List UInt8} {f : Bool} (hL : L.length < 1099511627776) (hl : (Go.Lib.join L t).length < 1099511627776) : ACall Tryd.prog 42 [.lst L.length (L.map .str) f, .str t] [] fun c B' => c = .str (Go.Lib.join L t) ∧ B' = [] :=
  acall_of_calls (Q := fun c => c = .str (Go.Lib.join L t)) (by kernel_rfl) fun I μ w vs ht hI hv => by
    obtain ⟨v0, ws, rfl⟩ : ∃ v0 ws, vs = v0 :: ws := by
      cases vs with
      | nil => have := hv.len; simp at this
      | cons a b => exact ⟨a, b, rfl⟩
    obtain ⟨hv1, _, hv2⟩ := hv.head
    obtain ⟨ws, rfl, hv3⟩ := R.str_cons hv2
    obtain rfl := R.none hv3
    have none_ : L = [] → ∀ A cap, v0 = .slice A 0 cap → Calls Tryd.prog 42 [v0, .string ⟨t.toArray⟩].toArray w fun e w' => ∃ c v, e = .returned v ∧ c = .str (Go.Lib.join L t) ∧ Below w.heap.size w w' ∧ V (fun b j => I b j ∨ (w.heap.size ≤ b ∧ b < w'.heap.size)) μ w' c v := fun hLL A cap hv0 => by
      subst hLL hv0
      refine (Tryd.strings_Join_none A cap ⟨t.toArray⟩ w).mono fun e w' ⟨he, hw⟩ => ?_
      subst hw
      exact ⟨_, _, he, by simp [Go.Lib.join, List.intercalate], Below.same, .str _ (.nil _)⟩
    rcases hv1.lst_inv with ⟨b, o, cap, us, h1, h, hm, hn, hf⟩ | ⟨A, h1, h2, _⟩
    · have hbs := str_vals L h
      subst hbs
      have hj : (L.map fun l => (⟨l.toArray⟩ : ByteArray)).map (·.data.toList) = L := by rw [List.map_map]; simp [Function.comp_def]
      by_cases hLL : L = []
      · exact none_ hLL _ _ (by rw [h1, hLL]; rfl)
      · subst h1
        have hbk : b < w.heap.size := by
          cases hL2 : L with
          | nil => exact absurd hL2 hLL
          | cons x xs => exact hI _ _ (hm 0 (Value.string ⟨x.toArray⟩) (by rw [hL2]; rfl)).2
        have := Tryd.strings_Join b o cap (L.map fun l => (⟨l.toArray⟩ : ByteArray)) ⟨t.toArray⟩ w (fun j y hy => by
          rw [List.getElem?_map, Option.map_eq_some_iff] at hy
          obtain ⟨l, hl, rfl⟩ := hy
          exact (hm j _ (by rw [List.getElem?_map, hl]; rfl)).1) hbk (by rw [List.length_map]; omega) (by rw [List.length_map]; exact hn) (by rw [hj]; show (Go.Lib.join L t).length ≤ _; omega)
        rw [hj, List.length_map] at this
        refine this.mono fun e w' ⟨he, hw⟩ => ?_
        exact ⟨_, _, he, rfl, hw, .str _ (.nil _)⟩
    · have hLL : L = [] := List.eq_nil_of_length_eq_zero (by first | exact h2 | omega)
      exact none_ hLL _ _ (by first | exact h1 | (rw [h1, hLL]; rfl))
theorem join_at {B : List Box} {args : List CV} {n : Nat} {L : List (List UInt8)} {t : List UInt8} {f : Bool} (hz : Is (omap (Go.Sy.fz true false B 6) args) (some [.lst n (L.map .str) f, .str t])) (hn : n = L.length) (hL : L.length < 1099511627776) (hl : (Go.Lib.join L t).length < 1099511627776) :
    ACall Tryd.prog 42 args B fun c B' => c = .str (Go.Lib.join L t) ∧ B' = B := by
  subst hn
  exact acall_fresh hz ((join_in hL hl).mono fun c B' ⟨h, _⟩ => by rw [h]; rfl)
end Go.Proofs.YtdceppjoipoohaaDoor
end
