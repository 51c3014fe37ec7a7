/- Lemmas and definitions of this claim (own texts, joined by a program; what the claim does not use is left out). -/
import Derived.Test.YtcbdghgogmcllaaGreatDoorSp10
set_option linter.all false
set_option maxRecDepth 100000
set_option maxHeartbeats 4000000
section
namespace Go.Sy
theorem acall_let0 {P : Program} {f : FuncId} {args : List CV} {B : List Box} {Q' : CV → Prop} (hm : MLow B) (h : ACall P f args B fun c B1 => ∃ (G : List Box) (c' : CV), B1 = B ++ G ∧ fz true false (List.replicate B.length ⟨[], true⟩ ++ G) 6 c = some c' ∧ Q' c') :
    ACall P f args B fun c B' => Q' c ∧ B' = B := by
  refine acall_drop h fun c B1 ⟨G, c', hB, hz, hq⟩ => ⟨c', ?_, ?_, hq, ?_⟩
  · rw [hB]
    refine ⟨by simp, fun k box hk hb => ?_⟩
    rw [List.getElem?_append_left hk] at hb
    cases hmu : box.multi with
    | true => exact .inl (hm k box hb hmu)
    | false => exact .inr ⟨hb, rfl⟩
  · rw [hB]
    have : hide B.length (B ++ G) = List.replicate B.length ⟨[], true⟩ ++ G := by
      rw [hide, List.drop_left' rfl, Nat.min_eq_left (by simp)]
    rw [this]; exact hz
  · rw [hB, List.take_left' rfl]
end Go.Sy
namespace Go.Proofs.YtcbdghgogmcllaaGreatDoor
open Go Go.Sy
theorem kE_MB0 {α : Type} {x y : α} (h : Is x y := by first | ((try simp (disch := first | omega | (simp only [yZ, yB] <;> omega) | fail) [go_sem, yY, *, bx_get0, bx_get, bx_set0, bx_set, if_pos, if_neg, -List.map_take, -List.map_drop, -List.map_append, -List.map_reverse]); exact rfl) | fail) : Is x y := h
theorem kD_MB0 {p : Prop} (h : p := by (first | omega | assumption | exact rfl | ((simp (disch := first | omega | (simp only [yZ, yB] <;> omega) | fail) [go_sem, yY, *, bx_get0, bx_get, bx_set0, bx_set, -List.map_take, -List.map_drop, -List.map_append, -List.map_reverse]) <;> (first | done | omega | exact rfl)) | fail)) : p := h
theorem kE_MB1 {α : Type} {x y : α} (h : Is x y := by first | ((try simp (disch := first | omega | (simp only [yZ, yB] <;> omega) | fail) [go_sem, yY, *, addrC, if_pos, if_neg, -List.map_take, -List.map_drop, -List.map_append, -List.map_reverse]); exact rfl) | fail) : Is x y := h
theorem kD_MB1 {p : Prop} (h : p := by (first | omega | assumption | exact rfl | ((simp (disch := first | omega | (simp only [yZ, yB] <;> omega) | fail) [go_sem, yY, *, addrC, -List.map_take, -List.map_drop, -List.map_append, -List.map_reverse]) <;> (first | done | omega | exact rfl)) | fail)) : p := h
theorem wB_MB0 {p q : Prop} (k : q) (h : Hq q → p := by (intro k; (repeat' (first | (with_reducible first | apply jA | apply jB | apply jC | apply jD | apply jE | apply jF | apply jG | apply jH | apply jI | apply jJ | apply jK | apply jL | apply jM | apply jN | apply jO) | ((with_reducible first | apply jP | apply jQ); rfl) | ((first | ((with_reducible first | apply jR | apply jS | apply jT); rfl; rfl) | (with_reducible first | apply jU | apply jV | apply jW) | ((with_reducible first | apply jX | apply jY | apply jZ); rfl) | ((with_reducible first | apply kA | apply kB | apply kC); rfl)); all_goals (first | ((with_reducible show Is _ _); exact kE_MB0) | ((with_reducible refine fun (hc : (_ : Bool) = _) => ?_); (try simp only [xZ, xY, xP, reduceCtorEq] at hc); (try (have hx : True := hc; clear hx hc)); (try exact kX)) | ((with_reducible show ACall _ _ _ _ _); (first | ((with_reducible apply c0) <;> exact kD_MB0) | ((with_reducible apply c1) <;> exact kD_MB0) | ((with_reducible apply c2) <;> exact kD_MB0) | ((with_reducible apply c3) <;> exact kD_MB0) | ((with_reducible apply c4) <;> exact kD_MB0) | ((with_reducible apply c5) <;> exact kD_MB0) | ((with_reducible apply c6) <;> exact kD_MB0) | ((with_reducible apply c7) <;> exact kD_MB0))) | ((fail_if_success (with_reducible first | show Is _ _ | show ACall _ _ _ _ _)); (try ((with_reducible show _ ∨ _); exact kT))))) | (((with_reducible first | apply o_callQ | apply q_callQ); rfl); (iterate 2 exact kE_MB0); (first | ((with_reducible apply q0) <;> exact kD_MB0))))); exact hq k)) : p := h ⟨k⟩
theorem wB_MB1 {p q : Prop} (k : q) (h : Hq q → p := by (intro k; (repeat' (first | (with_reducible first | apply jA | apply jB | apply jC | apply jD | apply jE | apply jF | apply jG | apply jH | apply jI | apply jJ | apply jK | apply jL | apply jM | apply jN | apply jO) | ((with_reducible first | apply jP | apply jQ); rfl) | ((first | ((with_reducible first | apply jR | apply jS | apply jT); rfl; rfl) | (with_reducible first | apply jU | apply jV | apply jW) | ((with_reducible first | apply jX | apply jY | apply jZ); rfl) | ((with_reducible first | apply kA | apply kB | apply kC); rfl)); all_goals (first | ((with_reducible show Is _ _); exact kE_MB1) | ((with_reducible refine fun (hc : (_ : Bool) = _) => ?_); (try simp only [xZ, xY, xP, reduceCtorEq] at hc); (try (have hx : True := hc; clear hx hc)); (try exact kX)) | ((with_reducible show ACall _ _ _ _ _); (first | ((with_reducible apply c0) <;> exact kD_MB1) | ((with_reducible apply c1) <;> exact kD_MB1) | ((with_reducible apply c2) <;> exact kD_MB1) | ((with_reducible apply c3) <;> exact kD_MB1) | ((with_reducible apply c4) <;> exact kD_MB1) | ((with_reducible apply c5) <;> exact kD_MB1) | ((with_reducible apply c6) <;> exact kD_MB1) | ((with_reducible apply c7) <;> exact kD_MB1))) | ((fail_if_success (with_reducible first | show Is _ _ | show ACall _ _ _ _ _)); (try ((with_reducible show _ ∨ _); exact kT))))) | (((with_reducible first | apply o_callQ | apply q_callQ); rfl); (iterate 2 exact kE_MB1); (first | ((with_reducible apply q0) <;> exact kD_MB1))))); exact hq k)) : p := h ⟨k⟩
theorem w_MB00 {p q : Prop}  (k : q) (h : Hq q → p := by (intro  k; exact wB_MB0 (hq k))) : p := h  ⟨k⟩
theorem w_MB01q {A0 A1 p q : Prop} (c0 : A0) (q0 : A1) (k : q) (h : A0 → A1 → Hq q → p := by (intro c0 q0 k; exact wB_MB0 (hq k))) : p := h c0 q0 ⟨k⟩
theorem w_MB02 {A0 A1 p q : Prop} (c0 : A0) (c1 : A1) (k : q) (h : A0 → A1 → Hq q → p := by (intro c0 c1 k; exact wB_MB0 (hq k))) : p := h c0 c1 ⟨k⟩
theorem w_MB03 {A0 A1 A2 p q : Prop} (c0 : A0) (c1 : A1) (c2 : A2) (k : q) (h : A0 → A1 → A2 → Hq q → p := by (intro c0 c1 c2 k; exact wB_MB0 (hq k))) : p := h c0 c1 c2 ⟨k⟩
theorem w_MB05 {A0 A1 A2 A3 A4 p q : Prop} (c0 : A0) (c1 : A1) (c2 : A2) (c3 : A3) (c4 : A4) (k : q) (h : A0 → A1 → A2 → A3 → A4 → Hq q → p := by (intro c0 c1 c2 c3 c4 k; exact wB_MB0 (hq k))) : p := h c0 c1 c2 c3 c4 ⟨k⟩
theorem w_MB18 {A0 A1 A2 A3 A4 A5 A6 A7 p q : Prop} (c0 : A0) (c1 : A1) (c2 : A2) (c3 : A3) (c4 : A4) (c5 : A5) (c6 : A6) (c7 : A7) (k : q) (h : A0 → A1 → A2 → A3 → A4 → A5 → A6 → A7 → Hq q → p := by (intro c0 c1 c2 c3 c4 c5 c6 c7 k; exact wB_MB1 (hq k))) : p := h c0 c1 c2 c3 c4 c5 c6 c7 ⟨k⟩
structure DmP (D : List CV) (now : Int) : Prop where
  len : D.length = 148
  all : D.take 148 = D
  d107 : D.drop 107 = .int .i64 now :: D.drop 108
  d108 : D.drop 108 = .nilS :: D.drop 109
theorem sessions_at {B : List Box} {args D : List CV} {now : Int} (ha : Is args [.agg D]) (hD : DmP D now) (hm : MLow B) : ACall Tryz.prog 130 args B fun c B' => c = .lst 0 [] false ∧ B' = B := by
  obtain rfl := ha
  obtain ⟨d1, d2, d3, d4⟩ := hD
  refine acall_let0 (Q' := fun c => c = .lst 0 [] false) hm ?_
  refine acall_intro mixed Tryz.func130 rfl ca130 (by kernel_rfl) (by rw [Tryz.ntmps130]; simp) ?_
  refine w_MB00 ?_ 
  refine w_loop (fun fr B1 => fr 11 = .int .i64 0 ∧ fr 10 = .int .i64 0 ∧ fr 3 = .nilS ∧ B1 = B ++ [⟨D, false⟩]) (fun fr _ => 0) ?_ ?_
  · exact ⟨kS, kS, kS, rfl⟩
  rintro fr B1 ⟨f11, f10, f3, rfl⟩
  refine w_MB00 ?_ 
  exact ⟨_, _, rfl, rfl, rfl⟩
def atA (i : Nat) : List UInt8 := [192, 0, 2, UInt8.ofNat (i + 1)] ++ z12
theorem at_in (i : Nat) (hi : i < 100) : PC Tryz.prog true 131 [.int .i64 i] (.agg (.bool false :: ((atA i).map byteC ++ [.int .i64 (1000 + i)]))) := by
  have e : byteC (UInt8.ofNat (i + 1)) = .int .u8 (IntKind.u8.wrap (i + 1)) := by rw [byte_wrap]; push_cast; rfl
  have e2 : (IntKind.u8.wrap (i + 1)) = i + 1 := by rw [IntKind.wrap_u8]; omega
  rw [e2] at e
  refine acall_intro mixed Tryz.func131 rfl ca131 (by kernel_rfl) (by rw [Tryz.ntmps131]; simp) ?_
  refine w0 ?_ 
  simp only [atA, List.map_append, List.map_cons, e]
  rfl
theorem at_at {B : List Box} {args : List CV} {i : Nat} (h : Is args [.int .i64 i]) (hi : i < 100) : ACall Tryz.prog 131 args B fun c B' => c = .agg (.bool false :: ((atA i).map byteC ++ [.int .i64 (1000 + i)])) ∧ B' = B := by
  obtain rfl := h
  exact acall_fresh (nz := true) (by simp [go_sem]) (at_in i hi)
structure EvG (e : Ev) : Prop where
  bytes : e.bytes.length ≤ 200
  text : e.text.length ≤ 200
  ip : e.ip.length = 16
  norm : Norm (evA e) ∨ ∃ n : Int, -1000 ≤ n ∧ n < 0 ∧ e = { ev0 with kind := 3, time := n }
theorem evfz {W : List Box} {cs : List CV} {v : CV} {e : Ev} (hc : cs = .int .i64 e.kind :: .bool e.six :: (e.ip.map byteC ++ [.int .i64 e.port, v, .int .i64 e.time, .str e.text])) (hv : fz true false W 5 v = some (.lst e.bytes.length (e.bytes.map byteC) false)) : fz true false W 6 (.agg cs) = some (.agg (evC e)) := by
  rw [hc, fz_agg]
  simp [evC, omap_app, omap_two, omap_nil, omap_bytes, fz_int, fz_bool, fz_str, hv]
theorem viewfz {W : List Box} {b n : Nat} {f m : Bool} {bs : List UInt8} {cells : List CV} (hW : W[b]? = some ⟨cells, m⟩) (hc : cells.take n = bs.map byteC) (hn : n = bs.length) : fz true false W 5 (.view b 0 n 1 f) = some (.lst bs.length (bs.map byteC) false) := by
  rw [fz_view, hW]
  simp only [List.drop_zero, Nat.mul_one, hc, omap_bytes, Option.map_some, Bool.not_true, Bool.and_false]
  rw [hn]
theorem lstfz {W : List Box} {n : Nat} {bs : List UInt8} (hn : n = bs.length) : fz true false W 5 (.lst n (bs.map byteC) false) = some (.lst bs.length (bs.map byteC) false) := by
  subst hn
  simp [fz_lst, omap_bytes]
theorem plain_at {B : List Box} {β : Nat} {args : List CV} {l : List UInt8} {a : Nat} (ha : Is args [.ptr β 0]) (hB : B[β]? = some (cb l a)) (hm : MLow B) (hl : a ≤ l.length ∧ l.length < 1000000) : ACall Tryz.prog 98 args B fun c B' => ∃ a', a' ≤ l.length ∧ (∃ e, EvG e ∧ c = .agg (evC e)) ∧ B' = B.set β (cb l a') := by
  obtain rfl := ha
  obtain ⟨v1, a1, hv1, ha1, h1⟩ := nx_ex l 4 4 rfl hl.1 hl.2 (by omega)
  obtain ⟨v2, a2, hv2, ha2, h2⟩ := nx_ex l 256 256 rfl ha1 hl.2 (by omega)
  obtain ⟨v3, a3, hv3, ha3, h3⟩ := nx_ex l 60 60 rfl ha2 hl.2 (by omega)
  obtain ⟨v4, a4, hv4, ha4, h4⟩ := nx_ex l 256 256 rfl ha3 hl.2 (by omega)
  obtain ⟨v5, a5, hv5, ha5, h5⟩ := nx_ex l 10 10 rfl ha4 hl.2 (by omega)
  obtain ⟨v6, a6, hv6, ha6, h6⟩ := nx_ex l (20 + v3) (20 + v3) (by push_cast; rfl) ha5 hl.2 (by omega)
  obtain ⟨v7, a7, hv7, ha7, h7⟩ := nx_ex l 256 256 rfl ha5 hl.2 (by omega)
  have hh1 : ∀ {B : List Box} {args : List CV}, Is args [.int .i64 0, .int .i64 1] → ACall Tryz.prog 129 args B fun c B' => c = addrC false (hostV 0 1 ++ z12) ∧ B' = B := hostG_at
  have hh2 : ∀ {B : List Box} {args : List CV}, Is args [.int .i64 (1 + v1), .int .i64 v2] → ACall Tryz.prog 129 args B fun c B' => c = addrC false (hostV (1 + v1) v2 ++ z12) ∧ B' = B := hostG_at
  have hfill : byteC (UInt8.ofNat v4) = .int .u8 v4 := by rw [byte_wrap, IntKind.wrap_u8]; congr 1; omega
  have hpk : ∀ {B : List Box} {args : List CV}, Is (omap (fz true false B 6) args) (some [addrC false (hostV 0 1 ++ z12), addrC false (hostV (1 + v1) v2 ++ z12), .int .i64 v3, .int .u8 v4]) → ACall Tryz.prog 128 args B fun c B' => c = .view B.length 0 (20 + v3) 1 true ∧ B' = B ++ [⟨(pkt4 (hostV 0 1) (hostV (1 + v1) v2) v3 (UInt8.ofNat v4) v3).map byteC, false⟩] := fun hz => pk_own (fill := UInt8.ofNat v4) (by rw [hfill]; exact hz) rfl rfl rfl (by omega)
  have hpl := pkt4_len (hostV 0 1) (hostV (1 + v1) v2) v3 (UInt8.ofNat v4) v3 rfl rfl (Nat.le_refl _)
  have hl1 := hl.1
  have hl2 := hl.2
  generalize pkt4 (hostV 0 1) (hostV (1 + v1) v2) v3 (UInt8.ofNat v4) v3 = pk at *
  generalize hostV 0 1 ++ z12 = A0 at *
  generalize hostV (1 + v1) v2 ++ z12 = A1 at *
  clear hfill hl
  have xb := bx_pack hB
  refine drop_cb hm ?_
  refine acall_intro mixed Tryz.func98 rfl ca98 (by kernel_rfl) (by rw [Tryz.ntmps98]; simp) ?_
  have hev : ∀ bs : List UInt8, bs.length ≤ 200 → EvG { ev0 with kind := 1, bytes := bs } := fun bs h => ⟨h, Nat.zero_le _, rfl, .inl (.plain bs)⟩
  replace hev : Hid _ := hev
  replace hm : Hid _ := hm
  have hpm : (pk.map byteC).length = 20 + v3 := by rw [List.length_map, hpl]
  by_cases h51 : v5 = 1
  · subst h51
    repeat' (first | (with_reducible first | apply jA | apply jB | apply jC | apply jD | apply jE | apply jF | apply jG | apply jH | apply jI | apply jJ | apply jK | apply jL | apply jM | apply jN | apply jO) | ((with_reducible first | apply jP | apply jQ); rfl) | ((first | ((with_reducible first | apply jR | apply jS | apply jT); rfl; rfl) | (with_reducible first | apply jU | apply jV | apply jW) | ((with_reducible first | apply jX | apply jY | apply jZ); rfl) | ((with_reducible first | apply kA | apply kB | apply kC); rfl)); all_goals (first | ((with_reducible show Is _ _); exact kE_MB1) | ((with_reducible refine fun (hc : (_ : Bool) = _) => ?_); (try simp only [xZ, xY, xP, reduceCtorEq] at hc); (try (have hx : True := hc; clear hx hc)); (try exact kX)) | ((with_reducible show ACall _ _ _ _ _); (first | ((with_reducible apply h1) <;> exact kD_MB1) | ((with_reducible apply h2) <;> exact kD_MB1) | ((with_reducible apply h3) <;> exact kD_MB1) | ((with_reducible apply h4) <;> exact kD_MB1) | ((with_reducible apply h5) <;> exact kD_MB1) | ((with_reducible apply h6) <;> exact kD_MB1) | ((with_reducible apply hh1) <;> exact kD_MB1) | ((with_reducible apply hh2) <;> exact kD_MB1) | ((with_reducible apply hpk) <;> exact kD_MB1))) | ((fail_if_success (with_reducible first | show Is _ _ | show ACall _ _ _ _ _)); (try ((with_reducible show _ ∨ _); exact kT))))))
    have hev := (show ∀ bs : List UInt8, bs.length ≤ 200 → EvG { ev0 with kind := 1, bytes := bs } from hev)
    refine ⟨a6, _, .agg (evC { ev0 with kind := 1, bytes := pk.take v6 }), ha6, rfl, evfz rfl ?_, _, hev _ (by rw [List.length_take]; omega), rfl⟩
    exact viewfz (by rw [fzl_get]; rfl) (by rw [List.map_take]) (by rw [List.length_take]; omega)
  by_cases h52 : v5 = 2
  · subst h52
    repeat' (first | (with_reducible first | apply jA | apply jB | apply jC | apply jD | apply jE | apply jF | apply jG | apply jH | apply jI | apply jJ | apply jK | apply jL | apply jM | apply jN | apply jO) | ((with_reducible first | apply jP | apply jQ); rfl) | ((first | ((with_reducible first | apply jR | apply jS | apply jT); rfl; rfl) | (with_reducible first | apply jU | apply jV | apply jW) | ((with_reducible first | apply jX | apply jY | apply jZ); rfl) | ((with_reducible first | apply kA | apply kB | apply kC); rfl)); all_goals (first | ((with_reducible show Is _ _); exact kE_MB1) | ((with_reducible refine fun (hc : (_ : Bool) = _) => ?_); (try simp only [xZ, xY, xP, reduceCtorEq] at hc); (try (have hx : True := hc; clear hx hc)); (try exact kX)) | ((with_reducible show ACall _ _ _ _ _); (first | ((with_reducible apply h1) <;> exact kD_MB1) | ((with_reducible apply h2) <;> exact kD_MB1) | ((with_reducible apply h3) <;> exact kD_MB1) | ((with_reducible apply h4) <;> exact kD_MB1) | ((with_reducible apply h5) <;> exact kD_MB1) | ((with_reducible apply h7) <;> exact kD_MB1) | ((with_reducible apply hh1) <;> exact kD_MB1) | ((with_reducible apply hh2) <;> exact kD_MB1) | ((with_reducible apply hpk) <;> exact kD_MB1))) | ((fail_if_success (with_reducible first | show Is _ _ | show ACall _ _ _ _ _)); (try ((with_reducible show _ ∨ _); exact kT))))))
    have hev := (show ∀ bs : List UInt8, bs.length ≤ 200 → EvG { ev0 with kind := 1, bytes := bs } from hev)
    have hb7 : byteC (UInt8.ofNat v7) = .int .u8 v7 := by rw [byte_wrap, IntKind.wrap_u8]; congr 1; omega
    have hbl : (UInt8.ofNat v7 :: pk.tail).length = 20 + v3 := by rw [List.length_cons, List.length_tail]; omega
    refine ⟨a7, _, .agg (evC { ev0 with kind := 1, bytes := UInt8.ofNat v7 :: pk.tail }), ha7, rfl, evfz rfl ?_, _, hev _ (by omega), rfl⟩
    exact viewfz (by rw [fzl_get]; rfl) (by rw [List.map_cons, hb7, List.map_tail, List.take_of_length_le (by rw [List.length_cons, List.length_tail]; omega)]) hbl.symm
  · have e1 : ((v5 : Int) == 1) = false := by simpa using (by omega : (v5 : Int) ≠ 1)
    have e2 : ((v5 : Int) == 2) = false := by simpa using (by omega : (v5 : Int) ≠ 2)
    refine w_MB18 @h1 @h2 @h3 @h4 @h5 @hh1 @hh2 @hpk ?_ 
    have hev := (show ∀ bs : List UInt8, bs.length ≤ 200 → EvG { ev0 with kind := 1, bytes := bs } from hev)
    refine ⟨a5, _, .agg (evC { ev0 with kind := 1, bytes := pk }), ha5, rfl, evfz rfl ?_, _, hev _ (by omega), rfl⟩
    exact viewfz (by rw [fzl_get]; rfl) (List.take_of_length_le (by show (pk.map byteC).length ≤ _; omega)) hpl.symm
theorem datagram_at {B : List Box} {β : Nat} {args D : List CV} {now : Int} {l : List UInt8} {a : Nat} (ha : Is args [.ptr β 0, .agg D]) (hD : DmP D now) (hB : B[β]? = some (cb l a)) (hm : MLow B) (hl : a ≤ l.length ∧ l.length < 1000000) : ACall Tryz.prog 99 args B fun c B' => ∃ a', a' ≤ l.length ∧ (∃ e, EvG e ∧ c = .agg (evC e)) ∧ B' = B.set β (cb l a') := by
  obtain rfl := ha
  obtain ⟨v1, a1, hv1, ha1, h1⟩ := nx_ex l 4 4 rfl hl.1 hl.2 (by omega)
  obtain ⟨v2, a2, hv2, ha2, h2⟩ := nx_ex l 20 20 rfl ha1 hl.2 (by omega)
  obtain ⟨K, a3, hK, ha3, h3⟩ := by_ex l (32 + v2) (32 + v2) (by push_cast; rfl) ha2 hl.2 (by omega)
  have hs : ∀ {B : List Box} {args : List CV}, Is args [.agg D] → MLow B → ACall Tryz.prog 130 args B fun c B' => c = .lst 0 [] false ∧ B' = B := fun h hm => sessions_at h hD hm
  have hat : ∀ {B : List Box} {args : List CV}, Is args [.int .i64 v1] → ACall Tryz.prog 131 args B fun c B' => c = .agg (.bool false :: ((atA v1).map byteC ++ [.int .i64 (1000 + v1)])) ∧ B' = B := fun h => at_at h (by omega)
  have hm2 : ∀ (b c : Box), b.multi = false → c.multi = false → MLow (B ++ [b, c]) := fun b c hb hc => mlow_app hm (by simp [hb, hc])
  have hm3 : ∀ (n : Nat) (b c d : Box), b.multi = false → c.multi = false → d.multi = false → MLow (B.set β (cb l n) ++ [b, c, d]) := fun n b c d hb hc hd => mlow_app (mlow_set hm (by simp [cb])) (by simp [hb, hc, hd])
  have hev : Hid (∀ bs : List UInt8, bs.length ≤ 200 → EvG { ev0 with kind := 2, six := false, ip := atA v1, port := (1000 + v1 : Nat), bytes := bs }) := fun bs h => ⟨h, Nat.zero_le _, rfl, .inl (.dgram false (atA v1) (1000 + v1) bs rfl rfl (by omega) (by omega))⟩
  have hal : (atA v1).length = 16 := rfl
  obtain ⟨d1, d2, d3, d4⟩ := hD
  have hl1 := hl.1
  have hl2 := hl.2
  generalize atA v1 = A at *
  clear hl
  have xb := bx_pack hB
  refine drop_cb hm ?_
  refine acall_intro mixed Tryz.func99 rfl ca99 (by kernel_rfl) (by rw [Tryz.ntmps99]; simp) ?_
  replace hm : Hid _ := hm
  refine w_MB05 @h1 @h2 @h3 @hs @hat ?_ 
  have hev := (show ∀ bs : List UInt8, bs.length ≤ 200 → EvG { ev0 with kind := 2, six := false, ip := A, port := (1000 + v1 : Nat), bytes := bs } from hev)
  refine ⟨a3, _, .agg (evC { ev0 with kind := 2, six := false, ip := A, port := (1000 + v1 : Nat), bytes := K }), ha3, rfl, evfz ?_ (lstfz hK.symm), _, hev _ (by omega), rfl⟩
  simp [ev0]
theorem event_at {B : List Box} {β : Nat} {args D : List CV} {now : Int} {l : List UInt8} {a : Nat} (ha : Is args [.ptr β 0, .agg D]) (hD : DmP D now) (hn : 0 ≤ now ∧ now ≤ 1048576) (hB : B[β]? = some (cb l a)) (hm : MLow B) (hl : a ≤ l.length ∧ l.length < 1000000) : ACall Tryz.prog 57 args B fun c B' => ∃ a', a' ≤ l.length ∧ (∃ e, EvG e ∧ c = .agg (evC e)) ∧ B' = B.set β (cb l a') := by
  obtain rfl := ha
  obtain ⟨v1, a1, hv1, ha1, h1⟩ := nx_ex l 8 8 rfl hl.1 hl.2 (by omega)
  obtain ⟨d1, d2, d3, d4⟩ := id hD
  obtain ⟨hn1, hn2⟩ := hn
  have hl1 := hl.1
  have hl2 := hl.2
  have hB1 : (B.set β (cb l a1) ++ [(⟨D, false⟩ : Box), ⟨zE, false⟩])[β]? = some (cb l a1) := (bx_pack hB).2.2.2.1 _ _
  have hm1 : MLow (B.set β (cb l a1) ++ [(⟨D, false⟩ : Box), ⟨zE, false⟩]) := mlow_app (mlow_set hm (by simp [cb])) (by simp)
  have hpl : ∀ {args : List CV}, Is args [.ptr β 0] → ACall Tryz.prog 98 args (B.set β (cb l a1) ++ [(⟨D, false⟩ : Box), ⟨zE, false⟩]) fun c B' => ∃ a', a' ≤ l.length ∧ (∃ e, EvG e ∧ c = .agg (evC e)) ∧ B' = (B.set β (cb l a1) ++ [(⟨D, false⟩ : Box), ⟨zE, false⟩]).set β (cb l a') := fun h => plain_at h hB1 hm1 ⟨ha1, hl2⟩
  have hdg : ∀ {args : List CV}, Is args [.ptr β 0, .agg D] → ACall Tryz.prog 99 args (B.set β (cb l a1) ++ [(⟨D, false⟩ : Box), ⟨zE, false⟩]) fun c B' => ∃ a', a' ≤ l.length ∧ (∃ e, EvG e ∧ c = .agg (evC e)) ∧ B' = (B.set β (cb l a1) ++ [(⟨D, false⟩ : Box), ⟨zE, false⟩]).set β (cb l a') := fun h => datagram_at h hD hB1 hm1 ⟨ha1, hl2⟩
  have xb := bx_pack hB
  refine drop_cb hm ?_
  replace hm : Hid _ := hm
  replace hm1 : Hid _ := hm1
  replace hB1 : Hid _ := hB1
  clear hl
  rw [zE] at hpl hdg
  refine acall_intro mixed Tryz.func57 rfl ca57 (by kernel_rfl) (by rw [Tryz.ntmps57]; simp) ?_
  have hv : v1 = 0 ∨ v1 = 1 ∨ v1 = 2 ∨ v1 = 3 ∨ v1 = 4 ∨ v1 = 5 ∨ v1 = 6 ∨ v1 = 7 := by omega
  replace hD : Hid _ := hD
  clear hv1
  rcases hv with rfl | rfl | rfl | rfl | rfl | rfl | rfl | rfl
  ·
    clear hdg
    refine w_MB01q @h1 @hpl ?_ 
    rintro _ _ ⟨a', ha', ⟨e, he, rfl⟩, rfl⟩
    have hEl := evC_len he.ip
    have hEt : (evC e).take 22 = evC e := List.take_of_length_le (by omega)
    have hEo : ∀ W : List Box, fz true false W 6 (.agg (evC e)) = some (.agg (evC e)) := fun W => by rw [fz_agg, evC_om]; rfl
    replace hEo : Hid _ := hEo
    have hfin : Hid (∃ e', EvG e' ∧ CV.agg (evC e) = .agg (evC e')) := ⟨e, he, rfl⟩
    clear he
    generalize evC e = E at *
    refine w_MB00 ?_ 
    exact ⟨a', _, _, ha', rfl, (show ∀ W : List Box, fz true false W 6 (.agg E) = some (.agg E) from hEo) _, hfin⟩
  ·
    clear hdg
    refine w_MB01q @h1 @hpl ?_ 
    rintro _ _ ⟨a', ha', ⟨e, he, rfl⟩, rfl⟩
    have hEl := evC_len he.ip
    have hEt : (evC e).take 22 = evC e := List.take_of_length_le (by omega)
    have hEo : ∀ W : List Box, fz true false W 6 (.agg (evC e)) = some (.agg (evC e)) := fun W => by rw [fz_agg, evC_om]; rfl
    replace hEo : Hid _ := hEo
    have hfin : Hid (∃ e', EvG e' ∧ CV.agg (evC e) = .agg (evC e')) := ⟨e, he, rfl⟩
    clear he
    generalize evC e = E at *
    refine w_MB00 ?_ 
    exact ⟨a', _, _, ha', rfl, (show ∀ W : List Box, fz true false W 6 (.agg E) = some (.agg E) from hEo) _, hfin⟩
  ·
    clear hpl
    refine w_MB01q @h1 @hdg ?_ 
    rintro _ _ ⟨a', ha', ⟨e, he, rfl⟩, rfl⟩
    have hEl := evC_len he.ip
    have hEt : (evC e).take 22 = evC e := List.take_of_length_le (by omega)
    have hEo : ∀ W : List Box, fz true false W 6 (.agg (evC e)) = some (.agg (evC e)) := fun W => by rw [fz_agg, evC_om]; rfl
    replace hEo : Hid _ := hEo
    have hfin : Hid (∃ e', EvG e' ∧ CV.agg (evC e) = .agg (evC e')) := ⟨e, he, rfl⟩
    clear he
    generalize evC e = E at *
    refine w_MB00 ?_ 
    exact ⟨a', _, _, ha', rfl, (show ∀ W : List Box, fz true false W 6 (.agg E) = some (.agg E) from hEo) _, hfin⟩
  ·
    clear hpl
    refine w_MB01q @h1 @hdg ?_ 
    rintro _ _ ⟨a', ha', ⟨e, he, rfl⟩, rfl⟩
    have hEl := evC_len he.ip
    have hEt : (evC e).take 22 = evC e := List.take_of_length_le (by omega)
    have hEo : ∀ W : List Box, fz true false W 6 (.agg (evC e)) = some (.agg (evC e)) := fun W => by rw [fz_agg, evC_om]; rfl
    replace hEo : Hid _ := hEo
    have hfin : Hid (∃ e', EvG e' ∧ CV.agg (evC e) = .agg (evC e')) := ⟨e, he, rfl⟩
    clear he
    generalize evC e = E at *
    refine w_MB00 ?_ 
    exact ⟨a', _, _, ha', rfl, (show ∀ W : List Box, fz true false W 6 (.agg E) = some (.agg E) from hEo) _, hfin⟩
  ·
    clear hpl
    refine w_MB01q @h1 @hdg ?_ 
    rintro _ _ ⟨a', ha', ⟨e, he, rfl⟩, rfl⟩
    have hEl := evC_len he.ip
    have hEt : (evC e).take 22 = evC e := List.take_of_length_le (by omega)
    have hEo : ∀ W : List Box, fz true false W 6 (.agg (evC e)) = some (.agg (evC e)) := fun W => by rw [fz_agg, evC_om]; rfl
    replace hEo : Hid _ := hEo
    have hfin : Hid (∃ e', EvG e' ∧ CV.agg (evC e) = .agg (evC e')) := ⟨e, he, rfl⟩
    clear he
    generalize evC e = E at *
    refine w_MB00 ?_ 
    exact ⟨a', _, _, ha', rfl, (show ∀ W : List Box, fz true false W 6 (.agg E) = some (.agg E) from hEo) _, hfin⟩
  · clear hpl hdg
    obtain ⟨v2, a2, hv2, ha2, h2⟩ := nx_ex l 256 256 rfl ha1 hl2 (by omega)
    obtain ⟨v3, a3, hv3, ha3, h3⟩ := nx_ex l 2 2 rfl ha2 hl2 (by omega)
    repeat' (first | (with_reducible first | apply jA | apply jB | apply jC | apply jD | apply jE | apply jF | apply jG | apply jH | apply jI | apply jJ | apply jK | apply jL | apply jM | apply jN | apply jO) | ((with_reducible apply jP); rfl) | ((first | ((with_reducible first | apply jR | apply jS | apply jT); rfl; rfl) | (with_reducible first | apply jU | apply jV | apply jW) | ((with_reducible first | apply jX | apply jY | apply jZ); rfl) | ((with_reducible first | apply kA | apply kB | apply kC); rfl)); all_goals (first | ((with_reducible show Is _ _); exact kE_MB0) | ((with_reducible refine fun (hc : (_ : Bool) = _) => ?_); (try simp only [xZ, xY, xP, reduceCtorEq] at hc); (try (have hx : True := hc; clear hx hc)); (try exact kX)) | ((with_reducible show ACall _ _ _ _ _); (first | ((with_reducible apply h1) <;> exact kD_MB0) | ((with_reducible apply h2) <;> exact kD_MB0) | ((with_reducible apply h3) <;> exact kD_MB0))) | ((fail_if_success (with_reducible first | show Is _ _ | show ACall _ _ _ _ _)); (try ((with_reducible show _ ∨ _); exact kT))))))
    refine w_drawJ [1] [⟨[], false⟩] (fun B' => B'[B.length]? = some ⟨D, false⟩) rfl (by simp (disch := first | omega | (simp only [yZ, yB] <;> omega) | fail) [go_sem, yY, *, -List.map_take, -List.map_drop, -List.map_append, -List.map_reverse]; exact rfl) (by simp (disch := first | omega | (simp only [yZ, yB] <;> omega) | fail) [go_sem, yY, *, -List.map_take, -List.map_drop, -List.map_append, -List.map_reverse]) ?_
    repeat' (first | (with_reducible first | apply jA | apply jB | apply jC | apply jD | apply jE | apply jF | apply jG | apply jH | apply jI | apply jJ | apply jK | apply jL | apply jM | apply jN | apply jO) | ((with_reducible apply jP); rfl) | ((first | ((with_reducible first | apply d_made | apply q_made); rfl; rfl)); (iterate 6 exact kE_MB0)) | ((first | ((with_reducible first | apply d_fop | apply q_fop); rfl; rfl)); (intro Bx hJ; (first | (obtain ⟨_, hJ1, hJ2⟩ := hJ) | (try simp only at hJ)); exact kE_MB0)) | ((with_reducible first | apply d_free | apply q_free); rfl; (iterate 2 exact kE_MB0); (intro Bx hJ); (first | ((with_reducible apply h1) <;> exact kD_MB0) | ((with_reducible apply h2) <;> exact kD_MB0) | ((with_reducible apply h3) <;> exact kD_MB0))) | ((first | ((with_reducible first | apply jR | apply jS | apply jT); rfl; rfl) | (with_reducible first | apply jU | apply jV | apply jW) | ((with_reducible first | apply jX | apply jY | apply jZ); rfl) | ((with_reducible first | apply kA | apply kB | apply kC); rfl)); all_goals (first | ((with_reducible show Is _ _); exact kE_MB0) | ((with_reducible refine fun (hc : (_ : Bool) = _) => ?_); (try simp only [xZ, xY, xP, reduceCtorEq] at hc); (try (have hx : True := hc; clear hx hc)); (try exact kX)) | ((with_reducible show ACall _ _ _ _ _); (first | ((with_reducible apply h1) <;> exact kD_MB0) | ((with_reducible apply h2) <;> exact kD_MB0) | ((with_reducible apply h3) <;> exact kD_MB0))) | ((fail_if_success (with_reducible first | show Is _ _ | show ACall _ _ _ _ _)); (try ((with_reducible show _ ∨ _); first | exact .inl rfl | (refine .inr ⟨rfl, ?_, ?_⟩; (focus (repeat (first | exact trivial | refine ⟨.inl rfl, ?_⟩ | refine ⟨.inr rfl, ?_⟩ | refine ⟨.inr (by (simp (disch := first | omega | (simp only [yZ, yB] <;> omega) | fail) [go_sem, yY, *, bx_get0, bx_get, bx_set0, bx_set, -List.map_take, -List.map_drop, -List.map_append, -List.map_reverse])), ?_⟩))); (first | exact trivial | exact rfl | (refine ⟨_, ?_, ?_⟩; (focus (simp (disch := first | omega | (simp only [yZ, yB] <;> omega) | fail) [go_sem, yY, *, bx_get0, bx_get, bx_set0, bx_set, -List.map_take, -List.map_drop, -List.map_append, -List.map_reverse]; (try exact rfl))); (simp (disch := first | omega | (simp only [yZ, yB] <;> omega) | fail) [go_sem, yY, *, bx_get0, bx_get, bx_set0, bx_set, -List.map_take, -List.map_drop, -List.map_append, -List.map_reverse])) | (simp (disch := first | omega | (simp only [yZ, yB] <;> omega) | fail) [go_sem, yY, *, bx_get0, bx_get, bx_set0, bx_set, -List.map_take, -List.map_drop, -List.map_append, -List.map_reverse]))) | exact .inl (by (simp (disch := first | omega | (simp only [yZ, yB] <;> omega) | fail) [go_sem, yY, *, bx_get0, bx_get, bx_set0, bx_set, -List.map_take, -List.map_drop, -List.map_append, -List.map_reverse]))))))))
    refine ⟨a3, _, .agg (evC { ev0 with kind := 3, time := now + v2 * 10 - v3 * 300 }), ha3, rfl, evfz rfl rfl, _, ⟨Nat.zero_le _, Nat.zero_le _, rfl, ?_⟩, rfl⟩
    by_cases h0 : 0 ≤ now + v2 * 10 - v3 * 300
    · exact .inl (.tick _ h0 (by omega))
    · exact .inr ⟨_, by omega, by omega, rfl⟩
  · clear hpl hdg
    obtain ⟨v2, a2, hv2, ha2, h2⟩ := nx_ex l 40 40 rfl ha1 hl2 (by omega)
    obtain ⟨K, a3, hK, ha3, h3⟩ := by_ex l v2 v2 rfl ha2 hl2 (by omega)
    have hm3 : ∀ (n : Nat) (b c : Box), b.multi = false → c.multi = false → MLow (B.set β (cb l n) ++ [b, c]) := fun n b c hb hc => mlow_app (mlow_set (show MLow B from hm) (by simp [cb])) (by simp [hb, hc])
    refine w_MB03 @h1 @h2 @h3 ?_ 
    exact ⟨a3, _, .agg (evC { ev0 with kind := 4, bytes := K }), ha3, rfl, evfz rfl (lstfz hK.symm), _, ⟨by show K.length ≤ 200; omega, Nat.zero_le _, rfl, .inl (.entropy K)⟩, rfl⟩
  · clear hpl hdg
    obtain ⟨v2, a2, hv2, ha2, h2⟩ := nx_ex l 4 4 rfl ha1 hl2 (by omega)
    have hv : v2 = 0 ∨ v2 = 1 ∨ v2 = 2 ∨ v2 = 3 := by omega
    clear hv2
    rcases hv with rfl | rfl | rfl | rfl
    · refine w_MB02 @h1 @h2 ?_ 
      exact ⟨a2, _, .agg (evC { ev0 with kind := 5, text := [98, 97, 100] }), ha2, rfl, evfz rfl rfl, _, ⟨Nat.zero_le _, by decide, rfl, .inl (.control _ (by decide))⟩, rfl⟩
    · refine w_MB02 @h1 @h2 ?_ 
      exact ⟨a2, _, .agg (evC { ev0 with kind := 5, text := [100, 101, 110, 121, 32, 49, 48, 46, 49, 46, 48, 46, 48, 47, 49, 54] }), ha2, rfl, evfz rfl rfl, _, ⟨Nat.zero_le _, by decide, rfl, .inl (.control _ (by decide))⟩, rfl⟩
    · refine w_MB02 @h1 @h2 ?_ 
      exact ⟨a2, _, .agg (evC { ev0 with kind := 5, text := [103, 101, 116] }), ha2, rfl, evfz rfl rfl, _, ⟨Nat.zero_le _, by decide, rfl, .inl (.control _ (by decide))⟩, rfl⟩
    · refine w_MB02 @h1 @h2 ?_ 
      exact ⟨a2, _, .agg (evC { ev0 with kind := 5, text := [110, 111, 116, 104, 105, 110, 103] }), ha2, rfl, evfz rfl rfl, _, ⟨Nat.zero_le _, by decide, rfl, .inl (.control _ (by decide))⟩, rfl⟩
end Go.Proofs.YtcbdghgogmcllaaGreatDoor
end
section
namespace Go.Sy
theorem w_cut {P : Program} {n : Nat} {a rest : Code} {Q : Exit → Fr → List Box → Prop} {fr : Fr} {B : List Box} (I : Fr → List Box → Prop) (h1 : WPc P n a (thenC I Q) fr B) (h2 : ∀ fr B, I fr B → WPc P n rest Q fr B) : WPc P n (.seq a rest) Q fr B := by
  have key : ∀ {K K' : Fr → List Box → Prop} (_ : ∀ fr B, K fr B → K' fr B) (e : Exit) (fr : Fr) (B : List Box), thenC K Q e fr B → thenC K' Q e fr B := fun hk e fr B h => by
    cases e with
    | normal => exact hk _ _ h
    | _ => exact h
  exact WPc_mono a (key h2) fr B h1
end Go.Sy
namespace Go.Proofs.YtcbdghgogmcllaaGreatDoor
open Go Go.Sy
theorem kE_MC0 {α : Type} {x y : α} (h : Is x y := by first | ((try simp (disch := first | omega | (simp only [yZ, yB] <;> omega) | fail) [go_sem, yY, *, bx_get0, bx_get, bx_set0, bx_set, if_pos, if_neg, -List.map_take, -List.map_drop, -List.map_append, -List.map_reverse]); exact rfl) | fail) : Is x y := h
theorem kD_MC0 {p : Prop} (h : p := by (first | omega | assumption | exact rfl | ((simp (disch := first | omega | (simp only [yZ, yB] <;> omega) | fail) [go_sem, yY, *, bx_get0, bx_get, bx_set0, bx_set, -List.map_take, -List.map_drop, -List.map_append, -List.map_reverse]) <;> (first | done | omega | exact rfl)) | fail)) : p := h
theorem wB_MC0 {p q : Prop} (k : q) (h : Hq q → p := by (intro k; (repeat' (first | (with_reducible first | apply jA | apply jB | apply jC | apply jD | apply jE | apply jF | apply jG | apply jH | apply jI | apply jJ | apply jK | apply jL | apply jM | apply jN | apply jO) | ((with_reducible first | apply jP | apply jQ); rfl) | ((first | ((with_reducible first | apply jR | apply jS | apply jT); rfl; rfl) | (with_reducible first | apply jU | apply jV | apply jW) | ((with_reducible first | apply jX | apply jY | apply jZ); rfl) | ((with_reducible first | apply kA | apply kB | apply kC); rfl)); all_goals (first | ((with_reducible show Is _ _); exact kE_MC0) | ((with_reducible refine fun (hc : (_ : Bool) = _) => ?_); (try simp only [xZ, xY, xP, reduceCtorEq] at hc); (try (have hx : True := hc; clear hx hc)); (try exact kX)) | ((with_reducible show ACall _ _ _ _ _); (first | ((with_reducible apply c0) <;> exact kD_MC0) | ((with_reducible apply c1) <;> exact kD_MC0) | ((with_reducible apply c2) <;> exact kD_MC0) | ((with_reducible apply c3) <;> exact kD_MC0) | ((with_reducible apply c4) <;> exact kD_MC0) | ((with_reducible apply c5) <;> exact kD_MC0) | ((with_reducible apply c6) <;> exact kD_MC0) | ((with_reducible apply c7) <;> exact kD_MC0))) | ((fail_if_success (with_reducible first | show Is _ _ | show ACall _ _ _ _ _)); (try ((with_reducible show _ ∨ _); exact kT))))) | (((with_reducible first | apply o_callQ | apply q_callQ); rfl); (iterate 2 exact kE_MC0); (first | ((with_reducible apply q0) <;> exact kD_MC0))))); exact hq k)) : p := h ⟨k⟩
theorem w_MC00 {p q : Prop}  (k : q) (h : Hq q → p := by (intro  k; exact wB_MC0 (hq k))) : p := h  ⟨k⟩
theorem w_MC01 {A0 p q : Prop} (c0 : A0) (k : q) (h : A0 → Hq q → p := by (intro c0 k; exact wB_MC0 (hq k))) : p := h c0 ⟨k⟩
theorem w_MC01q {A0 A1 p q : Prop} (c0 : A0) (q0 : A1) (k : q) (h : A0 → A1 → Hq q → p := by (intro c0 q0 k; exact wB_MC0 (hq k))) : p := h c0 q0 ⟨k⟩
theorem w_MC02 {A0 A1 p q : Prop} (c0 : A0) (c1 : A1) (k : q) (h : A0 → A1 → Hq q → p := by (intro c0 c1 k; exact wB_MC0 (hq k))) : p := h c0 c1 ⟨k⟩
theorem w_MC03 {A0 A1 A2 p q : Prop} (c0 : A0) (c1 : A1) (c2 : A2) (k : q) (h : A0 → A1 → A2 → Hq q → p := by (intro c0 c1 c2 k; exact wB_MC0 (hq k))) : p := h c0 c1 c2 ⟨k⟩
theorem w_MC04 {A0 A1 A2 A3 p q : Prop} (c0 : A0) (c1 : A1) (c2 : A2) (c3 : A3) (k : q) (h : A0 → A1 → A2 → A3 → Hq q → p := by (intro c0 c1 c2 c3 k; exact wB_MC0 (hq k))) : p := h c0 c1 c2 c3 ⟨k⟩
theorem w_MC05 {A0 A1 A2 A3 A4 p q : Prop} (c0 : A0) (c1 : A1) (c2 : A2) (c3 : A3) (c4 : A4) (k : q) (h : A0 → A1 → A2 → A3 → A4 → Hq q → p := by (intro c0 c1 c2 c3 c4 k; exact wB_MC0 (hq k))) : p := h c0 c1 c2 c3 c4 ⟨k⟩
def zAc : List CV := .int .i64 0 :: (zE ++ (.int .i64 0 :: .int .i64 0 :: .int .u8 0 :: .int .i64 0 :: .int .i64 0 :: z32.map byteC))
theorem minput_in (e : Ev) (h : e.ip.length = 16) : PC Tryz.prog false 56 [.agg (evC e)] (.agg (acC (evA e))) := by
  have hl := evC_len h
  have ho : ∀ {nz : Bool} {B : List Box} {k : Nat}, omap (Go.Sy.fz nz false B (k + 3)) (evC e) = some (evC e) := evC_om
  have ht : (evC e).take 22 = evC e := List.take_of_length_le (by omega)
  rw [evA_cells]
  generalize evC e = X at *
  clear h
  refine acall_intro mixed Tryz.func56 rfl ca56 (by kernel_rfl) (by rw [Tryz.ntmps56]; simp) ?_
  refine w0 ?_ 
  simp [go_sem, ho, z32]
  rfl
theorem minput_at {B : List Box} {args : List CV} {e : Ev} (hz : Is args [.agg (evC e)]) (h : e.ip.length = 16) : ACall Tryz.prog 56 args B fun c B' => c = .agg (acC (evA e)) ∧ B' = B := by
  obtain rfl := hz
  exact acall_imm (nz := true) (by rw [omap_two, fz_agg, evC_om]; rfl) (minput_in e h)
theorem pick_in (w n : Int) : PC Tryz.prog true 60 [.int .i64 w, .int .i64 n] (.agg (acC { act0 with kind := 3, who := w, n := n })) := by
  refine acall_intro mixed Tryz.func60 rfl ca60 (by kernel_rfl) (by rw [Tryz.ntmps60]; simp) ?_
  refine w0 ?_ 
  rfl
theorem pick_at {B : List Box} {args : List CV} {w n : Int} (hz : Is args [.int .i64 w, .int .i64 n]) : ACall Tryz.prog 60 args B fun c B' => c = .agg (acC { act0 with kind := 3, who := w, n := n }) ∧ B' = B := by
  obtain rfl := hz
  exact acall_fresh (nz := true) (by simp [go_sem]) (pick_in w n)
theorem handoff_in (lo hi : Int) (k : List UInt8) (hk : k.length = 32) : PC Tryz.prog true 58 [.int .i64 lo, .int .i64 hi, .agg (k.map byteC)] (.agg (acC { act0 with kind := 2, lo := lo, hi := hi, key := k })) := by
  refine acall_intro mixed Tryz.func58 rfl ca58 (by kernel_rfl) (by rw [Tryz.ntmps58]; simp) ?_
  have hkl : (k.map byteC).length = 32 := by simp [hk]
  have hkt : (k.map byteC).take 32 = k.map byteC := List.take_of_length_le (by omega)
  refine w0 ?_ 
  simp [go_sem, acC, evC, act0, ev0, z16, omap_app, omap_bytes]
  rfl
theorem handoff_at {B : List Box} {args : List CV} {lo hi : Int} {k : List UInt8} (hz : Is args [.int .i64 lo, .int .i64 hi, .agg (k.map byteC)]) (hk : k.length = 32) : ACall Tryz.prog 58 args B fun c B' => c = .agg (acC { act0 with kind := 2, lo := lo, hi := hi, key := k }) ∧ B' = B := by
  obtain rfl := hz
  exact acall_fresh (nz := true) (by simp [go_sem, omap_bytes]) (handoff_in lo hi k hk)
structure AcG (a : Ac) : Prop where
  bytes : a.ev.bytes.length ≤ 200
  text : a.ev.text.length ≤ 200
  ip : a.ev.ip.length = 16
  key : a.key.length = 32
  norm : Norm a ∨ ∃ n : Int, -1000 ≤ n ∧ n < 0 ∧ a = evA { ev0 with kind := 3, time := n }
theorem ac_fz {a : Ac} (W : List Box) : fz true false W 6 (.agg (acC a)) = some (.agg (acC a)) := by rw [fz_agg, acC_om]; rfl
theorem ac_end {B : List Box} {β : Nat} {l : List UInt8} {a' : Nat} {G : List Box} {ac : Ac} {c : CV} {W : List Box} (ha' : a' ≤ l.length) (hW : W = B.set β (cb l a') ++ G) (hc : c = .agg (acC ac)) (h : AcG ac) :
    ∃ (a : Nat) (G : List Box) (c' : CV), a ≤ l.length ∧ W = B.set β (cb l a) ++ G ∧ fz true false (List.replicate B.length ⟨[], true⟩ ++ G) 6 c = some c' ∧ ∃ ac, AcG ac ∧ c' = .agg (acC ac) :=
  ⟨a', G, .agg (acC ac), ha', hW, by rw [hc]; exact ac_fz _, ac, h, rfl⟩
theorem ac_end2 {B : List Box} {β : Nat} {l : List UInt8} {a' : Nat} {G : List Box} {ac : Ac} {c : CV} {W : List Box} (ha' : a' ≤ l.length) (hW : W = B.set β (cb l a') ++ G) (hc : ∀ W : List Box, fz true false W 6 c = some (.agg (acC ac))) (h : AcG ac) :
    ∃ (a : Nat) (G : List Box) (c' : CV), a ≤ l.length ∧ W = B.set β (cb l a) ++ G ∧ fz true false (List.replicate B.length ⟨[], true⟩ ++ G) 6 c = some c' ∧ ∃ ac, AcG ac ∧ c' = .agg (acC ac) :=
  ⟨a', G, .agg (acC ac), ha', hW, hc _, ac, h, rfl⟩
theorem acG_of {a : Ac} (h : Norm a) (h1 : a.ev = ev0) (h2 : a.key.length = 32) : AcG a := ⟨by rw [h1]; exact Nat.zero_le _, by rw [h1]; exact Nat.zero_le _, by rw [h1]; rfl, h2, .inl h⟩
theorem action_at {B : List Box} {β : Nat} {args D : List CV} {now : Int} {l : List UInt8} {a : Nat} (ha : Is args [.ptr β 0, .agg D, .bool false]) (hD : DmP D now) (hn : 0 ≤ now ∧ now ≤ 1048576) (hB : B[β]? = some (cb l a)) (hm : MLow B) (hl : a ≤ l.length ∧ l.length < 1000000) : ACall Tryz.prog 39 args B fun c B' => ∃ a', a' ≤ l.length ∧ (∃ ac, AcG ac ∧ c = .agg (acC ac)) ∧ B' = B.set β (cb l a') := by
  obtain rfl := ha
  obtain ⟨d1, d2, d3, d4⟩ := id hD
  have hl1 := hl.1
  have hl2 := hl.2
  have xb := bx_pack hB
  refine drop_cb hm ?_
  replace hm : Hid _ := hm
  replace hD : Hid _ := hD
  replace hn : Hid _ := hn
  replace hB : Hid _ := hB
  clear hl
  refine acall_intro mixed Tryz.func39 rfl ca39 (by kernel_rfl) (by rw [Tryz.ntmps39]; simp) ?_
  refine w_cut (fun fr W => fr 0 = .ptr β 0 ∧ fr 2 = .bool false ∧ fr 4 = .ptr B.length 0 ∧ fr 6 = .ptr (B.length + 1) 0 ∧ W = B ++ [⟨D, false⟩, ⟨zAc, false⟩]) ?_ ?_
  · refine w_MC00 ?_ 
    exact ⟨kS, kS, kS, kS, rfl⟩
  rintro fr W ⟨f0, f2, f4, f6, rfl⟩
  have hz60 : zAc.length = 60 := rfl
  generalize zAc = Z at *
  refine w_cut (fun fr W => ∃ (a1 n : Nat), a1 ≤ l.length ∧ n ≤ 6000 ∧ fr 7 = .int .i64 n ∧ fr 0 = .ptr β 0 ∧ fr 2 = .bool false ∧ fr 4 = .ptr B.length 0 ∧ fr 6 = .ptr (B.length + 1) 0 ∧ W = B.set β (cb l a1) ++ [⟨D, false⟩, ⟨Z, false⟩]) ?_ ?_
  · obtain ⟨v, a1, hv, ha1, h1⟩ := nx_ex l 7 7 rfl hl1 hl2 (by omega)
    have hv : v = 0 ∨ v = 1 ∨ v = 2 ∨ v = 3 ∨ v = 4 ∨ v = 5 ∨ v = 6 := by omega
    rcases hv with rfl | rfl | rfl | rfl | rfl | rfl | rfl
    · refine w_MC01 @h1 ?_ 
      exact ⟨a1, 6000, ha1, by omega, kS, kS, kS, kS, kS, rfl⟩
    · refine w_MC01 @h1 ?_ 
      exact ⟨a1, 6000, ha1, by omega, kS, kS, kS, kS, kS, rfl⟩
    · refine w_MC01 @h1 ?_ 
      exact ⟨a1, 6000, ha1, by omega, kS, kS, kS, kS, kS, rfl⟩
    · refine w_MC01 @h1 ?_ 
      exact ⟨a1, 700, ha1, by omega, kS, kS, kS, kS, kS, rfl⟩
    · refine w_MC01 @h1 ?_ 
      exact ⟨a1, 40, ha1, by omega, kS, kS, kS, kS, kS, rfl⟩
    · refine w_MC01 @h1 ?_ 
      exact ⟨a1, 1, ha1, by omega, kS, kS, kS, kS, kS, rfl⟩
    · refine w_MC01 @h1 ?_ 
      exact ⟨a1, 0, ha1, by omega, kS, kS, kS, kS, kS, rfl⟩
  clear f0 f2 f4 f6 fr
  rintro fr W ⟨a1, n, ha1, hn6, f7, f0, f2, f4, f6, rfl⟩
  obtain ⟨k, a2, hk, ha2, h2⟩ := nx_ex l 16 16 rfl ha1 hl2 (by omega)
  by_cases k5 : k < 5
  · have hev : ∀ {args : List CV}, Is args [.ptr β 0, .agg D] → ACall Tryz.prog 57 args (B.set β (cb l a2) ++ [(⟨D, false⟩ : Box), ⟨Z, false⟩]) fun c B' => ∃ a', a' ≤ l.length ∧ (∃ e, EvG e ∧ c = .agg (evC e)) ∧ B' = (B.set β (cb l a2) ++ [(⟨D, false⟩ : Box), ⟨Z, false⟩]).set β (cb l a') :=
      fun h => event_at h hD hn ((bx_pack (show B[β]? = some (cb l a) from hB)).2.2.2.1 _ _) (mlow_app (mlow_set hm (by simp [cb])) (by simp)) ⟨ha2, hl2⟩
    refine w_MC01q @h2 @hev ?_ 
    rintro _ _ ⟨a', ha', ⟨e, he, rfl⟩, rfl⟩
    have hin : ∀ {B : List Box} {args : List CV}, Is args [.agg (evC e)] → ACall Tryz.prog 56 args B fun c B' => c = .agg (acC (evA e)) ∧ B' = B := fun h => minput_at h he.ip
    have hAl := acA_len e he.ip
    have hAt : (acC (evA e)).take 60 = acC (evA e) := List.take_of_length_le (by omega)
    have hg : Hid (AcG (evA e)) := ⟨he.bytes, he.text, he.ip, rfl, he.norm.imp id fun ⟨n, h1, h2, h3⟩ => ⟨n, h1, h2, by rw [h3]⟩⟩
    obtain ⟨Y, hY⟩ : ∃ Y, acC (evA e) = Y := ⟨_, rfl⟩
    obtain ⟨E, hE⟩ : ∃ E, evC e = E := ⟨_, rfl⟩
    rw [hE, hY] at hin
    rw [hE]
    rw [hY] at hAl hAt
    replace hY : Hid _ := hY
    clear he hE
    refine w_MC01 @hin ?_ 
    exact ac_end ha' rfl (show CV.agg Y = .agg (acC (evA e)) by rw [show acC (evA e) = Y from hY]) hg
  by_cases k7 : k < 7
  · obtain ⟨v1, a3, hv1, ha3, h3⟩ := nx_ex l 2 2 rfl ha2 hl2 (by omega)
    obtain ⟨v2, a4, hv2, ha4, h4⟩ := nx_ex l 2 2 rfl ha3 hl2 (by omega)
    obtain ⟨K, a5, hK, ha5, h5⟩ := ky_ex l ha4 hl2
    have hm3 : ∀ (n : Nat) (b c : Box), b.multi = false → c.multi = false → MLow (B.set β (cb l n) ++ [b, c]) := fun n b c hb hc => mlow_app (mlow_set (show MLow B from hm) (by simp [cb])) (by simp [hb, hc])
    have hho : ∀ {B : List Box} {args : List CV}, Is args [.int .i64 (1 + v1), .int .i64 (2 + v2), .agg (K.map byteC)] → ACall Tryz.prog 58 args B fun c B' => c = .agg (acC { act0 with kind := 2, lo := 1 + v1, hi := 2 + v2, key := K }) ∧ B' = B := fun h => handoff_at h hK
    have hg : Hid (AcG { act0 with kind := 2, lo := 1 + v1, hi := 2 + v2, key := K }) := acG_of (.handoff _ _ K (by omega) (by omega) (by omega) (by omega) hK) rfl hK
    have hAl : (acC { act0 with kind := 2, lo := 1 + v1, hi := 2 + v2, key := K }).length = 60 := acK_len ⟨rfl, hK⟩
    have hAt : (acC { act0 with kind := 2, lo := 1 + v1, hi := 2 + v2, key := K }).take 60 = acC { act0 with kind := 2, lo := 1 + v1, hi := 2 + v2, key := K } := List.take_of_length_le (by omega)
    generalize (⟨2, act0.ev, act0.who, act0.n, act0.xor, 1 + v1, 2 + v2, K⟩ : Ac) = ac at *
    obtain ⟨Y, hY⟩ : ∃ Y, acC ac = Y := ⟨_, rfl⟩
    rw [hY] at hho hAl hAt
    replace hY : Hid _ := hY
    refine w_MC05 @h2 @h3 @h4 @h5 @hho ?_ 
    exact ac_end ha5 rfl (show CV.agg Y = .agg (acC ac) by rw [show acC ac = Y from hY]) hg
  by_cases k12 : k < 12
  · obtain ⟨v1, a3, hv1, ha3, h3⟩ := nx_ex l 2 2 rfl ha2 hl2 (by omega)
    have hpi : ∀ {B : List Box} {args : List CV}, Is args [.int .i64 v1, .int .i64 n] → ACall Tryz.prog 60 args B fun c B' => c = .agg (acC { act0 with kind := 3, who := v1, n := n }) ∧ B' = B := fun h => pick_at h
    have hg : Hid (AcG { act0 with kind := 3, who := v1, n := n }) := acG_of (.pick _ _ (by omega) (by omega) (by omega) (by omega)) rfl rfl
    have hAl : (acC { act0 with kind := 3, who := v1, n := n }).length = 60 := acK_len ⟨rfl, rfl⟩
    have hAt : (acC { act0 with kind := 3, who := v1, n := n }).take 60 = acC { act0 with kind := 3, who := v1, n := n } := List.take_of_length_le (by omega)
    generalize (⟨3, act0.ev, v1, n, act0.xor, act0.lo, act0.hi, act0.key⟩ : Ac) = ac at *
    obtain ⟨Y, hY⟩ : ∃ Y, acC ac = Y := ⟨_, rfl⟩
    rw [hY] at hpi hAl hAt
    replace hY : Hid _ := hY
    refine w_MC03 @h2 @h3 @hpi ?_ 
    exact ac_end ha3 rfl (show CV.agg Y = .agg (acC ac) by rw [show acC ac = Y from hY]) hg
  by_cases e12 : k = 12
  · subst e12
    obtain ⟨v1, a3, hv1, ha3, h3⟩ := nx_ex l 2 2 rfl ha2 hl2 (by omega)
    refine w_MC02 @h2 @h3 ?_ 
    exact ac_end2 (ac := { act0 with kind := 5, who := v1 }) ha3 rfl (fun _ => rfl) (acG_of (.kill _ (by omega) (by omega)) rfl rfl)
  have f12 : ((k : Int) == 12) = false := by simpa using (by omega : (k : Int) ≠ 12)
  by_cases e13 : k = 13
  · subst e13
    obtain ⟨v1, a3, hv1, ha3, h3⟩ := nx_ex l 2 2 rfl ha2 hl2 (by omega)
    refine w_MC02 @h2 @h3 ?_ 
    exact ac_end2 (ac := { act0 with kind := 4, who := v1 }) ha3 rfl (fun _ => rfl) (acG_of (.abort _ (by omega) (by omega)) rfl rfl)
  have f13 : ((k : Int) == 13) = false := by simpa using (by omega : (k : Int) ≠ 13)
  by_cases e14 : k = 14
  · subst e14
    obtain ⟨v1, a3, hv1, ha3, h3⟩ := nx_ex l 2 2 rfl ha2 hl2 (by omega)
    obtain ⟨v2, a4, hv2, ha4, h4⟩ := nx_ex l 40 40 rfl ha3 hl2 (by omega)
    refine w_MC03 @h2 @h3 @h4 ?_ 
    exact ac_end2 (ac := { act0 with kind := 7, who := v1, n := v2 }) ha4 rfl (fun _ => rfl) (acG_of (.cut _ _ (by omega) (by omega) (by omega) (by omega)) rfl rfl)
  have f14 : ((k : Int) == 14) = false := by simpa using (by omega : (k : Int) ≠ 14)
  obtain ⟨v1, a3, hv1, ha3, h3⟩ := nx_ex l 2 2 rfl ha2 hl2 (by omega)
  obtain ⟨v2, a4, hv2, ha4, h4⟩ := bg_ex l 3000 3000 rfl ha3 hl2 (by omega)
  obtain ⟨v3, a5, hv3, ha5, h5⟩ := nx_ex l 256 256 rfl ha4 hl2 (by omega)
  refine w_MC04 @h2 @h3 @h4 @h5 ?_ 
  have hb7 : CV.int .u8 (v3 : Int) = byteC (UInt8.ofNat v3) := by rw [byte_wrap, IntKind.wrap_u8]; congr 1; omega
  refine ac_end2 (ac := { act0 with kind := 6, who := v1, n := v2, xor := UInt8.ofNat v3 }) ha5 rfl (fun _ => ?_) (acG_of (.corrupt _ _ _ (by omega) (by omega) (by omega) (by omega)) rfl rfl)
  rw [hb7]
  rfl
end Go.Proofs.YtcbdghgogmcllaaGreatDoor
end
section
namespace Go.Proofs.YtcbdghgogmcllaaGreatDoor
open Go Go.Sy
def parL (pf : List UInt8 → Ac × Bool) : List (List UInt8) → Nat → List Ac → List Ac × Int × Int
  | [], _, _ => ([], 0, 0)
  | [x], k, out => if x = [] then (if 400 < out.length then ([], 0, 12) else (out, 0, 0)) else ([], (k : Int), 5)
  | x :: y :: r, k, out => if (pf x).2 then parL pf (y :: r) (k + 1) (out ++ [(pf x).1]) else ([], (k : Int), 5)
def pfS (x : List UInt8) : Ac × Bool := parseS (x ++ [10])
def parV (s : List UInt8) : List Ac × Int × Int := parL pfS (splitL 10 s) 1 []
def parR (s : List UInt8) : List Ac × Int × Int := parL lineR (splitL 10 s) 1 []
theorem pf_eq (x : List UInt8) : (pfS x).2 = (lineR x).2 ∧ ((lineR x).2 = true → (pfS x).1 = (lineR x).1) := by
  have h1 : ∀ b, pfS x = (b, true) → lineR x = (b, true) := fun b h => by
    obtain ⟨hn, hs⟩ := parse_norm h
    rw [norm_line hn] at hs
    rw [List.append_cancel_right hs]
    exact norm_back hn
  have h2 : ∀ b, lineR x = (b, true) → pfS x = (b, true) := fun b h => by
    obtain ⟨hn, hs⟩ := line_norm h
    rw [pfS, hs, ← norm_line hn]
    exact norm_parse hn
  cases hp : (lineR x).2 with
  | true =>
    have := h2 (lineR x).1 (Prod.ext rfl hp)
    rw [this]
    exact ⟨rfl, fun _ => rfl⟩
  | false =>
    refine ⟨?_, fun h => by cases h⟩
    cases hq : (pfS x).2 with
    | false => rfl
    | true =>
      have := h1 (pfS x).1 (Prod.ext rfl hq)
      rw [this] at hp
      cases hp
theorem parL_eq : ∀ (L : List (List UInt8)) (k : Nat) (out : List Ac), parL pfS L k out = parL lineR L k out
  | [], _, _ => rfl
  | [_], _, _ => rfl
  | x :: y :: r, k, out => by
    obtain ⟨h1, h2⟩ := pf_eq x
    rw [parL, parL, h1]
    split
    · rename_i h
      rw [h2 h]
      exact parL_eq (y :: r) _ _
    · rfl
theorem par_eq (s : List UInt8) : parV s = parR s := parL_eq _ _ _
end Go.Proofs.YtcbdghgogmcllaaGreatDoor
end
section
namespace Go.Proofs.YtcbdghgogmcllaaGreatDoor
open Go Go.Sy
theorem kE_RK0 {α : Type} {x y : α} (h : Is x y := by first | ((try simp (disch := first | omega | (simp only [yZ, yB] <;> omega) | fail) [go_sem, yY, *, bx_get0, bx_get, bx_set0, bx_set, if_pos, if_neg, -List.map_take, -List.map_drop, -List.map_append, -List.map_reverse]); exact rfl) | fail) : Is x y := h
theorem kD_RK0 {p : Prop} (h : p := by (first | omega | assumption | exact rfl | ((simp (disch := first | omega | (simp only [yZ, yB] <;> omega) | fail) [go_sem, yY, *, bx_get0, bx_get, bx_set0, bx_set, -List.map_take, -List.map_drop, -List.map_append, -List.map_reverse]) <;> (first | done | omega | exact rfl)) | fail)) : p := h
theorem wB_RK0 {p q : Prop} (k : q) (h : Hq q → p := by (intro k; (repeat' (first | (with_reducible first | apply jA | apply jB | apply jC | apply jD | apply jE | apply jF | apply jG | apply jH | apply jI | apply jJ | apply jK | apply jL | apply jM | apply jN | apply jO) | ((with_reducible first | apply jP | apply jQ); rfl) | ((first | ((with_reducible first | apply jR | apply jS | apply jT); rfl; rfl) | (with_reducible first | apply jU | apply jV | apply jW) | ((with_reducible first | apply jX | apply jY | apply jZ); rfl) | ((with_reducible first | apply kA | apply kB | apply kC); rfl)); all_goals (first | ((with_reducible show Is _ _); exact kE_RK0) | ((with_reducible refine fun (hc : (_ : Bool) = _) => ?_); (try simp only [xZ, xY, xP, reduceCtorEq] at hc); (try (have hx : True := hc; clear hx hc)); (try exact kX)) | ((with_reducible show ACall _ _ _ _ _); (first | ((with_reducible apply c0) <;> exact kD_RK0) | ((with_reducible apply c1) <;> exact kD_RK0) | ((with_reducible apply c2) <;> exact kD_RK0) | ((with_reducible apply c3) <;> exact kD_RK0) | ((with_reducible apply c4) <;> exact kD_RK0) | ((with_reducible apply c5) <;> exact kD_RK0) | ((with_reducible apply c6) <;> exact kD_RK0) | ((with_reducible apply c7) <;> exact kD_RK0))) | ((fail_if_success (with_reducible first | show Is _ _ | show ACall _ _ _ _ _)); (try ((with_reducible show _ ∨ _); exact kT))))) | (((with_reducible first | apply o_callQ | apply q_callQ); rfl); (iterate 2 exact kE_RK0); (first | ((with_reducible apply q0) <;> exact kD_RK0))))); exact hq k)) : p := h ⟨k⟩
theorem w_RK01 {A0 p q : Prop} (c0 : A0) (k : q) (h : A0 → Hq q → p := by (intro c0 k; exact wB_RK0 (hq k))) : p := h c0 ⟨k⟩
def RowsA (out : List Ac) (c : CV) (B : List Box) : Prop := (out = [] ∧ c = .nilS) ∨ (out ≠ [] ∧ ∃ β m, c = .view β 0 out.length 60 false ∧ B[β]? = some ⟨out.flatMap acC, m⟩)
theorem rows_len {out : List Ac} (h : ∀ a ∈ out, AcK a) : (out.flatMap acC).length = out.length * 60 := by
  induction out with
  | nil => rfl
  | cons a l ih =>
    rw [List.flatMap_cons, List.length_append, ih fun b hb => h b (by simp [hb]), acK_len (h a (by simp)), List.length_cons]
    omega
theorem acs_om {nz : Bool} : ∀ (out : List Ac) {B : List Box} {k : Nat}, omap (Go.Sy.fz nz false B (k + 3)) (out.flatMap acC) = some (out.flatMap acC)
  | [], _, _ => rfl
  | a :: l, B, k => by
    rw [List.flatMap_cons, omap_app, acC_om, acs_om l]
    rfl
def parC (r : List Ac × Int × Int) : CV := .tup [.lst r.1.length (r.1.flatMap acC) false, .int .i64 r.2.1, .int .i64 r.2.2]
theorem parL_last (pf : List UInt8 → Ac × Bool) {L : List (List UInt8)} {j k : Nat} {out : List Ac} (hj : j + 1 = L.length) : parL pf (L.drop j) k out = if L[j]'(by omega) = [] then (if 400 < out.length then ([], 0, 12) else (out, 0, 0)) else ([], (k : Int), 5) := by
  have e : L.drop j = [L[j]'(by omega)] := by rw [List.drop_eq_getElem_cons (by omega), List.drop_of_length_le (by omega)]
  rw [e, parL]
theorem parL_more (pf : List UInt8 → Ac × Bool) {L : List (List UInt8)} {j k : Nat} {out : List Ac} (hj : j + 1 < L.length) : parL pf (L.drop j) k out = if (pf (L[j]'(by omega))).2 then parL pf (L.drop (j + 1)) (k + 1) (out ++ [(pf (L[j]'(by omega))).1]) else ([], (k : Int), 5) := by
  have e1 : L.drop j = L[j]'(by omega) :: L.drop (j + 1) := List.drop_eq_getElem_cons (by omega)
  have e2 : L.drop (j + 1) = L[j + 1]'hj :: L.drop (j + 1 + 1) := List.drop_eq_getElem_cons hj
  rw [e1, e2, parL]
theorem rpar_in (s : List UInt8) (hs : s.length < 1000000) : PC Tryz.prog false 10 [.str s] (parC (parR s)) := by
  have hnum := splitL_num 10 s
  have hmem := splitL_mem 10 s
  have hne := splitL_ne 10 s
  have hsp : ∀ {B : List Box}, ACall Tryz.prog 24 [.str s, .int .u8 10] B fun c B' => c = .lst (splitL 10 s).length ((splitL 10 s).map .str) false ∧ B' = B := rsplit_at (b := 10) rfl (by omega)
  unfold parR
  generalize splitL 10 s = L at *
  obtain ⟨n, hn⟩ : ∃ n, L.length = n := ⟨_, rfl⟩
  obtain ⟨Y, hY⟩ : ∃ Y : List CV, L.map .str = Y := ⟨_, rfl⟩
  rw [hn, hY] at hsp
  have hn1 : 1 ≤ n := by rw [← hn]; exact List.length_pos_iff.2 hne
  have hn2 : n ≤ 1000001 := by omega
  refine acall_intro mixed Tryz.func10 rfl ca10 (by kernel_rfl) (by rw [Tryz.ntmps10]; simp) ?_
  replace hn : Hid _ := hn
  replace hY : Hid _ := hY
  refine w1 @hsp ?_ 
  refine w_loop (fun fr B => ∃ (j : Nat) (out : List Ac), j < n ∧ parL lineR (L.drop j) (j + 1) out = parL lineR L 1 [] ∧ out.length = j ∧ (∀ a ∈ out, AcK a) ∧ fr 13 = .lst n Y false ∧ fr 14 = .int .i64 n ∧ fr 5 = .lst n Y false ∧ fr 15 = .int .i64 j ∧ RowsA out (fr 6) B) (fun fr _ => n - natOf (fr 15)) ?_ ?_
  · exact ⟨0, [], by omega, rfl, rfl, by simp, kS, kS, kS, kS, .inl ⟨rfl, kS⟩⟩
  clear hsp
  rintro fr B ⟨j, out, hj, hp, ho, hk, f13, f14, f5, f15, hr⟩
  have hn : L.length = n := hn
  have hY : L.map .str = Y := hY
  have hm : natOf (fr 15) = j := by rw [f15]; rfl
  obtain ⟨x, hx⟩ : ∃ x, L[j]'(by omega) = x := ⟨_, rfl⟩
  have hYd : Y.drop j = .str x :: Y.drop (j + 1) := by rw [← hY, ← List.map_drop, List.drop_eq_getElem_cons (by omega), hx, List.map_cons, List.map_drop]
  have hYl : Y.length = n := by rw [← hY, List.length_map, hn]
  have hxl : x.length < 1000000 := by have := hmem x (by rw [← hx]; exact List.getElem_mem _); omega
  by_cases hl : j + 1 = n
  · have hp2 := parL_last lineR (L := L) (j := j) (k := j + 1) (out := out) (by omega)
    rw [hx, hp] at hp2
    rw [hp2]
    clear hp hp2 hY hmem hx
    subst hl
    by_cases hxe : x = []
    · subst hxe
      rw [if_pos rfl]
      rcases hr with ⟨rfl, f6⟩ | ⟨hone, β, mm, f6, hB⟩
      · have ho : j = 0 := ho.symm
        subst ho
        clear hk hn hnum hm
        refine w0 ?_ 
        rfl
      · have hrl := rows_len hk
        have hob : out.length < 1000001 := by omega
        have htk : (out.flatMap acC).take (out.length * 60) = out.flatMap acC := List.take_of_length_le (by omega)
        have hoo : ∀ {B : List Box} {k : Nat}, omap (Go.Sy.fz true false B (k + 3)) (out.flatMap acC) = some (out.flatMap acC) := acs_om out
        obtain ⟨m, hom⟩ : ∃ m, out.length = m := ⟨_, rfl⟩
        rw [hom] at f6 htk hob ⊢
        clear hrl hk hone
        by_cases h400 : 400 < m
        · have h400' : (400 : Int) < m := by omega
          rw [if_pos h400]
          clear hB htk hoo
          refine w0 ?_ 
          rfl
        · have h400' : ¬ (400 : Int) < m := by omega
          rw [if_neg h400]
          refine w0 ?_ 
          simp only [parC]
          rw [hom]
          simp [go_sem, hB, htk, hoo]
    · rw [if_neg hxe]
      have hxb : x.isEmpty = false := by cases x with | nil => exact absurd rfl hxe | cons a b => rfl
      clear hr hxe
      refine w0 ?_ 
      rfl
  · have hlt : j + 1 < n := by omega
    have hl2 : ¬ ((j : Int) = n - 1) := by omega
    have hl3 : ((j : Int) == n - 1) = false := by simpa using hl2
    have hp2 := parL_more lineR (L := L) (j := j) (k := j + 1) (out := out) (by omega)
    rw [hx, hp] at hp2
    have hln : ∀ {B : List Box}, ACall Tryz.prog 17 [.str x] B fun c B' => c = .tup [.agg (acC (lineR x).1), .bool (lineR x).2] ∧ B' = B := lineR_at hxl
    have hK := lineR_K x
    have hzl := acK_len hK
    have hzo : ∀ {nz : Bool} {B : List Box} {k : Nat}, omap (Go.Sy.fz nz false B (k + 3)) (acC (lineR x).1) = some (acC (lineR x).1) := acC_om
    have hzt : (acC (lineR x).1).take 60 = acC (lineR x).1 := List.take_of_length_le (by omega)
    clear hp hmem hx hY
    cases hok : (lineR x).2 with
    | false =>
      rw [hok] at hp2 hln
      simp only [Bool.false_eq_true, if_false] at hp2
      rw [hp2]
      clear hp2 hok hr hK
      generalize acC (lineR x).1 = Z at *
      refine w_RK01 @hln ?_ 
      rfl
    | true =>
      rw [hok] at hp2 hln
      rw [if_pos rfl] at hp2
      have hk2 : ∀ a ∈ out ++ [(lineR x).1], AcK a := fun a ha => by
        rcases List.mem_append.1 ha with h | h
        · exact hk a h
        · rw [List.mem_singleton] at h; subst h; exact hK
      have hfl : (out ++ [(lineR x).1]).flatMap acC = out.flatMap acC ++ acC (lineR x).1 := by rw [List.flatMap_append, List.flatMap_singleton]
      have hol : (out ++ [(lineR x).1]).length = j + 1 := by rw [List.length_append, ho]; rfl
      have hrl := rows_len hk
      generalize (lineR x).1 = b at *
      have hone2 : out ++ [b] ≠ [] := by simp
      obtain ⟨out2, ho2⟩ : ∃ out2, out ++ [b] = out2 := ⟨_, rfl⟩
      rw [ho2] at hk2 hfl hol hp2 hone2
      generalize acC b = X at *
      generalize hDD : out.flatMap acC = D at *
      replace hk2 : Hid _ := hk2
      replace hfl : Hid _ := hfl
      replace hol : Hid _ := hol
      replace hp2 : Hid _ := hp2
      clear hok hK hk ho2 hnum hne
      rcases hr with ⟨rfl, f6⟩ | ⟨hone, β, mm, f6, hB⟩
      · have hj0 : j = 0 := ho.symm
        subst hj0
        refine w_RK01 @hln ?_ 
        have hk2 : ∀ a ∈ out2, AcK a := hk2
        have hD : D = [] := List.eq_nil_of_length_eq_zero (by simpa using hrl)
        have hfl : out2.flatMap acC = D ++ X := hfl
        rw [hD] at hfl
        have hol : out2.length = 1 := hol
        have hp2 : parL lineR L 1 [] = _ := hp2
        exact ⟨⟨1, out2, by omega, hp2.symm, hol, hk2, kS, kS, kS, kS, .inr ⟨hone2, B.length + 1, _, by rw [hol]; (simp (disch := omega) [go_sem, *]) <;> (try omega), by rw [hfl]; (simp (disch := omega) [go_sem, *, bx_get0, bx_get, bx_set0, bx_set]) <;> (try omega)⟩⟩, kS⟩
      · rw [hDD] at hB
        rw [ho] at f6 hrl
        clear hDD
        have hj9 : j ≤ 140737488355327 := by omega
        have hDt : D.take (j * 60) = D := List.take_of_length_le (by omega)
        obtain ⟨bz, hbz, hbz2⟩ : ∃ bz, Tryz.prog.bytesOf 47 = bz ∧ bz ≤ 1000 := ⟨_, rfl, by decide +kernel⟩
        have hbj : (j + 1) * Tryz.prog.bytesOf 47 ≤ 140737488355328 := by
          rw [hbz]
          have : (j + 1) * bz ≤ 1000002 * 1000 := Nat.mul_le_mul (by omega) hbz2
          omega
        clear hbz hbz2
        have hbj2 : (j + 1) * 168 ≤ 140737488355328 := by omega
        have xb := bx_pack hB
        replace hone : Hid _ := hone
        refine w_RK01 @hln ?_ 
        have hk2 : ∀ a ∈ out2, AcK a := hk2
        have hfl : out2.flatMap acC = D ++ X := hfl
        have hol : out2.length = j + 1 := hol
        have hp2 : parL lineR L 1 [] = _ := hp2
        have hβl : β < B.length := (List.getElem?_eq_some_iff.1 hB).1
        exact ⟨⟨j + 1, out2, by omega, hp2.symm, hol, hk2, kS, kS, kS, kS, .inr ⟨hone2, β, true, by rw [hol]; (simp (disch := omega) [go_sem, *]) <;> (try omega), by rw [hfl]; exact xb.2.2.2.1 _ _⟩⟩, kS⟩
end Go.Proofs.YtcbdghgogmcllaaGreatDoor
end
section
namespace Go.Proofs.YtcbdghgogmcllaaGreatDoor
open Go Go.Sy
theorem kE_MD0 {α : Type} {x y : α} (h : Is x y := by first | ((try simp (disch := first | omega | (simp only [yZ, yB] <;> omega) | fail) [go_sem, yY, *, bx_get0, bx_get, bx_set0, bx_set, if_pos, if_neg, -List.map_take, -List.map_drop, -List.map_append, -List.map_reverse]); exact rfl) | fail) : Is x y := h
theorem kD_MD0 {p : Prop} (h : p := by (first | omega | assumption | exact rfl | ((simp (disch := first | omega | (simp only [yZ, yB] <;> omega) | fail) [go_sem, yY, *, bx_get0, bx_get, bx_set0, bx_set, -List.map_take, -List.map_drop, -List.map_append, -List.map_reverse]) <;> (first | done | omega | exact rfl)) | fail)) : p := h
theorem wB_MD0 {p q : Prop} (k : q) (h : Hq q → p := by (intro k; (repeat' (first | (with_reducible first | apply jA | apply jB | apply jC | apply jD | apply jE | apply jF | apply jG | apply jH | apply jI | apply jJ | apply jK | apply jL | apply jM | apply jN | apply jO) | ((with_reducible first | apply jP | apply jQ); rfl) | ((first | ((with_reducible first | apply jR | apply jS | apply jT); rfl; rfl) | (with_reducible first | apply jU | apply jV | apply jW) | ((with_reducible first | apply jX | apply jY | apply jZ); rfl) | ((with_reducible first | apply kA | apply kB | apply kC); rfl)); all_goals (first | ((with_reducible show Is _ _); exact kE_MD0) | ((with_reducible refine fun (hc : (_ : Bool) = _) => ?_); (try simp only [xZ, xY, xP, reduceCtorEq] at hc); (try (have hx : True := hc; clear hx hc)); (try exact kX)) | ((with_reducible show ACall _ _ _ _ _); (first | ((with_reducible apply c0) <;> exact kD_MD0) | ((with_reducible apply c1) <;> exact kD_MD0) | ((with_reducible apply c2) <;> exact kD_MD0) | ((with_reducible apply c3) <;> exact kD_MD0) | ((with_reducible apply c4) <;> exact kD_MD0) | ((with_reducible apply c5) <;> exact kD_MD0) | ((with_reducible apply c6) <;> exact kD_MD0) | ((with_reducible apply c7) <;> exact kD_MD0))) | ((fail_if_success (with_reducible first | show Is _ _ | show ACall _ _ _ _ _)); (try ((with_reducible show _ ∨ _); exact kT))))) | (((with_reducible first | apply o_callQ | apply q_callQ); rfl); (iterate 2 exact kE_MD0); (first | ((with_reducible apply q0) <;> exact kD_MD0))))); exact hq k)) : p := h ⟨k⟩
theorem w_MD00 {p q : Prop}  (k : q) (h : Hq q → p := by (intro  k; exact wB_MD0 (hq k))) : p := h  ⟨k⟩
theorem w_MD01 {A0 p q : Prop} (c0 : A0) (k : q) (h : A0 → Hq q → p := by (intro c0 k; exact wB_MD0 (hq k))) : p := h c0 ⟨k⟩
theorem w_MD01q {A0 A1 p q : Prop} (c0 : A0) (q0 : A1) (k : q) (h : A0 → A1 → Hq q → p := by (intro c0 q0 k; exact wB_MD0 (hq k))) : p := h c0 q0 ⟨k⟩
def OutB (B : List Box) (β : Nat) (l : List UInt8) (a : Nat) (D : List CV) (out : List Ac) (c : CV) (W : List Box) : Prop :=
  (out = [] ∧ c = .nilS ∧ W = B.set β (cb l a) ++ [⟨D, false⟩]) ∨ (out ≠ [] ∧ ∃ m, c = .view (B.length + 1) 0 out.length 60 false ∧ W = B.set β (cb l a) ++ [⟨D, false⟩, ⟨out.flatMap acC, m⟩])
theorem actions_at {B : List Box} {β : Nat} {args D : List CV} {now : Int} {l : List UInt8} {a : Nat} (ha : Is args [.ptr β 0, .agg D, .int .i64 16, .bool false]) (hD : DmP D now) (hn : 0 ≤ now ∧ now ≤ 1048576) (hB : B[β]? = some (cb l a)) (hm : MLow B) (hl : a ≤ l.length ∧ l.length < 1000000) : ACall Tryz.prog 21 args B fun c B' => ∃ a', a' ≤ l.length ∧ (∃ out : List Ac, out.length ≤ 16 ∧ (∀ x ∈ out, AcG x) ∧ c = .lst out.length (out.flatMap acC) false) ∧ B' = B.set β (cb l a') := by
  obtain rfl := ha
  obtain ⟨d1, d2, d3, d4⟩ := id hD
  have hl1 := hl.1
  have hl2 := hl.2
  have xb := bx_pack hB
  have hB0 : B.set β (cb l a) = B := bx_same hB
  refine drop_cb hm ?_
  replace hm : Hid _ := hm
  replace hD : Hid _ := hD
  replace hn : Hid _ := hn
  clear hl
  refine acall_intro mixed Tryz.func21 rfl ca21 (by kernel_rfl) (by rw [Tryz.ntmps21]; simp) ?_
  refine w_MD00 ?_ 
  refine w_loop (fun fr W => ∃ (a' : Nat) (out : List Ac), a' ≤ l.length ∧ out.length ≤ 16 ∧ (∀ x ∈ out, AcG x) ∧ fr 0 = .ptr β 0 ∧ fr 2 = .int .i64 16 ∧ fr 3 = .bool false ∧ fr 5 = .ptr B.length 0 ∧ OutB B β l a' D out (fr 9) W) (fun fr _ => match fr 9 with | .view _ _ n _ _ => 16 - n | _ => 16) ?_ ?_
  · exact ⟨a, [], hl1, by simp, by simp, kS, kS, kS, kS, .inl ⟨rfl, kS, by rw [hB0]⟩⟩
  clear hB0 hl1
  replace hB : Hid _ := hB
  rintro fr W ⟨a1, out, ha1, ho, hg, f0, f2, f3, f5, hr⟩
  have hleft : ∀ {B : List Box} {args : List CV}, Is args [.ptr β 0] → B[β]? = some (cb l a1) → ACall Tryz.prog 38 args B fun c B' => c = .bool (decide (a1 < l.length)) ∧ B' = B := fun h h2 => left_at h h2
  have hgk : ∀ x ∈ out, AcK x := fun x hx => ⟨(hg x hx).ip, (hg x hx).key⟩
  have hrl := rows_len hgk
  have hoo : ∀ {B : List Box} {k : Nat}, omap (Go.Sy.fz true false B (k + 3)) (out.flatMap acC) = some (out.flatMap acC) := acs_om out
  have hno : NoRef (out.flatMap acC) := acs_om out
  have htk : (out.flatMap acC).take (out.length * 60) = out.flatMap acC := List.take_of_length_le (by omega)
  obtain ⟨n, hon⟩ : ∃ n, out.length = n := ⟨_, rfl⟩
  have hact : ∀ {args : List CV}, Is args [.ptr β 0, .agg D, .bool false] → ACall Tryz.prog 39 args W fun c B' => ∃ a', a' ≤ l.length ∧ (∃ ac, AcG ac ∧ c = .agg (acC ac)) ∧ B' = W.set β (cb l a') := fun h => by
    have xb := bx_pack (show B[β]? = some (cb l a) from hB)
    rcases hr with ⟨rfl, _, rfl⟩ | ⟨_, m, _, rfl⟩
    · exact action_at h hD hn (xb.2.2.2.1 _ _) (mlow_app (mlow_set hm (by simp [cb])) (by simp)) ⟨ha1, hl2⟩
    · exact action_at h hD hn (xb.2.2.2.1 _ _) (mlow_app (mlow_set hm (by simp [cb])) (by simp; exact fun _ => hno)) ⟨ha1, hl2⟩
  have hfin : Hid (∃ o : List Ac, o.length ≤ 16 ∧ (∀ x ∈ o, AcG x) ∧ CV.lst n (out.flatMap acC) false = .lst o.length (o.flatMap acC) false) := ⟨out, ho, hg, by rw [hon]⟩
  replace hg : Hid _ := hg
  replace hno : Hid _ := hno
  clear hgk
  have hfz : ∀ m, fz true false (List.replicate B.length ⟨[], true⟩ ++ [(⟨D, false⟩ : Box), ⟨out.flatMap acC, m⟩]) 6 (.view (B.length + 1) 0 n 60 false) = some (.lst n (out.flatMap acC) false) := fun m => by
    rw [fz_view, fzl_get]
    show (omap _ (((out.flatMap acC).drop 0).take (n * 60))).map _ = _
    rw [List.drop_zero, ← hon, htk, hoo]
    rfl
  replace hfz : Hid _ := hfz
  rw [hon] at htk hrl
  by_cases hc : n < 16
  rotate_left
  · have hc' : ¬ ((n : Int) < 16) := by omega
    rcases hr with ⟨rfl, f9, rfl⟩ | ⟨hne, m, f9, rfl⟩
    · simp at hon; omega
    · rw [hon] at f9
      clear hact
      refine w_MD01 @hleft ?_ 
      exact ⟨a1, _, _, ha1, rfl, (show ∀ m, fz true false (List.replicate B.length ⟨[], true⟩ ++ [(⟨D, false⟩ : Box), ⟨out.flatMap acC, m⟩]) 6 (.view (B.length + 1) 0 n 60 false) = some (.lst n (out.flatMap acC) false) from hfz) m, hfin⟩
  by_cases hc2 : a1 < l.length
  rotate_left
  · rcases hr with ⟨rfl, f9, rfl⟩ | ⟨hne, m, f9, rfl⟩
    · clear hact
      refine w_MD01 @hleft ?_ 
      exact ⟨a1, _, .lst 0 [] false, ha1, rfl, rfl, [], by simp, by simp, rfl⟩
    · rw [hon] at f9
      clear hact
      refine w_MD01 @hleft ?_ 
      exact ⟨a1, _, _, ha1, rfl, (show ∀ m, fz true false (List.replicate B.length ⟨[], true⟩ ++ [(⟨D, false⟩ : Box), ⟨out.flatMap acC, m⟩]) 6 (.view (B.length + 1) 0 n 60 false) = some (.lst n (out.flatMap acC) false) from hfz) m, hfin⟩
  rcases hr with ⟨rfl, f9, rfl⟩ | ⟨hne, m, f9, rfl⟩
  · obtain rfl : n = 0 := by simpa using hon.symm
    refine w_MD01q @hleft @hact ?_ 
    have hg : Hid (∀ x ∈ ([] : List Ac), AcG x) := fun _ h => by cases h
    rintro _ _ ⟨a2, ha2, ⟨ac, hac, rfl⟩, rfl⟩
    have hXl := acK_len ⟨hac.ip, hac.key⟩
    have hXt : (acC ac).take 60 = acC ac := List.take_of_length_le (by omega)
    have hg2 : ∀ x ∈ ([] : List Ac) ++ [ac], AcG x := fun x hx => by
      rcases List.mem_append.1 hx with h | h
      · exact (show ∀ x ∈ ([] : List Ac), AcG x from hg) x h
      · rw [List.mem_singleton] at h; subst h; exact hac
    have hol : (([] : List Ac) ++ [ac]).length = 0 + 1 := by rw [List.length_append, hon]; rfl
    have hfl : (([] : List Ac) ++ [ac]).flatMap acC = (([] : List Ac)).flatMap acC ++ acC ac := by rw [List.flatMap_append, List.flatMap_singleton]
    have hne2 : ([] : List Ac) ++ [ac] ≠ [] := by simp
    obtain ⟨out2, ho2⟩ : ∃ o, ([] : List Ac) ++ [ac] = o := ⟨_, rfl⟩
    rw [ho2] at hg2 hol hfl hne2
    replace hg2 : Hid _ := hg2
    replace hol : Hid _ := hol
    replace hfl : Hid _ := hfl
    replace hne2 : Hid _ := hne2
    clear ho2 hac
    generalize acC ac = X at *
    clear hact hfz hfin
    refine w_MD00 ?_ 
    have hol : out2.length = 1 := hol
    refine ⟨⟨a2, out2, ha2, by omega, hg2, kS, kS, kS, kS, .inr ⟨hne2, false, by rw [hol]; (simp (disch := omega) [go_sem, *]) <;> (try omega), ?_⟩⟩, kS⟩
    rw [show out2.flatMap acC = X from hfl]
  · rw [hon] at f9
    have hnz : n ≠ 0 := by rintro rfl; exact hne (List.eq_nil_of_length_eq_zero hon)
    have hbn : (n + 1) * Tryz.prog.bytesOf 47 ≤ 140737488355328 := by
      have : Tryz.prog.bytesOf 47 ≤ 1000 := by decide +kernel
      have : (n + 1) * Tryz.prog.bytesOf 47 ≤ 16 * 1000 := Nat.mul_le_mul (by omega) this
      omega
    have hbn2 : (n + 1) * 168 ≤ 140737488355328 := by omega
    generalize hDD : out.flatMap acC = DD at *
    refine w_MD01q @hleft @hact ?_ 
    rintro _ _ ⟨a2, ha2, ⟨ac, hac, rfl⟩, rfl⟩
    have hXl := acK_len ⟨hac.ip, hac.key⟩
    have hXt : (acC ac).take 60 = acC ac := List.take_of_length_le (by omega)
    have hg2 : ∀ x ∈ out ++ [ac], AcG x := fun x hx => by
      rcases List.mem_append.1 hx with h | h
      · exact (show ∀ x ∈ out, AcG x from hg) x h
      · rw [List.mem_singleton] at h; subst h; exact hac
    have hol : (out ++ [ac]).length = n + 1 := by rw [List.length_append, hon]; rfl
    have hfl : (out ++ [ac]).flatMap acC = (out).flatMap acC ++ acC ac := by rw [List.flatMap_append, List.flatMap_singleton]
    have hne2 : out ++ [ac] ≠ [] := by simp
    obtain ⟨out2, ho2⟩ : ∃ o, out ++ [ac] = o := ⟨_, rfl⟩
    rw [ho2] at hg2 hol hfl hne2
    replace hg2 : Hid _ := hg2
    replace hol : Hid _ := hol
    replace hfl : Hid _ := hfl
    replace hne2 : Hid _ := hne2
    clear ho2 hac
    generalize acC ac = X at *
    clear hact hfz hfin
    refine w_MD00 ?_ 
    have hol : out2.length = n + 1 := hol
    refine ⟨⟨a2, out2, ha2, by omega, hg2, kS, kS, kS, kS, .inr ⟨hne2, true, by rw [hol]; (simp (disch := omega) [go_sem, *]) <;> (try omega), ?_⟩⟩, kS⟩
    rw [show out2.flatMap acC = _ from hfl, hDD]
end Go.Proofs.YtcbdghgogmcllaaGreatDoor
end
section
namespace Go.Sy
theorem acall_immQ {P : Program} {B : List Box} {f : FuncId} {args args' : List CV} {Q : CV → Prop} {nz fr : Bool} (hz : omap (fz nz false [] 6) args = some args') (h : ACall P f args' [] fun c1 B1 => ∃ c', Q c' ∧ fz true fr B1 6 c1 = some c') : ACall P f args B fun c B' => Q c ∧ B' = B := by
  refine ⟨h.1, fun N I μ w vs hB hv => ?_⟩
  have hv' := rel_free 6 false args vs args' hv hz
  refine (h.2 w.heap.size I [] w vs (BRel.none_ w _ hB.imm hB.tabs) hv').mono fun e w' ⟨c, v, B1, J1, μ1, he, ⟨c', hq, hQ⟩, hs⟩ => ?_
  have hJ : ∀ b j, J1 b j → I b j ∨ (w.heap.size ≤ b ∧ b < w'.heap.size) := fun b j hj => by
    rcases hs.ext.immN b j hj with h1 | h1 | ⟨β, ps, p, h1, _⟩
    · exact .inl h1
    · exact .inr ⟨h1, hs.box.imm _ _ hj⟩
    · simp at h1
  have hv2 := fz_rel (J := fun b j => I b j ∨ (w.heap.size ≤ b ∧ b < w'.heap.size)) hs.box (fun _ => hJ) (fun β ps p _ h1 h2 => .inr ⟨(hs.box.places β ps p h1 h2).1, (hs.box.places β ps p h1 h2).2.2.lt⟩) 6 false [c] [v] [c'] hs.val (omap_one hQ)
  obtain ⟨g1, g2, g3⟩ := hB.behind (I2 := fun b j => I b j ∨ (w.heap.size ≤ b ∧ b < w'.heap.size)) hs.below (fun _ _ h => .inl h) (fun _ _ h => h)
  exact ⟨c', v, B, _, μ, he, ⟨hq, rfl⟩, hv2.ext ⟨fun _ _ h => h, fun _ _ _ => rfl, fun _ _ h => h, fun _ h => h, fun _ _ h => by simp at h, fun _ _ _ _ h => h⟩, g1, g2, g3⟩
end Go.Sy
namespace Go.Proofs.YtcbdghgogmcllaaGreatDoor
open Go Go.Sy
theorem kE_ME0 {α : Type} {x y : α} (h : Is x y := by first | ((try simp (disch := first | omega | (simp only [yZ, yB] <;> omega) | fail) [go_sem, yY, *, bx_get0, bx_get, bx_set0, bx_set, if_pos, if_neg, -List.map_take, -List.map_drop, -List.map_append, -List.map_reverse]); exact rfl) | fail) : Is x y := h
theorem kD_ME0 {p : Prop} (h : p := by (first | omega | assumption | exact rfl | ((simp (disch := first | omega | (simp only [yZ, yB] <;> omega) | fail) [go_sem, yY, *, bx_get0, bx_get, bx_set0, bx_set, -List.map_take, -List.map_drop, -List.map_append, -List.map_reverse]) <;> (first | done | omega | exact rfl)) | fail)) : p := h
theorem wB_ME0 {p q : Prop} (k : q) (h : Hq q → p := by (intro k; (repeat' (first | (with_reducible first | apply jA | apply jB | apply jC | apply jD | apply jE | apply jF | apply jG | apply jH | apply jI | apply jJ | apply jK | apply jL | apply jM | apply jN | apply jO) | ((with_reducible first | apply jP | apply jQ); rfl) | ((first | ((with_reducible first | apply jR | apply jS | apply jT); rfl; rfl) | (with_reducible first | apply jU | apply jV | apply jW) | ((with_reducible first | apply jX | apply jY | apply jZ); rfl) | ((with_reducible first | apply kA | apply kB | apply kC); rfl)); all_goals (first | ((with_reducible show Is _ _); exact kE_ME0) | ((with_reducible refine fun (hc : (_ : Bool) = _) => ?_); (try simp only [xZ, xY, xP, reduceCtorEq] at hc); (try (have hx : True := hc; clear hx hc)); (try exact kX)) | ((with_reducible show ACall _ _ _ _ _); (first | ((with_reducible apply c0) <;> exact kD_ME0) | ((with_reducible apply c1) <;> exact kD_ME0) | ((with_reducible apply c2) <;> exact kD_ME0) | ((with_reducible apply c3) <;> exact kD_ME0) | ((with_reducible apply c4) <;> exact kD_ME0) | ((with_reducible apply c5) <;> exact kD_ME0) | ((with_reducible apply c6) <;> exact kD_ME0) | ((with_reducible apply c7) <;> exact kD_ME0))) | ((fail_if_success (with_reducible first | show Is _ _ | show ACall _ _ _ _ _)); (try ((with_reducible show _ ∨ _); exact kT))))) | (((with_reducible first | apply o_callQ | apply q_callQ); rfl); (iterate 2 exact kE_ME0); (first | ((with_reducible apply q0) <;> exact kD_ME0))))); exact hq k)) : p := h ⟨k⟩
theorem w_ME00 {p q : Prop}  (k : q) (h : Hq q → p := by (intro  k; exact wB_ME0 (hq k))) : p := h  ⟨k⟩
theorem i64_of {n : Int} (h0 : -4611686018427387904 ≤ n) (h1 : n ≤ 4611686018427387904) : i64 n := ⟨by omega, by omega⟩
theorem acG_L {a : Ac} (h : AcG a) : AcL a := by
  obtain ⟨hb, ht, hi, hk, hn⟩ := h
  have hb' : a.ev.bytes.length < 1000000 := by omega
  have ht' : a.ev.text.length < 1000000 := by omega
  have e0 : (act0.ev.kind = 0 ∧ act0.ev.port = 0 ∧ act0.ev.time = 0) ∧ act0.kind = 0 ∧ act0.who = 0 ∧ act0.n = 0 ∧ act0.lo = 0 ∧ act0.hi = 0 := by decide
  have key : i64 a.ev.kind ∧ i64 a.ev.port ∧ i64 a.ev.time ∧ i64 a.kind ∧ i64 a.who ∧ i64 a.n ∧ i64 a.lo ∧ i64 a.hi := by
    rcases hn with hn | ⟨n, h1, h2, rfl⟩
    · cases hn
      all_goals
        refine ⟨?_, ?_, ?_, ?_, ?_, ?_, ?_, ?_⟩
        all_goals (first | exact i64_zero | exact i64_1 | exact i64_2 | exact i64_3 | exact i64_4 | exact i64_5 | exact i64_6 | exact i64_7 | exact i64_of (by simp only [evA]; omega) (by simp only [evA]; omega))
    · exact ⟨i64_3, i64_zero, i64_of (by simp only [evA]; omega) (by simp only [evA]; omega), i64_1, i64_zero, i64_zero, i64_zero, i64_zero⟩
  obtain ⟨k1, k2, k3, k4, k5, k6, k7, k8⟩ := key
  exact ⟨⟨hi, k1, k2, k3, hb', ht'⟩, k4, k5, k6, k7, k8, hk⟩
structure AcN (a : Ac) : Prop where
  norm : Norm a
  g : AcG a
theorem AcN.s {a : Ac} (h : AcN a) : AcS a := ⟨acG_L h.g, by have := h.g.bytes; omega, by have := h.g.text; omega⟩
theorem acG_cases {a : Ac} (h : AcG a) : (AcN a ∧ 0 ≤ a.ev.time ∧ (a.kind ≠ 1 ∨ a.kind = 1 ∧ a.ev.kind ≠ 2 ∨ a.kind = 1 ∧ a.ev.kind = 2 ∧ 1 ≤ a.ev.port ∧ a.ev.port ≤ 65535)) ∨ (a.ev.time < 0 ∧ a.kind = 1 ∧ a.ev.kind = 3 ∧ AcN { a with ev := { a.ev with time := 0 } }) := by
  rcases h.norm with hn | ⟨n, h1, h2, rfl⟩
  · refine .inl ⟨⟨hn, h⟩, ?_⟩
    cases hn
    case dgram => exact ⟨Int.le_refl 0, .inr (.inr ⟨rfl, rfl, by simp only [evA]; omega, by simp only [evA]; omega⟩)⟩
    case tick h0 _ => exact ⟨h0, .inr (.inl ⟨rfl, by simp [evA]⟩)⟩
    case plain => exact ⟨Int.le_refl 0, .inr (.inl ⟨rfl, by simp [evA]⟩)⟩
    case entropy => exact ⟨Int.le_refl 0, .inr (.inl ⟨rfl, by simp [evA]⟩)⟩
    case control => exact ⟨Int.le_refl 0, .inr (.inl ⟨rfl, by simp [evA]⟩)⟩
    all_goals exact ⟨Int.le_refl 0, .inl (by simp)⟩
  · exact .inr ⟨h2, rfl, rfl, .tick 0 (by decide) (by decide), ⟨h.bytes, h.text, h.ip, h.key, .inl (.tick 0 (by decide) (by decide))⟩⟩
theorem ac_time {a : Ac} (h : a.ev.ip.length = 16) : (acC a).take 21 ++ (.int .i64 0 :: (acC a).drop 22) = acC { a with ev := { a.ev with time := 0 } } := by
  have l1 : (a.ev.ip.map byteC).length = 16 := by simp [h]
  have e : ∀ t : Int, acC { a with ev := { a.ev with time := t } } = (.int .i64 a.kind :: .int .i64 a.ev.kind :: .bool a.ev.six :: (a.ev.ip.map byteC ++ [.int .i64 a.ev.port, .lst a.ev.bytes.length (a.ev.bytes.map byteC) false])) ++ (.int .i64 t :: .str a.ev.text :: .int .i64 a.who :: .int .i64 a.n :: byteC a.xor :: .int .i64 a.lo :: .int .i64 a.hi :: a.key.map byteC) := fun t => by simp [acC, evC]
  have e1 : acC a = _ := e a.ev.time
  rw [e 0, e1]
  have l2 : (.int .i64 a.kind :: .int .i64 a.ev.kind :: .bool a.ev.six :: (a.ev.ip.map byteC ++ [.int .i64 a.ev.port, .lst a.ev.bytes.length (a.ev.bytes.map byteC) false])).length = 21 := by simp [l1]
  rw [List.take_left' l2, show (22 : Nat) = 21 + 1 from rfl, ← List.drop_drop, List.drop_left' l2]
  rfl
theorem made_at (codes : List UInt8) (hcl : codes.length < 9223372036854775808) {B : List Box} {args : List CV} (hz : Is args [.lst codes.length (codes.map byteC) false]) : ACall Tryz.prog 7 args B fun c B' => (∃ L : List Ac, L.length ≤ 16 ∧ (∀ x ∈ L, AcN x) ∧ c = .lst L.length (L.flatMap acC) false) ∧ B' = B := by
  obtain rfl := hz
  refine acall_immQ (nz := true) (fr := false) (args' := [.lst codes.length (codes.map byteC) false]) (by simp [go_sem, omap_bytes]) ?_
  have hnw : ∀ {B : List Box} {args : List CV}, Is args [.lst codes.length (codes.map byteC) false, .int .i64 160] → ACall Tryz.prog 19 args B fun c B' => c = .ptr B.length 0 ∧ B' = B ++ [cb (codes.take 160) 0] := fun h => new_at (n := 160) h (by omega)
  have hlt : (codes.take 160).length < 1000000 := by rw [List.length_take]; omega
  generalize codes.take 160 = l at *
  refine acall_intro mixed Tryz.func7 rfl ca7 (by kernel_rfl) (by rw [Tryz.ntmps7]; simp) ?_
  refine w_cut (fun fr W => fr 0 = .lst codes.length (codes.map byteC) false ∧ W = []) ?_ ?_
  · refine w0 ?_ 
    exact ⟨kS, rfl⟩
  rintro fr W ⟨f0, rfl⟩
  refine w_cut (fun fr W => fr 3 = .ptr 0 0 ∧ W = [cb l 0]) ?_ ?_
  · refine w1 @hnw ?_ 
    exact ⟨kS, rfl⟩
  clear f0 hnw fr
  rintro fr W ⟨f3, rfl⟩
  obtain ⟨v1, a1, hv1, ha1, h1⟩ := bg_ex l 1048576 1048576 rfl (Nat.zero_le _) hlt (by omega)
  refine w_cut (fun fr W => ∃ D, DmP D v1 ∧ fr 3 = .ptr 0 0 ∧ fr 4 = .ptr 1 0 ∧ W = [cb l a1, ⟨D, false⟩]) ?_ ?_
  · refine w1 @h1 ?_ 
    exact ⟨_, ⟨rfl, rfl, rfl, rfl⟩, kS, kS, rfl⟩
  clear f3 h1 fr
  rintro fr W ⟨D, hD, f3, f4, rfl⟩
  have hac : ∀ {args : List CV}, Is args [.ptr 0 0, .agg D, .int .i64 16, .bool false] → ACall Tryz.prog 21 args [cb l a1, ⟨D, false⟩] fun c B' => ∃ a', a' ≤ l.length ∧ (∃ out : List Ac, out.length ≤ 16 ∧ (∀ x ∈ out, AcG x) ∧ c = .lst out.length (out.flatMap acC) false) ∧ B' = [cb l a1, ⟨D, false⟩].set 0 (cb l a') := fun h => actions_at h hD ⟨by omega, by omega⟩ rfl (mlow_app (B := []) (G := [cb l a1, ⟨D, false⟩]) mlow_nil (by simp [cb])) ⟨ha1, hlt⟩
  obtain ⟨d1, d2, d3, d4⟩ := hD
  refine w0q @hac ?_ 
  rintro _ _ ⟨a2, ha2, ⟨L, hL, hg, rfl⟩, rfl⟩
  clear hac
  obtain ⟨n, hn⟩ : ∃ n, L.length = n := ⟨_, rfl⟩
  have hcs : Cells acC 60 (L.flatMap acC) L := cells_all fun x hx => acK_len ⟨(hg x hx).ip, (hg x hx).key⟩
  generalize L.flatMap acC = Y at *
  rw [hn]
  replace hg : Hid _ := hg
  replace hcs : Hid _ := hcs
  replace hn : Hid _ := hn
  refine w0 ?_ 
  refine w_loop (fun fr B => ∃ (j : Nat) (out : List Ac), j ≤ n ∧ out.length ≤ j ∧ (∀ x ∈ out, AcN x) ∧ fr 15 = .lst n Y false ∧ fr 16 = .int .i64 n ∧ fr 17 = .int .i64 j ∧ RowsA out (fr 5) B) (fun fr _ => n - natOf (fr 17)) ?_ ?_
  · exact ⟨0, [], by omega, by simp, by simp, kS, kS, kS, .inl ⟨rfl, kS⟩⟩
  clear d1 d2 d3 d4 f3 f4 fr
  rintro fr B ⟨j, out, hj, ho, hko, f15, f16, f17, hr⟩
  have hm : natOf (fr 17) = j := by rw [f17]; rfl
  have hn : L.length = n := hn
  by_cases hc : j < n
  rotate_left
  · obtain rfl : j = n := by omega
    rcases hr with ⟨rfl, f5⟩ | ⟨hne, β, mm, f5, hB⟩
    · refine w0 ?_ 
      exact ⟨_, ⟨[], by simp, by simp, rfl⟩, rfl⟩
    · have hrl := rows_len fun x hx => AcK.mk (hko x hx).g.ip (hko x hx).g.key
      have htk : (out.flatMap acC).take (out.length * 60) = out.flatMap acC := List.take_of_length_le (by omega)
      have hoo : ∀ {B : List Box} {k : Nat}, omap (Go.Sy.fz true false B (k + 3)) (out.flatMap acC) = some (out.flatMap acC) := acs_om out
      have hfin : Hid (∃ o : List Ac, o.length ≤ 16 ∧ (∀ x ∈ o, AcN x) ∧ CV.lst out.length (out.flatMap acC) false = .lst o.length (o.flatMap acC) false) := ⟨out, by omega, hko, rfl⟩
      clear hko hrl
      refine w0 ?_ 
      exact ⟨_, hfin, by simp [go_sem, hB, htk, hoo]⟩
  obtain ⟨ac, hace⟩ : ∃ ac, L[j]'(by omega) = ac := ⟨_, rfl⟩
  have hga : AcG ac := by rw [← hace]; exact (show ∀ x ∈ L, AcG x from hg) _ (List.getElem_mem (by omega))
  obtain ⟨hYl, hYc⟩ : j * 60 + 60 ≤ Y.length ∧ (Y.drop (j * 60)).take 60 = acC ac := by
    have := (show Cells acC 60 Y L from hcs) j (by omega)
    rw [hace] at this
    exact ⟨by omega, this.2⟩
  clear hace
  have p := ac_parts (acG_L hga)
  have x0 := p.d0
  have x1 := p.h1
  have x19 := p.d19
  have x21 := p.d21
  have hXl := p.len
  have hXt := p.all
  have hXs := ac_time hga.ip
  have x19' : (acC ac).drop 19 = .int .i64 ac.ev.port :: (acC ac).drop 20 := by
    rw [show (20 : Nat) = 19 + 1 from rfl, ← List.drop_drop, x19]; rfl
  clear p x19
  have hcases := acG_cases hga
  have hrl := rows_len fun x hx => AcK.mk (hko x hx).g.ip (hko x hx).g.key
  have hol : ∀ b, (out ++ [b]).length = out.length + 1 := fun b => by rw [List.length_append]; rfl
  have hfl : ∀ b, (out ++ [b]).flatMap acC = out.flatMap acC ++ acC b := fun b => by rw [List.flatMap_append, List.flatMap_singleton]
  have hk2 : ∀ b, AcN b → ∀ x ∈ out ++ [b], AcN x := fun b hb x hx => by
    rcases List.mem_append.1 hx with h | h
    · exact hko x h
    · rw [List.mem_singleton] at h; subst h; exact hb
  have hne2 : ∀ b, out ++ [b] ≠ [] := fun b => by simp
  clear hfl
  replace hol : Hid _ := hol
  replace hk2 : Hid _ := hk2
  replace hne2 : Hid _ := hne2
  clear hga hko
  rcases hcases with ⟨hN, ht, hk⟩ | ⟨ht, hk, he, hN⟩
  · replace hN : Hid _ := hN
    have ht' : ¬ ac.ev.time < 0 := by omega
    rcases hk with hk | ⟨hk, he⟩ | ⟨hk, he, hp1, hp2⟩
    · have hk' : (ac.kind == 1) = false := by simpa using hk
      obtain ⟨out2, ho2⟩ : ∃ o, out ++ [ac] = o := ⟨_, rfl⟩
      have hol3 := (show ∀ b : Ac, (out ++ [b]).length = out.length + 1 from hol) ac
      have hfl : (out ++ [ac]).flatMap acC = out.flatMap acC ++ (acC ac) := by rw [List.flatMap_append, List.flatMap_singleton]
      have hk3 := (show ∀ b : Ac, AcN b → ∀ x ∈ out ++ [b], AcN x from hk2) ac hN
      have hne3 := (show ∀ b : Ac, out ++ [b] ≠ [] from hne2) ac
      rw [ho2] at hol3 hfl hk3 hne3
      replace hol3 : Hid _ := hol3
      replace hfl : Hid _ := hfl
      replace hk3 : Hid _ := hk3
      replace hne3 : Hid _ := hne3
      clear ho2 hol hk2 hne2
      rcases hr with ⟨rfl, f5⟩ | ⟨hne, β, mm, f5, hB⟩
      · refine w_ME00 ?_ 
        have hol : out2.length = 0 + 1 := hol3
        have hfl : out2.flatMap acC = (acC ac) := hfl
        exact ⟨⟨j + 1, out2, by omega, by omega, hk3, kS, kS, kS, .inr ⟨hne3, B.length + 1, _, by rw [hol]; (simp (disch := omega) [go_sem, *]) <;> (try omega), by rw [hfl]; (simp (disch := omega) [go_sem, *, bx_get0, bx_get, bx_set0, bx_set]) <;> (try omega)⟩⟩, kS⟩
      · have xb := bx_pack hB
        have hon : out.length ≤ 16 := by omega
        have hbn : (out.length + 1) * Tryz.prog.bytesOf 47 ≤ 140737488355328 := by
          have : Tryz.prog.bytesOf 47 ≤ 1000 := by decide +kernel
          have : (out.length + 1) * Tryz.prog.bytesOf 47 ≤ 17 * 1000 := Nat.mul_le_mul (by omega) this
          omega
        have hbn2 : (out.length + 1) * 168 ≤ 140737488355328 := by omega
        refine w_ME00 ?_ 
        have hol : out2.length = out.length + 1 := hol3
        have hfl : out2.flatMap acC = out.flatMap acC ++ (acC ac) := hfl
        exact ⟨⟨j + 1, out2, by omega, by omega, hk3, kS, kS, kS, .inr ⟨hne3, β, true, by rw [hol]; (simp (disch := omega) [go_sem, *]) <;> (try omega), by rw [hfl]; exact xb.2.2.2.1 _ _⟩⟩, kS⟩
    · have he' : (ac.ev.kind == 2) = false := by simpa using he
      obtain ⟨out2, ho2⟩ : ∃ o, out ++ [ac] = o := ⟨_, rfl⟩
      have hol3 := (show ∀ b : Ac, (out ++ [b]).length = out.length + 1 from hol) ac
      have hfl : (out ++ [ac]).flatMap acC = out.flatMap acC ++ (acC ac) := by rw [List.flatMap_append, List.flatMap_singleton]
      have hk3 := (show ∀ b : Ac, AcN b → ∀ x ∈ out ++ [b], AcN x from hk2) ac hN
      have hne3 := (show ∀ b : Ac, out ++ [b] ≠ [] from hne2) ac
      rw [ho2] at hol3 hfl hk3 hne3
      replace hol3 : Hid _ := hol3
      replace hfl : Hid _ := hfl
      replace hk3 : Hid _ := hk3
      replace hne3 : Hid _ := hne3
      clear ho2 hol hk2 hne2
      rcases hr with ⟨rfl, f5⟩ | ⟨hne, β, mm, f5, hB⟩
      · refine w_ME00 ?_ 
        have hol : out2.length = 0 + 1 := hol3
        have hfl : out2.flatMap acC = (acC ac) := hfl
        exact ⟨⟨j + 1, out2, by omega, by omega, hk3, kS, kS, kS, .inr ⟨hne3, B.length + 1, _, by rw [hol]; (simp (disch := omega) [go_sem, *]) <;> (try omega), by rw [hfl]; (simp (disch := omega) [go_sem, *, bx_get0, bx_get, bx_set0, bx_set]) <;> (try omega)⟩⟩, kS⟩
      · have xb := bx_pack hB
        have hon : out.length ≤ 16 := by omega
        have hbn : (out.length + 1) * Tryz.prog.bytesOf 47 ≤ 140737488355328 := by
          have : Tryz.prog.bytesOf 47 ≤ 1000 := by decide +kernel
          have : (out.length + 1) * Tryz.prog.bytesOf 47 ≤ 17 * 1000 := Nat.mul_le_mul (by omega) this
          omega
        have hbn2 : (out.length + 1) * 168 ≤ 140737488355328 := by omega
        refine w_ME00 ?_ 
        have hol : out2.length = out.length + 1 := hol3
        have hfl : out2.flatMap acC = out.flatMap acC ++ (acC ac) := hfl
        exact ⟨⟨j + 1, out2, by omega, by omega, hk3, kS, kS, kS, .inr ⟨hne3, β, true, by rw [hol]; (simp (disch := omega) [go_sem, *]) <;> (try omega), by rw [hfl]; exact xb.2.2.2.1 _ _⟩⟩, kS⟩
    · have hp' : (ac.ev.port == 0) = false := by simpa using (by omega : ac.ev.port ≠ 0)
      have hp'' : ¬ 65535 < ac.ev.port := by omega
      obtain ⟨out2, ho2⟩ : ∃ o, out ++ [ac] = o := ⟨_, rfl⟩
      have hol3 := (show ∀ b : Ac, (out ++ [b]).length = out.length + 1 from hol) ac
      have hfl : (out ++ [ac]).flatMap acC = out.flatMap acC ++ (acC ac) := by rw [List.flatMap_append, List.flatMap_singleton]
      have hk3 := (show ∀ b : Ac, AcN b → ∀ x ∈ out ++ [b], AcN x from hk2) ac hN
      have hne3 := (show ∀ b : Ac, out ++ [b] ≠ [] from hne2) ac
      rw [ho2] at hol3 hfl hk3 hne3
      replace hol3 : Hid _ := hol3
      replace hfl : Hid _ := hfl
      replace hk3 : Hid _ := hk3
      replace hne3 : Hid _ := hne3
      clear ho2 hol hk2 hne2
      rcases hr with ⟨rfl, f5⟩ | ⟨hne, β, mm, f5, hB⟩
      · refine w_ME00 ?_ 
        have hol : out2.length = 0 + 1 := hol3
        have hfl : out2.flatMap acC = (acC ac) := hfl
        exact ⟨⟨j + 1, out2, by omega, by omega, hk3, kS, kS, kS, .inr ⟨hne3, B.length + 1, _, by rw [hol]; (simp (disch := omega) [go_sem, *]) <;> (try omega), by rw [hfl]; (simp (disch := omega) [go_sem, *, bx_get0, bx_get, bx_set0, bx_set]) <;> (try omega)⟩⟩, kS⟩
      · have xb := bx_pack hB
        have hon : out.length ≤ 16 := by omega
        have hbn : (out.length + 1) * Tryz.prog.bytesOf 47 ≤ 140737488355328 := by
          have : Tryz.prog.bytesOf 47 ≤ 1000 := by decide +kernel
          have : (out.length + 1) * Tryz.prog.bytesOf 47 ≤ 17 * 1000 := Nat.mul_le_mul (by omega) this
          omega
        have hbn2 : (out.length + 1) * 168 ≤ 140737488355328 := by omega
        refine w_ME00 ?_ 
        have hol : out2.length = out.length + 1 := hol3
        have hfl : out2.flatMap acC = out.flatMap acC ++ (acC ac) := hfl
        exact ⟨⟨j + 1, out2, by omega, by omega, hk3, kS, kS, kS, .inr ⟨hne3, β, true, by rw [hol]; (simp (disch := omega) [go_sem, *]) <;> (try omega), by rw [hfl]; exact xb.2.2.2.1 _ _⟩⟩, kS⟩
  · replace hN : Hid _ := hN
    obtain ⟨ac2, hac2⟩ : ∃ a2 : Ac, { ac with ev := { ac.ev with time := 0 } } = a2 := ⟨_, rfl⟩
    rw [hac2] at hN hXs
    obtain ⟨Z, hZ⟩ : ∃ Z, acC ac2 = Z := ⟨_, rfl⟩
    rw [hZ] at hXs
    have hZl : Z.length = 60 := by rw [← hXs]; simp; omega
    have hZt : Z.take 60 = Z := List.take_of_length_le (by omega)
    have he' : (ac.ev.kind == 2) = false := by rw [he]; rfl
    have hN : Hid (AcN ac2) := hN
    replace hZ : Hid (acC ac2 = Z) := hZ
    obtain ⟨out2, ho2⟩ : ∃ o, out ++ [ac2] = o := ⟨_, rfl⟩
    have hol3 := (show ∀ b : Ac, (out ++ [b]).length = out.length + 1 from hol) ac2
    have hfl : (out ++ [ac2]).flatMap acC = out.flatMap acC ++ Z := by rw [List.flatMap_append, List.flatMap_singleton, show acC ac2 = Z from hZ]
    have hk3 := (show ∀ b : Ac, AcN b → ∀ x ∈ out ++ [b], AcN x from hk2) ac2 hN
    have hne3 := (show ∀ b : Ac, out ++ [b] ≠ [] from hne2) ac2
    rw [ho2] at hol3 hfl hk3 hne3
    replace hol3 : Hid _ := hol3
    replace hfl : Hid _ := hfl
    replace hk3 : Hid _ := hk3
    replace hne3 : Hid _ := hne3
    clear ho2 hol hk2 hne2
    rcases hr with ⟨rfl, f5⟩ | ⟨hne, β, mm, f5, hB⟩
    · refine w_ME00 ?_ 
      have hol : out2.length = 0 + 1 := hol3
      have hfl : out2.flatMap acC = Z := hfl
      exact ⟨⟨j + 1, out2, by omega, by omega, hk3, kS, kS, kS, .inr ⟨hne3, B.length + 1, _, by rw [hol]; (simp (disch := omega) [go_sem, *]) <;> (try omega), by rw [hfl]; (simp (disch := omega) [go_sem, *, bx_get0, bx_get, bx_set0, bx_set]) <;> (try omega)⟩⟩, kS⟩
    · have xb := bx_pack hB
      have hon : out.length ≤ 16 := by omega
      have hbn : (out.length + 1) * Tryz.prog.bytesOf 47 ≤ 140737488355328 := by
        have : Tryz.prog.bytesOf 47 ≤ 1000 := by decide +kernel
        have : (out.length + 1) * Tryz.prog.bytesOf 47 ≤ 17 * 1000 := Nat.mul_le_mul (by omega) this
        omega
      have hbn2 : (out.length + 1) * 168 ≤ 140737488355328 := by omega
      refine w_ME00 ?_ 
      have hol : out2.length = out.length + 1 := hol3
      have hfl : out2.flatMap acC = out.flatMap acC ++ Z := hfl
      exact ⟨⟨j + 1, out2, by omega, by omega, hk3, kS, kS, kS, .inr ⟨hne3, β, true, by rw [hol]; (simp (disch := omega) [go_sem, *]) <;> (try omega), by rw [hfl]; exact xb.2.2.2.1 _ _⟩⟩, kS⟩
end Go.Proofs.YtcbdghgogmcllaaGreatDoor
end
section
namespace Go.Proofs.YtcbdghgogmcllaaGreatDoor
open Go Go.Sy
theorem kE_SQ0 {α : Type} {x y : α} (h : Is x y := by first | ((try simp (disch := first | omega | (simp only [yZ, yB] <;> omega) | fail) [go_sem, yY, *, bx_get0, bx_get, bx_set0, bx_set, if_pos, if_neg, -List.map_take, -List.map_drop, -List.map_append, -List.map_reverse]); exact rfl) | fail) : Is x y := h
theorem kD_SQ0 {p : Prop} (h : p := by (first | omega | assumption | exact rfl | ((simp (disch := first | omega | (simp only [yZ, yB] <;> omega) | fail) [go_sem, yY, *, bx_get0, bx_get, bx_set0, bx_set, -List.map_take, -List.map_drop, -List.map_append, -List.map_reverse]) <;> (first | done | omega | exact rfl)) | fail)) : p := h
theorem wB_SQ0 {p q : Prop} (k : q) (h : Hq q → p := by (intro k; (repeat' (first | (with_reducible first | apply jA | apply jB | apply jC | apply jD | apply jE | apply jF | apply jG | apply jH | apply jI | apply jJ | apply jK | apply jL | apply jM | apply jN | apply jO) | ((with_reducible first | apply jP | apply jQ); rfl) | ((first | ((with_reducible first | apply jR | apply jS | apply jT); rfl; rfl) | (with_reducible first | apply jU | apply jV | apply jW) | ((with_reducible first | apply jX | apply jY | apply jZ); rfl) | ((with_reducible first | apply kA | apply kB | apply kC); rfl)); all_goals (first | ((with_reducible show Is _ _); exact kE_SQ0) | ((with_reducible refine fun (hc : (_ : Bool) = _) => ?_); (try simp only [xZ, xY, xP, reduceCtorEq] at hc); (try (have hx : True := hc; clear hx hc)); (try exact kX)) | ((with_reducible show ACall _ _ _ _ _); (first | ((with_reducible apply c0) <;> exact kD_SQ0) | ((with_reducible apply c1) <;> exact kD_SQ0) | ((with_reducible apply c2) <;> exact kD_SQ0) | ((with_reducible apply c3) <;> exact kD_SQ0) | ((with_reducible apply c4) <;> exact kD_SQ0) | ((with_reducible apply c5) <;> exact kD_SQ0) | ((with_reducible apply c6) <;> exact kD_SQ0) | ((with_reducible apply c7) <;> exact kD_SQ0))) | ((fail_if_success (with_reducible first | show Is _ _ | show ACall _ _ _ _ _)); (try ((with_reducible show _ ∨ _); exact kT))))) | (((with_reducible first | apply o_callQ | apply q_callQ); rfl); (iterate 2 exact kE_SQ0); (first | ((with_reducible apply q0) <;> exact kD_SQ0))))); exact hq k)) : p := h ⟨k⟩
theorem w_SQ02 {A0 A1 p q : Prop} (c0 : A0) (c1 : A1) (k : q) (h : A0 → A1 → Hq q → p := by (intro c0 c1 k; exact wB_SQ0 (hq k))) : p := h c0 c1 ⟨k⟩
theorem parS_nil (k : Nat) (out : List Ac) : parL pfS (splitL 10 []) k out = if 400 < out.length then ([], 0, 12) else (out, 0, 0) := by
  rw [splitL, parL, if_pos rfl]
theorem parS_miss {r : List UInt8} (k : Nat) (out : List Ac) (hr : r ≠ []) (h : Go.Lib.indexByte r 10 < 0) : parL pfS (splitL 10 r) k out = ([], (k : Int), 5) := by
  have := Go.Lib.indexByte_ge r 10
  rw [splitL_miss 10 r (by rw [Go.Lib.index_one]; omega), parL, if_neg hr]
theorem indexB_len {r : List UInt8} {i : Nat} (h : Go.Lib.indexByte r 10 = i) : i < r.length ∧ r[i]? = some 10 := by
  have := (Go.Lib.indexByte_some h).1
  exact ⟨(List.getElem?_eq_some_iff.1 this).1, this⟩
theorem parS_hit {r : List UInt8} {i : Nat} (k : Nat) (out : List Ac) (h : Go.Lib.indexByte r 10 = i) : parL pfS (splitL 10 r) k out = if (parseS (r.take (i + 1))).2 then parL pfS (splitL 10 (r.drop (i + 1))) (k + 1) (out ++ [(parseS (r.take (i + 1))).1]) else ([], (k : Int), 5) := by
  obtain ⟨h1, h2⟩ := indexB_len h
  have e : r.take i ++ [10] = r.take (i + 1) := by
    rw [List.take_succ_eq_append_getElem h1]
    rw [List.getElem?_eq_getElem h1] at h2
    rw [Option.some.inj h2]
  obtain ⟨y, t, hy⟩ := List.exists_cons_of_ne_nil (splitL_ne 10 (r.drop (i + 1)))
  rw [splitL_hit 10 r i (by rw [Go.Lib.index_one, h]), hy, parL, pfS, e]
theorem sParse_in (s : List UInt8) (hs : s.length < 1000000) : PC Tryz.prog false 9 [.str s] (parC (parV s)) := by
  have hp0 : parL pfS (splitL 10 s) 1 [] = parV s := rfl
  generalize parV s = V at *
  refine acall_intro mixed Tryz.func9 rfl ca9 (by kernel_rfl) (by rw [Tryz.ntmps9]; simp) ?_
  refine w0 ?_ 
  refine w_loop (fun fr B => ∃ (k : Nat) (r : List UInt8) (out : List Ac), parL pfS (splitL 10 r) k out = V ∧ r.length + k ≤ s.length + 1 ∧ out.length + 1 = k ∧ (∀ a ∈ out, AcK a) ∧ fr 0 = .str r ∧ fr 6 = .int .i64 k ∧ RowsA out (fr 5) B) (fun fr _ => match fr 0 with | .str r => r.length | _ => 0) ?_ ?_
  · exact ⟨1, s, [], hp0, by omega, rfl, by simp, kS, kS, .inl ⟨rfl, kS⟩⟩
  clear hp0
  rintro fr B ⟨k, r, out, hp, hk, ho, hka, f0, f6, hr⟩
  by_cases hr0 : r = []
  · subst hr0
    rw [parS_nil] at hp
    subst hp
    rcases hr with ⟨rfl, f5⟩ | ⟨hone, β, mm, f5, hB⟩
    · clear hka
      refine w0 ?_ 
      rfl
    · have hrl := rows_len hka
      have htk : (out.flatMap acC).take (out.length * 60) = out.flatMap acC := List.take_of_length_le (by omega)
      have hoo : ∀ {B : List Box} {k : Nat}, omap (Go.Sy.fz true false B (k + 3)) (out.flatMap acC) = some (out.flatMap acC) := acs_om out
      have hob : out.length < 1000001 := by omega
      obtain ⟨m, hom⟩ : ∃ m, out.length = m := ⟨_, rfl⟩
      rw [hom] at f5 htk hob ⊢
      clear hrl hka hone
      by_cases h400 : 400 < m
      · have h400' : (400 : Int) < m := by omega
        rw [if_pos h400]
        clear hB htk hoo
        refine w0 ?_ 
        rfl
      · have h400' : ¬ (400 : Int) < m := by omega
        rw [if_neg h400]
        refine w0 ?_ 
        simp only [parC]
        rw [hom]
        simp [go_sem, hB, htk, hoo]
  have hrl : 0 < r.length := List.length_pos_iff.2 hr0
  have hrl' : (0 : Int) < r.length := by omega
  have hix : ∀ {B : List Box} {args : List CV}, Is args [.str r, .str [10]] → ACall Tryz.prog 22 args B fun c B' => c = .int .i64 (Go.Lib.indexByte r 10) ∧ B' = B := fun h => index_at.eq h
  have hge := Go.Lib.indexByte_ge r 10
  by_cases hmiss : Go.Lib.indexByte r 10 < 0
  · rw [parS_miss k out hr0 hmiss] at hp
    subst hp
    have e : Go.Lib.indexByte r 10 = -1 := by omega
    rw [e] at hix
    clear hge hmiss e hr hka
    refine w1 @hix ?_ 
    rfl
  obtain ⟨i, hi⟩ : ∃ i : Nat, Go.Lib.indexByte r 10 = i := ⟨(Go.Lib.indexByte r 10).toNat, by omega⟩
  rw [parS_hit k out hi] at hp
  have hil := (indexB_len hi).1
  rw [hi] at hix
  clear hge hmiss hi
  have hpl : (r.take (i + 1)).length < 1000000 := by rw [List.length_take]; omega
  have hps : ∀ {B : List Box} {args : List CV}, Is args [.str (r.take (i + 1))] → ACall Tryz.prog 23 args B fun c B' => c = .tup [.agg (acC (parseS (r.take (i + 1))).1), .bool (parseS (r.take (i + 1))).2] ∧ B' = B := fun hz => parseS_at hz hpl
  have hpL : AcL (parseS (r.take (i + 1))).1 := parseS_L hpl
  have hK : AcK (parseS (r.take (i + 1))).1 := ⟨hpL.ev.ip, hpL.key⟩
  have hzl := acK_len hK
  have hzo : ∀ {nz : Bool} {B : List Box} {k : Nat}, omap (Go.Sy.fz nz false B (k + 3)) (acC (parseS (r.take (i + 1))).1) = some (acC (parseS (r.take (i + 1))).1) := acC_om
  have hzt : (acC (parseS (r.take (i + 1))).1).take 60 = acC (parseS (r.take (i + 1))).1 := List.take_of_length_le (by omega)
  clear hpL
  have hrd : (r.drop (i + 1)).length = r.length - (i + 1) := List.length_drop
  cases hok : (parseS (r.take (i + 1))).2 with
  | false =>
    rw [hok] at hp hps
    simp only [Bool.false_eq_true, if_false] at hp
    subst hp
    clear hok hr hK hka
    generalize acC (parseS (r.take (i + 1))).1 = Z at *
    have hil2 : (i : Int) + 1 ≤ r.length := by omega
    have hi0 : ¬ ((i : Int) + 1 = 0) := by omega
    refine w_SQ02 @hix @hps ?_ 
    rfl
  | true =>
    rw [hok] at hp hps
    rw [if_pos rfl] at hp
    have hk2 : ∀ a ∈ out ++ [(parseS (r.take (i + 1))).1], AcK a := fun a ha => by
      rcases List.mem_append.1 ha with h | h
      · exact hka a h
      · rw [List.mem_singleton] at h; subst h; exact hK
    have hfl : (out ++ [(parseS (r.take (i + 1))).1]).flatMap acC = out.flatMap acC ++ acC (parseS (r.take (i + 1))).1 := by rw [List.flatMap_append, List.flatMap_singleton]
    have hol : (out ++ [(parseS (r.take (i + 1))).1]).length = k := by rw [List.length_append, ← ho]; rfl
    have hrw := rows_len hka
    generalize (parseS (r.take (i + 1))).1 = b at *
    have hone2 : out ++ [b] ≠ [] := by simp
    obtain ⟨out2, ho2⟩ : ∃ out2, out ++ [b] = out2 := ⟨_, rfl⟩
    rw [ho2] at hk2 hfl hol hp hone2
    generalize acC b = X at *
    generalize hDD : out.flatMap acC = D at *
    replace hk2 : Hid _ := hk2
    replace hfl : Hid _ := hfl
    replace hol : Hid _ := hol
    replace hp : Hid _ := hp
    replace hone2 : Hid _ := hone2
    have hil2 : (i : Int) + 1 ≤ r.length := by omega
    have hi0 : ¬ ((i : Int) + 1 = 0) := by omega
    clear hok hK hka ho2
    rcases hr with ⟨rfl, f5⟩ | ⟨hone, β, mm, f5, hB⟩
    · refine w_SQ02 @hix @hps ?_ 
      have hol : out2.length = 1 := by have := (show out2.length = k from hol); rw [this, ← ho]; rfl
      have hD : D = [] := List.eq_nil_of_length_eq_zero (by simpa using hrw)
      have hfl : out2.flatMap acC = D ++ X := hfl
      rw [hD] at hfl
      have hk1 : k = 1 := by rw [← ho]; rfl
      subst hk1
      have hp : parL pfS (splitL 10 (r.drop (i + 1))) 2 out2 = V := hp
      exact ⟨⟨2, r.drop (i + 1), out2, hp, by omega, by omega, hk2, kS, kS, .inr ⟨hone2, B.length + 1, false, by rw [hol]; (simp (disch := omega) [go_sem, *]) <;> (try omega), by rw [hfl]; (simp (disch := omega) [go_sem, *, bx_get0, bx_get, bx_set0, bx_set]) <;> (try omega)⟩⟩, by show (r.drop (i + 1)).length < _; rw [f0]; show _ < r.length; omega⟩
    · have xb := bx_pack hB
      refine w_SQ02 @hix @hps ?_ 
      have hol : out2.length = out.length + 1 := by have := (show out2.length = k from hol); omega
      have hfl : out2.flatMap acC = D ++ X := hfl
      have hp : parL pfS (splitL 10 (r.drop (i + 1))) (k + 1) out2 = V := hp
      exact ⟨⟨k + 1, r.drop (i + 1), out2, hp, by omega, by omega, hk2, kS, kS, .inr ⟨hone2, β, true, by rw [hol]; (simp (disch := omega) [go_sem, *]) <;> (try omega), by rw [hfl]; exact xb.2.2.2.1 _ _⟩⟩, by show (r.drop (i + 1)).length < _; rw [f0]; show _ < r.length; omega⟩
end Go.Proofs.YtcbdghgogmcllaaGreatDoor
end
section
namespace Go.Proofs.YtcbdghgogmcllaaGreatDoor
open Go Go.Sy
theorem sameAll_in (a b : List Ac) (ha : ∀ x ∈ a, AcL x) (hb : ∀ x ∈ b, AcL x) (la : a.length < 1000000) (lb' : b.length < 1000000) {t : Bool} (ht : t = true ↔ a = b) : PC Tryz.prog true 11 [.lst a.length (a.flatMap acC) false, .lst b.length (b.flatMap acC) false] (.bool t) := by
  have hca : Cells acC 60 (a.flatMap acC) a := cells_all fun x hx => acC_len (ha x hx)
  have hcb : Cells acC 60 (b.flatMap acC) b := cells_all fun x hx => acC_len (hb x hx)
  generalize a.flatMap acC = Y at *
  generalize b.flatMap acC = Z at *
  refine acall_intro mixed Tryz.func11 rfl ca11 (by kernel_rfl) (by rw [Tryz.ntmps11]; simp) ?_
  by_cases hl : a.length = b.length
  rotate_left
  · have e : t = false := by
      rw [Bool.eq_false_iff]; intro h; exact hl (by rw [ht.1 h])
    subst e
    clear ht
    have h1 : ((a.length : Int) != b.length) = true := by simpa using (by omega : (a.length : Int) ≠ b.length)
    clear hca hcb ha hb
    refine w0 ?_ 
    rfl
  obtain ⟨n, hn⟩ : ∃ n, a.length = n := ⟨_, rfl⟩
  have hbn : b.length = n := by omega
  rw [hn, hbn]
  have hnl : n < 1000000 := by omega
  have ht' : Hid (t = true ↔ a = b) := ht
  clear ht hl
  replace hn : Hid _ := hn
  replace hbn : Hid _ := hbn
  clear la lb'
  replace hca : Hid _ := hca
  replace hcb : Hid _ := hcb
  refine w0 ?_ 
  refine w_loop (fun fr B => ∃ j, j ≤ n ∧ a.take j = b.take j ∧ fr 13 = .int .i64 j ∧ fr 12 = .int .i64 n ∧ fr 0 = .lst n Y false ∧ fr 1 = .lst n Z false) (fun fr _ => n - natOf (fr 13)) ?_ ?_
  · exact ⟨0, by omega, by simp, kS, kS, kS, kS⟩
  rintro fr B ⟨j, hj, he, f13, f12, f0, f1⟩
  have hm : natOf (fr 13) = j := by rw [f13]; rfl
  have hn : a.length = n := hn
  have hbn : b.length = n := hbn
  have ht : t = true ↔ a = b := ht'
  by_cases hc : j < n
  · have hja : j < a.length := by omega
    have hjb : j < b.length := by omega
    have g1 := (show Cells acC 60 Y a from hca) j hja
    have g2 := (show Cells acC 60 Z b from hcb) j hjb
    have hA := ha a[j] (List.getElem_mem hja)
    have hB := hb b[j] (List.getElem_mem hjb)
    have hsm : ∀ {B : List Box} {args : List CV}, Is (omap (fz true false B 6) args) (some [.agg (acC a[j]), .agg (acC b[j])]) → ACall Tryz.prog 18 args B fun c B' => c = .bool (sameA a[j] b[j]) ∧ B' = B := fun hz => rsame_at hz hA hB rfl
    have hoa : ∀ {nz : Bool} {B : List Box} {k : Nat}, omap (Go.Sy.fz nz false B (k + 3)) (acC a[j]) = some (acC a[j]) := acC_om
    have hob : ∀ {nz : Bool} {B : List Box} {k : Nat}, omap (Go.Sy.fz nz false B (k + 3)) (acC b[j]) = some (acC b[j]) := acC_om
    have hla := acC_len hA
    have hlb := acC_len hB
    have hta : (acC a[j]).take 60 = acC a[j] := List.take_of_length_le (by omega)
    have htb : (acC b[j]).take 60 = acC b[j] := List.take_of_length_le (by omega)
    have h1 : sameA a[j] b[j] = true → a.take (j + 1) = b.take (j + 1) := fun h => by
      rw [List.take_succ_eq_append_getElem hja, List.take_succ_eq_append_getElem hjb, he, sameA_iff.1 h]
    have h2 : sameA a[j] b[j] = false → t = false := fun h => by
      rw [Bool.eq_false_iff]
      intro h3
      have h4 := ht.1 h3
      subst h4
      rw [sameA_iff.2 rfl] at h
      cases h
    clear hca hcb hA hB ha hb ht ht' he
    generalize acC a[j] = X1 at *
    generalize acC b[j] = X2 at *
    generalize sameA a[j] b[j] = u at *
    obtain ⟨g1a, g1b⟩ := g1
    obtain ⟨g2a, g2b⟩ := g2
    have hyl : j * 60 + 60 ≤ Y.length := by omega
    have hzl : j * 60 + 60 ≤ Z.length := by omega
    cases u with
    | true =>
      have h1' : Hid _ := h1 rfl
      clear h1 h2
      refine w1 @hsm ?_ 
      exact ⟨⟨j + 1, by omega, h1', kS, kS, kS, kS⟩, kS⟩
    | false =>
      have e := h2 rfl
      subst e
      clear h1 h2
      refine w1 @hsm ?_ 
      rfl
  · obtain rfl : j = n := by omega
    have e : t = true := by
      refine ht.2 ?_
      rw [← hn, List.take_length, hn, ← hbn, List.take_length] at he
      exact he
    subst e
    clear ht ht' ha hb hca hcb he
    refine w0 ?_ 
    rfl
theorem sameAll_at {B : List Box} {args : List CV} {a b : List Ac} {n m : Nat} {t : Bool} (hz : Is (omap (fz true false B 6) args) (some [.lst n (a.flatMap acC) false, .lst m (b.flatMap acC) false])) (hn : n = a.length) (hm : m = b.length) (ha : ∀ x ∈ a, AcL x) (hb : ∀ x ∈ b, AcL x) (la : a.length < 1000000) (lb' : b.length < 1000000) (ht : t = true ↔ a = b) : ACall Tryz.prog 11 args B fun c B' => c = .bool t ∧ B' = B := by
  subst hn hm
  exact acall_fresh hz (sameAll_in a b ha hb la lb' ht)
end Go.Proofs.YtcbdghgogmcllaaGreatDoor
end
section
namespace Go.Proofs.YtcbdghgogmcllaaGreatDoor
open Go Go.Sy
def sPick : List UInt8 := [112, 105, 99, 107, 32, 48, 32, 53, 49, 50, 10]
def sTick : List UInt8 := [112, 105, 99, 107, 32, 48, 32, 53, 49, 50, 10, 116, 105, 99, 107, 32, 48, 48, 55, 10]
theorem num_512 : numR [53, 49, 50] = (512, true) := by decide +kernel
theorem num_007 : numR [48, 48, 55] = (0, false) := by decide +kernel
theorem line_pick : lineR [112, 105, 99, 107, 32, 48, 32, 53, 49, 50] = ({ act0 with kind := 3, who := 0, n := (numR [53, 49, 50]).1 }, (numR [53, 49, 50]).2) := rfl
theorem line_tick : lineR [116, 105, 99, 107, 32, 48, 48, 55] = (evA { ev0 with kind := 3, time := (numR [48, 48, 55]).1 }, (numR [48, 48, 55]).2) := rfl
theorem par_pick : parV sPick = ([{ act0 with kind := 3, who := 0, n := 512 }], 0, 0) := by
  have e : splitL 10 sPick = [[112, 105, 99, 107, 32, 48, 32, 53, 49, 50], []] := by decide +kernel
  rw [par_eq, parR, e, parL, line_pick, num_512]
  rfl
theorem par_tick : parV sTick = ([], 2, 5) := by
  have e : splitL 10 sTick = [[112, 105, 99, 107, 32, 48, 32, 53, 49, 50], [116, 105, 99, 107, 32, 48, 48, 55], []] := by decide +kernel
  rw [par_eq, parR, e, parL, line_pick, num_512]
  show parL lineR [[116, 105, 99, 107, 32, 48, 48, 55], []] 2 [{ act0 with kind := 3, who := 0, n := 512 }] = _
  rw [parL, line_tick, num_007]
  rfl
theorem sParse_at {B : List Box} {args : List CV} {s : List UInt8} (hz : Is args [.str s]) (hs : s.length < 1000000) : ACall Tryz.prog 9 args B fun c B' => c = parC (parV s) ∧ B' = B := by
  obtain rfl := hz
  exact acall_imm (nz := true) (by simp [go_sem]) (sParse_in s hs)
theorem begun_in : PC Tryz.prog true 12 [] (.bool true) := by
  have h1 : ∀ {B : List Box} {args : List CV}, Is args [.str sPick] → ACall Tryz.prog 9 args B fun c B' => c = parC ([{ act0 with kind := 3, who := 0, n := 512 }], 0, 0) ∧ B' = B := fun {B args} h => by
    have := sParse_at (B := B) h (by decide)
    rw [par_pick] at this
    exact this
  have h2 : ∀ {B : List Box} {args : List CV}, Is args [.str sTick] → ACall Tryz.prog 9 args B fun c B' => c = parC ([], 2, 5) ∧ B' = B := fun {B args} h => by
    have := sParse_at (B := B) h (by decide)
    rw [par_tick] at this
    exact this
  simp only [parC, sPick, sTick] at h1 h2
  have e : ([{ act0 with kind := 3, who := 0, n := 512 }] : List Ac).flatMap acC = .int .i64 3 :: ((zE.set 19 (.lst 0 [] false)) ++ (.int .i64 0 :: .int .i64 512 :: .int .u8 0 :: .int .i64 0 :: .int .i64 0 :: z32.map byteC)) := rfl
  rw [e] at h1
  have hl : ((zE.set 19 (.lst 0 [] false)) ++ (.int .i64 0 :: .int .i64 512 :: .int .u8 0 :: .int .i64 0 :: .int .i64 0 :: z32.map byteC)).length = 59 := rfl
  have hd : ((zE.set 19 (.lst 0 [] false)) ++ (.int .i64 0 :: .int .i64 512 :: .int .u8 0 :: .int .i64 0 :: .int .i64 0 :: z32.map byteC)).drop 23 = .int .i64 512 :: (.int .u8 0 :: .int .i64 0 :: .int .i64 0 :: z32.map byteC) := rfl
  have hd2 : ((zE.set 19 (.lst 0 [] false)) ++ (.int .i64 0 :: .int .i64 512 :: .int .u8 0 :: .int .i64 0 :: .int .i64 0 :: z32.map byteC))[23]? = some (.int .i64 512) := rfl
  generalize (zE.set 19 (.lst 0 [] false)) ++ (.int .i64 0 :: .int .i64 512 :: .int .u8 0 :: .int .i64 0 :: .int .i64 0 :: z32.map byteC) = Z at *
  refine acall_intro mixed Tryz.func12 rfl ca12 (by kernel_rfl) (by rw [Tryz.ntmps12]; simp) ?_
  refine w2 @h1 @h2 ?_ 
  rfl
theorem begun_at {B : List Box} {args : List CV} (hz : Is (omap (fz true false B 6) args) (some [])) : ACall Tryz.prog 12 args B fun c B' => c = .bool true ∧ B' = B := acall_fresh hz begun_in
end Go.Proofs.YtcbdghgogmcllaaGreatDoor
end
section
namespace Go.Proofs.YtcbdghgogmcllaaGreatDoor
open Go Go.Sy
theorem shortB_at {B : List Box} {args : List CV} {l : List UInt8} {n : Nat} {m : Int} (hz : Is args [.str l, .int .i64 m]) (hm : m = n) (hl : l.length ≤ maxLen) (hn : n < 1000) : ACall Tryz.prog 8 args B fun c B' => c = .str (l.take n) ∧ B' = B := by
  obtain rfl := hz
  subst hm
  exact acall_fresh (nz := true) (by simp [go_sem]) (short_in l n hn hl)
structure AcW (a : Ac) : Prop where
  ip : a.ev.ip.length = 16
  key : a.key.length = 32
  bytes : a.ev.bytes.length ≤ maxLen
  text : a.ev.text.length ≤ maxLen
  ek : i64 a.ev.kind
  po : i64 a.ev.port
  ti : i64 a.ev.time
  kind : i64 a.kind
  who : i64 a.who
  n : i64 a.n
  lo : i64 a.lo
  hi : i64 a.hi
end Go.Proofs.YtcbdghgogmcllaaGreatDoor
end
section
namespace Go.Sy
end Go.Sy
namespace Go.Proofs.YtcbdghgogmcllaaGreatDoor
open Go Go.Sy
structure Turn (a b : Ac) (k : Nat) (v : CV) : Prop where
  cells : acC b = (acC a).take k ++ v :: (acC a).drop (k + 1)
  s : AcS b
end Go.Proofs.YtcbdghgogmcllaaGreatDoor
end
section
namespace Go.Proofs.YtcbdghgogmcllaaGreatDoor
open Go Go.Sy
theorem catS_cons (a : Ac) (l : List Ac) : catS (a :: l) = lineS a ++ catS l := by simp [catS]
theorem par_got : ∀ (m : Nat) (r : List UInt8) (k : Nat) (out K : List Ac) (n : Int), r.length ≤ m → parL pfS (splitL 10 r) k out = (K, n, 0) → ∃ K', K = out ++ K' ∧ (∀ a ∈ K', Norm a) ∧ r = catS K' ∧ K.length ≤ 400
  | m, r, k, out, K, n, hm, h => by
    by_cases hr : r = []
    · subst hr
      rw [parS_nil] at h
      split at h
      · injection h with _ h; injection h with _ h; cases h
      · injection h with h _
        exact ⟨[], by simp [h], by simp, rfl, by rw [← h]; omega⟩
    · by_cases hmiss : Go.Lib.indexByte r 10 < 0
      · rw [parS_miss k out hr hmiss] at h
        injection h with _ h; injection h with _ h; cases h
      · obtain ⟨i, hi⟩ : ∃ i : Nat, Go.Lib.indexByte r 10 = i := ⟨(Go.Lib.indexByte r 10).toNat, by omega⟩
        have hil := (indexB_len hi).1
        rw [parS_hit k out hi] at h
        split at h
        · rename_i hp
          cases m with
          | zero => omega
          | succ m =>
            obtain ⟨K', e1, e2, e3, e4⟩ := par_got m (r.drop (i + 1)) (k + 1) _ K n (by rw [List.length_drop]; omega) h
            obtain ⟨g1, g2⟩ := parse_norm (Prod.ext rfl hp : parseS (r.take (i + 1)) = ((parseS (r.take (i + 1))).1, true))
            refine ⟨(parseS (r.take (i + 1))).1 :: K', by rw [e1]; simp, fun a ha => ?_, ?_, e4⟩
            · rcases List.mem_cons.1 ha with h | h
              · rw [h]; exact g1
              · exact e2 a h
            · rw [catS_cons, ← g2, ← e3, List.take_append_drop]
        · injection h with _ h; injection h with _ h; cases h
theorem par_ok {s : List UInt8} {K : List Ac} {n : Int} (h : parV s = (K, n, 0)) : (∀ a ∈ K, Norm a) ∧ s = catS K ∧ K.length ≤ 400 := by
  obtain ⟨K', e1, e2, e3, e4⟩ := par_got s.length s 1 [] K n (Nat.le_refl _) h
  rw [List.nil_append] at e1
  subst e1
  exact ⟨e2, e3, e4⟩
theorem fmt_norm {K : List Ac} (h : ∀ a ∈ K, Norm a) (hl : K.length ≤ 400) : fmtV K = (catS K, 0) := by
  rw [fmtV, if_neg (by omega), if_pos (List.all_eq_true.2 fun a ha => good_norm.2 (h a ha))]
theorem par_err (pf : List UInt8 → Ac × Bool) : ∀ (L : List (List UInt8)) (k : Nat) (out : List Ac), (parL pf L k out).2.2 = 0 ∨ (parL pf L k out).1 = []
  | [], _, _ => .inr rfl
  | [x], k, out => by
    rw [parL]
    split
    · split
      · exact .inr rfl
      · exact .inl rfl
    · exact .inr rfl
  | x :: y :: r, k, out => by
    rw [parL]
    split
    · exact par_err pf (y :: r) _ _
    · exact .inr rfl
theorem par_len (s : List UInt8) : (parV s).1.length ≤ 400 := by
  by_cases h : (parV s).2.2 = 0
  · exact (par_ok (Prod.ext rfl (Prod.ext rfl h) : parV s = ((parV s).1, (parV s).2.1, 0))).2.2
  · rcases par_err pfS (splitL 10 s) 1 [] with h2 | h2
    · exact absurd h2 h
    · rw [show (parV s).1 = [] from h2]; simp
theorem parL_L (pf : List UInt8 → Ac × Bool) {P : Ac → Prop} (hp : ∀ x, x.length < 1000000 → P (pf x).1) : ∀ (L : List (List UInt8)) (k : Nat) (out : List Ac), (∀ x ∈ L, x.length < 1000000) → (∀ a ∈ out, P a) → ∀ a ∈ (parL pf L k out).1, P a
  | [], _, _, _, _ => by intro a ha; cases ha
  | [x], k, out, _, ho => by
    rw [parL]
    split
    · split
      · intro a ha; cases ha
      · exact ho
    · intro a ha; cases ha
  | x :: y :: r, k, out, hL, ho => by
    rw [parL]
    split
    · refine parL_L pf hp (y :: r) _ _ (fun z hz => hL z (by simp [hz])) fun a ha => ?_
      rcases List.mem_append.1 ha with h | h
      · exact ho a h
      · rw [List.mem_singleton] at h; subst h; exact hp x (hL x (by simp))
    · intro a ha; cases ha
theorem par_L {s : List UInt8} (hs : s.length < 1000000) : ∀ a ∈ (parV s).1, AcL a := by
  rw [par_eq, parR]
  exact parL_L lineR (fun x hx => lineR_L hx) _ 1 [] (fun x hx => by have := splitL_mem 10 s x hx; omega) (by simp)
theorem lineG_len {a : Ac} (h : AcN a) : (lineS a).length ≤ 3000 := by
  have h0 := acG_L h.g
  have h1 := itoa_len h0.who
  have h2 := itoa_len h0.n
  have h3 := itoa_len h0.lo
  have h4 := itoa_len h0.hi
  have h5 := itoa_len h0.ev.time
  have h6 : (hexW a.ev.bytes).length ≤ 401 := by
    have := h.g.bytes
    unfold hexW
    split
    · simp
    · rw [hexS_len]; omega
  have h7 := fmtE_len a.ev.six a.ev.ip a.ev.port
  have h8 : (hexS a.key).length = 64 := by rw [hexS_len, h0.key]
  have h9 : (hexS [a.xor]).length = 2 := by rw [hexS_len]; rfl
  have h10 := h.g.text
  unfold lineS
  split
  · simp [wControl]; omega
  split
  · simp
  · have hw : (nameS a).length ≤ 8 := by
      unfold nameS nameE nameK
      repeat' split
      all_goals decide
    unfold wordsS wordsE
    repeat' split
    all_goals (simp [Go.Lib.join_cons, Go.Lib.joinTail]; omega)
theorem catG_len : ∀ {l : List Ac}, (∀ a ∈ l, AcN a) → (catS l).length ≤ l.length * 3000
  | [], _ => by simp [catS]
  | a :: l, h => by
    have h1 := lineG_len (h a (by simp))
    have h2 := catG_len fun b hb => h b (List.mem_cons_of_mem a hb)
    rw [catS_cons, List.length_append, List.length_cons]
    omega
end Go.Proofs.YtcbdghgogmcllaaGreatDoor
end
