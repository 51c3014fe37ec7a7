/- Lemmas and definitions of this claim (own texts, joined by a program; what the claim does not use is left out). -/
import Derived.Test.YtcbdghgogmcllaaGreatDoorSf11
import Derived.OpenShut
import Derived.ShutString
import Derived.ChangeOld
import Derived.Below
import Derived.ProofKit
import Derived.Test.YtcbdghgogmcllaaGreatDoorRows
import Derived.Lib.LaidU8
import Derived.Shelf.Vars
import Derived.Lay
import Derived.LaidOnce
import Derived.LaidLaws
import Derived.SizedLaws
set_option linter.all false
set_option maxRecDepth 100000
set_option maxHeartbeats 4000000
section
namespace Go.Sy
theorem acall_immQ {P : Program} {B : List Box} {f : FuncId} {args args' : List CV} {Q : CV → Prop} {nz fr : Bool} (hz : omap (fz nz false [] 6) args = some args') (h : ACall P f args' [] fun c1 B1 => ∃ c', Q c' ∧ fz true fr B1 6 c1 = some c') : ACall P f args B fun c B' => Q c ∧ B' = B := by
  refine ⟨h.1, fun N I μ w vs hB hv => ?_⟩
  have hv' := rel_free 6 false args vs args' hv hz
  refine (h.2 w.heap.size I [] w vs (BRel.none_ w _ hB.imm hB.tabs) hv').mono fun e w' ⟨c, v, B1, J1, μ1, he, ⟨c', hq, hQ⟩, hs⟩ => ?_
  have hJ : ∀ b j, J1 b j → I b j ∨ (w.heap.size ≤ b ∧ b < w'.heap.size) := fun b j hj => by
    rcases hs.ext.immN b j hj with h1 | h1 | ⟨β, ps, p, h1, _⟩
    · exact .inl h1
    · exact .inr ⟨h1, hs.box.imm _ _ hj⟩
    · simp at h1
  have hv2 := fz_rel (J := fun b j => I b j ∨ (w.heap.size ≤ b ∧ b < w'.heap.size)) hs.box (fun _ => hJ) (fun β ps p _ h1 h2 => .inr ⟨(hs.box.places β ps p h1 h2).1, (hs.box.places β ps p h1 h2).2.2.lt⟩) 6 false [c] [v] [c'] hs.val (omap_one hQ)
  obtain ⟨g1, g2, g3⟩ := hB.behind (I2 := fun b j => I b j ∨ (w.heap.size ≤ b ∧ b < w'.heap.size)) hs.below (fun _ _ h => .inl h) (fun _ _ h => h)
  exact ⟨c', v, B, _, μ, he, ⟨hq, rfl⟩, hv2.ext ⟨fun _ _ h => h, fun _ _ _ => rfl, fun _ _ h => h, fun _ h => h, fun _ _ h => by simp at h, fun _ _ _ _ h => h⟩, g1, g2, g3⟩
end Go.Sy
namespace Go.Proofs.YtcbdghgogmcllaaGreatDoor
open Go Go.Sy
theorem kE_ME0 {α : Type} {x y : α} (h : Is x y := by first | ((try simp (disch := first | omega | (simp only [yZ, yB] <;> omega) | fail) [go_sem, yY, *, bx_get0, bx_get, bx_set0, bx_set, if_pos, if_neg, -List.map_take, -List.map_drop, -List.map_append, -List.map_reverse]); exact rfl) | fail) : Is x y := h
theorem kD_ME0 {p : Prop} (h : p := by (first | omega | assumption | exact rfl | ((simp (disch := first | omega | (simp only [yZ, yB] <;> omega) | fail) [go_sem, yY, *, bx_get0, bx_get, bx_set0, bx_set, -List.map_take, -List.map_drop, -List.map_append, -List.map_reverse]) <;> (first | done | omega | exact rfl)) | fail)) : p := h
theorem wB_ME0 {p q : Prop} (k : q) (h : Hq q → p := by (intro k; (repeat' (first | (with_reducible first | apply jA | apply jB | apply jC | apply jD | apply jE | apply jF | apply jG | apply jH | apply jI | apply jJ | apply jK | apply jL | apply jM | apply jN | apply jO) | ((with_reducible first | apply jP | apply jQ); rfl) | ((first | ((with_reducible first | apply jR | apply jS | apply jT); rfl; rfl) | (with_reducible first | apply jU | apply jV | apply jW) | ((with_reducible first | apply jX | apply jY | apply jZ); rfl) | ((with_reducible first | apply kA | apply kB | apply kC); rfl)); all_goals (first | ((with_reducible show Is _ _); exact kE_ME0) | ((with_reducible refine fun (hc : (_ : Bool) = _) => ?_); (try simp only [xZ, xY, xP, reduceCtorEq] at hc); (try (have hx : True := hc; clear hx hc)); (try exact kX)) | ((with_reducible show ACall _ _ _ _ _); (first | ((with_reducible apply c0) <;> exact kD_ME0) | ((with_reducible apply c1) <;> exact kD_ME0) | ((with_reducible apply c2) <;> exact kD_ME0) | ((with_reducible apply c3) <;> exact kD_ME0) | ((with_reducible apply c4) <;> exact kD_ME0) | ((with_reducible apply c5) <;> exact kD_ME0) | ((with_reducible apply c6) <;> exact kD_ME0) | ((with_reducible apply c7) <;> exact kD_ME0))) | ((fail_if_success (with_reducible first | show Is _ _ | show ACall _ _ _ _ _)); (try ((with_reducible show _ ∨ _); exact kT))))) | (((with_reducible first | apply o_callQ | apply q_callQ); rfl); (iterate 2 exact kE_ME0); (first | ((with_reducible apply q0) <;> exact kD_ME0))))); exact hq k)) : p := h ⟨k⟩
theorem w_ME00 {p q : Prop}  (k : q) (h : Hq q → p := by (intro  k; exact wB_ME0 (hq k))) : p := h  ⟨k⟩
theorem i64_of {n : Int} (h0 : -4611686018427387904 ≤ n) (h1 : n ≤ 4611686018427387904) : i64 n := ⟨by omega, by omega⟩
theorem acG_L {a : Ac} (h : AcG a) : AcL a := by
  obtain ⟨hb, ht, hi, hk, hn⟩ := h
  have hb' : a.ev.bytes.length < 1000000 := by omega
  have ht' : a.ev.text.length < 1000000 := by omega
  have e0 : (act0.ev.kind = 0 ∧ act0.ev.port = 0 ∧ act0.ev.time = 0) ∧ act0.kind = 0 ∧ act0.who = 0 ∧ act0.n = 0 ∧ act0.lo = 0 ∧ act0.hi = 0 := by decide
  have key : i64 a.ev.kind ∧ i64 a.ev.port ∧ i64 a.ev.time ∧ i64 a.kind ∧ i64 a.who ∧ i64 a.n ∧ i64 a.lo ∧ i64 a.hi := by
    rcases hn with hn | ⟨n, h1, h2, rfl⟩
    · cases hn
      all_goals
        refine ⟨?_, ?_, ?_, ?_, ?_, ?_, ?_, ?_⟩
        all_goals (first | exact i64_zero | exact i64_1 | exact i64_2 | exact i64_3 | exact i64_4 | exact i64_5 | exact i64_6 | exact i64_7 | exact i64_of (by simp only [evA]; omega) (by simp only [evA]; omega))
    · exact ⟨i64_3, i64_zero, i64_of (by simp only [evA]; omega) (by simp only [evA]; omega), i64_1, i64_zero, i64_zero, i64_zero, i64_zero⟩
  obtain ⟨k1, k2, k3, k4, k5, k6, k7, k8⟩ := key
  exact ⟨⟨hi, k1, k2, k3, hb', ht'⟩, k4, k5, k6, k7, k8, hk⟩
structure AcN (a : Ac) : Prop where
  norm : Norm a
  g : AcG a
theorem AcN.s {a : Ac} (h : AcN a) : AcS a := ⟨acG_L h.g, by have := h.g.bytes; omega, by have := h.g.text; omega⟩
theorem acG_cases {a : Ac} (h : AcG a) : (AcN a ∧ 0 ≤ a.ev.time ∧ (a.kind ≠ 1 ∨ a.kind = 1 ∧ a.ev.kind ≠ 2 ∨ a.kind = 1 ∧ a.ev.kind = 2 ∧ 1 ≤ a.ev.port ∧ a.ev.port ≤ 65535)) ∨ (a.ev.time < 0 ∧ a.kind = 1 ∧ a.ev.kind = 3 ∧ AcN { a with ev := { a.ev with time := 0 } }) := by
  rcases h.norm with hn | ⟨n, h1, h2, rfl⟩
  · refine .inl ⟨⟨hn, h⟩, ?_⟩
    cases hn
    case dgram => exact ⟨Int.le_refl 0, .inr (.inr ⟨rfl, rfl, by simp only [evA]; omega, by simp only [evA]; omega⟩)⟩
    case tick h0 _ => exact ⟨h0, .inr (.inl ⟨rfl, by simp [evA]⟩)⟩
    case plain => exact ⟨Int.le_refl 0, .inr (.inl ⟨rfl, by simp [evA]⟩)⟩
    case entropy => exact ⟨Int.le_refl 0, .inr (.inl ⟨rfl, by simp [evA]⟩)⟩
    case control => exact ⟨Int.le_refl 0, .inr (.inl ⟨rfl, by simp [evA]⟩)⟩
    all_goals exact ⟨Int.le_refl 0, .inl (by simp)⟩
  · exact .inr ⟨h2, rfl, rfl, .tick 0 (by decide) (by decide), ⟨h.bytes, h.text, h.ip, h.key, .inl (.tick 0 (by decide) (by decide))⟩⟩
theorem ac_time {a : Ac} (h : a.ev.ip.length = 16) : (acC a).take 21 ++ (.int .i64 0 :: (acC a).drop 22) = acC { a with ev := { a.ev with time := 0 } } := by
  have l1 : (a.ev.ip.map byteC).length = 16 := by simp [h]
  have e : ∀ t : Int, acC { a with ev := { a.ev with time := t } } = (.int .i64 a.kind :: .int .i64 a.ev.kind :: .bool a.ev.six :: (a.ev.ip.map byteC ++ [.int .i64 a.ev.port, .lst a.ev.bytes.length (a.ev.bytes.map byteC) false])) ++ (.int .i64 t :: .str a.ev.text :: .int .i64 a.who :: .int .i64 a.n :: byteC a.xor :: .int .i64 a.lo :: .int .i64 a.hi :: a.key.map byteC) := fun t => by simp [acC, evC]
  have e1 : acC a = _ := e a.ev.time
  rw [e 0, e1]
  have l2 : (.int .i64 a.kind :: .int .i64 a.ev.kind :: .bool a.ev.six :: (a.ev.ip.map byteC ++ [.int .i64 a.ev.port, .lst a.ev.bytes.length (a.ev.bytes.map byteC) false])).length = 21 := by simp [l1]
  rw [List.take_left' l2, show (22 : Nat) = 21 + 1 from rfl, ← List.drop_drop, List.drop_left' l2]
  rfl
theorem made_at (codes : List UInt8) (hcl : codes.length < 9223372036854775808) {B : List Box} {args : List CV} (hz : Is args [.lst codes.length (codes.map byteC) false]) : ACall Tryz.prog 7 args B fun c B' => (∃ L : List Ac, L.length ≤ 16 ∧ (∀ x ∈ L, AcN x) ∧ c = .lst L.length (L.flatMap acC) false) ∧ B' = B := by
  obtain rfl := hz
  refine acall_immQ (nz := true) (fr := false) (args' := [.lst codes.length (codes.map byteC) false]) (by simp [go_sem, omap_bytes]) ?_
  have hnw : ∀ {B : List Box} {args : List CV}, Is args [.lst codes.length (codes.map byteC) false, .int .i64 160] → ACall Tryz.prog 19 args B fun c B' => c = .ptr B.length 0 ∧ B' = B ++ [cb (codes.take 160) 0] := fun h => new_at (n := 160) h (by omega)
  have hlt : (codes.take 160).length < 1000000 := by rw [List.length_take]; omega
  generalize codes.take 160 = l at *
  refine acall_intro mixed Tryz.func7 rfl ca7 (by kernel_rfl) (by rw [Tryz.ntmps7]; simp) ?_
  refine w_cut (fun fr W => fr 0 = .lst codes.length (codes.map byteC) false ∧ W = []) ?_ ?_
  · refine w0 ?_ 
    exact ⟨kS, rfl⟩
  rintro fr W ⟨f0, rfl⟩
  refine w_cut (fun fr W => fr 3 = .ptr 0 0 ∧ W = [cb l 0]) ?_ ?_
  · refine w1 @hnw ?_ 
    exact ⟨kS, rfl⟩
  clear f0 hnw fr
  rintro fr W ⟨f3, rfl⟩
  obtain ⟨v1, a1, hv1, ha1, h1⟩ := bg_ex l 1048576 1048576 rfl (Nat.zero_le _) hlt (by omega)
  refine w_cut (fun fr W => ∃ D, DmP D v1 ∧ fr 3 = .ptr 0 0 ∧ fr 4 = .ptr 1 0 ∧ W = [cb l a1, ⟨D, false⟩]) ?_ ?_
  · refine w1 @h1 ?_ 
    exact ⟨_, ⟨rfl, rfl, rfl, rfl⟩, kS, kS, rfl⟩
  clear f3 h1 fr
  rintro fr W ⟨D, hD, f3, f4, rfl⟩
  have hac : ∀ {args : List CV}, Is args [.ptr 0 0, .agg D, .int .i64 16, .bool false] → ACall Tryz.prog 21 args [cb l a1, ⟨D, false⟩] fun c B' => ∃ a', a' ≤ l.length ∧ (∃ out : List Ac, out.length ≤ 16 ∧ (∀ x ∈ out, AcG x) ∧ c = .lst out.length (out.flatMap acC) false) ∧ B' = [cb l a1, ⟨D, false⟩].set 0 (cb l a') := fun h => actions_at h hD ⟨by omega, by omega⟩ rfl (mlow_app (B := []) (G := [cb l a1, ⟨D, false⟩]) mlow_nil (by simp [cb])) ⟨ha1, hlt⟩
  obtain ⟨d1, d2, d3, d4⟩ := hD
  refine w0q @hac ?_ 
  rintro _ _ ⟨a2, ha2, ⟨L, hL, hg, rfl⟩, rfl⟩
  clear hac
  obtain ⟨n, hn⟩ : ∃ n, L.length = n := ⟨_, rfl⟩
  have hcs : Cells acC 60 (L.flatMap acC) L := cells_all fun x hx => acK_len ⟨(hg x hx).ip, (hg x hx).key⟩
  generalize L.flatMap acC = Y at *
  rw [hn]
  replace hg : Hid _ := hg
  replace hcs : Hid _ := hcs
  replace hn : Hid _ := hn
  refine w0 ?_ 
  refine w_loop (fun fr B => ∃ (j : Nat) (out : List Ac), j ≤ n ∧ out.length ≤ j ∧ (∀ x ∈ out, AcN x) ∧ fr 15 = .lst n Y false ∧ fr 16 = .int .i64 n ∧ fr 17 = .int .i64 j ∧ RowsA out (fr 5) B) (fun fr _ => n - natOf (fr 17)) ?_ ?_
  · exact ⟨0, [], by omega, by simp, by simp, kS, kS, kS, .inl ⟨rfl, kS⟩⟩
  clear d1 d2 d3 d4 f3 f4 fr
  rintro fr B ⟨j, out, hj, ho, hko, f15, f16, f17, hr⟩
  have hm : natOf (fr 17) = j := by rw [f17]; rfl
  have hn : L.length = n := hn
  by_cases hc : j < n
  rotate_left
  · obtain rfl : j = n := by omega
    rcases hr with ⟨rfl, f5⟩ | ⟨hne, β, mm, f5, hB⟩
    · refine w0 ?_ 
      exact ⟨_, ⟨[], by simp, by simp, rfl⟩, rfl⟩
    · have hrl := rows_len fun x hx => AcK.mk (hko x hx).g.ip (hko x hx).g.key
      have htk : (out.flatMap acC).take (out.length * 60) = out.flatMap acC := List.take_of_length_le (by omega)
      have hoo : ∀ {B : List Box} {k : Nat}, omap (Go.Sy.fz true false B (k + 3)) (out.flatMap acC) = some (out.flatMap acC) := acs_om out
      have hfin : Hid (∃ o : List Ac, o.length ≤ 16 ∧ (∀ x ∈ o, AcN x) ∧ CV.lst out.length (out.flatMap acC) false = .lst o.length (o.flatMap acC) false) := ⟨out, by omega, hko, rfl⟩
      clear hko hrl
      refine w0 ?_ 
      exact ⟨_, hfin, by simp [go_sem, hB, htk, hoo]⟩
  obtain ⟨ac, hace⟩ : ∃ ac, L[j]'(by omega) = ac := ⟨_, rfl⟩
  have hga : AcG ac := by rw [← hace]; exact (show ∀ x ∈ L, AcG x from hg) _ (List.getElem_mem (by omega))
  obtain ⟨hYl, hYc⟩ : j * 60 + 60 ≤ Y.length ∧ (Y.drop (j * 60)).take 60 = acC ac := by
    have := (show Cells acC 60 Y L from hcs) j (by omega)
    rw [hace] at this
    exact ⟨by omega, this.2⟩
  clear hace
  have p := ac_parts (acG_L hga)
  have x0 := p.d0
  have x1 := p.h1
  have x19 := p.d19
  have x21 := p.d21
  have hXl := p.len
  have hXt := p.all
  have hXs := ac_time hga.ip
  have x19' : (acC ac).drop 19 = .int .i64 ac.ev.port :: (acC ac).drop 20 := by
    rw [show (20 : Nat) = 19 + 1 from rfl, ← List.drop_drop, x19]; rfl
  clear p x19
  have hcases := acG_cases hga
  have hrl := rows_len fun x hx => AcK.mk (hko x hx).g.ip (hko x hx).g.key
  have hol : ∀ b, (out ++ [b]).length = out.length + 1 := fun b => by rw [List.length_append]; rfl
  have hfl : ∀ b, (out ++ [b]).flatMap acC = out.flatMap acC ++ acC b := fun b => by rw [List.flatMap_append, List.flatMap_singleton]
  have hk2 : ∀ b, AcN b → ∀ x ∈ out ++ [b], AcN x := fun b hb x hx => by
    rcases List.mem_append.1 hx with h | h
    · exact hko x h
    · rw [List.mem_singleton] at h; subst h; exact hb
  have hne2 : ∀ b, out ++ [b] ≠ [] := fun b => by simp
  clear hfl
  replace hol : Hid _ := hol
  replace hk2 : Hid _ := hk2
  replace hne2 : Hid _ := hne2
  clear hga hko
  rcases hcases with ⟨hN, ht, hk⟩ | ⟨ht, hk, he, hN⟩
  · replace hN : Hid _ := hN
    have ht' : ¬ ac.ev.time < 0 := by omega
    rcases hk with hk | ⟨hk, he⟩ | ⟨hk, he, hp1, hp2⟩
    · have hk' : (ac.kind == 1) = false := by simpa using hk
      obtain ⟨out2, ho2⟩ : ∃ o, out ++ [ac] = o := ⟨_, rfl⟩
      have hol3 := (show ∀ b : Ac, (out ++ [b]).length = out.length + 1 from hol) ac
      have hfl : (out ++ [ac]).flatMap acC = out.flatMap acC ++ (acC ac) := by rw [List.flatMap_append, List.flatMap_singleton]
      have hk3 := (show ∀ b : Ac, AcN b → ∀ x ∈ out ++ [b], AcN x from hk2) ac hN
      have hne3 := (show ∀ b : Ac, out ++ [b] ≠ [] from hne2) ac
      rw [ho2] at hol3 hfl hk3 hne3
      replace hol3 : Hid _ := hol3
      replace hfl : Hid _ := hfl
      replace hk3 : Hid _ := hk3
      replace hne3 : Hid _ := hne3
      clear ho2 hol hk2 hne2
      rcases hr with ⟨rfl, f5⟩ | ⟨hne, β, mm, f5, hB⟩
      · refine w_ME00 ?_ 
        have hol : out2.length = 0 + 1 := hol3
        have hfl : out2.flatMap acC = (acC ac) := hfl
        exact ⟨⟨j + 1, out2, by omega, by omega, hk3, kS, kS, kS, .inr ⟨hne3, B.length + 1, _, by rw [hol]; (simp (disch := omega) [go_sem, *]) <;> (try omega), by rw [hfl]; (simp (disch := omega) [go_sem, *, bx_get0, bx_get, bx_set0, bx_set]) <;> (try omega)⟩⟩, kS⟩
      · have xb := bx_pack hB
        have hon : out.length ≤ 16 := by omega
        have hbn : (out.length + 1) * Tryz.prog.bytesOf 47 ≤ 140737488355328 := by
          have : Tryz.prog.bytesOf 47 ≤ 1000 := by decide +kernel
          have : (out.length + 1) * Tryz.prog.bytesOf 47 ≤ 17 * 1000 := Nat.mul_le_mul (by omega) this
          omega
        have hbn2 : (out.length + 1) * 168 ≤ 140737488355328 := by omega
        refine w_ME00 ?_ 
        have hol : out2.length = out.length + 1 := hol3
        have hfl : out2.flatMap acC = out.flatMap acC ++ (acC ac) := hfl
        exact ⟨⟨j + 1, out2, by omega, by omega, hk3, kS, kS, kS, .inr ⟨hne3, β, true, by rw [hol]; (simp (disch := omega) [go_sem, *]) <;> (try omega), by rw [hfl]; exact xb.2.2.2.1 _ _⟩⟩, kS⟩
    · have he' : (ac.ev.kind == 2) = false := by simpa using he
      obtain ⟨out2, ho2⟩ : ∃ o, out ++ [ac] = o := ⟨_, rfl⟩
      have hol3 := (show ∀ b : Ac, (out ++ [b]).length = out.length + 1 from hol) ac
      have hfl : (out ++ [ac]).flatMap acC = out.flatMap acC ++ (acC ac) := by rw [List.flatMap_append, List.flatMap_singleton]
      have hk3 := (show ∀ b : Ac, AcN b → ∀ x ∈ out ++ [b], AcN x from hk2) ac hN
      have hne3 := (show ∀ b : Ac, out ++ [b] ≠ [] from hne2) ac
      rw [ho2] at hol3 hfl hk3 hne3
      replace hol3 : Hid _ := hol3
      replace hfl : Hid _ := hfl
      replace hk3 : Hid _ := hk3
      replace hne3 : Hid _ := hne3
      clear ho2 hol hk2 hne2
      rcases hr with ⟨rfl, f5⟩ | ⟨hne, β, mm, f5, hB⟩
      · refine w_ME00 ?_ 
        have hol : out2.length = 0 + 1 := hol3
        have hfl : out2.flatMap acC = (acC ac) := hfl
        exact ⟨⟨j + 1, out2, by omega, by omega, hk3, kS, kS, kS, .inr ⟨hne3, B.length + 1, _, by rw [hol]; (simp (disch := omega) [go_sem, *]) <;> (try omega), by rw [hfl]; (simp (disch := omega) [go_sem, *, bx_get0, bx_get, bx_set0, bx_set]) <;> (try omega)⟩⟩, kS⟩
      · have xb := bx_pack hB
        have hon : out.length ≤ 16 := by omega
        have hbn : (out.length + 1) * Tryz.prog.bytesOf 47 ≤ 140737488355328 := by
          have : Tryz.prog.bytesOf 47 ≤ 1000 := by decide +kernel
          have : (out.length + 1) * Tryz.prog.bytesOf 47 ≤ 17 * 1000 := Nat.mul_le_mul (by omega) this
          omega
        have hbn2 : (out.length + 1) * 168 ≤ 140737488355328 := by omega
        refine w_ME00 ?_ 
        have hol : out2.length = out.length + 1 := hol3
        have hfl : out2.flatMap acC = out.flatMap acC ++ (acC ac) := hfl
        exact ⟨⟨j + 1, out2, by omega, by omega, hk3, kS, kS, kS, .inr ⟨hne3, β, true, by rw [hol]; (simp (disch := omega) [go_sem, *]) <;> (try omega), by rw [hfl]; exact xb.2.2.2.1 _ _⟩⟩, kS⟩
    · have hp' : (ac.ev.port == 0) = false := by simpa using (by omega : ac.ev.port ≠ 0)
      have hp'' : ¬ 65535 < ac.ev.port := by omega
      obtain ⟨out2, ho2⟩ : ∃ o, out ++ [ac] = o := ⟨_, rfl⟩
      have hol3 := (show ∀ b : Ac, (out ++ [b]).length = out.length + 1 from hol) ac
      have hfl : (out ++ [ac]).flatMap acC = out.flatMap acC ++ (acC ac) := by rw [List.flatMap_append, List.flatMap_singleton]
      have hk3 := (show ∀ b : Ac, AcN b → ∀ x ∈ out ++ [b], AcN x from hk2) ac hN
      have hne3 := (show ∀ b : Ac, out ++ [b] ≠ [] from hne2) ac
      rw [ho2] at hol3 hfl hk3 hne3
      replace hol3 : Hid _ := hol3
      replace hfl : Hid _ := hfl
      replace hk3 : Hid _ := hk3
      replace hne3 : Hid _ := hne3
      clear ho2 hol hk2 hne2
      rcases hr with ⟨rfl, f5⟩ | ⟨hne, β, mm, f5, hB⟩
      · refine w_ME00 ?_ 
        have hol : out2.length = 0 + 1 := hol3
        have hfl : out2.flatMap acC = (acC ac) := hfl
        exact ⟨⟨j + 1, out2, by omega, by omega, hk3, kS, kS, kS, .inr ⟨hne3, B.length + 1, _, by rw [hol]; (simp (disch := omega) [go_sem, *]) <;> (try omega), by rw [hfl]; (simp (disch := omega) [go_sem, *, bx_get0, bx_get, bx_set0, bx_set]) <;> (try omega)⟩⟩, kS⟩
      · have xb := bx_pack hB
        have hon : out.length ≤ 16 := by omega
        have hbn : (out.length + 1) * Tryz.prog.bytesOf 47 ≤ 140737488355328 := by
          have : Tryz.prog.bytesOf 47 ≤ 1000 := by decide +kernel
          have : (out.length + 1) * Tryz.prog.bytesOf 47 ≤ 17 * 1000 := Nat.mul_le_mul (by omega) this
          omega
        have hbn2 : (out.length + 1) * 168 ≤ 140737488355328 := by omega
        refine w_ME00 ?_ 
        have hol : out2.length = out.length + 1 := hol3
        have hfl : out2.flatMap acC = out.flatMap acC ++ (acC ac) := hfl
        exact ⟨⟨j + 1, out2, by omega, by omega, hk3, kS, kS, kS, .inr ⟨hne3, β, true, by rw [hol]; (simp (disch := omega) [go_sem, *]) <;> (try omega), by rw [hfl]; exact xb.2.2.2.1 _ _⟩⟩, kS⟩
  · replace hN : Hid _ := hN
    obtain ⟨ac2, hac2⟩ : ∃ a2 : Ac, { ac with ev := { ac.ev with time := 0 } } = a2 := ⟨_, rfl⟩
    rw [hac2] at hN hXs
    obtain ⟨Z, hZ⟩ : ∃ Z, acC ac2 = Z := ⟨_, rfl⟩
    rw [hZ] at hXs
    have hZl : Z.length = 60 := by rw [← hXs]; simp; omega
    have hZt : Z.take 60 = Z := List.take_of_length_le (by omega)
    have he' : (ac.ev.kind == 2) = false := by rw [he]; rfl
    have hN : Hid (AcN ac2) := hN
    replace hZ : Hid (acC ac2 = Z) := hZ
    obtain ⟨out2, ho2⟩ : ∃ o, out ++ [ac2] = o := ⟨_, rfl⟩
    have hol3 := (show ∀ b : Ac, (out ++ [b]).length = out.length + 1 from hol) ac2
    have hfl : (out ++ [ac2]).flatMap acC = out.flatMap acC ++ Z := by rw [List.flatMap_append, List.flatMap_singleton, show acC ac2 = Z from hZ]
    have hk3 := (show ∀ b : Ac, AcN b → ∀ x ∈ out ++ [b], AcN x from hk2) ac2 hN
    have hne3 := (show ∀ b : Ac, out ++ [b] ≠ [] from hne2) ac2
    rw [ho2] at hol3 hfl hk3 hne3
    replace hol3 : Hid _ := hol3
    replace hfl : Hid _ := hfl
    replace hk3 : Hid _ := hk3
    replace hne3 : Hid _ := hne3
    clear ho2 hol hk2 hne2
    rcases hr with ⟨rfl, f5⟩ | ⟨hne, β, mm, f5, hB⟩
    · refine w_ME00 ?_ 
      have hol : out2.length = 0 + 1 := hol3
      have hfl : out2.flatMap acC = Z := hfl
      exact ⟨⟨j + 1, out2, by omega, by omega, hk3, kS, kS, kS, .inr ⟨hne3, B.length + 1, _, by rw [hol]; (simp (disch := omega) [go_sem, *]) <;> (try omega), by rw [hfl]; (simp (disch := omega) [go_sem, *, bx_get0, bx_get, bx_set0, bx_set]) <;> (try omega)⟩⟩, kS⟩
    · have xb := bx_pack hB
      have hon : out.length ≤ 16 := by omega
      have hbn : (out.length + 1) * Tryz.prog.bytesOf 47 ≤ 140737488355328 := by
        have : Tryz.prog.bytesOf 47 ≤ 1000 := by decide +kernel
        have : (out.length + 1) * Tryz.prog.bytesOf 47 ≤ 17 * 1000 := Nat.mul_le_mul (by omega) this
        omega
      have hbn2 : (out.length + 1) * 168 ≤ 140737488355328 := by omega
      refine w_ME00 ?_ 
      have hol : out2.length = out.length + 1 := hol3
      have hfl : out2.flatMap acC = out.flatMap acC ++ Z := hfl
      exact ⟨⟨j + 1, out2, by omega, by omega, hk3, kS, kS, kS, .inr ⟨hne3, β, true, by rw [hol]; (simp (disch := omega) [go_sem, *]) <;> (try omega), by rw [hfl]; exact xb.2.2.2.1 _ _⟩⟩, kS⟩
end Go.Proofs.YtcbdghgogmcllaaGreatDoor
end
section
namespace Go.Proofs.YtcbdghgogmcllaaGreatDoor
open Go Go.Sy
theorem kE_SQ0 {α : Type} {x y : α} (h : Is x y := by first | ((try simp (disch := first | omega | (simp only [yZ, yB] <;> omega) | fail) [go_sem, yY, *, bx_get0, bx_get, bx_set0, bx_set, if_pos, if_neg, -List.map_take, -List.map_drop, -List.map_append, -List.map_reverse]); exact rfl) | fail) : Is x y := h
theorem kD_SQ0 {p : Prop} (h : p := by (first | omega | assumption | exact rfl | ((simp (disch := first | omega | (simp only [yZ, yB] <;> omega) | fail) [go_sem, yY, *, bx_get0, bx_get, bx_set0, bx_set, -List.map_take, -List.map_drop, -List.map_append, -List.map_reverse]) <;> (first | done | omega | exact rfl)) | fail)) : p := h
theorem wB_SQ0 {p q : Prop} (k : q) (h : Hq q → p := by (intro k; (repeat' (first | (with_reducible first | apply jA | apply jB | apply jC | apply jD | apply jE | apply jF | apply jG | apply jH | apply jI | apply jJ | apply jK | apply jL | apply jM | apply jN | apply jO) | ((with_reducible first | apply jP | apply jQ); rfl) | ((first | ((with_reducible first | apply jR | apply jS | apply jT); rfl; rfl) | (with_reducible first | apply jU | apply jV | apply jW) | ((with_reducible first | apply jX | apply jY | apply jZ); rfl) | ((with_reducible first | apply kA | apply kB | apply kC); rfl)); all_goals (first | ((with_reducible show Is _ _); exact kE_SQ0) | ((with_reducible refine fun (hc : (_ : Bool) = _) => ?_); (try simp only [xZ, xY, xP, reduceCtorEq] at hc); (try (have hx : True := hc; clear hx hc)); (try exact kX)) | ((with_reducible show ACall _ _ _ _ _); (first | ((with_reducible apply c0) <;> exact kD_SQ0) | ((with_reducible apply c1) <;> exact kD_SQ0) | ((with_reducible apply c2) <;> exact kD_SQ0) | ((with_reducible apply c3) <;> exact kD_SQ0) | ((with_reducible apply c4) <;> exact kD_SQ0) | ((with_reducible apply c5) <;> exact kD_SQ0) | ((with_reducible apply c6) <;> exact kD_SQ0) | ((with_reducible apply c7) <;> exact kD_SQ0))) | ((fail_if_success (with_reducible first | show Is _ _ | show ACall _ _ _ _ _)); (try ((with_reducible show _ ∨ _); exact kT))))) | (((with_reducible first | apply o_callQ | apply q_callQ); rfl); (iterate 2 exact kE_SQ0); (first | ((with_reducible apply q0) <;> exact kD_SQ0))))); exact hq k)) : p := h ⟨k⟩
theorem w_SQ02 {A0 A1 p q : Prop} (c0 : A0) (c1 : A1) (k : q) (h : A0 → A1 → Hq q → p := by (intro c0 c1 k; exact wB_SQ0 (hq k))) : p := h c0 c1 ⟨k⟩
theorem parS_nil (k : Nat) (out : List Ac) : parL pfS (splitL 10 []) k out = if 400 < out.length then ([], 0, 12) else (out, 0, 0) := by
  rw [splitL, parL, if_pos rfl]
theorem parS_miss {r : List UInt8} (k : Nat) (out : List Ac) (hr : r ≠ []) (h : Go.Lib.indexByte r 10 < 0) : parL pfS (splitL 10 r) k out = ([], (k : Int), 5) := by
  have := Go.Lib.indexByte_ge r 10
  rw [splitL_miss 10 r (by rw [Go.Lib.index_one]; omega), parL, if_neg hr]
theorem indexB_len {r : List UInt8} {i : Nat} (h : Go.Lib.indexByte r 10 = i) : i < r.length ∧ r[i]? = some 10 := by
  have := (Go.Lib.indexByte_some h).1
  exact ⟨(List.getElem?_eq_some_iff.1 this).1, this⟩
theorem parS_hit {r : List UInt8} {i : Nat} (k : Nat) (out : List Ac) (h : Go.Lib.indexByte r 10 = i) : parL pfS (splitL 10 r) k out = if (parseS (r.take (i + 1))).2 then parL pfS (splitL 10 (r.drop (i + 1))) (k + 1) (out ++ [(parseS (r.take (i + 1))).1]) else ([], (k : Int), 5) := by
  obtain ⟨h1, h2⟩ := indexB_len h
  have e : r.take i ++ [10] = r.take (i + 1) := by
    rw [List.take_succ_eq_append_getElem h1]
    rw [List.getElem?_eq_getElem h1] at h2
    rw [Option.some.inj h2]
  obtain ⟨y, t, hy⟩ := List.exists_cons_of_ne_nil (splitL_ne 10 (r.drop (i + 1)))
  rw [splitL_hit 10 r i (by rw [Go.Lib.index_one, h]), hy, parL, pfS, e]
theorem sParse_in (s : List UInt8) (hs : s.length < 1000000) : PC Tryz.prog false 9 [.str s] (parC (parV s)) := by
  have hp0 : parL pfS (splitL 10 s) 1 [] = parV s := rfl
  generalize parV s = V at *
  refine acall_intro mixed Tryz.func9 rfl ca9 (by kernel_rfl) (by rw [Tryz.ntmps9]; simp) ?_
  refine w0 ?_ 
  refine w_loop (fun fr B => ∃ (k : Nat) (r : List UInt8) (out : List Ac), parL pfS (splitL 10 r) k out = V ∧ r.length + k ≤ s.length + 1 ∧ out.length + 1 = k ∧ (∀ a ∈ out, AcK a) ∧ fr 0 = .str r ∧ fr 6 = .int .i64 k ∧ RowsA out (fr 5) B) (fun fr _ => match fr 0 with | .str r => r.length | _ => 0) ?_ ?_
  · exact ⟨1, s, [], hp0, by omega, rfl, by simp, kS, kS, .inl ⟨rfl, kS⟩⟩
  clear hp0
  rintro fr B ⟨k, r, out, hp, hk, ho, hka, f0, f6, hr⟩
  by_cases hr0 : r = []
  · subst hr0
    rw [parS_nil] at hp
    subst hp
    rcases hr with ⟨rfl, f5⟩ | ⟨hone, β, mm, f5, hB⟩
    · clear hka
      refine w0 ?_ 
      rfl
    · have hrl := rows_len hka
      have htk : (out.flatMap acC).take (out.length * 60) = out.flatMap acC := List.take_of_length_le (by omega)
      have hoo : ∀ {B : List Box} {k : Nat}, omap (Go.Sy.fz true false B (k + 3)) (out.flatMap acC) = some (out.flatMap acC) := acs_om out
      have hob : out.length < 1000001 := by omega
      obtain ⟨m, hom⟩ : ∃ m, out.length = m := ⟨_, rfl⟩
      rw [hom] at f5 htk hob ⊢
      clear hrl hka hone
      by_cases h400 : 400 < m
      · have h400' : (400 : Int) < m := by omega
        rw [if_pos h400]
        clear hB htk hoo
        refine w0 ?_ 
        rfl
      · have h400' : ¬ (400 : Int) < m := by omega
        rw [if_neg h400]
        refine w0 ?_ 
        simp only [parC]
        rw [hom]
        simp [go_sem, hB, htk, hoo]
  have hrl : 0 < r.length := List.length_pos_iff.2 hr0
  have hrl' : (0 : Int) < r.length := by omega
  have hix : ∀ {B : List Box} {args : List CV}, Is args [.str r, .str [10]] → ACall Tryz.prog 22 args B fun c B' => c = .int .i64 (Go.Lib.indexByte r 10) ∧ B' = B := fun h => index_at.eq h
  have hge := Go.Lib.indexByte_ge r 10
  by_cases hmiss : Go.Lib.indexByte r 10 < 0
  · rw [parS_miss k out hr0 hmiss] at hp
    subst hp
    have e : Go.Lib.indexByte r 10 = -1 := by omega
    rw [e] at hix
    clear hge hmiss e hr hka
    refine w1 @hix ?_ 
    rfl
  obtain ⟨i, hi⟩ : ∃ i : Nat, Go.Lib.indexByte r 10 = i := ⟨(Go.Lib.indexByte r 10).toNat, by omega⟩
  rw [parS_hit k out hi] at hp
  have hil := (indexB_len hi).1
  rw [hi] at hix
  clear hge hmiss hi
  have hpl : (r.take (i + 1)).length < 1000000 := by rw [List.length_take]; omega
  have hps : ∀ {B : List Box} {args : List CV}, Is args [.str (r.take (i + 1))] → ACall Tryz.prog 23 args B fun c B' => c = .tup [.agg (acC (parseS (r.take (i + 1))).1), .bool (parseS (r.take (i + 1))).2] ∧ B' = B := fun hz => parseS_at hz hpl
  have hpL : AcL (parseS (r.take (i + 1))).1 := parseS_L hpl
  have hK : AcK (parseS (r.take (i + 1))).1 := ⟨hpL.ev.ip, hpL.key⟩
  have hzl := acK_len hK
  have hzo : ∀ {nz : Bool} {B : List Box} {k : Nat}, omap (Go.Sy.fz nz false B (k + 3)) (acC (parseS (r.take (i + 1))).1) = some (acC (parseS (r.take (i + 1))).1) := acC_om
  have hzt : (acC (parseS (r.take (i + 1))).1).take 60 = acC (parseS (r.take (i + 1))).1 := List.take_of_length_le (by omega)
  clear hpL
  have hrd : (r.drop (i + 1)).length = r.length - (i + 1) := List.length_drop
  cases hok : (parseS (r.take (i + 1))).2 with
  | false =>
    rw [hok] at hp hps
    simp only [Bool.false_eq_true, if_false] at hp
    subst hp
    clear hok hr hK hka
    generalize acC (parseS (r.take (i + 1))).1 = Z at *
    have hil2 : (i : Int) + 1 ≤ r.length := by omega
    have hi0 : ¬ ((i : Int) + 1 = 0) := by omega
    refine w_SQ02 @hix @hps ?_ 
    rfl
  | true =>
    rw [hok] at hp hps
    rw [if_pos rfl] at hp
    have hk2 : ∀ a ∈ out ++ [(parseS (r.take (i + 1))).1], AcK a := fun a ha => by
      rcases List.mem_append.1 ha with h | h
      · exact hka a h
      · rw [List.mem_singleton] at h; subst h; exact hK
    have hfl : (out ++ [(parseS (r.take (i + 1))).1]).flatMap acC = out.flatMap acC ++ acC (parseS (r.take (i + 1))).1 := by rw [List.flatMap_append, List.flatMap_singleton]
    have hol : (out ++ [(parseS (r.take (i + 1))).1]).length = k := by rw [List.length_append, ← ho]; rfl
    have hrw := rows_len hka
    generalize (parseS (r.take (i + 1))).1 = b at *
    have hone2 : out ++ [b] ≠ [] := by simp
    obtain ⟨out2, ho2⟩ : ∃ out2, out ++ [b] = out2 := ⟨_, rfl⟩
    rw [ho2] at hk2 hfl hol hp hone2
    generalize acC b = X at *
    generalize hDD : out.flatMap acC = D at *
    replace hk2 : Hid _ := hk2
    replace hfl : Hid _ := hfl
    replace hol : Hid _ := hol
    replace hp : Hid _ := hp
    replace hone2 : Hid _ := hone2
    have hil2 : (i : Int) + 1 ≤ r.length := by omega
    have hi0 : ¬ ((i : Int) + 1 = 0) := by omega
    clear hok hK hka ho2
    rcases hr with ⟨rfl, f5⟩ | ⟨hone, β, mm, f5, hB⟩
    · refine w_SQ02 @hix @hps ?_ 
      have hol : out2.length = 1 := by have := (show out2.length = k from hol); rw [this, ← ho]; rfl
      have hD : D = [] := List.eq_nil_of_length_eq_zero (by simpa using hrw)
      have hfl : out2.flatMap acC = D ++ X := hfl
      rw [hD] at hfl
      have hk1 : k = 1 := by rw [← ho]; rfl
      subst hk1
      have hp : parL pfS (splitL 10 (r.drop (i + 1))) 2 out2 = V := hp
      exact ⟨⟨2, r.drop (i + 1), out2, hp, by omega, by omega, hk2, kS, kS, .inr ⟨hone2, B.length + 1, false, by rw [hol]; (simp (disch := omega) [go_sem, *]) <;> (try omega), by rw [hfl]; (simp (disch := omega) [go_sem, *, bx_get0, bx_get, bx_set0, bx_set]) <;> (try omega)⟩⟩, by show (r.drop (i + 1)).length < _; rw [f0]; show _ < r.length; omega⟩
    · have xb := bx_pack hB
      refine w_SQ02 @hix @hps ?_ 
      have hol : out2.length = out.length + 1 := by have := (show out2.length = k from hol); omega
      have hfl : out2.flatMap acC = D ++ X := hfl
      have hp : parL pfS (splitL 10 (r.drop (i + 1))) (k + 1) out2 = V := hp
      exact ⟨⟨k + 1, r.drop (i + 1), out2, hp, by omega, by omega, hk2, kS, kS, .inr ⟨hone2, β, true, by rw [hol]; (simp (disch := omega) [go_sem, *]) <;> (try omega), by rw [hfl]; exact xb.2.2.2.1 _ _⟩⟩, by show (r.drop (i + 1)).length < _; rw [f0]; show _ < r.length; omega⟩
end Go.Proofs.YtcbdghgogmcllaaGreatDoor
end
section
namespace Go.Proofs.YtcbdghgogmcllaaGreatDoor
open Go Go.Sy
def sPick : List UInt8 := [112, 105, 99, 107, 32, 48, 32, 53, 49, 50, 10]
def sTick : List UInt8 := [112, 105, 99, 107, 32, 48, 32, 53, 49, 50, 10, 116, 105, 99, 107, 32, 48, 48, 55, 10]
theorem num_512 : numR [53, 49, 50] = (512, true) := by decide +kernel
theorem num_007 : numR [48, 48, 55] = (0, false) := by decide +kernel
theorem line_pick : lineR [112, 105, 99, 107, 32, 48, 32, 53, 49, 50] = ({ act0 with kind := 3, who := 0, n := (numR [53, 49, 50]).1 }, (numR [53, 49, 50]).2) := rfl
theorem line_tick : lineR [116, 105, 99, 107, 32, 48, 48, 55] = (evA { ev0 with kind := 3, time := (numR [48, 48, 55]).1 }, (numR [48, 48, 55]).2) := rfl
theorem par_pick : parV sPick = ([{ act0 with kind := 3, who := 0, n := 512 }], 0, 0) := by
  have e : splitL 10 sPick = [[112, 105, 99, 107, 32, 48, 32, 53, 49, 50], []] := by decide +kernel
  rw [par_eq, parR, e, parL, line_pick, num_512]
  rfl
theorem par_tick : parV sTick = ([], 2, 5) := by
  have e : splitL 10 sTick = [[112, 105, 99, 107, 32, 48, 32, 53, 49, 50], [116, 105, 99, 107, 32, 48, 48, 55], []] := by decide +kernel
  rw [par_eq, parR, e, parL, line_pick, num_512]
  show parL lineR [[116, 105, 99, 107, 32, 48, 48, 55], []] 2 [{ act0 with kind := 3, who := 0, n := 512 }] = _
  rw [parL, line_tick, num_007]
  rfl
theorem sParse_at {B : List Box} {args : List CV} {s : List UInt8} (hz : Is args [.str s]) (hs : s.length < 1000000) : ACall Tryz.prog 9 args B fun c B' => c = parC (parV s) ∧ B' = B := by
  obtain rfl := hz
  exact acall_imm (nz := true) (by simp [go_sem]) (sParse_in s hs)
theorem begun_in : PC Tryz.prog true 12 [] (.bool true) := by
  have h1 : ∀ {B : List Box} {args : List CV}, Is args [.str sPick] → ACall Tryz.prog 9 args B fun c B' => c = parC ([{ act0 with kind := 3, who := 0, n := 512 }], 0, 0) ∧ B' = B := fun {B args} h => by
    have := sParse_at (B := B) h (by decide)
    rw [par_pick] at this
    exact this
  have h2 : ∀ {B : List Box} {args : List CV}, Is args [.str sTick] → ACall Tryz.prog 9 args B fun c B' => c = parC ([], 2, 5) ∧ B' = B := fun {B args} h => by
    have := sParse_at (B := B) h (by decide)
    rw [par_tick] at this
    exact this
  simp only [parC, sPick, sTick] at h1 h2
  have e : ([{ act0 with kind := 3, who := 0, n := 512 }] : List Ac).flatMap acC = .int .i64 3 :: ((zE.set 19 (.lst 0 [] false)) ++ (.int .i64 0 :: .int .i64 512 :: .int .u8 0 :: .int .i64 0 :: .int .i64 0 :: z32.map byteC)) := rfl
  rw [e] at h1
  have hl : ((zE.set 19 (.lst 0 [] false)) ++ (.int .i64 0 :: .int .i64 512 :: .int .u8 0 :: .int .i64 0 :: .int .i64 0 :: z32.map byteC)).length = 59 := rfl
  have hd : ((zE.set 19 (.lst 0 [] false)) ++ (.int .i64 0 :: .int .i64 512 :: .int .u8 0 :: .int .i64 0 :: .int .i64 0 :: z32.map byteC)).drop 23 = .int .i64 512 :: (.int .u8 0 :: .int .i64 0 :: .int .i64 0 :: z32.map byteC) := rfl
  have hd2 : ((zE.set 19 (.lst 0 [] false)) ++ (.int .i64 0 :: .int .i64 512 :: .int .u8 0 :: .int .i64 0 :: .int .i64 0 :: z32.map byteC))[23]? = some (.int .i64 512) := rfl
  generalize (zE.set 19 (.lst 0 [] false)) ++ (.int .i64 0 :: .int .i64 512 :: .int .u8 0 :: .int .i64 0 :: .int .i64 0 :: z32.map byteC) = Z at *
  refine acall_intro mixed Tryz.func12 rfl ca12 (by kernel_rfl) (by rw [Tryz.ntmps12]; simp) ?_
  refine w2 @h1 @h2 ?_ 
  rfl
theorem begun_at {B : List Box} {args : List CV} (hz : Is (omap (fz true false B 6) args) (some [])) : ACall Tryz.prog 12 args B fun c B' => c = .bool true ∧ B' = B := acall_fresh hz begun_in
end Go.Proofs.YtcbdghgogmcllaaGreatDoor
end
section
namespace Go.Proofs.YtcbdghgogmcllaaGreatDoor
open Go Go.Sy
theorem kE_MG0 {α : Type} {x y : α} (h : Is x y := by first | ((try simp (disch := first | omega | (simp only [yZ, yB] <;> omega) | fail) [go_sem, yY, *, lb, if_pos, if_neg, -List.map_take, -List.map_drop, -List.map_append, -List.map_reverse]); exact rfl) | fail) : Is x y := h
theorem kD_MG0 {p : Prop} (h : p := by (first | omega | assumption | exact rfl | ((simp (disch := first | omega | (simp only [yZ, yB] <;> omega) | fail) [go_sem, yY, *, lb, -List.map_take, -List.map_drop, -List.map_append, -List.map_reverse]) <;> (first | done | omega | exact rfl)) | fail)) : p := h
theorem wB_MG0 {p q : Prop} (k : q) (h : Hq q → p := by (intro k; (repeat' (first | (with_reducible first | apply jA | apply jB | apply jC | apply jD | apply jE | apply jF | apply jG | apply jH | apply jI | apply jJ | apply jK | apply jL | apply jM | apply jN | apply jO) | ((with_reducible first | apply jP | apply jQ); rfl) | ((first | ((with_reducible first | apply jR | apply jS | apply jT); rfl; rfl) | (with_reducible first | apply jU | apply jV | apply jW) | ((with_reducible first | apply jX | apply jY | apply jZ); rfl) | ((with_reducible first | apply kA | apply kB | apply kC); rfl)); all_goals (first | ((with_reducible show Is _ _); exact kE_MG0) | ((with_reducible refine fun (hc : (_ : Bool) = _) => ?_); (try simp only [xZ, xY, xP, reduceCtorEq] at hc); (try (have hx : True := hc; clear hx hc)); (try exact kX)) | ((with_reducible show ACall _ _ _ _ _); (first | ((with_reducible apply c0) <;> exact kD_MG0) | ((with_reducible apply c1) <;> exact kD_MG0) | ((with_reducible apply c2) <;> exact kD_MG0) | ((with_reducible apply c3) <;> exact kD_MG0) | ((with_reducible apply c4) <;> exact kD_MG0) | ((with_reducible apply c5) <;> exact kD_MG0) | ((with_reducible apply c6) <;> exact kD_MG0) | ((with_reducible apply c7) <;> exact kD_MG0))) | ((fail_if_success (with_reducible first | show Is _ _ | show ACall _ _ _ _ _)); (try ((with_reducible show _ ∨ _); exact kT))))) | (((with_reducible first | apply o_callQ | apply q_callQ); rfl); (iterate 2 exact kE_MG0); (first | ((with_reducible apply q0) <;> exact kD_MG0))))); exact hq k)) : p := h ⟨k⟩
theorem w_MG00 {p q : Prop}  (k : q) (h : Hq q → p := by (intro  k; exact wB_MG0 (hq k))) : p := h  ⟨k⟩
theorem tmod_b (x n : Int) (h : 1 ≤ n) : -n < x.tmod n ∧ x.tmod n < n := by
  rcases Int.le_total 0 x with h0 | h0
  · rw [Int.tmod_eq_emod_of_nonneg h0]; exact ⟨by have := Int.emod_nonneg x (by omega : n ≠ 0); omega, Int.emod_lt_of_pos x (by omega)⟩
  · have := Int.neg_tmod (a := -x) (b := n)
    rw [Int.neg_neg] at this
    rw [this, Int.tmod_eq_emod_of_nonneg (by omega)]
    have g1 := Int.emod_nonneg (-x) (by omega : n ≠ 0); have g2 := Int.emod_lt_of_pos (-x) (by omega : 0 < n); omega
theorem mod_eq (x n : Int) (h : 1 ≤ n) : (x.tmod n + n).tmod n = x % n := by
  have hb := tmod_b x n h
  rw [Int.tmod_eq_emod_of_nonneg (by omega), Int.add_emod_right]
  have : x = n * x.tdiv n + x.tmod n := (Int.mul_tdiv_add_tmod x n).symm
  conv => rhs; rw [this]
  rw [Int.add_comm, Int.add_mul_emod_self_left]
theorem mod_in (x n : Int) (h : 1 ≤ n) (h2 : n ≤ 4611686018427387904) : PC Tryz.prog true 14 [.int .i64 x, .int .i64 n] (.int .i64 (x % n)) := by
  have hb := tmod_b x n h
  have hm := mod_eq x n h
  have hn : n ≠ 0 := by omega
  refine acall_intro mixed Tryz.func14 rfl ca14 (by kernel_rfl) (by rw [Tryz.ntmps14]; simp) ?_
  refine w0 ?_ 
  all_goals rfl
theorem mod_at {B : List Box} {args : List CV} {x n : Int} (hz : Is args [.int .i64 x, .int .i64 n]) (h : 1 ≤ n) (h2 : n ≤ 4611686018427387904) : ACall Tryz.prog 14 args B fun c B' => c = .int .i64 (x % n) ∧ B' = B := by
  obtain rfl := hz
  exact acall_fresh (nz := true) (by simp [go_sem]) (mod_in x n h h2)
theorem cutB_in (l : List UInt8) (n : Nat) (hl : l.length < 9223372036854775808) (hn : n < 1000000) : PC Tryz.prog false 13 [lb l, .int .i64 n] (lb (l.take n)) := by
  have e : (min (l.length : Int) n).toNat = min n l.length := by omega
  have e2 : l.take (min n l.length) = l.take n := by
    rcases Nat.le_total n l.length with h | h
    · rw [Nat.min_eq_left h]
    · rw [Nat.min_eq_right h, List.take_of_length_le (by omega), List.take_of_length_le (by omega)]
  refine acall_intro mixed Tryz.func13 rfl ca13 (by kernel_rfl) (by rw [Tryz.ntmps13]; simp) ?_
  refine w_MG00 ?_ 
  simp only [e, bytes_take, e2, fz_lst, omap_bytes, lb, List.length_take, Bool.and_false, Bool.false_and, Option.map_some]
  simp
theorem cutB_at {B : List Box} {args : List CV} {l : List UInt8} {n : Nat} {m : Int} (hz : Is args [.lst l.length (l.map byteC) false, .int .i64 m]) (hm : m = n) (hl : l.length < 9223372036854775808) (hn : n < 1000000) : ACall Tryz.prog 13 args B fun c B' => c = .lst (l.take n).length ((l.take n).map byteC) false ∧ B' = B := by
  obtain rfl := hz
  subst hm
  exact acall_imm (nz := true) (by simp [go_sem, omap_bytes, lb]) (cutB_in l n hl hn)
theorem shortB_at {B : List Box} {args : List CV} {l : List UInt8} {n : Nat} {m : Int} (hz : Is args [.str l, .int .i64 m]) (hm : m = n) (hl : l.length ≤ maxLen) (hn : n < 1000) : ACall Tryz.prog 8 args B fun c B' => c = .str (l.take n) ∧ B' = B := by
  obtain rfl := hz
  subst hm
  exact acall_fresh (nz := true) (by simp [go_sem]) (short_in l n hn hl)
def rawC (p : Int × (Int × ((Bool × List UInt8) × Int) × List UInt8 × Int × List UInt8) × Int × Int × UInt8 × Int × Int × List UInt8) : List CV :=
  [.int .i64 p.1] ++ (([.int .i64 p.2.1.1] ++ ((([.bool p.2.1.2.1.1.1] ++ p.2.1.2.1.1.2.map byteC) ++ [.int .i64 p.2.1.2.1.2]) ++ ([lb p.2.1.2.2.1] ++ ([.int .i64 p.2.1.2.2.2.1] ++ [.str p.2.1.2.2.2.2])))) ++ ([.int .i64 p.2.2.1] ++ ([.int .i64 p.2.2.2.1] ++ ([byteC p.2.2.2.2.1] ++ ([.int .i64 p.2.2.2.2.2.1] ++ ([.int .i64 p.2.2.2.2.2.2.1] ++ p.2.2.2.2.2.2.2.map byteC))))))
def rawA (p : Int × (Int × ((Bool × List UInt8) × Int) × List UInt8 × Int × List UInt8) × Int × Int × UInt8 × Int × Int × List UInt8) : Ac :=
  ⟨p.1, ⟨p.2.1.1, p.2.1.2.1.1.1, p.2.1.2.1.1.2, p.2.1.2.1.2, p.2.1.2.2.1, p.2.1.2.2.2.1, p.2.1.2.2.2.2⟩, p.2.2.1, p.2.2.2.1, p.2.2.2.2.1, p.2.2.2.2.2.1, p.2.2.2.2.2.2.1, p.2.2.2.2.2.2.2⟩
def RawP (p : Int × (Int × ((Bool × List UInt8) × Int) × List UInt8 × Int × List UInt8) × Int × Int × UInt8 × Int × Int × List UInt8) : Prop :=
  (-9223372036854775808 ≤ p.1 ∧ p.1 ≤ 9223372036854775807) ∧ (((-9223372036854775808 ≤ p.2.1.1 ∧ p.2.1.1 ≤ 9223372036854775807) ∧ (((True ∧ p.2.1.2.1.1.2.length = 16) ∧ (-9223372036854775808 ≤ p.2.1.2.1.2 ∧ p.2.1.2.1.2 ≤ 9223372036854775807)) ∧ (p.2.1.2.2.1.length ≤ maxLen ∧ ((-9223372036854775808 ≤ p.2.1.2.2.2.1 ∧ p.2.1.2.2.2.1 ≤ 9223372036854775807) ∧ p.2.1.2.2.2.2.length ≤ maxLen)))) ∧
    ((-9223372036854775808 ≤ p.2.2.1 ∧ p.2.2.1 ≤ 9223372036854775807) ∧ ((-9223372036854775808 ≤ p.2.2.2.1 ∧ p.2.2.2.1 ≤ 9223372036854775807) ∧ (True ∧ ((-9223372036854775808 ≤ p.2.2.2.2.2.1 ∧ p.2.2.2.2.2.1 ≤ 9223372036854775807) ∧ ((-9223372036854775808 ≤ p.2.2.2.2.2.2.1 ∧ p.2.2.2.2.2.2.1 ≤ 9223372036854775807) ∧ p.2.2.2.2.2.2.2.length = 32))))))
theorem rawC_eq (p : Int × (Int × ((Bool × List UInt8) × Int) × List UInt8 × Int × List UInt8) × Int × Int × UInt8 × Int × Int × List UInt8) : rawC p = acC (rawA p) := by simp [rawC, rawA, acC, evC, lb]
structure AcW (a : Ac) : Prop where
  ip : a.ev.ip.length = 16
  key : a.key.length = 32
  bytes : a.ev.bytes.length ≤ maxLen
  text : a.ev.text.length ≤ maxLen
  ek : i64 a.ev.kind
  po : i64 a.ev.port
  ti : i64 a.ev.time
  kind : i64 a.kind
  who : i64 a.who
  n : i64 a.n
  lo : i64 a.lo
  hi : i64 a.hi
theorem RawP.w {p : Int × (Int × ((Bool × List UInt8) × Int) × List UInt8 × Int × List UInt8) × Int × Int × UInt8 × Int × Int × List UInt8} (h : RawP p) : AcW (rawA p) := by
  obtain ⟨h1, ⟨h2, ⟨⟨_, h3⟩, h4⟩, h5, h6, h7⟩, h8, h9, _, h10, h11, h12⟩ := h
  exact ⟨h3, h12, h5, h7, h2, h4, h6, h1, h8, h9, h10, h11⟩
def cutA (a : Ac) : Ac := { a with ev := { a.ev with bytes := a.ev.bytes.take 20, text := a.ev.text.take 20 } }
theorem cutA_s {a : Ac} (h : AcW a) : AcS (cutA a) := by
  have h1 : (cutA a).ev.bytes.length ≤ 20 := by show (a.ev.bytes.take 20).length ≤ 20; rw [List.length_take]; omega
  have h2 : (cutA a).ev.text.length ≤ 20 := by show (a.ev.text.take 20).length ≤ 20; rw [List.length_take]; omega
  exact ⟨⟨⟨h.ip, h.ek, h.po, h.ti, by omega, by omega⟩, h.kind, h.who, h.n, h.lo, h.hi, h.key⟩, by omega, by omega⟩
theorem row_cell {f : Ac → List CV} {L : List Ac} (hL : ∀ a ∈ L, (f a).length = 60) {i k : Nat} (hi : i < L.length) (hk : k < 60) {v : CV} {b : Ac} (hb : f b = (f L[i]).take k ++ v :: (f L[i]).drop (k + 1)) :
    (L.flatMap f).take (i * 60 + k) ++ v :: (L.flatMap f).drop (i * 60 + k + 1) = (L.set i b).flatMap f := by
  have e1 : L = L.take i ++ L[i] :: L.drop (i + 1) := by rw [← List.drop_eq_getElem_cons hi, List.take_append_drop]
  have hA : ((L.take i).flatMap f).length = i * 60 := by rw [fl_len fun a ha => hL a (List.mem_of_mem_take ha), List.length_take, Nat.min_eq_left (by omega)]
  have hX := hL L[i] (List.getElem_mem hi)
  have e2 : L.flatMap f = (L.take i).flatMap f ++ (f L[i] ++ (L.drop (i + 1)).flatMap f) := by
    conv => lhs; rw [e1]
    rw [List.flatMap_append, List.flatMap_cons]
  have e3 : L.set i b = L.take i ++ b :: L.drop (i + 1) := by rw [List.set_eq_take_append_cons_drop, if_pos hi]
  rw [e3, List.flatMap_append, List.flatMap_cons, hb, e2]
  generalize (L.take i).flatMap f = A at *
  generalize (L.drop (i + 1)).flatMap f = E at *
  generalize f L[i] = X at *
  rw [List.take_append, List.take_of_length_le (by omega : A.length ≤ i * 60 + k), hA, Nat.add_sub_cancel_left, List.take_append_of_le_length (by omega), Nat.add_assoc, ← List.drop_drop, List.drop_left' hA, List.drop_append_of_le_length (by omega)]
  simp
theorem row_get {f : Ac → List CV} {L : List Ac} (hL : ∀ a ∈ L, (f a).length = 60) {i k : Nat} (hi : i < L.length) (hk : k < 60) {v : CV} {r : List CV} (hv : (f L[i]).drop k = v :: r) :
    (L.flatMap f).drop (i * 60 + k) = v :: (L.flatMap f).drop (i * 60 + k + 1) := by
  have hc := cells_all (f := f) (z := 60) (L := L) hL i hi
  have hl : i * 60 + k < (L.flatMap f).length := by omega
  rw [List.drop_eq_getElem_cons hl]
  congr 1
  have h2 : ((L.flatMap f).drop (i * 60 + k))[0]? = some v := by
    have h3 : (((L.flatMap f).drop (i * 60)).take 60)[k]? = some v := by
      rw [hc.2]
      have := congrArg (·[0]?) hv
      simpa [List.getElem?_drop] using this
    rw [List.getElem?_take_of_lt hk, List.getElem?_drop] at h3
    rw [List.getElem?_drop]
    exact h3
  rw [List.getElem?_drop, Nat.add_zero, List.getElem?_eq_getElem hl] at h2
  exact Option.some.inj h2
theorem ac_cut {P : List CV} {c : CV} {r : List CV} {n : Nat} (h : P.length = n) : (P ++ c :: r).drop n = c :: (P ++ c :: r).drop (n + 1) ∧ ∀ v : CV, (P ++ c :: r).take n ++ v :: (P ++ c :: r).drop (n + 1) = P ++ v :: r := by
  have e : (P ++ c :: r).drop (n + 1) = r := by rw [← List.drop_drop, List.drop_left' h]; rfl
  exact ⟨by rw [List.drop_left' h, e], fun v => by rw [List.take_left' h, e]⟩
theorem ac_at (a : Ac) (h : a.ev.ip.length = 16) (b : List UInt8) (t : Int) (x : List UInt8) :
    acC { a with ev := { a.ev with bytes := b, time := t, text := x } } = (.int .i64 a.kind :: .int .i64 a.ev.kind :: .bool a.ev.six :: (a.ev.ip.map byteC ++ [.int .i64 a.ev.port])) ++ .lst b.length (b.map byteC) false :: .int .i64 t :: .str x :: .int .i64 a.who :: .int .i64 a.n :: byteC a.xor :: .int .i64 a.lo :: .int .i64 a.hi :: a.key.map byteC := by simp [acC, evC]
theorem ac_bytes (a : Ac) (h : a.ev.ip.length = 16) (b : List UInt8) : (acC a).drop 20 = .lst a.ev.bytes.length (a.ev.bytes.map byteC) false :: (acC a).drop 21 ∧ acC { a with ev := { a.ev with bytes := b } } = (acC a).take 20 ++ .lst b.length (b.map byteC) false :: (acC a).drop 21 := by
  have e := ac_at a h a.ev.bytes a.ev.time a.ev.text
  have e2 := ac_at a h b a.ev.time a.ev.text
  have hl : (CV.int .i64 a.kind :: .int .i64 a.ev.kind :: .bool a.ev.six :: (a.ev.ip.map byteC ++ [.int .i64 a.ev.port])).length = 20 := by simp [h]
  have e : acC a = _ := e
  have := ac_cut (c := .lst a.ev.bytes.length (a.ev.bytes.map byteC) false) (r := .int .i64 a.ev.time :: .str a.ev.text :: .int .i64 a.who :: .int .i64 a.n :: byteC a.xor :: .int .i64 a.lo :: .int .i64 a.hi :: a.key.map byteC) hl
  rw [e]
  exact ⟨this.1, by rw [this.2]; exact e2⟩
theorem ac_text (a : Ac) (h : a.ev.ip.length = 16) (x : List UInt8) : (acC a).drop 22 = .str a.ev.text :: (acC a).drop 23 ∧ acC { a with ev := { a.ev with text := x } } = (acC a).take 22 ++ .str x :: (acC a).drop 23 := by
  have e := ac_at a h a.ev.bytes a.ev.time a.ev.text
  have e2 := ac_at a h a.ev.bytes a.ev.time x
  have hl : ((CV.int .i64 a.kind :: .int .i64 a.ev.kind :: .bool a.ev.six :: (a.ev.ip.map byteC ++ [CV.int .i64 a.ev.port])) ++ [CV.lst a.ev.bytes.length (a.ev.bytes.map byteC) false, CV.int .i64 a.ev.time]).length = 22 := by simp [h]
  have e : acC a = _ := e
  have := ac_cut (c := .str a.ev.text) (r := .int .i64 a.who :: .int .i64 a.n :: byteC a.xor :: .int .i64 a.lo :: .int .i64 a.hi :: a.key.map byteC) hl
  simp only [List.append_assoc, List.cons_append, List.nil_append] at this e e2
  rw [e]
  exact ⟨this.1, by rw [this.2]; exact e2⟩
theorem cut_cells {LJ : List Ac} (hL : ∀ x ∈ LJ, (acC x).length = 60) {j : Nat} (hj : j < LJ.length) {a : Ac} (ha : LJ[j] = a) (hip : a.ev.ip.length = 16) :
    ((LJ.flatMap acC).take (j * 60 + 1 + 19) ++ .lst (min 20 a.ev.bytes.length) ((a.ev.bytes.take 20).map byteC) false :: (LJ.flatMap acC).drop (j * 60 + 1 + 19 + 1)).take (j * 60 + 1 + 21) ++ .str (a.ev.text.take 20) :: ((LJ.flatMap acC).take (j * 60 + 1 + 19) ++ .lst (min 20 a.ev.bytes.length) ((a.ev.bytes.take 20).map byteC) false :: (LJ.flatMap acC).drop (j * 60 + 1 + 19 + 1)).drop (j * 60 + 1 + 21 + 1) = (LJ.set j (cutA a)).flatMap acC := by
  have h1 := (ac_bytes a hip (a.ev.bytes.take 20)).2
  have r1 := row_cell (f := acC) hL (i := j) (k := 20) hj (by omega) (b := { a with ev := { a.ev with bytes := a.ev.bytes.take 20 } }) (by rw [ha]; exact h1)
  rw [List.length_take] at r1
  have l1 : (acC { a with ev := { a.ev with bytes := a.ev.bytes.take 20 } }).length = 60 := by
    have := hL a (by rw [← ha]; exact List.getElem_mem hj)
    rw [h1]; simp; omega
  have hL2 : ∀ x ∈ LJ.set j { a with ev := { a.ev with bytes := a.ev.bytes.take 20 } }, (acC x).length = 60 := fun x hx => by
    rcases List.mem_or_eq_of_mem_set hx with h | h
    · exact hL x h
    · rw [h]; exact l1
  have h2 := (ac_text { a with ev := { a.ev with bytes := a.ev.bytes.take 20 } } hip (a.ev.text.take 20)).2
  have r2 := row_cell (f := acC) hL2 (i := j) (k := 22) (by simpa using hj) (by omega) (b := cutA a) (by rw [List.getElem_set_self]; exact h2)
  rw [List.set_set, ← r1] at r2
  simp only [Nat.add_assoc, Nat.reduceAdd] at r2 ⊢
  exact r2
def FmtX (c : CV) (W : List Box) : Prop := ∃ LL : List Ac, (∀ a ∈ LL, AcS a) ∧ LL.length ≤ 2000 ∧ fz true false W 6 c = some (.lst LL.length (LL.flatMap acC) false)
theorem FmtX.calls {c : CV} {W : List Box} (h : FmtX c W) : ∃ (S : List UInt8) (v : Int),
    (∀ {args : List CV}, Is args [c] → ACall Tryz.prog 15 args W fun c B' => c = .tup [.str S, .int .i64 v] ∧ B' = W) ∧
    (∀ {args : List CV}, Is args [c] → ACall Tryz.prog 6 args W fun c B' => c = .tup [.str S, .int .i64 v] ∧ B' = W) := by
  obtain ⟨LL, h1, h2, h3⟩ := h
  refine ⟨(fmtV LL).1, (fmtV LL).2, fun h => ?_, fun h => ?_⟩
  · obtain rfl := h
    exact acall_fresh (nz := true) (omap_one h3) (format_in LL h1 h2)
  · obtain rfl := h
    rw [fmt_eq]
    exact acall_fresh (nz := true) (omap_one h3) (rformat_in LL h1 h2)
theorem FmtX.lst {L : List Ac} (h : ∀ a ∈ L, AcS a) (hl : L.length ≤ 2000) {n : Nat} (hn : n = L.length) {W : List Box} {f : Bool} : FmtX (.lst n (L.flatMap acC) f) W := ⟨L, h, hl, by subst hn; simp [fz_lst, acs_om]⟩
theorem FmtX.nil {W : List Box} : FmtX .nilS W := ⟨[], by simp, by simp, rfl⟩
theorem FmtX.view {W : List Box} {b n : Nat} {f : Bool} {box : Box} {L : List Ac} (h : ∀ a ∈ L, AcS a) (hl : L.length ≤ 2000) (hn : n = L.length) (hW : W[b]? = some box) (hc : omap (fz true false W 5) (box.cells.take (n * 60)) = some (L.flatMap acC)) : FmtX (.view b 0 n 60 f) W := by
  refine ⟨L, h, hl, ?_⟩
  subst hn
  rw [fz_view, hW]
  simp only [List.drop_zero, hc, Option.map_some, Bool.not_true, Bool.and_false]
end Go.Proofs.YtcbdghgogmcllaaGreatDoor
end
section
namespace Go.Sy
theorem omap_mono {f g : CV → Option CV} (h : ∀ c c', f c = some c' → g c = some c') : ∀ {l r : List CV}, omap f l = some r → omap g l = some r
  | [], _, hr => hr
  | c :: l, r, hr => by
    obtain ⟨c', l', rfl, h1, h2⟩ := omap_cons hr
    simp only [omap, h c c' h1, omap_mono h h2]
theorem fz_more {nz fr : Bool} {B G : List Box} : ∀ (k : Nat) (c c' : CV), fz nz fr B k c = some c' → fz nz fr (B ++ G) k c = some c' := by
  intro k
  induction k with
  | zero => intro c c' h; simp [fz] at h
  | succ k ih =>
    intro c c' h
    have hb : ∀ {b : Nat} {box : Box}, B[b]? = some box → (B ++ G)[b]? = some box := fun h => by rw [List.getElem?_append_left (List.getElem?_eq_some_iff.1 h).1]; exact h
    have ho : ∀ {l r : List CV}, omap (fz nz fr B k) l = some r → omap (fz nz fr (B ++ G) k) l = some r := fun h => omap_mono ih h
    cases c with
    | view b off n sz full =>
      simp only [fz] at h ⊢
      split at h
      · rename_i box hx
        rw [hb hx]
        simp only [Option.map_eq_some_iff] at h ⊢
        obtain ⟨r, h1, h2⟩ := h
        exact ⟨r, ho h1, h2⟩
      · cases h
    | cview b off n cap sz =>
      simp only [fz] at h ⊢
      split at h
      · rename_i box hx
        rw [hb hx]
        simp only [Option.map_eq_some_iff] at h ⊢
        obtain ⟨r, h1, h2⟩ := h
        exact ⟨r, ho h1, h2⟩
      · cases h
    | ptr b off =>
      simp only [fz] at h ⊢
      split at h
      · rename_i box hx
        rw [hb hx]
        split at h
        · cases h
        · rename_i hm
          simp only [hm, Bool.false_eq_true, if_false, Option.map_eq_some_iff] at h ⊢
          obtain ⟨r, h1, h2⟩ := h
          exact ⟨r, ho h1, h2⟩
      · cases h
    | agg cs | tup cs =>
      simp only [fz, Option.map_eq_some_iff] at h ⊢
      obtain ⟨r, h1, h2⟩ := h
      exact ⟨r, ho h1, h2⟩
    | lst n cs full =>
      simp only [fz] at h ⊢
      split at h
      · cases h
      · rename_i hx
        rw [if_neg hx]
        simp only [Option.map_eq_some_iff] at h ⊢
        obtain ⟨r, h1, h2⟩ := h
        exact ⟨r, ho h1, h2⟩
    | iptr cs =>
      simp only [fz] at h ⊢
      split at h
      · cases h
      · rename_i hx
        rw [if_neg hx]
        simp only [Option.map_eq_some_iff] at h ⊢
        obtain ⟨r, h1, h2⟩ := h
        exact ⟨r, ho h1, h2⟩
    | fn f x y =>
      simp only [fz] at h ⊢
      split at h
      · rename_i a b e1 e2
        rw [ho e1, ho e2]; exact h
      · cases h
    | iface t v =>
      simp only [fz, Option.map_eq_some_iff] at h ⊢
      obtain ⟨r, h1, h2⟩ := h
      exact ⟨r, ih _ _ h1, h2⟩
    | imap x y =>
      simp only [fz] at h ⊢
      split at h
      · cases h
      · rename_i hx
        rw [if_neg hx]
        split at h
        · rename_i a b e1 e2
          rw [ho e1, ho e2]; exact h
        · cases h
    | bview | bptr => simp [fz] at h
    | bool | int | str | nilP | nilS | nilF | nilI | raw => exact h
end Go.Sy
namespace Go.Proofs.YtcbdghgogmcllaaGreatDoor
open Go Go.Sy
structure Turn (a b : Ac) (k : Nat) (v : CV) : Prop where
  cells : acC b = (acC a).take k ++ v :: (acC a).drop (k + 1)
  s : AcS b
theorem ac_turn {P : List CV} {c : CV} {r : List CV} {k : Nat} {X Y : List CV} {v : CV} (hX : X = P ++ c :: r) (hY : Y = P ++ v :: r) (hl : P.length = k) : Y = X.take k ++ v :: X.drop (k + 1) := by
  subst hX hY
  exact ((ac_cut hl).2 v).symm
theorem turn_kind {a : Ac} (h : AcS a) {n : Int} (hn : i64 n) : Turn a { a with kind := n } 0 (.int .i64 n) := ⟨rfl, ⟨{ h.l with kind := hn }, h.bytes, h.text⟩⟩
theorem turn_who {a : Ac} (h : AcS a) {n : Int} (hn : i64 n) : Turn a { a with who := n } 23 (.int .i64 n) :=
  ⟨ac_turn (P := .int .i64 a.kind :: evC a.ev) (c := .int .i64 a.who) (r := .int .i64 a.n :: byteC a.xor :: .int .i64 a.lo :: .int .i64 a.hi :: a.key.map byteC) rfl rfl (by simp [evC_len h.l.ev.ip]), ⟨{ h.l with who := hn }, h.bytes, h.text⟩⟩
theorem turn_n {a : Ac} (h : AcS a) {n : Int} (hn : i64 n) : Turn a { a with n := n } 24 (.int .i64 n) :=
  ⟨ac_turn (P := .int .i64 a.kind :: (evC a.ev ++ [.int .i64 a.who])) (c := .int .i64 a.n) (r := byteC a.xor :: .int .i64 a.lo :: .int .i64 a.hi :: a.key.map byteC) (by simp [acC]) (by simp [acC]) (by simp [evC_len h.l.ev.ip]), ⟨{ h.l with n := hn }, h.bytes, h.text⟩⟩
theorem turn_lo {a : Ac} (h : AcS a) {n : Int} (hn : i64 n) : Turn a { a with lo := n } 26 (.int .i64 n) :=
  ⟨ac_turn (P := .int .i64 a.kind :: (evC a.ev ++ [.int .i64 a.who, .int .i64 a.n, byteC a.xor])) (c := .int .i64 a.lo) (r := .int .i64 a.hi :: a.key.map byteC) (by simp [acC]) (by simp [acC]) (by simp [evC_len h.l.ev.ip]), ⟨{ h.l with lo := hn }, h.bytes, h.text⟩⟩
theorem turn_time {a : Ac} (h : AcS a) {n : Int} (hn : i64 n) : Turn a { a with ev := { a.ev with time := n } } 21 (.int .i64 n) :=
  ⟨ac_turn (P := .int .i64 a.kind :: .int .i64 a.ev.kind :: .bool a.ev.six :: (a.ev.ip.map byteC ++ [.int .i64 a.ev.port, .lst a.ev.bytes.length (a.ev.bytes.map byteC) false])) (c := .int .i64 a.ev.time) (r := .str a.ev.text :: .int .i64 a.who :: .int .i64 a.n :: byteC a.xor :: .int .i64 a.lo :: .int .i64 a.hi :: a.key.map byteC) (by simp [acC, evC]) (by simp [acC, evC]) (by simp [h.l.ev.ip]), ⟨{ h.l with ev := { h.l.ev with time := hn } }, h.bytes, h.text⟩⟩
theorem turn_port {a : Ac} (h : AcS a) {n : Int} (hn : i64 n) : Turn a { a with ev := { a.ev with port := n } } 19 (.int .i64 n) :=
  ⟨ac_turn (P := .int .i64 a.kind :: .int .i64 a.ev.kind :: .bool a.ev.six :: (a.ev.ip.map byteC)) (c := .int .i64 a.ev.port) (r := .lst a.ev.bytes.length (a.ev.bytes.map byteC) false :: .int .i64 a.ev.time :: .str a.ev.text :: .int .i64 a.who :: .int .i64 a.n :: byteC a.xor :: .int .i64 a.lo :: .int .i64 a.hi :: a.key.map byteC) (by simp [acC, evC]) (by simp [acC, evC]) (by simp [h.l.ev.ip]), ⟨{ h.l with ev := { h.l.ev with port := hn } }, h.bytes, h.text⟩⟩
theorem turn_text {a : Ac} (h : AcS a) {x : List UInt8} (hx : x.length < 100000) : Turn a { a with ev := { a.ev with text := x } } 22 (.str x) := ⟨(ac_text a h.l.ev.ip x).2, ⟨{ h.l with ev := { h.l.ev with text := by show x.length < _; omega } }, h.bytes, hx⟩⟩
theorem turn_bytes {a : Ac} (h : AcS a) {x : List UInt8} (hx : x.length < 100000) : Turn a { a with ev := { a.ev with bytes := x } } 20 (.lst x.length (x.map byteC) false) := ⟨(ac_bytes a h.l.ev.ip x).2, ⟨{ h.l with ev := { h.l.ev with bytes := by show x.length < _; omega } }, hx, h.text⟩⟩
theorem fmt_turn {L : List Ac} {n i k : Nat} {b : Ac} {v v' : CV} {W : List Box} {γ : Nat} (hL : ∀ a ∈ L, AcS a) (hn : n = L.length) (hl : L.length ≤ 2000) (hi : i < L.length) (hk : k < 60) (ht : Turn L[i] b k v') (hv : fz true false W 5 v = some v')
    (hW : W[γ]? = some ⟨(L.flatMap acC).take (i * 60 + k) ++ v :: (L.flatMap acC).drop (i * 60 + k + 1), false⟩) : FmtX (.view γ 0 n 60 false) W := by
  have hc : ∀ a ∈ L, (acC a).length = 60 := fun a ha => acC_len (hL a ha).l
  have r := row_cell (f := acC) hc hi hk ht.cells
  have hf := fl_len hc
  refine FmtX.view (L := L.set i b) (fun a ha => ?_) (by simpa using hl) (by simpa using hn) hW ?_
  · rcases List.mem_or_eq_of_mem_set ha with h | h
    · exact hL a h
    · rw [h]; exact ht.s
  · rw [← r]
    have hfr : omap (fz true false W 5) (L.flatMap acC) = some (L.flatMap acC) := acs_om L
    have hlen : ((L.flatMap acC).take (i * 60 + k) ++ v :: (L.flatMap acC).drop (i * 60 + k + 1)).length = n * 60 := by
      have : i * 60 + k < L.length * 60 := by omega
      simp [hf]; omega
    show omap _ (((L.flatMap acC).take (i * 60 + k) ++ v :: (L.flatMap acC).drop (i * 60 + k + 1)).take (n * 60)) = _
    rw [List.take_of_length_le (by omega), omap_app, omap_take hfr]
    have := omap_drop hfr (i * 60 + k + 1)
    simp only [Option.bind_some, omap, hv, this, Option.map_some]
def RawV (c : CV) (W : List Box) : Prop := (c = .nilS ∧ W = []) ∨ ∃ RL : List Ac, (∀ a ∈ RL, AcS a) ∧ RL.length ≤ 5 ∧ c = .view 0 0 RL.length 60 false ∧ W = [⟨RL.flatMap acC, false⟩]
theorem RawV.fmt {c : CV} {W : List Box} (h : RawV c W) (G : List Box) : FmtX c (W ++ G) := by
  rcases h with ⟨rfl, rfl⟩ | ⟨RL, h1, h2, rfl, rfl⟩
  · exact FmtX.nil
  · refine FmtX.view h1 (by omega) rfl rfl ?_
    rw [List.take_of_length_le (by show (RL.flatMap acC).length ≤ _; rw [fl_len fun a ha => acC_len (h1 a ha).l]; exact Nat.le_refl _)]
    exact acs_om RL
theorem zs_om {W : List Box} : ∀ n : Nat, omap (fz true false W 5) (repC zAc n) = some ((List.replicate n act0).flatMap acC)
  | 0 => rfl
  | n + 1 => by
    rw [repC, omap_app, zs_om n, List.replicate_succ, List.flatMap_cons]
    have : omap (fz true false W 5) zAc = some (acC act0) := rfl
    rw [this]
    rfl
theorem zs_len : ∀ n : Nat, (repC zAc n).length = n * 60
  | 0 => rfl
  | n + 1 => by rw [repC, List.length_append, zs_len n]; show 60 + n * 60 = _; omega
theorem act0_s : AcS act0 := ⟨act0_L, by decide, by decide⟩
theorem FmtX.more {c : CV} {W G : List Box} (h : FmtX c W) : FmtX c (W ++ G) := by
  obtain ⟨LL, h1, h2, h3⟩ := h
  exact ⟨LL, h1, h2, fz_more 6 _ _ h3⟩
theorem FmtX.zeros {W : List Box} {b n : Nat} {f : Bool} (hn : n ≤ 2000) (hW : W[b]? = some ⟨repC zAc n, false⟩) : FmtX (.view b 0 n 60 f) W := by
  refine FmtX.view (L := List.replicate n act0) (fun a ha => by rw [List.eq_of_mem_replicate ha]; exact act0_s) (by simpa using hn) (by simp) hW ?_
  rw [List.take_of_length_le (by show (repC zAc n).length ≤ _; rw [zs_len]; exact Nat.le_refl _)]
  exact zs_om n
end Go.Proofs.YtcbdghgogmcllaaGreatDoor
end
section
namespace Go.Proofs.YtcbdghgogmcllaaGreatDoor
open Go Go.Sy
theorem kE_L10 {α : Type} {x y : α} (h : Is x y := by first | ((try simp (disch := first | omega | (simp only [yZ, yB] <;> omega) | fail) [go_sem, yY, *, lb, if_pos, if_neg, -List.map_take, -List.map_drop, -List.map_append, -List.map_reverse]); exact rfl) | fail) : Is x y := h
theorem kD_L10 {p : Prop} (h : p := by (first | omega | assumption | exact rfl | ((simp (disch := first | omega | (simp only [yZ, yB] <;> omega) | fail) [go_sem, yY, *, lb, -List.map_take, -List.map_drop, -List.map_append, -List.map_reverse]) <;> (first | done | omega | exact rfl)) | fail)) : p := h
theorem kE_L11 {α : Type} {x y : α} (h : Is x y := by first | ((try simp (disch := first | omega | (simp only [yZ, yB] <;> omega) | fail) [go_sem, yY, *, bx_get0, bx_get, bx_set0, bx_set, if_pos, if_neg, -List.map_take, -List.map_drop, -List.map_append, -List.map_reverse]); exact rfl) | fail) : Is x y := h
theorem kD_L11 {p : Prop} (h : p := by (first | omega | assumption | exact rfl | ((simp (disch := first | omega | (simp only [yZ, yB] <;> omega) | fail) [go_sem, yY, *, bx_get0, bx_get, bx_set0, bx_set, -List.map_take, -List.map_drop, -List.map_append, -List.map_reverse]) <;> (first | done | omega | exact rfl)) | fail)) : p := h
theorem wB_L10 {p q : Prop} (k : q) (h : Hq q → p := by (intro k; (repeat' (first | (with_reducible first | apply jA | apply jB | apply jC | apply jD | apply jE | apply jF | apply jG | apply jH | apply jI | apply jJ | apply jK | apply jL | apply jM | apply jN | apply jO) | ((with_reducible first | apply jP | apply jQ); rfl) | ((first | ((with_reducible first | apply jR | apply jS | apply jT); rfl; rfl) | (with_reducible first | apply jU | apply jV | apply jW) | ((with_reducible first | apply jX | apply jY | apply jZ); rfl) | ((with_reducible first | apply kA | apply kB | apply kC); rfl)); all_goals (first | ((with_reducible show Is _ _); exact kE_L10) | ((with_reducible refine fun (hc : (_ : Bool) = _) => ?_); (try simp only [xZ, xY, xP, reduceCtorEq] at hc); (try (have hx : True := hc; clear hx hc)); (try exact kX)) | ((with_reducible show ACall _ _ _ _ _); (first | ((with_reducible apply c0) <;> exact kD_L10) | ((with_reducible apply c1) <;> exact kD_L10) | ((with_reducible apply c2) <;> exact kD_L10) | ((with_reducible apply c3) <;> exact kD_L10) | ((with_reducible apply c4) <;> exact kD_L10) | ((with_reducible apply c5) <;> exact kD_L10) | ((with_reducible apply c6) <;> exact kD_L10) | ((with_reducible apply c7) <;> exact kD_L10))) | ((fail_if_success (with_reducible first | show Is _ _ | show ACall _ _ _ _ _)); (try ((with_reducible show _ ∨ _); exact kT))))) | (((with_reducible first | apply o_callQ | apply q_callQ); rfl); (iterate 2 exact kE_L10); (first | ((with_reducible apply q0) <;> exact kD_L10))))); exact hq k)) : p := h ⟨k⟩
theorem wB_L11 {p q : Prop} (k : q) (h : Hq q → p := by (intro k; (repeat' (first | (with_reducible first | apply jA | apply jB | apply jC | apply jD | apply jE | apply jF | apply jG | apply jH | apply jI | apply jJ | apply jK | apply jL | apply jM | apply jN | apply jO) | ((with_reducible first | apply jP | apply jQ); rfl) | ((first | ((with_reducible first | apply jR | apply jS | apply jT); rfl; rfl) | (with_reducible first | apply jU | apply jV | apply jW) | ((with_reducible first | apply jX | apply jY | apply jZ); rfl) | ((with_reducible first | apply kA | apply kB | apply kC); rfl)); all_goals (first | ((with_reducible show Is _ _); exact kE_L11) | ((with_reducible refine fun (hc : (_ : Bool) = _) => ?_); (try simp only [xZ, xY, xP, reduceCtorEq] at hc); (try (have hx : True := hc; clear hx hc)); (try exact kX)) | ((with_reducible show ACall _ _ _ _ _); (first | ((with_reducible apply c0) <;> exact kD_L11) | ((with_reducible apply c1) <;> exact kD_L11) | ((with_reducible apply c2) <;> exact kD_L11) | ((with_reducible apply c3) <;> exact kD_L11) | ((with_reducible apply c4) <;> exact kD_L11) | ((with_reducible apply c5) <;> exact kD_L11) | ((with_reducible apply c6) <;> exact kD_L11) | ((with_reducible apply c7) <;> exact kD_L11))) | ((fail_if_success (with_reducible first | show Is _ _ | show ACall _ _ _ _ _)); (try ((with_reducible show _ ∨ _); exact kT))))) | (((with_reducible first | apply o_callQ | apply q_callQ); rfl); (iterate 2 exact kE_L11); (first | ((with_reducible apply q0) <;> exact kD_L11))))); exact hq k)) : p := h ⟨k⟩
theorem w_L100q {A0 p q : Prop} (q0 : A0) (k : q) (h : A0 → Hq q → p := by (intro q0 k; exact wB_L10 (hq k))) : p := h q0 ⟨k⟩
theorem w_L110 {p q : Prop}  (k : q) (h : Hq q → p := by (intro  k; exact wB_L11 (hq k))) : p := h  ⟨k⟩
theorem w_L111 {A0 p q : Prop} (c0 : A0) (k : q) (h : A0 → Hq q → p := by (intro c0 k; exact wB_L11 (hq k))) : p := h c0 ⟨k⟩
theorem ScriptFormats_in (codes : List UInt8) (what at_ : UInt8) (n : Int) (raw : List (Int × (Int × ((Bool × List UInt8) × Int) × List UInt8 × Int × List UInt8) × Int × Int × UInt8 × Int × Int × List UInt8)) (hcl : codes.length ≤ maxLen) (hn : -9223372036854775808 ≤ n ∧ n ≤ 9223372036854775807) (hr : raw.length ≤ maxLen ∧ ∀ p ∈ raw, RawP p) :
    PC Tryz.prog true 4 [lb codes, byteC what, byteC at_, .int .i64 n, .lst raw.length (raw.flatMap rawC) false] (.bool true) := by
  have hm' : (maxLen : Nat) = 9223372036854775807 := by rfl
  obtain ⟨R, hR⟩ : ∃ R, raw.map rawA = R := ⟨_, rfl⟩
  have hRl : R.length = raw.length := by rw [← hR, List.length_map]
  have hRw : ∀ a ∈ R, AcW a := fun a ha => by
    rw [← hR] at ha
    obtain ⟨p, hp, rfl⟩ := List.mem_map.1 ha
    exact (hr.2 p hp).w
  have hRf : raw.flatMap rawC = R.flatMap acC := by
    rw [← hR, List.flatMap_map]
    congr 1
    funext p
    exact rawC_eq p
  rw [hRf, ← hRl]
  have hrl := hr.1
  rw [← hRl] at hrl
  clear hr hRf hRl hR
  have hmade : ∀ {B : List Box} {args : List CV}, Is args [.lst codes.length (codes.map byteC) false] → ACall Tryz.prog 7 args B fun c B' => (∃ L : List Ac, L.length ≤ 16 ∧ (∀ x ∈ L, AcN x) ∧ c = .lst L.length (L.flatMap acC) false) ∧ B' = B := fun {B args} h => made_at codes (by omega) h
  obtain ⟨m, hm, hm5⟩ : ∃ m : Nat, min (R.length : Int) 5 = m ∧ m = min R.length 5 := ⟨min R.length 5, by omega, rfl⟩
  obtain ⟨R5, hR5⟩ : ∃ R5, R.take m = R5 := ⟨_, rfl⟩
  have hm6 : m ≤ 5 := by omega
  have hR5l : R5.length = m := by rw [← hR5, List.length_take]; omega
  have hR5w : ∀ a ∈ R5, AcW a := fun a ha => hRw a (List.mem_of_mem_take (by rw [hR5]; exact ha))
  have hcw : ∀ a ∈ R, (acC a).length = 60 := fun a ha => acK_len ⟨(hRw a ha).ip, (hRw a ha).key⟩
  have hRt : (R.flatMap acC).take (m * 60) = R5.flatMap acC := by rw [fl_take m hcw, hR5]
  have hRfl : (R.flatMap acC).length = R.length * 60 := fl_len hcw
  have hR5c : (R5.flatMap acC).length = m * 60 := by rw [← hR5l]; exact fl_len fun a ha => acK_len ⟨(hR5w a ha).ip, (hR5w a ha).key⟩
  have hR5t : (R5.flatMap acC).take (m * 60) = R5.flatMap acC := List.take_of_length_le (by omega)
  have hmb : m * Tryz.prog.bytesOf 47 ≤ 140737488355328 := by
    have : Tryz.prog.bytesOf 47 ≤ 1000 := by decide +kernel
    have : m * Tryz.prog.bytesOf 47 ≤ 5 * 1000 := Nat.mul_le_mul (by omega) this
    omega
  have hmb2 : m * 168 ≤ 140737488355328 := by omega
  clear hcw hR5 hRw
  generalize R.flatMap acC = RC at *
  generalize R.length = rn at *
  refine acall_intro mixed Tryz.func4 rfl ca4 (by kernel_rfl) (by rw [Tryz.ntmps4]; simp) ?_
  refine w_cut (fun fr W => fr 0 = lb codes ∧ fr 1 = byteC what ∧ fr 2 = byteC at_ ∧ fr 3 = .int .i64 n ∧ fr 4 = .lst rn RC false ∧ W = []) ?_ ?_
  · refine w0 ?_ 
    exact ⟨kS, kS, kS, kS, kS, rfl⟩
  rintro fr W ⟨f0, f1, f2, f3, f4, rfl⟩
  refine w_cut (fun fr W => ∃ L : List Ac, L.length ≤ 16 ∧ (∀ x ∈ L, AcN x) ∧ fr 11 = .lst L.length (L.flatMap acC) false ∧ fr 1 = byteC what ∧ fr 2 = byteC at_ ∧ fr 3 = .int .i64 n ∧ fr 4 = .lst rn RC false ∧ W = []) ?_ ?_
  · refine w_L100q @hmade ?_ 
    rintro _ _ ⟨⟨L, hL, hLN, rfl⟩, rfl⟩
    refine w0 ?_ 
    exact ⟨L, hL, hLN, kS, kS, kS, kS, kS, rfl⟩
  clear f0 f1 f2 f3 f4 fr hmade
  rintro fr W ⟨L, hL, hLN, f11, f1, f2, f3, f4, rfl⟩
  obtain ⟨LC, hLC⟩ : ∃ LC, L.flatMap acC = LC := ⟨_, rfl⟩
  obtain ⟨ln, hln⟩ : ∃ ln, L.length = ln := ⟨_, rfl⟩
  rw [hLC, hln] at f11
  rw [hln] at hL
  replace hLC : Hid _ := hLC
  replace hln : Hid _ := hln
  replace hLN : Hid _ := hLN
  replace hR5w : Hid _ := hR5w
  refine w_cut (fun fr W => ((m = 0 ∧ fr 4 = .nilS ∧ W = []) ∨ (m ≠ 0 ∧ fr 4 = .view 0 0 m 60 false ∧ W = [⟨R5.flatMap acC, false⟩])) ∧ fr 11 = .lst ln LC false ∧ fr 1 = byteC what ∧ fr 2 = byteC at_ ∧ fr 3 = .int .i64 n) ?_ ?_
  · by_cases h0 : m = 0
    · subst h0
      obtain rfl : rn = 0 := by omega
      clear hm5 hRt hm hR5l hR5t hR5c hmb hmb2
      have hRC : RC = [] := List.eq_nil_of_length_eq_zero (by omega)
      subst hRC
      refine w0 ?_ 
      exact ⟨.inl ⟨rfl, kS, rfl⟩, kS, kS, kS, kS⟩
    · replace hm5 : Hid _ := hm5
      have hmr : m ≤ rn := by omega
      refine w0 ?_ 
      exact ⟨.inr ⟨h0, kS, rfl⟩, kS, kS, kS, kS⟩
  clear hRt hRfl hm hm5 hrl f4 f11 f1 f2 f3 fr
  rintro fr W ⟨h4, f11, f1, f2, f3⟩
  refine w_cut (fun fr W => ((m = 0 ∧ fr 4 = .nilS ∧ W = []) ∨ (m ≠ 0 ∧ fr 4 = .view 0 0 m 60 false ∧ W = [⟨(R5.map cutA).flatMap acC, false⟩])) ∧ fr 11 = .lst ln LC false ∧ fr 1 = byteC what ∧ fr 2 = byteC at_ ∧ fr 3 = .int .i64 n) ?_ ?_
  · rcases h4 with ⟨rfl, f4, rfl⟩ | ⟨h0, f4, rfl⟩
    · refine w0 ?_ 
      refine w_loop (fun fr W => fr 30 = .int .i64 0 ∧ fr 31 = .int .i64 0 ∧ fr 4 = .nilS ∧ W = [] ∧ fr 11 = .lst ln LC false ∧ fr 1 = byteC what ∧ fr 2 = byteC at_ ∧ fr 3 = .int .i64 n) (fun fr _ => 0) ?_ ?_
      · exact ⟨kS, kS, kS, rfl, kS, kS, kS, kS⟩
      clear f4 f11 f1 f2 f3 fr
      rintro fr W ⟨f30, f31, f4, rfl, f11, f1, f2, f3⟩
      refine w0 ?_ 
      exact ⟨.inl ⟨rfl, f4, rfl⟩, f11, f1, f2, f3⟩
    · have hR5w' : ∀ a ∈ R5, AcW a := hR5w
      obtain ⟨C5, hC5⟩ : ∃ C5, R5.flatMap acC = C5 := ⟨_, rfl⟩
      rw [hC5] at hR5c hR5t ⊢
      replace hC5 : Hid _ := hC5
      refine w0 ?_ 
      replace hC5 : R5.flatMap acC = C5 := hC5
      refine w_loop (fun fr W => ∃ j, j ≤ m ∧ fr 30 = .int .i64 m ∧ fr 31 = .int .i64 j ∧ fr 4 = .view 0 0 m 60 false ∧ W = [⟨((R5.take j).map cutA ++ R5.drop j).flatMap acC, false⟩] ∧ fr 11 = .lst ln LC false ∧ fr 1 = byteC what ∧ fr 2 = byteC at_ ∧ fr 3 = .int .i64 n) (fun fr _ => m - natOf (fr 31)) ?_ ?_
      · exact ⟨0, by omega, kS, kS, kS, by simp [hC5], kS, kS, kS, kS⟩
      clear f4 f11 f1 f2 f3 fr hR5t hR5c hC5 C5
      rintro fr W ⟨j, hj, f30, f31, f4, rfl, f11, f1, f2, f3⟩
      have hmj : natOf (fr 31) = j := by rw [f31]; rfl
      by_cases hc : j < m
      · have hjR : j < R5.length := by omega
        obtain ⟨a, ha⟩ : ∃ a, R5[j]'hjR = a := ⟨_, rfl⟩
        have haw : AcW a := by rw [← ha]; exact hR5w' _ (List.getElem_mem hjR)
        obtain ⟨LJ, hLJ⟩ : ∃ LJ, (R5.take j).map cutA ++ R5.drop j = LJ := ⟨_, rfl⟩
        have hLJl : LJ.length = m := by rw [← hLJ]; simp; omega
        have hLJa : ∀ x ∈ LJ, (acC x).length = 60 := fun x hx => by
          rw [← hLJ] at hx
          rcases List.mem_append.1 hx with h | h
          · obtain ⟨y, hy, rfl⟩ := List.mem_map.1 h
            have := hR5w' y (List.mem_of_mem_take hy)
            exact acK_len ⟨this.ip, this.key⟩
          · have := hR5w' x (List.mem_of_mem_drop h)
            exact acK_len ⟨this.ip, this.key⟩
        have hLJj : LJ[j]'(by omega) = a := by
          simp only [← hLJ]
          rw [List.getElem_append_right (by simp; omega)]
          simp only [List.length_map, List.length_take, Nat.min_eq_left (Nat.le_of_lt hjR), Nat.sub_self, List.getElem_drop, Nat.add_zero, ha]
        have e20 := (ac_bytes a haw.ip []).1
        have e22 := (ac_text a haw.ip []).1
        have hcc := cut_cells hLJa (by omega) hLJj haw.ip
        have hset : LJ.set j (cutA a) = (R5.take (j + 1)).map cutA ++ R5.drop (j + 1) := by
          rw [← hLJ, List.set_append_right _ _ (by simp; omega), List.length_map, List.length_take, Nat.min_eq_left (Nat.le_of_lt hjR), Nat.sub_self, List.drop_eq_getElem_cons hjR, List.set_cons_zero, List.take_succ_eq_append_getElem hjR, ha]
          simp
        rw [hset] at hcc
        have g20 := row_get (f := acC) hLJa (i := j) (k := 20) (by omega) (by omega) (by rw [hLJj]; exact e20)
        have g22 := row_get (f := acC) hLJa (i := j) (k := 22) (by omega) (by omega) (by rw [hLJj]; exact e22)
        have hcut : ∀ {B : List Box} {args : List CV}, Is args [.lst a.ev.bytes.length (a.ev.bytes.map byteC) false, .int .i64 20] → ACall Tryz.prog 13 args B fun c B' => c = .lst (a.ev.bytes.take 20).length ((a.ev.bytes.take 20).map byteC) false ∧ B' = B := fun h => cutB_at (n := 20) h rfl (by have := haw.bytes; omega) (by omega)
        have hsh : ∀ {B : List Box} {args : List CV}, Is args [.str a.ev.text, .int .i64 20] → ACall Tryz.prog 8 args B fun c B' => c = .str (a.ev.text.take 20) ∧ B' = B := fun h => shortB_at (n := 20) h rfl haw.text (by omega)
        have hZl : (LJ.flatMap acC).length = m * 60 := by rw [fl_len hLJa, hLJl]
        rw [hLJ]
        generalize LJ.flatMap acC = Z at *
        generalize a.ev.bytes = bs at *
        generalize a.ev.text = tx at *
        replace hLJ : Hid _ := hLJ
        replace hLJa : Hid _ := hLJa
        replace hR5w' : Hid _ := hR5w'
        replace hcc : Hid _ := hcc
        clear ha haw hLJj e20 e22 hset
        refine w2 @hcut @hsh ?_ 
        exact ⟨⟨j + 1, by omega, kS, kS, kS, by rw [← hcc], kS, kS, kS, kS⟩, kS⟩
      · obtain rfl : j = m := by omega
        have e1 : (R5.take j).map cutA ++ R5.drop j = R5.map cutA := by rw [← hR5l, List.take_length, List.drop_length, List.append_nil]
        rw [e1]
        replace hR5w' : Hid _ := hR5w'
        refine w0 ?_ 
        exact ⟨.inr ⟨h0, f4, rfl⟩, f11, f1, f2, f3⟩
  rintro fr W ⟨h4, f11, f1, f2, f3⟩
  obtain ⟨c4, f4⟩ : ∃ c4, fr 4 = c4 := ⟨_, rfl⟩
  have hraw : Hid (RawV c4 W) := by
    have hR5w' : ∀ a ∈ R5, AcW a := hR5w
    rw [← f4]
    rcases h4 with ⟨_, h4, rfl⟩ | ⟨_, h4, rfl⟩
    · exact .inl ⟨h4, rfl⟩
    · refine .inr ⟨R5.map cutA, fun a ha => ?_, by simp; omega, by rw [h4]; simp [hR5l], rfl⟩
      obtain ⟨x, hx, rfl⟩ := List.mem_map.1 ha
      exact cutA_s (hR5w' x hx)
  clear h4 hR5w hR5c hR5t hmb hmb2 hR5l
  have hLS : Hid (∀ a ∈ L, AcS a) := fun a ha => ((show ∀ x ∈ L, AcN x from hLN) a ha).s
  clear hLN
  refine w_cut (fun fr W' => ((ln = 0 ∧ fr 13 = .nilS ∧ W' = W) ∨ (ln ≠ 0 ∧ fr 13 = .view W.length 0 ln 60 false ∧ W' = W ++ [⟨LC, false⟩])) ∧ fr 4 = c4 ∧ fr 11 = .lst ln LC false ∧ fr 1 = byteC what ∧ fr 2 = byteC at_ ∧ fr 3 = .int .i64 n) ?_ ?_
  · have hLCl : LC.length = ln * 60 := by
      rw [← (show L.flatMap acC = LC from hLC), ← (show L.length = ln from hln)]
      exact fl_len fun a ha => acC_len ((show ∀ a ∈ L, AcS a from hLS) a ha).l
    by_cases h0 : ln = 0
    · subst h0
      have hLC0 : LC = [] := List.eq_nil_of_length_eq_zero (by omega)
      subst hLC0
      refine w0 ?_ 
      exact ⟨.inl ⟨rfl, kS, rfl⟩, kS, kS, kS, kS, kS⟩
    · have hLCt : LC.take (ln * 60) = LC := List.take_of_length_le (by omega)
      have hmb : ln * Tryz.prog.bytesOf 47 ≤ 140737488355328 := by
        have : Tryz.prog.bytesOf 47 ≤ 1000 := by decide +kernel
        have : ln * Tryz.prog.bytesOf 47 ≤ 16 * 1000 := Nat.mul_le_mul (by omega) this
        omega
      have hmb2 : ln * 168 ≤ 140737488355328 := by omega
      refine w0 ?_ 
      exact ⟨.inr ⟨h0, kS, rfl⟩, kS, kS, kS, kS, kS⟩
  clear f11 f1 f2 f3 f4 fr
  rintro fr W' ⟨h13, f4, f11, f1, f2, f3⟩
  refine w_cut (fun fr W' => ∃ G, W' = W ++ G ∧ FmtX (fr 13) W' ∧ (fr 13 = .nilS ∨ fr 13 = .view W.length 0 ln 60 false) ∧ fr 4 = c4 ∧ fr 11 = .lst ln LC false ∧ fr 2 = byteC at_) ?_ ?_
  · rcases h13 with ⟨rfl, f13, rfl⟩ | ⟨h0, f13, rfl⟩
    · refine w0 ?_ 
      exact ⟨[], by simp, by simp only [upd, f13]; exact FmtX.nil, .inl (kS), kS, kS, kS⟩
    · have hln' : L.length = ln := hln
      have hLC' : L.flatMap acC = LC := hLC
      have hLS' : ∀ a ∈ L, AcS a := hLS
      have hLCl : LC.length = ln * 60 := by
        rw [← hLC', ← hln']
        exact fl_len fun a ha => acC_len (hLS' a ha).l
      obtain ⟨i, hi, hil⟩ : ∃ i : Nat, ((at_.toNat : Int)).tmod (ln : Int) = i ∧ i < ln := ⟨at_.toNat % ln, rfl, Nat.mod_lt _ (by omega)⟩
      have hi2 : ((at_.toNat : Int)) % (ln : Int) = i := by rw [← hi]; rfl
      obtain ⟨w, hw, hw8⟩ : ∃ w : Nat, ((what.toNat : Int)).tmod 8 = w ∧ w < 8 := ⟨what.toNat % 8, rfl, Nat.mod_lt _ (by omega)⟩
      have hw2 : ((what.toNat : Int)) % 8 = w := by rw [← hw]; rfl
      obtain ⟨a, ha⟩ : ∃ a, L[i]'(by omega) = a := ⟨_, rfl⟩
      have has : AcS a := by rw [← ha]; exact hLS' _ (List.getElem_mem (by omega))
      have hfin : Hid (∀ (k : Nat) (b : Ac) (v v' : CV) (X : List Box), k < 60 → Turn a b k v' → fz true false X 5 v = some v' → X[W.length]? = some ⟨LC.take (i * 60 + k) ++ v :: LC.drop (i * 60 + k + 1), false⟩ → FmtX (.view W.length 0 ln 60 false) X) := fun k b v v' X h1 h2 h3 h4 =>
        fmt_turn (i := i) (k := k) hLS' hln'.symm (by omega) (by omega) h1 (by rw [ha]; exact h2) h3 (by rw [hLC']; exact h4)
      have hat := at_.toNat_lt
      have hwt := what.toNat_lt
      have hni : i64 n := hn
      have hmod : ∀ {B : List Box} {args : List CV}, Is args [.int .i64 n, .int .i64 9] → ACall Tryz.prog 14 args B fun c B' => c = .int .i64 (n % 9) ∧ B' = B := fun h => mod_at h (by omega) (by omega)
      replace has : Hid _ := has
      clear ha hln' hLC' hLS'
      have hwc : w = 0 ∨ w = 1 ∨ w = 2 ∨ w = 3 ∨ w = 4 ∨ w = 5 ∨ w = 6 ∨ w = 7 := by omega
      clear hw8
      have e13 : Hid (∀ (c : CV) (X : List Box), c = .view W.length 0 ln 60 false → FmtX (.view W.length 0 ln 60 false) X → FmtX c X) := fun c X h x => h ▸ x
      rcases hwc with rfl | rfl | rfl | rfl | rfl | rfl | rfl | rfl
      · refine w_L111 @hmod ?_ 
        have hfin2 := (show ∀ (k : Nat) (b : Ac) (v v' : CV) (X : List Box), k < 60 → Turn a b k v' → fz true false X 5 v = some v' → X[W.length]? = some ⟨LC.take (i * 60 + k) ++ v :: LC.drop (i * 60 + k + 1), false⟩ → FmtX (.view W.length 0 ln 60 false) X from hfin)
        have e13 := (show ∀ (c : CV) (X : List Box), c = .view W.length 0 ln 60 false → FmtX (.view W.length 0 ln 60 false) X → FmtX c X from e13)
        have has := (show AcS a from has)
        refine ⟨_, rfl, e13 _ _ (kS) (hfin2 23 _ (.int .i64 n) _ _ (by omega) (turn_who has hni) (by rfl) (by rw [bx_get0 rfl]; rfl)), .inr (kS), kS, kS, kS⟩
      · refine w_L111 @hmod ?_ 
        have hfin2 := (show ∀ (k : Nat) (b : Ac) (v v' : CV) (X : List Box), k < 60 → Turn a b k v' → fz true false X 5 v = some v' → X[W.length]? = some ⟨LC.take (i * 60 + k) ++ v :: LC.drop (i * 60 + k + 1), false⟩ → FmtX (.view W.length 0 ln 60 false) X from hfin)
        have e13 := (show ∀ (c : CV) (X : List Box), c = .view W.length 0 ln 60 false → FmtX (.view W.length 0 ln 60 false) X → FmtX c X from e13)
        have has := (show AcS a from has)
        refine ⟨_, rfl, e13 _ _ (kS) (hfin2 24 _ (.int .i64 n) _ _ (by omega) (turn_n has hni) (by rfl) (by rw [bx_get0 rfl]; rfl)), .inr (kS), kS, kS, kS⟩
      · refine w_L111 @hmod ?_ 
        have hfin2 := (show ∀ (k : Nat) (b : Ac) (v v' : CV) (X : List Box), k < 60 → Turn a b k v' → fz true false X 5 v = some v' → X[W.length]? = some ⟨LC.take (i * 60 + k) ++ v :: LC.drop (i * 60 + k + 1), false⟩ → FmtX (.view W.length 0 ln 60 false) X from hfin)
        have e13 := (show ∀ (c : CV) (X : List Box), c = .view W.length 0 ln 60 false → FmtX (.view W.length 0 ln 60 false) X → FmtX c X from e13)
        have has := (show AcS a from has)
        refine ⟨_, rfl, e13 _ _ (kS) (hfin2 26 _ (.int .i64 n) _ _ (by omega) (turn_lo has hni) (by rfl) (by rw [bx_get0 rfl]; rfl)), .inr (kS), kS, kS, kS⟩
      · refine w_L111 @hmod ?_ 
        have hfin2 := (show ∀ (k : Nat) (b : Ac) (v v' : CV) (X : List Box), k < 60 → Turn a b k v' → fz true false X 5 v = some v' → X[W.length]? = some ⟨LC.take (i * 60 + k) ++ v :: LC.drop (i * 60 + k + 1), false⟩ → FmtX (.view W.length 0 ln 60 false) X from hfin)
        have e13 := (show ∀ (c : CV) (X : List Box), c = .view W.length 0 ln 60 false → FmtX (.view W.length 0 ln 60 false) X → FmtX c X from e13)
        have has := (show AcS a from has)
        refine ⟨_, rfl, e13 _ _ (kS) (hfin2 21 _ (.int .i64 n) _ _ (by omega) (turn_time has hni) (by rfl) (by rw [bx_get0 rfl]; rfl)), .inr (kS), kS, kS, kS⟩
      · refine w_L111 @hmod ?_ 
        have hfin2 := (show ∀ (k : Nat) (b : Ac) (v v' : CV) (X : List Box), k < 60 → Turn a b k v' → fz true false X 5 v = some v' → X[W.length]? = some ⟨LC.take (i * 60 + k) ++ v :: LC.drop (i * 60 + k + 1), false⟩ → FmtX (.view W.length 0 ln 60 false) X from hfin)
        have e13 := (show ∀ (c : CV) (X : List Box), c = .view W.length 0 ln 60 false → FmtX (.view W.length 0 ln 60 false) X → FmtX c X from e13)
        have has := (show AcS a from has)
        refine ⟨_, rfl, e13 _ _ (kS) (hfin2 19 _ (.int .i64 n) _ _ (by omega) (turn_port has hni) (by rfl) (by rw [bx_get0 rfl]; rfl)), .inr (kS), kS, kS, kS⟩
      · refine w_L111 @hmod ?_ 
        have hfin2 := (show ∀ (k : Nat) (b : Ac) (v v' : CV) (X : List Box), k < 60 → Turn a b k v' → fz true false X 5 v = some v' → X[W.length]? = some ⟨LC.take (i * 60 + k) ++ v :: LC.drop (i * 60 + k + 1), false⟩ → FmtX (.view W.length 0 ln 60 false) X from hfin)
        have e13 := (show ∀ (c : CV) (X : List Box), c = .view W.length 0 ln 60 false → FmtX (.view W.length 0 ln 60 false) X → FmtX c X from e13)
        have has := (show AcS a from has)
        refine ⟨_, rfl, e13 _ _ (kS) (hfin2 22 _ (.str [at_, what]) _ _ (by omega) (turn_text has (x := [at_, what]) (by simp)) (by rfl) (by rw [bx_get0 rfl]; rfl)), .inr (kS), kS, kS, kS⟩
      · refine w_L111 @hmod ?_ 
        have hfin2 := (show ∀ (k : Nat) (b : Ac) (v v' : CV) (X : List Box), k < 60 → Turn a b k v' → fz true false X 5 v = some v' → X[W.length]? = some ⟨LC.take (i * 60 + k) ++ v :: LC.drop (i * 60 + k + 1), false⟩ → FmtX (.view W.length 0 ln 60 false) X from hfin)
        have e13 := (show ∀ (c : CV) (X : List Box), c = .view W.length 0 ln 60 false → FmtX (.view W.length 0 ln 60 false) X → FmtX c X from e13)
        have has := (show AcS a from has)
        refine ⟨_, rfl, e13 _ _ (kS) (hfin2 0 _ (.int .i64 (n % 9)) _ _ (by omega) (turn_kind has (n := n % 9) ⟨by omega, by omega⟩) (by rfl) (by rw [bx_get0 rfl]; rfl)), .inr (kS), kS, kS, kS⟩
      · refine w_L111 @hmod ?_ 
        have hfin2 := (show ∀ (k : Nat) (b : Ac) (v v' : CV) (X : List Box), k < 60 → Turn a b k v' → fz true false X 5 v = some v' → X[W.length]? = some ⟨LC.take (i * 60 + k) ++ v :: LC.drop (i * 60 + k + 1), false⟩ → FmtX (.view W.length 0 ln 60 false) X from hfin)
        have e13 := (show ∀ (c : CV) (X : List Box), c = .view W.length 0 ln 60 false → FmtX (.view W.length 0 ln 60 false) X → FmtX c X from e13)
        have has := (show AcS a from has)
        refine ⟨_, rfl, e13 _ _ (kS) (hfin2 20 _ (.view (W.length + 1) 0 1 1 false) _ _ (by omega) (turn_bytes has (x := [what]) (by simp)) (by exact viewfz (m := false) ((bx_get rfl).trans rfl) rfl rfl) (by rw [bx_get0 rfl]; rfl)), .inr (kS), kS, kS, kS⟩
  clear f4 f11 f1 f2 f3 fr h13 W'
  rintro fr _ ⟨G, rfl, hX13, hc13, f4, f11, f2⟩
  obtain ⟨bc, f13⟩ : ∃ bc, fr 13 = bc := ⟨_, rfl⟩
  rw [f13] at hX13 hc13
  have hX4 : ∀ G, FmtX c4 (W ++ G) := (show RawV c4 W from hraw).fmt
  have hc4 : c4 = .nilS ∨ ∃ k, c4 = .view 0 0 k 60 false := by
    rcases (show RawV c4 W from hraw) with ⟨h, _⟩ | ⟨RL, _, _, h, _⟩
    · exact .inl h
    · exact .inr ⟨_, h⟩
  have hat := at_.toNat_lt
  obtain ⟨z, hz, hz2⟩ : ∃ z : Nat, ((at_.toNat : Int)).tmod 2 = z ∧ z < 2 := ⟨at_.toNat % 2, rfl, Nat.mod_lt _ (by omega)⟩
  have hz3 : ((at_.toNat : Int)) % 2 = z := by rw [← hz]; rfl
  obtain ⟨zn, hzn⟩ : ∃ zn : Nat, 400 + z = zn := ⟨_, rfl⟩
  have hzi : (400 : Int) + z = zn := by omega
  have hznl : zn ≤ 401 := by omega
  have hbg : ∀ {B : List Box} {args : List CV}, Is (omap (fz true false B 6) args) (some []) → ACall Tryz.prog 12 args B fun c B' => c = .bool true ∧ B' = B := fun h => begun_at h
  have hXl : ∀ X, FmtX (.lst ln LC false) X := fun X => by
    rw [← (show L.flatMap acC = LC from hLC)]
    exact FmtX.lst hLS (by have := (show L.length = ln from hln); omega) (show L.length = ln from hln).symm
  have hXz : ∀ X : List Box, FmtX (.view X.length 0 zn 60 true) (X ++ [⟨repC zAc zn, false⟩]) := fun X => FmtX.zeros (by omega) (bx_get0 rfl)
  have hXb : ∀ G2, FmtX bc ((W ++ G) ++ G2) := fun _ => FmtX.more hX13
  replace hX4 : Hid _ := hX4
  replace hXl : Hid _ := hXl
  replace hXz : Hid _ := hXz
  replace hXb : Hid _ := hXb
  clear hX13
  refine w_cut (fun fr W' => True) ?_ ?_
  · refine w_cut (fun fr W' => ∃ x0 x1 x2 x3, fr 138 = .lst 4 [x0, x1, x2, x3] true ∧ fr 139 = .int .i64 4 ∧ fr 140 = .int .i64 0 ∧ FmtX x0 W' ∧ FmtX x1 W' ∧ FmtX x2 W' ∧ FmtX x3 W') ?_ ?_
    · have fin : ∀ c4 bc, (∀ G, FmtX c4 (W ++ G)) → (∀ G2, FmtX bc ((W ++ G) ++ G2)) → FmtX (.lst ln LC false) (W ++ (G ++ [⟨repC zAc zn, false⟩])) ∧ FmtX bc (W ++ (G ++ [⟨repC zAc zn, false⟩])) ∧ FmtX c4 (W ++ (G ++ [⟨repC zAc zn, false⟩])) ∧ FmtX (.view (W.length + G.length) 0 zn 60 true) (W ++ (G ++ [⟨repC zAc zn, false⟩])) := fun c4 bc h4 hb => by
        have h1 := (show ∀ X, FmtX (.lst ln LC false) X from hXl) (W ++ (G ++ [⟨repC zAc zn, false⟩]))
        have h2 := hb [⟨repC zAc zn, false⟩]
        have h3 := (show ∀ X : List Box, FmtX (.view X.length 0 zn 60 true) (X ++ [⟨repC zAc zn, false⟩]) from hXz) (W ++ G)
        rw [List.append_assoc] at h2
        rw [List.append_assoc, List.length_append] at h3
        exact ⟨h1, h2, h4 _, h3⟩
      have fin := fin c4 bc hX4 hXb
      replace fin : Hid _ := fin
      clear hX4 hXl hXz hXb hraw
      rcases hc4 with rfl | ⟨rk, rfl⟩
      all_goals rcases hc13 with rfl | rfl
      all_goals
        refine w_L110 ?_ 
        exact ⟨_, _, _, _, kS, kS, kS, fin⟩
    clear hX4 hXl hXz hXb hraw hc4 hc13 f4 f11 f2 f13 fr hbg
    rintro fr W' ⟨x0, x1, x2, x3, f138, f139, f140, h0, h1, h2, h3⟩
    obtain ⟨S0, v0, p0, q0⟩ := h0.calls
    obtain ⟨S1, v1, p1, q1⟩ := h1.calls
    obtain ⟨S2, v2, p2, q2⟩ := h2.calls
    obtain ⟨S3, v3, p3, q3⟩ := h3.calls
    clear h0 h1 h2 h3
    refine w0 ?_ 
    refine w_loop (fun fr W'' => ∃ j : Nat, j ≤ 4 ∧ fr 138 = .lst 4 [x0, x1, x2, x3] true ∧ fr 139 = .int .i64 4 ∧ fr 140 = .int .i64 j ∧ W'' = W') (fun fr _ => 4 - natOf (fr 140)) ?_ ?_
    · exact ⟨0, by omega, f138, f139, f140, rfl⟩
    clear f138 f139 f140 fr
    rintro fr _ ⟨j, hj, f138, f139, f140, rfl⟩
    have hm : natOf (fr 140) = j := by rw [f140]; rfl
    by_cases hc : j < 4
    · have hjc : j = 0 ∨ j = 1 ∨ j = 2 ∨ j = 3 := by omega
      rcases hjc with rfl | rfl | rfl | rfl
      · refine w2 @p0 @q0 ?_ 
        exact ⟨⟨1, by omega, kS, kS, kS, rfl⟩, kS⟩
      · refine w2 @p1 @q1 ?_ 
        exact ⟨⟨2, by omega, kS, kS, kS, rfl⟩, kS⟩
      · refine w2 @p2 @q2 ?_ 
        exact ⟨⟨3, by omega, kS, kS, kS, rfl⟩, kS⟩
      · refine w2 @p3 @q3 ?_ 
        exact ⟨⟨4, by omega, kS, kS, kS, rfl⟩, kS⟩
    · obtain rfl : j = 4 := by omega
      refine w0 ?_ 
      exact trivial
  rintro fr W' -
  clear f4 f11 f2
  refine w1 @hbg ?_ 
  rfl
end Go.Proofs.YtcbdghgogmcllaaGreatDoor
end
section
namespace Go.Sy
open Go.RowKit (Below)
open Go.ChangeShapes Go.WideShapes
section
variable {H : Type} {enc : TypeId × Value → H} {P : Program} {W : World} {base : Nat} {held : Bool}
def Old (W : World) : Nat → Nat → Prop := fun b _ => b < W.heap.size
theorem fz_true {fr nz : Bool} {B : List Box} {k : Nat} {c : CV} {t : Bool} (h : fz nz fr B k c = some (.bool t)) : c = .bool t := by
  cases k with
  | zero => simp [fz] at h
  | succ k =>
    cases c <;> simp only [fz] at h
    case bool b => simpa using h
    case nilS => cases nz <;> simp at h
    case view => split at h <;> simp at h
    case cview => split at h <;> simp at h
    case ptr => split at h <;> (try split at h) <;> simp at h
    case lst => split at h <;> simp at h
    case iptr => split at h <;> simp at h
    case fn => split at h <;> simp at h
    case imap => split at h <;> (try split at h) <;> simp at h
    all_goals simp at h
theorem PC.calls {fr : Bool} {f : FuncId} {args : List CV} {vs : List Value} (h : PC P fr f args (.bool true)) (hv : R (Old W) [] W false args vs) (ht : TabsOk (Old W) W) : Calls P f vs.toArray W fun e w' => e = .returned (.bool true) ∧ Below W.heap.size W w' := by
  refine (h.2 W.heap.size (Old W) [] W vs (BRel.none_ W _ (fun _ _ h => h) ht) hv).mono fun e w' ⟨c, v, B', I', μ', he, hQ, hs⟩ => ?_
  have := fz_true hQ
  subst this
  exact ⟨by rw [he, hs.val.bool_inv], hs.below⟩
theorem byte_of_wf {n : Int} (h : (Lit.int .u8 n).wf = true) : ∃ b : UInt8, n = b.toNat := by
  have := bounds_u8 h
  exact ⟨UInt8.ofNat n.toNat, by simp; omega⟩
theorem bytes_cells : ∀ (vs : List Value), (∀ v ∈ vs, ∃ n, v = .int .u8 n ∧ (Lit.int .u8 n).wf = true) → ∃ l : List UInt8, vs = l.map fun b => .int .u8 (b.toNat : Int)
  | [], _ => ⟨[], rfl⟩
  | v :: vs, h => by
    obtain ⟨n, rfl, hn⟩ := h v (by simp)
    obtain ⟨b, rfl⟩ := byte_of_wf hn
    obtain ⟨l, rfl⟩ := bytes_cells vs fun v hv => h v (by simp [hv])
    exact ⟨b :: l, rfl⟩
theorem R_bytes (I : Nat → Nat → Prop) (μ : List (List Place)) (w : World) (one : Bool) : ∀ l : List UInt8, R I μ w one (l.map byteC) (l.map fun b => .int .u8 (b.toNat : Int))
  | [] => .nil _
  | b :: l => .int _ _ (R_bytes I μ w one l)
theorem open_bytes {r : Reach} {b0 : Nat} {t e : TypeId} {v : Value} {d : DataW H} {ps : List MemPlace} (ht : P.underlying t = some (.slice e)) (he : P.underlying e = some (.int .u8)) (hc : P.cellsOf e = 1)
    (hval : Value.okWide P W r b0 t v) (hd : DataW.Trod enc P W base (fun _ => true) held t v d ps) : ∃ l : List UInt8, l.length ≤ maxLen ∧ V (Old W) [] W (lb l) v := by
  obtain ⟨a0, len0, cap0, rfl⟩ := okWide_slice ht hval
  obtain ⟨fuel, hf⟩ := hd
  rcases open_ints ht he hc hf with ⟨hcs, _⟩ | ⟨x, l, c, zs, hcs, _, hl, hm, hz, _, hcell, hwz⟩
  · simp [Value.cells] at hcs
    obtain ⟨rfl, rfl, rfl⟩ := hcs
    exact ⟨[], by simp, .lstE _ _ (.nil _)⟩
  · simp [Value.cells] at hcs
    obtain ⟨rfl, rfl, rfl⟩ := hcs
    simp only [if_true] at hz
    by_cases hc0 : cap0 = 0
    · subst hc0
      obtain rfl : len0 = 0 := by omega
      exact ⟨[], by simp, .lstE _ _ (.nil _)⟩
    · obtain ⟨b, off, spot⟩ := x
      have hspot : spot = none := by simpa [Addr.add] using World.cell?_spot (hcell 0 (by omega))
      subst hspot
      obtain ⟨bl, hbl⟩ := bytes_cells ((zs.take len0).map (Value.int .u8)) fun v hv => by
        obtain ⟨n, hn, rfl⟩ := List.mem_map.1 hv
        exact ⟨n, rfl, hwz n (List.mem_of_mem_take hn)⟩
      have hlen : bl.length = len0 := by
        have := congrArg List.length hbl
        simp at this; omega
      refine ⟨bl, by omega, ?_⟩
      rw [lb, hlen]
      refine .lst len0 false b off cap0 (R_bytes _ _ _ _ bl) (fun j v hj => ?_) hl (fun h => by cases h) (.nil _)
      rw [← hbl] at hj
      have hjl : j < len0 := by have := (List.getElem?_eq_some_iff.1 hj).1; simp at this; omega
      have h1 := hcell j (by omega)
      rw [show Addr.add ⟨b, off, none⟩ j = ⟨b, off + j, none⟩ by unfold Addr.add; split <;> simp_all] at h1
      have h2 : v = .int .u8 (zs.getD j 0) := by
        rw [List.getElem?_map, List.getElem?_take_of_lt hjl, List.getElem?_eq_getElem (by omega)] at hj
        simp at hj
        rw [← hj, List.getD_eq_getElem?_getD, List.getElem?_eq_getElem (by omega)]; rfl
      subst h2
      refine ⟨h1, ?_⟩
      unfold World.cell? at h1
      show b < W.heap.size
      rcases Nat.lt_or_ge b W.heap.size with hb | hb
      · exact hb
      · have : W.heap[b]? = none := Array.getElem?_eq_none hb
        simp [this] at h1
theorem open_i {r : Reach} {b0 : Nat} {t : TypeId} {k : IntKind} {v : Value} {d : DataW H} {ps : List MemPlace} (ht : P.underlying t = some (.int k)) (hval : Value.okWide P W r b0 t v) (hd : DataW.Trod enc P W base (fun _ => true) held t v d ps) :
    ∃ n, (Lit.int k n).wf = true ∧ V (Old W) [] W (.int k n) v := by
  obtain ⟨n, rfl, _, _, hw⟩ := ChangeShapes.open_int ht hval hd
  exact ⟨n, hw, .int _ _ (.nil _)⟩
theorem open_byte {r : Reach} {b0 : Nat} {t : TypeId} {v : Value} {d : DataW H} {ps : List MemPlace} (ht : P.underlying t = some (.int .u8)) (hval : Value.okWide P W r b0 t v) (hd : DataW.Trod enc P W base (fun _ => true) held t v d ps) :
    ∃ b : UInt8, V (Old W) [] W (byteC b) v := by
  obtain ⟨n, hw, h⟩ := open_i ht hval hd
  obtain ⟨b, rfl⟩ := byte_of_wf hw
  exact ⟨b, h⟩
theorem V_cons {I : Nat → Nat → Prop} {μ : List (List Place)} {w : World} {c : CV} {v : Value} {cs : List CV} {vs : List Value} (h : V I μ w c v) (hs : R I μ w false cs vs) : R I μ w false (c :: cs) (v :: vs) := .cons h (by simp) hs
end
end Go.Sy
end
section
namespace Go.Sy
open Go.RowKit (Below)
open Go.ChangeShapes Go.WideShapes
section
variable {H : Type} {enc : TypeId × Value → H} {P : Program} {W : World} {base : Nat} {held : Bool}
def Opn (enc : TypeId × Value → H) (P : Program) (W : World) (base : Nat) (held : Bool) (t : TypeId) {α : Type} (f : α → List CV) (ok : α → Prop) : Prop :=
  ∀ (fuel : Nat) (cs : List Value) (x : DataW H × List MemPlace), DataW.trod enc P W base (fun _ => true) held fuel t cs = some x → ∃ a, ok a ∧ R (Old W) [] W true (f a) cs
theorem Opn.mono {t : TypeId} {α : Type} {f : α → List CV} {ok ok' : α → Prop} (h : Opn enc P W base held t f ok) (hk : ∀ a, ok a → ok' a) : Opn enc P W base held t f ok' := fun fuel cs x hx =>
  let ⟨a, h1, h2⟩ := h fuel cs x hx; ⟨a, hk a h1, h2⟩
theorem opn_int {t : TypeId} {k : IntKind} (ht : P.underlying t = some (.int k)) : Opn enc P W base held t (fun n => [.int k n]) (fun n => (Lit.int k n).wf = true) := fun fuel cs x hx => by
  obtain ⟨n, rfl, _, hw⟩ := DataW.trod_int ht hx
  exact ⟨n, hw, .int _ _ (.nil _)⟩
theorem opn_i64 {t : TypeId} (ht : P.underlying t = some (.int .i64)) : Opn enc P W base held t (fun n => [.int .i64 n]) (fun n => -9223372036854775808 ≤ n ∧ n ≤ 9223372036854775807) := (opn_int ht).mono fun _ h => bounds_i64 h
theorem opn_byte {t : TypeId} (ht : P.underlying t = some (.int .u8)) : Opn enc P W base held t (fun b : UInt8 => [byteC b]) (fun _ => True) := fun fuel cs x hx => by
  obtain ⟨n, rfl, _, hw⟩ := DataW.trod_int ht hx
  obtain ⟨b, rfl⟩ := byte_of_wf hw
  exact ⟨b, trivial, .int _ _ (.nil _)⟩
theorem opn_bool {t : TypeId} (ht : P.underlying t = some .bool) : Opn enc P W base held t (fun b : Bool => [.bool b]) (fun _ => True) := fun fuel cs x hx => by
  obtain ⟨b, rfl, _⟩ := DataW.trod_bool ht hx
  exact ⟨b, trivial, .bool _ (.nil _)⟩
theorem opn_str {t : TypeId} (ht : P.underlying t = some .string) : Opn enc P W base held t (fun l : List UInt8 => [.str l]) (fun l => l.length ≤ maxLen) := fun fuel cs x hx => by
  obtain ⟨s, rfl, _, hs⟩ := DataW.trod_string ht hx
  exact ⟨s.data.toList, by simpa using hs, .str s.data.toList (.nil _)⟩
theorem opn_byteArray {t e : TypeId} {n : Nat} (hu : P.underlying t = some (.array n e)) (he : P.underlying e = some (.int .u8)) (hc : P.cellsOf e = 1) (hn : P.cellsOf t = n) : Opn enc P W base held t (fun l : List UInt8 => l.map byteC) (fun l => l.length = n) := fun fuel cs x hx => by
  obtain ⟨xs, m, rfl, _, hl, hx, hi⟩ := DataW.trod_array hu hx
  obtain ⟨l, hl'⟩ := bytes_cells cs fun v hv => by
    obtain ⟨i, hi1, hi2⟩ := List.mem_iff_getElem.1 hv
    have hin : i < n := by rw [← hn, ← hl]; exact hi1
    have := hi i hin
    rw [hc, List.getElem?_eq_getElem (by omega), Nat.mul_one] at this
    rw [show (cs.drop i).take 1 = [v] from by rw [List.drop_eq_getElem_cons hi1, hi2]; rfl] at this
    obtain ⟨k, h1, h2, h3⟩ := DataW.trod_int he this
    simp at h1
    exact ⟨k, h1, h3⟩
  refine ⟨l, ?_, by rw [hl']; exact R_bytes _ _ _ _ l⟩
  show l.length = n
  have := congrArg List.length hl'
  simp only [List.length_map] at this
  rw [← this, hl, hn]
inductive OpnF (enc : TypeId × Value → H) (P : Program) (W : World) (base : Nat) (held : Bool) : (off : Nat) → List Field → {α : Type} → (α → List CV) → (α → Prop) → Prop
  | one {off : Nat} {f : Field} {α : Type} {g : α → List CV} {ok : α → Prop} (h0 : f.offset = off) (h : Opn enc P W base held f.type g ok) : OpnF enc P W base held off [f] g ok
  | cons {off n : Nat} {f : Field} {fs : List Field} {α β : Type} {g : α → List CV} {ok : α → Prop} {g' : β → List CV} {ok' : β → Prop} (h0 : f.offset = off) (hc : P.cellsOf f.type = n) (h : Opn enc P W base held f.type g ok)
      (hs : OpnF enc P W base held (off + n) fs g' ok') : OpnF enc P W base held off (f :: fs) (fun p : α × β => g p.1 ++ g' p.2) (fun p => ok p.1 ∧ ok' p.2)
theorem opnF {fuel : Nat} {cs : List Value} {off : Nat} {fs : List Field} {α : Type} {g : α → List CV} {ok : α → Prop} (h : OpnF enc P W base held off fs g ok) (hx : ∀ f ∈ fs, ∃ y, DataW.trod enc P W base (fun _ => true) held fuel f.type ((cs.drop f.offset).take (P.cellsOf f.type)) = some y)
    (hl : ∀ f, fs.getLast? = some f → cs.length = f.offset + P.cellsOf f.type) : ∃ a, ok a ∧ R (Old W) [] W true (g a) (cs.drop off) := by
  induction h with
  | @one off f α g ok h0 h =>
    obtain ⟨y, hy⟩ := hx f (by simp)
    have hl := hl f rfl
    rw [h0] at hy hl
    obtain ⟨a, h1, h2⟩ := h _ _ _ hy
    refine ⟨a, h1, ?_⟩
    rwa [List.take_of_length_le (by rw [List.length_drop]; omega)] at h2
  | @cons off n f fs α β g ok g' ok' h0 hc h hs ih =>
    obtain ⟨y, hy⟩ := hx f (by simp)
    rw [h0, hc] at hy
    obtain ⟨a, h1, h2⟩ := h _ _ _ hy
    obtain ⟨b, h3, h4⟩ := ih (fun f hf => hx f (by simp [hf])) (fun f' hf' => hl f' (by
      cases fs with
      | nil => simp at hf'
      | cons f1 fs => rw [List.getLast?_cons_cons]; exact hf'))
    refine ⟨(a, b), ⟨h1, h3⟩, ?_⟩
    rw [← List.take_append_drop n (cs.drop off), List.drop_drop]
    exact h2.append h4
theorem opn_struct {t : TypeId} {fs : Array Field} {l : List Field} {f : Field} {α : Type} {g : α → List CV} {ok : α → Prop} (ht : P.underlying t = some (.struct fs)) (hl : fs.toList = l) (hf : l.getLast? = some f) (hn : P.cellsOf t = f.offset + P.cellsOf f.type) (h : OpnF enc P W base held 0 l g ok) : Opn enc P W base held t g ok := fun fuel cs x hx => by
  obtain ⟨xs, n, rfl, _, hlen, hxs, hi⟩ := DataW.trod_struct ht hx
  have := opnF (fuel := n) (cs := cs) h (fun f hf => by
    obtain ⟨i, hi1, hi2⟩ := List.mem_iff_getElem.1 hf
    have hfi : fs[i]? = some f := by rw [← Array.getElem?_toList, hl, List.getElem?_eq_getElem hi1, hi2]
    have hil : i < xs.length := by rw [hxs]; exact (Array.getElem?_eq_some_iff.1 hfi).1
    exact ⟨xs[i], by rw [hi i f hfi, List.getElem?_eq_getElem hil]⟩) (fun f' hf' => by
    rw [hf] at hf'; cases hf'; rw [hlen, hn])
  simpa using this
theorem row_cells {α : Type} {g : α → List CV} {ok : α → Prop} {z : Nat} {b o : Nat} : ∀ (n i : Nat), (∀ j, i ≤ j → j < i + n → ∃ a vs, ok a ∧ R (Old W) [] W true (g a) vs ∧ vs.length = z ∧ ∀ k v, vs[k]? = some v → W.cell? ⟨b, o + j * z + k, none⟩ = some v) →
    ∃ (l : List α) (vs : List Value), l.length = n ∧ (∀ a ∈ l, ok a) ∧ R (Old W) [] W true (l.flatMap g) vs ∧ vs.length = n * z ∧ ∀ k v, vs[k]? = some v → W.cell? ⟨b, o + i * z + k, none⟩ = some v
  | 0, i, _ => ⟨[], [], rfl, by simp, .nil _, by simp, by simp⟩
  | n + 1, i, h => by
    obtain ⟨a, vs, h1, h2, h3, h4⟩ := h i (Nat.le_refl _) (by omega)
    obtain ⟨l, us, g1, g2, g3, g4, g5⟩ := row_cells n (i + 1) (fun j h1 h2 => h j (by omega) (by omega))
    refine ⟨a :: l, vs ++ us, by simp [g1], fun x hx => ?_, ?_, by rw [List.length_append, h3, g4, Nat.succ_mul]; omega, fun k v hk => ?_⟩
    · rcases List.mem_cons.1 hx with rfl | hx
      · exact h1
      · exact g2 x hx
    · rw [List.flatMap_cons]; exact h2.append g3
    · rcases Nat.lt_or_ge k z with hkz | hkz
      · rw [List.getElem?_append_left (by omega)] at hk
        exact h4 k v hk
      · rw [List.getElem?_append_right (by omega), h3] at hk
        have := g5 _ v hk
        rw [Nat.succ_mul] at this
        rw [show o + i * z + k = o + (i * z + z) + (k - z) by omega]
        exact this
theorem cells_at {a : Addr} {n : Nat} {vs : List Value} (h : W.cells? base a n = some vs) : vs.length = n ∧ ∀ (k : Nat) (v : Value), vs[k]? = some v → W.cell? (a.add k) = some v := by
  unfold World.cells? at h
  split at h
  · refine ⟨by simpa using mapM_some_length h, fun k v hk => ?_⟩
    have hkn : k < n := by
      have h1 := (List.getElem?_eq_some_iff.1 hk).1
      have h2 : vs.length = n := by simpa using mapM_some_length h
      omega
    have := mapM_some_get h k k (by simp [hkn])
    rw [this, hk]
  · cases h
theorem add_none (b o k : Nat) : Addr.add ⟨b, o, none⟩ k = ⟨b, o + k, none⟩ := by unfold Addr.add; split <;> simp_all
theorem opn_slice {t e : TypeId} {α : Type} {g : α → List CV} {ok : α → Prop} {z : Nat} (ht : P.underlying t = some (.slice e)) (hz : P.cellsOf e = z) (hz0 : 0 < z) (h : Opn enc P W base held e g ok) :
    Opn enc P W base held t (fun l : List α => [.lst l.length (l.flatMap g) false]) (fun l => l.length ≤ maxLen ∧ ∀ a ∈ l, ok a) := fun fuel cs x hx => by
  rcases DataW.trod_slice ht hx with ⟨rfl, _⟩ | ⟨a, len, cap, elems, rest, n, _, rfl, _, hb, hl, hm, hlen, hel, hsp, _⟩
  · exact ⟨[], ⟨by simp, by simp⟩, .lstE _ _ (.nil _)⟩
  · obtain ⟨hrl, hr⟩ := hsp rfl
    by_cases hc0 : cap = 0
    · subst hc0
      obtain rfl : len = 0 := by omega
      exact ⟨[], ⟨by simp, by simp⟩, .lstE _ _ (.nil _)⟩
    · have hat : ∀ i, i < cap → ∃ vs y, W.cells? base (a.add (i * z)) z = some vs ∧ DataW.trod enc P W base (fun _ => true) held n e vs = some y := by
        intro i hi
        rcases Nat.lt_or_ge i len with h1 | h1
        · have := hel i h1
          rw [hz, List.getElem?_eq_getElem (by omega)] at this
          obtain ⟨vs, h2, h3⟩ := Option.bind_eq_some_iff.1 this
          exact ⟨vs, _, h2, h3⟩
        · have := hr (i - len) (by omega)
          rw [hz, List.getElem?_eq_getElem (by omega), show len + (i - len) = i by omega] at this
          obtain ⟨vs, h2, h3⟩ := Option.bind_eq_some_iff.1 this
          exact ⟨vs, _, h2, h3⟩
      obtain ⟨b, off, spot⟩ := a
      have hspot : spot = none := by
        obtain ⟨vs, y, h1, _⟩ := hat 0 (by omega)
        obtain ⟨h2, h3⟩ := cells_at h1
        have h4 := h3 0 vs[0] (List.getElem?_eq_getElem (by omega))
        have := World.cell?_spot h4
        simpa [Addr.add] using this
      subst hspot
      obtain ⟨l, vs, h1, h2, h3, h4, h5⟩ := row_cells (W := W) (g := g) (ok := ok) (z := z) (b := b) (o := off) len 0 (fun j _ hj => by
        obtain ⟨vs, y, g1, g2⟩ := hat j (by omega)
        obtain ⟨g3, g4⟩ := cells_at g1
        obtain ⟨a, g5, g6⟩ := h _ _ _ g2
        exact ⟨a, vs, g5, g6, g3, fun k v hk => by have := g4 k v hk; rwa [add_none, add_none] at this⟩)
      refine ⟨l, ⟨by omega, h2⟩, ?_⟩
      show R (Old W) [] W true [.lst l.length (l.flatMap g) false] _
      rw [h1]
      refine .lst len false b off cap h3 (fun j v hj => ?_) hl (fun h => by cases h) (.nil _)
      have h6 := h5 j v hj
      rw [Nat.zero_mul, Nat.add_zero] at h6
      refine ⟨h6, ?_⟩
      unfold World.cell? at h6
      show b < W.heap.size
      rcases Nat.lt_or_ge b W.heap.size with hb | hb
      · exact hb
      · have : W.heap[b]? = none := Array.getElem?_eq_none hb
        simp [this] at h6
theorem opn_bytes {t e : TypeId} (ht : P.underlying t = some (.slice e)) (he : P.underlying e = some (.int .u8)) (hc : P.cellsOf e = 1) : Opn enc P W base held t (fun l : List UInt8 => [lb l]) (fun l => l.length ≤ maxLen) := fun fuel cs x hx => by
  obtain ⟨l, h1, h2⟩ := opn_slice (z := 1) ht hc (by omega) (opn_byte he) fuel cs x hx
  refine ⟨l, h1.1, ?_⟩
  have e : ∀ l : List UInt8, l.flatMap (fun b => [byteC b]) = l.map byteC := fun l => by
    induction l with
    | nil => rfl
    | cons b l ih => rw [List.flatMap_cons, ih]; rfl
  have h2 : R (Old W) [] W true [.lst l.length (l.flatMap fun b => [byteC b]) false] cs := h2
  rw [e] at h2
  exact h2
theorem open_row {r : Reach} {b0 : Nat} {t e : TypeId} {v : Value} {d : DataW H} {ps : List MemPlace} {α : Type} {g : α → List CV} {ok : List α → Prop} (ht : P.underlying t = some (.slice e)) (h : Opn enc P W base held t (fun l : List α => [.lst l.length (l.flatMap g) false]) ok)
    (hval : Value.okWide P W r b0 t v) (hd : DataW.Trod enc P W base (fun _ => true) held t v d ps) : ∃ l : List α, ok l ∧ V (Old W) [] W (.lst l.length (l.flatMap g) false) v := by
  obtain ⟨a0, len0, cap0, rfl⟩ := okWide_slice ht hval
  obtain ⟨fuel, hf⟩ := hd
  obtain ⟨a, h1, h2⟩ := h _ _ _ hf
  simp only [Value.cells] at h2
  exact ⟨a, h1, h2.weak⟩
end
end Go.Sy
end
section
namespace Go.Proofs.YtcbdghgogmcllaaGreatDoor
open Go Go.Sy
theorem tab_reads {W : World} {n : String} {g : Nat} {k : IntKind} {zs : List Int} {t e : TypeId} {m : Nat} (hg : Tryz.prog.globalNamed n = some g) (hty : (Tryz.prog.globals[g]?).map (·.type) = some t) (ht : Tryz.prog.underlying t = some (.array m e)) (he : Tryz.prog.underlying e = some (.int k)) (hce : Tryz.prog.cellsOf e = 1) (hct : Tryz.prog.cellsOf t = m) (hz : 0 < zs.length) (h : Go.Lib.VarReads Tryz.prog W n (Go.Lib.tabData k zs)) : ∀ j : Nat, W.cell? ⟨g, j, none⟩ = (zs[j]?).map (.int k) ∧ Old W g j := by
  obtain ⟨g', t', cs, fuel, p, hg', ht', hvar, hd⟩ := h
  obtain rfl := Option.some.inj (hg.symm.trans hg')
  obtain rfl := Option.some.inj (hty.symm.trans ht')
  have hc := Go.Lib.cells_of_tab ht he hce hct hd
  have hcell : ∀ j : Nat, W.cell? ⟨g, j, none⟩ = (zs[j]?).map (.int k) := fun j => by
    rw [World.var?_cell hg hvar j, ← Array.getElem?_toList, hc, List.getElem?_map]
  refine fun j => ⟨hcell j, ?_⟩
  have h0 := hcell 0
  rw [List.getElem?_eq_getElem hz] at h0
  show g < W.heap.size
  rcases Nat.lt_or_ge g W.heap.size with h | h
  · exact h
  · unfold World.cell? at h0
    rw [show W.heap[(⟨g, 0, Option.none⟩ : Addr).block]? = Option.none from Array.getElem?_eq_none h] at h0
    cases h0
theorem int_lives {W : World} {g : Nat} {k : IntKind} (h : ∃ m, W.cell? ⟨g, 0, none⟩ = some (.int k m)) : Old W g 0 := by
  obtain ⟨m, h0⟩ := h
  show g < W.heap.size
  rcases Nat.lt_or_ge g W.heap.size with h | h
  · exact h
  · unfold World.cell? at h0
    rw [show W.heap[(⟨g, 0, Option.none⟩ : Addr).block]? = Option.none from Array.getElem?_eq_none h] at h0
    cases h0
theorem ifs_live {W : World} {n : String} {g : Nat} {nm : String} {d : DataW Unit} {t : TypeId} {ms : Array (String × TypeId)} (hg : Tryz.prog.globalNamed n = some g) (hty : (Tryz.prog.globals[g]?).map (·.type) = some t) (ht : Tryz.prog.underlying t = some (.interface ms)) (h : Go.Lib.VarReads Tryz.prog W n (.iface nm d)) : Old W g 0 ∧ ∃ t p, W.cell? ⟨g, 0, none⟩ = some (.iface t p) := by
  obtain ⟨g', t', cs, fuel, p, hg', ht', hvar, hd⟩ := h
  obtain rfl := Option.some.inj (hg.symm.trans hg')
  obtain rfl := Option.some.inj (hty.symm.trans ht')
  obtain ⟨_, u, v, hcs, _, _⟩ := iface_of_trod ht hd
  have h0 : W.cell? ⟨g, 0, none⟩ = some (.iface u v) := by
    rw [World.var?_cell hg hvar 0, ← Array.getElem?_toList, hcs]; rfl
  refine ⟨?_, u, v, h0⟩
  show g < W.heap.size
  rcases Nat.lt_or_ge g W.heap.size with h | h
  · exact h
  · unfold World.cell? at h0
    rw [show W.heap[(⟨g, 0, Option.none⟩ : Addr).block]? = Option.none from Array.getElem?_eq_none h] at h0
    cases h0
theorem tabs_of {W : World} (hS : W.ShapedOpen Tryz.prog) (hL : laidMet Tryz.prog [("math/bits.deBruijn32tab", Rows.laid_math_bits_deBruijn32tab), ("math/bits.deBruijn64tab", Rows.laid_math_bits_deBruijn64tab), ("internal/strconv.uint64pow10", Rows.laid_internal_strconv_uint64pow10), ("unicode/utf8.acceptRanges", Rows.laid_unicode_utf8_acceptRanges), ("strconv.ErrRange", Rows.laid_strconv_ErrRange), ("strconv.ErrSyntax", Rows.laid_strconv_ErrSyntax), ("unicode/utf8.first", Rows.laid_unicode_utf8_first)] W) : TabsOk (Old W) W := by
  refine ⟨?_, ?_, ?_⟩
  · intro g k zs hg
    unfold tab at hg
    split at hg
    · obtain ⟨rfl, rfl⟩ := Prod.mk.inj (Option.some.inj hg)
      exact tab_reads (t := 196) (by kernel_rfl) (by kernel_rfl) Tryz.underlying196 Tryz.underlying60 (by kernel_rfl) (by kernel_rfl) (by decide) (Go.Lib.laidMet.reads hL (n := "internal/strconv.uint64pow10") (.tail _ (.tail _ (.head _))))
    · obtain ⟨rfl, rfl⟩ := Prod.mk.inj (Option.some.inj hg)
      exact tab_reads (t := 44) (by kernel_rfl) (by kernel_rfl) Tryz.underlying44 Tryz.underlying5 (by kernel_rfl) (by kernel_rfl) (by decide) (Go.Lib.laidMet.reads hL (n := "math/bits.deBruijn32tab") (.head _))
    · obtain ⟨rfl, rfl⟩ := Prod.mk.inj (Option.some.inj hg)
      exact tab_reads (t := 222) (by kernel_rfl) (by kernel_rfl) Tryz.underlying222 Tryz.underlying5 (by kernel_rfl) (by kernel_rfl) (by decide) (Go.Lib.laidMet.reads hL (n := "math/bits.deBruijn64tab") (.tail _ (.head _)))
    · cases hg
  · intro g hg
    obtain rfl : g = 0 := by simpa [tabInts] using hg
    have h : ∃ m, W.cell? ⟨0, 0, none⟩ = some (.int .i64 m) := cell_of_shapedOpen_int (t := 3) hS (by decide +kernel) (zero := #[.int .i64 0]) (by kernel_rfl) rfl (by kernel_rfl) (by kernel_rfl) Tryz.underlying3
    exact ⟨int_lives h, h⟩
  · intro g hg
    have hg : g = 4 ∨ g = 5 := by simpa [tabIfs] using hg
    rcases hg with rfl | rfl
    · exact ifs_live (t := 78) (by kernel_rfl) (by kernel_rfl) Tryz.underlying78 (Go.Lib.laidMet.reads hL (n := "strconv.ErrSyntax") (.tail _ (.tail _ (.tail _ (.tail _ (.tail _ (.head _)))))))
    · exact ifs_live (t := 78) (by kernel_rfl) (by kernel_rfl) Tryz.underlying78 (Go.Lib.laidMet.reads hL (n := "strconv.ErrRange") (.tail _ (.tail _ (.tail _ (.tail _ (.head _))))))
theorem handed_laid {H : Type} {enc : TypeId × Value → H} {C : Checked} {os : Os} {f : FuncId} {fn : Func} {s : ChangeSpec} {conds : List PathCond} {apart fresh handsOn again : Bool} {X : World → Array Value → Prop}
    (hX : ∀ (w w' : World) (args : Array Value), w.heap = w'.heap → X w args → X w' args)
    (own : ownKnob C.prog.godebug = none) (started : os.Started) (noInit : C.prog.inits.idxOf? f = none) (hfn : C.prog.funcs[f]? = some fn)
    (witness : ∃ (w : World) (tape : Tape) (i : Input), w.os = os ∧ (w.forCall tape i).Shaped C.prog ∧ i.vars = [] ∧ Input.okWide C.prog (w.forCall tape i) .any w.heap.size f i ∧
      ((s.pre enc C.prog fn conds apart (w.forCall tape i).memory i.args ∧ X (w.forCall tape i).memory i.args) ∧ sizedMet enc C.prog fn (OpenSpec.ofChange s) apart (w.forCall tape i).memory i.args) ∧ Assume.holds {} C.prog (lone (Frame.enter C.prog f i.args .normal) [] (w.forCall tape i)))
    (contract : ∀ (W : World) (base : Nat) (args : Array Value) (ds gs : List (DataW H)) (before : List MemPlace),
      (∀ (j : Nat) t v, fn.params[j]? = some t → args[j]? = some v → Value.okWide C.prog W .any base t v) →
      DataW.Whole enc C.prog fn.params.toList s.vars apart W args.toList ds gs before → W.ShapedOpen C.prog → X W args →
      Calls C.prog f args W fun e W' => ∃ v, e = .returned v ∧ s.post enc C.prog fn apart fresh handsOn again W args v W') :
    ReturnsInHanded {} C os f .any (fun w args => (s.pre enc C.prog fn conds apart w args ∧ X w args) ∧ sizedMet enc C.prog fn (OpenSpec.ofChange s) apart w args) (s.post enc C.prog fn apart fresh handsOn again) := by
  refine returnsInHanded_of_calls own started noInit witness ?_
  intro w tape i _ hsh _ hok hpre _
  obtain ⟨_, _, _, fn', hfn', _, _, _, _, hval⟩ := hok
  have e : fn' = fn := Option.some.inj (hfn'.symm.trans hfn)
  subst e
  obtain ⟨⟨⟨ds, gs, before, hw, hc⟩, hx⟩, hz⟩ := hpre
  have hw' := DataW.Whole.of_heap (w' := w.forCall tape i) (by rfl) hw
  refine (contract (w.forCall tape i) w.heap.size i.args ds gs before hval hw' hsh (hX _ _ _ (by rfl) hx)).mono fun e W' ⟨v, he, hp⟩ => ?_
  subst he
  exact ChangeSpec.post_blind hp
end Go.Proofs.YtcbdghgogmcllaaGreatDoor
end
