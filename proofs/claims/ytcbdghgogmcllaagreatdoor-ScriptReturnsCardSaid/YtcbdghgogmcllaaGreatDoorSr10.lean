/- Lemmas and definitions of this claim (own texts, joined by a program; what the claim does not use is left out). -/
import Derived.Test.YtcbdghgogmcllaaGreatDoorSr9
import Derived.OpenShut
import Derived.ShutString
import Derived.ChangeOld
import Derived.Below
import Derived.ProofKit
import Derived.Test.YtcbdghgogmcllaaGreatDoorRows
import Derived.Lib.LaidU8
import Derived.Shelf.Vars
import Derived.Lay
import Derived.LaidOnce
import Derived.LaidLaws
import Derived.SizedLaws
set_option linter.all false
set_option maxRecDepth 100000
set_option maxHeartbeats 4000000
section
namespace Go.Sy
theorem w_cut {P : Program} {n : Nat} {a rest : Code} {Q : Exit → Fr → List Box → Prop} {fr : Fr} {B : List Box} (I : Fr → List Box → Prop) (h1 : WPc P n a (thenC I Q) fr B) (h2 : ∀ fr B, I fr B → WPc P n rest Q fr B) : WPc P n (.seq a rest) Q fr B := by
  have key : ∀ {K K' : Fr → List Box → Prop} (_ : ∀ fr B, K fr B → K' fr B) (e : Exit) (fr : Fr) (B : List Box), thenC K Q e fr B → thenC K' Q e fr B := fun hk e fr B h => by
    cases e with
    | normal => exact hk _ _ h
    | _ => exact h
  exact WPc_mono a (key h2) fr B h1
end Go.Sy
namespace Go.Proofs.YtcbdghgogmcllaaGreatDoor
open Go Go.Sy
theorem kE_MC0 {α : Type} {x y : α} (h : Is x y := by first | ((try simp (disch := first | omega | (simp only [yZ, yB] <;> omega) | fail) [go_sem, yY, *, bx_get0, bx_get, bx_set0, bx_set, if_pos, if_neg, -List.map_take, -List.map_drop, -List.map_append, -List.map_reverse]); exact rfl) | fail) : Is x y := h
theorem kD_MC0 {p : Prop} (h : p := by (first | omega | assumption | exact rfl | ((simp (disch := first | omega | (simp only [yZ, yB] <;> omega) | fail) [go_sem, yY, *, bx_get0, bx_get, bx_set0, bx_set, -List.map_take, -List.map_drop, -List.map_append, -List.map_reverse]) <;> (first | done | omega | exact rfl)) | fail)) : p := h
theorem wB_MC0 {p q : Prop} (k : q) (h : Hq q → p := by (intro k; (repeat' (first | (with_reducible first | apply jA | apply jB | apply jC | apply jD | apply jE | apply jF | apply jG | apply jH | apply jI | apply jJ | apply jK | apply jL | apply jM | apply jN | apply jO) | ((with_reducible first | apply jP | apply jQ); rfl) | ((first | ((with_reducible first | apply jR | apply jS | apply jT); rfl; rfl) | (with_reducible first | apply jU | apply jV | apply jW) | ((with_reducible first | apply jX | apply jY | apply jZ); rfl) | ((with_reducible first | apply kA | apply kB | apply kC); rfl)); all_goals (first | ((with_reducible show Is _ _); exact kE_MC0) | ((with_reducible refine fun (hc : (_ : Bool) = _) => ?_); (try simp only [xZ, xY, xP, reduceCtorEq] at hc); (try (have hx : True := hc; clear hx hc)); (try exact kX)) | ((with_reducible show ACall _ _ _ _ _); (first | ((with_reducible apply c0) <;> exact kD_MC0) | ((with_reducible apply c1) <;> exact kD_MC0) | ((with_reducible apply c2) <;> exact kD_MC0) | ((with_reducible apply c3) <;> exact kD_MC0) | ((with_reducible apply c4) <;> exact kD_MC0) | ((with_reducible apply c5) <;> exact kD_MC0) | ((with_reducible apply c6) <;> exact kD_MC0) | ((with_reducible apply c7) <;> exact kD_MC0))) | ((fail_if_success (with_reducible first | show Is _ _ | show ACall _ _ _ _ _)); (try ((with_reducible show _ ∨ _); exact kT))))) | (((with_reducible first | apply o_callQ | apply q_callQ); rfl); (iterate 2 exact kE_MC0); (first | ((with_reducible apply q0) <;> exact kD_MC0))))); exact hq k)) : p := h ⟨k⟩
theorem w_MC00 {p q : Prop}  (k : q) (h : Hq q → p := by (intro  k; exact wB_MC0 (hq k))) : p := h  ⟨k⟩
theorem w_MC01 {A0 p q : Prop} (c0 : A0) (k : q) (h : A0 → Hq q → p := by (intro c0 k; exact wB_MC0 (hq k))) : p := h c0 ⟨k⟩
theorem w_MC01q {A0 A1 p q : Prop} (c0 : A0) (q0 : A1) (k : q) (h : A0 → A1 → Hq q → p := by (intro c0 q0 k; exact wB_MC0 (hq k))) : p := h c0 q0 ⟨k⟩
theorem w_MC02 {A0 A1 p q : Prop} (c0 : A0) (c1 : A1) (k : q) (h : A0 → A1 → Hq q → p := by (intro c0 c1 k; exact wB_MC0 (hq k))) : p := h c0 c1 ⟨k⟩
theorem w_MC03 {A0 A1 A2 p q : Prop} (c0 : A0) (c1 : A1) (c2 : A2) (k : q) (h : A0 → A1 → A2 → Hq q → p := by (intro c0 c1 c2 k; exact wB_MC0 (hq k))) : p := h c0 c1 c2 ⟨k⟩
theorem w_MC04 {A0 A1 A2 A3 p q : Prop} (c0 : A0) (c1 : A1) (c2 : A2) (c3 : A3) (k : q) (h : A0 → A1 → A2 → A3 → Hq q → p := by (intro c0 c1 c2 c3 k; exact wB_MC0 (hq k))) : p := h c0 c1 c2 c3 ⟨k⟩
theorem w_MC05 {A0 A1 A2 A3 A4 p q : Prop} (c0 : A0) (c1 : A1) (c2 : A2) (c3 : A3) (c4 : A4) (k : q) (h : A0 → A1 → A2 → A3 → A4 → Hq q → p := by (intro c0 c1 c2 c3 c4 k; exact wB_MC0 (hq k))) : p := h c0 c1 c2 c3 c4 ⟨k⟩
def zAc : List CV := .int .i64 0 :: (zE ++ (.int .i64 0 :: .int .i64 0 :: .int .u8 0 :: .int .i64 0 :: .int .i64 0 :: z32.map byteC))
theorem minput_in (e : Ev) (h : e.ip.length = 16) : PC Tryz.prog false 56 [.agg (evC e)] (.agg (acC (evA e))) := by
  have hl := evC_len h
  have ho : ∀ {nz : Bool} {B : List Box} {k : Nat}, omap (Go.Sy.fz nz false B (k + 3)) (evC e) = some (evC e) := evC_om
  have ht : (evC e).take 22 = evC e := List.take_of_length_le (by omega)
  rw [evA_cells]
  generalize evC e = X at *
  clear h
  refine acall_intro mixed Tryz.func56 rfl ca56 (by kernel_rfl) (by rw [Tryz.ntmps56]; simp) ?_
  refine w0 ?_ 
  simp [go_sem, ho, z32]
  rfl
theorem minput_at {B : List Box} {args : List CV} {e : Ev} (hz : Is args [.agg (evC e)]) (h : e.ip.length = 16) : ACall Tryz.prog 56 args B fun c B' => c = .agg (acC (evA e)) ∧ B' = B := by
  obtain rfl := hz
  exact acall_imm (nz := true) (by rw [omap_two, fz_agg, evC_om]; rfl) (minput_in e h)
theorem pick_in (w n : Int) : PC Tryz.prog true 60 [.int .i64 w, .int .i64 n] (.agg (acC { act0 with kind := 3, who := w, n := n })) := by
  refine acall_intro mixed Tryz.func60 rfl ca60 (by kernel_rfl) (by rw [Tryz.ntmps60]; simp) ?_
  refine w0 ?_ 
  rfl
theorem pick_at {B : List Box} {args : List CV} {w n : Int} (hz : Is args [.int .i64 w, .int .i64 n]) : ACall Tryz.prog 60 args B fun c B' => c = .agg (acC { act0 with kind := 3, who := w, n := n }) ∧ B' = B := by
  obtain rfl := hz
  exact acall_fresh (nz := true) (by simp [go_sem]) (pick_in w n)
theorem handoff_in (lo hi : Int) (k : List UInt8) (hk : k.length = 32) : PC Tryz.prog true 58 [.int .i64 lo, .int .i64 hi, .agg (k.map byteC)] (.agg (acC { act0 with kind := 2, lo := lo, hi := hi, key := k })) := by
  refine acall_intro mixed Tryz.func58 rfl ca58 (by kernel_rfl) (by rw [Tryz.ntmps58]; simp) ?_
  have hkl : (k.map byteC).length = 32 := by simp [hk]
  have hkt : (k.map byteC).take 32 = k.map byteC := List.take_of_length_le (by omega)
  refine w0 ?_ 
  simp [go_sem, acC, evC, act0, ev0, z16, omap_app, omap_bytes]
  rfl
theorem handoff_at {B : List Box} {args : List CV} {lo hi : Int} {k : List UInt8} (hz : Is args [.int .i64 lo, .int .i64 hi, .agg (k.map byteC)]) (hk : k.length = 32) : ACall Tryz.prog 58 args B fun c B' => c = .agg (acC { act0 with kind := 2, lo := lo, hi := hi, key := k }) ∧ B' = B := by
  obtain rfl := hz
  exact acall_fresh (nz := true) (by simp [go_sem, omap_bytes]) (handoff_in lo hi k hk)
structure AcG (a : Ac) : Prop where
  bytes : a.ev.bytes.length ≤ 200
  text : a.ev.text.length ≤ 200
  ip : a.ev.ip.length = 16
  key : a.key.length = 32
  norm : Norm a ∨ ∃ n : Int, -1000 ≤ n ∧ n < 0 ∧ a = evA { ev0 with kind := 3, time := n }
theorem ac_fz {a : Ac} (W : List Box) : fz true false W 6 (.agg (acC a)) = some (.agg (acC a)) := by rw [fz_agg, acC_om]; rfl
theorem ac_end {B : List Box} {β : Nat} {l : List UInt8} {a' : Nat} {G : List Box} {ac : Ac} {c : CV} {W : List Box} (ha' : a' ≤ l.length) (hW : W = B.set β (cb l a') ++ G) (hc : c = .agg (acC ac)) (h : AcG ac) :
    ∃ (a : Nat) (G : List Box) (c' : CV), a ≤ l.length ∧ W = B.set β (cb l a) ++ G ∧ fz true false (List.replicate B.length ⟨[], true⟩ ++ G) 6 c = some c' ∧ ∃ ac, AcG ac ∧ c' = .agg (acC ac) :=
  ⟨a', G, .agg (acC ac), ha', hW, by rw [hc]; exact ac_fz _, ac, h, rfl⟩
theorem ac_end2 {B : List Box} {β : Nat} {l : List UInt8} {a' : Nat} {G : List Box} {ac : Ac} {c : CV} {W : List Box} (ha' : a' ≤ l.length) (hW : W = B.set β (cb l a') ++ G) (hc : ∀ W : List Box, fz true false W 6 c = some (.agg (acC ac))) (h : AcG ac) :
    ∃ (a : Nat) (G : List Box) (c' : CV), a ≤ l.length ∧ W = B.set β (cb l a) ++ G ∧ fz true false (List.replicate B.length ⟨[], true⟩ ++ G) 6 c = some c' ∧ ∃ ac, AcG ac ∧ c' = .agg (acC ac) :=
  ⟨a', G, .agg (acC ac), ha', hW, hc _, ac, h, rfl⟩
theorem acG_of {a : Ac} (h : Norm a) (h1 : a.ev = ev0) (h2 : a.key.length = 32) : AcG a := ⟨by rw [h1]; exact Nat.zero_le _, by rw [h1]; exact Nat.zero_le _, by rw [h1]; rfl, h2, .inl h⟩
theorem action_at {B : List Box} {β : Nat} {args D : List CV} {now : Int} {l : List UInt8} {a : Nat} (ha : Is args [.ptr β 0, .agg D, .bool false]) (hD : DmP D now) (hn : 0 ≤ now ∧ now ≤ 1048576) (hB : B[β]? = some (cb l a)) (hm : MLow B) (hl : a ≤ l.length ∧ l.length < 1000000) : ACall Tryz.prog 39 args B fun c B' => ∃ a', a' ≤ l.length ∧ (∃ ac, AcG ac ∧ c = .agg (acC ac)) ∧ B' = B.set β (cb l a') := by
  obtain rfl := ha
  obtain ⟨d1, d2, d3, d4⟩ := id hD
  have hl1 := hl.1
  have hl2 := hl.2
  have xb := bx_pack hB
  refine drop_cb hm ?_
  replace hm : Hid _ := hm
  replace hD : Hid _ := hD
  replace hn : Hid _ := hn
  replace hB : Hid _ := hB
  clear hl
  refine acall_intro mixed Tryz.func39 rfl ca39 (by kernel_rfl) (by rw [Tryz.ntmps39]; simp) ?_
  refine w_cut (fun fr W => fr 0 = .ptr β 0 ∧ fr 2 = .bool false ∧ fr 4 = .ptr B.length 0 ∧ fr 6 = .ptr (B.length + 1) 0 ∧ W = B ++ [⟨D, false⟩, ⟨zAc, false⟩]) ?_ ?_
  · refine w_MC00 ?_ 
    exact ⟨kS, kS, kS, kS, rfl⟩
  rintro fr W ⟨f0, f2, f4, f6, rfl⟩
  have hz60 : zAc.length = 60 := rfl
  generalize zAc = Z at *
  refine w_cut (fun fr W => ∃ (a1 n : Nat), a1 ≤ l.length ∧ n ≤ 6000 ∧ fr 7 = .int .i64 n ∧ fr 0 = .ptr β 0 ∧ fr 2 = .bool false ∧ fr 4 = .ptr B.length 0 ∧ fr 6 = .ptr (B.length + 1) 0 ∧ W = B.set β (cb l a1) ++ [⟨D, false⟩, ⟨Z, false⟩]) ?_ ?_
  · obtain ⟨v, a1, hv, ha1, h1⟩ := nx_ex l 7 7 rfl hl1 hl2 (by omega)
    have hv : v = 0 ∨ v = 1 ∨ v = 2 ∨ v = 3 ∨ v = 4 ∨ v = 5 ∨ v = 6 := by omega
    rcases hv with rfl | rfl | rfl | rfl | rfl | rfl | rfl
    · refine w_MC01 @h1 ?_ 
      exact ⟨a1, 6000, ha1, by omega, kS, kS, kS, kS, kS, rfl⟩
    · refine w_MC01 @h1 ?_ 
      exact ⟨a1, 6000, ha1, by omega, kS, kS, kS, kS, kS, rfl⟩
    · refine w_MC01 @h1 ?_ 
      exact ⟨a1, 6000, ha1, by omega, kS, kS, kS, kS, kS, rfl⟩
    · refine w_MC01 @h1 ?_ 
      exact ⟨a1, 700, ha1, by omega, kS, kS, kS, kS, kS, rfl⟩
    · refine w_MC01 @h1 ?_ 
      exact ⟨a1, 40, ha1, by omega, kS, kS, kS, kS, kS, rfl⟩
    · refine w_MC01 @h1 ?_ 
      exact ⟨a1, 1, ha1, by omega, kS, kS, kS, kS, kS, rfl⟩
    · refine w_MC01 @h1 ?_ 
      exact ⟨a1, 0, ha1, by omega, kS, kS, kS, kS, kS, rfl⟩
  clear f0 f2 f4 f6 fr
  rintro fr W ⟨a1, n, ha1, hn6, f7, f0, f2, f4, f6, rfl⟩
  obtain ⟨k, a2, hk, ha2, h2⟩ := nx_ex l 16 16 rfl ha1 hl2 (by omega)
  by_cases k5 : k < 5
  · have hev : ∀ {args : List CV}, Is args [.ptr β 0, .agg D] → ACall Tryz.prog 57 args (B.set β (cb l a2) ++ [(⟨D, false⟩ : Box), ⟨Z, false⟩]) fun c B' => ∃ a', a' ≤ l.length ∧ (∃ e, EvG e ∧ c = .agg (evC e)) ∧ B' = (B.set β (cb l a2) ++ [(⟨D, false⟩ : Box), ⟨Z, false⟩]).set β (cb l a') :=
      fun h => event_at h hD hn ((bx_pack (show B[β]? = some (cb l a) from hB)).2.2.2.1 _ _) (mlow_app (mlow_set hm (by simp [cb])) (by simp)) ⟨ha2, hl2⟩
    refine w_MC01q @h2 @hev ?_ 
    rintro _ _ ⟨a', ha', ⟨e, he, rfl⟩, rfl⟩
    have hin : ∀ {B : List Box} {args : List CV}, Is args [.agg (evC e)] → ACall Tryz.prog 56 args B fun c B' => c = .agg (acC (evA e)) ∧ B' = B := fun h => minput_at h he.ip
    have hAl := acA_len e he.ip
    have hAt : (acC (evA e)).take 60 = acC (evA e) := List.take_of_length_le (by omega)
    have hg : Hid (AcG (evA e)) := ⟨he.bytes, he.text, he.ip, rfl, he.norm.imp id fun ⟨n, h1, h2, h3⟩ => ⟨n, h1, h2, by rw [h3]⟩⟩
    obtain ⟨Y, hY⟩ : ∃ Y, acC (evA e) = Y := ⟨_, rfl⟩
    obtain ⟨E, hE⟩ : ∃ E, evC e = E := ⟨_, rfl⟩
    rw [hE, hY] at hin
    rw [hE]
    rw [hY] at hAl hAt
    replace hY : Hid _ := hY
    clear he hE
    refine w_MC01 @hin ?_ 
    exact ac_end ha' rfl (show CV.agg Y = .agg (acC (evA e)) by rw [show acC (evA e) = Y from hY]) hg
  by_cases k7 : k < 7
  · obtain ⟨v1, a3, hv1, ha3, h3⟩ := nx_ex l 2 2 rfl ha2 hl2 (by omega)
    obtain ⟨v2, a4, hv2, ha4, h4⟩ := nx_ex l 2 2 rfl ha3 hl2 (by omega)
    obtain ⟨K, a5, hK, ha5, h5⟩ := ky_ex l ha4 hl2
    have hm3 : ∀ (n : Nat) (b c : Box), b.multi = false → c.multi = false → MLow (B.set β (cb l n) ++ [b, c]) := fun n b c hb hc => mlow_app (mlow_set (show MLow B from hm) (by simp [cb])) (by simp [hb, hc])
    have hho : ∀ {B : List Box} {args : List CV}, Is args [.int .i64 (1 + v1), .int .i64 (2 + v2), .agg (K.map byteC)] → ACall Tryz.prog 58 args B fun c B' => c = .agg (acC { act0 with kind := 2, lo := 1 + v1, hi := 2 + v2, key := K }) ∧ B' = B := fun h => handoff_at h hK
    have hg : Hid (AcG { act0 with kind := 2, lo := 1 + v1, hi := 2 + v2, key := K }) := acG_of (.handoff _ _ K (by omega) (by omega) (by omega) (by omega) hK) rfl hK
    have hAl : (acC { act0 with kind := 2, lo := 1 + v1, hi := 2 + v2, key := K }).length = 60 := acK_len ⟨rfl, hK⟩
    have hAt : (acC { act0 with kind := 2, lo := 1 + v1, hi := 2 + v2, key := K }).take 60 = acC { act0 with kind := 2, lo := 1 + v1, hi := 2 + v2, key := K } := List.take_of_length_le (by omega)
    generalize (⟨2, act0.ev, act0.who, act0.n, act0.xor, 1 + v1, 2 + v2, K⟩ : Ac) = ac at *
    obtain ⟨Y, hY⟩ : ∃ Y, acC ac = Y := ⟨_, rfl⟩
    rw [hY] at hho hAl hAt
    replace hY : Hid _ := hY
    refine w_MC05 @h2 @h3 @h4 @h5 @hho ?_ 
    exact ac_end ha5 rfl (show CV.agg Y = .agg (acC ac) by rw [show acC ac = Y from hY]) hg
  by_cases k12 : k < 12
  · obtain ⟨v1, a3, hv1, ha3, h3⟩ := nx_ex l 2 2 rfl ha2 hl2 (by omega)
    have hpi : ∀ {B : List Box} {args : List CV}, Is args [.int .i64 v1, .int .i64 n] → ACall Tryz.prog 60 args B fun c B' => c = .agg (acC { act0 with kind := 3, who := v1, n := n }) ∧ B' = B := fun h => pick_at h
    have hg : Hid (AcG { act0 with kind := 3, who := v1, n := n }) := acG_of (.pick _ _ (by omega) (by omega) (by omega) (by omega)) rfl rfl
    have hAl : (acC { act0 with kind := 3, who := v1, n := n }).length = 60 := acK_len ⟨rfl, rfl⟩
    have hAt : (acC { act0 with kind := 3, who := v1, n := n }).take 60 = acC { act0 with kind := 3, who := v1, n := n } := List.take_of_length_le (by omega)
    generalize (⟨3, act0.ev, v1, n, act0.xor, act0.lo, act0.hi, act0.key⟩ : Ac) = ac at *
    obtain ⟨Y, hY⟩ : ∃ Y, acC ac = Y := ⟨_, rfl⟩
    rw [hY] at hpi hAl hAt
    replace hY : Hid _ := hY
    refine w_MC03 @h2 @h3 @hpi ?_ 
    exact ac_end ha3 rfl (show CV.agg Y = .agg (acC ac) by rw [show acC ac = Y from hY]) hg
  by_cases e12 : k = 12
  · subst e12
    obtain ⟨v1, a3, hv1, ha3, h3⟩ := nx_ex l 2 2 rfl ha2 hl2 (by omega)
    refine w_MC02 @h2 @h3 ?_ 
    exact ac_end2 (ac := { act0 with kind := 5, who := v1 }) ha3 rfl (fun _ => rfl) (acG_of (.kill _ (by omega) (by omega)) rfl rfl)
  have f12 : ((k : Int) == 12) = false := by simpa using (by omega : (k : Int) ≠ 12)
  by_cases e13 : k = 13
  · subst e13
    obtain ⟨v1, a3, hv1, ha3, h3⟩ := nx_ex l 2 2 rfl ha2 hl2 (by omega)
    refine w_MC02 @h2 @h3 ?_ 
    exact ac_end2 (ac := { act0 with kind := 4, who := v1 }) ha3 rfl (fun _ => rfl) (acG_of (.abort _ (by omega) (by omega)) rfl rfl)
  have f13 : ((k : Int) == 13) = false := by simpa using (by omega : (k : Int) ≠ 13)
  by_cases e14 : k = 14
  · subst e14
    obtain ⟨v1, a3, hv1, ha3, h3⟩ := nx_ex l 2 2 rfl ha2 hl2 (by omega)
    obtain ⟨v2, a4, hv2, ha4, h4⟩ := nx_ex l 40 40 rfl ha3 hl2 (by omega)
    refine w_MC03 @h2 @h3 @h4 ?_ 
    exact ac_end2 (ac := { act0 with kind := 7, who := v1, n := v2 }) ha4 rfl (fun _ => rfl) (acG_of (.cut _ _ (by omega) (by omega) (by omega) (by omega)) rfl rfl)
  have f14 : ((k : Int) == 14) = false := by simpa using (by omega : (k : Int) ≠ 14)
  obtain ⟨v1, a3, hv1, ha3, h3⟩ := nx_ex l 2 2 rfl ha2 hl2 (by omega)
  obtain ⟨v2, a4, hv2, ha4, h4⟩ := bg_ex l 3000 3000 rfl ha3 hl2 (by omega)
  obtain ⟨v3, a5, hv3, ha5, h5⟩ := nx_ex l 256 256 rfl ha4 hl2 (by omega)
  refine w_MC04 @h2 @h3 @h4 @h5 ?_ 
  have hb7 : CV.int .u8 (v3 : Int) = byteC (UInt8.ofNat v3) := by rw [byte_wrap, IntKind.wrap_u8]; congr 1; omega
  refine ac_end2 (ac := { act0 with kind := 6, who := v1, n := v2, xor := UInt8.ofNat v3 }) ha5 rfl (fun _ => ?_) (acG_of (.corrupt _ _ _ (by omega) (by omega) (by omega) (by omega)) rfl rfl)
  rw [hb7]
  rfl
end Go.Proofs.YtcbdghgogmcllaaGreatDoor
end
section
namespace Go.Proofs.YtcbdghgogmcllaaGreatDoor
open Go Go.Sy
def parL (pf : List UInt8 → Ac × Bool) : List (List UInt8) → Nat → List Ac → List Ac × Int × Int
  | [], _, _ => ([], 0, 0)
  | [x], k, out => if x = [] then (if 400 < out.length then ([], 0, 12) else (out, 0, 0)) else ([], (k : Int), 5)
  | x :: y :: r, k, out => if (pf x).2 then parL pf (y :: r) (k + 1) (out ++ [(pf x).1]) else ([], (k : Int), 5)
def pfS (x : List UInt8) : Ac × Bool := parseS (x ++ [10])
def parV (s : List UInt8) : List Ac × Int × Int := parL pfS (splitL 10 s) 1 []
def parR (s : List UInt8) : List Ac × Int × Int := parL lineR (splitL 10 s) 1 []
theorem pf_eq (x : List UInt8) : (pfS x).2 = (lineR x).2 ∧ ((lineR x).2 = true → (pfS x).1 = (lineR x).1) := by
  have h1 : ∀ b, pfS x = (b, true) → lineR x = (b, true) := fun b h => by
    obtain ⟨hn, hs⟩ := parse_norm h
    rw [norm_line hn] at hs
    rw [List.append_cancel_right hs]
    exact norm_back hn
  have h2 : ∀ b, lineR x = (b, true) → pfS x = (b, true) := fun b h => by
    obtain ⟨hn, hs⟩ := line_norm h
    rw [pfS, hs, ← norm_line hn]
    exact norm_parse hn
  cases hp : (lineR x).2 with
  | true =>
    have := h2 (lineR x).1 (Prod.ext rfl hp)
    rw [this]
    exact ⟨rfl, fun _ => rfl⟩
  | false =>
    refine ⟨?_, fun h => by cases h⟩
    cases hq : (pfS x).2 with
    | false => rfl
    | true =>
      have := h1 (pfS x).1 (Prod.ext rfl hq)
      rw [this] at hp
      cases hp
theorem parL_eq : ∀ (L : List (List UInt8)) (k : Nat) (out : List Ac), parL pfS L k out = parL lineR L k out
  | [], _, _ => rfl
  | [_], _, _ => rfl
  | x :: y :: r, k, out => by
    obtain ⟨h1, h2⟩ := pf_eq x
    rw [parL, parL, h1]
    split
    · rename_i h
      rw [h2 h]
      exact parL_eq (y :: r) _ _
    · rfl
theorem par_eq (s : List UInt8) : parV s = parR s := parL_eq _ _ _
end Go.Proofs.YtcbdghgogmcllaaGreatDoor
end
section
namespace Go.Proofs.YtcbdghgogmcllaaGreatDoor
open Go Go.Sy
def RowsA (out : List Ac) (c : CV) (B : List Box) : Prop := (out = [] ∧ c = .nilS) ∨ (out ≠ [] ∧ ∃ β m, c = .view β 0 out.length 60 false ∧ B[β]? = some ⟨out.flatMap acC, m⟩)
theorem rows_len {out : List Ac} (h : ∀ a ∈ out, AcK a) : (out.flatMap acC).length = out.length * 60 := by
  induction out with
  | nil => rfl
  | cons a l ih =>
    rw [List.flatMap_cons, List.length_append, ih fun b hb => h b (by simp [hb]), acK_len (h a (by simp)), List.length_cons]
    omega
theorem acs_om {nz : Bool} : ∀ (out : List Ac) {B : List Box} {k : Nat}, omap (Go.Sy.fz nz false B (k + 3)) (out.flatMap acC) = some (out.flatMap acC)
  | [], _, _ => rfl
  | a :: l, B, k => by
    rw [List.flatMap_cons, omap_app, acC_om, acs_om l]
    rfl
def parC (r : List Ac × Int × Int) : CV := .tup [.lst r.1.length (r.1.flatMap acC) false, .int .i64 r.2.1, .int .i64 r.2.2]
end Go.Proofs.YtcbdghgogmcllaaGreatDoor
end
section
namespace Go.Proofs.YtcbdghgogmcllaaGreatDoor
open Go Go.Sy
theorem kE_MD0 {α : Type} {x y : α} (h : Is x y := by first | ((try simp (disch := first | omega | (simp only [yZ, yB] <;> omega) | fail) [go_sem, yY, *, bx_get0, bx_get, bx_set0, bx_set, if_pos, if_neg, -List.map_take, -List.map_drop, -List.map_append, -List.map_reverse]); exact rfl) | fail) : Is x y := h
theorem kD_MD0 {p : Prop} (h : p := by (first | omega | assumption | exact rfl | ((simp (disch := first | omega | (simp only [yZ, yB] <;> omega) | fail) [go_sem, yY, *, bx_get0, bx_get, bx_set0, bx_set, -List.map_take, -List.map_drop, -List.map_append, -List.map_reverse]) <;> (first | done | omega | exact rfl)) | fail)) : p := h
theorem wB_MD0 {p q : Prop} (k : q) (h : Hq q → p := by (intro k; (repeat' (first | (with_reducible first | apply jA | apply jB | apply jC | apply jD | apply jE | apply jF | apply jG | apply jH | apply jI | apply jJ | apply jK | apply jL | apply jM | apply jN | apply jO) | ((with_reducible first | apply jP | apply jQ); rfl) | ((first | ((with_reducible first | apply jR | apply jS | apply jT); rfl; rfl) | (with_reducible first | apply jU | apply jV | apply jW) | ((with_reducible first | apply jX | apply jY | apply jZ); rfl) | ((with_reducible first | apply kA | apply kB | apply kC); rfl)); all_goals (first | ((with_reducible show Is _ _); exact kE_MD0) | ((with_reducible refine fun (hc : (_ : Bool) = _) => ?_); (try simp only [xZ, xY, xP, reduceCtorEq] at hc); (try (have hx : True := hc; clear hx hc)); (try exact kX)) | ((with_reducible show ACall _ _ _ _ _); (first | ((with_reducible apply c0) <;> exact kD_MD0) | ((with_reducible apply c1) <;> exact kD_MD0) | ((with_reducible apply c2) <;> exact kD_MD0) | ((with_reducible apply c3) <;> exact kD_MD0) | ((with_reducible apply c4) <;> exact kD_MD0) | ((with_reducible apply c5) <;> exact kD_MD0) | ((with_reducible apply c6) <;> exact kD_MD0) | ((with_reducible apply c7) <;> exact kD_MD0))) | ((fail_if_success (with_reducible first | show Is _ _ | show ACall _ _ _ _ _)); (try ((with_reducible show _ ∨ _); exact kT))))) | (((with_reducible first | apply o_callQ | apply q_callQ); rfl); (iterate 2 exact kE_MD0); (first | ((with_reducible apply q0) <;> exact kD_MD0))))); exact hq k)) : p := h ⟨k⟩
theorem w_MD00 {p q : Prop}  (k : q) (h : Hq q → p := by (intro  k; exact wB_MD0 (hq k))) : p := h  ⟨k⟩
theorem w_MD01 {A0 p q : Prop} (c0 : A0) (k : q) (h : A0 → Hq q → p := by (intro c0 k; exact wB_MD0 (hq k))) : p := h c0 ⟨k⟩
theorem w_MD01q {A0 A1 p q : Prop} (c0 : A0) (q0 : A1) (k : q) (h : A0 → A1 → Hq q → p := by (intro c0 q0 k; exact wB_MD0 (hq k))) : p := h c0 q0 ⟨k⟩
def OutB (B : List Box) (β : Nat) (l : List UInt8) (a : Nat) (D : List CV) (out : List Ac) (c : CV) (W : List Box) : Prop :=
  (out = [] ∧ c = .nilS ∧ W = B.set β (cb l a) ++ [⟨D, false⟩]) ∨ (out ≠ [] ∧ ∃ m, c = .view (B.length + 1) 0 out.length 60 false ∧ W = B.set β (cb l a) ++ [⟨D, false⟩, ⟨out.flatMap acC, m⟩])
theorem actions_at {B : List Box} {β : Nat} {args D : List CV} {now : Int} {l : List UInt8} {a : Nat} (ha : Is args [.ptr β 0, .agg D, .int .i64 16, .bool false]) (hD : DmP D now) (hn : 0 ≤ now ∧ now ≤ 1048576) (hB : B[β]? = some (cb l a)) (hm : MLow B) (hl : a ≤ l.length ∧ l.length < 1000000) : ACall Tryz.prog 21 args B fun c B' => ∃ a', a' ≤ l.length ∧ (∃ out : List Ac, out.length ≤ 16 ∧ (∀ x ∈ out, AcG x) ∧ c = .lst out.length (out.flatMap acC) false) ∧ B' = B.set β (cb l a') := by
  obtain rfl := ha
  obtain ⟨d1, d2, d3, d4⟩ := id hD
  have hl1 := hl.1
  have hl2 := hl.2
  have xb := bx_pack hB
  have hB0 : B.set β (cb l a) = B := bx_same hB
  refine drop_cb hm ?_
  replace hm : Hid _ := hm
  replace hD : Hid _ := hD
  replace hn : Hid _ := hn
  clear hl
  refine acall_intro mixed Tryz.func21 rfl ca21 (by kernel_rfl) (by rw [Tryz.ntmps21]; simp) ?_
  refine w_MD00 ?_ 
  refine w_loop (fun fr W => ∃ (a' : Nat) (out : List Ac), a' ≤ l.length ∧ out.length ≤ 16 ∧ (∀ x ∈ out, AcG x) ∧ fr 0 = .ptr β 0 ∧ fr 2 = .int .i64 16 ∧ fr 3 = .bool false ∧ fr 5 = .ptr B.length 0 ∧ OutB B β l a' D out (fr 9) W) (fun fr _ => match fr 9 with | .view _ _ n _ _ => 16 - n | _ => 16) ?_ ?_
  · exact ⟨a, [], hl1, by simp, by simp, kS, kS, kS, kS, .inl ⟨rfl, kS, by rw [hB0]⟩⟩
  clear hB0 hl1
  replace hB : Hid _ := hB
  rintro fr W ⟨a1, out, ha1, ho, hg, f0, f2, f3, f5, hr⟩
  have hleft : ∀ {B : List Box} {args : List CV}, Is args [.ptr β 0] → B[β]? = some (cb l a1) → ACall Tryz.prog 38 args B fun c B' => c = .bool (decide (a1 < l.length)) ∧ B' = B := fun h h2 => left_at h h2
  have hgk : ∀ x ∈ out, AcK x := fun x hx => ⟨(hg x hx).ip, (hg x hx).key⟩
  have hrl := rows_len hgk
  have hoo : ∀ {B : List Box} {k : Nat}, omap (Go.Sy.fz true false B (k + 3)) (out.flatMap acC) = some (out.flatMap acC) := acs_om out
  have hno : NoRef (out.flatMap acC) := acs_om out
  have htk : (out.flatMap acC).take (out.length * 60) = out.flatMap acC := List.take_of_length_le (by omega)
  obtain ⟨n, hon⟩ : ∃ n, out.length = n := ⟨_, rfl⟩
  have hact : ∀ {args : List CV}, Is args [.ptr β 0, .agg D, .bool false] → ACall Tryz.prog 39 args W fun c B' => ∃ a', a' ≤ l.length ∧ (∃ ac, AcG ac ∧ c = .agg (acC ac)) ∧ B' = W.set β (cb l a') := fun h => by
    have xb := bx_pack (show B[β]? = some (cb l a) from hB)
    rcases hr with ⟨rfl, _, rfl⟩ | ⟨_, m, _, rfl⟩
    · exact action_at h hD hn (xb.2.2.2.1 _ _) (mlow_app (mlow_set hm (by simp [cb])) (by simp)) ⟨ha1, hl2⟩
    · exact action_at h hD hn (xb.2.2.2.1 _ _) (mlow_app (mlow_set hm (by simp [cb])) (by simp; exact fun _ => hno)) ⟨ha1, hl2⟩
  have hfin : Hid (∃ o : List Ac, o.length ≤ 16 ∧ (∀ x ∈ o, AcG x) ∧ CV.lst n (out.flatMap acC) false = .lst o.length (o.flatMap acC) false) := ⟨out, ho, hg, by rw [hon]⟩
  replace hg : Hid _ := hg
  replace hno : Hid _ := hno
  clear hgk
  have hfz : ∀ m, fz true false (List.replicate B.length ⟨[], true⟩ ++ [(⟨D, false⟩ : Box), ⟨out.flatMap acC, m⟩]) 6 (.view (B.length + 1) 0 n 60 false) = some (.lst n (out.flatMap acC) false) := fun m => by
    rw [fz_view, fzl_get]
    show (omap _ (((out.flatMap acC).drop 0).take (n * 60))).map _ = _
    rw [List.drop_zero, ← hon, htk, hoo]
    rfl
  replace hfz : Hid _ := hfz
  rw [hon] at htk hrl
  by_cases hc : n < 16
  rotate_left
  · have hc' : ¬ ((n : Int) < 16) := by omega
    rcases hr with ⟨rfl, f9, rfl⟩ | ⟨hne, m, f9, rfl⟩
    · simp at hon; omega
    · rw [hon] at f9
      clear hact
      refine w_MD01 @hleft ?_ 
      exact ⟨a1, _, _, ha1, rfl, (show ∀ m, fz true false (List.replicate B.length ⟨[], true⟩ ++ [(⟨D, false⟩ : Box), ⟨out.flatMap acC, m⟩]) 6 (.view (B.length + 1) 0 n 60 false) = some (.lst n (out.flatMap acC) false) from hfz) m, hfin⟩
  by_cases hc2 : a1 < l.length
  rotate_left
  · rcases hr with ⟨rfl, f9, rfl⟩ | ⟨hne, m, f9, rfl⟩
    · clear hact
      refine w_MD01 @hleft ?_ 
      exact ⟨a1, _, .lst 0 [] false, ha1, rfl, rfl, [], by simp, by simp, rfl⟩
    · rw [hon] at f9
      clear hact
      refine w_MD01 @hleft ?_ 
      exact ⟨a1, _, _, ha1, rfl, (show ∀ m, fz true false (List.replicate B.length ⟨[], true⟩ ++ [(⟨D, false⟩ : Box), ⟨out.flatMap acC, m⟩]) 6 (.view (B.length + 1) 0 n 60 false) = some (.lst n (out.flatMap acC) false) from hfz) m, hfin⟩
  rcases hr with ⟨rfl, f9, rfl⟩ | ⟨hne, m, f9, rfl⟩
  · obtain rfl : n = 0 := by simpa using hon.symm
    refine w_MD01q @hleft @hact ?_ 
    have hg : Hid (∀ x ∈ ([] : List Ac), AcG x) := fun _ h => by cases h
    rintro _ _ ⟨a2, ha2, ⟨ac, hac, rfl⟩, rfl⟩
    have hXl := acK_len ⟨hac.ip, hac.key⟩
    have hXt : (acC ac).take 60 = acC ac := List.take_of_length_le (by omega)
    have hg2 : ∀ x ∈ ([] : List Ac) ++ [ac], AcG x := fun x hx => by
      rcases List.mem_append.1 hx with h | h
      · exact (show ∀ x ∈ ([] : List Ac), AcG x from hg) x h
      · rw [List.mem_singleton] at h; subst h; exact hac
    have hol : (([] : List Ac) ++ [ac]).length = 0 + 1 := by rw [List.length_append, hon]; rfl
    have hfl : (([] : List Ac) ++ [ac]).flatMap acC = (([] : List Ac)).flatMap acC ++ acC ac := by rw [List.flatMap_append, List.flatMap_singleton]
    have hne2 : ([] : List Ac) ++ [ac] ≠ [] := by simp
    obtain ⟨out2, ho2⟩ : ∃ o, ([] : List Ac) ++ [ac] = o := ⟨_, rfl⟩
    rw [ho2] at hg2 hol hfl hne2
    replace hg2 : Hid _ := hg2
    replace hol : Hid _ := hol
    replace hfl : Hid _ := hfl
    replace hne2 : Hid _ := hne2
    clear ho2 hac
    generalize acC ac = X at *
    clear hact hfz hfin
    refine w_MD00 ?_ 
    have hol : out2.length = 1 := hol
    refine ⟨⟨a2, out2, ha2, by omega, hg2, kS, kS, kS, kS, .inr ⟨hne2, false, by rw [hol]; (simp (disch := omega) [go_sem, *]) <;> (try omega), ?_⟩⟩, kS⟩
    rw [show out2.flatMap acC = X from hfl]
  · rw [hon] at f9
    have hnz : n ≠ 0 := by rintro rfl; exact hne (List.eq_nil_of_length_eq_zero hon)
    have hbn : (n + 1) * Tryz.prog.bytesOf 47 ≤ 140737488355328 := by
      have : Tryz.prog.bytesOf 47 ≤ 1000 := by decide +kernel
      have : (n + 1) * Tryz.prog.bytesOf 47 ≤ 16 * 1000 := Nat.mul_le_mul (by omega) this
      omega
    have hbn2 : (n + 1) * 168 ≤ 140737488355328 := by omega
    generalize hDD : out.flatMap acC = DD at *
    refine w_MD01q @hleft @hact ?_ 
    rintro _ _ ⟨a2, ha2, ⟨ac, hac, rfl⟩, rfl⟩
    have hXl := acK_len ⟨hac.ip, hac.key⟩
    have hXt : (acC ac).take 60 = acC ac := List.take_of_length_le (by omega)
    have hg2 : ∀ x ∈ out ++ [ac], AcG x := fun x hx => by
      rcases List.mem_append.1 hx with h | h
      · exact (show ∀ x ∈ out, AcG x from hg) x h
      · rw [List.mem_singleton] at h; subst h; exact hac
    have hol : (out ++ [ac]).length = n + 1 := by rw [List.length_append, hon]; rfl
    have hfl : (out ++ [ac]).flatMap acC = (out).flatMap acC ++ acC ac := by rw [List.flatMap_append, List.flatMap_singleton]
    have hne2 : out ++ [ac] ≠ [] := by simp
    obtain ⟨out2, ho2⟩ : ∃ o, out ++ [ac] = o := ⟨_, rfl⟩
    rw [ho2] at hg2 hol hfl hne2
    replace hg2 : Hid _ := hg2
    replace hol : Hid _ := hol
    replace hfl : Hid _ := hfl
    replace hne2 : Hid _ := hne2
    clear ho2 hac
    generalize acC ac = X at *
    clear hact hfz hfin
    refine w_MD00 ?_ 
    have hol : out2.length = n + 1 := hol
    refine ⟨⟨a2, out2, ha2, by omega, hg2, kS, kS, kS, kS, .inr ⟨hne2, true, by rw [hol]; (simp (disch := omega) [go_sem, *]) <;> (try omega), ?_⟩⟩, kS⟩
    rw [show out2.flatMap acC = _ from hfl, hDD]
end Go.Proofs.YtcbdghgogmcllaaGreatDoor
end
section
namespace Go.Sy
theorem acall_immQ {P : Program} {B : List Box} {f : FuncId} {args args' : List CV} {Q : CV → Prop} {nz fr : Bool} (hz : omap (fz nz false [] 6) args = some args') (h : ACall P f args' [] fun c1 B1 => ∃ c', Q c' ∧ fz true fr B1 6 c1 = some c') : ACall P f args B fun c B' => Q c ∧ B' = B := by
  refine ⟨h.1, fun N I μ w vs hB hv => ?_⟩
  have hv' := rel_free 6 false args vs args' hv hz
  refine (h.2 w.heap.size I [] w vs (BRel.none_ w _ hB.imm hB.tabs) hv').mono fun e w' ⟨c, v, B1, J1, μ1, he, ⟨c', hq, hQ⟩, hs⟩ => ?_
  have hJ : ∀ b j, J1 b j → I b j ∨ (w.heap.size ≤ b ∧ b < w'.heap.size) := fun b j hj => by
    rcases hs.ext.immN b j hj with h1 | h1 | ⟨β, ps, p, h1, _⟩
    · exact .inl h1
    · exact .inr ⟨h1, hs.box.imm _ _ hj⟩
    · simp at h1
  have hv2 := fz_rel (J := fun b j => I b j ∨ (w.heap.size ≤ b ∧ b < w'.heap.size)) hs.box (fun _ => hJ) (fun β ps p _ h1 h2 => .inr ⟨(hs.box.places β ps p h1 h2).1, (hs.box.places β ps p h1 h2).2.2.lt⟩) 6 false [c] [v] [c'] hs.val (omap_one hQ)
  obtain ⟨g1, g2, g3⟩ := hB.behind (I2 := fun b j => I b j ∨ (w.heap.size ≤ b ∧ b < w'.heap.size)) hs.below (fun _ _ h => .inl h) (fun _ _ h => h)
  exact ⟨c', v, B, _, μ, he, ⟨hq, rfl⟩, hv2.ext ⟨fun _ _ h => h, fun _ _ _ => rfl, fun _ _ h => h, fun _ h => h, fun _ _ h => by simp at h, fun _ _ _ _ h => h⟩, g1, g2, g3⟩
end Go.Sy
namespace Go.Proofs.YtcbdghgogmcllaaGreatDoor
open Go Go.Sy
theorem kE_ME0 {α : Type} {x y : α} (h : Is x y := by first | ((try simp (disch := first | omega | (simp only [yZ, yB] <;> omega) | fail) [go_sem, yY, *, bx_get0, bx_get, bx_set0, bx_set, if_pos, if_neg, -List.map_take, -List.map_drop, -List.map_append, -List.map_reverse]); exact rfl) | fail) : Is x y := h
theorem kD_ME0 {p : Prop} (h : p := by (first | omega | assumption | exact rfl | ((simp (disch := first | omega | (simp only [yZ, yB] <;> omega) | fail) [go_sem, yY, *, bx_get0, bx_get, bx_set0, bx_set, -List.map_take, -List.map_drop, -List.map_append, -List.map_reverse]) <;> (first | done | omega | exact rfl)) | fail)) : p := h
theorem wB_ME0 {p q : Prop} (k : q) (h : Hq q → p := by (intro k; (repeat' (first | (with_reducible first | apply jA | apply jB | apply jC | apply jD | apply jE | apply jF | apply jG | apply jH | apply jI | apply jJ | apply jK | apply jL | apply jM | apply jN | apply jO) | ((with_reducible first | apply jP | apply jQ); rfl) | ((first | ((with_reducible first | apply jR | apply jS | apply jT); rfl; rfl) | (with_reducible first | apply jU | apply jV | apply jW) | ((with_reducible first | apply jX | apply jY | apply jZ); rfl) | ((with_reducible first | apply kA | apply kB | apply kC); rfl)); all_goals (first | ((with_reducible show Is _ _); exact kE_ME0) | ((with_reducible refine fun (hc : (_ : Bool) = _) => ?_); (try simp only [xZ, xY, xP, reduceCtorEq] at hc); (try (have hx : True := hc; clear hx hc)); (try exact kX)) | ((with_reducible show ACall _ _ _ _ _); (first | ((with_reducible apply c0) <;> exact kD_ME0) | ((with_reducible apply c1) <;> exact kD_ME0) | ((with_reducible apply c2) <;> exact kD_ME0) | ((with_reducible apply c3) <;> exact kD_ME0) | ((with_reducible apply c4) <;> exact kD_ME0) | ((with_reducible apply c5) <;> exact kD_ME0) | ((with_reducible apply c6) <;> exact kD_ME0) | ((with_reducible apply c7) <;> exact kD_ME0))) | ((fail_if_success (with_reducible first | show Is _ _ | show ACall _ _ _ _ _)); (try ((with_reducible show _ ∨ _); exact kT))))) | (((with_reducible first | apply o_callQ | apply q_callQ); rfl); (iterate 2 exact kE_ME0); (first | ((with_reducible apply q0) <;> exact kD_ME0))))); exact hq k)) : p := h ⟨k⟩
theorem w_ME00 {p q : Prop}  (k : q) (h : Hq q → p := by (intro  k; exact wB_ME0 (hq k))) : p := h  ⟨k⟩
theorem i64_of {n : Int} (h0 : -4611686018427387904 ≤ n) (h1 : n ≤ 4611686018427387904) : i64 n := ⟨by omega, by omega⟩
theorem acG_L {a : Ac} (h : AcG a) : AcL a := by
  obtain ⟨hb, ht, hi, hk, hn⟩ := h
  have hb' : a.ev.bytes.length < 1000000 := by omega
  have ht' : a.ev.text.length < 1000000 := by omega
  have e0 : (act0.ev.kind = 0 ∧ act0.ev.port = 0 ∧ act0.ev.time = 0) ∧ act0.kind = 0 ∧ act0.who = 0 ∧ act0.n = 0 ∧ act0.lo = 0 ∧ act0.hi = 0 := by decide
  have key : i64 a.ev.kind ∧ i64 a.ev.port ∧ i64 a.ev.time ∧ i64 a.kind ∧ i64 a.who ∧ i64 a.n ∧ i64 a.lo ∧ i64 a.hi := by
    rcases hn with hn | ⟨n, h1, h2, rfl⟩
    · cases hn
      all_goals
        refine ⟨?_, ?_, ?_, ?_, ?_, ?_, ?_, ?_⟩
        all_goals (first | exact i64_zero | exact i64_1 | exact i64_2 | exact i64_3 | exact i64_4 | exact i64_5 | exact i64_6 | exact i64_7 | exact i64_of (by simp only [evA]; omega) (by simp only [evA]; omega))
    · exact ⟨i64_3, i64_zero, i64_of (by simp only [evA]; omega) (by simp only [evA]; omega), i64_1, i64_zero, i64_zero, i64_zero, i64_zero⟩
  obtain ⟨k1, k2, k3, k4, k5, k6, k7, k8⟩ := key
  exact ⟨⟨hi, k1, k2, k3, hb', ht'⟩, k4, k5, k6, k7, k8, hk⟩
structure AcN (a : Ac) : Prop where
  norm : Norm a
  g : AcG a
theorem AcN.s {a : Ac} (h : AcN a) : AcS a := ⟨acG_L h.g, by have := h.g.bytes; omega, by have := h.g.text; omega⟩
theorem acG_cases {a : Ac} (h : AcG a) : (AcN a ∧ 0 ≤ a.ev.time ∧ (a.kind ≠ 1 ∨ a.kind = 1 ∧ a.ev.kind ≠ 2 ∨ a.kind = 1 ∧ a.ev.kind = 2 ∧ 1 ≤ a.ev.port ∧ a.ev.port ≤ 65535)) ∨ (a.ev.time < 0 ∧ a.kind = 1 ∧ a.ev.kind = 3 ∧ AcN { a with ev := { a.ev with time := 0 } }) := by
  rcases h.norm with hn | ⟨n, h1, h2, rfl⟩
  · refine .inl ⟨⟨hn, h⟩, ?_⟩
    cases hn
    case dgram => exact ⟨Int.le_refl 0, .inr (.inr ⟨rfl, rfl, by simp only [evA]; omega, by simp only [evA]; omega⟩)⟩
    case tick h0 _ => exact ⟨h0, .inr (.inl ⟨rfl, by simp [evA]⟩)⟩
    case plain => exact ⟨Int.le_refl 0, .inr (.inl ⟨rfl, by simp [evA]⟩)⟩
    case entropy => exact ⟨Int.le_refl 0, .inr (.inl ⟨rfl, by simp [evA]⟩)⟩
    case control => exact ⟨Int.le_refl 0, .inr (.inl ⟨rfl, by simp [evA]⟩)⟩
    all_goals exact ⟨Int.le_refl 0, .inl (by simp)⟩
  · exact .inr ⟨h2, rfl, rfl, .tick 0 (by decide) (by decide), ⟨h.bytes, h.text, h.ip, h.key, .inl (.tick 0 (by decide) (by decide))⟩⟩
theorem ac_time {a : Ac} (h : a.ev.ip.length = 16) : (acC a).take 21 ++ (.int .i64 0 :: (acC a).drop 22) = acC { a with ev := { a.ev with time := 0 } } := by
  have l1 : (a.ev.ip.map byteC).length = 16 := by simp [h]
  have e : ∀ t : Int, acC { a with ev := { a.ev with time := t } } = (.int .i64 a.kind :: .int .i64 a.ev.kind :: .bool a.ev.six :: (a.ev.ip.map byteC ++ [.int .i64 a.ev.port, .lst a.ev.bytes.length (a.ev.bytes.map byteC) false])) ++ (.int .i64 t :: .str a.ev.text :: .int .i64 a.who :: .int .i64 a.n :: byteC a.xor :: .int .i64 a.lo :: .int .i64 a.hi :: a.key.map byteC) := fun t => by simp [acC, evC]
  have e1 : acC a = _ := e a.ev.time
  rw [e 0, e1]
  have l2 : (.int .i64 a.kind :: .int .i64 a.ev.kind :: .bool a.ev.six :: (a.ev.ip.map byteC ++ [.int .i64 a.ev.port, .lst a.ev.bytes.length (a.ev.bytes.map byteC) false])).length = 21 := by simp [l1]
  rw [List.take_left' l2, show (22 : Nat) = 21 + 1 from rfl, ← List.drop_drop, List.drop_left' l2]
  rfl
theorem made_at (codes : List UInt8) (hcl : codes.length < 9223372036854775808) {B : List Box} {args : List CV} (hz : Is args [.lst codes.length (codes.map byteC) false]) : ACall Tryz.prog 7 args B fun c B' => (∃ L : List Ac, L.length ≤ 16 ∧ (∀ x ∈ L, AcN x) ∧ c = .lst L.length (L.flatMap acC) false) ∧ B' = B := by
  obtain rfl := hz
  refine acall_immQ (nz := true) (fr := false) (args' := [.lst codes.length (codes.map byteC) false]) (by simp [go_sem, omap_bytes]) ?_
  have hnw : ∀ {B : List Box} {args : List CV}, Is args [.lst codes.length (codes.map byteC) false, .int .i64 160] → ACall Tryz.prog 19 args B fun c B' => c = .ptr B.length 0 ∧ B' = B ++ [cb (codes.take 160) 0] := fun h => new_at (n := 160) h (by omega)
  have hlt : (codes.take 160).length < 1000000 := by rw [List.length_take]; omega
  generalize codes.take 160 = l at *
  refine acall_intro mixed Tryz.func7 rfl ca7 (by kernel_rfl) (by rw [Tryz.ntmps7]; simp) ?_
  refine w_cut (fun fr W => fr 0 = .lst codes.length (codes.map byteC) false ∧ W = []) ?_ ?_
  · refine w0 ?_ 
    exact ⟨kS, rfl⟩
  rintro fr W ⟨f0, rfl⟩
  refine w_cut (fun fr W => fr 3 = .ptr 0 0 ∧ W = [cb l 0]) ?_ ?_
  · refine w1 @hnw ?_ 
    exact ⟨kS, rfl⟩
  clear f0 hnw fr
  rintro fr W ⟨f3, rfl⟩
  obtain ⟨v1, a1, hv1, ha1, h1⟩ := bg_ex l 1048576 1048576 rfl (Nat.zero_le _) hlt (by omega)
  refine w_cut (fun fr W => ∃ D, DmP D v1 ∧ fr 3 = .ptr 0 0 ∧ fr 4 = .ptr 1 0 ∧ W = [cb l a1, ⟨D, false⟩]) ?_ ?_
  · refine w1 @h1 ?_ 
    exact ⟨_, ⟨rfl, rfl, rfl, rfl⟩, kS, kS, rfl⟩
  clear f3 h1 fr
  rintro fr W ⟨D, hD, f3, f4, rfl⟩
  have hac : ∀ {args : List CV}, Is args [.ptr 0 0, .agg D, .int .i64 16, .bool false] → ACall Tryz.prog 21 args [cb l a1, ⟨D, false⟩] fun c B' => ∃ a', a' ≤ l.length ∧ (∃ out : List Ac, out.length ≤ 16 ∧ (∀ x ∈ out, AcG x) ∧ c = .lst out.length (out.flatMap acC) false) ∧ B' = [cb l a1, ⟨D, false⟩].set 0 (cb l a') := fun h => actions_at h hD ⟨by omega, by omega⟩ rfl (mlow_app (B := []) (G := [cb l a1, ⟨D, false⟩]) mlow_nil (by simp [cb])) ⟨ha1, hlt⟩
  obtain ⟨d1, d2, d3, d4⟩ := hD
  refine w0q @hac ?_ 
  rintro _ _ ⟨a2, ha2, ⟨L, hL, hg, rfl⟩, rfl⟩
  clear hac
  obtain ⟨n, hn⟩ : ∃ n, L.length = n := ⟨_, rfl⟩
  have hcs : Cells acC 60 (L.flatMap acC) L := cells_all fun x hx => acK_len ⟨(hg x hx).ip, (hg x hx).key⟩
  generalize L.flatMap acC = Y at *
  rw [hn]
  replace hg : Hid _ := hg
  replace hcs : Hid _ := hcs
  replace hn : Hid _ := hn
  refine w0 ?_ 
  refine w_loop (fun fr B => ∃ (j : Nat) (out : List Ac), j ≤ n ∧ out.length ≤ j ∧ (∀ x ∈ out, AcN x) ∧ fr 15 = .lst n Y false ∧ fr 16 = .int .i64 n ∧ fr 17 = .int .i64 j ∧ RowsA out (fr 5) B) (fun fr _ => n - natOf (fr 17)) ?_ ?_
  · exact ⟨0, [], by omega, by simp, by simp, kS, kS, kS, .inl ⟨rfl, kS⟩⟩
  clear d1 d2 d3 d4 f3 f4 fr
  rintro fr B ⟨j, out, hj, ho, hko, f15, f16, f17, hr⟩
  have hm : natOf (fr 17) = j := by rw [f17]; rfl
  have hn : L.length = n := hn
  by_cases hc : j < n
  rotate_left
  · obtain rfl : j = n := by omega
    rcases hr with ⟨rfl, f5⟩ | ⟨hne, β, mm, f5, hB⟩
    · refine w0 ?_ 
      exact ⟨_, ⟨[], by simp, by simp, rfl⟩, rfl⟩
    · have hrl := rows_len fun x hx => AcK.mk (hko x hx).g.ip (hko x hx).g.key
      have htk : (out.flatMap acC).take (out.length * 60) = out.flatMap acC := List.take_of_length_le (by omega)
      have hoo : ∀ {B : List Box} {k : Nat}, omap (Go.Sy.fz true false B (k + 3)) (out.flatMap acC) = some (out.flatMap acC) := acs_om out
      have hfin : Hid (∃ o : List Ac, o.length ≤ 16 ∧ (∀ x ∈ o, AcN x) ∧ CV.lst out.length (out.flatMap acC) false = .lst o.length (o.flatMap acC) false) := ⟨out, by omega, hko, rfl⟩
      clear hko hrl
      refine w0 ?_ 
      exact ⟨_, hfin, by simp [go_sem, hB, htk, hoo]⟩
  obtain ⟨ac, hace⟩ : ∃ ac, L[j]'(by omega) = ac := ⟨_, rfl⟩
  have hga : AcG ac := by rw [← hace]; exact (show ∀ x ∈ L, AcG x from hg) _ (List.getElem_mem (by omega))
  obtain ⟨hYl, hYc⟩ : j * 60 + 60 ≤ Y.length ∧ (Y.drop (j * 60)).take 60 = acC ac := by
    have := (show Cells acC 60 Y L from hcs) j (by omega)
    rw [hace] at this
    exact ⟨by omega, this.2⟩
  clear hace
  have p := ac_parts (acG_L hga)
  have x0 := p.d0
  have x1 := p.h1
  have x19 := p.d19
  have x21 := p.d21
  have hXl := p.len
  have hXt := p.all
  have hXs := ac_time hga.ip
  have x19' : (acC ac).drop 19 = .int .i64 ac.ev.port :: (acC ac).drop 20 := by
    rw [show (20 : Nat) = 19 + 1 from rfl, ← List.drop_drop, x19]; rfl
  clear p x19
  have hcases := acG_cases hga
  have hrl := rows_len fun x hx => AcK.mk (hko x hx).g.ip (hko x hx).g.key
  have hol : ∀ b, (out ++ [b]).length = out.length + 1 := fun b => by rw [List.length_append]; rfl
  have hfl : ∀ b, (out ++ [b]).flatMap acC = out.flatMap acC ++ acC b := fun b => by rw [List.flatMap_append, List.flatMap_singleton]
  have hk2 : ∀ b, AcN b → ∀ x ∈ out ++ [b], AcN x := fun b hb x hx => by
    rcases List.mem_append.1 hx with h | h
    · exact hko x h
    · rw [List.mem_singleton] at h; subst h; exact hb
  have hne2 : ∀ b, out ++ [b] ≠ [] := fun b => by simp
  clear hfl
  replace hol : Hid _ := hol
  replace hk2 : Hid _ := hk2
  replace hne2 : Hid _ := hne2
  clear hga hko
  rcases hcases with ⟨hN, ht, hk⟩ | ⟨ht, hk, he, hN⟩
  · replace hN : Hid _ := hN
    have ht' : ¬ ac.ev.time < 0 := by omega
    rcases hk with hk | ⟨hk, he⟩ | ⟨hk, he, hp1, hp2⟩
    · have hk' : (ac.kind == 1) = false := by simpa using hk
      obtain ⟨out2, ho2⟩ : ∃ o, out ++ [ac] = o := ⟨_, rfl⟩
      have hol3 := (show ∀ b : Ac, (out ++ [b]).length = out.length + 1 from hol) ac
      have hfl : (out ++ [ac]).flatMap acC = out.flatMap acC ++ (acC ac) := by rw [List.flatMap_append, List.flatMap_singleton]
      have hk3 := (show ∀ b : Ac, AcN b → ∀ x ∈ out ++ [b], AcN x from hk2) ac hN
      have hne3 := (show ∀ b : Ac, out ++ [b] ≠ [] from hne2) ac
      rw [ho2] at hol3 hfl hk3 hne3
      replace hol3 : Hid _ := hol3
      replace hfl : Hid _ := hfl
      replace hk3 : Hid _ := hk3
      replace hne3 : Hid _ := hne3
      clear ho2 hol hk2 hne2
      rcases hr with ⟨rfl, f5⟩ | ⟨hne, β, mm, f5, hB⟩
      · refine w_ME00 ?_ 
        have hol : out2.length = 0 + 1 := hol3
        have hfl : out2.flatMap acC = (acC ac) := hfl
        exact ⟨⟨j + 1, out2, by omega, by omega, hk3, kS, kS, kS, .inr ⟨hne3, B.length + 1, _, by rw [hol]; (simp (disch := omega) [go_sem, *]) <;> (try omega), by rw [hfl]; (simp (disch := omega) [go_sem, *, bx_get0, bx_get, bx_set0, bx_set]) <;> (try omega)⟩⟩, kS⟩
      · have xb := bx_pack hB
        have hon : out.length ≤ 16 := by omega
        have hbn : (out.length + 1) * Tryz.prog.bytesOf 47 ≤ 140737488355328 := by
          have : Tryz.prog.bytesOf 47 ≤ 1000 := by decide +kernel
          have : (out.length + 1) * Tryz.prog.bytesOf 47 ≤ 17 * 1000 := Nat.mul_le_mul (by omega) this
          omega
        have hbn2 : (out.length + 1) * 168 ≤ 140737488355328 := by omega
        refine w_ME00 ?_ 
        have hol : out2.length = out.length + 1 := hol3
        have hfl : out2.flatMap acC = out.flatMap acC ++ (acC ac) := hfl
        exact ⟨⟨j + 1, out2, by omega, by omega, hk3, kS, kS, kS, .inr ⟨hne3, β, true, by rw [hol]; (simp (disch := omega) [go_sem, *]) <;> (try omega), by rw [hfl]; exact xb.2.2.2.1 _ _⟩⟩, kS⟩
    · have he' : (ac.ev.kind == 2) = false := by simpa using he
      obtain ⟨out2, ho2⟩ : ∃ o, out ++ [ac] = o := ⟨_, rfl⟩
      have hol3 := (show ∀ b : Ac, (out ++ [b]).length = out.length + 1 from hol) ac
      have hfl : (out ++ [ac]).flatMap acC = out.flatMap acC ++ (acC ac) := by rw [List.flatMap_append, List.flatMap_singleton]
      have hk3 := (show ∀ b : Ac, AcN b → ∀ x ∈ out ++ [b], AcN x from hk2) ac hN
      have hne3 := (show ∀ b : Ac, out ++ [b] ≠ [] from hne2) ac
      rw [ho2] at hol3 hfl hk3 hne3
      replace hol3 : Hid _ := hol3
      replace hfl : Hid _ := hfl
      replace hk3 : Hid _ := hk3
      replace hne3 : Hid _ := hne3
      clear ho2 hol hk2 hne2
      rcases hr with ⟨rfl, f5⟩ | ⟨hne, β, mm, f5, hB⟩
      · refine w_ME00 ?_ 
        have hol : out2.length = 0 + 1 := hol3
        have hfl : out2.flatMap acC = (acC ac) := hfl
        exact ⟨⟨j + 1, out2, by omega, by omega, hk3, kS, kS, kS, .inr ⟨hne3, B.length + 1, _, by rw [hol]; (simp (disch := omega) [go_sem, *]) <;> (try omega), by rw [hfl]; (simp (disch := omega) [go_sem, *, bx_get0, bx_get, bx_set0, bx_set]) <;> (try omega)⟩⟩, kS⟩
      · have xb := bx_pack hB
        have hon : out.length ≤ 16 := by omega
        have hbn : (out.length + 1) * Tryz.prog.bytesOf 47 ≤ 140737488355328 := by
          have : Tryz.prog.bytesOf 47 ≤ 1000 := by decide +kernel
          have : (out.length + 1) * Tryz.prog.bytesOf 47 ≤ 17 * 1000 := Nat.mul_le_mul (by omega) this
          omega
        have hbn2 : (out.length + 1) * 168 ≤ 140737488355328 := by omega
        refine w_ME00 ?_ 
        have hol : out2.length = out.length + 1 := hol3
        have hfl : out2.flatMap acC = out.flatMap acC ++ (acC ac) := hfl
        exact ⟨⟨j + 1, out2, by omega, by omega, hk3, kS, kS, kS, .inr ⟨hne3, β, true, by rw [hol]; (simp (disch := omega) [go_sem, *]) <;> (try omega), by rw [hfl]; exact xb.2.2.2.1 _ _⟩⟩, kS⟩
    · have hp' : (ac.ev.port == 0) = false := by simpa using (by omega : ac.ev.port ≠ 0)
      have hp'' : ¬ 65535 < ac.ev.port := by omega
      obtain ⟨out2, ho2⟩ : ∃ o, out ++ [ac] = o := ⟨_, rfl⟩
      have hol3 := (show ∀ b : Ac, (out ++ [b]).length = out.length + 1 from hol) ac
      have hfl : (out ++ [ac]).flatMap acC = out.flatMap acC ++ (acC ac) := by rw [List.flatMap_append, List.flatMap_singleton]
      have hk3 := (show ∀ b : Ac, AcN b → ∀ x ∈ out ++ [b], AcN x from hk2) ac hN
      have hne3 := (show ∀ b : Ac, out ++ [b] ≠ [] from hne2) ac
      rw [ho2] at hol3 hfl hk3 hne3
      replace hol3 : Hid _ := hol3
      replace hfl : Hid _ := hfl
      replace hk3 : Hid _ := hk3
      replace hne3 : Hid _ := hne3
      clear ho2 hol hk2 hne2
      rcases hr with ⟨rfl, f5⟩ | ⟨hne, β, mm, f5, hB⟩
      · refine w_ME00 ?_ 
        have hol : out2.length = 0 + 1 := hol3
        have hfl : out2.flatMap acC = (acC ac) := hfl
        exact ⟨⟨j + 1, out2, by omega, by omega, hk3, kS, kS, kS, .inr ⟨hne3, B.length + 1, _, by rw [hol]; (simp (disch := omega) [go_sem, *]) <;> (try omega), by rw [hfl]; (simp (disch := omega) [go_sem, *, bx_get0, bx_get, bx_set0, bx_set]) <;> (try omega)⟩⟩, kS⟩
      · have xb := bx_pack hB
        have hon : out.length ≤ 16 := by omega
        have hbn : (out.length + 1) * Tryz.prog.bytesOf 47 ≤ 140737488355328 := by
          have : Tryz.prog.bytesOf 47 ≤ 1000 := by decide +kernel
          have : (out.length + 1) * Tryz.prog.bytesOf 47 ≤ 17 * 1000 := Nat.mul_le_mul (by omega) this
          omega
        have hbn2 : (out.length + 1) * 168 ≤ 140737488355328 := by omega
        refine w_ME00 ?_ 
        have hol : out2.length = out.length + 1 := hol3
        have hfl : out2.flatMap acC = out.flatMap acC ++ (acC ac) := hfl
        exact ⟨⟨j + 1, out2, by omega, by omega, hk3, kS, kS, kS, .inr ⟨hne3, β, true, by rw [hol]; (simp (disch := omega) [go_sem, *]) <;> (try omega), by rw [hfl]; exact xb.2.2.2.1 _ _⟩⟩, kS⟩
  · replace hN : Hid _ := hN
    obtain ⟨ac2, hac2⟩ : ∃ a2 : Ac, { ac with ev := { ac.ev with time := 0 } } = a2 := ⟨_, rfl⟩
    rw [hac2] at hN hXs
    obtain ⟨Z, hZ⟩ : ∃ Z, acC ac2 = Z := ⟨_, rfl⟩
    rw [hZ] at hXs
    have hZl : Z.length = 60 := by rw [← hXs]; simp; omega
    have hZt : Z.take 60 = Z := List.take_of_length_le (by omega)
    have he' : (ac.ev.kind == 2) = false := by rw [he]; rfl
    have hN : Hid (AcN ac2) := hN
    replace hZ : Hid (acC ac2 = Z) := hZ
    obtain ⟨out2, ho2⟩ : ∃ o, out ++ [ac2] = o := ⟨_, rfl⟩
    have hol3 := (show ∀ b : Ac, (out ++ [b]).length = out.length + 1 from hol) ac2
    have hfl : (out ++ [ac2]).flatMap acC = out.flatMap acC ++ Z := by rw [List.flatMap_append, List.flatMap_singleton, show acC ac2 = Z from hZ]
    have hk3 := (show ∀ b : Ac, AcN b → ∀ x ∈ out ++ [b], AcN x from hk2) ac2 hN
    have hne3 := (show ∀ b : Ac, out ++ [b] ≠ [] from hne2) ac2
    rw [ho2] at hol3 hfl hk3 hne3
    replace hol3 : Hid _ := hol3
    replace hfl : Hid _ := hfl
    replace hk3 : Hid _ := hk3
    replace hne3 : Hid _ := hne3
    clear ho2 hol hk2 hne2
    rcases hr with ⟨rfl, f5⟩ | ⟨hne, β, mm, f5, hB⟩
    · refine w_ME00 ?_ 
      have hol : out2.length = 0 + 1 := hol3
      have hfl : out2.flatMap acC = Z := hfl
      exact ⟨⟨j + 1, out2, by omega, by omega, hk3, kS, kS, kS, .inr ⟨hne3, B.length + 1, _, by rw [hol]; (simp (disch := omega) [go_sem, *]) <;> (try omega), by rw [hfl]; (simp (disch := omega) [go_sem, *, bx_get0, bx_get, bx_set0, bx_set]) <;> (try omega)⟩⟩, kS⟩
    · have xb := bx_pack hB
      have hon : out.length ≤ 16 := by omega
      have hbn : (out.length + 1) * Tryz.prog.bytesOf 47 ≤ 140737488355328 := by
        have : Tryz.prog.bytesOf 47 ≤ 1000 := by decide +kernel
        have : (out.length + 1) * Tryz.prog.bytesOf 47 ≤ 17 * 1000 := Nat.mul_le_mul (by omega) this
        omega
      have hbn2 : (out.length + 1) * 168 ≤ 140737488355328 := by omega
      refine w_ME00 ?_ 
      have hol : out2.length = out.length + 1 := hol3
      have hfl : out2.flatMap acC = out.flatMap acC ++ Z := hfl
      exact ⟨⟨j + 1, out2, by omega, by omega, hk3, kS, kS, kS, .inr ⟨hne3, β, true, by rw [hol]; (simp (disch := omega) [go_sem, *]) <;> (try omega), by rw [hfl]; exact xb.2.2.2.1 _ _⟩⟩, kS⟩
end Go.Proofs.YtcbdghgogmcllaaGreatDoor
end
section
namespace Go.Proofs.YtcbdghgogmcllaaGreatDoor
open Go Go.Sy
theorem kE_SQ0 {α : Type} {x y : α} (h : Is x y := by first | ((try simp (disch := first | omega | (simp only [yZ, yB] <;> omega) | fail) [go_sem, yY, *, bx_get0, bx_get, bx_set0, bx_set, if_pos, if_neg, -List.map_take, -List.map_drop, -List.map_append, -List.map_reverse]); exact rfl) | fail) : Is x y := h
theorem kD_SQ0 {p : Prop} (h : p := by (first | omega | assumption | exact rfl | ((simp (disch := first | omega | (simp only [yZ, yB] <;> omega) | fail) [go_sem, yY, *, bx_get0, bx_get, bx_set0, bx_set, -List.map_take, -List.map_drop, -List.map_append, -List.map_reverse]) <;> (first | done | omega | exact rfl)) | fail)) : p := h
theorem wB_SQ0 {p q : Prop} (k : q) (h : Hq q → p := by (intro k; (repeat' (first | (with_reducible first | apply jA | apply jB | apply jC | apply jD | apply jE | apply jF | apply jG | apply jH | apply jI | apply jJ | apply jK | apply jL | apply jM | apply jN | apply jO) | ((with_reducible first | apply jP | apply jQ); rfl) | ((first | ((with_reducible first | apply jR | apply jS | apply jT); rfl; rfl) | (with_reducible first | apply jU | apply jV | apply jW) | ((with_reducible first | apply jX | apply jY | apply jZ); rfl) | ((with_reducible first | apply kA | apply kB | apply kC); rfl)); all_goals (first | ((with_reducible show Is _ _); exact kE_SQ0) | ((with_reducible refine fun (hc : (_ : Bool) = _) => ?_); (try simp only [xZ, xY, xP, reduceCtorEq] at hc); (try (have hx : True := hc; clear hx hc)); (try exact kX)) | ((with_reducible show ACall _ _ _ _ _); (first | ((with_reducible apply c0) <;> exact kD_SQ0) | ((with_reducible apply c1) <;> exact kD_SQ0) | ((with_reducible apply c2) <;> exact kD_SQ0) | ((with_reducible apply c3) <;> exact kD_SQ0) | ((with_reducible apply c4) <;> exact kD_SQ0) | ((with_reducible apply c5) <;> exact kD_SQ0) | ((with_reducible apply c6) <;> exact kD_SQ0) | ((with_reducible apply c7) <;> exact kD_SQ0))) | ((fail_if_success (with_reducible first | show Is _ _ | show ACall _ _ _ _ _)); (try ((with_reducible show _ ∨ _); exact kT))))) | (((with_reducible first | apply o_callQ | apply q_callQ); rfl); (iterate 2 exact kE_SQ0); (first | ((with_reducible apply q0) <;> exact kD_SQ0))))); exact hq k)) : p := h ⟨k⟩
theorem w_SQ02 {A0 A1 p q : Prop} (c0 : A0) (c1 : A1) (k : q) (h : A0 → A1 → Hq q → p := by (intro c0 c1 k; exact wB_SQ0 (hq k))) : p := h c0 c1 ⟨k⟩
theorem parS_nil (k : Nat) (out : List Ac) : parL pfS (splitL 10 []) k out = if 400 < out.length then ([], 0, 12) else (out, 0, 0) := by
  rw [splitL, parL, if_pos rfl]
theorem parS_miss {r : List UInt8} (k : Nat) (out : List Ac) (hr : r ≠ []) (h : Go.Lib.indexByte r 10 < 0) : parL pfS (splitL 10 r) k out = ([], (k : Int), 5) := by
  have := Go.Lib.indexByte_ge r 10
  rw [splitL_miss 10 r (by rw [Go.Lib.index_one]; omega), parL, if_neg hr]
theorem indexB_len {r : List UInt8} {i : Nat} (h : Go.Lib.indexByte r 10 = i) : i < r.length ∧ r[i]? = some 10 := by
  have := (Go.Lib.indexByte_some h).1
  exact ⟨(List.getElem?_eq_some_iff.1 this).1, this⟩
theorem parS_hit {r : List UInt8} {i : Nat} (k : Nat) (out : List Ac) (h : Go.Lib.indexByte r 10 = i) : parL pfS (splitL 10 r) k out = if (parseS (r.take (i + 1))).2 then parL pfS (splitL 10 (r.drop (i + 1))) (k + 1) (out ++ [(parseS (r.take (i + 1))).1]) else ([], (k : Int), 5) := by
  obtain ⟨h1, h2⟩ := indexB_len h
  have e : r.take i ++ [10] = r.take (i + 1) := by
    rw [List.take_succ_eq_append_getElem h1]
    rw [List.getElem?_eq_getElem h1] at h2
    rw [Option.some.inj h2]
  obtain ⟨y, t, hy⟩ := List.exists_cons_of_ne_nil (splitL_ne 10 (r.drop (i + 1)))
  rw [splitL_hit 10 r i (by rw [Go.Lib.index_one, h]), hy, parL, pfS, e]
theorem sParse_in (s : List UInt8) (hs : s.length < 1000000) : PC Tryz.prog false 9 [.str s] (parC (parV s)) := by
  have hp0 : parL pfS (splitL 10 s) 1 [] = parV s := rfl
  generalize parV s = V at *
  refine acall_intro mixed Tryz.func9 rfl ca9 (by kernel_rfl) (by rw [Tryz.ntmps9]; simp) ?_
  refine w0 ?_ 
  refine w_loop (fun fr B => ∃ (k : Nat) (r : List UInt8) (out : List Ac), parL pfS (splitL 10 r) k out = V ∧ r.length + k ≤ s.length + 1 ∧ out.length + 1 = k ∧ (∀ a ∈ out, AcK a) ∧ fr 0 = .str r ∧ fr 6 = .int .i64 k ∧ RowsA out (fr 5) B) (fun fr _ => match fr 0 with | .str r => r.length | _ => 0) ?_ ?_
  · exact ⟨1, s, [], hp0, by omega, rfl, by simp, kS, kS, .inl ⟨rfl, kS⟩⟩
  clear hp0
  rintro fr B ⟨k, r, out, hp, hk, ho, hka, f0, f6, hr⟩
  by_cases hr0 : r = []
  · subst hr0
    rw [parS_nil] at hp
    subst hp
    rcases hr with ⟨rfl, f5⟩ | ⟨hone, β, mm, f5, hB⟩
    · clear hka
      refine w0 ?_ 
      rfl
    · have hrl := rows_len hka
      have htk : (out.flatMap acC).take (out.length * 60) = out.flatMap acC := List.take_of_length_le (by omega)
      have hoo : ∀ {B : List Box} {k : Nat}, omap (Go.Sy.fz true false B (k + 3)) (out.flatMap acC) = some (out.flatMap acC) := acs_om out
      have hob : out.length < 1000001 := by omega
      obtain ⟨m, hom⟩ : ∃ m, out.length = m := ⟨_, rfl⟩
      rw [hom] at f5 htk hob ⊢
      clear hrl hka hone
      by_cases h400 : 400 < m
      · have h400' : (400 : Int) < m := by omega
        rw [if_pos h400]
        clear hB htk hoo
        refine w0 ?_ 
        rfl
      · have h400' : ¬ (400 : Int) < m := by omega
        rw [if_neg h400]
        refine w0 ?_ 
        simp only [parC]
        rw [hom]
        simp [go_sem, hB, htk, hoo]
  have hrl : 0 < r.length := List.length_pos_iff.2 hr0
  have hrl' : (0 : Int) < r.length := by omega
  have hix : ∀ {B : List Box} {args : List CV}, Is args [.str r, .str [10]] → ACall Tryz.prog 22 args B fun c B' => c = .int .i64 (Go.Lib.indexByte r 10) ∧ B' = B := fun h => index_at.eq h
  have hge := Go.Lib.indexByte_ge r 10
  by_cases hmiss : Go.Lib.indexByte r 10 < 0
  · rw [parS_miss k out hr0 hmiss] at hp
    subst hp
    have e : Go.Lib.indexByte r 10 = -1 := by omega
    rw [e] at hix
    clear hge hmiss e hr hka
    refine w1 @hix ?_ 
    rfl
  obtain ⟨i, hi⟩ : ∃ i : Nat, Go.Lib.indexByte r 10 = i := ⟨(Go.Lib.indexByte r 10).toNat, by omega⟩
  rw [parS_hit k out hi] at hp
  have hil := (indexB_len hi).1
  rw [hi] at hix
  clear hge hmiss hi
  have hpl : (r.take (i + 1)).length < 1000000 := by rw [List.length_take]; omega
  have hps : ∀ {B : List Box} {args : List CV}, Is args [.str (r.take (i + 1))] → ACall Tryz.prog 23 args B fun c B' => c = .tup [.agg (acC (parseS (r.take (i + 1))).1), .bool (parseS (r.take (i + 1))).2] ∧ B' = B := fun hz => parseS_at hz hpl
  have hpL : AcL (parseS (r.take (i + 1))).1 := parseS_L hpl
  have hK : AcK (parseS (r.take (i + 1))).1 := ⟨hpL.ev.ip, hpL.key⟩
  have hzl := acK_len hK
  have hzo : ∀ {nz : Bool} {B : List Box} {k : Nat}, omap (Go.Sy.fz nz false B (k + 3)) (acC (parseS (r.take (i + 1))).1) = some (acC (parseS (r.take (i + 1))).1) := acC_om
  have hzt : (acC (parseS (r.take (i + 1))).1).take 60 = acC (parseS (r.take (i + 1))).1 := List.take_of_length_le (by omega)
  clear hpL
  have hrd : (r.drop (i + 1)).length = r.length - (i + 1) := List.length_drop
  cases hok : (parseS (r.take (i + 1))).2 with
  | false =>
    rw [hok] at hp hps
    simp only [Bool.false_eq_true, if_false] at hp
    subst hp
    clear hok hr hK hka
    generalize acC (parseS (r.take (i + 1))).1 = Z at *
    have hil2 : (i : Int) + 1 ≤ r.length := by omega
    have hi0 : ¬ ((i : Int) + 1 = 0) := by omega
    refine w_SQ02 @hix @hps ?_ 
    rfl
  | true =>
    rw [hok] at hp hps
    rw [if_pos rfl] at hp
    have hk2 : ∀ a ∈ out ++ [(parseS (r.take (i + 1))).1], AcK a := fun a ha => by
      rcases List.mem_append.1 ha with h | h
      · exact hka a h
      · rw [List.mem_singleton] at h; subst h; exact hK
    have hfl : (out ++ [(parseS (r.take (i + 1))).1]).flatMap acC = out.flatMap acC ++ acC (parseS (r.take (i + 1))).1 := by rw [List.flatMap_append, List.flatMap_singleton]
    have hol : (out ++ [(parseS (r.take (i + 1))).1]).length = k := by rw [List.length_append, ← ho]; rfl
    have hrw := rows_len hka
    generalize (parseS (r.take (i + 1))).1 = b at *
    have hone2 : out ++ [b] ≠ [] := by simp
    obtain ⟨out2, ho2⟩ : ∃ out2, out ++ [b] = out2 := ⟨_, rfl⟩
    rw [ho2] at hk2 hfl hol hp hone2
    generalize acC b = X at *
    generalize hDD : out.flatMap acC = D at *
    replace hk2 : Hid _ := hk2
    replace hfl : Hid _ := hfl
    replace hol : Hid _ := hol
    replace hp : Hid _ := hp
    replace hone2 : Hid _ := hone2
    have hil2 : (i : Int) + 1 ≤ r.length := by omega
    have hi0 : ¬ ((i : Int) + 1 = 0) := by omega
    clear hok hK hka ho2
    rcases hr with ⟨rfl, f5⟩ | ⟨hone, β, mm, f5, hB⟩
    · refine w_SQ02 @hix @hps ?_ 
      have hol : out2.length = 1 := by have := (show out2.length = k from hol); rw [this, ← ho]; rfl
      have hD : D = [] := List.eq_nil_of_length_eq_zero (by simpa using hrw)
      have hfl : out2.flatMap acC = D ++ X := hfl
      rw [hD] at hfl
      have hk1 : k = 1 := by rw [← ho]; rfl
      subst hk1
      have hp : parL pfS (splitL 10 (r.drop (i + 1))) 2 out2 = V := hp
      exact ⟨⟨2, r.drop (i + 1), out2, hp, by omega, by omega, hk2, kS, kS, .inr ⟨hone2, B.length + 1, false, by rw [hol]; (simp (disch := omega) [go_sem, *]) <;> (try omega), by rw [hfl]; (simp (disch := omega) [go_sem, *, bx_get0, bx_get, bx_set0, bx_set]) <;> (try omega)⟩⟩, by show (r.drop (i + 1)).length < _; rw [f0]; show _ < r.length; omega⟩
    · have xb := bx_pack hB
      refine w_SQ02 @hix @hps ?_ 
      have hol : out2.length = out.length + 1 := by have := (show out2.length = k from hol); omega
      have hfl : out2.flatMap acC = D ++ X := hfl
      have hp : parL pfS (splitL 10 (r.drop (i + 1))) (k + 1) out2 = V := hp
      exact ⟨⟨k + 1, r.drop (i + 1), out2, hp, by omega, by omega, hk2, kS, kS, .inr ⟨hone2, β, true, by rw [hol]; (simp (disch := omega) [go_sem, *]) <;> (try omega), by rw [hfl]; exact xb.2.2.2.1 _ _⟩⟩, by show (r.drop (i + 1)).length < _; rw [f0]; show _ < r.length; omega⟩
end Go.Proofs.YtcbdghgogmcllaaGreatDoor
end
section
namespace Go.Proofs.YtcbdghgogmcllaaGreatDoor
open Go Go.Sy
theorem sameAll_in (a b : List Ac) (ha : ∀ x ∈ a, AcL x) (hb : ∀ x ∈ b, AcL x) (la : a.length < 1000000) (lb' : b.length < 1000000) {t : Bool} (ht : t = true ↔ a = b) : PC Tryz.prog true 11 [.lst a.length (a.flatMap acC) false, .lst b.length (b.flatMap acC) false] (.bool t) := by
  have hca : Cells acC 60 (a.flatMap acC) a := cells_all fun x hx => acC_len (ha x hx)
  have hcb : Cells acC 60 (b.flatMap acC) b := cells_all fun x hx => acC_len (hb x hx)
  generalize a.flatMap acC = Y at *
  generalize b.flatMap acC = Z at *
  refine acall_intro mixed Tryz.func11 rfl ca11 (by kernel_rfl) (by rw [Tryz.ntmps11]; simp) ?_
  by_cases hl : a.length = b.length
  rotate_left
  · have e : t = false := by
      rw [Bool.eq_false_iff]; intro h; exact hl (by rw [ht.1 h])
    subst e
    clear ht
    have h1 : ((a.length : Int) != b.length) = true := by simpa using (by omega : (a.length : Int) ≠ b.length)
    clear hca hcb ha hb
    refine w0 ?_ 
    rfl
  obtain ⟨n, hn⟩ : ∃ n, a.length = n := ⟨_, rfl⟩
  have hbn : b.length = n := by omega
  rw [hn, hbn]
  have hnl : n < 1000000 := by omega
  have ht' : Hid (t = true ↔ a = b) := ht
  clear ht hl
  replace hn : Hid _ := hn
  replace hbn : Hid _ := hbn
  clear la lb'
  replace hca : Hid _ := hca
  replace hcb : Hid _ := hcb
  refine w0 ?_ 
  refine w_loop (fun fr B => ∃ j, j ≤ n ∧ a.take j = b.take j ∧ fr 13 = .int .i64 j ∧ fr 12 = .int .i64 n ∧ fr 0 = .lst n Y false ∧ fr 1 = .lst n Z false) (fun fr _ => n - natOf (fr 13)) ?_ ?_
  · exact ⟨0, by omega, by simp, kS, kS, kS, kS⟩
  rintro fr B ⟨j, hj, he, f13, f12, f0, f1⟩
  have hm : natOf (fr 13) = j := by rw [f13]; rfl
  have hn : a.length = n := hn
  have hbn : b.length = n := hbn
  have ht : t = true ↔ a = b := ht'
  by_cases hc : j < n
  · have hja : j < a.length := by omega
    have hjb : j < b.length := by omega
    have g1 := (show Cells acC 60 Y a from hca) j hja
    have g2 := (show Cells acC 60 Z b from hcb) j hjb
    have hA := ha a[j] (List.getElem_mem hja)
    have hB := hb b[j] (List.getElem_mem hjb)
    have hsm : ∀ {B : List Box} {args : List CV}, Is (omap (fz true false B 6) args) (some [.agg (acC a[j]), .agg (acC b[j])]) → ACall Tryz.prog 18 args B fun c B' => c = .bool (sameA a[j] b[j]) ∧ B' = B := fun hz => rsame_at hz hA hB rfl
    have hoa : ∀ {nz : Bool} {B : List Box} {k : Nat}, omap (Go.Sy.fz nz false B (k + 3)) (acC a[j]) = some (acC a[j]) := acC_om
    have hob : ∀ {nz : Bool} {B : List Box} {k : Nat}, omap (Go.Sy.fz nz false B (k + 3)) (acC b[j]) = some (acC b[j]) := acC_om
    have hla := acC_len hA
    have hlb := acC_len hB
    have hta : (acC a[j]).take 60 = acC a[j] := List.take_of_length_le (by omega)
    have htb : (acC b[j]).take 60 = acC b[j] := List.take_of_length_le (by omega)
    have h1 : sameA a[j] b[j] = true → a.take (j + 1) = b.take (j + 1) := fun h => by
      rw [List.take_succ_eq_append_getElem hja, List.take_succ_eq_append_getElem hjb, he, sameA_iff.1 h]
    have h2 : sameA a[j] b[j] = false → t = false := fun h => by
      rw [Bool.eq_false_iff]
      intro h3
      have h4 := ht.1 h3
      subst h4
      rw [sameA_iff.2 rfl] at h
      cases h
    clear hca hcb hA hB ha hb ht ht' he
    generalize acC a[j] = X1 at *
    generalize acC b[j] = X2 at *
    generalize sameA a[j] b[j] = u at *
    obtain ⟨g1a, g1b⟩ := g1
    obtain ⟨g2a, g2b⟩ := g2
    have hyl : j * 60 + 60 ≤ Y.length := by omega
    have hzl : j * 60 + 60 ≤ Z.length := by omega
    cases u with
    | true =>
      have h1' : Hid _ := h1 rfl
      clear h1 h2
      refine w1 @hsm ?_ 
      exact ⟨⟨j + 1, by omega, h1', kS, kS, kS, kS⟩, kS⟩
    | false =>
      have e := h2 rfl
      subst e
      clear h1 h2
      refine w1 @hsm ?_ 
      rfl
  · obtain rfl : j = n := by omega
    have e : t = true := by
      refine ht.2 ?_
      rw [← hn, List.take_length, hn, ← hbn, List.take_length] at he
      exact he
    subst e
    clear ht ht' ha hb hca hcb he
    refine w0 ?_ 
    rfl
theorem sameAll_at {B : List Box} {args : List CV} {a b : List Ac} {n m : Nat} {t : Bool} (hz : Is (omap (fz true false B 6) args) (some [.lst n (a.flatMap acC) false, .lst m (b.flatMap acC) false])) (hn : n = a.length) (hm : m = b.length) (ha : ∀ x ∈ a, AcL x) (hb : ∀ x ∈ b, AcL x) (la : a.length < 1000000) (lb' : b.length < 1000000) (ht : t = true ↔ a = b) : ACall Tryz.prog 11 args B fun c B' => c = .bool t ∧ B' = B := by
  subst hn hm
  exact acall_fresh hz (sameAll_in a b ha hb la lb' ht)
end Go.Proofs.YtcbdghgogmcllaaGreatDoor
end
section
namespace Go.Proofs.YtcbdghgogmcllaaGreatDoor
open Go Go.Sy
def sPick : List UInt8 := [112, 105, 99, 107, 32, 48, 32, 53, 49, 50, 10]
def sTick : List UInt8 := [112, 105, 99, 107, 32, 48, 32, 53, 49, 50, 10, 116, 105, 99, 107, 32, 48, 48, 55, 10]
theorem num_512 : numR [53, 49, 50] = (512, true) := by decide +kernel
theorem num_007 : numR [48, 48, 55] = (0, false) := by decide +kernel
theorem line_pick : lineR [112, 105, 99, 107, 32, 48, 32, 53, 49, 50] = ({ act0 with kind := 3, who := 0, n := (numR [53, 49, 50]).1 }, (numR [53, 49, 50]).2) := rfl
theorem line_tick : lineR [116, 105, 99, 107, 32, 48, 48, 55] = (evA { ev0 with kind := 3, time := (numR [48, 48, 55]).1 }, (numR [48, 48, 55]).2) := rfl
theorem par_pick : parV sPick = ([{ act0 with kind := 3, who := 0, n := 512 }], 0, 0) := by
  have e : splitL 10 sPick = [[112, 105, 99, 107, 32, 48, 32, 53, 49, 50], []] := by decide +kernel
  rw [par_eq, parR, e, parL, line_pick, num_512]
  rfl
theorem par_tick : parV sTick = ([], 2, 5) := by
  have e : splitL 10 sTick = [[112, 105, 99, 107, 32, 48, 32, 53, 49, 50], [116, 105, 99, 107, 32, 48, 48, 55], []] := by decide +kernel
  rw [par_eq, parR, e, parL, line_pick, num_512]
  show parL lineR [[116, 105, 99, 107, 32, 48, 48, 55], []] 2 [{ act0 with kind := 3, who := 0, n := 512 }] = _
  rw [parL, line_tick, num_007]
  rfl
theorem sParse_at {B : List Box} {args : List CV} {s : List UInt8} (hz : Is args [.str s]) (hs : s.length < 1000000) : ACall Tryz.prog 9 args B fun c B' => c = parC (parV s) ∧ B' = B := by
  obtain rfl := hz
  exact acall_imm (nz := true) (by simp [go_sem]) (sParse_in s hs)
theorem begun_in : PC Tryz.prog true 12 [] (.bool true) := by
  have h1 : ∀ {B : List Box} {args : List CV}, Is args [.str sPick] → ACall Tryz.prog 9 args B fun c B' => c = parC ([{ act0 with kind := 3, who := 0, n := 512 }], 0, 0) ∧ B' = B := fun {B args} h => by
    have := sParse_at (B := B) h (by decide)
    rw [par_pick] at this
    exact this
  have h2 : ∀ {B : List Box} {args : List CV}, Is args [.str sTick] → ACall Tryz.prog 9 args B fun c B' => c = parC ([], 2, 5) ∧ B' = B := fun {B args} h => by
    have := sParse_at (B := B) h (by decide)
    rw [par_tick] at this
    exact this
  simp only [parC, sPick, sTick] at h1 h2
  have e : ([{ act0 with kind := 3, who := 0, n := 512 }] : List Ac).flatMap acC = .int .i64 3 :: ((zE.set 19 (.lst 0 [] false)) ++ (.int .i64 0 :: .int .i64 512 :: .int .u8 0 :: .int .i64 0 :: .int .i64 0 :: z32.map byteC)) := rfl
  rw [e] at h1
  have hl : ((zE.set 19 (.lst 0 [] false)) ++ (.int .i64 0 :: .int .i64 512 :: .int .u8 0 :: .int .i64 0 :: .int .i64 0 :: z32.map byteC)).length = 59 := rfl
  have hd : ((zE.set 19 (.lst 0 [] false)) ++ (.int .i64 0 :: .int .i64 512 :: .int .u8 0 :: .int .i64 0 :: .int .i64 0 :: z32.map byteC)).drop 23 = .int .i64 512 :: (.int .u8 0 :: .int .i64 0 :: .int .i64 0 :: z32.map byteC) := rfl
  have hd2 : ((zE.set 19 (.lst 0 [] false)) ++ (.int .i64 0 :: .int .i64 512 :: .int .u8 0 :: .int .i64 0 :: .int .i64 0 :: z32.map byteC))[23]? = some (.int .i64 512) := rfl
  generalize (zE.set 19 (.lst 0 [] false)) ++ (.int .i64 0 :: .int .i64 512 :: .int .u8 0 :: .int .i64 0 :: .int .i64 0 :: z32.map byteC) = Z at *
  refine acall_intro mixed Tryz.func12 rfl ca12 (by kernel_rfl) (by rw [Tryz.ntmps12]; simp) ?_
  refine w2 @h1 @h2 ?_ 
  rfl
theorem begun_at {B : List Box} {args : List CV} (hz : Is (omap (fz true false B 6) args) (some [])) : ACall Tryz.prog 12 args B fun c B' => c = .bool true ∧ B' = B := acall_fresh hz begun_in
end Go.Proofs.YtcbdghgogmcllaaGreatDoor
end
section
namespace Go.Proofs.YtcbdghgogmcllaaGreatDoor
open Go Go.Sy
structure AcW (a : Ac) : Prop where
  ip : a.ev.ip.length = 16
  key : a.key.length = 32
  bytes : a.ev.bytes.length ≤ maxLen
  text : a.ev.text.length ≤ maxLen
  ek : i64 a.ev.kind
  po : i64 a.ev.port
  ti : i64 a.ev.time
  kind : i64 a.kind
  who : i64 a.who
  n : i64 a.n
  lo : i64 a.lo
  hi : i64 a.hi
end Go.Proofs.YtcbdghgogmcllaaGreatDoor
end
section
namespace Go.Sy
end Go.Sy
namespace Go.Proofs.YtcbdghgogmcllaaGreatDoor
open Go Go.Sy
structure Turn (a b : Ac) (k : Nat) (v : CV) : Prop where
  cells : acC b = (acC a).take k ++ v :: (acC a).drop (k + 1)
  s : AcS b
end Go.Proofs.YtcbdghgogmcllaaGreatDoor
end
section
namespace Go.Proofs.YtcbdghgogmcllaaGreatDoor
open Go Go.Sy
theorem norm_i64 {a : Ac} (hn : Norm a) : i64 a.ev.kind ∧ i64 a.ev.port ∧ i64 a.ev.time ∧ i64 a.kind ∧ i64 a.who ∧ i64 a.n ∧ i64 a.lo ∧ i64 a.hi ∧ a.ev.ip.length = 16 ∧ a.key.length = 32 := by
  cases hn
  case dgram hA _ _ _ => exact ⟨i64_2, i64_of (by simp only [evA]; omega) (by simp only [evA]; omega), i64_zero, i64_1, i64_zero, i64_zero, i64_zero, i64_zero, hA, rfl⟩
  case handoff lo hi k l0 l1 h0 h1 hk => exact ⟨i64_zero, i64_zero, i64_zero, i64_2, i64_zero, i64_zero, i64_of (n := lo) (by omega) (by omega), i64_of (n := hi) (by omega) (by omega), rfl, hk⟩
  all_goals
    refine ⟨?_, ?_, ?_, ?_, ?_, ?_, ?_, ?_, rfl, rfl⟩
    all_goals (first | exact i64_zero | exact i64_1 | exact i64_2 | exact i64_3 | exact i64_4 | exact i64_5 | exact i64_6 | exact i64_7 | exact i64_of (by simp only [evA]; omega) (by simp only [evA]; omega))
theorem norm_S {a : Ac} (hn : Norm a) (hb : a.ev.bytes.length < 100000) (ht : a.ev.text.length < 100000) : AcS a := by
  obtain ⟨h1, h2, h3, h4, h5, h6, h7, h8, h9, h10⟩ := norm_i64 hn
  exact ⟨⟨⟨h9, h1, h2, h3, by omega, by omega⟩, h4, h5, h6, h7, h8, h10⟩, hb, ht⟩
theorem hexW_ge (l : List UInt8) : l.length ≤ (hexW l).length := by
  unfold hexW
  split
  · rename_i h; subst h; simp
  · rw [hexS_len]; omega
theorem norm_line_ge {a : Ac} (hn : Norm a) : a.ev.bytes.length ≤ (lineS a).length ∧ a.ev.text.length ≤ (lineS a).length := by
  rw [norm_line hn, List.length_append]
  cases hn
  case control t h => exact ⟨Nat.zero_le _, by rw [ctl_text]; simp [evA]; omega⟩
  case plain l => exact ⟨by have := hexW_ge l; rw [(good_plain l).text, join2]; simp [evA]; omega, Nat.zero_le _⟩
  case entropy l => exact ⟨by have := hexW_ge l; rw [(good_entropy l).text, join2]; simp [evA]; omega, Nat.zero_le _⟩
  case dgram six A n l hA ok h1 h2 => exact ⟨by have := hexW_ge l; rw [(good_dgram hA ok h1 h2).text, join3]; simp [evA]; omega, Nat.zero_le _⟩
  all_goals exact ⟨Nat.zero_le _, Nat.zero_le _⟩
theorem norm_nonl {a : Ac} (hn : Norm a) : (10 : UInt8) ∉ textR a := by
  rcases norm_cases hn with ⟨t, ht, rfl⟩ | ⟨w, ws, hg⟩
  · rw [ctl_text]
    intro h
    rcases List.mem_append.1 h with h | h
    · exact absurd h (by decide)
    · have := List.all_eq_true.1 ht 10 h
      revert this
      decide
  · rw [hg.text, Go.Lib.join_cons]
    intro h
    rcases List.mem_append.1 h with h | h
    · exact (hg.nosp w (by simp) 10 h).2 rfl
    · simp only [Go.Lib.joinTail, List.mem_flatten, List.mem_map] at h
      obtain ⟨l, ⟨y, hy, rfl⟩, h⟩ := h
      rcases List.mem_append.1 h with h | h
      · exact absurd h (by decide)
      · exact (hg.nosp y (by simp [hy]) 10 h).2 rfl
theorem catS_cons (a : Ac) (l : List Ac) : catS (a :: l) = lineS a ++ catS l := by simp [catS]
theorem par_back' : ∀ (l : List Ac) (k : Nat) (out : List Ac), (∀ a ∈ l, Norm a) → parL pfS (splitL 10 (catS l)) k out = if 400 < (out ++ l).length then ([], 0, 12) else (out ++ l, 0, 0)
  | [], k, out, _ => by
    have : catS [] = [] := rfl
    rw [this, parS_nil, List.append_nil]
  | a :: l, k, out, h => by
    have ha := h a (by simp)
    have e : catS (a :: l) = textR a ++ 10 :: catS l := by rw [catS_cons, norm_line ha]; simp
    obtain ⟨y, t, hy⟩ := List.exists_cons_of_ne_nil (splitL_ne 10 (catS l))
    rw [e, splitL_app 10 (catS l) _ (norm_nonl ha), hy, parL]
    have hp : pfS (textR a) = (a, true) := by rw [pfS, ← norm_line ha]; exact norm_parse ha
    rw [hp, ← hy]
    simp only [if_true]
    rw [par_back' l (k + 1) (out ++ [a]) fun b hb => h b (by simp [hb])]
    simp
theorem par_back {l : List Ac} (h : ∀ a ∈ l, Norm a) (hl : l.length ≤ 400) : parV (catS l) = (l, 0, 0) := by
  rw [parV, par_back' l 1 [] h, List.nil_append, if_neg (by omega)]
theorem par_got : ∀ (m : Nat) (r : List UInt8) (k : Nat) (out K : List Ac) (n : Int), r.length ≤ m → parL pfS (splitL 10 r) k out = (K, n, 0) → ∃ K', K = out ++ K' ∧ (∀ a ∈ K', Norm a) ∧ r = catS K' ∧ K.length ≤ 400
  | m, r, k, out, K, n, hm, h => by
    by_cases hr : r = []
    · subst hr
      rw [parS_nil] at h
      split at h
      · injection h with _ h; injection h with _ h; cases h
      · injection h with h _
        exact ⟨[], by simp [h], by simp, rfl, by rw [← h]; omega⟩
    · by_cases hmiss : Go.Lib.indexByte r 10 < 0
      · rw [parS_miss k out hr hmiss] at h
        injection h with _ h; injection h with _ h; cases h
      · obtain ⟨i, hi⟩ : ∃ i : Nat, Go.Lib.indexByte r 10 = i := ⟨(Go.Lib.indexByte r 10).toNat, by omega⟩
        have hil := (indexB_len hi).1
        rw [parS_hit k out hi] at h
        split at h
        · rename_i hp
          cases m with
          | zero => omega
          | succ m =>
            obtain ⟨K', e1, e2, e3, e4⟩ := par_got m (r.drop (i + 1)) (k + 1) _ K n (by rw [List.length_drop]; omega) h
            obtain ⟨g1, g2⟩ := parse_norm (Prod.ext rfl hp : parseS (r.take (i + 1)) = ((parseS (r.take (i + 1))).1, true))
            refine ⟨(parseS (r.take (i + 1))).1 :: K', by rw [e1]; simp, fun a ha => ?_, ?_, e4⟩
            · rcases List.mem_cons.1 ha with h | h
              · rw [h]; exact g1
              · exact e2 a h
            · rw [catS_cons, ← g2, ← e3, List.take_append_drop]
        · injection h with _ h; injection h with _ h; cases h
theorem par_ok {s : List UInt8} {K : List Ac} {n : Int} (h : parV s = (K, n, 0)) : (∀ a ∈ K, Norm a) ∧ s = catS K ∧ K.length ≤ 400 := by
  obtain ⟨K', e1, e2, e3, e4⟩ := par_got s.length s 1 [] K n (Nat.le_refl _) h
  rw [List.nil_append] at e1
  subst e1
  exact ⟨e2, e3, e4⟩
theorem fmt_norm {K : List Ac} (h : ∀ a ∈ K, Norm a) (hl : K.length ≤ 400) : fmtV K = (catS K, 0) := by
  rw [fmtV, if_neg (by omega), if_pos (List.all_eq_true.2 fun a ha => good_norm.2 (h a ha))]
theorem catS_ge {K : List Ac} {a : Ac} (h : a ∈ K) : (lineS a).length ≤ (catS K).length := by
  induction K with
  | nil => cases h
  | cons b K ih =>
    rw [catS_cons, List.length_append]
    rcases List.mem_cons.1 h with h | h
    · subst h; omega
    · have := ih h; omega
theorem par_err (pf : List UInt8 → Ac × Bool) : ∀ (L : List (List UInt8)) (k : Nat) (out : List Ac), (parL pf L k out).2.2 = 0 ∨ (parL pf L k out).1 = []
  | [], _, _ => .inr rfl
  | [x], k, out => by
    rw [parL]
    split
    · split
      · exact .inr rfl
      · exact .inl rfl
    · exact .inr rfl
  | x :: y :: r, k, out => by
    rw [parL]
    split
    · exact par_err pf (y :: r) _ _
    · exact .inr rfl
theorem par_S {s : List UInt8} (hs : s.length < 100000) : ∀ a ∈ (parV s).1, AcS a := by
  intro a ha
  by_cases h : (parV s).2.2 = 0
  · obtain ⟨h1, h2, _⟩ := par_ok (Prod.ext rfl (Prod.ext rfl h) : parV s = ((parV s).1, (parV s).2.1, 0))
    have h3 := catS_ge ha
    rw [← h2] at h3
    have h4 := norm_line_ge (h1 a ha)
    exact norm_S (h1 a ha) (by omega) (by omega)
  · rcases par_err pfS (splitL 10 s) 1 [] with h2 | h2
    · exact absurd h2 h
    · rw [show (parV s).1 = [] from h2] at ha; cases ha
theorem par_len (s : List UInt8) : (parV s).1.length ≤ 400 := by
  by_cases h : (parV s).2.2 = 0
  · exact (par_ok (Prod.ext rfl (Prod.ext rfl h) : parV s = ((parV s).1, (parV s).2.1, 0))).2.2
  · rcases par_err pfS (splitL 10 s) 1 [] with h2 | h2
    · exact absurd h2 h
    · rw [show (parV s).1 = [] from h2]; simp
theorem lineG_len {a : Ac} (h : AcN a) : (lineS a).length ≤ 3000 := by
  have h0 := acG_L h.g
  have h1 := itoa_len h0.who
  have h2 := itoa_len h0.n
  have h3 := itoa_len h0.lo
  have h4 := itoa_len h0.hi
  have h5 := itoa_len h0.ev.time
  have h6 : (hexW a.ev.bytes).length ≤ 401 := by
    have := h.g.bytes
    unfold hexW
    split
    · simp
    · rw [hexS_len]; omega
  have h7 := fmtE_len a.ev.six a.ev.ip a.ev.port
  have h8 : (hexS a.key).length = 64 := by rw [hexS_len, h0.key]
  have h9 : (hexS [a.xor]).length = 2 := by rw [hexS_len]; rfl
  have h10 := h.g.text
  unfold lineS
  split
  · simp [wControl]; omega
  split
  · simp
  · have hw : (nameS a).length ≤ 8 := by
      unfold nameS nameE nameK
      repeat' split
      all_goals decide
    unfold wordsS wordsE
    repeat' split
    all_goals (simp [Go.Lib.join_cons, Go.Lib.joinTail]; omega)
theorem catG_len : ∀ {l : List Ac}, (∀ a ∈ l, AcN a) → (catS l).length ≤ l.length * 3000
  | [], _ => by simp [catS]
  | a :: l, h => by
    have h1 := lineG_len (h a (by simp))
    have h2 := catG_len fun b hb => h b (List.mem_cons_of_mem a hb)
    rw [catS_cons, List.length_append, List.length_cons]
    omega
end Go.Proofs.YtcbdghgogmcllaaGreatDoor
end
section
namespace Go.Proofs.YtcbdghgogmcllaaGreatDoor
open Go Go.Sy
theorem kE_L30 {α : Type} {x y : α} (h : Is x y := by first | ((try simp (disch := first | omega | (simp only [yZ, yB] <;> omega) | fail) [go_sem, yY, *, lb, if_pos, if_neg, -List.map_take, -List.map_drop, -List.map_append, -List.map_reverse]); exact rfl) | fail) : Is x y := h
theorem kD_L30 {p : Prop} (h : p := by (first | omega | assumption | exact rfl | ((simp (disch := first | omega | (simp only [yZ, yB] <;> omega) | fail) [go_sem, yY, *, lb, -List.map_take, -List.map_drop, -List.map_append, -List.map_reverse]) <;> (first | done | omega | exact rfl)) | fail)) : p := h
theorem wB_L30 {p q : Prop} (k : q) (h : Hq q → p := by (intro k; (repeat' (first | (with_reducible first | apply jA | apply jB | apply jC | apply jD | apply jE | apply jF | apply jG | apply jH | apply jI | apply jJ | apply jK | apply jL | apply jM | apply jN | apply jO) | ((with_reducible first | apply jP | apply jQ); rfl) | ((first | ((with_reducible first | apply jR | apply jS | apply jT); rfl; rfl) | (with_reducible first | apply jU | apply jV | apply jW) | ((with_reducible first | apply jX | apply jY | apply jZ); rfl) | ((with_reducible first | apply kA | apply kB | apply kC); rfl)); all_goals (first | ((with_reducible show Is _ _); exact kE_L30) | ((with_reducible refine fun (hc : (_ : Bool) = _) => ?_); (try simp only [xZ, xY, xP, reduceCtorEq] at hc); (try (have hx : True := hc; clear hx hc)); (try exact kX)) | ((with_reducible show ACall _ _ _ _ _); (first | ((with_reducible apply c0) <;> exact kD_L30) | ((with_reducible apply c1) <;> exact kD_L30) | ((with_reducible apply c2) <;> exact kD_L30) | ((with_reducible apply c3) <;> exact kD_L30) | ((with_reducible apply c4) <;> exact kD_L30) | ((with_reducible apply c5) <;> exact kD_L30) | ((with_reducible apply c6) <;> exact kD_L30) | ((with_reducible apply c7) <;> exact kD_L30))) | ((fail_if_success (with_reducible first | show Is _ _ | show ACall _ _ _ _ _)); (try ((with_reducible show _ ∨ _); exact kT))))) | (((with_reducible first | apply o_callQ | apply q_callQ); rfl); (iterate 2 exact kE_L30); (first | ((with_reducible apply q0) <;> exact kD_L30))))); exact hq k)) : p := h ⟨k⟩
theorem w_L300q {A0 p q : Prop} (q0 : A0) (k : q) (h : A0 → Hq q → p := by (intro q0 k; exact wB_L30 (hq k))) : p := h q0 ⟨k⟩
theorem ScriptReturns_in (codes : List UInt8) (at_ : Int) (by_ : UInt8) (hcl : codes.length ≤ maxLen) (ha : 0 ≤ at_ ∧ at_ ≤ 65535) : PC Tryz.prog true 5 [lb codes, .int .u16 at_, byteC by_] (.bool true) := by
  have hm' : (maxLen : Nat) = 9223372036854775807 := by rfl
  have hmade : ∀ {B : List Box} {args : List CV}, Is args [.lst codes.length (codes.map byteC) false] → ACall Tryz.prog 7 args B fun c B' => (∃ L : List Ac, L.length ≤ 16 ∧ (∀ x ∈ L, AcN x) ∧ c = .lst L.length (L.flatMap acC) false) ∧ B' = B := fun {B args} h => made_at codes (by omega) h
  have hbg : ∀ {B : List Box} {args : List CV}, Is (omap (fz true false B 6) args) (some []) → ACall Tryz.prog 12 args B fun c B' => c = .bool true ∧ B' = B := fun h => begun_at h
  obtain ⟨ha0, ha1⟩ := ha
  refine acall_intro mixed Tryz.func5 rfl ca5 (by kernel_rfl) (by rw [Tryz.ntmps5]; simp) ?_
  refine w_cut (fun fr W => fr 0 = lb codes ∧ fr 1 = .int .u16 at_ ∧ fr 2 = byteC by_ ∧ W = []) ?_ ?_
  · refine w0 ?_ 
    exact ⟨kS, kS, kS, rfl⟩
  rintro fr W ⟨f0, f1, f2, rfl⟩
  refine w_cut (fun fr W => ∃ L : List Ac, L.length ≤ 16 ∧ (∀ x ∈ L, AcN x) ∧ fr 7 = .lst L.length (L.flatMap acC) false ∧ fr 1 = .int .u16 at_ ∧ fr 2 = byteC by_ ∧ W = []) ?_ ?_
  · refine w_L300q @hmade ?_ 
    rintro _ _ ⟨⟨L, hL, hLN, rfl⟩, rfl⟩
    refine w0 ?_ 
    exact ⟨L, hL, hLN, kS, kS, kS, rfl⟩
  clear f0 f1 f2 fr hmade
  rintro fr W ⟨L, hL, hLN, f7, f1, f2, rfl⟩
  have hLs : ∀ a ∈ L, AcS a := fun a h => (hLN a h).s
  have hfm : ∀ {B : List Box} {args : List CV}, Is (omap (fz true false B 6) args) (some [.lst L.length (L.flatMap acC) false]) → ACall Tryz.prog 15 args B fun c B' => c = .tup [.str (catS L), .int .i64 0] ∧ B' = B := fun hz => by
    have := format_in L hLs (by omega)
    rw [fmt_norm (fun a h => (hLN a h).norm) (by omega)] at this
    exact acall_fresh hz this
  have hSl := catG_len hLN
  have hps : ∀ {B : List Box} {args : List CV}, Is args [.str (catS L)] → ACall Tryz.prog 9 args B fun c B' => c = .tup [.lst L.length (L.flatMap acC) false, .int .i64 0, .int .i64 0] ∧ B' = B := fun {B args} h => by
    have := sParse_at (B := B) h (by omega)
    rw [par_back (fun a h => (hLN a h).norm) (by omega)] at this
    exact this
  have hsa : ∀ {B : List Box} {args : List CV}, Is (omap (fz true false B 6) args) (some [.lst L.length (L.flatMap acC) false, .lst L.length (L.flatMap acC) false]) → ACall Tryz.prog 11 args B fun c B' => c = .bool true ∧ B' = B := fun hz => sameAll_at hz rfl rfl (fun a h => (hLs a h).l) (fun a h => (hLs a h).l) (by omega) (by omega) (by simp)
  have hoo : ∀ {nz : Bool} {B : List Box} {k : Nat}, omap (Go.Sy.fz nz false B (k + 3)) (L.flatMap acC) = some (L.flatMap acC) := acs_om L
  have hSl2 : (catS L).length ≤ 48000 := by omega
  clear hLs hLN hSl
  generalize L.flatMap acC = LC at *
  generalize catS L = S at *
  generalize L.length = ln at *
  refine w_cut (fun fr W => fr 7 = .lst ln LC false ∧ fr 8 = .str S ∧ fr 9 = .int .i64 0 ∧ fr 1 = .int .u16 at_ ∧ fr 2 = byteC by_ ∧ W = []) ?_ ?_
  · refine w1 @hfm ?_ 
    exact ⟨kS, kS, kS, kS, kS, rfl⟩
  clear f7 f1 f2 fr hfm
  rintro fr W ⟨f7, f8, f9, f1, f2, rfl⟩
  refine w_cut (fun fr W => fr 7 = .lst ln LC false ∧ fr 8 = .str S ∧ fr 9 = .int .i64 0 ∧ fr 10 = .lst ln LC false ∧ fr 11 = .int .i64 0 ∧ fr 12 = .int .i64 0 ∧ fr 1 = .int .u16 at_ ∧ fr 2 = byteC by_ ∧ W = []) ?_ ?_
  · refine w1 @hps ?_ 
    exact ⟨kS, kS, kS, kS, kS, kS, kS, kS, rfl⟩
  clear f7 f8 f9 f1 f2 fr hps
  rintro fr W ⟨f7, f8, f9, f10, f11, f12, f1, f2, rfl⟩
  refine w_cut (fun fr W => fr 8 = .str S ∧ fr 1 = .int .u16 at_ ∧ fr 2 = byteC by_ ∧ W = []) ?_ ?_
  · refine w1 @hsa ?_ 
    exact ⟨kS, kS, kS, rfl⟩
  clear f7 f8 f9 f10 f11 f12 f1 f2 fr hsa hoo
  rintro fr W ⟨f8, f1, f2, rfl⟩
  refine w_cut (fun fr W => fr 13 = .view 0 0 S.length 1 false ∧ fr 1 = .int .u16 at_ ∧ fr 2 = byteC by_ ∧ W = [⟨S.map byteC, false⟩]) ?_ ?_
  · refine w0 ?_ 
    exact ⟨kS, kS, kS, rfl⟩
  clear f8 f1 f2 fr
  rintro fr W ⟨f13, f1, f2, rfl⟩
  refine w_cut (fun fr W => ∃ t : List UInt8, t.length = S.length ∧ fr 13 = .view 0 0 t.length 1 false ∧ W = [⟨t.map byteC, false⟩]) ?_ ?_
  · by_cases h0 : S.length = 0
    · refine w0 ?_ 
      exact ⟨S, rfl, by rw [h0]; (simp (disch := omega) [go_sem, *]) <;> (try omega), rfl⟩
    · obtain ⟨i, hi, hil⟩ : ∃ i : Nat, at_.tmod (S.length : Int) = i ∧ i < S.length := by
        refine ⟨at_.toNat % S.length, ?_, Nat.mod_lt _ (by omega)⟩
        rw [show at_ = ((at_.toNat : Nat) : Int) by omega]
        rfl
      have hi2 : at_ % (S.length : Int) = i := by rw [← hi, Int.tmod_eq_emod_of_nonneg ha0]
      refine w0 ?_ 
      have hb : CV.int .u8 (bits .xor .u8 ((S[i]'hil).toNat : Int) (bits .and .u8 (by_.toNat : Int) 15)) = byteC (S[i]'hil ^^^ (by_ &&& 15)) := by
        have h1 := u8_and_nat by_.toNat 15 by_.toNat_lt (by omega)
        have h2 : by_.toNat &&& 15 = (by_ &&& 15).toNat := by rw [UInt8.toNat_and]; rfl
        rw [show ((15 : Nat) : Int) = 15 from rfl, h2] at h1
        rw [h1, xor_byte]
        rfl
      rw [hb]
      refine ⟨S.take i ++ (S[i]'hil ^^^ (by_ &&& 15)) :: S.drop (i + 1), by simp; omega, ?_, by rw [List.map_append, List.map_cons]⟩
      have e : (S.take i ++ (S[i]'hil ^^^ (by_ &&& 15)) :: S.drop (i + 1)).length = S.length := by simp; omega
      rw [e]
      (simp (disch := omega) [go_sem, *]) <;> (try omega)
  clear f13 f1 f2 fr
  rintro fr W ⟨t, ht, f13, rfl⟩
  have htl : t.length ≤ 48000 := by omega
  obtain ⟨K, nn, g, hpar⟩ : ∃ K nn g, parV t = (K, nn, g) := ⟨_, _, _, rfl⟩
  have hps : ∀ {B : List Box} {args : List CV}, Is args [.str t] → ACall Tryz.prog 9 args B fun c B' => c = .tup [.lst K.length (K.flatMap acC) false, .int .i64 nn, .int .i64 g] ∧ B' = B := fun {B args} h => by
    have := sParse_at (B := B) h (by omega)
    rw [hpar] at this
    exact this
  have hKS : ∀ a ∈ K, AcS a := by
    have := par_S (s := t) (by omega)
    rw [hpar] at this
    exact this
  have hKl : K.length ≤ 400 := by
    have := par_len t
    rw [hpar] at this
    exact this
  have hoo : ∀ {nz : Bool} {B : List Box} {k : Nat}, omap (Go.Sy.fz nz false B (k + 3)) (K.flatMap acC) = some (K.flatMap acC) := acs_om K
  obtain ⟨T, v, hfv⟩ : ∃ T v, fmtV K = (T, v) := ⟨_, _, rfl⟩
  have hfm : ∀ {B : List Box} {args : List CV}, Is (omap (fz true false B 6) args) (some [.lst K.length (K.flatMap acC) false]) → ACall Tryz.prog 15 args B fun c B' => c = .tup [.str T, .int .i64 v] ∧ B' = B := fun hz => by
    have := format_in K hKS (by omega)
    rw [hfv] at this
    exact acall_fresh hz this
  have htt : (t.map byteC).take t.length = t.map byteC := List.take_of_length_le (by simp)
  have hok : g = 0 → T = t ∧ v = 0 := fun hg => by
    subst hg
    obtain ⟨h1, h2, h3⟩ := par_ok hpar
    rw [fmt_norm h1 h3, ← h2] at hfv
    injection hfv with e1 e2
    exact ⟨e1.symm, e2.symm⟩
  clear hpar hfv hKS hKl
  generalize K.flatMap acC = KC at *
  generalize K.length = kn at *
  refine w_cut (fun fr W => fr 13 = .view 0 0 t.length 1 false ∧ fr 14 = .lst kn KC false ∧ fr 16 = .int .i64 g ∧ W = [⟨t.map byteC, false⟩]) ?_ ?_
  · refine w1 @hps ?_ 
    exact ⟨kS, kS, kS, rfl⟩
  clear f13 fr hps
  rintro fr W ⟨f13, f14, f16, rfl⟩
  refine w_cut (fun fr W => fr 13 = .view 0 0 t.length 1 false ∧ fr 17 = .str T ∧ fr 18 = .int .i64 v ∧ fr 16 = .int .i64 g ∧ W = [⟨t.map byteC, false⟩]) ?_ ?_
  · refine w1 @hfm ?_ 
    exact ⟨kS, kS, kS, kS, rfl⟩
  clear f13 f14 f16 fr hfm hoo
  rintro fr W ⟨f13, f17, f18, f16, rfl⟩
  by_cases hg : g = 0
  · obtain ⟨rfl, rfl⟩ := hok hg
    subst hg
    clear hok
    refine w1 @hbg ?_ 
    rfl
  · have hg2 : (g != 0) = true := by simpa using hg
    clear hok
    refine w1 @hbg ?_ 
    rfl
end Go.Proofs.YtcbdghgogmcllaaGreatDoor
end
section
namespace Go.Sy
open Go.RowKit (Below)
open Go.ChangeShapes Go.WideShapes
section
variable {H : Type} {enc : TypeId × Value → H} {P : Program} {W : World} {base : Nat} {held : Bool}
def Old (W : World) : Nat → Nat → Prop := fun b _ => b < W.heap.size
theorem fz_true {fr nz : Bool} {B : List Box} {k : Nat} {c : CV} {t : Bool} (h : fz nz fr B k c = some (.bool t)) : c = .bool t := by
  cases k with
  | zero => simp [fz] at h
  | succ k =>
    cases c <;> simp only [fz] at h
    case bool b => simpa using h
    case nilS => cases nz <;> simp at h
    case view => split at h <;> simp at h
    case cview => split at h <;> simp at h
    case ptr => split at h <;> (try split at h) <;> simp at h
    case lst => split at h <;> simp at h
    case iptr => split at h <;> simp at h
    case fn => split at h <;> simp at h
    case imap => split at h <;> (try split at h) <;> simp at h
    all_goals simp at h
theorem PC.calls {fr : Bool} {f : FuncId} {args : List CV} {vs : List Value} (h : PC P fr f args (.bool true)) (hv : R (Old W) [] W false args vs) (ht : TabsOk (Old W) W) : Calls P f vs.toArray W fun e w' => e = .returned (.bool true) ∧ Below W.heap.size W w' := by
  refine (h.2 W.heap.size (Old W) [] W vs (BRel.none_ W _ (fun _ _ h => h) ht) hv).mono fun e w' ⟨c, v, B', I', μ', he, hQ, hs⟩ => ?_
  have := fz_true hQ
  subst this
  exact ⟨by rw [he, hs.val.bool_inv], hs.below⟩
theorem byte_of_wf {n : Int} (h : (Lit.int .u8 n).wf = true) : ∃ b : UInt8, n = b.toNat := by
  have := bounds_u8 h
  exact ⟨UInt8.ofNat n.toNat, by simp; omega⟩
theorem bytes_cells : ∀ (vs : List Value), (∀ v ∈ vs, ∃ n, v = .int .u8 n ∧ (Lit.int .u8 n).wf = true) → ∃ l : List UInt8, vs = l.map fun b => .int .u8 (b.toNat : Int)
  | [], _ => ⟨[], rfl⟩
  | v :: vs, h => by
    obtain ⟨n, rfl, hn⟩ := h v (by simp)
    obtain ⟨b, rfl⟩ := byte_of_wf hn
    obtain ⟨l, rfl⟩ := bytes_cells vs fun v hv => h v (by simp [hv])
    exact ⟨b :: l, rfl⟩
theorem R_bytes (I : Nat → Nat → Prop) (μ : List (List Place)) (w : World) (one : Bool) : ∀ l : List UInt8, R I μ w one (l.map byteC) (l.map fun b => .int .u8 (b.toNat : Int))
  | [] => .nil _
  | b :: l => .int _ _ (R_bytes I μ w one l)
theorem open_bytes {r : Reach} {b0 : Nat} {t e : TypeId} {v : Value} {d : DataW H} {ps : List MemPlace} (ht : P.underlying t = some (.slice e)) (he : P.underlying e = some (.int .u8)) (hc : P.cellsOf e = 1)
    (hval : Value.okWide P W r b0 t v) (hd : DataW.Trod enc P W base (fun _ => true) held t v d ps) : ∃ l : List UInt8, l.length ≤ maxLen ∧ V (Old W) [] W (lb l) v := by
  obtain ⟨a0, len0, cap0, rfl⟩ := okWide_slice ht hval
  obtain ⟨fuel, hf⟩ := hd
  rcases open_ints ht he hc hf with ⟨hcs, _⟩ | ⟨x, l, c, zs, hcs, _, hl, hm, hz, _, hcell, hwz⟩
  · simp [Value.cells] at hcs
    obtain ⟨rfl, rfl, rfl⟩ := hcs
    exact ⟨[], by simp, .lstE _ _ (.nil _)⟩
  · simp [Value.cells] at hcs
    obtain ⟨rfl, rfl, rfl⟩ := hcs
    simp only [if_true] at hz
    by_cases hc0 : cap0 = 0
    · subst hc0
      obtain rfl : len0 = 0 := by omega
      exact ⟨[], by simp, .lstE _ _ (.nil _)⟩
    · obtain ⟨b, off, spot⟩ := x
      have hspot : spot = none := by simpa [Addr.add] using World.cell?_spot (hcell 0 (by omega))
      subst hspot
      obtain ⟨bl, hbl⟩ := bytes_cells ((zs.take len0).map (Value.int .u8)) fun v hv => by
        obtain ⟨n, hn, rfl⟩ := List.mem_map.1 hv
        exact ⟨n, rfl, hwz n (List.mem_of_mem_take hn)⟩
      have hlen : bl.length = len0 := by
        have := congrArg List.length hbl
        simp at this; omega
      refine ⟨bl, by omega, ?_⟩
      rw [lb, hlen]
      refine .lst len0 false b off cap0 (R_bytes _ _ _ _ bl) (fun j v hj => ?_) hl (fun h => by cases h) (.nil _)
      rw [← hbl] at hj
      have hjl : j < len0 := by have := (List.getElem?_eq_some_iff.1 hj).1; simp at this; omega
      have h1 := hcell j (by omega)
      rw [show Addr.add ⟨b, off, none⟩ j = ⟨b, off + j, none⟩ by unfold Addr.add; split <;> simp_all] at h1
      have h2 : v = .int .u8 (zs.getD j 0) := by
        rw [List.getElem?_map, List.getElem?_take_of_lt hjl, List.getElem?_eq_getElem (by omega)] at hj
        simp at hj
        rw [← hj, List.getD_eq_getElem?_getD, List.getElem?_eq_getElem (by omega)]; rfl
      subst h2
      refine ⟨h1, ?_⟩
      unfold World.cell? at h1
      show b < W.heap.size
      rcases Nat.lt_or_ge b W.heap.size with hb | hb
      · exact hb
      · have : W.heap[b]? = none := Array.getElem?_eq_none hb
        simp [this] at h1
theorem open_i {r : Reach} {b0 : Nat} {t : TypeId} {k : IntKind} {v : Value} {d : DataW H} {ps : List MemPlace} (ht : P.underlying t = some (.int k)) (hval : Value.okWide P W r b0 t v) (hd : DataW.Trod enc P W base (fun _ => true) held t v d ps) :
    ∃ n, (Lit.int k n).wf = true ∧ V (Old W) [] W (.int k n) v := by
  obtain ⟨n, rfl, _, _, hw⟩ := ChangeShapes.open_int ht hval hd
  exact ⟨n, hw, .int _ _ (.nil _)⟩
theorem open_byte {r : Reach} {b0 : Nat} {t : TypeId} {v : Value} {d : DataW H} {ps : List MemPlace} (ht : P.underlying t = some (.int .u8)) (hval : Value.okWide P W r b0 t v) (hd : DataW.Trod enc P W base (fun _ => true) held t v d ps) :
    ∃ b : UInt8, V (Old W) [] W (byteC b) v := by
  obtain ⟨n, hw, h⟩ := open_i ht hval hd
  obtain ⟨b, rfl⟩ := byte_of_wf hw
  exact ⟨b, h⟩
theorem V_cons {I : Nat → Nat → Prop} {μ : List (List Place)} {w : World} {c : CV} {v : Value} {cs : List CV} {vs : List Value} (h : V I μ w c v) (hs : R I μ w false cs vs) : R I μ w false (c :: cs) (v :: vs) := .cons h (by simp) hs
end
end Go.Sy
end
section
namespace Go.Sy
open Go.RowKit (Below)
open Go.ChangeShapes Go.WideShapes
section
variable {H : Type} {enc : TypeId × Value → H} {P : Program} {W : World} {base : Nat} {held : Bool}
def Opn (enc : TypeId × Value → H) (P : Program) (W : World) (base : Nat) (held : Bool) (t : TypeId) {α : Type} (f : α → List CV) (ok : α → Prop) : Prop :=
  ∀ (fuel : Nat) (cs : List Value) (x : DataW H × List MemPlace), DataW.trod enc P W base (fun _ => true) held fuel t cs = some x → ∃ a, ok a ∧ R (Old W) [] W true (f a) cs
inductive OpnF (enc : TypeId × Value → H) (P : Program) (W : World) (base : Nat) (held : Bool) : (off : Nat) → List Field → {α : Type} → (α → List CV) → (α → Prop) → Prop
  | one {off : Nat} {f : Field} {α : Type} {g : α → List CV} {ok : α → Prop} (h0 : f.offset = off) (h : Opn enc P W base held f.type g ok) : OpnF enc P W base held off [f] g ok
  | cons {off n : Nat} {f : Field} {fs : List Field} {α β : Type} {g : α → List CV} {ok : α → Prop} {g' : β → List CV} {ok' : β → Prop} (h0 : f.offset = off) (hc : P.cellsOf f.type = n) (h : Opn enc P W base held f.type g ok)
      (hs : OpnF enc P W base held (off + n) fs g' ok') : OpnF enc P W base held off (f :: fs) (fun p : α × β => g p.1 ++ g' p.2) (fun p => ok p.1 ∧ ok' p.2)
end
end Go.Sy
end
section
namespace Go.Proofs.YtcbdghgogmcllaaGreatDoor
open Go Go.Sy
theorem tab_reads {W : World} {n : String} {g : Nat} {k : IntKind} {zs : List Int} {t e : TypeId} {m : Nat} (hg : Tryz.prog.globalNamed n = some g) (hty : (Tryz.prog.globals[g]?).map (·.type) = some t) (ht : Tryz.prog.underlying t = some (.array m e)) (he : Tryz.prog.underlying e = some (.int k)) (hce : Tryz.prog.cellsOf e = 1) (hct : Tryz.prog.cellsOf t = m) (hz : 0 < zs.length) (h : Go.Lib.VarReads Tryz.prog W n (Go.Lib.tabData k zs)) : ∀ j : Nat, W.cell? ⟨g, j, none⟩ = (zs[j]?).map (.int k) ∧ Old W g j := by
  obtain ⟨g', t', cs, fuel, p, hg', ht', hvar, hd⟩ := h
  obtain rfl := Option.some.inj (hg.symm.trans hg')
  obtain rfl := Option.some.inj (hty.symm.trans ht')
  have hc := Go.Lib.cells_of_tab ht he hce hct hd
  have hcell : ∀ j : Nat, W.cell? ⟨g, j, none⟩ = (zs[j]?).map (.int k) := fun j => by
    rw [World.var?_cell hg hvar j, ← Array.getElem?_toList, hc, List.getElem?_map]
  refine fun j => ⟨hcell j, ?_⟩
  have h0 := hcell 0
  rw [List.getElem?_eq_getElem hz] at h0
  show g < W.heap.size
  rcases Nat.lt_or_ge g W.heap.size with h | h
  · exact h
  · unfold World.cell? at h0
    rw [show W.heap[(⟨g, 0, Option.none⟩ : Addr).block]? = Option.none from Array.getElem?_eq_none h] at h0
    cases h0
theorem int_lives {W : World} {g : Nat} {k : IntKind} (h : ∃ m, W.cell? ⟨g, 0, none⟩ = some (.int k m)) : Old W g 0 := by
  obtain ⟨m, h0⟩ := h
  show g < W.heap.size
  rcases Nat.lt_or_ge g W.heap.size with h | h
  · exact h
  · unfold World.cell? at h0
    rw [show W.heap[(⟨g, 0, Option.none⟩ : Addr).block]? = Option.none from Array.getElem?_eq_none h] at h0
    cases h0
theorem ifs_live {W : World} {n : String} {g : Nat} {nm : String} {d : DataW Unit} {t : TypeId} {ms : Array (String × TypeId)} (hg : Tryz.prog.globalNamed n = some g) (hty : (Tryz.prog.globals[g]?).map (·.type) = some t) (ht : Tryz.prog.underlying t = some (.interface ms)) (h : Go.Lib.VarReads Tryz.prog W n (.iface nm d)) : Old W g 0 ∧ ∃ t p, W.cell? ⟨g, 0, none⟩ = some (.iface t p) := by
  obtain ⟨g', t', cs, fuel, p, hg', ht', hvar, hd⟩ := h
  obtain rfl := Option.some.inj (hg.symm.trans hg')
  obtain rfl := Option.some.inj (hty.symm.trans ht')
  obtain ⟨_, u, v, hcs, _, _⟩ := iface_of_trod ht hd
  have h0 : W.cell? ⟨g, 0, none⟩ = some (.iface u v) := by
    rw [World.var?_cell hg hvar 0, ← Array.getElem?_toList, hcs]; rfl
  refine ⟨?_, u, v, h0⟩
  show g < W.heap.size
  rcases Nat.lt_or_ge g W.heap.size with h | h
  · exact h
  · unfold World.cell? at h0
    rw [show W.heap[(⟨g, 0, Option.none⟩ : Addr).block]? = Option.none from Array.getElem?_eq_none h] at h0
    cases h0
theorem tabs_of {W : World} (hS : W.ShapedOpen Tryz.prog) (hL : laidMet Tryz.prog [("math/bits.deBruijn32tab", Rows.laid_math_bits_deBruijn32tab), ("math/bits.deBruijn64tab", Rows.laid_math_bits_deBruijn64tab), ("internal/strconv.uint64pow10", Rows.laid_internal_strconv_uint64pow10), ("unicode/utf8.acceptRanges", Rows.laid_unicode_utf8_acceptRanges), ("strconv.ErrRange", Rows.laid_strconv_ErrRange), ("strconv.ErrSyntax", Rows.laid_strconv_ErrSyntax), ("unicode/utf8.first", Rows.laid_unicode_utf8_first)] W) : TabsOk (Old W) W := by
  refine ⟨?_, ?_, ?_⟩
  · intro g k zs hg
    unfold tab at hg
    split at hg
    · obtain ⟨rfl, rfl⟩ := Prod.mk.inj (Option.some.inj hg)
      exact tab_reads (t := 196) (by kernel_rfl) (by kernel_rfl) Tryz.underlying196 Tryz.underlying60 (by kernel_rfl) (by kernel_rfl) (by decide) (Go.Lib.laidMet.reads hL (n := "internal/strconv.uint64pow10") (.tail _ (.tail _ (.head _))))
    · obtain ⟨rfl, rfl⟩ := Prod.mk.inj (Option.some.inj hg)
      exact tab_reads (t := 44) (by kernel_rfl) (by kernel_rfl) Tryz.underlying44 Tryz.underlying5 (by kernel_rfl) (by kernel_rfl) (by decide) (Go.Lib.laidMet.reads hL (n := "math/bits.deBruijn32tab") (.head _))
    · obtain ⟨rfl, rfl⟩ := Prod.mk.inj (Option.some.inj hg)
      exact tab_reads (t := 222) (by kernel_rfl) (by kernel_rfl) Tryz.underlying222 Tryz.underlying5 (by kernel_rfl) (by kernel_rfl) (by decide) (Go.Lib.laidMet.reads hL (n := "math/bits.deBruijn64tab") (.tail _ (.head _)))
    · cases hg
  · intro g hg
    obtain rfl : g = 0 := by simpa [tabInts] using hg
    have h : ∃ m, W.cell? ⟨0, 0, none⟩ = some (.int .i64 m) := cell_of_shapedOpen_int (t := 3) hS (by decide +kernel) (zero := #[.int .i64 0]) (by kernel_rfl) rfl (by kernel_rfl) (by kernel_rfl) Tryz.underlying3
    exact ⟨int_lives h, h⟩
  · intro g hg
    have hg : g = 4 ∨ g = 5 := by simpa [tabIfs] using hg
    rcases hg with rfl | rfl
    · exact ifs_live (t := 78) (by kernel_rfl) (by kernel_rfl) Tryz.underlying78 (Go.Lib.laidMet.reads hL (n := "strconv.ErrSyntax") (.tail _ (.tail _ (.tail _ (.tail _ (.tail _ (.head _)))))))
    · exact ifs_live (t := 78) (by kernel_rfl) (by kernel_rfl) Tryz.underlying78 (Go.Lib.laidMet.reads hL (n := "strconv.ErrRange") (.tail _ (.tail _ (.tail _ (.tail _ (.head _))))))
theorem handed_laid {H : Type} {enc : TypeId × Value → H} {C : Checked} {os : Os} {f : FuncId} {fn : Func} {s : ChangeSpec} {conds : List PathCond} {apart fresh handsOn again : Bool} {X : World → Array Value → Prop}
    (hX : ∀ (w w' : World) (args : Array Value), w.heap = w'.heap → X w args → X w' args)
    (own : ownKnob C.prog.godebug = none) (started : os.Started) (noInit : C.prog.inits.idxOf? f = none) (hfn : C.prog.funcs[f]? = some fn)
    (witness : ∃ (w : World) (tape : Tape) (i : Input), w.os = os ∧ (w.forCall tape i).Shaped C.prog ∧ i.vars = [] ∧ Input.okWide C.prog (w.forCall tape i) .any w.heap.size f i ∧
      ((s.pre enc C.prog fn conds apart (w.forCall tape i).memory i.args ∧ X (w.forCall tape i).memory i.args) ∧ sizedMet enc C.prog fn (OpenSpec.ofChange s) apart (w.forCall tape i).memory i.args) ∧ Assume.holds {} C.prog (lone (Frame.enter C.prog f i.args .normal) [] (w.forCall tape i)))
    (contract : ∀ (W : World) (base : Nat) (args : Array Value) (ds gs : List (DataW H)) (before : List MemPlace),
      (∀ (j : Nat) t v, fn.params[j]? = some t → args[j]? = some v → Value.okWide C.prog W .any base t v) →
      DataW.Whole enc C.prog fn.params.toList s.vars apart W args.toList ds gs before → W.ShapedOpen C.prog → X W args →
      Calls C.prog f args W fun e W' => ∃ v, e = .returned v ∧ s.post enc C.prog fn apart fresh handsOn again W args v W') :
    ReturnsInHanded {} C os f .any (fun w args => (s.pre enc C.prog fn conds apart w args ∧ X w args) ∧ sizedMet enc C.prog fn (OpenSpec.ofChange s) apart w args) (s.post enc C.prog fn apart fresh handsOn again) := by
  refine returnsInHanded_of_calls own started noInit witness ?_
  intro w tape i _ hsh _ hok hpre _
  obtain ⟨_, _, _, fn', hfn', _, _, _, _, hval⟩ := hok
  have e : fn' = fn := Option.some.inj (hfn'.symm.trans hfn)
  subst e
  obtain ⟨⟨⟨ds, gs, before, hw, hc⟩, hx⟩, hz⟩ := hpre
  have hw' := DataW.Whole.of_heap (w' := w.forCall tape i) (by rfl) hw
  refine (contract (w.forCall tape i) w.heap.size i.args ds gs before hval hw' hsh (hX _ _ _ (by rfl) hx)).mono fun e W' ⟨v, he, hp⟩ => ?_
  subst he
  exact ChangeSpec.post_blind hp
end Go.Proofs.YtcbdghgogmcllaaGreatDoor
end
