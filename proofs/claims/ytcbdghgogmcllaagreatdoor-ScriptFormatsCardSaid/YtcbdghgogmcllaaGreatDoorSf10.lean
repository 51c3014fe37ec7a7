/- Lemmas and definitions of this claim (own texts, joined by a program; what the claim does not use is left out). -/
import Derived.Test.YtcbdghgogmcllaaGreatDoorSf9
import Derived.Tactics
import Derived.Tactics2
import Derived.StillTactics
import Derived.Laws.Pointers
import Derived.RegionTactic
import Derived.Lib.Builder
import Derived.Lib.UnsafeStr
import Derived.Laws.Externs
set_option linter.all false
set_option maxRecDepth 100000
set_option maxHeartbeats 4000000
section
namespace Go.Proofs.YtcbdghgogmcllaaGreatDoor
open Go Go.Sy
theorem textE_at {B : List Box} {args : List CV} {e : Ev} (hz : Is (omap (fz true false B 6) args) (some [.agg (evC e)])) (h : EvL e) : ACall Tryz.prog 30 args B fun c B' => c = .str (textE e) ∧ B' = B := acall_fresh hz (textE_in e h)
theorem textR_in (a : Ac) (h : AcL a) : PC Tryz.prog true 16 [.agg (acC a)] (.str (textR a)) := by
  have p := ac_parts h
  have q0 := p.d0
  have q1 : (acC a).tail.take 22 = evC a.ev := by rw [← List.drop_one]; exact p.d1
  have q23 := p.d23
  have q24 := p.d24
  have q25 := p.d25
  have q26 := p.d26
  have q27 := p.d27
  have q28 := p.d28
  have hl := p.len
  have le := evC_len h.ev.ip
  have hkk : a.key.take 32 = a.key := List.take_of_length_le (by have := h.key; omega)
  have he : ∀ {B : List Box} {args : List CV}, Is (omap (fz true false B 6) args) (some [.agg (evC a.ev)]) → ACall Tryz.prog 30 args B fun c B' => c = .str (textE a.ev) ∧ B' = B := fun hz => textE_at hz h.ev
  have ho : ∀ {nz : Bool} {B : List Box} {k : Nat}, omap (Go.Sy.fz nz false B (k + 3)) (evC a.ev) = some (evC a.ev) := evC_om
  have hw : ∀ {B : List Box} {args : List CV}, Is args [.int .i64 (max a.who 0)] → ACall Tryz.prog 29 args B fun c B' => c = .str (decM a.who) ∧ B' = B := fun hz => decM_at h.who hz
  have hn : ∀ {B : List Box} {args : List CV}, Is args [.int .i64 (max a.n 0)] → ACall Tryz.prog 29 args B fun c B' => c = .str (decM a.n) ∧ B' = B := fun hz => decM_at h.n hz
  have hlo : ∀ {B : List Box} {args : List CV}, Is args [.int .i64 (max a.lo 0)] → ACall Tryz.prog 29 args B fun c B' => c = .str (decM a.lo) ∧ B' = B := fun hz => decM_at h.lo hz
  have hhi : ∀ {B : List Box} {args : List CV}, Is args [.int .i64 (max a.hi 0)] → ACall Tryz.prog 29 args B fun c B' => c = .str (decM a.hi) ∧ B' = B := fun hz => decM_at h.hi hz
  have hk : ∀ {B : List Box} {args : List CV}, Is (omap (fz true false B 6) args) (some [.lst 32 (a.key.map byteC) false]) → ACall Tryz.prog 31 args B fun c B' => c = .str (hexS a.key) ∧ B' = B := fun {B args} hz => by
    have e : (32 : Nat) = a.key.length := h.key.symm
    rw [e] at hz
    exact rhex_at hz (by have := h.key; omega)
  have hx : ∀ {B : List Box} {args : List CV}, Is (omap (fz true false B 6) args) (some [.lst 1 [byteC a.xor] false]) → ACall Tryz.prog 31 args B fun c B' => c = .str (hexS [a.xor]) ∧ B' = B := fun {B args} hz => rhex_at (l := [a.xor]) hz (by simp)
  have h1 := decM_len h.who
  have h2 := decM_len h.n
  have h3 := decM_len h.lo
  have h4 := decM_len h.hi
  have h5 : (hexS a.key).length = 64 := by rw [hexS_len, h.key]
  have h6 : (hexS [a.xor]).length = 2 := by rw [hexS_len]; rfl
  clear p h
  unfold textR
  generalize acC a = X at *
  generalize evC a.ev = E at *
  generalize textE a.ev = s0 at *
  generalize decM a.who = s1 at *
  generalize decM a.n = s2 at *
  generalize decM a.lo = s3 at *
  generalize decM a.hi = s4 at *
  generalize hexS a.key = s5 at *
  generalize hexS [a.xor] = s6 at *
  generalize a.kind = k at *
  by_cases k1 : k = 1
  · subst k1
    rw [if_pos rfl]
    refine acall_intro mixed Tryz.func16 rfl ca16 (by kernel_rfl) (by rw [Tryz.ntmps16]; simp) ?_
    clear hlo hhi hk hx
    repeat' (first | (with_reducible first | apply jA | apply jB | apply jC | apply jD | apply jE | apply jF | apply jG | apply jH | apply jI | apply jJ | apply jK | apply jL | apply jM | apply jN | apply jO) | ((with_reducible first | apply jP | apply jQ); rfl) | ((with_reducible apply w_drawA); (conv => lhs; reduce); exact kE; exact kE) | ((first | ((with_reducible first | apply d_made | apply q_made); rfl; rfl)); (iterate 6 exact kE)) | ((first | ((with_reducible first | apply d_fop | apply q_fop); rfl; rfl)); (intro Bx hJ; (first | (obtain ⟨_, hJ1, hJ2⟩ := hJ) | (try simp only at hJ)); exact kE)) | ((with_reducible first | apply d_free | apply q_free); rfl; (iterate 2 exact kE); (intro Bx hJ); (first | ((with_reducible apply hw) <;> exact kD) | ((with_reducible apply hn) <;> exact kD) | ((with_reducible apply he) <;> exact kD))) | ((first | ((with_reducible first | apply jR | apply jS | apply jT); rfl; rfl) | (with_reducible first | apply jU | apply jV | apply jW) | ((with_reducible first | apply jX | apply jY | apply jZ); rfl) | ((with_reducible first | apply kA | apply kB | apply kC); rfl)); all_goals (first | ((with_reducible show Is _ _); exact kE) | ((with_reducible refine fun (hc : (_ : Bool) = _) => ?_); (try simp only [xZ, xY, xP, reduceCtorEq] at hc); (try (have hx : True := hc; clear hx hc)); (try exact kX)) | ((with_reducible show ACall _ _ _ _ _); (first | ((with_reducible apply hw) <;> exact kD) | ((with_reducible apply hn) <;> exact kD) | ((with_reducible apply he) <;> exact kD))) | ((fail_if_success (with_reducible first | show Is _ _ | show ACall _ _ _ _ _)); (try ((with_reducible show _ ∨ _); first | exact .inl rfl | (refine .inr ⟨rfl, ?_, ?_⟩; (focus (repeat (first | exact trivial | refine ⟨.inl rfl, ?_⟩ | refine ⟨.inr rfl, ?_⟩ | refine ⟨.inr (by (simp (disch := first | omega | (simp only [yZ, yB] <;> omega) | fail) [go_sem, yY, *, -List.map_take, -List.map_drop, -List.map_append, -List.map_reverse])), ?_⟩))); (first | exact trivial | exact rfl | (refine ⟨_, ?_, ?_⟩; (focus (simp (disch := first | omega | (simp only [yZ, yB] <;> omega) | fail) [go_sem, yY, *, -List.map_take, -List.map_drop, -List.map_append, -List.map_reverse]; (try exact rfl))); (simp (disch := first | omega | (simp only [yZ, yB] <;> omega) | fail) [go_sem, yY, *, -List.map_take, -List.map_drop, -List.map_append, -List.map_reverse])) | (simp (disch := first | omega | (simp only [yZ, yB] <;> omega) | fail) [go_sem, yY, *, -List.map_take, -List.map_drop, -List.map_append, -List.map_reverse]))) | exact .inl (by (simp (disch := first | omega | (simp only [yZ, yB] <;> omega) | fail) [go_sem, yY, *, -List.map_take, -List.map_drop, -List.map_append, -List.map_reverse]))))))))
    all_goals simp [go_sem, wHandoff, wPick, wAbort, wKill, wCorrupt, wCut]
  rw [if_neg k1]
  have b1 : (k == 1) = false := by simpa using k1
  clear he
  by_cases k2 : k = 2
  · subst k2
    rw [if_pos rfl]
    refine acall_intro mixed Tryz.func16 rfl ca16 (by kernel_rfl) (by rw [Tryz.ntmps16]; simp) ?_
    clear hx
    repeat' (first | (with_reducible first | apply jA | apply jB | apply jC | apply jD | apply jE | apply jF | apply jG | apply jH | apply jI | apply jJ | apply jK | apply jL | apply jM | apply jN | apply jO) | ((with_reducible first | apply jP | apply jQ); rfl) | ((with_reducible apply w_drawA); (conv => lhs; reduce); exact kE; exact kE) | ((first | ((with_reducible first | apply d_made | apply q_made); rfl; rfl)); (iterate 6 exact kE)) | ((first | ((with_reducible first | apply d_fop | apply q_fop); rfl; rfl)); (intro Bx hJ; (first | (obtain ⟨_, hJ1, hJ2⟩ := hJ) | (try simp only at hJ)); exact kE)) | ((with_reducible first | apply d_free | apply q_free); rfl; (iterate 2 exact kE); (intro Bx hJ); (first | ((with_reducible apply hw) <;> exact kD) | ((with_reducible apply hn) <;> exact kD) | ((with_reducible apply hlo) <;> exact kD) | ((with_reducible apply hhi) <;> exact kD) | ((with_reducible apply hk) <;> exact kD))) | ((first | ((with_reducible first | apply jR | apply jS | apply jT); rfl; rfl) | (with_reducible first | apply jU | apply jV | apply jW) | ((with_reducible first | apply jX | apply jY | apply jZ); rfl) | ((with_reducible first | apply kA | apply kB | apply kC); rfl)); all_goals (first | ((with_reducible show Is _ _); exact kE) | ((with_reducible refine fun (hc : (_ : Bool) = _) => ?_); (try simp only [xZ, xY, xP, reduceCtorEq] at hc); (try (have hx : True := hc; clear hx hc)); (try exact kX)) | ((with_reducible show ACall _ _ _ _ _); (first | ((with_reducible apply hw) <;> exact kD) | ((with_reducible apply hn) <;> exact kD) | ((with_reducible apply hlo) <;> exact kD) | ((with_reducible apply hhi) <;> exact kD) | ((with_reducible apply hk) <;> exact kD))) | ((fail_if_success (with_reducible first | show Is _ _ | show ACall _ _ _ _ _)); (try ((with_reducible show _ ∨ _); first | exact .inl rfl | (refine .inr ⟨rfl, ?_, ?_⟩; (focus (repeat (first | exact trivial | refine ⟨.inl rfl, ?_⟩ | refine ⟨.inr rfl, ?_⟩ | refine ⟨.inr (by (simp (disch := first | omega | (simp only [yZ, yB] <;> omega) | fail) [go_sem, yY, *, -List.map_take, -List.map_drop, -List.map_append, -List.map_reverse])), ?_⟩))); (first | exact trivial | exact rfl | (refine ⟨_, ?_, ?_⟩; (focus (simp (disch := first | omega | (simp only [yZ, yB] <;> omega) | fail) [go_sem, yY, *, -List.map_take, -List.map_drop, -List.map_append, -List.map_reverse]; (try exact rfl))); (simp (disch := first | omega | (simp only [yZ, yB] <;> omega) | fail) [go_sem, yY, *, -List.map_take, -List.map_drop, -List.map_append, -List.map_reverse])) | (simp (disch := first | omega | (simp only [yZ, yB] <;> omega) | fail) [go_sem, yY, *, -List.map_take, -List.map_drop, -List.map_append, -List.map_reverse]))) | exact .inl (by (simp (disch := first | omega | (simp only [yZ, yB] <;> omega) | fail) [go_sem, yY, *, -List.map_take, -List.map_drop, -List.map_append, -List.map_reverse]))))))))
    all_goals simp [go_sem, wHandoff, wPick, wAbort, wKill, wCorrupt, wCut]
  rw [if_neg k2]
  have b2 : (k == 2) = false := by simpa using k2
  clear hlo hhi hk q1 hkk q28
  by_cases k3 : k = 3
  · subst k3
    rw [if_pos rfl]
    refine acall_intro mixed Tryz.func16 rfl ca16 (by kernel_rfl) (by rw [Tryz.ntmps16]; simp) ?_
    clear hx
    repeat' (first | (with_reducible first | apply jA | apply jB | apply jC | apply jD | apply jE | apply jF | apply jG | apply jH | apply jI | apply jJ | apply jK | apply jL | apply jM | apply jN | apply jO) | ((with_reducible first | apply jP | apply jQ); rfl) | ((with_reducible apply w_drawA); (conv => lhs; reduce); exact kE; exact kE) | ((first | ((with_reducible first | apply d_made | apply q_made); rfl; rfl)); (iterate 6 exact kE)) | ((first | ((with_reducible first | apply d_fop | apply q_fop); rfl; rfl)); (intro Bx hJ; (first | (obtain ⟨_, hJ1, hJ2⟩ := hJ) | (try simp only at hJ)); exact kE)) | ((with_reducible first | apply d_free | apply q_free); rfl; (iterate 2 exact kE); (intro Bx hJ); (first | ((with_reducible apply hw) <;> exact kD) | ((with_reducible apply hn) <;> exact kD))) | ((first | ((with_reducible first | apply jR | apply jS | apply jT); rfl; rfl) | (with_reducible first | apply jU | apply jV | apply jW) | ((with_reducible first | apply jX | apply jY | apply jZ); rfl) | ((with_reducible first | apply kA | apply kB | apply kC); rfl)); all_goals (first | ((with_reducible show Is _ _); exact kE) | ((with_reducible refine fun (hc : (_ : Bool) = _) => ?_); (try simp only [xZ, xY, xP, reduceCtorEq] at hc); (try (have hx : True := hc; clear hx hc)); (try exact kX)) | ((with_reducible show ACall _ _ _ _ _); (first | ((with_reducible apply hw) <;> exact kD) | ((with_reducible apply hn) <;> exact kD))) | ((fail_if_success (with_reducible first | show Is _ _ | show ACall _ _ _ _ _)); (try ((with_reducible show _ ∨ _); first | exact .inl rfl | (refine .inr ⟨rfl, ?_, ?_⟩; (focus (repeat (first | exact trivial | refine ⟨.inl rfl, ?_⟩ | refine ⟨.inr rfl, ?_⟩ | refine ⟨.inr (by (simp (disch := first | omega | (simp only [yZ, yB] <;> omega) | fail) [go_sem, yY, *, -List.map_take, -List.map_drop, -List.map_append, -List.map_reverse])), ?_⟩))); (first | exact trivial | exact rfl | (refine ⟨_, ?_, ?_⟩; (focus (simp (disch := first | omega | (simp only [yZ, yB] <;> omega) | fail) [go_sem, yY, *, -List.map_take, -List.map_drop, -List.map_append, -List.map_reverse]; (try exact rfl))); (simp (disch := first | omega | (simp only [yZ, yB] <;> omega) | fail) [go_sem, yY, *, -List.map_take, -List.map_drop, -List.map_append, -List.map_reverse])) | (simp (disch := first | omega | (simp only [yZ, yB] <;> omega) | fail) [go_sem, yY, *, -List.map_take, -List.map_drop, -List.map_append, -List.map_reverse]))) | exact .inl (by (simp (disch := first | omega | (simp only [yZ, yB] <;> omega) | fail) [go_sem, yY, *, -List.map_take, -List.map_drop, -List.map_append, -List.map_reverse]))))))))
    all_goals simp [go_sem, wHandoff, wPick, wAbort, wKill, wCorrupt, wCut]
  rw [if_neg k3]
  have b3 : (k == 3) = false := by simpa using k3
  by_cases k4 : k = 4
  · subst k4
    rw [if_pos rfl]
    refine acall_intro mixed Tryz.func16 rfl ca16 (by kernel_rfl) (by rw [Tryz.ntmps16]; simp) ?_
    clear hx
    repeat' (first | (with_reducible first | apply jA | apply jB | apply jC | apply jD | apply jE | apply jF | apply jG | apply jH | apply jI | apply jJ | apply jK | apply jL | apply jM | apply jN | apply jO) | ((with_reducible first | apply jP | apply jQ); rfl) | ((with_reducible apply w_drawA); (conv => lhs; reduce); exact kE; exact kE) | ((first | ((with_reducible first | apply d_made | apply q_made); rfl; rfl)); (iterate 6 exact kE)) | ((first | ((with_reducible first | apply d_fop | apply q_fop); rfl; rfl)); (intro Bx hJ; (first | (obtain ⟨_, hJ1, hJ2⟩ := hJ) | (try simp only at hJ)); exact kE)) | ((with_reducible first | apply d_free | apply q_free); rfl; (iterate 2 exact kE); (intro Bx hJ); (first | ((with_reducible apply hw) <;> exact kD) | ((with_reducible apply hn) <;> exact kD))) | ((first | ((with_reducible first | apply jR | apply jS | apply jT); rfl; rfl) | (with_reducible first | apply jU | apply jV | apply jW) | ((with_reducible first | apply jX | apply jY | apply jZ); rfl) | ((with_reducible first | apply kA | apply kB | apply kC); rfl)); all_goals (first | ((with_reducible show Is _ _); exact kE) | ((with_reducible refine fun (hc : (_ : Bool) = _) => ?_); (try simp only [xZ, xY, xP, reduceCtorEq] at hc); (try (have hx : True := hc; clear hx hc)); (try exact kX)) | ((with_reducible show ACall _ _ _ _ _); (first | ((with_reducible apply hw) <;> exact kD) | ((with_reducible apply hn) <;> exact kD))) | ((fail_if_success (with_reducible first | show Is _ _ | show ACall _ _ _ _ _)); (try ((with_reducible show _ ∨ _); first | exact .inl rfl | (refine .inr ⟨rfl, ?_, ?_⟩; (focus (repeat (first | exact trivial | refine ⟨.inl rfl, ?_⟩ | refine ⟨.inr rfl, ?_⟩ | refine ⟨.inr (by (simp (disch := first | omega | (simp only [yZ, yB] <;> omega) | fail) [go_sem, yY, *, -List.map_take, -List.map_drop, -List.map_append, -List.map_reverse])), ?_⟩))); (first | exact trivial | exact rfl | (refine ⟨_, ?_, ?_⟩; (focus (simp (disch := first | omega | (simp only [yZ, yB] <;> omega) | fail) [go_sem, yY, *, -List.map_take, -List.map_drop, -List.map_append, -List.map_reverse]; (try exact rfl))); (simp (disch := first | omega | (simp only [yZ, yB] <;> omega) | fail) [go_sem, yY, *, -List.map_take, -List.map_drop, -List.map_append, -List.map_reverse])) | (simp (disch := first | omega | (simp only [yZ, yB] <;> omega) | fail) [go_sem, yY, *, -List.map_take, -List.map_drop, -List.map_append, -List.map_reverse]))) | exact .inl (by (simp (disch := first | omega | (simp only [yZ, yB] <;> omega) | fail) [go_sem, yY, *, -List.map_take, -List.map_drop, -List.map_append, -List.map_reverse]))))))))
    all_goals simp [go_sem, wHandoff, wPick, wAbort, wKill, wCorrupt, wCut]
  rw [if_neg k4]
  have b4 : (k == 4) = false := by simpa using k4
  by_cases k5 : k = 5
  · subst k5
    rw [if_pos rfl]
    refine acall_intro mixed Tryz.func16 rfl ca16 (by kernel_rfl) (by rw [Tryz.ntmps16]; simp) ?_
    clear hx
    repeat' (first | (with_reducible first | apply jA | apply jB | apply jC | apply jD | apply jE | apply jF | apply jG | apply jH | apply jI | apply jJ | apply jK | apply jL | apply jM | apply jN | apply jO) | ((with_reducible first | apply jP | apply jQ); rfl) | ((with_reducible apply w_drawA); (conv => lhs; reduce); exact kE; exact kE) | ((first | ((with_reducible first | apply d_made | apply q_made); rfl; rfl)); (iterate 6 exact kE)) | ((first | ((with_reducible first | apply d_fop | apply q_fop); rfl; rfl)); (intro Bx hJ; (first | (obtain ⟨_, hJ1, hJ2⟩ := hJ) | (try simp only at hJ)); exact kE)) | ((with_reducible first | apply d_free | apply q_free); rfl; (iterate 2 exact kE); (intro Bx hJ); (first | ((with_reducible apply hw) <;> exact kD) | ((with_reducible apply hn) <;> exact kD))) | ((first | ((with_reducible first | apply jR | apply jS | apply jT); rfl; rfl) | (with_reducible first | apply jU | apply jV | apply jW) | ((with_reducible first | apply jX | apply jY | apply jZ); rfl) | ((with_reducible first | apply kA | apply kB | apply kC); rfl)); all_goals (first | ((with_reducible show Is _ _); exact kE) | ((with_reducible refine fun (hc : (_ : Bool) = _) => ?_); (try simp only [xZ, xY, xP, reduceCtorEq] at hc); (try (have hx : True := hc; clear hx hc)); (try exact kX)) | ((with_reducible show ACall _ _ _ _ _); (first | ((with_reducible apply hw) <;> exact kD) | ((with_reducible apply hn) <;> exact kD))) | ((fail_if_success (with_reducible first | show Is _ _ | show ACall _ _ _ _ _)); (try ((with_reducible show _ ∨ _); first | exact .inl rfl | (refine .inr ⟨rfl, ?_, ?_⟩; (focus (repeat (first | exact trivial | refine ⟨.inl rfl, ?_⟩ | refine ⟨.inr rfl, ?_⟩ | refine ⟨.inr (by (simp (disch := first | omega | (simp only [yZ, yB] <;> omega) | fail) [go_sem, yY, *, -List.map_take, -List.map_drop, -List.map_append, -List.map_reverse])), ?_⟩))); (first | exact trivial | exact rfl | (refine ⟨_, ?_, ?_⟩; (focus (simp (disch := first | omega | (simp only [yZ, yB] <;> omega) | fail) [go_sem, yY, *, -List.map_take, -List.map_drop, -List.map_append, -List.map_reverse]; (try exact rfl))); (simp (disch := first | omega | (simp only [yZ, yB] <;> omega) | fail) [go_sem, yY, *, -List.map_take, -List.map_drop, -List.map_append, -List.map_reverse])) | (simp (disch := first | omega | (simp only [yZ, yB] <;> omega) | fail) [go_sem, yY, *, -List.map_take, -List.map_drop, -List.map_append, -List.map_reverse]))) | exact .inl (by (simp (disch := first | omega | (simp only [yZ, yB] <;> omega) | fail) [go_sem, yY, *, -List.map_take, -List.map_drop, -List.map_append, -List.map_reverse]))))))))
    all_goals simp [go_sem, wHandoff, wPick, wAbort, wKill, wCorrupt, wCut]
  rw [if_neg k5]
  have b5 : (k == 5) = false := by simpa using k5
  by_cases k6 : k = 6
  · subst k6
    rw [if_pos rfl]
    refine acall_intro mixed Tryz.func16 rfl ca16 (by kernel_rfl) (by rw [Tryz.ntmps16]; simp) ?_
    clear k5
    repeat' (first | (with_reducible first | apply jA | apply jB | apply jC | apply jD | apply jE | apply jF | apply jG | apply jH | apply jI | apply jJ | apply jK | apply jL | apply jM | apply jN | apply jO) | ((with_reducible first | apply jP | apply jQ); rfl) | ((with_reducible apply w_drawA); (conv => lhs; reduce); exact kE; exact kE) | ((first | ((with_reducible first | apply d_made | apply q_made); rfl; rfl)); (iterate 6 exact kE)) | ((first | ((with_reducible first | apply d_fop | apply q_fop); rfl; rfl)); (intro Bx hJ; (first | (obtain ⟨_, hJ1, hJ2⟩ := hJ) | (try simp only at hJ)); exact kE)) | ((with_reducible first | apply d_free | apply q_free); rfl; (iterate 2 exact kE); (intro Bx hJ); (first | ((with_reducible apply hw) <;> exact kD) | ((with_reducible apply hn) <;> exact kD) | ((with_reducible apply hx) <;> exact kD))) | ((first | ((with_reducible first | apply jR | apply jS | apply jT); rfl; rfl) | (with_reducible first | apply jU | apply jV | apply jW) | ((with_reducible first | apply jX | apply jY | apply jZ); rfl) | ((with_reducible first | apply kA | apply kB | apply kC); rfl)); all_goals (first | ((with_reducible show Is _ _); exact kE) | ((with_reducible refine fun (hc : (_ : Bool) = _) => ?_); (try simp only [xZ, xY, xP, reduceCtorEq] at hc); (try (have hx : True := hc; clear hx hc)); (try exact kX)) | ((with_reducible show ACall _ _ _ _ _); (first | ((with_reducible apply hw) <;> exact kD) | ((with_reducible apply hn) <;> exact kD) | ((with_reducible apply hx) <;> exact kD))) | ((fail_if_success (with_reducible first | show Is _ _ | show ACall _ _ _ _ _)); (try ((with_reducible show _ ∨ _); first | exact .inl rfl | (refine .inr ⟨rfl, ?_, ?_⟩; (focus (repeat (first | exact trivial | refine ⟨.inl rfl, ?_⟩ | refine ⟨.inr rfl, ?_⟩ | refine ⟨.inr (by (simp (disch := first | omega | (simp only [yZ, yB] <;> omega) | fail) [go_sem, yY, *, -List.map_take, -List.map_drop, -List.map_append, -List.map_reverse])), ?_⟩))); (first | exact trivial | exact rfl | (refine ⟨_, ?_, ?_⟩; (focus (simp (disch := first | omega | (simp only [yZ, yB] <;> omega) | fail) [go_sem, yY, *, -List.map_take, -List.map_drop, -List.map_append, -List.map_reverse]; (try exact rfl))); (simp (disch := first | omega | (simp only [yZ, yB] <;> omega) | fail) [go_sem, yY, *, -List.map_take, -List.map_drop, -List.map_append, -List.map_reverse])) | (simp (disch := first | omega | (simp only [yZ, yB] <;> omega) | fail) [go_sem, yY, *, -List.map_take, -List.map_drop, -List.map_append, -List.map_reverse]))) | exact .inl (by (simp (disch := first | omega | (simp only [yZ, yB] <;> omega) | fail) [go_sem, yY, *, -List.map_take, -List.map_drop, -List.map_append, -List.map_reverse]))))))))
    all_goals simp [go_sem, wHandoff, wPick, wAbort, wKill, wCorrupt, wCut]
  rw [if_neg k6]
  have b6 : (k == 6) = false := by simpa using k6
  by_cases k7 : k = 7
  · subst k7
    rw [if_pos rfl]
    refine acall_intro mixed Tryz.func16 rfl ca16 (by kernel_rfl) (by rw [Tryz.ntmps16]; simp) ?_
    clear hx
    repeat' (first | (with_reducible first | apply jA | apply jB | apply jC | apply jD | apply jE | apply jF | apply jG | apply jH | apply jI | apply jJ | apply jK | apply jL | apply jM | apply jN | apply jO) | ((with_reducible first | apply jP | apply jQ); rfl) | ((with_reducible apply w_drawA); (conv => lhs; reduce); exact kE; exact kE) | ((first | ((with_reducible first | apply d_made | apply q_made); rfl; rfl)); (iterate 6 exact kE)) | ((first | ((with_reducible first | apply d_fop | apply q_fop); rfl; rfl)); (intro Bx hJ; (first | (obtain ⟨_, hJ1, hJ2⟩ := hJ) | (try simp only at hJ)); exact kE)) | ((with_reducible first | apply d_free | apply q_free); rfl; (iterate 2 exact kE); (intro Bx hJ); (first | ((with_reducible apply hw) <;> exact kD) | ((with_reducible apply hn) <;> exact kD))) | ((first | ((with_reducible first | apply jR | apply jS | apply jT); rfl; rfl) | (with_reducible first | apply jU | apply jV | apply jW) | ((with_reducible first | apply jX | apply jY | apply jZ); rfl) | ((with_reducible first | apply kA | apply kB | apply kC); rfl)); all_goals (first | ((with_reducible show Is _ _); exact kE) | ((with_reducible refine fun (hc : (_ : Bool) = _) => ?_); (try simp only [xZ, xY, xP, reduceCtorEq] at hc); (try (have hx : True := hc; clear hx hc)); (try exact kX)) | ((with_reducible show ACall _ _ _ _ _); (first | ((with_reducible apply hw) <;> exact kD) | ((with_reducible apply hn) <;> exact kD))) | ((fail_if_success (with_reducible first | show Is _ _ | show ACall _ _ _ _ _)); (try ((with_reducible show _ ∨ _); first | exact .inl rfl | (refine .inr ⟨rfl, ?_, ?_⟩; (focus (repeat (first | exact trivial | refine ⟨.inl rfl, ?_⟩ | refine ⟨.inr rfl, ?_⟩ | refine ⟨.inr (by (simp (disch := first | omega | (simp only [yZ, yB] <;> omega) | fail) [go_sem, yY, *, -List.map_take, -List.map_drop, -List.map_append, -List.map_reverse])), ?_⟩))); (first | exact trivial | exact rfl | (refine ⟨_, ?_, ?_⟩; (focus (simp (disch := first | omega | (simp only [yZ, yB] <;> omega) | fail) [go_sem, yY, *, -List.map_take, -List.map_drop, -List.map_append, -List.map_reverse]; (try exact rfl))); (simp (disch := first | omega | (simp only [yZ, yB] <;> omega) | fail) [go_sem, yY, *, -List.map_take, -List.map_drop, -List.map_append, -List.map_reverse])) | (simp (disch := first | omega | (simp only [yZ, yB] <;> omega) | fail) [go_sem, yY, *, -List.map_take, -List.map_drop, -List.map_append, -List.map_reverse]))) | exact .inl (by (simp (disch := first | omega | (simp only [yZ, yB] <;> omega) | fail) [go_sem, yY, *, -List.map_take, -List.map_drop, -List.map_append, -List.map_reverse]))))))))
    all_goals simp [go_sem, wHandoff, wPick, wAbort, wKill, wCorrupt, wCut]
  rw [if_neg k7]
  have b7 : (k == 7) = false := by simpa using k7
  refine acall_intro mixed Tryz.func16 rfl ca16 (by kernel_rfl) (by rw [Tryz.ntmps16]; simp) ?_
  clear hx
  repeat' (first | (with_reducible first | apply jA | apply jB | apply jC | apply jD | apply jE | apply jF | apply jG | apply jH | apply jI | apply jJ | apply jK | apply jL | apply jM | apply jN | apply jO) | ((with_reducible first | apply jP | apply jQ); rfl) | ((with_reducible apply w_drawA); (conv => lhs; reduce); exact kE; exact kE) | ((first | ((with_reducible first | apply d_made | apply q_made); rfl; rfl)); (iterate 6 exact kE)) | ((first | ((with_reducible first | apply d_fop | apply q_fop); rfl; rfl)); (intro Bx hJ; (first | (obtain ⟨_, hJ1, hJ2⟩ := hJ) | (try simp only at hJ)); exact kE)) | ((with_reducible first | apply d_free | apply q_free); rfl; (iterate 2 exact kE); (intro Bx hJ); (first | ((with_reducible apply hw) <;> exact kD) | ((with_reducible apply hn) <;> exact kD))) | ((first | ((with_reducible first | apply jR | apply jS | apply jT); rfl; rfl) | (with_reducible first | apply jU | apply jV | apply jW) | ((with_reducible first | apply jX | apply jY | apply jZ); rfl) | ((with_reducible first | apply kA | apply kB | apply kC); rfl)); all_goals (first | ((with_reducible show Is _ _); exact kE) | ((with_reducible refine fun (hc : (_ : Bool) = _) => ?_); (try simp only [xZ, xY, xP, reduceCtorEq] at hc); (try (have hx : True := hc; clear hx hc)); (try exact kX)) | ((with_reducible show ACall _ _ _ _ _); (first | ((with_reducible apply hw) <;> exact kD) | ((with_reducible apply hn) <;> exact kD))) | ((fail_if_success (with_reducible first | show Is _ _ | show ACall _ _ _ _ _)); (try ((with_reducible show _ ∨ _); first | exact .inl rfl | (refine .inr ⟨rfl, ?_, ?_⟩; (focus (repeat (first | exact trivial | refine ⟨.inl rfl, ?_⟩ | refine ⟨.inr rfl, ?_⟩ | refine ⟨.inr (by (simp (disch := first | omega | (simp only [yZ, yB] <;> omega) | fail) [go_sem, yY, *, -List.map_take, -List.map_drop, -List.map_append, -List.map_reverse])), ?_⟩))); (first | exact trivial | exact rfl | (refine ⟨_, ?_, ?_⟩; (focus (simp (disch := first | omega | (simp only [yZ, yB] <;> omega) | fail) [go_sem, yY, *, -List.map_take, -List.map_drop, -List.map_append, -List.map_reverse]; (try exact rfl))); (simp (disch := first | omega | (simp only [yZ, yB] <;> omega) | fail) [go_sem, yY, *, -List.map_take, -List.map_drop, -List.map_append, -List.map_reverse])) | (simp (disch := first | omega | (simp only [yZ, yB] <;> omega) | fail) [go_sem, yY, *, -List.map_take, -List.map_drop, -List.map_append, -List.map_reverse]))) | exact .inl (by (simp (disch := first | omega | (simp only [yZ, yB] <;> omega) | fail) [go_sem, yY, *, -List.map_take, -List.map_drop, -List.map_append, -List.map_reverse]))))))))
  all_goals simp [go_sem, wHandoff, wPick, wAbort, wKill, wCorrupt, wCut]
end Go.Proofs.YtcbdghgogmcllaaGreatDoor
end
section
namespace Go.Proofs.YtcbdghgogmcllaaGreatDoor
open Go Go.Sy
theorem kE_RB0 {α : Type} {x y : α} (h : Is x y := by first | ((try simp (disch := first | omega | (simp only [yZ, yB] <;> omega) | fail) [go_sem, yY, *, lb, if_pos, if_neg, -List.map_take, -List.map_drop, -List.map_append, -List.map_reverse]); exact rfl) | fail) : Is x y := h
theorem kD_RB0 {p : Prop} (h : p := by (first | omega | assumption | exact rfl | ((simp (disch := first | omega | (simp only [yZ, yB] <;> omega) | fail) [go_sem, yY, *, lb, -List.map_take, -List.map_drop, -List.map_append, -List.map_reverse]) <;> (first | done | omega | exact rfl)) | fail)) : p := h
theorem wB_RB0 {p q : Prop} (k : q) (h : Hq q → p := by (intro k; (repeat' (first | (with_reducible first | apply jA | apply jB | apply jC | apply jD | apply jE | apply jF | apply jG | apply jH | apply jI | apply jJ | apply jK | apply jL | apply jM | apply jN | apply jO) | ((with_reducible first | apply jP | apply jQ); rfl) | ((first | ((with_reducible first | apply jR | apply jS | apply jT); rfl; rfl) | (with_reducible first | apply jU | apply jV | apply jW) | ((with_reducible first | apply jX | apply jY | apply jZ); rfl) | ((with_reducible first | apply kA | apply kB | apply kC); rfl)); all_goals (first | ((with_reducible show Is _ _); exact kE_RB0) | ((with_reducible refine fun (hc : (_ : Bool) = _) => ?_); (try simp only [xZ, xY, xP, reduceCtorEq] at hc); (try (have hx : True := hc; clear hx hc)); (try exact kX)) | ((with_reducible show ACall _ _ _ _ _); (first | ((with_reducible apply c0) <;> exact kD_RB0) | ((with_reducible apply c1) <;> exact kD_RB0) | ((with_reducible apply c2) <;> exact kD_RB0) | ((with_reducible apply c3) <;> exact kD_RB0) | ((with_reducible apply c4) <;> exact kD_RB0) | ((with_reducible apply c5) <;> exact kD_RB0) | ((with_reducible apply c6) <;> exact kD_RB0) | ((with_reducible apply c7) <;> exact kD_RB0))) | ((fail_if_success (with_reducible first | show Is _ _ | show ACall _ _ _ _ _)); (try ((with_reducible show _ ∨ _); exact kT))))) | (((with_reducible first | apply o_callQ | apply q_callQ); rfl); (iterate 2 exact kE_RB0); (first | ((with_reducible apply q0) <;> exact kD_RB0))))); exact hq k)) : p := h ⟨k⟩
theorem w_RB00 {p q : Prop}  (k : q) (h : Hq q → p := by (intro  k; exact wB_RB0 (hq k))) : p := h  ⟨k⟩
theorem w_RB01 {A0 p q : Prop} (c0 : A0) (k : q) (h : A0 → Hq q → p := by (intro c0 k; exact wB_RB0 (hq k))) : p := h c0 ⟨k⟩
theorem w_RB02 {A0 A1 p q : Prop} (c0 : A0) (c1 : A1) (k : q) (h : A0 → A1 → Hq q → p := by (intro c0 c1 k; exact wB_RB0 (hq k))) : p := h c0 c1 ⟨k⟩
def nV (s : List UInt8) : Int := if decOk 19 s then IntKind.i64.wrap (decV s) else 0
theorem w64 (n : Int) : IntKind.i64.wrap n = (n + 9223372036854775808) % 18446744073709551616 - 9223372036854775808 := by
  have h : IntKind.i64.wrap n = if n % 18446744073709551616 ≥ 9223372036854775808 then n % 18446744073709551616 - 18446744073709551616 else n % 18446744073709551616 := by
    have e1 : (2 : Int) ^ IntKind.i64.bits = 18446744073709551616 := by decide
    have e2 : (2 : Int) ^ (IntKind.i64.bits - 1) = 9223372036854775808 := by decide
    simp only [IntKind.wrap, e1, e2, IntKind.signed, Bool.true_and, decide_eq_true_eq]
  rw [h]
  split <;> omega
theorem wrap_step (v : Int) (d : Int) : IntKind.i64.wrap (IntKind.i64.wrap (10 * IntKind.i64.wrap v) + d) = IntKind.i64.wrap (10 * v + d) := by
  simp only [w64]
  omega
theorem number19_in (s : List UInt8) (hs : s.length < 1000000000) : PC Tryz.prog true 97 [.str s, .int .i64 19] (.tup [.int .i64 (nV s), .bool (decOk 19 s)]) := by
  refine acall_intro mixed Tryz.func97 rfl ca97 (by kernel_rfl) (by rw [Tryz.ntmps97]; simp) ?_
  have hbad : headOk 19 s = false → nV s = 0 ∧ decOk 19 s = false := fun h => by simp [nV, decOk, h]
  by_cases h0 : s.length = 0
  · obtain ⟨e1, e2⟩ := hbad (by simp [headOk, h0])
    have : s = [] := List.eq_nil_of_length_eq_zero h0
    subst this
    rw [e1, e2]
    refine w0 ?_ 
    rfl
  have hpos : 0 < s.length := by omega
  by_cases h19 : s.length ≤ 19
  rotate_left
  · obtain ⟨e1, e2⟩ := hbad (by simp [headOk]; omega)
    rw [e1, e2]
    have h19' : (19 : Int) < s.length := by omega
    refine w0 ?_ 
    rfl
  by_cases hz : 1 < s.length ∧ s[0]'hpos = 48
  · obtain ⟨hz1, hz2⟩ := hz
    have hh : s.head? = some 48 := by rw [List.head?_eq_getElem?, List.getElem?_eq_getElem (by omega), hz2]
    obtain ⟨e1, e2⟩ := hbad (by simp [headOk, hz1, hh])
    rw [e1, e2]
    refine w0 ?_ 
    rfl
  have hh : headOk 19 s = true := by
    cases s with
    | nil => simp at h0
    | cons c s => simp [headOk] at hz ⊢; simp at h19; exact ⟨h19, by cases s with | nil => exact .inl rfl | cons d s => exact .inr (hz (by simp))⟩
  have hz' : 1 < s.length → (s[0]'hpos).toNat ≠ 48 := fun h e => hz ⟨h, UInt8.toNat_inj.1 e⟩
  clear hbad hz
  by_cases h1l : 1 < s.length
  · have hz2 := hz' h1l
    clear hz'
    have hz3 : ((s[0]'hpos).toNat : Int) ≠ 48 := by omega
    refine w0 ?_ 
    refine w_loop (fun fr B => B = [] ∧ ∃ j : Nat, j ≤ s.length ∧ (s.take j).all isDig = true ∧ fr 7 = .int .i64 j ∧ fr 0 = .str s ∧ fr 6 = .int .i64 (IntKind.i64.wrap (decV (s.take j)))) (fun fr _ => s.length - natOf (fr 7)) ?_ ?_
    · exact ⟨rfl, 0, by omega, rfl, kS, kS, by (simp (disch := omega) [go_sem, *, decV]) <;> (try omega)⟩
    rintro fr B ⟨rfl, j, hj, hd, h7, hs0, h6⟩
    by_cases hc : j < s.length
    · have hnx := decV_take hc
      have hall := all_take hc
      rw [hd, Bool.true_and] at hall
      have hlt := (s[j]).toNat_lt
      by_cases hg : isDig s[j] = true
      · rw [hg] at hall
        have hg2 : 48 ≤ s[j].toNat ∧ s[j].toNat ≤ 57 := by simpa [isDig] using hg
        have hw := wrap_step (decV (s.take j)) ((s[j].toNat : Int) - 48)
        have hnx2 : (decV (s.take (j + 1)) : Int) = 10 * decV (s.take j) + (s[j].toNat - 48) := by omega
        rw [← hnx2] at hw
        clear hnx hnx2
        obtain ⟨v, hv⟩ : ∃ v, IntKind.i64.wrap (decV (s.take j) : Int) = v := ⟨_, rfl⟩
        obtain ⟨v', hv'⟩ : ∃ v', IntKind.i64.wrap (decV (s.take (j + 1)) : Int) = v' := ⟨_, rfl⟩
        obtain ⟨u, hu⟩ : ∃ u, IntKind.i64.wrap (10 * v) = u := ⟨_, rfl⟩
        rw [hv, hu, hv'] at hw
        rw [hv] at h6
        replace hall : Hid _ := hall
        replace hv' : Hid _ := hv'
        clear hd hv
        refine w0 ?_ 
        exact ⟨⟨rfl, j + 1, by omega, hall, kS, kS, by rw [show IntKind.i64.wrap (decV (s.take (j + 1)) : Int) = v' from hv']; (simp (disch := omega) [go_sem, *]) <;> (try omega)⟩, kS⟩
      · have hna := not_all hc (by simpa using hg)
        have e1 : nV s = 0 ∧ decOk 19 s = false := by simp [nV, decOk, hna]
        have hg2 : s[j].toNat < 48 ∨ 57 < s[j].toNat := by
          have : ¬ (48 ≤ s[j].toNat ∧ s[j].toNat ≤ 57) := by simpa [isDig] using hg
          omega
        rw [e1.1, e1.2]
        clear hnx hall hd
        generalize IntKind.i64.wrap (decV (s.take j) : Int) = v at *
        rcases hg2 with hg2 | hg2
        · refine w0 ?_ 
          rfl
        · have hg3 : ¬ (s[j].toNat : Int) < 48 := by omega
          refine w0 ?_ 
          rfl
    · obtain rfl : j = s.length := by omega
      rw [List.take_length] at hd h6
      have e1 : decOk 19 s = true := by simp only [decOk, hh, hd, Bool.and_self]
      rw [nV, if_pos e1, e1]
      generalize IntKind.i64.wrap (decV s : Int) = v at *
      refine w0 ?_ 
      rfl
  · clear hz'
    refine w0 ?_ 
    refine w_loop (fun fr B => B = [] ∧ ∃ j : Nat, j ≤ s.length ∧ (s.take j).all isDig = true ∧ fr 7 = .int .i64 j ∧ fr 0 = .str s ∧ fr 6 = .int .i64 (IntKind.i64.wrap (decV (s.take j)))) (fun fr _ => s.length - natOf (fr 7)) ?_ ?_
    · exact ⟨rfl, 0, by omega, rfl, kS, kS, by (simp (disch := omega) [go_sem, *, decV]) <;> (try omega)⟩
    rintro fr B ⟨rfl, j, hj, hd, h7, hs0, h6⟩
    by_cases hc : j < s.length
    · have hnx := decV_take hc
      have hall := all_take hc
      rw [hd, Bool.true_and] at hall
      have hlt := (s[j]).toNat_lt
      by_cases hg : isDig s[j] = true
      · rw [hg] at hall
        have hg2 : 48 ≤ s[j].toNat ∧ s[j].toNat ≤ 57 := by simpa [isDig] using hg
        have hw := wrap_step (decV (s.take j)) ((s[j].toNat : Int) - 48)
        have hnx2 : (decV (s.take (j + 1)) : Int) = 10 * decV (s.take j) + (s[j].toNat - 48) := by omega
        rw [← hnx2] at hw
        clear hnx hnx2
        obtain ⟨v, hv⟩ : ∃ v, IntKind.i64.wrap (decV (s.take j) : Int) = v := ⟨_, rfl⟩
        obtain ⟨v', hv'⟩ : ∃ v', IntKind.i64.wrap (decV (s.take (j + 1)) : Int) = v' := ⟨_, rfl⟩
        obtain ⟨u, hu⟩ : ∃ u, IntKind.i64.wrap (10 * v) = u := ⟨_, rfl⟩
        rw [hv, hu, hv'] at hw
        rw [hv] at h6
        replace hall : Hid _ := hall
        replace hv' : Hid _ := hv'
        clear hd hv
        refine w0 ?_ 
        exact ⟨⟨rfl, j + 1, by omega, hall, kS, kS, by rw [show IntKind.i64.wrap (decV (s.take (j + 1)) : Int) = v' from hv']; (simp (disch := omega) [go_sem, *]) <;> (try omega)⟩, kS⟩
      · have hna := not_all hc (by simpa using hg)
        have e1 : nV s = 0 ∧ decOk 19 s = false := by simp [nV, decOk, hna]
        have hg2 : s[j].toNat < 48 ∨ 57 < s[j].toNat := by
          have : ¬ (48 ≤ s[j].toNat ∧ s[j].toNat ≤ 57) := by simpa [isDig] using hg
          omega
        rw [e1.1, e1.2]
        clear hnx hall hd
        generalize IntKind.i64.wrap (decV (s.take j) : Int) = v at *
        rcases hg2 with hg2 | hg2
        · refine w0 ?_ 
          rfl
        · have hg3 : ¬ (s[j].toNat : Int) < 48 := by omega
          refine w0 ?_ 
          rfl
    · obtain rfl : j = s.length := by omega
      rw [List.take_length] at hd h6
      have e1 : decOk 19 s = true := by simp only [decOk, hh, hd, Bool.and_self]
      rw [nV, if_pos e1, e1]
      generalize IntKind.i64.wrap (decV s : Int) = v at *
      refine w0 ?_ 
      rfl
theorem number19_at {B : List Box} {s : List UInt8} (hs : s.length < 1000000000) : ACall Tryz.prog 97 [.str s, .int .i64 19] B fun c B' => c = .tup [.int .i64 (nV s), .bool (decOk 19 s)] ∧ B' = B := acall_fresh (nz := false) rfl (number19_in s hs)
def numR (s : List UInt8) : Int × Bool := if decOk 19 s = true ∧ 0 ≤ nV s ∧ nV s ≤ 4611686018427387904 then (nV s, true) else (0, false)
theorem numR_in (s : List UInt8) (hs : s.length < 1000000000) : PC Tryz.prog true 55 [.str s] (.tup [.int .i64 (numR s).1, .bool (numR s).2]) := by
  have hp : ∀ {B : List Box}, ACall Tryz.prog 97 [.str s, .int .i64 19] B fun c B' => c = .tup [.int .i64 (nV s), .bool (decOk 19 s)] ∧ B' = B := number19_at hs
  refine acall_intro mixed Tryz.func55 rfl ca55 (by kernel_rfl) (by rw [Tryz.ntmps55]; simp) ?_
  unfold numR
  generalize nV s = n at *
  generalize decOk 19 s = b at *
  cases b
  · simp only [Bool.false_eq_true, false_and, if_false]
    refine w1 @hp ?_ 
    rfl
  · by_cases h0 : 0 ≤ n
    · by_cases h1 : n ≤ 4611686018427387904
      · have h0' : ¬ (n < 0) := by omega
        have h1' : ¬ (4611686018427387904 < n) := by omega
        simp only [h0, h1, and_self, if_true]
        refine w1 @hp ?_ 
        rfl
      · have h0' : ¬ (n < 0) := by omega
        have h1' : 4611686018427387904 < n := by omega
        simp only [h1, and_false, if_false]
        refine w1 @hp ?_ 
        rfl
    · have h0' : n < 0 := by omega
      simp only [h0, false_and, and_false, if_false]
      refine w1 @hp ?_ 
      rfl
theorem numR_at {B : List Box} {s : List UInt8} (hs : s.length < 1000000000) : ACall Tryz.prog 55 [.str s] B fun c B' => c = .tup [.int .i64 (numR s).1, .bool (numR s).2] ∧ B' = B := acall_fresh (nz := false) rfl (numR_in s hs)
def bytesR (s : List UInt8) : List UInt8 × Bool := if s = [45] then ([], true) else match unhex s with | some l => if l ≠ [] ∧ hexS l = s then (l, true) else ([], false) | none => ([], false)
theorem bytesR_in (s : List UInt8) (hs : s.length < 1000000000) : PC Tryz.prog false 53 [.str s] (.tup [lb (bytesR s).1, .bool (bytesR s).2]) := by
  have hp : ∀ {B : List Box}, ACall Tryz.prog 94 [.str s] B fun c B' => c = unhexC (unhex s) ∧ B' = B := rparseHex_at (by omega)
  refine acall_intro mixed Tryz.func53 rfl ca53 (by kernel_rfl) (by rw [Tryz.ntmps53]; simp) ?_
  unfold bytesR
  by_cases h : s = [45]
  · subst h
    rw [if_pos rfl]
    clear hp
    refine w_RB00 ?_ 
    rfl
  · rw [if_neg h]
    have h' : (s == [45]) = false := by simpa using h
    cases hu : unhex s with
    | none =>
      rw [hu] at hp
      simp only [unhexC, lb] at hp
      refine w_RB01 @hp ?_ 
      rfl
    | some l =>
      have hlen := unhex_len _ _ hu
      rw [hu] at hp
      simp only [unhexC, lb] at hp
      have hm : (l.map byteC).length = l.length := List.length_map _
      have hh : ∀ {B : List Box} {args : List CV}, Is (omap (fz true false B 6) args) (some [.lst l.length (l.map byteC) false]) → ACall Tryz.prog 31 args B fun c B' => c = .str (hexS l) ∧ B' = B := fun hz => rhex_at hz (by omega)
      by_cases h0 : l = []
      · subst h0
        simp only [ne_eq, not_true_eq_false, false_and, if_false]
        refine w_RB01 @hp ?_ 
        rfl
      · have hl0 : l.length ≠ 0 := fun e => h0 (List.eq_nil_of_length_eq_zero e)
        have hl1 : ((l.length : Int) == 0) = false := by simpa using (by omega : (l.length : Int) ≠ 0)
        clear hu hlen
        by_cases h1 : hexS l = s
        · simp only [ne_eq, h0, not_false_eq_true, h1, and_self, if_true]
          rw [h1] at hh
          refine w_RB02 @hp @hh ?_ 
          simp [go_sem, lb]
        · have h1' : (hexS l != s) = true := by simpa using h1
          have h1'' : (hexS l == s) = false := by simpa using h1
          simp only [h1, and_false, if_false]
          generalize hexS l = s2 at *
          refine w_RB02 @hp @hh ?_ 
          rfl
theorem bytesR_at {B : List Box} {s : List UInt8} (hs : s.length < 1000000000) : ACall Tryz.prog 53 [.str s] B fun c B' => c = .tup [lb (bytesR s).1, .bool (bytesR s).2] ∧ B' = B := acall_imm (nz := false) rfl (bytesR_in s hs)
end Go.Proofs.YtcbdghgogmcllaaGreatDoor
end
section
namespace Go.Proofs.YtcbdghgogmcllaaGreatDoor
open Go Go.Sy
def ctlR (s : List UInt8) : Ac × Bool := if prS s then (evA { ev0 with kind := 5, text := s }, true) else (act0, false)
theorem fz_acb {nz : Bool} {B : List Box} (a : Ac) (b : Bool) : Go.Sy.fz nz false B 6 (.tup [.agg (acC a), .bool b]) = some (.tup [.agg (acC a), .bool b]) := by simp [go_sem, acC_om]
def zA : List CV := [.int .i64 0, .int .i64 0, .bool false, .int .u8 0, .int .u8 0, .int .u8 0, .int .u8 0, .int .u8 0, .int .u8 0, .int .u8 0, .int .u8 0, .int .u8 0, .int .u8 0, .int .u8 0, .int .u8 0, .int .u8 0, .int .u8 0, .int .u8 0, .int .u8 0, .int .i64 0, .nilS, .int .i64 0, .str [], .int .i64 0, .int .i64 0, .int .u8 0, .int .i64 0, .int .i64 0, .int .u8 0, .int .u8 0, .int .u8 0, .int .u8 0, .int .u8 0, .int .u8 0, .int .u8 0, .int .u8 0, .int .u8 0, .int .u8 0, .int .u8 0, .int .u8 0, .int .u8 0, .int .u8 0, .int .u8 0, .int .u8 0, .int .u8 0, .int .u8 0, .int .u8 0, .int .u8 0, .int .u8 0, .int .u8 0, .int .u8 0, .int .u8 0, .int .u8 0, .int .u8 0, .int .u8 0, .int .u8 0, .int .u8 0, .int .u8 0, .int .u8 0, .int .u8 0]
theorem zA_len : zA.length = 60 := rfl
theorem ctlR_in (s : List UInt8) (hs : s.length < 1000000000) : PC Tryz.prog false 32 [.str s] (.tup [.agg (acC (ctlR s).1), .bool (ctlR s).2]) := by
  have hz := acC_zero
  have hzl := zA_len
  unfold ctlR
  refine acall_intro mixed Tryz.func32 rfl ca32 (by kernel_rfl) (by rw [Tryz.ntmps32]; simp) ?_
  refine w0 ?_ 
  refine w_loop (fun fr B => ∃ j : Nat, j ≤ s.length ∧ (s.take j).all prC = true ∧ fr 4 = .int .i64 j ∧ fr 0 = .str s ∧ fr 2 = .ptr 0 0 ∧ B = [⟨zA, false⟩]) (fun fr _ => s.length - natOf (fr 4)) ?_ ?_
  · exact ⟨0, by omega, by simp, kS, kS, kS, rfl⟩
  rintro fr B ⟨j, hj, hn, h4, h0, h2, rfl⟩
  have hm : natOf (fr 4) = j := by rw [h4]; rfl
  by_cases hc : j < s.length
  · have ht : (s.take (j + 1)).all prC = prC (s[j]'hc) := by rw [List.take_succ_eq_append_getElem hc, List.all_append, hn]; simp
    have hbad : prC (s[j]'hc) = false → prS s = false := fun h => by
      rw [prS, List.all_eq_false]
      exact ⟨_, List.getElem_mem hc, by simp [h]⟩
    have hb := (s[j]'hc).toNat_lt
    obtain ⟨y, hy⟩ : ∃ y, s[j]'hc = y := ⟨_, rfl⟩
    rw [hy] at ht hbad hb
    by_cases h1 : 32 ≤ y.toNat
    · by_cases h3 : y.toNat ≤ 126
      · have h5 : (s.take (j + 1)).all prC = true := by rw [ht]; simp [prC, h1, h3]
        have g1 : ¬ (y.toNat < 32) := by omega
        have g2 : ¬ (126 < y.toNat) := by omega
        clear hbad ht hn hz
        replace h5 : Hid _ := h5
        refine w0 ?_ 
        exact ⟨⟨j + 1, by omega, h5, kS, kS, kS, rfl⟩, kS⟩
      · have h5 : prS s = false := hbad (by simp [prC, h3])
        have g1 : ¬ (y.toNat < 32) := by omega
        have g2 : 126 < y.toNat := by omega
        rw [h5]
        simp only [Bool.false_eq_true, if_false]
        rw [hz]
        clear hbad ht hn h5 hz
        refine w0 ?_ 
        all_goals rfl
    · have h5 : prS s = false := hbad (by simp [prC, h1])
      have g1 : y.toNat < 32 := by omega
      rw [h5]
      simp only [Bool.false_eq_true, if_false]
      rw [hz]
      clear hbad ht hn h5 hz
      refine w0 ?_ 
      all_goals rfl
  · obtain rfl : j = s.length := by omega
    rw [List.take_length] at hn
    have h5 : prS s = true := hn
    rw [h5]
    simp only [if_true]
    clear hn h5 hz
    refine w0 ?_ 
    all_goals rfl
theorem ctlR_at {B : List Box} {s : List UInt8} (hs : s.length < 1000000000) : ACall Tryz.prog 32 [.str s] B fun c B' => c = .tup [.agg (acC (ctlR s).1), .bool (ctlR s).2] ∧ B' = B := acall_imm (nz := false) rfl (ctlR_in s hs)
theorem evR_Plain (x1 : List UInt8) (hs : x1.length < 1000000000) : PC Tryz.prog false 33 [.lst 2 [.str wPlain, .str x1] false] (.tup [.agg (acC (evA { ev0 with kind := 1, bytes := (bytesR x1).1 })), .bool (bytesR x1).2]) := by
  have hu : ∀ {B : List Box}, ACall Tryz.prog 53 [.str x1] B fun c B' => c = .tup [lb (bytesR x1).1, .bool (bytesR x1).2] ∧ B' = B := bytesR_at hs
  generalize bytesR x1 = r at *
  obtain ⟨l, b⟩ := r
  rw [lb] at hu
  dsimp only at *
  rw [wPlain]
  refine acall_intro mixed Tryz.func33 rfl ca33 (by kernel_rfl) (by rw [Tryz.ntmps33]; simp) ?_
  refine w1 @hu ?_ 
  exact fz_acb (evA { ev0 with kind := 1, bytes := l }) b
theorem evR_Entropy (x1 : List UInt8) (hs : x1.length < 1000000000) : PC Tryz.prog false 33 [.lst 2 [.str wEntropy, .str x1] false] (.tup [.agg (acC (evA { ev0 with kind := 4, bytes := (bytesR x1).1 })), .bool (bytesR x1).2]) := by
  have hu : ∀ {B : List Box}, ACall Tryz.prog 53 [.str x1] B fun c B' => c = .tup [lb (bytesR x1).1, .bool (bytesR x1).2] ∧ B' = B := bytesR_at hs
  generalize bytesR x1 = r at *
  obtain ⟨l, b⟩ := r
  rw [lb] at hu
  dsimp only at *
  rw [wEntropy]
  refine acall_intro mixed Tryz.func33 rfl ca33 (by kernel_rfl) (by rw [Tryz.ntmps33]; simp) ?_
  refine w1 @hu ?_ 
  exact fz_acb (evA { ev0 with kind := 4, bytes := l }) b
theorem evR_Tick (x1 : List UInt8) (hs : x1.length < 1000000000) : PC Tryz.prog false 33 [.lst 2 [.str wTick, .str x1] false] (.tup [.agg (acC (evA { ev0 with kind := 3, time := (numR x1).1 })), .bool (numR x1).2]) := by
  have hu : ∀ {B : List Box}, ACall Tryz.prog 55 [.str x1] B fun c B' => c = .tup [.int .i64 (numR x1).1, .bool (numR x1).2] ∧ B' = B := numR_at hs
  generalize numR x1 = r at *
  obtain ⟨l, b⟩ := r
  dsimp only at *
  rw [wTick]
  refine acall_intro mixed Tryz.func33 rfl ca33 (by kernel_rfl) (by rw [Tryz.ntmps33]; simp) ?_
  refine w1 @hu ?_ 
  rfl
def dgR (x1 x2 : List UInt8) : Ac × Bool := match parseE x1 with
  | some (six, A, n) => (evA { ev0 with kind := 2, six := six, ip := A, port := n, bytes := (bytesR x2).1 }, (bytesR x2).2 && (fmtE six A n == x1))
  | none => (evA { ev0 with kind := 2, bytes := (bytesR x2).1 }, false)
theorem rparseE_at {B : List Box} {s : List UInt8} (hs : s.length < 1000000000) : ACall Tryz.prog 54 [.str s] B fun c B' => c = rE (parseE s) ∧ B' = B := acall_fresh (nz := false) rfl (rparseE_in s hs)
theorem evR_Datagram (x1 x2 : List UInt8) (h1 : x1.length < 1000000000) (h2 : x2.length < 1000000000) : PC Tryz.prog false 33 [.lst 3 [.str wDatagram, .str x1, .str x2] false] (.tup [.agg (acC (dgR x1 x2).1), .bool (dgR x1 x2).2]) := by
  have hu : ∀ {B : List Box}, ACall Tryz.prog 53 [.str x2] B fun c B' => c = .tup [lb (bytesR x2).1, .bool (bytesR x2).2] ∧ B' = B := bytesR_at h2
  have hp : ∀ {B : List Box}, ACall Tryz.prog 54 [.str x1] B fun c B' => c = rE (parseE x1) ∧ B' = B := rparseE_at h1
  unfold dgR
  generalize bytesR x2 = r at *
  obtain ⟨l, b⟩ := r
  rw [lb] at hu
  dsimp only at *
  rw [wDatagram]
  cases he : parseE x1 with
  | none =>
    rw [he] at hp
    simp only [rE, prefC, z16, List.replicate, List.map_cons, List.map_nil, List.cons_append, List.nil_append] at hp
    dsimp only
    refine acall_intro mixed Tryz.func33 rfl ca33 (by kernel_rfl) (by rw [Tryz.ntmps33]; simp) ?_
    cases b
    all_goals
      repeat' (first | (with_reducible first | apply jA | apply jB | apply jC | apply jD | apply jE | apply jF | apply jG | apply jH | apply jI | apply jJ | apply jK | apply jL | apply jM | apply jN | apply jO) | ((with_reducible apply jP); rfl) | ((first | ((with_reducible first | apply jR | apply jS | apply jT); rfl; rfl) | (with_reducible first | apply jU | apply jV | apply jW) | ((with_reducible first | apply jX | apply jY | apply jZ); rfl) | ((with_reducible first | apply kA | apply kB | apply kC); rfl)); all_goals (first | ((with_reducible show Is _ _); exact kE) | ((with_reducible refine fun (hc : (_ : Bool) = _) => ?_); (try simp only [xZ, xY, xP, reduceCtorEq] at hc); (try (have hx : True := hc; clear hx hc)); (try exact kX)) | ((with_reducible show ACall _ _ _ _ _); (first | ((with_reducible apply hp) <;> exact kD))) | ((fail_if_success (with_reducible first | show Is _ _ | show ACall _ _ _ _ _)); (try ((with_reducible show _ ∨ _); exact kT))))))
      refine w_drawJ [0] [⟨[], false⟩] (fun B' => B'[2]? = some ⟨[.bool false, byteC 0, byteC 0, byteC 0, byteC 0, byteC 0, byteC 0, byteC 0, byteC 0, byteC 0, byteC 0, byteC 0, byteC 0, byteC 0, byteC 0, byteC 0, byteC 0, .int .i64 0], false⟩) rfl rfl rfl ?_
      repeat' (first | (with_reducible first | apply jA | apply jB | apply jC | apply jD | apply jE | apply jF | apply jG | apply jH | apply jI | apply jJ | apply jK | apply jL | apply jM | apply jN | apply jO) | ((with_reducible apply jP); rfl) | ((first | ((with_reducible first | apply d_made | apply q_made); rfl; rfl)); (iterate 6 exact kE)) | ((first | ((with_reducible first | apply d_fop | apply q_fop); rfl; rfl)); (intro Bx hJ; (first | (obtain ⟨_, hJ1, hJ2⟩ := hJ) | (try simp only at hJ)); exact kE)) | ((first | ((with_reducible first | apply jR | apply jS | apply jT); rfl; rfl) | (with_reducible first | apply jU | apply jV | apply jW) | ((with_reducible first | apply jX | apply jY | apply jZ); rfl)); all_goals (first | ((with_reducible show Is _ _); exact kE) | ((with_reducible refine fun (hc : (_ : Bool) = _) => ?_); (try simp only [xZ, xY, xP, reduceCtorEq] at hc); (try (have hx : True := hc; clear hx hc)); (try exact kX)) | ((fail_if_success (with_reducible first | show Is _ _ | show ACall _ _ _ _ _)); (try ((with_reducible show _ ∨ _); first | exact .inl rfl | (refine .inr ⟨rfl, ?_, ?_⟩; (focus (repeat (first | exact trivial | refine ⟨.inl rfl, ?_⟩ | refine ⟨.inr rfl, ?_⟩ | refine ⟨.inr (by (simp (disch := first | omega | (simp only [yZ, yB] <;> omega) | fail) [go_sem, yY, *, -List.map_take, -List.map_drop, -List.map_append, -List.map_reverse])), ?_⟩))); (first | exact trivial | exact rfl | (refine ⟨_, ?_, ?_⟩; (focus (simp (disch := first | omega | (simp only [yZ, yB] <;> omega) | fail) [go_sem, yY, *, -List.map_take, -List.map_drop, -List.map_append, -List.map_reverse]; (try exact rfl))); (simp (disch := first | omega | (simp only [yZ, yB] <;> omega) | fail) [go_sem, yY, *, -List.map_take, -List.map_drop, -List.map_append, -List.map_reverse])) | (simp (disch := first | omega | (simp only [yZ, yB] <;> omega) | fail) [go_sem, yY, *, -List.map_take, -List.map_drop, -List.map_append, -List.map_reverse]))) | exact .inl (by (simp (disch := first | omega | (simp only [yZ, yB] <;> omega) | fail) [go_sem, yY, *, -List.map_take, -List.map_drop, -List.map_append, -List.map_reverse]))))))))
      refine w2 @hp @hu ?_ 
      exact fz_acb (evA { ev0 with kind := 2, bytes := l }) _
  | some q =>
    obtain ⟨six, A, n⟩ := q
    have hA : A.length = 16 := parseE_ip he
    have hn : i64 n := by have := parseE_port he; constructor <;> omega
    have hf : ∀ {B : List Box} {args : List CV}, Is (omap (Go.Sy.fz true false B 6) args) (some [prefC six A n]) → ACall Tryz.prog 52 args B fun c B' => c = .str (fmtE six A n) ∧ B' = B := fun hz => rfmtE_at hz hA hn
    rw [he] at hp
    dsimp only
    generalize fmtE six A n = s2 at *
    match A, hA with
    | [a0, a1, a2, a3, a4, a5, a6, a7, a8, a9, a10, a11, a12, a13, a14, a15], _ =>
    simp only [rE, prefC, List.map_cons, List.map_nil, List.cons_append, List.nil_append] at hp hf
    refine acall_intro mixed Tryz.func33 rfl ca33 (by kernel_rfl) (by rw [Tryz.ntmps33]; simp) ?_
    cases b
    · clear hf
      repeat' (first | (with_reducible first | apply jA | apply jB | apply jC | apply jD | apply jE | apply jF | apply jG | apply jH | apply jI | apply jJ | apply jK | apply jL | apply jM | apply jN | apply jO) | ((with_reducible apply jP); rfl) | ((first | ((with_reducible first | apply jR | apply jS | apply jT); rfl; rfl) | (with_reducible first | apply jU | apply jV | apply jW) | ((with_reducible first | apply jX | apply jY | apply jZ); rfl) | ((with_reducible first | apply kA | apply kB | apply kC); rfl)); all_goals (first | ((with_reducible show Is _ _); exact kE) | ((with_reducible refine fun (hc : (_ : Bool) = _) => ?_); (try simp only [xZ, xY, xP, reduceCtorEq] at hc); (try (have hx : True := hc; clear hx hc)); (try exact kX)) | ((with_reducible show ACall _ _ _ _ _); (first | ((with_reducible apply hp) <;> exact kD))) | ((fail_if_success (with_reducible first | show Is _ _ | show ACall _ _ _ _ _)); (try ((with_reducible show _ ∨ _); exact kT))))))
      refine w_drawJ [0] [⟨[], false⟩] (fun B' => B'[2]? = some ⟨[.bool six, byteC a0, byteC a1, byteC a2, byteC a3, byteC a4, byteC a5, byteC a6, byteC a7, byteC a8, byteC a9, byteC a10, byteC a11, byteC a12, byteC a13, byteC a14, byteC a15, .int .i64 n], false⟩) rfl rfl rfl ?_
      repeat' (first | (with_reducible first | apply jA | apply jB | apply jC | apply jD | apply jE | apply jF | apply jG | apply jH | apply jI | apply jJ | apply jK | apply jL | apply jM | apply jN | apply jO) | ((with_reducible apply jP); rfl) | ((first | ((with_reducible first | apply d_made | apply q_made); rfl; rfl)); (iterate 6 exact kE)) | ((first | ((with_reducible first | apply d_fop | apply q_fop); rfl; rfl)); (intro Bx hJ; (first | (obtain ⟨_, hJ1, hJ2⟩ := hJ) | (try simp only at hJ)); exact kE)) | ((first | ((with_reducible first | apply jR | apply jS | apply jT); rfl; rfl) | (with_reducible first | apply jU | apply jV | apply jW) | ((with_reducible first | apply jX | apply jY | apply jZ); rfl)); all_goals (first | ((with_reducible show Is _ _); exact kE) | ((with_reducible refine fun (hc : (_ : Bool) = _) => ?_); (try simp only [xZ, xY, xP, reduceCtorEq] at hc); (try (have hx : True := hc; clear hx hc)); (try exact kX)) | ((fail_if_success (with_reducible first | show Is _ _ | show ACall _ _ _ _ _)); (try ((with_reducible show _ ∨ _); first | exact .inl rfl | (refine .inr ⟨rfl, ?_, ?_⟩; (focus (repeat (first | exact trivial | refine ⟨.inl rfl, ?_⟩ | refine ⟨.inr rfl, ?_⟩ | refine ⟨.inr (by (simp (disch := first | omega | (simp only [yZ, yB] <;> omega) | fail) [go_sem, yY, *, -List.map_take, -List.map_drop, -List.map_append, -List.map_reverse])), ?_⟩))); (first | exact trivial | exact rfl | (refine ⟨_, ?_, ?_⟩; (focus (simp (disch := first | omega | (simp only [yZ, yB] <;> omega) | fail) [go_sem, yY, *, -List.map_take, -List.map_drop, -List.map_append, -List.map_reverse]; (try exact rfl))); (simp (disch := first | omega | (simp only [yZ, yB] <;> omega) | fail) [go_sem, yY, *, -List.map_take, -List.map_drop, -List.map_append, -List.map_reverse])) | (simp (disch := first | omega | (simp only [yZ, yB] <;> omega) | fail) [go_sem, yY, *, -List.map_take, -List.map_drop, -List.map_append, -List.map_reverse]))) | exact .inl (by (simp (disch := first | omega | (simp only [yZ, yB] <;> omega) | fail) [go_sem, yY, *, -List.map_take, -List.map_drop, -List.map_append, -List.map_reverse]))))))))
      refine w1 @hu ?_ 
      exact fz_acb (evA { ev0 with kind := 2, six := six, ip := [a0, a1, a2, a3, a4, a5, a6, a7, a8, a9, a10, a11, a12, a13, a14, a15], port := n, bytes := l }) _
    · repeat' (first | (with_reducible first | apply jA | apply jB | apply jC | apply jD | apply jE | apply jF | apply jG | apply jH | apply jI | apply jJ | apply jK | apply jL | apply jM | apply jN | apply jO) | ((with_reducible apply jP); rfl) | ((first | ((with_reducible first | apply jR | apply jS | apply jT); rfl; rfl) | (with_reducible first | apply jU | apply jV | apply jW) | ((with_reducible first | apply jX | apply jY | apply jZ); rfl) | ((with_reducible first | apply kA | apply kB | apply kC); rfl)); all_goals (first | ((with_reducible show Is _ _); exact kE) | ((with_reducible refine fun (hc : (_ : Bool) = _) => ?_); (try simp only [xZ, xY, xP, reduceCtorEq] at hc); (try (have hx : True := hc; clear hx hc)); (try exact kX)) | ((with_reducible show ACall _ _ _ _ _); (first | ((with_reducible apply hp) <;> exact kD))) | ((fail_if_success (with_reducible first | show Is _ _ | show ACall _ _ _ _ _)); (try ((with_reducible show _ ∨ _); exact kT))))))
      refine w_drawJ [0] [⟨[], false⟩] (fun B' => B'[2]? = some ⟨[.bool six, byteC a0, byteC a1, byteC a2, byteC a3, byteC a4, byteC a5, byteC a6, byteC a7, byteC a8, byteC a9, byteC a10, byteC a11, byteC a12, byteC a13, byteC a14, byteC a15, .int .i64 n], false⟩) rfl rfl rfl ?_
      repeat' (first | (with_reducible first | apply jA | apply jB | apply jC | apply jD | apply jE | apply jF | apply jG | apply jH | apply jI | apply jJ | apply jK | apply jL | apply jM | apply jN | apply jO) | ((with_reducible apply jP); rfl) | ((first | ((with_reducible first | apply d_made | apply q_made); rfl; rfl)); (iterate 6 exact kE)) | ((first | ((with_reducible first | apply d_fop | apply q_fop); rfl; rfl)); (intro Bx hJ; (first | (obtain ⟨_, hJ1, hJ2⟩ := hJ) | (try simp only at hJ)); exact kE)) | ((first | ((with_reducible first | apply jR | apply jS | apply jT); rfl; rfl) | (with_reducible first | apply jU | apply jV | apply jW) | ((with_reducible first | apply jX | apply jY | apply jZ); rfl)); all_goals (first | ((with_reducible show Is _ _); exact kE) | ((with_reducible refine fun (hc : (_ : Bool) = _) => ?_); (try simp only [xZ, xY, xP, reduceCtorEq] at hc); (try (have hx : True := hc; clear hx hc)); (try exact kX)) | ((fail_if_success (with_reducible first | show Is _ _ | show ACall _ _ _ _ _)); (try ((with_reducible show _ ∨ _); first | exact .inl rfl | (refine .inr ⟨rfl, ?_, ?_⟩; (focus (repeat (first | exact trivial | refine ⟨.inl rfl, ?_⟩ | refine ⟨.inr rfl, ?_⟩ | refine ⟨.inr (by (simp (disch := first | omega | (simp only [yZ, yB] <;> omega) | fail) [go_sem, yY, *, -List.map_take, -List.map_drop, -List.map_append, -List.map_reverse])), ?_⟩))); (first | exact trivial | exact rfl | (refine ⟨_, ?_, ?_⟩; (focus (simp (disch := first | omega | (simp only [yZ, yB] <;> omega) | fail) [go_sem, yY, *, -List.map_take, -List.map_drop, -List.map_append, -List.map_reverse]; (try exact rfl))); (simp (disch := first | omega | (simp only [yZ, yB] <;> omega) | fail) [go_sem, yY, *, -List.map_take, -List.map_drop, -List.map_append, -List.map_reverse])) | (simp (disch := first | omega | (simp only [yZ, yB] <;> omega) | fail) [go_sem, yY, *, -List.map_take, -List.map_drop, -List.map_append, -List.map_reverse]))) | exact .inl (by (simp (disch := first | omega | (simp only [yZ, yB] <;> omega) | fail) [go_sem, yY, *, -List.map_take, -List.map_drop, -List.map_append, -List.map_reverse]))))))))
      repeat' (first | (with_reducible first | apply jA | apply jB | apply jC | apply jD | apply jE | apply jF | apply jG | apply jH | apply jI | apply jJ | apply jK | apply jL | apply jM | apply jN | apply jO) | ((with_reducible first | apply jP | apply jQ); rfl) | ((with_reducible apply w_drawA); (conv => lhs; reduce); exact kE; exact kE) | ((first | ((with_reducible first | apply d_made | apply q_made); rfl; rfl)); (iterate 6 exact kE)) | ((first | ((with_reducible first | apply d_fop | apply q_fop); rfl; rfl)); (intro Bx hJ; (first | (obtain ⟨_, hJ1, hJ2⟩ := hJ) | (try simp only at hJ)); exact kE)) | ((with_reducible first | apply d_free | apply q_free); rfl; (iterate 2 exact kE); (intro Bx hJ); (first | ((with_reducible apply hu) <;> exact kD) | ((with_reducible apply hf) <;> exact kD))) | ((first | ((with_reducible first | apply jR | apply jS | apply jT); rfl; rfl) | (with_reducible first | apply jU | apply jV | apply jW) | ((with_reducible first | apply jX | apply jY | apply jZ); rfl) | ((with_reducible first | apply kA | apply kB | apply kC); rfl)); all_goals (first | ((with_reducible show Is _ _); exact kE) | ((with_reducible refine fun (hc : (_ : Bool) = _) => ?_); (try simp only [xZ, xY, xP, reduceCtorEq] at hc); (try (have hx : True := hc; clear hx hc)); (try exact kX)) | ((with_reducible show ACall _ _ _ _ _); (first | ((with_reducible apply hu) <;> exact kD) | ((with_reducible apply hf) <;> exact kD))) | ((fail_if_success (with_reducible first | show Is _ _ | show ACall _ _ _ _ _)); (try ((with_reducible show _ ∨ _); first | exact .inl rfl | (refine .inr ⟨rfl, ?_, ?_⟩; (focus (repeat (first | exact trivial | refine ⟨.inl rfl, ?_⟩ | refine ⟨.inr rfl, ?_⟩ | refine ⟨.inr (by (simp (disch := first | omega | (simp only [yZ, yB] <;> omega) | fail) [go_sem, yY, *, -List.map_take, -List.map_drop, -List.map_append, -List.map_reverse])), ?_⟩))); (first | exact trivial | exact rfl | (refine ⟨_, ?_, ?_⟩; (focus (simp (disch := first | omega | (simp only [yZ, yB] <;> omega) | fail) [go_sem, yY, *, -List.map_take, -List.map_drop, -List.map_append, -List.map_reverse]; (try exact rfl))); (simp (disch := first | omega | (simp only [yZ, yB] <;> omega) | fail) [go_sem, yY, *, -List.map_take, -List.map_drop, -List.map_append, -List.map_reverse])) | (simp (disch := first | omega | (simp only [yZ, yB] <;> omega) | fail) [go_sem, yY, *, -List.map_take, -List.map_drop, -List.map_append, -List.map_reverse]))) | exact .inl (by (simp (disch := first | omega | (simp only [yZ, yB] <;> omega) | fail) [go_sem, yY, *, -List.map_take, -List.map_drop, -List.map_append, -List.map_reverse]))))))))
      rw [Bool.true_and]
      exact fz_acb (evA { ev0 with kind := 2, six := six, ip := [a0, a1, a2, a3, a4, a5, a6, a7, a8, a9, a10, a11, a12, a13, a14, a15], port := n, bytes := l }) _
theorem evR_miss (n : Nat) (x0 : List UInt8) (Y : List CV) (h2 : n = 2 → x0 = wDatagram) (h3 : n = 3 → (x0 == wDatagram) = false) : PC Tryz.prog false 33 [.lst n (.str x0 :: Y) false] (.tup [.agg (acC (evA ev0)), .bool false]) := by
  refine acall_intro mixed Tryz.func33 rfl ca33 (by kernel_rfl) (by rw [Tryz.ntmps33]; simp) ?_
  by_cases n2 : n = 2
  · subst n2
    rw [h2 rfl, wDatagram]
    clear h2 h3
    refine w0 ?_ 
    rfl
  have b2 : ((n : Int) == 2) = false := by simpa using (by omega : (n : Int) ≠ 2)
  by_cases n3 : n = 3
  · subst n3
    have h4 := h3 rfl
    rw [wDatagram] at h4
    clear h2 h3
    refine w0 ?_ 
    rfl
  have b3 : ((n : Int) == 3) = false := by simpa using (by omega : (n : Int) ≠ 3)
  clear h2 h3
  refine w0 ?_ 
  rfl
end Go.Proofs.YtcbdghgogmcllaaGreatDoor
end
section
namespace Go.Proofs.YtcbdghgogmcllaaGreatDoor
open Go Go.Sy
def handR (x1 x2 x3 : List UInt8) : Ac × Bool := if x1.length = 1 ∧ x2.length = 1 ∧ (numR x1).2 = true ∧ (numR x2).2 = true ∧ (bytesR x3).2 = true ∧ (bytesR x3).1.length = 32 then ({ act0 with kind := 2, lo := (numR x1).1, hi := (numR x2).1, key := (bytesR x3).1 }, true) else ({ act0 with kind := 2 }, false)
theorem handR_miss (n : Nat) (Y : List CV) (h : n ≠ 4) : PC Tryz.prog false 34 [.lst n Y false] (.tup [.agg (acC { act0 with kind := 2 }), .bool false]) := by
  have hb : ((n : Int) != 4) = true := by simpa using (by omega : (n : Int) ≠ 4)
  refine acall_intro mixed Tryz.func34 rfl ca34 (by kernel_rfl) (by rw [Tryz.ntmps34]; simp) ?_
  refine w0 ?_ 
  rfl
theorem handR_in (x0 x1 x2 x3 : List UInt8) (h1 : x1.length < 1000000000) (h2 : x2.length < 1000000000) (h3 : x3.length < 1000000000) : PC Tryz.prog false 34 [.lst 4 [.str x0, .str x1, .str x2, .str x3] false] (.tup [.agg (acC (handR x1 x2 x3).1), .bool (handR x1 x2 x3).2]) := by
  have hu : ∀ {B : List Box}, ACall Tryz.prog 55 [.str x1] B fun c B' => c = .tup [.int .i64 (numR x1).1, .bool (numR x1).2] ∧ B' = B := numR_at h1
  have hv : ∀ {B : List Box}, ACall Tryz.prog 55 [.str x2] B fun c B' => c = .tup [.int .i64 (numR x2).1, .bool (numR x2).2] ∧ B' = B := numR_at h2
  have hk : ∀ {B : List Box}, ACall Tryz.prog 53 [.str x3] B fun c B' => c = .tup [lb (bytesR x3).1, .bool (bytesR x3).2] ∧ B' = B := bytesR_at h3
  unfold handR
  generalize numR x1 = r1 at *
  generalize numR x2 = r2 at *
  generalize bytesR x3 = r3 at *
  obtain ⟨n1, b1⟩ := r1
  obtain ⟨n2, b2⟩ := r2
  obtain ⟨l, b3⟩ := r3
  rw [lb] at hk
  dsimp only at *
  have hm : (l.map byteC).length = l.length := List.length_map _
  refine acall_intro mixed Tryz.func34 rfl ca34 (by kernel_rfl) (by rw [Tryz.ntmps34]; simp) ?_
  by_cases e1 : x1.length = 1
  rotate_left
  · have hb : ((x1.length : Int) != 1) = true := by simpa using (by omega : (x1.length : Int) ≠ 1)
    rw [if_neg (fun h => e1 h.1)]
    clear hu hv hk
    refine w0 ?_ 
    rfl
  by_cases e2 : x2.length = 1
  rotate_left
  · have hb : ((x2.length : Int) != 1) = true := by simpa using (by omega : (x2.length : Int) ≠ 1)
    rw [if_neg (fun h => e2 h.2.1)]
    clear hu hv hk
    refine w0 ?_ 
    rfl
  cases b1
  · rw [if_neg (fun h => by simpa using h.2.2.1)]
    refine w3 @hu @hv @hk ?_ 
    rfl
  cases b2
  · rw [if_neg (fun h => by simpa using h.2.2.2.1)]
    refine w3 @hu @hv @hk ?_ 
    rfl
  cases b3
  · rw [if_neg (fun h => by simpa using h.2.2.2.2.1)]
    refine w3 @hu @hv @hk ?_ 
    rfl
  by_cases e3 : l.length = 32
  rotate_left
  · have hb : ((l.length : Int) != 32) = true := by simpa using (by omega : (l.length : Int) ≠ 32)
    rw [if_neg (fun h => e3 h.2.2.2.2.2)]
    refine w3 @hu @hv @hk ?_ 
    rfl
  rw [if_pos ⟨e1, e2, rfl, rfl, rfl, e3⟩]
  have ht : (l.map byteC).take 32 = l.map byteC := List.take_of_length_le (by omega)
  refine w3 @hu @hv @hk ?_ 
  exact fz_acb { act0 with kind := 2, lo := n1, hi := n2, key := l } true
end Go.Proofs.YtcbdghgogmcllaaGreatDoor
end
section
namespace Go.Proofs.YtcbdghgogmcllaaGreatDoor
open Go Go.Sy
def namedR (x0 x1 : List UInt8) (tl : List (List UInt8)) : Ac × Bool :=
  if x1 = [48] ∨ x1 = [49] then
    match tl with
    | [] => if x0 = wAbort then ({ act0 with kind := 4, who := if x1 = [48] then 0 else 1 }, true) else if x0 = wKill then ({ act0 with kind := 5, who := if x1 = [48] then 0 else 1 }, true) else (act0, false)
    | [x2] => if x0 = wPick then ({ act0 with kind := 3, who := if x1 = [48] then 0 else 1, n := (numR x2).1 }, (numR x2).2) else if x0 = wCut then ({ act0 with kind := 7, who := if x1 = [48] then 0 else 1, n := (numR x2).1 }, (numR x2).2) else (act0, false)
    | [x2, x3] => if x0 = wCorrupt ∧ (bytesR x3).2 = true ∧ (bytesR x3).1.length = 1 then ({ act0 with kind := 6, who := if x1 = [48] then 0 else 1, n := (numR x2).1, xor := (bytesR x3).1.headD 0 }, (numR x2).2) else (act0, false)
    | _ => (act0, false)
  else (act0, false)
theorem namedR_bad (n : Nat) (x0 x1 : List UInt8) (Y : List CV) (hn : 2 ≤ n) (h1 : x1 ≠ [48]) (h2 : x1 ≠ [49]) : PC Tryz.prog false 35 [.lst n (.str x0 :: .str x1 :: Y) false] (.tup [.agg (acC act0), .bool false]) := by
  have b1 : (x1 != [48]) = true := by simpa using h1
  have b2 : (x1 != [49]) = true := by simpa using h2
  refine acall_intro mixed Tryz.func35 rfl ca35 (by kernel_rfl) (by rw [Tryz.ntmps35]; simp) ?_
  refine w0 ?_ 
  rfl
theorem namedR_0 (x0 x1 : List UInt8) (hx : x1 = [48] ∨ x1 = [49]) : PC Tryz.prog false 35 [.lst 2 [.str x0, .str x1] false] (.tup [.agg (acC (namedR x0 x1 []).1), .bool (namedR x0 x1 []).2]) := by
  rw [namedR, if_pos hx]
  dsimp only
  rcases hx with rfl | rfl
  all_goals
    by_cases e1 : x0 = wAbort
    · subst e1
      rw [if_pos rfl, wAbort]
      refine acall_intro mixed Tryz.func35 rfl ca35 (by kernel_rfl) (by rw [Tryz.ntmps35]; simp) ?_
      refine w0 ?_ 
      rfl
    rw [if_neg e1]
    have b1 : (x0 == wAbort) = false := by simpa using e1
    rw [wAbort] at b1
    by_cases e2 : x0 = wKill
    · subst e2
      rw [if_pos rfl, wKill]
      clear b1 e1
      refine acall_intro mixed Tryz.func35 rfl ca35 (by kernel_rfl) (by rw [Tryz.ntmps35]; simp) ?_
      refine w0 ?_ 
      rfl
    rw [if_neg e2]
    have b2 : (x0 == wKill) = false := by simpa using e2
    rw [wKill] at b2
    refine acall_intro mixed Tryz.func35 rfl ca35 (by kernel_rfl) (by rw [Tryz.ntmps35]; simp) ?_
    refine w0 ?_ 
    rfl
theorem namedR_1 (x0 x1 x2 : List UInt8) (hx : x1 = [48] ∨ x1 = [49]) (h2 : x2.length < 1000000000) : PC Tryz.prog false 35 [.lst 3 [.str x0, .str x1, .str x2] false] (.tup [.agg (acC (namedR x0 x1 [x2]).1), .bool (namedR x0 x1 [x2]).2]) := by
  have hu : ∀ {B : List Box}, ACall Tryz.prog 55 [.str x2] B fun c B' => c = .tup [.int .i64 (numR x2).1, .bool (numR x2).2] ∧ B' = B := numR_at h2
  rw [namedR, if_pos hx]
  dsimp only
  generalize numR x2 = r1 at *
  obtain ⟨n1, b⟩ := r1
  dsimp only at *
  rcases hx with rfl | rfl
  all_goals
    by_cases e1 : x0 = wPick
    · subst e1
      rw [if_pos rfl, wPick]
      refine acall_intro mixed Tryz.func35 rfl ca35 (by kernel_rfl) (by rw [Tryz.ntmps35]; simp) ?_
      refine w1 @hu ?_ 
      rfl
    rw [if_neg e1]
    have b1 : (x0 == wPick) = false := by simpa using e1
    rw [wPick] at b1
    by_cases e2 : x0 = wCut
    · subst e2
      rw [if_pos rfl, wCut]
      clear b1 e1
      refine acall_intro mixed Tryz.func35 rfl ca35 (by kernel_rfl) (by rw [Tryz.ntmps35]; simp) ?_
      refine w1 @hu ?_ 
      rfl
    rw [if_neg e2]
    have b2 : (x0 == wCut) = false := by simpa using e2
    rw [wCut] at b2
    refine acall_intro mixed Tryz.func35 rfl ca35 (by kernel_rfl) (by rw [Tryz.ntmps35]; simp) ?_
    refine w1 @hu ?_ 
    rfl
theorem namedR_2 (x0 x1 x2 x3 : List UInt8) (hx : x1 = [48] ∨ x1 = [49]) (h2 : x2.length < 1000000000) (h3 : x3.length < 1000000000) : PC Tryz.prog false 35 [.lst 4 [.str x0, .str x1, .str x2, .str x3] false] (.tup [.agg (acC (namedR x0 x1 [x2, x3]).1), .bool (namedR x0 x1 [x2, x3]).2]) := by
  have hu : ∀ {B : List Box}, ACall Tryz.prog 55 [.str x2] B fun c B' => c = .tup [.int .i64 (numR x2).1, .bool (numR x2).2] ∧ B' = B := numR_at h2
  have hk : ∀ {B : List Box}, ACall Tryz.prog 53 [.str x3] B fun c B' => c = .tup [lb (bytesR x3).1, .bool (bytesR x3).2] ∧ B' = B := bytesR_at h3
  rw [namedR, if_pos hx]
  dsimp only
  generalize numR x2 = r1 at *
  obtain ⟨n1, b⟩ := r1
  generalize bytesR x3 = r3 at *
  obtain ⟨l, b3⟩ := r3
  rw [lb] at hk
  dsimp only at *
  have hm : (l.map byteC).length = l.length := List.length_map _
  rcases hx with rfl | rfl
  all_goals
    by_cases e1 : x0 = wCorrupt
    rotate_left
    · rw [if_neg (fun h => e1 h.1)]
      have b1 : (x0 == wCorrupt) = false := by simpa using e1
      rw [wCorrupt] at b1
      clear hk hm
      refine acall_intro mixed Tryz.func35 rfl ca35 (by kernel_rfl) (by rw [Tryz.ntmps35]; simp) ?_
      refine w1 @hu ?_ 
      rfl
    subst e1
    cases b3
    · rw [if_neg (fun h => by simpa using h.2.1), wCorrupt]
      refine acall_intro mixed Tryz.func35 rfl ca35 (by kernel_rfl) (by rw [Tryz.ntmps35]; simp) ?_
      refine w2 @hu @hk ?_ 
      rfl
    by_cases e3 : l.length = 1
    rotate_left
    · have hb : ((l.length : Int) != 1) = true := by simpa using (by omega : (l.length : Int) ≠ 1)
      rw [if_neg (fun h => e3 h.2.2), wCorrupt]
      refine acall_intro mixed Tryz.func35 rfl ca35 (by kernel_rfl) (by rw [Tryz.ntmps35]; simp) ?_
      refine w2 @hu @hk ?_ 
      rfl
    rw [if_pos ⟨rfl, rfl, e3⟩, wCorrupt]
    clear hm
    match l, e3 with
    | [c], _ =>
    refine acall_intro mixed Tryz.func35 rfl ca35 (by kernel_rfl) (by rw [Tryz.ntmps35]; simp) ?_
    repeat' (first | (with_reducible first | apply jA | apply jB | apply jC | apply jD | apply jE | apply jF | apply jG | apply jH | apply jI | apply jJ | apply jK | apply jL | apply jM | apply jN | apply jO) | ((with_reducible apply jP); rfl) | ((first | ((with_reducible first | apply jR | apply jS | apply jT); rfl; rfl) | (with_reducible first | apply jU | apply jV | apply jW) | ((with_reducible first | apply jX | apply jY | apply jZ); rfl) | ((with_reducible first | apply kA | apply kB | apply kC); rfl)); all_goals (first | ((with_reducible show Is _ _); exact kE) | ((with_reducible refine fun (hc : (_ : Bool) = _) => ?_); (try simp only [xZ, xY, xP, reduceCtorEq] at hc); (try (have hx : True := hc; clear hx hc)); (try exact kX)) | ((with_reducible show ACall _ _ _ _ _); (first | ((with_reducible apply hu) <;> exact kD) | ((with_reducible apply hk) <;> exact kD))) | ((fail_if_success (with_reducible first | show Is _ _ | show ACall _ _ _ _ _)); (try ((with_reducible show _ ∨ _); exact kT))))))
    refine w_drawJ [0, 1, 2] [⟨[], false⟩, ⟨[], false⟩, ⟨[], false⟩] (fun _ => True) rfl rfl trivial ?_
    repeat' (first | (with_reducible first | apply jA | apply jB | apply jC | apply jD | apply jE | apply jF | apply jG | apply jH | apply jI | apply jJ | apply jK | apply jL | apply jM | apply jN | apply jO) | ((with_reducible apply jP); rfl) | ((first | ((with_reducible first | apply d_made | apply q_made); rfl; rfl)); (iterate 6 exact kE)) | ((first | ((with_reducible first | apply d_fop | apply q_fop); rfl; rfl)); (intro Bx hJ; (first | (obtain ⟨_, hJ1, hJ2⟩ := hJ) | (try simp only at hJ)); exact kE)) | ((first | ((with_reducible first | apply jR | apply jS | apply jT); rfl; rfl) | (with_reducible first | apply jU | apply jV | apply jW) | ((with_reducible first | apply jX | apply jY | apply jZ); rfl)); all_goals (first | ((with_reducible show Is _ _); exact kE) | ((with_reducible refine fun (hc : (_ : Bool) = _) => ?_); (try simp only [xZ, xY, xP, reduceCtorEq] at hc); (try (have hx : True := hc; clear hx hc)); (try exact kX)) | ((fail_if_success (with_reducible first | show Is _ _ | show ACall _ _ _ _ _)); (try ((with_reducible show _ ∨ _); first | exact .inl rfl | (refine .inr ⟨rfl, ?_, ?_⟩; (focus (repeat (first | exact trivial | refine ⟨.inl rfl, ?_⟩ | refine ⟨.inr rfl, ?_⟩ | refine ⟨.inr (by (simp (disch := first | omega | (simp only [yZ, yB] <;> omega) | fail) [go_sem, yY, *, -List.map_take, -List.map_drop, -List.map_append, -List.map_reverse])), ?_⟩))); (first | exact trivial | exact rfl | (refine ⟨_, ?_, ?_⟩; (focus (simp (disch := first | omega | (simp only [yZ, yB] <;> omega) | fail) [go_sem, yY, *, -List.map_take, -List.map_drop, -List.map_append, -List.map_reverse]; (try exact rfl))); (simp (disch := first | omega | (simp only [yZ, yB] <;> omega) | fail) [go_sem, yY, *, -List.map_take, -List.map_drop, -List.map_append, -List.map_reverse])) | (simp (disch := first | omega | (simp only [yZ, yB] <;> omega) | fail) [go_sem, yY, *, -List.map_take, -List.map_drop, -List.map_append, -List.map_reverse]))) | exact .inl (by (simp (disch := first | omega | (simp only [yZ, yB] <;> omega) | fail) [go_sem, yY, *, -List.map_take, -List.map_drop, -List.map_append, -List.map_reverse]))))))))
    refine w0 ?_ 
    rfl
theorem namedR_more (n : Nat) (x0 x1 x2 : List UInt8) (Y : List CV) (hn : 5 ≤ n) (hx : x1 = [48] ∨ x1 = [49]) (h2 : x2.length < 1000000000) : PC Tryz.prog false 35 [.lst n (.str x0 :: .str x1 :: .str x2 :: Y) false] (.tup [.agg (acC act0), .bool false]) := by
  have hu : ∀ {B : List Box}, ACall Tryz.prog 55 [.str x2] B fun c B' => c = .tup [.int .i64 (numR x2).1, .bool (numR x2).2] ∧ B' = B := numR_at h2
  have c2 : ((n : Int) == 2) = false := by simpa using (by omega : (n : Int) ≠ 2)
  have c3 : ((n : Int) == 3) = false := by simpa using (by omega : (n : Int) ≠ 3)
  have c4 : ((n : Int) == 4) = false := by simpa using (by omega : (n : Int) ≠ 4)
  generalize numR x2 = r1 at *
  rcases hx with rfl | rfl
  all_goals
    refine acall_intro mixed Tryz.func35 rfl ca35 (by kernel_rfl) (by rw [Tryz.ntmps35]; simp) ?_
    refine w1 @hu ?_ 
    rfl
end Go.Proofs.YtcbdghgogmcllaaGreatDoor
end
section
namespace Go.Proofs.YtcbdghgogmcllaaGreatDoor
open Go Go.Sy
def evR (x0 x1 : List UInt8) (tl : List (List UInt8)) : Ac × Bool := match tl with
  | [] => if x0 = wPlain then (evA { ev0 with kind := 1, bytes := (bytesR x1).1 }, (bytesR x1).2) else if x0 = wTick then (evA { ev0 with kind := 3, time := (numR x1).1 }, (numR x1).2) else if x0 = wEntropy then (evA { ev0 with kind := 4, bytes := (bytesR x1).1 }, (bytesR x1).2) else (evA ev0, false)
  | [x2] => if x0 = wDatagram then dgR x1 x2 else (evA ev0, false)
  | _ => (evA ev0, false)
def handX (x1 : List UInt8) (tl : List (List UInt8)) : Ac × Bool := match tl with
  | [x2, x3] => handR x1 x2 x3
  | _ => ({ act0 with kind := 2 }, false)
def isEv (x0 : List UInt8) : Bool := x0 == wPlain || x0 == wDatagram || x0 == wTick || x0 == wEntropy
def wordsR (w : List (List UInt8)) : Ac × Bool := match w with
  | x0 :: x1 :: tl => if isEv x0 then evR x0 x1 tl else if x0 = wHandoff then handX x1 tl else namedR x0 x1 tl
  | _ => (act0, false)
def lineR (s : List UInt8) : Ac × Bool := if s.take 8 = sCtl then ctlR (s.drop 8) else wordsR (splitL 32 s)
structure AcK (a : Ac) : Prop where
  ip : a.ev.ip.length = 16
  key : a.key.length = 32
theorem acK_len {a : Ac} (h : AcK a) : (acC a).length = 60 := by simp [acC, evC_len h.ip, h.key]
theorem ctlR_K (s : List UInt8) : AcK (ctlR s).1 := by
  unfold ctlR
  split <;> exact ⟨rfl, rfl⟩
theorem evR_K (x0 x1 : List UInt8) (tl : List (List UInt8)) : AcK (evR x0 x1 tl).1 := by
  unfold evR dgR
  repeat' split
  all_goals first | exact ⟨rfl, rfl⟩ | skip
  all_goals exact ⟨parseE_ip (by assumption), rfl⟩
theorem handX_K (x1 : List UInt8) (tl : List (List UInt8)) : AcK (handX x1 tl).1 := by
  unfold handX handR
  repeat' split
  all_goals first | exact ⟨rfl, rfl⟩ | skip
  rename_i h
  exact ⟨rfl, h.2.2.2.2.2⟩
theorem namedR_K (x0 x1 : List UInt8) (tl : List (List UInt8)) : AcK (namedR x0 x1 tl).1 := by
  unfold namedR
  repeat' split
  all_goals exact ⟨rfl, rfl⟩
section
variable {x0 x1 : List UInt8} {tl : List (List UInt8)} {n : Nat} {Y : List CV}
theorem evR_in (hn : n = tl.length + 2) (hY : Y = tl.map .str) (h1 : x1.length < 1000000000) (hl : ∀ x ∈ tl, x.length < 1000000000) (he : isEv x0 = true) : PC Tryz.prog false 33 [.lst n (.str x0 :: .str x1 :: Y) false] (.tup [.agg (acC (evR x0 x1 tl).1), .bool (evR x0 x1 tl).2]) := by
  subst hn hY
  have he' : ((x0 = wPlain ∨ x0 = wDatagram) ∨ x0 = wTick) ∨ x0 = wEntropy := by simpa [isEv] using he
  match tl, hl with
  | [], _ =>
    rcases he' with ((rfl | rfl) | rfl) | rfl
    · exact evR_Plain x1 h1
    · exact evR_miss 2 _ [.str x1] (fun _ => rfl) (by decide)
    · exact evR_Tick x1 h1
    · exact evR_Entropy x1 h1
  | [x2], hl =>
    rcases he' with ((rfl | rfl) | rfl) | rfl
    · exact evR_miss 3 _ [.str x1, .str x2] (by decide) (by decide)
    · exact evR_Datagram x1 x2 h1 (hl x2 (by simp))
    · exact evR_miss 3 _ [.str x1, .str x2] (by decide) (by decide)
    · exact evR_miss 3 _ [.str x1, .str x2] (by decide) (by decide)
  | x2 :: x3 :: tl, hl => exact evR_miss _ _ _ (fun h => by simp at h) (fun h => by simp at h)
theorem handX_in (hn : n = tl.length + 2) (hY : Y = tl.map .str) (h1 : x1.length < 1000000000) (hl : ∀ x ∈ tl, x.length < 1000000000) : PC Tryz.prog false 34 [.lst n (.str x0 :: .str x1 :: Y) false] (.tup [.agg (acC (handX x1 tl).1), .bool (handX x1 tl).2]) := by
  subst hn hY
  match tl, hl with
  | [], _ => exact handR_miss _ _ (by simp)
  | [x2], _ => exact handR_miss _ _ (by simp)
  | [x2, x3], hl => exact handR_in x0 x1 x2 x3 h1 (hl x2 (by simp)) (hl x3 (by simp))
  | x2 :: x3 :: x4 :: tl, _ => exact handR_miss _ _ (by simp)
theorem namedR_in (hn : n = tl.length + 2) (hY : Y = tl.map .str) (hl : ∀ x ∈ tl, x.length < 1000000000) : PC Tryz.prog false 35 [.lst n (.str x0 :: .str x1 :: Y) false] (.tup [.agg (acC (namedR x0 x1 tl).1), .bool (namedR x0 x1 tl).2]) := by
  subst hn hY
  by_cases hx : x1 = [48] ∨ x1 = [49]
  · match tl, hl with
    | [], _ => exact namedR_0 x0 x1 hx
    | [x2], hl => exact namedR_1 x0 x1 x2 hx (hl x2 (by simp))
    | [x2, x3], hl => exact namedR_2 x0 x1 x2 x3 hx (hl x2 (by simp)) (hl x3 (by simp))
    | x2 :: x3 :: x4 :: tl, hl =>
      have e : namedR x0 x1 (x2 :: x3 :: x4 :: tl) = (act0, false) := by unfold namedR; rw [if_pos hx]
      rw [e]
      exact namedR_more _ x0 x1 x2 _ (by simp) hx (hl x2 (by simp))
  · have e : namedR x0 x1 tl = (act0, false) := by unfold namedR; rw [if_neg hx]
    rw [e]
    exact namedR_bad _ x0 x1 _ (by omega) (fun h => hx (.inl h)) (fun h => hx (.inr h))
end
theorem lineR_in (s : List UInt8) (hs : s.length < 1000000) : PC Tryz.prog false 17 [.str s] (.tup [.agg (acC (lineR s).1), .bool (lineR s).2]) := by
  have hz := acC_zero
  have hzl := zA_len
  by_cases hp : s.take 8 = sCtl
  · have h8 : 8 ≤ s.length := by
      have := congrArg List.length hp
      rw [List.length_take] at this
      have h : sCtl.length = 8 := rfl
      omega
    rw [lineR, if_pos hp]
    have htk : (s.drop 8).take (s.length - 8) = s.drop 8 := List.take_of_length_le (by rw [List.length_drop]; omega)
    have hct : ∀ {B : List Box} {args : List CV}, Is args [.str ((s.drop 8).take (s.length - 8))] → ACall Tryz.prog 32 args B fun c B' => c = .tup [.agg (acC (ctlR (s.drop 8)).1), .bool (ctlR (s.drop 8)).2] ∧ B' = B := fun {B args} h => by
      have h : _ = _ := h
      rw [htk] at h
      subst h
      exact ctlR_at (by rw [List.length_drop]; omega)
    have ho : ∀ {nz : Bool} {B : List Box} {k : Nat}, omap (Go.Sy.fz nz false B (k + 3)) (acC (ctlR (s.drop 8)).1) = some (acC (ctlR (s.drop 8)).1) := acC_om
    have hl := acK_len (ctlR_K (s.drop 8))
    have ht : (acC (ctlR (s.drop 8)).1).take 60 = acC (ctlR (s.drop 8)).1 := List.take_of_length_le (by omega)
    generalize acC (ctlR (s.drop 8)).1 = Z at *
    generalize (ctlR (s.drop 8)).2 = b at *
    rw [sCtl] at hp
    clear hz hzl
    refine acall_intro mixed Tryz.func17 rfl ca17 (by kernel_rfl) (by rw [Tryz.ntmps17]; simp) ?_
    refine w1 @hct ?_ 
    simp [go_sem, ho]
  rw [lineR, if_neg hp]
  have hnum := splitL_num 32 s
  have hmem := splitL_mem 32 s
  have hsp : ∀ {B : List Box}, ACall Tryz.prog 24 [.str s, .int .u8 32] B fun c B' => c = .lst (splitL 32 s).length ((splitL 32 s).map .str) false ∧ B' = B := rsplit_at (b := 32) rfl (by omega)
  have hp8 : 8 ≤ s.length → (s.take 8 == sCtl) = false := fun _ => by simpa using hp
  rw [sCtl] at hp8
  generalize splitL 32 s = w at *
  rcases w with _ | ⟨x0, _ | ⟨x1, tl⟩⟩
  · simp only [wordsR]
    simp only [List.length_nil, List.map_nil] at hsp
    refine acall_intro mixed Tryz.func17 rfl ca17 (by kernel_rfl) (by rw [Tryz.ntmps17]; simp) ?_
    by_cases h8 : 8 ≤ s.length
    · have hp9 := hp8 h8
      refine w1 @hsp ?_ 
      rfl
    · refine w1 @hsp ?_ 
      rfl
  · simp only [wordsR]
    simp only [List.length_nil, List.length_cons, List.map_nil, List.map_cons] at hsp
    refine acall_intro mixed Tryz.func17 rfl ca17 (by kernel_rfl) (by rw [Tryz.ntmps17]; simp) ?_
    by_cases h8 : 8 ≤ s.length
    · have hp9 := hp8 h8
      refine w1 @hsp ?_ 
      rfl
    · refine w1 @hsp ?_ 
      rfl
  · simp only [wordsR]
    obtain ⟨n, hn⟩ : ∃ n, n = tl.length + 2 := ⟨_, rfl⟩
    obtain ⟨Y, hY⟩ : ∃ Y : List CV, Y = tl.map .str := ⟨_, rfl⟩
    have h1 : x1.length < 1000000000 := by have := hmem x1 (by simp); omega
    have hl : ∀ x ∈ tl, x.length < 1000000000 := fun x hx => by have := hmem x (by simp [hx]); omega
    have hnn : n < 1000000000 := by simp at hnum; omega
    rw [show (x0 :: x1 :: tl).length = n by simp [hn], show (x0 :: x1 :: tl).map CV.str = .str x0 :: .str x1 :: Y by rw [hY]; rfl] at hsp
    have hom : omap (Go.Sy.fz false false [] 6) [.lst n (.str x0 :: .str x1 :: Y) false] = some [.lst n (.str x0 :: .str x1 :: Y) false] := by rw [hY]; simp [omap_two, omap_nil, fz_lst, fz_str, omap_strs]
    have hev := fun he {B} => acall_imm (B := B) (nz := false) hom (evR_in (x0 := x0) hn hY h1 hl he)
    have hha := fun {B} => acall_imm (B := B) (nz := false) hom (handX_in (x0 := x0) hn hY h1 hl)
    have hna := fun {B} => acall_imm (B := B) (nz := false) hom (namedR_in (x0 := x0) (x1 := x1) hn hY hl)
    have hn2 : 2 ≤ n := by omega
    have hn3 : ¬ ((n : Int) < 2) := by omega
    clear hnum hmem h1 hl hY hom
    clear hn
    by_cases he : isEv x0 = true
    · rw [if_pos he]
      replace hev := fun {B} => @hev he B
      clear hha hna
      have ho : ∀ {nz : Bool} {B : List Box} {k : Nat}, omap (Go.Sy.fz nz false B (k + 3)) (acC (evR x0 x1 tl).1) = some (acC (evR x0 x1 tl).1) := acC_om
      have hl := acK_len (evR_K x0 x1 tl)
      have ht : (acC (evR x0 x1 tl).1).take 60 = acC (evR x0 x1 tl).1 := List.take_of_length_le (by omega)
      generalize acC (evR x0 x1 tl).1 = Z at *
      generalize (evR x0 x1 tl).2 = b at *
      have he' : ((x0 = wPlain ∨ x0 = wDatagram) ∨ x0 = wTick) ∨ x0 = wEntropy := by simpa [isEv] using he
      clear he
      rcases he' with ((rfl | rfl) | rfl) | rfl
      · rw [wPlain] at hev hsp
        refine acall_intro mixed Tryz.func17 rfl ca17 (by kernel_rfl) (by rw [Tryz.ntmps17]; simp) ?_
        by_cases h8 : 8 ≤ s.length
        · have hp9 := hp8 h8
          refine w2 @hsp @hev ?_ 
          simp [go_sem, ho]
        · refine w2 @hsp @hev ?_ 
          simp [go_sem, ho]
      · rw [wDatagram] at hev hsp
        refine acall_intro mixed Tryz.func17 rfl ca17 (by kernel_rfl) (by rw [Tryz.ntmps17]; simp) ?_
        by_cases h8 : 8 ≤ s.length
        · have hp9 := hp8 h8
          refine w2 @hsp @hev ?_ 
          simp [go_sem, ho]
        · refine w2 @hsp @hev ?_ 
          simp [go_sem, ho]
      · rw [wTick] at hev hsp
        refine acall_intro mixed Tryz.func17 rfl ca17 (by kernel_rfl) (by rw [Tryz.ntmps17]; simp) ?_
        by_cases h8 : 8 ≤ s.length
        · have hp9 := hp8 h8
          refine w2 @hsp @hev ?_ 
          simp [go_sem, ho]
        · refine w2 @hsp @hev ?_ 
          simp [go_sem, ho]
      · rw [wEntropy] at hev hsp
        refine acall_intro mixed Tryz.func17 rfl ca17 (by kernel_rfl) (by rw [Tryz.ntmps17]; simp) ?_
        by_cases h8 : 8 ≤ s.length
        · have hp9 := hp8 h8
          refine w2 @hsp @hev ?_ 
          simp [go_sem, ho]
        · refine w2 @hsp @hev ?_ 
          simp [go_sem, ho]
    rw [if_neg he]
    have he2 : (((x0 == wPlain) = false ∧ (x0 == wDatagram) = false) ∧ (x0 == wTick) = false) ∧ (x0 == wEntropy) = false := by simpa [isEv] using he
    obtain ⟨⟨⟨e1, e2⟩, e3⟩, e4⟩ := he2
    rw [wPlain] at e1
    rw [wDatagram] at e2
    rw [wTick] at e3
    rw [wEntropy] at e4
    clear hev he
    by_cases hh : x0 = wHandoff
    · rw [if_pos hh]
      clear hna
      have ho : ∀ {nz : Bool} {B : List Box} {k : Nat}, omap (Go.Sy.fz nz false B (k + 3)) (acC (handX x1 tl).1) = some (acC (handX x1 tl).1) := acC_om
      have hl := acK_len (handX_K x1 tl)
      have ht : (acC (handX x1 tl).1).take 60 = acC (handX x1 tl).1 := List.take_of_length_le (by omega)
      generalize acC (handX x1 tl).1 = Z at *
      generalize (handX x1 tl).2 = b at *
      subst hh
      rw [wHandoff] at hha hsp
      clear e1 e2 e3 e4
      refine acall_intro mixed Tryz.func17 rfl ca17 (by kernel_rfl) (by rw [Tryz.ntmps17]; simp) ?_
      by_cases h8 : 8 ≤ s.length
      · have hp9 := hp8 h8
        refine w2 @hsp @hha ?_ 
        simp [go_sem, ho]
      · refine w2 @hsp @hha ?_ 
        simp [go_sem, ho]
    rw [if_neg hh]
    have e5 : (x0 == wHandoff) = false := by simpa using hh
    rw [wHandoff] at e5
    clear hha hh
    have ho : ∀ {nz : Bool} {B : List Box} {k : Nat}, omap (Go.Sy.fz nz false B (k + 3)) (acC (namedR x0 x1 tl).1) = some (acC (namedR x0 x1 tl).1) := acC_om
    have hl := acK_len (namedR_K x0 x1 tl)
    have ht : (acC (namedR x0 x1 tl).1).take 60 = acC (namedR x0 x1 tl).1 := List.take_of_length_le (by omega)
    generalize acC (namedR x0 x1 tl).1 = Z at *
    generalize (namedR x0 x1 tl).2 = b at *
    refine acall_intro mixed Tryz.func17 rfl ca17 (by kernel_rfl) (by rw [Tryz.ntmps17]; simp) ?_
    by_cases h8 : 8 ≤ s.length
    · have hp9 := hp8 h8
      refine w2 @hsp @hna ?_ 
      simp [go_sem, ho]
    · refine w2 @hsp @hna ?_ 
      simp [go_sem, ho]
theorem lineR_at {B : List Box} {s : List UInt8} (hs : s.length < 1000000) : ACall Tryz.prog 17 [.str s] B fun c B' => c = .tup [.agg (acC (lineR s).1), .bool (lineR s).2] ∧ B' = B := acall_imm (nz := false) rfl (lineR_in s hs)
end Go.Proofs.YtcbdghgogmcllaaGreatDoor
end
section
namespace Go.Proofs.YtcbdghgogmcllaaGreatDoor
open Go Go.Sy
theorem sameEv_in (a b : Ev) (ha : EvL a) (hb : EvL b) : PC Tryz.prog true 36 [.agg (evC a), .agg (evC b)] (.bool (sameE a b)) := by
  have ia := ha.ip
  have ib := hb.ip
  obtain ⟨le, e0, e1, e19, e20, e21⟩ := ev_parts ia
  obtain ⟨lf, f0, f1, f19, f20, f21⟩ := ev_parts ib
  have la : a.bytes.length < 1000000 := ha.bytes
  have lb' : b.bytes.length < 1000000 := hb.bytes
  generalize evC a = E at *
  generalize evC b = F at *
  clear ha hb
  refine acall_intro mixed Tryz.func36 rfl ca36 (by kernel_rfl) (by rw [Tryz.ntmps36]; simp) ?_
  repeat' (first | (with_reducible first | apply jA | apply jB | apply jC | apply jD | apply jE | apply jF | apply jG | apply jH | apply jI | apply jJ | apply jK | apply jL | apply jM | apply jN | apply jO) | ((with_reducible first | apply jP | apply jQ); rfl) | ((first | ((with_reducible first | apply jR | apply jS | apply jT); rfl; rfl) | (with_reducible first | apply jU | apply jV | apply jW) | ((with_reducible first | apply jX | apply jY | apply jZ); rfl)); all_goals (first | ((with_reducible show Is _ _); exact kE) | ((with_reducible refine fun (hc : (_ : Bool) = _) => ?_); (try simp only [xZ, xY, xP, reduceCtorEq] at hc); (try (have hx : True := hc; clear hx hc)); (try exact kX)) | ((fail_if_success (with_reducible first | show Is _ _ | show ACall _ _ _ _ _)); (try ((with_reducible show _ ∨ _); exact kT))))))
  all_goals
    clear la lb' le lf e0 e1 e19 e20 e21 f0 f1 f19 f20 f21
    rw [fz_bool]
    simp [sameE, *]
theorem sameEv_at {B : List Box} {args : List CV} {a b : Ev} {t : Bool} (hz : Is (omap (fz true false B 6) args) (some [.agg (evC a), .agg (evC b)])) (ha : EvL a) (hb : EvL b) (ht : sameE a b = t) : ACall Tryz.prog 36 args B fun c B' => c = .bool t ∧ B' = B := by
  subst ht
  exact acall_fresh hz (sameEv_in a b ha hb)
theorem rsame_in (a b : Ac) (ha : AcL a) (hb : AcL b) : PC Tryz.prog true 18 [.agg (acC a), .agg (acC b)] (.bool (sameA a b)) := by
  have pa := ac_parts ha
  have pb := ac_parts hb
  have a0 := pa.d0; have a1 := pa.d1; have a23 := pa.d23; have a24 := pa.d24; have a25 := pa.d25; have a26 := pa.d26; have a27 := pa.d27; have a28 := pa.d28
  have b0 := pb.d0; have b1 := pb.d1; have b23 := pb.d23; have b24 := pb.d24; have b25 := pb.d25; have b26 := pb.d26; have b27 := pb.d27; have b28 := pb.d28
  have la := pa.len
  have lb' := pb.len
  have ka := ha.key
  have kb := hb.key
  have kta : a.key.take 32 = a.key := List.take_of_length_le (by omega)
  have ktb : b.key.take 32 = b.key := List.take_of_length_le (by omega)
  have hq : ∀ {B : List Box} {args : List CV}, Is (omap (fz true false B 6) args) (some [.agg (evC a.ev), .agg (evC b.ev)]) → ACall Tryz.prog 36 args B fun c B' => c = .bool (sameE a.ev b.ev) ∧ B' = B := fun hz => sameEv_at hz ha.ev hb.ev rfl
  have oa : ∀ {nz : Bool} {B : List Box} {k : Nat}, omap (Go.Sy.fz nz false B (k + 3)) (evC a.ev) = some (evC a.ev) := evC_om
  have ob : ∀ {nz : Bool} {B : List Box} {k : Nat}, omap (Go.Sy.fz nz false B (k + 3)) (evC b.ev) = some (evC b.ev) := evC_om
  have le := evC_len ha.ev.ip
  have lf := evC_len hb.ev.ip
  rw [List.drop_one] at a1 b1
  have hse : sameA a b = (a.kind == b.kind && a.who == b.who && a.n == b.n && a.xor == b.xor && a.lo == b.lo && a.hi == b.hi && a.key == b.key && sameE a.ev b.ev) := rfl
  rw [hse]
  generalize sameE a.ev b.ev = t at *
  generalize evC a.ev = E at *
  generalize evC b.ev = F at *
  generalize acC a = X at *
  generalize acC b = Y at *
  clear pa pb ha hb hse
  refine acall_intro mixed Tryz.func18 rfl ca18 (by kernel_rfl) (by rw [Tryz.ntmps18]; simp) ?_
  repeat' (first | (with_reducible first | apply jA | apply jB | apply jC | apply jD | apply jE | apply jF | apply jG | apply jH | apply jI | apply jJ | apply jK | apply jL | apply jM | apply jN | apply jO) | ((with_reducible first | apply jP | apply jQ); rfl) | ((first | ((with_reducible first | apply jR | apply jS | apply jT); rfl; rfl) | (with_reducible first | apply jU | apply jV | apply jW) | ((with_reducible first | apply jX | apply jY | apply jZ); rfl) | ((with_reducible first | apply kA | apply kB | apply kC); rfl)); all_goals (first | ((with_reducible show Is _ _); exact kE) | ((with_reducible refine fun (hc : (_ : Bool) = _) => ?_); (try simp only [xZ, xY, xP, reduceCtorEq] at hc); (try (have hx : True := hc; clear hx hc)); (try exact kX)) | ((with_reducible show ACall _ _ _ _ _); (first | ((with_reducible apply hq) <;> exact kD))) | ((fail_if_success (with_reducible first | show Is _ _ | show ACall _ _ _ _ _)); (try ((with_reducible show _ ∨ _); exact kT))))))
  all_goals
    clear hq la lb' le lf oa ob
    clear a23 a24 a25 a26 a27 a28 b23 b24 b25 b26 b27 b28 a0 a1 b0 b1
    have hx : (a.xor = b.xor) = ((a.xor.toNat : Int) = (b.xor.toNat : Int)) := propext ⟨fun h => by rw [h], fun h => UInt8.toNat_inj.1 (by omega)⟩
    rw [fz_bool]
    simp [hx, *]
theorem rsame_at {B : List Box} {args : List CV} {a b : Ac} {t : Bool} (hz : Is (omap (fz true false B 6) args) (some [.agg (acC a), .agg (acC b)])) (ha : AcL a) (hb : AcL b) (ht : sameA a b = t) : ACall Tryz.prog 18 args B fun c B' => c = .bool t ∧ B' = B := by
  subst ht
  exact acall_fresh hz (rsame_in a b ha hb)
end Go.Proofs.YtcbdghgogmcllaaGreatDoor
end
section
namespace Go.Sy
open Go.RowKit (Below)
section
variable {P : Program} {N n : Nat} {I0 I : Nat → Nat → Prop} {μ0 μ : List (List Place)} {B : List Box} {w0 w : World} {o : Oper} {a : Act} {fr : Fr} {ops : Array Oper}
theorem V.bptr_inv {β k : Nat} {ty : TypeId} {v : Value} (h : V I μ w (.bptr β ty k) v) : ∃ ps p, v = .pointer (some ⟨p.b, 0, none⟩) ∧ μ[β]? = some ps ∧ p ∈ ps ∧ p.lo = 0 ∧ p.o = 0 ∧ Whole w p.b ty k := by
  cases h with | bptr _ _ _ ps p hb hp hlo ho hw _ => exact ⟨ps, p, rfl, hb, hp, hlo, ho, hw⟩
theorem V.bptr_ptr {β k : Nat} {ty : TypeId} {v : Value} (h : V I μ w (.bptr β ty k) v) : V I μ w (.ptr β 0) v := by
  obtain ⟨ps, p, rfl, hb, hp, hlo, ho, hw⟩ := h.bptr_inv
  have := R.ptr (I := I) (w := w) (one := false) β 0 ps p hb hp (by omega) (.nil _)
  rw [ho] at this
  simpa using this
theorem AWc_block {id : Nat} {c : Code} {Q : Exit → Fr → List Box → Prop} (h : AWc P n c (inBlockC id Q) fr B) : AWc P n (.block id c) Q fr B := fun N I0 μ0 w0 I μ w a Q' hs hq => by
  refine wp_block (h N I0 μ0 w0 I μ w a _ hs fun ex fr' B' a' I' μ' w' hQ hst => ?_)
  cases ex with
  | exit i =>
    simp only [inBlockC] at hQ
    simp only [Exit.inBlock]
    split
    · rename_i hi; rw [if_pos hi] at hQ; exact hq _ _ _ _ _ _ _ hQ hst
    · rename_i hi; rw [if_neg hi] at hQ; exact hq _ _ _ _ _ _ _ hQ hst
  | _ => exact hq _ _ _ _ _ _ _ hQ hst
theorem AWc_loop {c : Code} {Q : Exit → Fr → List Box → Prop} (Inv : Fr → List Box → Prop) (m : Fr → List Box → Nat) (hi : Inv fr B) (hround : ∀ fr B, Inv fr B → AWc P n c (thenC (fun fr' B' => Inv fr' B' ∧ m fr' B' < m fr B) Q) fr B) : AWc P n (.loop c) Q fr B := fun N I0 μ0 w0 I μ w a Q' hs hq => by
  let X : Act → World → Nat → Prop := fun a w k => ∃ fr B I μ, Inv fr B ∧ St N n I0 μ0 w0 fr B a I μ w ∧ m fr B = k
  have least : ∀ a w, (∃ k, X a w k) → ∃ k, X a w k ∧ ∀ j, X a w j → k ≤ j := fun a w h => exists_least h
  have ⟨f, hf⟩ : ∃ f : Act → World → Nat, ∀ a w, (∃ k, X a w k) → X a w (f a w) ∧ ∀ j, X a w j → f a w ≤ j := by
    refine ⟨fun a w => Classical.epsilon fun k => X a w k ∧ ∀ j, X a w j → k ≤ j, fun a w h => ?_⟩
    exact Classical.epsilon_spec (least a w h)
  refine wp_loop (fun a w => ∃ k, X a w k) f ⟨_, fr, B, I, μ, hi, hs, rfl⟩ fun a w hX => ?_
  obtain ⟨⟨fr1, B1, I1, μ1, hi1, hs1, hm1⟩, hmin⟩ := hf a w hX
  refine hround fr1 B1 hi1 N I0 μ0 w0 I1 μ1 w a _ hs1 fun ex fr' B' a' I' μ' w' hQ hst => ?_
  cases ex with
  | normal =>
    obtain ⟨h1, h2⟩ := hQ
    have hX' : ∃ k, X a' w' k := ⟨_, fr', B', I', μ', h1, hst, rfl⟩
    refine ⟨hX', ?_⟩
    have := (hf a' w' hX').2 (m fr' B') ⟨fr', B', I', μ', h1, hst, rfl⟩
    omega
  | _ => exact hq _ _ _ _ _ _ _ hQ hst
theorem AWc_allocT {id : Nat} {d : Tmp} {t ty : TypeId} {pos : String} {after : Array Edge} {zs : List CV} {Q : Exit → Fr → List Box → Prop} (hd : decide (d < n) = true) (hz : zerosOf P t = some zs)
    (h : Q .normal (upd fr (some d) (.bptr B.length t zs.length)) (B ++ [⟨zs, false⟩])) : AWc P n (.region id [(⟨some d, .alloc t, ty, pos, after, none⟩ : Oper)].toArray false) Q fr B := by
  intro N I0 μ0 w0 I μ w a Q' hs hq
  have hd' : d < n := by simpa using hd
  refine wp_region_list ?_
  rw [List.toList_toArray]
  obtain ⟨z, hz1, hz2, hz3⟩ := zeros_rel (I := I) (μ := μ) (w := w) hz
  have hzs : z.cells.size = zs.length := by have := hz3.len; simp at this; omega
  obtain ⟨b1, b2⟩ := hs.box.push (alloc_heap w (.cells z.cells t (0, 0))) (fun j _ hj => by omega) hz3 (rest := []) (by simp)
  have hv : V I (μ ++ [[⟨w.heap.size, 0, 0, zs.length⟩]]) (w.alloc (.cells z.cells t)) (.bptr B.length t zs.length) (.pointer (some ⟨w.heap.size, 0, none⟩)) :=
    .bptr B.length t zs.length _ ⟨w.heap.size, 0, 0, zs.length⟩ (last_place hs.box _) (by simp) rfl rfl ⟨z.cells, push_new (alloc_heap w _), hzs⟩ (.nil _)
  have st : Step N I μ w (.bptr B.length t zs.length) (.pointer (some ⟨w.heap.size, 0, none⟩)) _ I _ (w.alloc (.cells z.cells t)) := ⟨hv, b1, b2, Below.of_heap hs.box.low (alloc_heap w _) rfl rfl rfl⟩
  have s1 := hs.put st (d := some d) (fun t ht => by cases ht; exact hd')
  unfold wpList
  rw [show Region.wanted (⟨some d, .alloc t, ty, pos, after, none⟩ : Oper) (yielded _ a.tmps) = true from rfl, if_pos rfl]
  left
  unfold Oper.wp
  rw [show (execOp a.eval (⟨some d, .alloc t, ty, pos, after, none⟩ : Oper)).run P w = .ok (.value (.pointer (some ⟨w.heap.size, 0, none⟩))) (w.alloc (.cells z.cells t)) by simp [execOp, Instr.alloc, hz1, newVar, newRow], Oper.upon_value]
  unfold wpList
  exact hq _ _ _ _ _ _ _ h s1
end
end Go.Sy
end
section
namespace Go.Proofs.YtcbdghgogmcllaaGreatDoor
open Go Go.Sy
open Go.RowKit (Below)
theorem tBp : Tryz.prog.underlying 74 = some (.pointer 76) := by kernel_rfl
theorem tUp : Tryz.prog.underlying 127 = some .unsafePointer := by kernel_rfl
theorem tSb : Tryz.prog.underlying 22 = some (.slice 5) := by kernel_rfl
theorem tSt : Tryz.prog.underlying 9 = some .string := by kernel_rfl
theorem u8_info : ∃ i z, Tryz.prog.info? 5 = some i ∧ i.size = 1 ∧ i.bytes = 1 ∧ i.zero = some z ∧ z.cells.size = 1 := by
  obtain ⟨i, h1, h2⟩ := Option.map_eq_some_iff.1 (show (Tryz.prog.info? 5).map (fun i => (i.zero, i.size, i.bytes)) = some (some (.int .u8 0), 1, 1) by kernel_rfl)
  simp only [Prod.mk.injEq] at h2
  exact ⟨i, _, h1, h2.2.1, h2.2.2, h2.1, rfl⟩
theorem tBi : ∃ j, Tryz.prog.info? 76 = some j ∧ j.size = 2 := by
  obtain ⟨j, h1, h2⟩ := Option.map_eq_some_iff.1 (show (Tryz.prog.info? 76).map (·.size) = some 2 by kernel_rfl)
  exact ⟨j, h1, h2⟩
theorem tBl : liesAt Tryz.prog Tryz.prog.depth 76 (2 / Tryz.prog.cellsOf 76) 0 76 1 = true := by kernel_rfl
theorem copyCheck_used (b o : Nat) (w : World) (h0 : w.cell? ⟨b, o, none⟩ = some (.pointer (some ⟨b, o, none⟩))) :
    Calls Tryz.prog 50 #[.pointer (some ⟨b, o, none⟩)] w fun e w' => e = .returned (.tuple #[]) ∧ w' = w := by
  obtain ⟨j, hj, _⟩ := tBi
  go_enter Tryz.func50, Tryz.ntmps50
  go_wp2
  rw [Lib.run_neq_ptr_same w _ tBp hj]
  go_wp2
  go_end0
  exact ⟨rfl, rfl⟩
theorem copyCheck_fresh (b : Nat) (w : World) (h0 : w.cell? ⟨b, 0, none⟩ = some (.pointer none)) (hsh : w.shape? b = some (76, 2)) (hfz : w.frozen? ⟨b, 0, none⟩ = false) :
    Calls Tryz.prog 50 #[.pointer (some ⟨b, 0, none⟩)] w fun e w' => e = .returned (.tuple #[]) ∧ w' = w.setCell ⟨b, 0, none⟩ (.pointer (some ⟨b, 0, none⟩)) := by
  obtain ⟨j, hj, hjs⟩ := tBi
  go_enter Tryz.func50, Tryz.ntmps50
  go_wp2
  rw [Lib.run_to_unsafe w ⟨b, 0, none⟩ tBp tUp hj (by rw [hjs]; decide) hsh (Nat.zero_lt_succ 1)]
  simp only [Result.andThen]
  rw [Oper.upon_value]
  go_wp2
  rw [run_callFunc_extern Tryz.func92 (by kernel_rfl) (by kernel_rfl) (by kernel_rfl) (e := Extern.AbiNoEscape.same) (by kernel_rfl)]
  rw [Lib.run_noEscape]
  simp only [Result.andThen]
  rw [Oper.upon_value]
  go_wp2
  rw [Lib.run_from_unsafe w ⟨b, 0, none⟩ tUp tBp hj hsh tBl]
  simp only [Result.andThen]
  rw [Oper.upon_value]
  go_wp2
  go_end0
  exact ⟨rfl, rfl⟩
section
variable {N n : Nat} {I0 I : Nat → Nat → Prop} {μ0 μ : List (List Sy.Place)} {B : List Box} {w0 w : World} {a : Act} {fr : Fr} {ops : Array Oper}
theorem cc_used {β : Nat} {bc : CV} {args : List CV} (ha : Is args [.ptr β 0]) (hB : B[β]? = some ⟨[.ptr β 0, bc], false⟩) : ACall Tryz.prog 50 args B fun c B' => c = .tup [] ∧ B' = B := by
  have ha : args = _ := ha
  subst ha
  refine ⟨by kernel_rfl, fun N I μ w vs hBR hv => ?_⟩
  obtain ⟨v, vs', rfl, h1, _, h3⟩ := R.cons_iff.1 hv
  rw [R.nil_iff] at h3
  subst h3
  obtain ⟨p, us, p1, rfl, p3, p4⟩ := box_ptr hBR h1 hB rfl
  obtain ⟨u, us', rfl, h4, _, _⟩ := R.cons_iff.1 p3
  obtain ⟨p', us2, q1, rfl, _, _⟩ := box_ptr hBR h4 hB rfl
  have he : p' = p := by rw [p1] at q1; simpa using q1.symm
  subst he
  have h0 := p4 0 _ rfl
  refine (copyCheck_used p'.b (p'.o + 0) w h0).mono fun e w' ⟨he, hw⟩ => ⟨.tup [], .tuple #[], B, I, μ, he, ⟨rfl, rfl⟩, ?_⟩
  subst hw
  exact ⟨.tup (.nil _) (.nil _), hBR, .refl _ _ _, Below.refl _ _⟩
theorem cc_fresh {β : Nat} {bc : CV} {v : Value} (hBR : BRel N I μ B w) (hv : V I μ w (.ptr β 0) v) (hB : B[β]? = some ⟨[.nilP, bc], false⟩) (hsh : ∃ b, v = .pointer (some ⟨b, 0, none⟩) ∧ w.shape? b = some (76, 2)) :
    Calls Tryz.prog 50 #[v] w fun e w' => e = .returned (.tuple #[]) ∧ Step N I μ w (.tup []) (.tuple #[]) (B.set β ⟨[.ptr β 0, bc], false⟩) I μ w' := by
  obtain ⟨p, us, p1, hve, p3, p4⟩ := box_ptr hBR hv hB rfl
  obtain ⟨b, hb, hs⟩ := hsh
  subst hve
  have hb0 := hb
  simp at hb
  obtain ⟨rfl, ho⟩ := hb
  obtain ⟨u, us', rfl, h4, _, _⟩ := R.cons_iff.1 p3
  have h0 := p4 0 _ rfl
  rw [h4.nilP_inv, ho] at h0
  obtain ⟨p', q1, q2, q3, q4, q5, q6, q8⟩ := one_place hBR hB rfl p1 (List.mem_singleton.2 rfl)
  have he : p' = p := by rw [p1] at q1; simpa using q1.symm
  subst he
  have hf := (q8.cell (j := 0) (by simp)).2
  rw [hb0]
  refine (copyCheck_fresh p'.b w h0 hs hf).mono fun e w' ⟨he, hw⟩ => ⟨he, ?_⟩
  have hr : R I μ w true [.ptr β 0] [.pointer (some ⟨p'.b, 0, none⟩)] := R.cons (by rw [← hb0]; exact hv) (fun _ => rfl) (.nil _)
  obtain ⟨w1, w2, w3⟩ := hBR.write (off := 0) hB rfl p1 hr (by simp)
  rw [ho] at w1 w2 w3
  subst hw
  exact ⟨.tup (.nil _) (.nil _), w1, w2, w3⟩
theorem still_step {o : Oper} {c : CV} {rest : List Oper} {Q' : Exit → Act → World → Prop} {v : Value} (hs : St N n I0 μ0 w0 fr B a I μ w) (hg : o.guard = none) (hd : dstOk n o = true) (hnd : noDefer o = true) (hr : (execOp a.eval o).run Tryz.prog w = .ok (.value v) w) (hv : V I μ w c v)
    (k : ∀ a', (∀ i, a'.tmps.getD i undef = if o.dst = some i then v else a.tmps.getD i undef) → St N n I0 μ0 w0 (upd fr o.dst c) B a' I μ w → wpListIn (freeF none) 0 Tryz.prog ops Q' rest a' w) : wpListIn (freeF none) 0 Tryz.prog ops Q' (o :: rest) a w := by
  have hd' : ∀ t, o.dst = some t → t < n := fun t ht => by simpa [dstOk, ht] using hd
  unfold wpListIn
  rw [show Region.wanted o (yielded ops a.tmps) = true by unfold Region.wanted; rw [hg], if_pos rfl]
  refine wp_free hnd ?_
  unfold Oper.wp
  rw [hr, Oper.upon_value]
  exact k _ (put_getD a o.dst v (fun t ht => by rw [hs.size]; exact hd' t ht)) (hs.put ⟨hv, hs.box, .refl _ _ _, Below.refl _ _⟩ hd')
theorem run_region {id : Nat} {l : List Oper} {Q' : Exit → Act → World → Prop} (h : wpListIn (freeF none) 0 Tryz.prog l.toArray Q' l a w) : (Code.region id l.toArray false).wp Tryz.prog Q' a w :=
  (wpIn_wide (n := 0)).1 (wpIn_region_list (F := freeF none) (by simpa using h))
theorem ws_first {β : Nat} {v : Value} {s : List UInt8} (hBR : BRel N I μ B w) (hv : V I μ w (.ptr β 0) v) (hB : B[β]? = some ⟨[.nilP, .nilS], false⟩) (hsh : ∃ b, v = .pointer (some ⟨b, 0, none⟩) ∧ w.shape? b = some (76, 2)) (hs0 : s ≠ []) (hsl : s.length < 1000000000) :
    Calls Tryz.prog 27 #[v, .string ⟨s.toArray⟩] w fun e w' => ∃ c v' B' I' μ', e = .returned v' ∧ (c = .tup [.int .i64 s.length, .nilI] ∧ B' = B.set β ⟨[.ptr β 0, .bview B.length s.length 5], false⟩ ++ [⟨s.map byteC, false⟩]) ∧ Step N I μ w c v' B' I' μ' w' := by
  have hβ := (List.getElem?_eq_some_iff.1 hB).1
  have hargs : R I μ w false [.ptr β 0, .str s] [v, .string ⟨s.toArray⟩] := .cons hv (by simp) (.str s (.nil _))
  refine call_intro mixed.quiet Tryz.func27 rfl hBR hargs (by rw [Tryz.ntmps27]; simp) fun a Q' hst hq => ?_
  have h0t := hst.frame 0
  refine wp_seq (run_region ?_)
  refine still_step (c := .int .i64 0) (v := .int .i64 0) hst rfl rfl rfl (by simp [execOp]; rfl) (.int _ _ (.nil _)) fun a1 e1 s1 => ?_
  refine still_step (c := .nilI) (v := .nilIface) s1 rfl rfl rfl (by simp [execOp]; rfl) (.nilI (.nil _)) fun a2 e2 s2 => ?_
  have hu : ∀ {u : Value}, V I μ w (.ptr β 0) u → u = v := fun {u} h => by
    obtain ⟨p, _, p1, p2, _, _⟩ := box_ptr hBR h hB rfl
    obtain ⟨p', _, q1, q2, _, _⟩ := box_ptr hBR hv hB rfl
    have he : p' = p := by rw [p1] at q1; simpa using q1.symm
    rw [p2, q2, he]
  have hv0 := hu h0t
  unfold wpListIn
  refine wp_seq (run_region ?_)
  have t2 : a2.tmps.getD 0 undef = v := by rw [e2, if_neg (by simp), e1, if_neg (by simp), hv0]
  refine still_step (c := .ptr β 0) (v := v) s2 rfl rfl rfl (by simp [execOp]; exact t2) hv fun a3 e3 s3 => ?_
  have t3 : a3.tmps.getD 6 undef = v := by rw [e3, if_pos rfl]
  unfold wpListIn
  rw [show Region.wanted _ (yielded _ a3.tmps) = true from rfl, if_pos rfl]
  refine wp_free rfl ?_
  unfold Oper.wp
  have hrun : ∀ (o : Oper) (ts : Array TypeId), o.op = .call { callee := .value (.func 50), args := #[.tmp 6], argTypes := ts } → (execOp a3.eval o).run Tryz.prog w = .ok (.enter 50 #[v]) w := fun o ts ho => by
    simp only [execOp, ho, resolve, Act.eval, Deferred.ofValue, Sem.run_bind, Sem.run_pure, Result.andThen_ok, invoke]
    rw [callable_run (by kernel_rfl)]
    simp [Act.eval, t3]
  rw [hrun _ _ rfl, Oper.upon_enter]
  refine (cc_fresh hBR hv hB hsh).mono fun e w' ⟨he, hstep⟩ => ?_
  subst he
  have s4 := s3.put hstep (d := some 7) (fun t ht => by cases ht; decide)
  have hx := bx_pack hB
  obtain ⟨p1, p2, p3, p4, p5, p6, p7, p8, p9, p10, p11, p12, p13⟩ := hx
  have hl0 : s.length ≠ 0 := by simpa using hs0
  obtain ⟨i, z, hi, hi1, hib, hiz, hz1⟩ := u8_info
  refine (?_ : AWc Tryz.prog Tryz.f27.ntmps _ (retC Tryz.prog Tryz.f27.results.toList _) _ _) N I μ w I μ w' _ Q' s4 hq
  refine AWc_seq ?_
  refine AWc_bld (l1 := [_, _, _, _, _, _]) (l2 := [_, _, _]) rfl (by rfl) (by rfl) ?_
  repeat' (first | (with_reducible first | apply jA | apply jB | apply jC | apply jD | apply jE | apply jF | apply jG | apply jH | apply jI | apply jJ | apply jK | apply jL | apply jM | apply jN | apply jO) | ((with_reducible first | apply jP | apply jQ); rfl) | ((first | ((with_reducible first | apply jR | apply jS | apply jT); rfl; rfl) | (with_reducible first | apply jU | apply jV | apply jW) | ((with_reducible first | apply jX | apply jY | apply jZ); rfl)); all_goals (first | ((with_reducible show Is _ _); exact kE) | ((with_reducible refine fun (hc : (_ : Bool) = _) => ?_); (try simp only [xZ, xY, xP, reduceCtorEq] at hc); (try (have hx : True := hc; clear hx hc)); (try exact kX)) | ((fail_if_success (with_reducible first | show Is _ _ | show ACall _ _ _ _ _)); (try ((with_reducible show _ ∨ _); exact kT))))))
  refine ⟨_, _, _, _, _, i, z, [], s, (B.set β ⟨[.ptr β 0, .nilS], false⟩).length, _, rfl, rfl, rfl, tSb, tSt, hi, hi1, hib, hiz, hz1, hs0, by simp; omega, kS, .inl ⟨kS, rfl, rfl, rfl⟩, ?_⟩
  repeat' (first | (with_reducible first | apply jA | apply jB | apply jC | apply jD | apply jE | apply jF | apply jG | apply jH | apply jI | apply jJ | apply jK | apply jL | apply jM | apply jN | apply jO) | ((with_reducible first | apply jP | apply jQ); rfl) | ((first | ((with_reducible first | apply jR | apply jS | apply jT); rfl; rfl) | (with_reducible first | apply jU | apply jV | apply jW) | ((with_reducible first | apply jX | apply jY | apply jZ); rfl)); all_goals (first | ((with_reducible show Is _ _); exact kE) | ((with_reducible refine fun (hc : (_ : Bool) = _) => ?_); (try simp only [xZ, xY, xP, reduceCtorEq] at hc); (try (have hx : True := hc; clear hx hc)); (try exact kX)) | ((fail_if_success (with_reducible first | show Is _ _ | show ACall _ _ _ _ _)); (try ((with_reducible show _ ∨ _); exact kT))))))
  refine WPc_sound mixed.mixed _ _ _ _ (by kernel_rfl) ?_
  repeat' (first | (with_reducible first | apply jA | apply jB | apply jC | apply jD | apply jE | apply jF | apply jG | apply jH | apply jI | apply jJ | apply jK | apply jL | apply jM | apply jN | apply jO) | ((with_reducible first | apply jP | apply jQ); rfl) | ((first | ((with_reducible first | apply jR | apply jS | apply jT); rfl; rfl) | (with_reducible first | apply jU | apply jV | apply jW) | ((with_reducible first | apply jX | apply jY | apply jZ); rfl)); all_goals (first | ((with_reducible show Is _ _); exact kE) | ((with_reducible refine fun (hc : (_ : Bool) = _) => ?_); (try simp only [xZ, xY, xP, reduceCtorEq] at hc); (try (have hx : True := hc; clear hx hc)); (try exact kX)) | ((fail_if_success (with_reducible first | show Is _ _ | show ACall _ _ _ _ _)); (try ((with_reducible show _ ∨ _); exact kT))))))
  exact ⟨rfl, rfl⟩
theorem ws_first' {β : Nat} {v : Value} {s : List UInt8} (hBR : BRel N I μ B w) (hv : V I μ w (.bptr β 76 2) v) (hB : B[β]? = some ⟨[.nilP, .nilS], false⟩) (hs0 : s ≠ []) (hsl : s.length < 1000000000) :
    Calls Tryz.prog 27 #[v, .string ⟨s.toArray⟩] w fun e w' => ∃ c v' B' I' μ', e = .returned v' ∧ (c = .tup [.int .i64 s.length, .nilI] ∧ B' = B.set β ⟨[.ptr β 0, .bview B.length s.length 5], false⟩ ++ [⟨s.map byteC, false⟩]) ∧ Step N I μ w c v' B' I' μ' w' := by
  obtain ⟨ps, p, rfl, h1, h2, h3, h4, ⟨cells, h5, h6⟩⟩ := hv.bptr_inv
  exact ws_first hBR hv.bptr_ptr hB ⟨p.b, rfl, by simp only [World.shape?, h5, h6]⟩ hs0 hsl
theorem ws_at {β γ : Nat} {m : Bool} {l s : List UInt8} {args : List CV} (ha : Is args [.ptr β 0, .str s]) (hB : B[β]? = some ⟨[.ptr β 0, .bview γ l.length 5], false⟩) (hG : B[γ]? = some ⟨l.map byteC, m⟩) (hne : β ≠ γ) (hs0 : s ≠ []) (hl : l.length + s.length < 1000000000) :
    ACall Tryz.prog 27 args B fun c B' => c = .tup [.int .i64 s.length, .nilI] ∧ B' = (B.set γ ⟨(l ++ s).map byteC, true⟩).set β ⟨[.ptr β 0, .bview γ (l.length + s.length) 5], false⟩ := by
  have ha : args = _ := ha
  subst ha
  obtain ⟨i, z, hi, hi1, hib, hiz, hz1⟩ := u8_info
  have hcc : ∀ {args : List CV}, Is args [.ptr β 0] → ACall Tryz.prog 50 args B fun c B' => c = .tup [] ∧ B' = B := fun h => cc_used h hB
  have hβ : (B.set γ ⟨(l ++ s).map byteC, true⟩)[β]? = some ⟨[.ptr β 0, .bview γ l.length 5], false⟩ := by rw [List.getElem?_set_ne (Ne.symm hne), hB]
  refine acall_AWc mixed Tryz.func27 rfl (by kernel_rfl) (by rw [Tryz.ntmps27]; simp) ?_
  refine AWc_w mixed (by kernel_rfl) (fun fr2 B2 => fr2 0 = .ptr β 0 ∧ fr2 1 = .str s ∧ B2 = B) ?_ ?_
  · refine w0 ?_ 
    exact ⟨kS, kS, rfl⟩
  rintro fr B2 ⟨f0, f1, rfl⟩
  refine AWc_w mixed (by kernel_rfl) (fun fr2 B3 => fr2 0 = .ptr β 0 ∧ fr2 1 = .str s ∧ B3 = B2) ?_ ?_
  · refine w1 @hcc ?_ 
    exact ⟨kS, kS, rfl⟩
  clear f0 f1 fr
  rintro fr B ⟨f0, f1, rfl⟩
  refine AWc_seq ?_
  refine AWc_bld (l1 := [_, _, _, _, _, _]) (l2 := [_, _, _]) rfl (by rfl) (by rfl) ?_
  refine w0 ?_ 
  refine ⟨_, _, _, _, _, i, z, l, s, γ, _, rfl, rfl, rfl, tSb, tSt, hi, hi1, hib, hiz, hz1, hs0, by omega, kS, .inr ⟨m, kS, hG, rfl⟩, ?_⟩
  refine w0 ?_ 
  refine WPc_sound mixed.mixed _ _ _ _ (by kernel_rfl) ?_
  refine w0 ?_ 
  exact ⟨rfl, rfl⟩
end
end Go.Proofs.YtcbdghgogmcllaaGreatDoor
end
section
namespace Go.Proofs.YtcbdghgogmcllaaGreatDoor
open Go Go.Sy
open Go.RowKit (Below)
section
variable {N n : Nat} {I0 I : Nat → Nat → Prop} {μ0 μ : List (List Sy.Place)} {B : List Box} {w0 w : World} {a : Act} {fr : Fr} {ops : Array Oper}
theorem want_none {o : Oper} (h : o.guard = none) : Region.wanted o (yielded ops a.tmps) = true := by unfold Region.wanted; rw [h]
theorem string_run (b o g cap : Nat) (l : List UInt8) (w : World) (hg : N ≤ g) (c1 : w.cell? ⟨b, o + 1, none⟩ = some (.slice (some ⟨g, 0, none⟩) l.length cap)) (hcap : cap ≠ 0) (hl : l ≠ []) (hlen : l.length < 1000000000) (hsh : ∃ c, w.shape? g = some (5, c) ∧ l.length ≤ c) (hcells : ∀ (j : Nat) (x : UInt8), l[j]? = some x → w.cell? ⟨g, j, none⟩ = some (.int .u8 x.toNat)) :
    Calls Tryz.prog 28 #[.pointer (some ⟨b, o, none⟩)] w fun e w' => e = .returned (.string ⟨l.toArray⟩) ∧ Below N w w' ∧ ∀ k, k ≠ g → w'.heap[k]? = w.heap[k]? := by
  have hl0 : l.length ≠ 0 := by simpa using hl
  obtain ⟨c, hs1, hs2⟩ := hsh
  have c1' : w.drew.cell? ⟨b, o + 1, none⟩ = some (.slice (some ⟨g, 0, none⟩) l.length cap) := c1
  have tP : Tryz.prog.underlying 105 = some (.pointer 5) := by kernel_rfl
  have hSD : (Builtin.unsafeSliceData_ #[22] 105 #[.slice (some ⟨g, 0, none⟩) l.length cap]).run Tryz.prog w.drew = .ok (.pointer (some ⟨g, 0, none⟩)) w.drew := Lib.run_unsafeSliceData_row _ _ _ _ _ _ hcap
  have hUS : (Builtin.unsafeString_ #[105, 3] 9 #[.pointer (some ⟨g, 0, none⟩), .int .i64 l.length]).run Tryz.prog w.drew = .ok (.string ⟨l.toArray⟩) (w.drew.freeze ⟨g, 0, none⟩ l.length) :=
    Lib.run_unsafeString_row w.drew 105 3 9 5 tP (by kernel_rfl) g c hs1 l hl hs2 (by omega) (fun j x hx => by rw [Addr.add_lit, Nat.zero_add]; exact hcells j x hx)
  go_enter Tryz.func28, Tryz.ntmps28
  go_wp2
  go_region
  all_goals (go_wp2; go_ret)
  all_goals
    refine ⟨rfl, Lib.below_freeze (Below.drew (Below.refl N w)) (p := ⟨g, 0, none⟩) hg _, fun k hk => ?_⟩
    simp only [World.freeze]
    split
    · rfl
    · rw [Array.getElem?_modify, if_neg (Ne.symm hk)]; rfl
theorem AWz_string {id : Nat} {d d1 : Tmp} {β γ : Nat} {mm : Bool} {l : List UInt8} {o : Oper} {ts : Array TypeId} {l2 : List Oper} {Q : Exit → Fr → List Box → Prop} (h1 : o.op = .call { callee := .value (.func 28), args := #[.tmp d], argTypes := ts }) (e1 : o.dst = some d1) (g1 : o.guard = none) (k1 : d1 < n) (n2 : l2.all noDefer = true)
    (hd : fr d = .ptr β 0) (hβ : B[β]? = some ⟨[.ptr β 0, .bview γ l.length 5], false⟩) (hγ : B[γ]? = some ⟨l.map byteC, mm⟩) (hl : l ≠ []) (hlen : l.length < 1000000000)
    (h : ∀ vs : Nat → Value, WPo Tryz.prog n (o :: l2).toArray (fun fr B => Q .normal fr B) l2 (upd (fun i => .raw (vs i)) (some d1) (.str l)) []) : AWz Tryz.prog n (.region id (o :: l2).toArray false) Q fr B := by
  intro N I0 w0 I μ w a Q' h0 hs hq
  refine (wpIn_wide (n := 0)).1 (wpIn_region_list (F := freeF none) ?_)
  rw [show (o :: l2).toArray.toList = o :: l2 by simp]
  have hB := hs.box
  have hv := hs.frame d
  rw [hd] at hv
  obtain ⟨p, us, p1, p2, p3, p4⟩ := box_ptr hB hv hβ rfl
  obtain ⟨u0, us0, rfl, _, _, r3⟩ := R.cons_iff.1 p3
  obtain ⟨u1, us1, rfl, r4, _, _⟩ := R.cons_iff.1 r3
  have c1 := p4 1 _ rfl
  obtain ⟨ps, q, cap, rfl, q1, q2, q3, q4, q5, q6, q7, q8, q9⟩ := r4.bview_inv
  obtain ⟨_, vs, g1', g2', g3', _⟩ := view_cells hB hγ q1 q2 (off := 0) (n := l.length) (sz := 1) (by omega) (by omega) (s := 0) (e := l.length) (Nat.le_refl _) (by omega)
  have hnew : w0.heap.size ≤ q.b := hs.ext.news γ ps (Nat.zero_le _) q1 q q2
  have hNq : N ≤ q.b := (hB.places γ ps q q1 q2).1
  have hcells : ∀ (j : Nat) (x : UInt8), l[j]? = some x → w.cell? ⟨q.b, j, none⟩ = some (.int .u8 x.toNat) := fun j x hx => by
    have hjl := (List.getElem?_eq_some_iff.1 hx).1
    obtain ⟨v, k1, k2, _⟩ := g1'.get (i := j) (c := byteC x) (by rw [List.getElem?_take, if_pos hjl, List.drop_zero, List.getElem?_map, hx]; rfl)
    have k3 := g3' j v k1
    rw [q3, q4, k2.int_inv] at k3
    simpa using k3
  obtain ⟨cs, hqc⟩ := q9
  have hfc : l.length ≤ cs.size := by
    obtain ⟨cells, ty, fz, f1, f2, _⟩ := q8
    rw [hqc] at f1; cases f1; omega
  unfold wpListIn
  rw [want_none g1, if_pos rfl]
  refine wp_free (by simp [noDefer, h1]) ?_
  unfold Oper.wp
  have hrun : (execOp a.eval o).run Tryz.prog w = .ok (.enter 28 #[.pointer (some ⟨p.b, p.o + 0, none⟩)]) w := by
    simp only [execOp, h1, resolve, Act.eval, Deferred.ofValue, Sem.run_bind, Sem.run_pure, Result.andThen_ok, invoke]
    rw [callable_run (by kernel_rfl)]
    simp only [← p2]
    simp [Act.eval]
  rw [hrun, Oper.upon_enter]
  refine (string_run (N := N) p.b (p.o + 0) q.b cap l w hNq c1 q7 hl hlen ⟨_, by rw [World.shape?, hqc], hfc⟩ hcells).mono fun e w' ⟨he, hbel, hsame⟩ => ?_
  subst he
  have hold : ∀ b, b < w0.heap.size → w'.heap[b]? = w.heap[b]? := fun b hb => hsame b (by omega)
  have hext : Ext I0 [] w0 I0 [] w' := ⟨⟨fun _ _ h => h, fun b j hj => (cell_same (hold b (h0.imm b j hj))).trans (hs.ext.same b j hj), fun b n hf => (hs.ext.free b n hf).of_same (hold b hf.lt), fun b hf => (hs.ext.plain b hf).of_same (hold b hf.lt), fun β ps h => by simp at h, fun r es c hi hx => (hold r (Array.getElem?_eq_some_iff.1 hx).1).trans (hs.ext.maps r es c hi hx)⟩,
    Nat.le_trans hs.ext.size hbel.size, fun β ps ps' h => by simp at h, fun β ps _ h => by simp at h, fun _ _ h => .inl h, fun β h => by simp at h, fun b ob k1 k2 => (hold b (Array.getElem?_eq_some_iff.1 k1).1).trans (hs.ext.oth b ob k1 k2)⟩
  have hbr : BRel N I0 [] [] w' := ⟨rfl, Nat.le_trans h0.low hext.size, fun b j hj => Nat.lt_of_lt_of_le (h0.imm b j hj) hext.size, fun β ps p h => by simp at h, fun β β' ps ps' p p' h => by simp at h, fun β box h => by simp at h, fun β box ps p h => by simp at h, h0.tabs.keep hext.toKeep⟩
  have hoth : Oth w w' := fun b ob k1 k2 => (hsame b (by rintro rfl; rw [hqc] at k1; cases k1; simp [Obj.isCells] at k2)).trans k1
  have hst : St N n I0 [] w0 (upd (fun i => .raw (a.tmps.getD i undef)) (some d1) (.str l)) [] (a.put o.dst (.string ⟨l.toArray⟩)) I0 [] w' := by
    refine ⟨by rw [e1]; simp [Act.put, hs.size], by rw [e1]; exact hs.defers.ext hoth, fun i => ?_, hbr, hext, hs.below.trans hbel⟩
    rw [e1, put_getD a (some d1) _ (fun t ht => by cases ht; rw [hs.size]; exact k1)]
    unfold upd
    by_cases hi : i = d1
    · subst hi; simp; exact .str l (.nil _)
    · rw [if_neg (by simpa using fun h => hi h.symm)]
      simp only [if_neg hi]
      exact .raw _ (by simp) (.nil _)
  have := WPo_in (r := none) (Q' := Q') [] l2 _ _ n2 (h _) I0 [] w' _ hst fun fr' B' a' I' μ' w' hQ hst => hq _ _ _ _ _ _ _ hQ hst
  rw [List.append_nil] at this
  exact this
end
end Go.Proofs.YtcbdghgogmcllaaGreatDoor
end
section
namespace Go.Proofs.YtcbdghgogmcllaaGreatDoor
open Go Go.Sy
open Go.RowKit (Below)
section
variable {N n : Nat} {I0 I : Nat → Nat → Prop} {μ0 μ : List (List Sy.Place)} {B : List Box} {w0 w : World} {a : Act} {fr : Fr} {ops : Array Oper}
theorem AWc_ws1 {id : Nat} {l1 : List Oper} {o : Oper} {d dx : Tmp} {ts : Array TypeId} {Q : Exit → Fr → List Box → Prop} {ops : List Oper} (he : ops = l1 ++ [o]) (n1 : l1.all noDefer = true) (ho : o.op = .call { callee := .value (.func 27), args := #[.tmp d, .tmp dx], argTypes := ts }) (hg : o.guard = none) (hd : dstOk n o = true)
    (h : WPo Tryz.prog n ops.toArray (fun fr1 B1 => ∃ β s, fr1 d = .bptr β 76 2 ∧ fr1 dx = .str s ∧ s ≠ [] ∧ s.length < 1000000000 ∧ B1[β]? = some ⟨[.nilP, .nilS], false⟩ ∧ Q .normal (upd (upd fr1 (some d) (.ptr β 0)) o.dst (.tup [.int .i64 s.length, .nilI])) (B1.set β ⟨[.ptr β 0, .bview B1.length s.length 5], false⟩ ++ [⟨s.map byteC, false⟩])) l1 fr B) : AWc Tryz.prog n (.region id ops.toArray false) Q fr B := by
  intro N I0 μ0 w0 I μ w a Q' hs hq
  refine (wpIn_wide (n := 0)).1 (wpIn_region_list (F := freeF none) ?_)
  rw [show ops.toArray.toList = l1 ++ [o] by simpa using he]
  refine WPo_in [o] l1 fr B n1 h I μ w a hs fun fr1 B1 a1 I1 μ1 w1 hp hs1 => ?_
  obtain ⟨β, s, f1, f2, hs0, hsl, hB, hQ⟩ := hp
  have hv := hs1.frame d
  rw [f1] at hv
  have hx := hs1.frame dx
  rw [f2] at hx
  have hx := hx.str_inv
  unfold wpListIn
  rw [want_none hg, if_pos rfl]
  refine wp_free (by simp [noDefer, ho]) ?_
  unfold Oper.wp
  have hrun : (execOp a1.eval o).run Tryz.prog w1 = .ok (.enter 27 #[a1.tmps.getD d undef, .string ⟨s.toArray⟩]) w1 := by
    simp only [execOp, ho, resolve, Act.eval, Deferred.ofValue, Sem.run_bind, Sem.run_pure, Result.andThen_ok, invoke]
    rw [callable_run (by kernel_rfl)]
    simp [Act.eval, hx]
  rw [hrun, Oper.upon_enter]
  refine (ws_first' hs1.box hv hB hs0 hsl).mono fun e w' ⟨c, v', B', I', μ', he, ⟨hc, hB'⟩, hst⟩ => ?_
  subst he hc hB'
  have s0 : St N n I0 μ0 w0 (upd fr1 (some d) (.ptr β 0)) B1 a1 I1 μ1 w1 := ⟨hs1.size, hs1.defers, fun i => by
    unfold upd
    by_cases hi : i = d
    · subst hi; simp only [if_pos]; exact hv.bptr_ptr
    · simp only [if_neg hi]; exact hs1.frame i, hs1.box, hs1.ext, hs1.below⟩
  have s2 := s0.put hst (d := o.dst) (fun t ht => by simpa [dstOk, ht] using hd)
  unfold wpListIn
  exact hq _ _ _ _ _ _ _ hQ s2
end
end Go.Proofs.YtcbdghgogmcllaaGreatDoor
end
section
namespace Go.Proofs.YtcbdghgogmcllaaGreatDoor
open Go Go.Sy
open Go.RowKit (Below)
section
variable {N n : Nat} {I0 I : Nat → Nat → Prop} {μ0 μ : List (List Sy.Place)} {B : List Box} {w0 w : World} {a : Act} {fr : Fr} {ops : Array Oper}
theorem string_run0 (b o : Nat) (w : World) (c1 : w.cell? ⟨b, o + 1, none⟩ = some (.slice none 0 0)) :
    Calls Tryz.prog 28 #[.pointer (some ⟨b, o, none⟩)] w fun e w' => e = .returned (.string .empty) ∧ Below N w w' ∧ ∀ k : Nat, w'.heap[k]? = w.heap[k]? := by
  have c1' : w.drew.cell? ⟨b, o + 1, none⟩ = some (.slice none 0 0) := c1
  have hSD : (Builtin.unsafeSliceData_ #[22] 105 #[.slice none 0 0]).run Tryz.prog w.drew = .ok (.pointer none) w.drew := Lib.run_unsafeSliceData_nil _ _ _ _ _
  have hUS : (Builtin.unsafeString_ #[105, 3] 9 #[.pointer none, .int .i64 0]).run Tryz.prog w.drew = .ok (.string .empty) w.drew := Lib.run_unsafeString_none _ _ _ _ _
  go_enter Tryz.func28, Tryz.ntmps28
  go_wp2
  go_region
  all_goals (go_wp2; go_ret)
  all_goals exact ⟨rfl, Below.drew (Below.refl N w), fun k => rfl⟩
theorem AWz_string0 {id : Nat} {d d1 : Tmp} {β k0 : Nat} {ty0 : TypeId} {o : Oper} {ts : Array TypeId} {l2 : List Oper} {Q : Exit → Fr → List Box → Prop} (h1 : o.op = .call { callee := .value (.func 28), args := #[.tmp d], argTypes := ts }) (e1 : o.dst = some d1) (g1 : o.guard = none) (k1 : d1 < n) (n2 : l2.all noDefer = true)
    (hd : fr d = .bptr β ty0 k0) (hβ : B[β]? = some ⟨[.nilP, .nilS], false⟩)
    (h : ∀ vs : Nat → Value, WPo Tryz.prog n (o :: l2).toArray (fun fr B => Q .normal fr B) l2 (upd (fun i => .raw (vs i)) (some d1) (.str [])) []) : AWz Tryz.prog n (.region id (o :: l2).toArray false) Q fr B := by
  intro N I0 w0 I μ w a Q' h0 hs hq
  refine (wpIn_wide (n := 0)).1 (wpIn_region_list (F := freeF none) ?_)
  rw [show (o :: l2).toArray.toList = o :: l2 by simp]
  have hB := hs.box
  have hv := hs.frame d
  rw [hd] at hv
  replace hv := hv.bptr_ptr
  obtain ⟨p, us, p1, p2, p3, p4⟩ := box_ptr hB hv hβ rfl
  obtain ⟨u0, us0, rfl, _, _, r3⟩ := R.cons_iff.1 p3
  obtain ⟨u1, us1, rfl, r4, _, _⟩ := R.cons_iff.1 r3
  have c1 := p4 1 _ rfl
  have hu1 : u1 = .slice none 0 0 := by cases r4; rfl
  subst hu1
  unfold wpListIn
  rw [want_none g1, if_pos rfl]
  refine wp_free (by simp [noDefer, h1]) ?_
  unfold Oper.wp
  have hrun : (execOp a.eval o).run Tryz.prog w = .ok (.enter 28 #[.pointer (some ⟨p.b, p.o + 0, none⟩)]) w := by
    simp only [execOp, h1, resolve, Act.eval, Deferred.ofValue, Sem.run_bind, Sem.run_pure, Result.andThen_ok, invoke]
    rw [callable_run (by kernel_rfl)]
    simp only [← p2]
    simp [Act.eval]
  rw [hrun, Oper.upon_enter]
  refine (string_run0 (N := N) p.b (p.o + 0) w c1).mono fun e w' ⟨he, hbel, hsame⟩ => ?_
  subst he
  have hold : ∀ b, b < w0.heap.size → w'.heap[b]? = w.heap[b]? := fun b hb => hsame b
  have hext : Ext I0 [] w0 I0 [] w' := ⟨⟨fun _ _ h => h, fun b j hj => (cell_same (hold b (h0.imm b j hj))).trans (hs.ext.same b j hj), fun b n hf => (hs.ext.free b n hf).of_same (hold b hf.lt), fun b hf => (hs.ext.plain b hf).of_same (hold b hf.lt), fun β ps h => by simp at h, fun r es c hi hx => (hold r (Array.getElem?_eq_some_iff.1 hx).1).trans (hs.ext.maps r es c hi hx)⟩,
    Nat.le_trans hs.ext.size hbel.size, fun β ps ps' h => by simp at h, fun β ps _ h => by simp at h, fun _ _ h => .inl h, fun β h => by simp at h, fun b ob k1 k2 => (hold b (Array.getElem?_eq_some_iff.1 k1).1).trans (hs.ext.oth b ob k1 k2)⟩
  have hbr : BRel N I0 [] [] w' := ⟨rfl, Nat.le_trans h0.low hext.size, fun b j hj => Nat.lt_of_lt_of_le (h0.imm b j hj) hext.size, fun β ps p h => by simp at h, fun β β' ps ps' p p' h => by simp at h, fun β box h => by simp at h, fun β box ps p h => by simp at h, h0.tabs.keep hext.toKeep⟩
  have hoth : Oth w w' := fun b ob k1 k2 => (hsame b).trans k1
  have hst : St N n I0 [] w0 (upd (fun i => .raw (a.tmps.getD i undef)) (some d1) (.str [])) [] (a.put o.dst (.string .empty)) I0 [] w' := by
    refine ⟨by rw [e1]; simp [Act.put, hs.size], by rw [e1]; exact hs.defers.ext hoth, fun i => ?_, hbr, hext, hs.below.trans hbel⟩
    rw [e1, put_getD a (some d1) _ (fun t ht => by cases ht; rw [hs.size]; exact k1)]
    unfold upd
    by_cases hi : i = d1
    · subst hi; simp; exact .str [] (.nil _)
    · rw [if_neg (by simpa using fun h => hi h.symm)]
      simp only [if_neg hi]
      exact .raw _ (by simp) (.nil _)
  have := WPo_in (r := none) (Q' := Q') [] l2 _ _ n2 (h _) I0 [] w' _ hst fun fr' B' a' I' μ' w' hQ hst => hq _ _ _ _ _ _ _ hQ hst
  rw [List.append_nil] at this
  exact this
end
end Go.Proofs.YtcbdghgogmcllaaGreatDoor
end
