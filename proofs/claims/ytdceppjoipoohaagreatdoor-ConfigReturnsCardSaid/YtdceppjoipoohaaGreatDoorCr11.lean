/- Lemmas and definitions of this claim (own texts, joined by a program; what the claim does not use is left out). -/
import Derived.Test.YtdceppjoipoohaaGreatDoorCr10
import Derived.Tactics
import Derived.Tactics2
import Derived.StillTactics
import Derived.Laws.Pointers
import Derived.RegionTactic
import Derived.Lib.Builder
import Derived.Lib.UnsafeStr
import Derived.Laws.Externs
section
namespace Go.Proofs.YtdceppjoipoohaaGreatDoor
open Go Go.Sy
set_option linter.all false
set_option maxRecDepth 100000
set_option maxHeartbeats 4000000
theorem kE_WE0 {α : Type} {x y : α} (h : Is x y := by first | ((try simp (disch := first | omega | (simp only [yZ, yB] <;> omega) | fail) [go_sem, yY, *, omap_strs, if_pos, if_neg, -List.map_take, -List.map_drop, -List.map_append, -List.map_reverse]); exact rfl) | fail) : Is x y := h
theorem kD_WE0 {p : Prop} (h : p := by (first | omega | assumption | exact rfl | ((simp (disch := first | omega | (simp only [yZ, yB] <;> omega) | fail) [go_sem, yY, *, omap_strs, -List.map_take, -List.map_drop, -List.map_append, -List.map_reverse]) <;> (first | done | omega | exact rfl)) | fail)) : p := h
theorem kE_WE1 {α : Type} {x y : α} (h : Is x y := by first | ((try simp (disch := first | omega | (simp only [yZ, yB] <;> omega) | fail) [go_sem, yY, *, bx_get0, bx_get, bx_set0, bx_set, if_pos, if_neg, -List.map_take, -List.map_drop, -List.map_append, -List.map_reverse]); exact rfl) | fail) : Is x y := h
theorem kD_WE1 {p : Prop} (h : p := by (first | omega | assumption | exact rfl | ((simp (disch := first | omega | (simp only [yZ, yB] <;> omega) | fail) [go_sem, yY, *, bx_get0, bx_get, bx_set0, bx_set, -List.map_take, -List.map_drop, -List.map_append, -List.map_reverse]) <;> (first | done | omega | exact rfl)) | fail)) : p := h
theorem read_step {W : List Box} {β : Nat} {args : List CV} {n : Int} {S S' : Ps} {l : List UInt8} (ha : Is args [.ptr β 0, .str l]) (h : PStW β S n W) (hl : l.length < 1000000) (hs : LStep S l S') :
    ACall Tryz.prog 34 args W fun c W' => c = .tup [] ∧ PStW β S' n W' ∧ ∀ i, i < β → W'[i]? = W[i]? := by
  cases hs with
  | skip hk =>
    rcases hk with hk | ⟨r, hk⟩
    · refine (readE_at ha (by omega) hk).mono fun c W' ⟨hc, hW⟩ => ?_
      rw [hW]; exact ⟨hc, h, fun _ _ => rfl⟩
    · refine (readC_at ha (by omega) hk).mono fun c W' ⟨hc, hW⟩ => ?_
      rw [hW]; exact ⟨hc, h, fun _ _ => rfl⟩
  | @iface K port ps nm _ hk =>
    obtain ⟨pe, nc, hB, hK, hp, hn⟩ := h
    refine (readI_at ha hB hK (by omega) hk).mono fun c W' ⟨hc, hW⟩ => ?_
    have h1 := PStW.own (S := ⟨K, port, ps, nm, false⟩) (S' := ⟨K, port, ps, nm, true⟩) (n' := n) hB hp hn hK rfl rfl []
    have h2 := low_set (pz K port pe n nc true) [] (List.getElem?_eq_some_iff.1 hB).1
    rw [List.append_nil] at h1 h2
    rw [hW]
    exact ⟨hc, h1, h2⟩
  | peer hk hc hp => exact read_peer ha h hl hk hc hp
  | priv hk hn hm h1 h2 => exact read_named ha h hl hk hn hm fun W1 args g1 g2 g3 => value_priv g1 g3 g2 h1 h2
  | port hk hn hm h1 h2 => exact read_named ha h hl hk hn hm fun W1 args g1 g2 g3 => value_port g1 g3 g2 h1 h2
  | val hk hn hm hv hp => exact read_named ha h hl hk hn hm fun W1 args g1 g2 g3 => value_at g1 g3 hp g2 hv
theorem suffix_le (s : List UInt8) : (Go.Lib.trimSuffix s [10]).length ≤ s.length := by
  rcases suffix_nl s with h | h
  · rw [h]; exact Nat.le_refl _
  · have := congrArg List.length h
    rw [List.length_append] at this
    omega
theorem linesG_in (s : List UInt8) (h0 : s ≠ []) (hs : s.length < 1000000000) : PC Tryz.prog false 33 [.str s] (.lst (splitL 10 (Go.Lib.trimSuffix s [10])).length ((splitL 10 (Go.Lib.trimSuffix s [10])).map .str) false) := by
  have hle := suffix_le s
  have h1 : ∀ {B : List Box}, ACall Tryz.prog 55 [.str s, .str [10]] B fun c B' => c = .str (Go.Lib.trimSuffix s [10]) ∧ B' = B := trimSuffix_at (by omega)
  generalize Go.Lib.trimSuffix s [10] = t at *
  have h2 : ∀ {B : List Box}, ACall Tryz.prog 54 [.str t, .str [10]] B fun c B' => c = .lst (splitL 10 t).length ((splitL 10 t).map .str) true ∧ B' = B := split_at (b := 10) (by omega)
  have hse : (s == []) = false := by simpa using h0
  have ho := @omap_strs
  generalize splitL 10 t = L at *
  refine acall_intro mixed Tryz.func33 rfl ca33 (by kernel_rfl) (by rw [Tryz.ntmps33]; simp) ?_
  repeat' (first | (with_reducible first | apply jA | apply jB | apply jC | apply jD | apply jE | apply jF | apply jG | apply jH | apply jI | apply jJ | apply jK | apply jL | apply jM | apply jN | apply jO) | ((with_reducible first | apply jP | apply jQ); rfl) | ((first | ((with_reducible first | apply jR | apply jS | apply jT); rfl; rfl) | (with_reducible first | apply jU | apply jV | apply jW) | ((with_reducible first | apply jX | apply jY | apply jZ); rfl) | ((with_reducible first | apply kA | apply kB | apply kC); rfl)); all_goals (first | ((with_reducible show Is _ _); exact kE_WE0) | ((with_reducible refine fun (hc : (_ : Bool) = _) => ?_); (try simp only [xZ, xY, xP, reduceCtorEq] at hc); (try (have hx : True := hc; clear hx hc)); (try exact kX)) | ((with_reducible show ACall _ _ _ _ _); (first | ((with_reducible apply h1) <;> exact kD_WE0) | ((with_reducible apply h2) <;> exact kD_WE0))) | ((fail_if_success (with_reducible first | show Is _ _ | show ACall _ _ _ _ _)); (try ((with_reducible show _ ∨ _); exact kT))))))
  (simp (disch := omega) [go_sem, *, omap_strs]) <;> (try omega)
theorem linesG_at {B : List Box} {args : List CV} {s : List UInt8} (hz : Is (omap (Go.Sy.fz true false [] 6) args) (some [.str s])) (h0 : s ≠ []) (hs : s.length < 1000000000) : ACall Tryz.prog 33 args B fun c B' => c = .lst (splitL 10 (Go.Lib.trimSuffix s [10])).length ((splitL 10 (Go.Lib.trimSuffix s [10])).map .str) false ∧ B' = B := acall_imm hz (linesG_in s h0 hs)
theorem pqW_fz {o : Nat} {W : List Box} {k : Nat} : ∀ {Q : List (Pe × CV)}, (∀ q ∈ Q, PeL q.1 ∧ GrowX o q.2 W q.1.2.2.2.2.2) → omap (Go.Sy.fz true true W (k + 2)) (Q.flatMap pqC) = some ((Q.map (·.1)).flatMap peC)
  | [], _ => rfl
  | q :: Q, h => by
    have hq := h q (by simp)
    rw [List.flatMap_cons, omap_app, pqW_fz fun q hq => h q (by simp [hq])]
    have hh : omap (Go.Sy.fz true true W (k + 2)) (peH q.1) = some (peH q.1) := by simp [peH, pfC, go_sem]
    rw [pqC, peX, omap_app, hh, omap_one (gx_fz hq.2 fun r hr => (hq.1.2.2.2.2 r hr).1)]
    simp [peC_eq]
theorem peersW_fz {o : Nat} {W : List Box} {c : CV} {ps : List Pe} (h : PeersW o W c ps) {k : Nat} : fz true true W (k + 3) c = some (.lst ps.length (ps.flatMap peC) false) := by
  rcases h with ⟨rfl, rfl⟩ | ⟨b, cap, Q, E, h1, h2, h3, rfl, h5, h6, h7, h8⟩
  · rfl
  · have hf : (Q.flatMap pqC).length = ps.length * 85 := by rw [← h2, List.length_map]; exact fl_len fun q hq => peX_len (h8 q hq).1 _
    show (match W[b]? with | some box => (omap (fz true true W (k + 2)) ((box.cells.drop 0).take (ps.length * 85))).map fun cs => CV.lst ps.length cs false | none => none) = _
    rw [h7]
    simp only [List.drop_zero]
    rw [List.take_left' hf, pqW_fz h8, h2]
    rfl
theorem four {W : List Box} {a b c d : Box} (h0 : W[0]? = some a) (h1 : W[1]? = some b) (h2 : W[2]? = some c) (h3 : W[3]? = some d) : ∃ G, W = [a, b, c, d] ++ G := by
  match W, h0, h1, h2, h3 with
  | w :: x :: y :: z :: G, h0, h1, h2, h3 =>
    simp at h0 h1 h2 h3
    subst h0 h1 h2 h3
    exact ⟨G, rfl⟩
theorem parseG_in (s : List UInt8) (K : List UInt8) (port : Int) (ps : List Pe) (nm : List (List UInt8)) (hs : s.length < 1000000) (h0 : s ≠ []) (hst : Steps ⟨z32, 0, [], [], false⟩ (splitL 10 (Go.Lib.trimSuffix s [10])) ⟨K, port, ps, nm, true⟩) (hc : closes ps nm) :
    PC Tryz.prog true 12 [.str s] (.tup [.agg (cfC (K, port, ps)), .int .i64 0, .bool true]) := by
  have hli : ∀ {B : List Box} {args : List CV}, Is (omap (Go.Sy.fz true false [] 6) args) (some [.str s]) → ACall Tryz.prog 33 args B fun c B' => c = .lst (splitL 10 (Go.Lib.trimSuffix s [10])).length ((splitL 10 (Go.Lib.trimSuffix s [10])).map .str) false ∧ B' = B := fun h => linesG_at h h0 (by omega)
  have hLn : (splitL 10 (Go.Lib.trimSuffix s [10])).length ≤ s.length + 1 := Nat.le_trans (splitL_num 10 _) (by have := suffix_le s; omega)
  have hLm : ∀ x ∈ splitL 10 (Go.Lib.trimSuffix s [10]), x.length < 1000000 := fun x hx => by have := splitL_mem 10 _ x hx; have := suffix_le s; omega
  generalize splitL 10 (Go.Lib.trimSuffix s [10]) = L at *
  have hzl : z32.length = 32 := rfl
  refine acall_seq2 mixed Tryz.func12 rfl ca12 ⟨rfl, by kernel_rfl⟩ (by rw [Tryz.ntmps12]; simp) (fun fr B => fr 0 = .str s ∧ fr 2 = .ptr 0 0 ∧ fr 3 = .ptr 1 0 ∧ fr 4 = .ptr 2 0 ∧ B = [⟨z32.map byteC ++ [.int .i64 0, .nilS], false⟩, ⟨[.int .i64 0], false⟩, ⟨[.bool false], false⟩]) ?_ ?_
  · repeat' (first | (with_reducible first | apply jA | apply jB | apply jC | apply jD | apply jE | apply jF | apply jG | apply jH | apply jI | apply jJ | apply jK | apply jL | apply jM | apply jN | apply jO) | ((with_reducible first | apply jP | apply jQ); rfl) | ((first | ((with_reducible first | apply jR | apply jS | apply jT); rfl; rfl) | (with_reducible first | apply jU | apply jV | apply jW) | ((with_reducible first | apply jX | apply jY | apply jZ); rfl)); all_goals (first | ((with_reducible show Is _ _); exact kE) | ((with_reducible refine fun (hc : (_ : Bool) = _) => ?_); (try simp only [xZ, xY, xP, reduceCtorEq] at hc); (try (have hx : True := hc; clear hx hc)); (try exact kX)) | ((fail_if_success (with_reducible first | show Is _ _ | show ACall _ _ _ _ _)); (try ((with_reducible show _ ∨ _); exact kT))))))
    exact ⟨by (simp (disch := omega) [go_sem, *]) <;> (try omega), by (simp (disch := omega) [go_sem, *]) <;> (try omega), by (simp (disch := omega) [go_sem, *]) <;> (try omega), by (simp (disch := omega) [go_sem, *]) <;> (try omega), rfl⟩
  rintro fr B ⟨f0, f2, f3, f4, rfl⟩
  have e37 : ([.int .u8 0, .int .u8 0, .int .u8 0, .int .u8 0, .int .u8 0, .int .u8 0, .int .u8 0, .int .u8 0, .int .u8 0, .int .u8 0, .int .u8 0, .int .u8 0, .int .u8 0, .int .u8 0, .int .u8 0, .int .u8 0, .int .u8 0, .int .u8 0, .int .u8 0, .int .u8 0, .int .u8 0, .int .u8 0, .int .u8 0, .int .u8 0, .int .u8 0, .int .u8 0, .int .u8 0, .int .u8 0, .int .u8 0, .int .u8 0, .int .u8 0, .int .u8 0, .int .i64 0, .nilS, .int .i64 0, .nilS, .bool false] : List CV) = z32.map byteC ++ [.int .i64 0, .nilS, .int .i64 0, .nilS, .bool false] := rfl
  refine AWc_defer (l := [_]) rfl rfl ?_
  repeat' (first | (with_reducible first | apply jA | apply jB | apply jC | apply jD | apply jE | apply jF | apply jG | apply jH | apply jI | apply jJ | apply jK | apply jL | apply jM | apply jN | apply jO) | ((with_reducible first | apply jP | apply jQ); rfl) | ((first | ((with_reducible first | apply jR | apply jS | apply jT); rfl; rfl) | (with_reducible first | apply jU | apply jV | apply jW) | ((with_reducible first | apply jX | apply jY | apply jZ); rfl) | ((with_reducible first | apply kA | apply kB | apply kC); rfl)); all_goals (first | ((with_reducible show Is _ _); exact kE) | ((with_reducible refine fun (hc : (_ : Bool) = _) => ?_); (try simp only [xZ, xY, xP, reduceCtorEq] at hc); (try (have hx : True := hc; clear hx hc)); (try exact kX)) | ((with_reducible show ACall _ _ _ _ _); (first | ((with_reducible apply hli) <;> exact kD))) | ((fail_if_success (with_reducible first | show Is _ _ | show ACall _ _ _ _ _)); (try ((with_reducible show _ ∨ _); exact kT))))))
  refine ⟨⟨32, [.ptr 0 0, .ptr 1 0, .ptr 2 0], by (simp (disch := omega) [go_sem, *]) <;> (try omega), by decide⟩, ?_⟩
  show thenC _ _ _ _ _
  show WPc _ _ _ _ _ _
  generalize hz : z32 = Z at *
  repeat' (first | (with_reducible first | apply jA | apply jB | apply jC | apply jD | apply jE | apply jF | apply jG | apply jH | apply jI | apply jJ | apply jK | apply jL | apply jM | apply jN | apply jO) | ((with_reducible first | apply jP | apply jQ); rfl) | ((first | ((with_reducible first | apply jR | apply jS | apply jT); rfl; rfl) | (with_reducible first | apply jU | apply jV | apply jW) | ((with_reducible first | apply jX | apply jY | apply jZ); rfl) | ((with_reducible first | apply kA | apply kB | apply kC); rfl)); all_goals (first | ((with_reducible show Is _ _); exact kE) | ((with_reducible refine fun (hc : (_ : Bool) = _) => ?_); (try simp only [xZ, xY, xP, reduceCtorEq] at hc); (try (have hx : True := hc; clear hx hc)); (try exact kX)) | ((with_reducible show ACall _ _ _ _ _); (first | ((with_reducible apply hli) <;> exact kD))) | ((fail_if_success (with_reducible first | show Is _ _ | show ACall _ _ _ _ _)); (try ((with_reducible show _ ∨ _); exact kT))))))
  have hlL : (L.map CV.str).length = L.length := List.length_map _
  refine w_loop (fun fr W => ∃ (j : Nat) (S : Ps), j ≤ L.length ∧ fr 14 = .int .i64 j ∧ fr 13 = .int .i64 L.length ∧ fr 12 = .lst L.length (L.map .str) false ∧ fr 5 = .ptr 3 0 ∧ fr 2 = .ptr 0 0 ∧ fr 3 = .ptr 1 0 ∧ fr 4 = .ptr 2 0 ∧
    PStW 3 S j W ∧ Steps S (L.drop j) ⟨K, port, ps, nm, true⟩ ∧ W[0]? = some ⟨Z.map byteC ++ [.int .i64 0, .nilS], false⟩ ∧ W[1]? = some ⟨[.int .i64 0], false⟩ ∧ W[2]? = some ⟨[.bool false], false⟩) (fun fr _ => L.length - natOf (fr 14)) ?_ ?_
  · exact ⟨0, ⟨Z, 0, [], [], false⟩, by omega, by (simp (disch := omega) [go_sem, *]) <;> (try omega), by (simp (disch := omega) [go_sem, *]) <;> (try omega), by (simp (disch := omega) [go_sem, *]) <;> (try omega), by (simp (disch := omega) [go_sem, *]) <;> (try omega), by (simp (disch := omega) [go_sem, *]) <;> (try omega), by (simp (disch := omega) [go_sem, *]) <;> (try omega), by (simp (disch := omega) [go_sem, *]) <;> (try omega), ⟨.nilS, .nilS, rfl, hzl, .inl ⟨rfl, rfl⟩, .inl ⟨rfl, rfl⟩⟩, hst, rfl, rfl, rfl⟩
  clear f0 f2 f3 f4 hli e37 hst h0 hz
  rintro fr W ⟨j, S, hj, f14, f13, f12, f5, f2, f3, f4, hS, hSt, w0, w1, w2⟩
  have hm : natOf (fr 14) = j := by rw [f14]; rfl
  obtain ⟨pe, nc, w3, hK, hp, hn⟩ := hS
  rw [pz] at w3
  obtain ⟨G, rfl⟩ := four w0 w1 w2 w3
  have own : ∀ (n : Int), PStW 3 S n ([⟨Z.map byteC ++ [.int .i64 0, .nilS], false⟩, ⟨[.int .i64 0], false⟩, ⟨[.bool false], false⟩, ⟨S.K.map byteC ++ [.int .i64 S.port, pe, .int .i64 n, nc, .bool S.st], false⟩] ++ G) := fun n => by
    have := PStW.own (S' := S) (n' := n) w3 hp hn hK rfl rfl []
    rw [List.append_nil] at this
    exact this
  by_cases hcj : j < L.length
  · rw [List.drop_eq_getElem_cons hcj] at hSt
    obtain ⟨S1, hs1, hs2⟩ := hSt
    have hrd : ∀ {B : List Box} {args : List CV}, Is args [.ptr 3 0, .str L[j]] → Is B ([⟨Z.map byteC ++ [.int .i64 0, .nilS], false⟩, ⟨[.int .i64 0], false⟩, ⟨[.bool false], false⟩, ⟨S.K.map byteC ++ [.int .i64 S.port, pe, .int .i64 (j + 1), nc, .bool S.st], false⟩] ++ G) → ACall Tryz.prog 34 args B fun c W' => c = .tup [] ∧ PStW 3 S1 (j + 1) W' ∧ W'[0]? = some ⟨Z.map byteC ++ [.int .i64 0, .nilS], false⟩ ∧ W'[1]? = some ⟨[.int .i64 0], false⟩ ∧ W'[2]? = some ⟨[.bool false], false⟩ := fun {B args} ha hb => by
      have hb : B = _ := hb
      subst hb
      exact (read_step ha (own _) (hLm _ (List.getElem_mem hcj)) hs1).mono fun c W' ⟨h1, h2, h3⟩ => ⟨h1, h2, h3 0 (by decide), h3 1 (by decide), h3 2 (by decide)⟩
    have hd : (L.map CV.str).drop j = .str L[j] :: (L.map CV.str).drop (j + 1) := by
      rw [List.drop_eq_getElem_cons (by simp; omega)]; simp
    have hwj : IntKind.i64.wrap ((j : Int) + 1) = (j : Int) + 1 := wi64 ⟨by omega, by omega⟩
    replace hs2 : Hid _ := hs2
    clear own hn hp w0 w1 w2 w3 hs1 hLm
    generalize L[j] = l at *
    obtain ⟨SK, Sp, Sps, Snm, Sst⟩ := S
    dsimp only at hrd hK
    dsimp only
    repeat' (first | (with_reducible first | apply jA | apply jB | apply jC | apply jD | apply jE | apply jF | apply jG | apply jH | apply jI | apply jJ | apply jK | apply jL | apply jM | apply jN | apply jO) | ((with_reducible first | apply jP | apply jQ); rfl) | ((first | ((with_reducible first | apply jR | apply jS | apply jT); rfl; rfl) | (with_reducible first | apply jU | apply jV | apply jW) | ((with_reducible first | apply jX | apply jY | apply jZ); rfl)); all_goals (first | ((with_reducible show Is _ _); exact kE_WE1) | ((with_reducible refine fun (hc : (_ : Bool) = _) => ?_); (try simp only [xZ, xY, xP, reduceCtorEq] at hc); (try (have hx : True := hc; clear hx hc)); (try exact kX)) | ((fail_if_success (with_reducible first | show Is _ _ | show ACall _ _ _ _ _)); (try ((with_reducible show _ ∨ _); exact kT))))) | (((with_reducible first | apply o_callQ | apply q_callQ); rfl); (iterate 2 exact kE_WE1); (first | ((with_reducible apply hrd) <;> exact kD_WE1))))
    rintro c W' ⟨rfl, k1, k2, k3, k4⟩
    replace k1 : Hid _ := k1
    replace k2 : Hid _ := k2
    replace k3 : Hid _ := k3
    replace k4 : Hid _ := k4
    clear hrd
    repeat' (first | (with_reducible first | apply jA | apply jB | apply jC | apply jD | apply jE | apply jF | apply jG | apply jH | apply jI | apply jJ | apply jK | apply jL | apply jM | apply jN | apply jO) | ((with_reducible first | apply jP | apply jQ); rfl) | ((first | ((with_reducible first | apply jR | apply jS | apply jT); rfl; rfl) | (with_reducible first | apply jU | apply jV | apply jW) | ((with_reducible first | apply jX | apply jY | apply jZ); rfl)); all_goals (first | ((with_reducible show Is _ _); exact kE) | ((with_reducible refine fun (hc : (_ : Bool) = _) => ?_); (try simp only [xZ, xY, xP, reduceCtorEq] at hc); (try (have hx : True := hc; clear hx hc)); (try exact kX)) | ((fail_if_success (with_reducible first | show Is _ _ | show ACall _ _ _ _ _)); (try ((with_reducible show _ ∨ _); exact kT))))))
    exact ⟨⟨j + 1, S1, by omega, by (simp (disch := omega) [go_sem, *]) <;> (try omega), by (simp (disch := omega) [go_sem, *]) <;> (try omega), by (simp (disch := omega) [go_sem, *]) <;> (try omega), by (simp (disch := omega) [go_sem, *]) <;> (try omega), by (simp (disch := omega) [go_sem, *]) <;> (try omega), by (simp (disch := omega) [go_sem, *]) <;> (try omega), by (simp (disch := omega) [go_sem, *]) <;> (try omega), by rw [show (((j + 1 : Nat)) : Int) = (j : Int) + 1 by omega]; exact k1, hs2, k2, k3, k4⟩, by (simp (disch := omega) [go_sem, *]) <;> (try omega)⟩
  · obtain rfl : j = L.length := by omega
    rw [List.drop_length] at hSt
    have hSt : S = _ := hSt
    subst hSt
    dsimp only at hK hp hn w3
    obtain ⟨hm9, hc⟩ := hc
    rcases hn with ⟨rfl, _⟩ | ⟨γ, m, hγo, hne, rfl, hγ⟩
    · simp at hc
    obtain ⟨g, rfl⟩ : ∃ g, γ = g + 4 := ⟨γ - 4, by omega⟩
    have hcl : ∀ {B : List Box} {args : List CV}, Is args [.ptr 3 0] → Is B ([⟨Z.map byteC ++ [.int .i64 0, .nilS], false⟩, ⟨[.int .i64 0], false⟩, ⟨[.bool false], false⟩, ⟨K.map byteC ++ [.int .i64 port, pe, .int .i64 ((L.length : Int) + 1), .view (g + 4) 0 nm.length 1 false, .bool true], false⟩] ++ G) → ACall Tryz.prog 35 args B fun c B' => c = .tup [] ∧ B' = [⟨Z.map byteC ++ [.int .i64 0, .nilS], false⟩, ⟨[.int .i64 0], false⟩, ⟨[.bool false], false⟩, ⟨K.map byteC ++ [.int .i64 port, pe, .int .i64 ((L.length : Int) + 1), .nilS, .bool true], false⟩] ++ G := fun {B args} ha hb => by
      have hb : B = _ := hb
      subst hb
      exact closeG_at (γ := g + 4) (m := m) ha rfl hγ hK hm9 (by
        rcases hp with ⟨rfl, rfl⟩ | ⟨b, cap, Q, E, h1, h2, h3, rfl, _⟩
        · simp at hc; exact .inl ⟨rfl, hc⟩
        · have : ps ≠ [] := by rintro rfl; simp at h2; exact h3 h2
          obtain ⟨q, r, rfl⟩ := List.exists_cons_of_ne_nil this
          simp at hc
          exact .inr ⟨b, r.length, cap, rfl, hc⟩)
    have hwj : IntKind.i64.wrap ((L.length : Int) + 1) = (L.length : Int) + 1 := wi64 ⟨by omega, by omega⟩
    have hfin : ∀ y0 y1 y2 y3 : Box, fz true true ([y0, y1, y2, y3] ++ G) 6 (.tup [.agg (K.map byteC ++ [.int .i64 port, pe]), .int .i64 0, .bool true]) = some (.tup [.agg (cfC (K, port, ps)), .int .i64 0, .bool true]) := fun y0 y1 y2 y3 => by
      have h1 : PeersW 4 ([y0, y1, y2, y3] ++ G) pe ps := hp.keep fun i y a b _ => by
        obtain ⟨k, rfl⟩ : ∃ k, i = k + 4 := ⟨i - 4, by omega⟩
        exact b
      have h2 := peersW_fz h1 (k := 1)
      have h3 : fz true true ([y0, y1, y2, y3] ++ G) 5 (.agg (K.map byteC ++ [.int .i64 port, pe])) = some (.agg (cfC (K, port, ps))) := by
        rw [fz_agg, omap_app, omap_bytes, omap_two, omap_one h2]
        simp [cfC]
        rfl
      show (omap (fz true true ([y0, y1, y2, y3] ++ G) 5) [.agg (K.map byteC ++ [.int .i64 port, pe]), .int .i64 0, .bool true]).map CV.tup = _
      rw [omap_two, h3]
      rfl
    replace hfin : Hid _ := hfin
    clear own hp w0 w1 w2 w3 hLm hγ hne hc
    repeat' (first | (with_reducible first | apply jA | apply jB | apply jC | apply jD | apply jE | apply jF | apply jG | apply jH | apply jI | apply jJ | apply jK | apply jL | apply jM | apply jN | apply jO) | ((with_reducible first | apply jP | apply jQ); rfl) | ((first | ((with_reducible first | apply jR | apply jS | apply jT); rfl; rfl) | (with_reducible first | apply jU | apply jV | apply jW) | ((with_reducible first | apply jX | apply jY | apply jZ); rfl) | ((with_reducible first | apply kA | apply kB | apply kC); rfl)); all_goals (first | ((with_reducible show Is _ _); exact kE_WE1) | ((with_reducible refine fun (hc : (_ : Bool) = _) => ?_); (try simp only [xZ, xY, xP, reduceCtorEq] at hc); (try (have hx : True := hc; clear hx hc)); (try exact kX)) | ((with_reducible show ACall _ _ _ _ _); (first | ((with_reducible apply hcl) <;> exact kD_WE1))) | ((fail_if_success (with_reducible first | show Is _ _ | show ACall _ _ _ _ _)); (try ((with_reducible show _ ∨ _); exact kT))))))
    exact (show ∀ y0 y1 y2 y3 : Box, _ = _ from hfin) _ _ _ _
theorem parseG_at {B : List Box} {args : List CV} {s K : List UInt8} {port : Int} {ps : List Pe} {nm : List (List UInt8)} (hz : Is (omap (Go.Sy.fz true false B 6) args) (some [.str s])) (hs : s.length < 1000000) (h0 : s ≠ []) (hst : Steps ⟨z32, 0, [], [], false⟩ (splitL 10 (Go.Lib.trimSuffix s [10])) ⟨K, port, ps, nm, true⟩) (hc : closes ps nm) :
    ACall Tryz.prog 12 args B fun c B' => c = .tup [.agg (cfC (K, port, ps)), .int .i64 0, .bool true] ∧ B' = B := acall_fresh hz (parseG_in s K port ps nm hs h0 hst hc)
theorem readG_in (s K : List UInt8) (port : Int) (ps : List Pe) (nm : List (List UInt8)) (hs : s.length ≤ 4000) (h0 : s ≠ []) (hst : Steps ⟨z32, 0, [], [], false⟩ (splitL 10 (Go.Lib.trimSuffix s [10])) ⟨K, port, ps, nm, true⟩) (hc : closes ps nm) (hK : K.length = 32) (hpo : 0 ≤ port ∧ port ≤ 65535) (hps : ∀ p ∈ ps, PeL p) (hl : ps.length ≤ 8) (hal : ∀ p ∈ ps, p.2.2.2.2.2.length < 1000000) (hv : valC port ps = 0) :
    PC Tryz.prog false 6 [.str s] (.tup [.agg (cfC (K, port, ps)), .int .i64 0, .int .i64 0]) := by
  have hp : ∀ {B : List Box} {args : List CV}, Is (omap (Go.Sy.fz true false B 6) args) (some [.str s]) → ACall Tryz.prog 12 args B fun c B' => c = .tup [.agg (cfC (K, port, ps)), .int .i64 0, .bool true] ∧ B' = B := fun h => parseG_at h (by omega) h0 hst hc
  have hva : ∀ {B : List Box} {args : List CV}, Is (omap (Go.Sy.fz true false B 6) args) (some [.agg (cfC (K, port, ps))]) → ACall Tryz.prog 13 args B fun c B' => c = .int .i64 0 ∧ B' = B := fun h => by
    have := validate_in K port ps hK (by omega) hps (by omega) hal
    rw [hv] at this
    exact acall_fresh h this
  have hCl : (cfC (K, port, ps)).length = 34 := by simp [cfC, hK]
  have hCz : ∀ {B : List Box} {k : Nat}, omap (Go.Sy.fz true false B (k + 3)) (cfC (K, port, ps)) = some (cfC (K, port, ps)) := fun {B k} => by
    simp [cfC, go_sem]
  clear hst hc hv hal hps h0
  generalize cfC (K, port, ps) = C at *
  have hCt : C.take 34 = C := List.take_of_length_le (by omega)
  refine acall_intro mixed Tryz.func6 rfl ca6 (by kernel_rfl) (by rw [Tryz.ntmps6]; simp) ?_
  repeat' (first | (with_reducible first | apply jA | apply jB | apply jC | apply jD | apply jE | apply jF | apply jG | apply jH | apply jI | apply jJ | apply jK | apply jL | apply jM | apply jN | apply jO) | ((with_reducible first | apply jP | apply jQ); rfl) | ((first | ((with_reducible first | apply jR | apply jS | apply jT); rfl; rfl) | (with_reducible first | apply jU | apply jV | apply jW) | ((with_reducible first | apply jX | apply jY | apply jZ); rfl) | ((with_reducible first | apply kA | apply kB | apply kC); rfl)); all_goals (first | ((with_reducible show Is _ _); exact kE) | ((with_reducible refine fun (hc : (_ : Bool) = _) => ?_); (try simp only [xZ, xY, xP, reduceCtorEq] at hc); (try (have hx : True := hc; clear hx hc)); (try exact kX)) | ((with_reducible show ACall _ _ _ _ _); (first | ((with_reducible apply hp) <;> exact kD) | ((with_reducible apply hva) <;> exact kD))) | ((fail_if_success (with_reducible first | show Is _ _ | show ACall _ _ _ _ _)); (try ((with_reducible show _ ∨ _); exact kT))))))
  rw [fz_tup, omap_two, fz_agg, hCz]
  rfl
theorem readG_at {B : List Box} {args : List CV} {s K : List UInt8} {port : Int} {ps : List Pe} {nm : List (List UInt8)} (hz : Is (omap (Go.Sy.fz true false [] 6) args) (some [.str s])) (hs : s.length ≤ 4000) (h0 : s ≠ []) (hst : Steps ⟨z32, 0, [], [], false⟩ (splitL 10 (Go.Lib.trimSuffix s [10])) ⟨K, port, ps, nm, true⟩) (hc : closes ps nm) (hK : K.length = 32) (hpo : 0 ≤ port ∧ port ≤ 65535) (hps : ∀ p ∈ ps, PeL p) (hl : ps.length ≤ 8) (hal : ∀ p ∈ ps, p.2.2.2.2.2.length < 1000000) (hv : valC port ps = 0) :
    ACall Tryz.prog 6 args B fun c B' => c = .tup [.agg (cfC (K, port, ps)), .int .i64 0, .int .i64 0] ∧ B' = B := acall_imm hz (readG_in s K port ps nm hs h0 hst hc hK hpo hps hl hal hv)
end Go.Proofs.YtdceppjoipoohaaGreatDoor
end
section
namespace Go.Proofs.YtdceppjoipoohaaGreatDoor
open Go Go.Sy
set_option linter.all false
set_option maxRecDepth 100000
set_option maxHeartbeats 4000000
theorem PfG.l {q : Pf} (h : PfG q) : PfL q ∧ vldP q = true := by
  have hr := vld_range h.2
  exact ⟨⟨h.1, by omega, by omega⟩, h.2⟩
theorem PeG.al {p : Pe} (h : PeG p) {al : List Pf} (ha : ∀ q ∈ al, PfG q) : PeG (p.1, p.2.1, p.2.2.1, p.2.2.2.1, p.2.2.2.2.1, al) := by
  obtain ⟨⟨h1, h2, h3, h4, h5⟩, h6⟩ := h
  refine ⟨⟨h1, h2, h3, h4, fun q hq => (ha q hq).l.1⟩, ?_⟩
  simp only [okPe, Bool.and_eq_true] at h6 ⊢
  exact ⟨h6.1, h6.2.1, List.all_eq_true.2 fun q hq => (ha q hq).l.2⟩
def peNew (pub : List UInt8) : Pe := (pub, List.replicate 32 0, false, pfO, 0, [])
theorem peNew_ok {pub : List UInt8} (h : pub.length = 32) : PeG (peNew pub) := by
  refine ⟨⟨h, by simp [peNew], ⟨by simp [peNew, pfO], by simp [peNew, pfO], by simp [peNew, pfO]⟩, by simp [peNew], by simp [peNew]⟩, ?_⟩
  simp [peNew, okPe, timed]
theorem PeG.sh {p : Pe} (h : PeG p) {u : List UInt8} (hu : u.length = 32) : PeG (p.1, u, p.2.2) := ⟨⟨h.1.1, hu, h.1.2.2⟩, h.2⟩
theorem PeG.ep {p : Pe} (h : PeG p) {q : Pf} (hq : PfL q) (ho : okEP q = true) : PeG (p.1, p.2.1, true, q, p.2.2.2.2) := by
  refine ⟨⟨h.1.1, h.1.2.1, hq, h.1.2.2.2⟩, ?_⟩
  have h6 := h.2
  simp only [okPe, Bool.and_eq_true] at h6 ⊢
  exact ⟨by simpa using ho, h6.2⟩
theorem PeG.kp {p : Pe} (h : PeG p) {v : Nat} (hv : v < 30000) : PeG (p.1, p.2.1, p.2.2.1, p.2.2.2.1, 1000 + (v : Int), p.2.2.2.2.2) := by
  refine ⟨⟨h.1.1, h.1.2.1, h.1.2.2.1, by simp only; omega, h.1.2.2.2.2⟩, ?_⟩
  have h6 := h.2
  simp only [okPe, Bool.and_eq_true] at h6 ⊢
  refine ⟨h6.1, ?_, h6.2.2⟩
  simp only [timed, Bool.or_eq_true, Bool.and_eq_true, decide_eq_true_eq]
  omega
theorem qx_shared {p : Pe} (h : PeL p) {u : List UInt8} (hu : u.length = 32) (v : CV) : (peX p v).take 32 ++ (u.map byteC ++ (peX p v).drop 64) = peX (p.1, u, p.2.2) v := by have := px_shared h hu v; simpa [splice, hu] using this
theorem qx_has {p : Pe} (h : PeL p) (b : Bool) (v : CV) : (peX p v).take 64 ++ .bool b :: (peX p v).drop 65 = peX (p.1, p.2.1, b, p.2.2.2) v := by have := px_has h b v; simpa [splice] using this
theorem qx_end {p : Pe} (h : PeL p) {q : Pf} (hq : PfL q) (v : CV) : (peX p v).take 65 ++ (pfC q ++ (peX p v).drop 83) = peX (p.1, p.2.1, p.2.2.1, q, p.2.2.2.2) v := by have := px_end h hq v; simpa [splice, pfC_len hq] using this
theorem qx_keep {p : Pe} (h : PeL p) (n : Int) (v : CV) : (peX p v).take 83 ++ .int .i64 n :: (peX p v).drop 84 = peX (p.1, p.2.1, p.2.2.1, p.2.2.2.1, n, p.2.2.2.2.2) v := by have := px_keep h n v; simpa [splice] using this
theorem qx_all {p : Pe} (h : PeL p) (v w : CV) : (peX p v).take 84 ++ [w] = peX p w := by have := px_all h v w; simpa [splice, List.drop_eq_nil_of_le (Nat.le_of_eq (peX_len h v))] using this
def RdI (β : Nat) (l : List UInt8) (r x i bp : Nat) (lc : CV) (pub : List UInt8) (W0 : List Box) (fr : Fr) (W : List Box) : Prop :=
  ∃ p : Pe, PeG p ∧ p.1 = pub ∧ p.2.2.2.2.2 = [] ∧ fr 0 = .ptr β 0 ∧ fr 4 = .ptr r 0 ∧ fr 5 = .ptr x 0 ∧ fr 6 = lc ∧ fr 7 = .int .i64 i ∧ fr 8 = .ptr bp 0 ∧ W[bp]? = some ⟨peX p .nilS, false⟩ ∧ Dr β l W0 W
theorem config_at {B : List Box} {β : Nat} {args : List CV} {l : List UInt8} {n : Nat} {m : Int} (ha : Is args [.ptr β 0, .int .i64 m]) (hm : m = n) (hn : n ≤ 8) (hB : ∃ a, a ≤ l.length ∧ B[β]? = some (cb l a)) (hl : l.length < 1000000) :
    ACall Tryz.prog 9 args B fun c B' => ∃ (K : List UInt8) (port : Int) (ps : List Pe), CfGood K port ps ∧ fz true true B' 6 c = some (.agg (cfC (K, port, ps))) := by
  have ha : args = _ := ha
  subst ha hm
  have hβ : β < B.length := by obtain ⟨a, _, h⟩ := hB; exact (List.getElem?_eq_some_iff.1 h).1
  have hbo : ∀ {W : List Box} {args : List CV}, Is args [.ptr β 0] → (∃ a, a ≤ l.length ∧ W[β]? = some (cb l a)) → ACall Tryz.prog 22 args W fun c W' => (∃ t, c = .bool t) ∧ Dr β l W W' := fun h h2 => dr_bool h h2 hl
  have hky : ∀ {W : List Box} {args : List CV}, Is args [.ptr β 0] → (∃ a, a ≤ l.length ∧ W[β]? = some (cb l a)) → ACall Tryz.prog 18 args W fun c W' => (∃ K : List UInt8, K.length = 32 ∧ c = .agg (K.map byteC)) ∧ Dr β l W W' := fun h h2 => dr_key h h2 hl
  have hep : ∀ {W : List Box} {args : List CV}, Is args [.ptr β 0] → (∃ a, a ≤ l.length ∧ W[β]? = some (cb l a)) → ACall Tryz.prog 23 args W fun c W' => (∃ q : Pf, PfL q ∧ okEP q = true ∧ c = .agg (pfC q)) ∧ Dr β l W W' := fun h h2 => dr_endp h h2 hl
  have hbg : ∀ {W : List Box} {args : List CV}, Is args [.ptr β 0, .int .i64 65536] → (∃ a, a ≤ l.length ∧ W[β]? = some (cb l a)) → ACall Tryz.prog 19 args W fun c W' => (∃ v : Nat, v < 65536 ∧ c = .int .i64 v) ∧ Dr β l W W' := fun h h2 => dr_big (n := 65536) h rfl (by omega) h2 hl
  have hbk : ∀ {W : List Box} {args : List CV}, Is args [.ptr β 0, .int .i64 30000] → (∃ a, a ≤ l.length ∧ W[β]? = some (cb l a)) → ACall Tryz.prog 19 args W fun c W' => (∃ v : Nat, v < 30000 ∧ c = .int .i64 v) ∧ Dr β l W W' := fun h h2 => dr_big (n := 30000) h rfl (by omega) h2 hl
  have hnn : ∀ {W : List Box} {args : List CV}, Is args [.ptr β 0, .int .i64 ((n : Int) + 1)] → (∃ a, a ≤ l.length ∧ W[β]? = some (cb l a)) → ACall Tryz.prog 21 args W fun c W' => (∃ v : Nat, v < n + 1 ∧ c = .int .i64 v) ∧ Dr β l W W' := fun h h2 => dr_next (n := n + 1) h (by omega) (by omega) h2 hl
  have hn2 : ∀ {W : List Box} {args : List CV}, Is args [.ptr β 0, .int .i64 256] → (∃ a, a ≤ l.length ∧ W[β]? = some (cb l a)) → ACall Tryz.prog 21 args W fun c W' => (∃ v : Nat, v < 256 ∧ c = .int .i64 v) ∧ Dr β l W W' := fun h h2 => dr_next (n := 256) h rfl (by omega) h2 hl
  have hn3 : ∀ {W : List Box} {args : List CV}, Is args [.ptr β 0, .int .i64 3] → (∃ a, a ≤ l.length ∧ W[β]? = some (cb l a)) → ACall Tryz.prog 21 args W fun c W' => (∃ v : Nat, v < 3 ∧ c = .int .i64 v) ∧ Dr β l W W' := fun h h2 => dr_next (n := 3) h rfl (by omega) h2 hl
  have hpx : ∀ {W : List Box} {args : List CV}, Is args [.ptr β 0, .int .i64 6] → (∃ a, a ≤ l.length ∧ W[β]? = some (cb l a)) → ACall Tryz.prog 20 args W fun c W' => (∃ ps, PsG ps ∧ ps.length ≤ 6 ∧ GrowX W.length c W' ps) ∧ Dr β l W W' := fun h h2 => dr_prefixes (n := 6) h rfl (by omega) h2 hl
  refine acall_intro mixed Tryz.func9 rfl ca9 (by kernel_rfl) (by rw [Tryz.ntmps9]; simp) ?_
  refine w_cut (fun fr W => fr 0 = .ptr β 0 ∧ fr 1 = .int .i64 n ∧ fr 4 = .ptr B.length 0 ∧ (∃ a, a ≤ l.length ∧ W[β]? = some (cb l a)) ∧ (∃ Z, W[B.length]? = some ⟨Z, false⟩ ∧ Z.length = 34) ∧ W.length = B.length + 1) ?_ ?_
  · repeat' (first | (with_reducible first | apply jA | apply jB | apply jC | apply jD | apply jE | apply jF | apply jG | apply jH | apply jI | apply jJ | apply jK | apply jL | apply jM | apply jN | apply jO) | ((with_reducible first | apply jP | apply jQ); rfl) | ((first | ((with_reducible first | apply jR | apply jS | apply jT); rfl; rfl) | (with_reducible first | apply jU | apply jV | apply jW) | ((with_reducible first | apply jX | apply jY | apply jZ); rfl)); all_goals (first | ((with_reducible show Is _ _); exact kE) | ((with_reducible refine fun (hc : (_ : Bool) = _) => ?_); (try simp only [xZ, xY, xP, reduceCtorEq] at hc); (try (have hx : True := hc; clear hx hc)); (try exact kX)) | ((fail_if_success (with_reducible first | show Is _ _ | show ACall _ _ _ _ _)); (try ((with_reducible show _ ∨ _); exact kT))))))
    refine ⟨by (simp (disch := omega) [go_sem, *]) <;> (try omega), by (simp (disch := omega) [go_sem, *]) <;> (try omega), by (simp (disch := omega) [go_sem, *]) <;> (try omega), ?_, ⟨_, by rw [bx_get0 rfl]; rfl, rfl⟩, by simp⟩
    obtain ⟨a, h1, h2⟩ := hB
    exact ⟨a, h1, by rw [List.getElem?_append_left hβ, h2]⟩
  generalize B.length = r at *
  clear hB B
  rintro fr W ⟨f0, f1, f4, hW, ⟨Z, hZ, hZl⟩, hlen⟩
  have hβW : β < W.length := by omega
  refine w_cut (fun fr W => fr 0 = .ptr β 0 ∧ fr 1 = .int .i64 n ∧ fr 4 = .ptr r 0 ∧ (∃ a, a ≤ l.length ∧ W[β]? = some (cb l a)) ∧ W[r]? = some ⟨Z, false⟩ ∧ ∃ (x : Nat) (K : List UInt8) (port : Nat), fr 5 = .ptr x 0 ∧ r < x ∧ W.length = x + 1 ∧ K.length = 32 ∧ port < 65536 ∧ W[x]? = some ⟨K.map byteC ++ [.int .i64 port, .nilS], false⟩) ?_ ?_
  ·
    repeat' (first | (with_reducible first | apply jA | apply jB | apply jC | apply jD | apply jE | apply jF | apply jG | apply jH | apply jI | apply jJ | apply jK | apply jL | apply jM | apply jN | apply jO) | ((with_reducible first | apply jP | apply jQ); rfl) | ((first | ((with_reducible first | apply jR | apply jS | apply jT); rfl; rfl) | (with_reducible first | apply jU | apply jV | apply jW) | ((with_reducible first | apply jX | apply jY | apply jZ); rfl)); all_goals (first | ((with_reducible show Is _ _); exact kE) | ((with_reducible refine fun (hc : (_ : Bool) = _) => ?_); (try simp only [xZ, xY, xP, reduceCtorEq] at hc); (try (have hx : True := hc; clear hx hc)); (try exact kX)) | ((fail_if_success (with_reducible first | show Is _ _ | show ACall _ _ _ _ _)); (try ((with_reducible show _ ∨ _); exact kT))))) | (((with_reducible first | apply o_callQ | apply q_callQ); rfl); (iterate 2 exact kE); (first | ((with_reducible apply hky) <;> exact kD))))
    rintro _ W1 ⟨⟨K, hK, rfl⟩, hd1⟩
    have hW1 := hd1.1
    repeat' (first | (with_reducible first | apply jA | apply jB | apply jC | apply jD | apply jE | apply jF | apply jG | apply jH | apply jI | apply jJ | apply jK | apply jL | apply jM | apply jN | apply jO) | ((with_reducible first | apply jP | apply jQ); rfl) | ((first | ((with_reducible first | apply jR | apply jS | apply jT); rfl; rfl) | (with_reducible first | apply jU | apply jV | apply jW) | ((with_reducible first | apply jX | apply jY | apply jZ); rfl)); all_goals (first | ((with_reducible show Is _ _); exact kE) | ((with_reducible refine fun (hc : (_ : Bool) = _) => ?_); (try simp only [xZ, xY, xP, reduceCtorEq] at hc); (try (have hx : True := hc; clear hx hc)); (try exact kX)) | ((fail_if_success (with_reducible first | show Is _ _ | show ACall _ _ _ _ _)); (try ((with_reducible show _ ∨ _); exact kT))))) | (((with_reducible first | apply o_callQ | apply q_callQ); rfl); (iterate 2 exact kE); (first | ((with_reducible apply hbg) <;> exact kD))))
    rintro _ W2 ⟨⟨port, hport, rfl⟩, hd2⟩
    have hd := hd1.trans hd2
    have hl2 := hd.2.2
    repeat' (first | (with_reducible first | apply jA | apply jB | apply jC | apply jD | apply jE | apply jF | apply jG | apply jH | apply jI | apply jJ | apply jK | apply jL | apply jM | apply jN | apply jO) | ((with_reducible first | apply jP | apply jQ); rfl) | ((first | ((with_reducible first | apply jR | apply jS | apply jT); rfl; rfl) | (with_reducible first | apply jU | apply jV | apply jW) | ((with_reducible first | apply jX | apply jY | apply jZ); rfl)); all_goals (first | ((with_reducible show Is _ _); exact kE) | ((with_reducible refine fun (hc : (_ : Bool) = _) => ?_); (try simp only [xZ, xY, xP, reduceCtorEq] at hc); (try (have hx : True := hc; clear hx hc)); (try exact kX)) | ((fail_if_success (with_reducible first | show Is _ _ | show ACall _ _ _ _ _)); (try ((with_reducible show _ ∨ _); exact kT))))))
    refine ⟨by (simp (disch := omega) [go_sem, *]) <;> (try omega), by (simp (disch := omega) [go_sem, *]) <;> (try omega), by (simp (disch := omega) [go_sem, *]) <;> (try omega), (hd.app hβW _).1, ?_, W2.length, K, port, by (simp (disch := omega) [go_sem, *]) <;> (try omega), by omega, by simp, hK, hport, ?_⟩
    · rw [List.getElem?_append_left (by omega), hd.2.1 r (by omega) (by omega), hZ]
    · rw [bx_get0 rfl]; rfl
  rintro fr W0 ⟨f0, f1, f4, hW, hZ0, x, K, port, f5, hrx, hln, hK, hport, hx⟩
  clear hZ hβW hlen
  have hβW : β < W0.length := by omega
  refine w_cut (fun fr W => fr 0 = .ptr β 0 ∧ fr 1 = .int .i64 n ∧ fr 4 = .ptr r 0 ∧ fr 5 = .ptr x 0 ∧ Dr β l W0 W ∧ ∃ ps, PsG ps ∧ ps.length ≤ 6 ∧ RestP (x + 1) W (fr 6) ps 0) ?_ ?_
  ·
    repeat' (first | (with_reducible first | apply jA | apply jB | apply jC | apply jD | apply jE | apply jF | apply jG | apply jH | apply jI | apply jJ | apply jK | apply jL | apply jM | apply jN | apply jO) | ((with_reducible first | apply jP | apply jQ); rfl) | ((first | ((with_reducible first | apply jR | apply jS | apply jT); rfl; rfl) | (with_reducible first | apply jU | apply jV | apply jW) | ((with_reducible first | apply jX | apply jY | apply jZ); rfl)); all_goals (first | ((with_reducible show Is _ _); exact kE) | ((with_reducible refine fun (hc : (_ : Bool) = _) => ?_); (try simp only [xZ, xY, xP, reduceCtorEq] at hc); (try (have hx : True := hc; clear hx hc)); (try exact kX)) | ((fail_if_success (with_reducible first | show Is _ _ | show ACall _ _ _ _ _)); (try ((with_reducible show _ ∨ _); exact kT))))) | (((with_reducible first | apply o_callQ | apply q_callQ); rfl); (iterate 2 exact kE); (first | ((with_reducible apply hpx) <;> exact kD))))
    rintro c W1 ⟨⟨ps, hps, hpl, hg⟩, hd⟩
    rw [hln] at hg
    have hrest : RestP (x + 1) W1 c ps 0 := ⟨Nat.zero_le _, by
      rcases hg with h | ⟨b, m, h1, h2, h3, h4⟩
      · exact .inl h
      · exact .inr ⟨b, m, h1, h2, by rw [h3]; simp, h4⟩⟩
    replace hrest : Hid _ := hrest
    repeat' (first | (with_reducible first | apply jA | apply jB | apply jC | apply jD | apply jE | apply jF | apply jG | apply jH | apply jI | apply jJ | apply jK | apply jL | apply jM | apply jN | apply jO) | ((with_reducible first | apply jP | apply jQ); rfl) | ((first | ((with_reducible first | apply jR | apply jS | apply jT); rfl; rfl) | (with_reducible first | apply jU | apply jV | apply jW) | ((with_reducible first | apply jX | apply jY | apply jZ); rfl)); all_goals (first | ((with_reducible show Is _ _); exact kE) | ((with_reducible refine fun (hc : (_ : Bool) = _) => ?_); (try simp only [xZ, xY, xP, reduceCtorEq] at hc); (try (have hx : True := hc; clear hx hc)); (try exact kX)) | ((fail_if_success (with_reducible first | show Is _ _ | show ACall _ _ _ _ _)); (try ((with_reducible show _ ∨ _); exact kT))))))
    exact ⟨by (simp (disch := omega) [go_sem, *]) <;> (try omega), by (simp (disch := omega) [go_sem, *]) <;> (try omega), by (simp (disch := omega) [go_sem, *]) <;> (try omega), by (simp (disch := omega) [go_sem, *]) <;> (try omega), hd, ps, hps, hpl, by (simp (disch := omega) [go_sem, *]) <;> (try omega); exact hrest⟩
  rintro fr W ⟨f0, f1, f4, f5, hd, ps, hps, hpl, hrest⟩
  have hZ1 : W[r]? = some ⟨Z, false⟩ := by rw [hd.2.1 r (by omega) (by omega), hZ0]
  have hx1 : W[x]? = some ⟨K.map byteC ++ [.int .i64 port, .nilS], false⟩ := by rw [hd.2.1 x (by omega) (by omega), hx]
  have hWx : x < W.length := by have := hd.2.2; omega
  have hW2 := hd.1
  clear hx hZ0 hd hW hpx
  refine w_cut (fun fr W => ∃ (Q : List (Pe × CV)) (pc : CV), fr 4 = .ptr r 0 ∧ fr 5 = .ptr x 0 ∧ W[r]? = some ⟨Z, false⟩ ∧ W[x]? = some ⟨K.map byteC ++ [.int .i64 port, pc], false⟩ ∧ PeersB (x + 1) W pc Q ∧ (pubs (Q.map (·.1))).Nodup ∧ Q.length ≤ n ∧ ∃ k, alls (Q.map (·.1)) = ps.take k) ?_ ?_
  rotate_left
  · rintro fr W ⟨Q, pc, f4, f5, hZ, hx, hQ, hpu, hQn, k, hal⟩
    obtain ⟨C, hC⟩ : ∃ C, K.map byteC ++ [.int .i64 port, pc] = C := ⟨_, rfl⟩
    rw [hC] at hx
    have hCl : C.length = 34 := by rw [← hC]; simp [hK]
    have hCt : C.take 34 = C := List.take_of_length_le (by omega)
    have hrx' : r ≠ x := by omega
    have xr := bx_pack hZ
    replace hQ : Hid _ := hQ
    replace hpu : Hid _ := hpu
    replace hal : Hid _ := hal
    replace hC : Hid _ := hC
    repeat' (first | (with_reducible first | apply jA | apply jB | apply jC | apply jD | apply jE | apply jF | apply jG | apply jH | apply jI | apply jJ | apply jK | apply jL | apply jM | apply jN | apply jO) | ((with_reducible first | apply jP | apply jQ); rfl) | ((first | ((with_reducible first | apply jR | apply jS | apply jT); rfl; rfl) | (with_reducible first | apply jU | apply jV | apply jW) | ((with_reducible first | apply jX | apply jY | apply jZ); rfl)); all_goals (first | ((with_reducible show Is _ _); exact kE) | ((with_reducible refine fun (hc : (_ : Bool) = _) => ?_); (try simp only [xZ, xY, xP, reduceCtorEq] at hc); (try (have hx : True := hc; clear hx hc)); (try exact kX)) | ((fail_if_success (with_reducible first | show Is _ _ | show ACall _ _ _ _ _)); (try ((with_reducible show _ ∨ _); exact kT))))))
    have hal' := show alls (Q.map (·.1)) = ps.take k from hal
    have hQ' := show PeersB (x + 1) W pc Q from hQ
    refine ⟨K, port, Q.map (·.1), ⟨hK, ⟨by omega, by omega⟩, fun p hp => ?_, show (pubs (Q.map (·.1))).Nodup from hpu, ?_, ?_, by rw [List.length_map]; omega⟩, ?_⟩
    · obtain ⟨q, hq, rfl⟩ := List.mem_map.1 hp
      exact (hQ'.1 q hq).1
    · rw [hal']; exact hps.1.sublist (List.take_sublist _ _)
    · rw [hal', List.length_take]; omega
    · rw [← (show K.map byteC ++ [.int .i64 port, pc] = C from hC)]
      exact peers_fz (hQ'.keep fun j h1 h2 => by rw [List.getElem?_set_ne (by omega)])
  have hwn : IntKind.i64.wrap ((n : Int) + 1) = (n : Int) + 1 := wi64 (by omega)
  repeat' (first | (with_reducible first | apply jA | apply jB | apply jC | apply jD | apply jE | apply jF | apply jG | apply jH | apply jI | apply jJ | apply jK | apply jL | apply jM | apply jN | apply jO) | ((with_reducible first | apply jP | apply jQ); rfl) | ((first | ((with_reducible first | apply jR | apply jS | apply jT); rfl; rfl) | (with_reducible first | apply jU | apply jV | apply jW) | ((with_reducible first | apply jX | apply jY | apply jZ); rfl)); all_goals (first | ((with_reducible show Is _ _); exact kE) | ((with_reducible refine fun (hc : (_ : Bool) = _) => ?_); (try simp only [xZ, xY, xP, reduceCtorEq] at hc); (try (have hx : True := hc; clear hx hc)); (try exact kX)) | ((fail_if_success (with_reducible first | show Is _ _ | show ACall _ _ _ _ _)); (try ((with_reducible show _ ∨ _); exact kT))))) | (((with_reducible first | apply o_callQ | apply q_callQ); rfl); (iterate 2 exact kE); (first | ((with_reducible apply hnn) <;> exact kD))))
  rintro _ W3 ⟨⟨i0, hi0, rfl⟩, hd⟩
  have hlc : RestP (x + 1) W3 (fr 6) ps 0 := hrest.keep fun i m h1 _ h2 => hd.2.1 i (List.getElem?_eq_some_iff.1 h2).1 (by omega)
  have hZ3 : W3[r]? = some ⟨Z, false⟩ := by rw [hd.2.1 r (by omega) (by omega), hZ1]
  have hx3 : W3[x]? = some ⟨K.map byteC ++ [.int .i64 port, .nilS], false⟩ := by rw [hd.2.1 x (by omega) (by omega), hx1]
  have hlen3 : x < W3.length := by have := hd.2.2; omega
  have hc3 := hd.1
  clear hd hZ1 hx1 hWx hW2 hrest
  replace hlc : Hid _ := hlc
  repeat' (first | (with_reducible first | apply jA | apply jB | apply jC | apply jD | apply jE | apply jF | apply jG | apply jH | apply jI | apply jJ | apply jK | apply jL | apply jM | apply jN | apply jO) | ((with_reducible first | apply jP | apply jQ); rfl) | ((first | ((with_reducible first | apply jR | apply jS | apply jT); rfl; rfl) | (with_reducible first | apply jU | apply jV | apply jW) | ((with_reducible first | apply jX | apply jY | apply jZ); rfl)); all_goals (first | ((with_reducible show Is _ _); exact kE) | ((with_reducible refine fun (hc : (_ : Bool) = _) => ?_); (try simp only [xZ, xY, xP, reduceCtorEq] at hc); (try (have hx : True := hc; clear hx hc)); (try exact kX)) | ((fail_if_success (with_reducible first | show Is _ _ | show ACall _ _ _ _ _)); (try ((with_reducible show _ ∨ _); exact kT))))))
  refine w_loop (fun fr W => ∃ (i : Nat) (Q : List (Pe × CV)) (pc : CV) (k : Nat), i + Q.length ≤ n ∧ fr 0 = .ptr β 0 ∧ fr 4 = .ptr r 0 ∧ fr 5 = .ptr x 0 ∧ fr 7 = .int .i64 i ∧ (∃ a, a ≤ l.length ∧ W[β]? = some (cb l a)) ∧ W[r]? = some ⟨Z, false⟩ ∧ W[x]? = some ⟨K.map byteC ++ [.int .i64 port, pc], false⟩ ∧ x < W.length ∧
    RestP (x + 1) W (fr 6) ps k ∧ PeersB (x + 1) W pc Q ∧ alls (Q.map (·.1)) = ps.take k ∧ (pubs (Q.map (·.1))).Nodup ∧ ∀ q ∈ Q, ∃ j : Nat, i < j ∧ j ≤ n ∧ q.1.1.head? = some (UInt8.ofNat (10 * j))) (fun fr _ => natOf (fr 7)) ?_ ?_
  · exact ⟨i0, [], .nilS, 0, by simp; omega, by (simp (disch := omega) [go_sem, *]) <;> (try omega), by (simp (disch := omega) [go_sem, *]) <;> (try omega), by (simp (disch := omega) [go_sem, *]) <;> (try omega), by (simp (disch := omega) [go_sem, *]) <;> (try omega), hc3, hZ3, hx3, hlen3, (by have h : RestP (x + 1) W3 (fr 6) ps 0 := hlc; simpa [upd] using h), ⟨by simp, .inl ⟨rfl, rfl⟩⟩, by simp [alls], by simp [pubs], by simp⟩
  clear hlc hZ3 hx3 hlen3 hc3 f0 f1 f4 f5 fr W3 hwn hi0 hnn W
  rintro fr W0 ⟨i, Q, pc, k, hi, f0, f4, f5, f7, hW, hZ, hx, hxl, hlc, hQ, hal, hpu, hq⟩
  have hm0 : natOf (fr 7) = i := by rw [f7]; rfl
  by_cases hci : 0 < i
  rotate_left
  · obtain rfl : i = 0 := by omega
    replace hQ : Hid _ := hQ
    replace hlc : Hid _ := hlc
    replace hal : Hid _ := hal
    replace hq : Hid _ := hq
    replace hpu : Hid _ := hpu
    repeat' (first | (with_reducible first | apply jA | apply jB | apply jC | apply jD | apply jE | apply jF | apply jG | apply jH | apply jI | apply jJ | apply jK | apply jL | apply jM | apply jN | apply jO) | ((with_reducible first | apply jP | apply jQ); rfl) | ((first | ((with_reducible first | apply jR | apply jS | apply jT); rfl; rfl) | (with_reducible first | apply jU | apply jV | apply jW) | ((with_reducible first | apply jX | apply jY | apply jZ); rfl)); all_goals (first | ((with_reducible show Is _ _); exact kE) | ((with_reducible refine fun (hc : (_ : Bool) = _) => ?_); (try simp only [xZ, xY, xP, reduceCtorEq] at hc); (try (have hx : True := hc; clear hx hc)); (try exact kX)) | ((fail_if_success (with_reducible first | show Is _ _ | show ACall _ _ _ _ _)); (try ((with_reducible show _ ∨ _); exact kT))))))
    exact ⟨Q, pc, by (simp (disch := omega) [go_sem, *]) <;> (try omega), by (simp (disch := omega) [go_sem, *]) <;> (try omega), hZ, hx, hQ, hpu, by omega, k, hal⟩
  obtain ⟨lc, f6⟩ : ∃ lc, fr 6 = lc := ⟨_, rfl⟩
  rw [f6] at hlc
  have hβW : β < W0.length := by omega
  replace hQ : Hid _ := hQ
  replace hlc : Hid _ := hlc
  replace hal : Hid _ := hal
  replace hq : Hid _ := hq
  replace hpu : Hid _ := hpu
  refine w_cut (fun fr W => fr 0 = .ptr β 0 ∧ fr 4 = .ptr r 0 ∧ fr 5 = .ptr x 0 ∧ fr 6 = lc ∧ fr 7 = .int .i64 i ∧ W = W0) ?_ ?_
  · repeat' (first | (with_reducible first | apply jA | apply jB | apply jC | apply jD | apply jE | apply jF | apply jG | apply jH | apply jI | apply jJ | apply jK | apply jL | apply jM | apply jN | apply jO) | ((with_reducible first | apply jP | apply jQ); rfl) | ((first | ((with_reducible first | apply jR | apply jS | apply jT); rfl; rfl) | (with_reducible first | apply jU | apply jV | apply jW) | ((with_reducible first | apply jX | apply jY | apply jZ); rfl)); all_goals (first | ((with_reducible show Is _ _); exact kE) | ((with_reducible refine fun (hc : (_ : Bool) = _) => ?_); (try simp only [xZ, xY, xP, reduceCtorEq] at hc); (try (have hx : True := hc; clear hx hc)); (try exact kX)) | ((fail_if_success (with_reducible first | show Is _ _ | show ACall _ _ _ _ _)); (try ((with_reducible show _ ∨ _); exact kT))))))
    exact ⟨by (simp (disch := omega) [go_sem, *]) <;> (try omega), by (simp (disch := omega) [go_sem, *]) <;> (try omega), by (simp (disch := omega) [go_sem, *]) <;> (try omega), by (simp (disch := omega) [go_sem, *]) <;> (try omega), by (simp (disch := omega) [go_sem, *]) <;> (try omega), rfl⟩
  rw [hm0]
  clear f0 f4 f5 f6 f7 hm0 fr
  rintro fr W ⟨f0, f4, f5, f6, f7, hWW⟩
  obtain rfl := hWW.symm
  clear hWW
  refine w_seq (w_block ?_)
  refine w_cut (fun fr W => ∃ (bp : Nat) (v : UInt8), W.length = bp + 1 ∧ W0.length ≤ bp ∧ RdI β l r x i bp lc (UInt8.ofNat (10 * i) :: v :: List.replicate 30 0) W0 fr W) ?_ ?_
  ·
    repeat' (first | (with_reducible first | apply jA | apply jB | apply jC | apply jD | apply jE | apply jF | apply jG | apply jH | apply jI | apply jJ | apply jK | apply jL | apply jM | apply jN | apply jO) | ((with_reducible first | apply jP | apply jQ); rfl) | ((first | ((with_reducible first | apply jR | apply jS | apply jT); rfl; rfl) | (with_reducible first | apply jU | apply jV | apply jW) | ((with_reducible first | apply jX | apply jY | apply jZ); rfl)); all_goals (first | ((with_reducible show Is _ _); exact kE) | ((with_reducible refine fun (hc : (_ : Bool) = _) => ?_); (try simp only [xZ, xY, xP, reduceCtorEq] at hc); (try (have hx : True := hc; clear hx hc)); (try exact kX)) | ((fail_if_success (with_reducible first | show Is _ _ | show ACall _ _ _ _ _)); (try ((with_reducible show _ ∨ _); exact kT))))) | (((with_reducible first | apply o_callQ | apply q_callQ); rfl); (iterate 2 exact kE); (first | ((with_reducible apply hn2) <;> exact kD))))
    rintro _ W1 ⟨⟨v, hv, rfl⟩, hd⟩
    repeat' (first | (with_reducible first | apply jA | apply jB | apply jC | apply jD | apply jE | apply jF | apply jG | apply jH | apply jI | apply jJ | apply jK | apply jL | apply jM | apply jN | apply jO) | ((with_reducible first | apply jP | apply jQ); rfl) | ((first | ((with_reducible first | apply jR | apply jS | apply jT); rfl; rfl) | (with_reducible first | apply jU | apply jV | apply jW) | ((with_reducible first | apply jX | apply jY | apply jZ); rfl)); all_goals (first | ((with_reducible show Is _ _); exact kE) | ((with_reducible refine fun (hc : (_ : Bool) = _) => ?_); (try simp only [xZ, xY, xP, reduceCtorEq] at hc); (try (have hx : True := hc; clear hx hc)); (try exact kX)) | ((fail_if_success (with_reducible first | show Is _ _ | show ACall _ _ _ _ _)); (try ((with_reducible show _ ∨ _); exact kT))))))
    refine ⟨W1.length, UInt8.ofNat v, by simp, hd.2.2, peNew (UInt8.ofNat (10 * i) :: UInt8.ofNat v :: List.replicate 30 0), peNew_ok (by simp), rfl, rfl, by (simp (disch := omega) [go_sem, *]) <;> (try omega), by (simp (disch := omega) [go_sem, *]) <;> (try omega), by (simp (disch := omega) [go_sem, *]) <;> (try omega), by (simp (disch := omega) [go_sem, *]) <;> (try omega), by (simp (disch := omega) [go_sem, *]) <;> (try omega), by (simp (disch := omega) [go_sem, *]) <;> (try omega), ?_, hd.app hβW _⟩
    rw [bx_get0 rfl, peX_eq]
    have e1 : byteC (UInt8.ofNat (10 * i)) = .int .u8 (10 * (i : Int)) := by
      unfold byteC
      rw [UInt8.toNat_ofNat', Nat.mod_eq_of_lt (by omega)]
      first | (congr 1; done) | (congr 1; omega)
    have e2 : byteC (UInt8.ofNat v) = .int .u8 v := by
      unfold byteC
      rw [UInt8.toNat_ofNat', Nat.mod_eq_of_lt (by omega)]
    simp only [peNew, List.map_cons, e1, e2]
    rfl
  rintro fr W ⟨bp, v, hbl, hbp, hrd⟩
  clear hW hn2
  obtain ⟨pub, hpub⟩ : ∃ pub, UInt8.ofNat (10 * i) :: v :: List.replicate 30 0 = pub := ⟨_, rfl⟩
  rw [hpub] at hrd
  clear f0 f4 f5 f6 f7
  refine w_cut (RdI β l r x i bp lc pub W0) ?_ ?_
  ·
    obtain ⟨p, hp, hp1, hp5, f0, f4, f5, f6, f7, f8, hb, hd⟩ := hrd
    have hW1 := hd.1
    have hbW := (List.getElem?_eq_some_iff.1 hb).1
    obtain ⟨X, hX⟩ : ∃ X, peX p .nilS = X := ⟨_, rfl⟩
    have hXl := peX_len hp.1 .nilS
    rw [hX] at hb hXl
    replace hX : Hid _ := hX
    replace hp : Hid _ := hp
    replace hp1 : Hid _ := hp1
    replace hp5 : Hid _ := hp5
    repeat' (first | (with_reducible first | apply jA | apply jB | apply jC | apply jD | apply jE | apply jF | apply jG | apply jH | apply jI | apply jJ | apply jK | apply jL | apply jM | apply jN | apply jO) | ((with_reducible first | apply jP | apply jQ); rfl) | ((first | ((with_reducible first | apply jR | apply jS | apply jT); rfl; rfl) | (with_reducible first | apply jU | apply jV | apply jW) | ((with_reducible first | apply jX | apply jY | apply jZ); rfl)); all_goals (first | ((with_reducible show Is _ _); exact kE) | ((with_reducible refine fun (hc : (_ : Bool) = _) => ?_); (try simp only [xZ, xY, xP, reduceCtorEq] at hc); (try (have hx : True := hc; clear hx hc)); (try exact kX)) | ((fail_if_success (with_reducible first | show Is _ _ | show ACall _ _ _ _ _)); (try ((with_reducible show _ ∨ _); exact kT))))) | (((with_reducible first | apply o_callQ | apply q_callQ); rfl); (iterate 2 exact kE); (first | ((with_reducible apply hbo) <;> exact kD))))
    rintro _ W2 ⟨⟨t, rfl⟩, hd2⟩
    have hb2 : W2[bp]? = some ⟨X, false⟩ := by rw [hd2.2.1 bp hbW (by omega), hb]
    have hW2 := hd2.1
    cases t
    · repeat' (first | (with_reducible first | apply jA | apply jB | apply jC | apply jD | apply jE | apply jF | apply jG | apply jH | apply jI | apply jJ | apply jK | apply jL | apply jM | apply jN | apply jO) | ((with_reducible first | apply jP | apply jQ); rfl) | ((first | ((with_reducible first | apply jR | apply jS | apply jT); rfl; rfl) | (with_reducible first | apply jU | apply jV | apply jW) | ((with_reducible first | apply jX | apply jY | apply jZ); rfl)); all_goals (first | ((with_reducible show Is _ _); exact kE) | ((with_reducible refine fun (hc : (_ : Bool) = _) => ?_); (try simp only [xZ, xY, xP, reduceCtorEq] at hc); (try (have hx : True := hc; clear hx hc)); (try exact kX)) | ((fail_if_success (with_reducible first | show Is _ _ | show ACall _ _ _ _ _)); (try ((with_reducible show _ ∨ _); exact kT))))))
      exact ⟨p, hp, hp1, hp5, by (simp (disch := omega) [go_sem, *]) <;> (try omega), by (simp (disch := omega) [go_sem, *]) <;> (try omega), by (simp (disch := omega) [go_sem, *]) <;> (try omega), by (simp (disch := omega) [go_sem, *]) <;> (try omega), by (simp (disch := omega) [go_sem, *]) <;> (try omega), by (simp (disch := omega) [go_sem, *]) <;> (try omega), by rw [show peX p .nilS = X from hX]; exact hb2, hd.trans hd2⟩
    · repeat' (first | (with_reducible first | apply jA | apply jB | apply jC | apply jD | apply jE | apply jF | apply jG | apply jH | apply jI | apply jJ | apply jK | apply jL | apply jM | apply jN | apply jO) | ((with_reducible first | apply jP | apply jQ); rfl) | ((first | ((with_reducible first | apply jR | apply jS | apply jT); rfl; rfl) | (with_reducible first | apply jU | apply jV | apply jW) | ((with_reducible first | apply jX | apply jY | apply jZ); rfl)); all_goals (first | ((with_reducible show Is _ _); exact kE) | ((with_reducible refine fun (hc : (_ : Bool) = _) => ?_); (try simp only [xZ, xY, xP, reduceCtorEq] at hc); (try (have hx : True := hc; clear hx hc)); (try exact kX)) | ((fail_if_success (with_reducible first | show Is _ _ | show ACall _ _ _ _ _)); (try ((with_reducible show _ ∨ _); exact kT))))) | (((with_reducible first | apply o_callQ | apply q_callQ); rfl); (iterate 2 exact kE); (first | ((with_reducible apply hky) <;> exact kD))))
      rintro _ W3 ⟨⟨u, hu, rfl⟩, hd3⟩
      have hb3 : W3[bp]? = some ⟨X, false⟩ := by rw [hd3.2.1 bp (by have := hd2.2.2; omega) (by omega), hb2]
      repeat' (first | (with_reducible first | apply jA | apply jB | apply jC | apply jD | apply jE | apply jF | apply jG | apply jH | apply jI | apply jJ | apply jK | apply jL | apply jM | apply jN | apply jO) | ((with_reducible first | apply jP | apply jQ); rfl) | ((first | ((with_reducible first | apply jR | apply jS | apply jT); rfl; rfl) | (with_reducible first | apply jU | apply jV | apply jW) | ((with_reducible first | apply jX | apply jY | apply jZ); rfl)); all_goals (first | ((with_reducible show Is _ _); exact kE) | ((with_reducible refine fun (hc : (_ : Bool) = _) => ?_); (try simp only [xZ, xY, xP, reduceCtorEq] at hc); (try (have hx : True := hc; clear hx hc)); (try exact kX)) | ((fail_if_success (with_reducible first | show Is _ _ | show ACall _ _ _ _ _)); (try ((with_reducible show _ ∨ _); exact kT))))))
      refine ⟨(p.1, u, p.2.2), PeG.sh hp hu, hp1, hp5, by (simp (disch := omega) [go_sem, *]) <;> (try omega), by (simp (disch := omega) [go_sem, *]) <;> (try omega), by (simp (disch := omega) [go_sem, *]) <;> (try omega), by (simp (disch := omega) [go_sem, *]) <;> (try omega), by (simp (disch := omega) [go_sem, *]) <;> (try omega), by (simp (disch := omega) [go_sem, *]) <;> (try omega), ?_, ((hd.trans hd2).trans hd3).set hβW hbp _⟩
      rw [List.getElem?_set_self (List.getElem?_eq_some_iff.1 hb3).1, ← (show peX p .nilS = X from hX), qx_shared (show PeG p from hp).1 hu]
  clear hrd fr W hbl
  rintro fr W hrd
  refine w_cut (RdI β l r x i bp lc pub W0) ?_ ?_
  ·
    obtain ⟨p, hp, hp1, hp5, f0, f4, f5, f6, f7, f8, hb, hd⟩ := hrd
    have hW1 := hd.1
    have hbW := (List.getElem?_eq_some_iff.1 hb).1
    obtain ⟨X, hX⟩ : ∃ X, peX p .nilS = X := ⟨_, rfl⟩
    have hXl := peX_len hp.1 .nilS
    rw [hX] at hb hXl
    replace hX : Hid _ := hX
    replace hp : Hid _ := hp
    replace hp1 : Hid _ := hp1
    replace hp5 : Hid _ := hp5
    repeat' (first | (with_reducible first | apply jA | apply jB | apply jC | apply jD | apply jE | apply jF | apply jG | apply jH | apply jI | apply jJ | apply jK | apply jL | apply jM | apply jN | apply jO) | ((with_reducible first | apply jP | apply jQ); rfl) | ((first | ((with_reducible first | apply jR | apply jS | apply jT); rfl; rfl) | (with_reducible first | apply jU | apply jV | apply jW) | ((with_reducible first | apply jX | apply jY | apply jZ); rfl)); all_goals (first | ((with_reducible show Is _ _); exact kE) | ((with_reducible refine fun (hc : (_ : Bool) = _) => ?_); (try simp only [xZ, xY, xP, reduceCtorEq] at hc); (try (have hx : True := hc; clear hx hc)); (try exact kX)) | ((fail_if_success (with_reducible first | show Is _ _ | show ACall _ _ _ _ _)); (try ((with_reducible show _ ∨ _); exact kT))))) | (((with_reducible first | apply o_callQ | apply q_callQ); rfl); (iterate 2 exact kE); (first | ((with_reducible apply hbo) <;> exact kD))))
    rintro _ W2 ⟨⟨t, rfl⟩, hd2⟩
    have hb2 : W2[bp]? = some ⟨X, false⟩ := by rw [hd2.2.1 bp hbW (by omega), hb]
    have hW2 := hd2.1
    cases t
    · repeat' (first | (with_reducible first | apply jA | apply jB | apply jC | apply jD | apply jE | apply jF | apply jG | apply jH | apply jI | apply jJ | apply jK | apply jL | apply jM | apply jN | apply jO) | ((with_reducible first | apply jP | apply jQ); rfl) | ((first | ((with_reducible first | apply jR | apply jS | apply jT); rfl; rfl) | (with_reducible first | apply jU | apply jV | apply jW) | ((with_reducible first | apply jX | apply jY | apply jZ); rfl)); all_goals (first | ((with_reducible show Is _ _); exact kE) | ((with_reducible refine fun (hc : (_ : Bool) = _) => ?_); (try simp only [xZ, xY, xP, reduceCtorEq] at hc); (try (have hx : True := hc; clear hx hc)); (try exact kX)) | ((fail_if_success (with_reducible first | show Is _ _ | show ACall _ _ _ _ _)); (try ((with_reducible show _ ∨ _); exact kT))))))
      exact ⟨p, hp, hp1, hp5, by (simp (disch := omega) [go_sem, *]) <;> (try omega), by (simp (disch := omega) [go_sem, *]) <;> (try omega), by (simp (disch := omega) [go_sem, *]) <;> (try omega), by (simp (disch := omega) [go_sem, *]) <;> (try omega), by (simp (disch := omega) [go_sem, *]) <;> (try omega), by (simp (disch := omega) [go_sem, *]) <;> (try omega), by rw [show peX p .nilS = X from hX]; exact hb2, hd.trans hd2⟩
    · repeat' (first | (with_reducible first | apply jA | apply jB | apply jC | apply jD | apply jE | apply jF | apply jG | apply jH | apply jI | apply jJ | apply jK | apply jL | apply jM | apply jN | apply jO) | ((with_reducible first | apply jP | apply jQ); rfl) | ((first | ((with_reducible first | apply jR | apply jS | apply jT); rfl; rfl) | (with_reducible first | apply jU | apply jV | apply jW) | ((with_reducible first | apply jX | apply jY | apply jZ); rfl)); all_goals (first | ((with_reducible show Is _ _); exact kE) | ((with_reducible refine fun (hc : (_ : Bool) = _) => ?_); (try simp only [xZ, xY, xP, reduceCtorEq] at hc); (try (have hx : True := hc; clear hx hc)); (try exact kX)) | ((fail_if_success (with_reducible first | show Is _ _ | show ACall _ _ _ _ _)); (try ((with_reducible show _ ∨ _); exact kT))))) | (((with_reducible first | apply o_callQ | apply q_callQ); rfl); (iterate 2 exact kE); (first | ((with_reducible apply hep) <;> exact kD))))
      rintro _ W3 ⟨⟨q, hq1, hq2, rfl⟩, hd3⟩
      have hb3 : W3[bp]? = some ⟨X, false⟩ := by rw [hd3.2.1 bp (by have := hd2.2.2; omega) (by omega), hb2]
      have hql := pfC_len hq1
      have hp' := show PeG p from hp
      obtain ⟨X2, hX2e⟩ : ∃ X2, X.take 64 ++ .bool true :: X.drop 65 = X2 := ⟨_, rfl⟩
      have hX2p : X2 = peX (p.1, p.2.1, true, p.2.2.2) .nilS := by rw [← hX2e, ← (show peX p .nilS = X from hX), qx_has hp'.1]
      have hX2 : X2.length = 85 := by rw [hX2p]; exact peX_len (p := (p.1, p.2.1, true, p.2.2.2)) ⟨hp'.1.1, hp'.1.2.1, hp'.1.2.2⟩ _
      have hX3 : X2.take 65 ++ (pfC q ++ X2.drop 83) = peX (p.1, p.2.1, true, q, p.2.2.2.2) .nilS := by
        rw [hX2p, qx_end (p := (p.1, p.2.1, true, p.2.2.2)) ⟨hp'.1.1, hp'.1.2.1, hp'.1.2.2⟩ hq1]
      replace hX2p : Hid _ := hX2p
      replace hp' : Hid _ := hp'
      obtain ⟨qc, hqc⟩ : ∃ qc, pfC q = qc := ⟨_, rfl⟩
      rw [hqc] at hql hX3
      rw [hqc]
      replace hX3 : Hid _ := hX3
      have hs3 := (bx_pack hb3).2.2.1
      replace hqc : Hid _ := hqc
      replace hq1 : Hid _ := hq1
      replace hq2 : Hid _ := hq2
      repeat' (first | (with_reducible first | apply jA | apply jB | apply jC | apply jD | apply jE | apply jF | apply jG | apply jH | apply jI | apply jJ | apply jK | apply jL | apply jM | apply jN | apply jO) | ((with_reducible first | apply jP | apply jQ); rfl) | ((first | ((with_reducible first | apply jR | apply jS | apply jT); rfl; rfl) | (with_reducible first | apply jU | apply jV | apply jW) | ((with_reducible first | apply jX | apply jY | apply jZ); rfl)); all_goals (first | ((with_reducible show Is _ _); exact kE) | ((with_reducible refine fun (hc : (_ : Bool) = _) => ?_); (try simp only [xZ, xY, xP, reduceCtorEq] at hc); (try (have hx : True := hc; clear hx hc)); (try exact kX)) | ((fail_if_success (with_reducible first | show Is _ _ | show ACall _ _ _ _ _)); (try ((with_reducible show _ ∨ _); exact kT))))))
      refine ⟨(p.1, p.2.1, true, q, p.2.2.2.2), PeG.ep hp hq1 hq2, hp1, hp5, by (simp (disch := omega) [go_sem, *]) <;> (try omega), by (simp (disch := omega) [go_sem, *]) <;> (try omega), by (simp (disch := omega) [go_sem, *]) <;> (try omega), by (simp (disch := omega) [go_sem, *]) <;> (try omega), by (simp (disch := omega) [go_sem, *]) <;> (try omega), by (simp (disch := omega) [go_sem, *]) <;> (try omega), ?_, ((hd.trans hd2).trans hd3).set hβW hbp _⟩
      rw [hs3, ← (show pfC q = qc from hqc)]
      exact congrArg (fun x => some (Box.mk x false)) ((show X2.take 65 ++ (qc ++ X2.drop 83) = _ from hX3) ▸ (by rw [show pfC q = qc from hqc]))
  clear hrd fr W
  rintro fr W hrd
  refine w_cut (RdI β l r x i bp lc pub W0) ?_ ?_
  ·
    obtain ⟨p, hp, hp1, hp5, f0, f4, f5, f6, f7, f8, hb, hd⟩ := hrd
    have hW1 := hd.1
    have hbW := (List.getElem?_eq_some_iff.1 hb).1
    obtain ⟨X, hX⟩ : ∃ X, peX p .nilS = X := ⟨_, rfl⟩
    have hXl := peX_len hp.1 .nilS
    rw [hX] at hb hXl
    replace hX : Hid _ := hX
    replace hp : Hid _ := hp
    replace hp1 : Hid _ := hp1
    replace hp5 : Hid _ := hp5
    repeat' (first | (with_reducible first | apply jA | apply jB | apply jC | apply jD | apply jE | apply jF | apply jG | apply jH | apply jI | apply jJ | apply jK | apply jL | apply jM | apply jN | apply jO) | ((with_reducible first | apply jP | apply jQ); rfl) | ((first | ((with_reducible first | apply jR | apply jS | apply jT); rfl; rfl) | (with_reducible first | apply jU | apply jV | apply jW) | ((with_reducible first | apply jX | apply jY | apply jZ); rfl)); all_goals (first | ((with_reducible show Is _ _); exact kE) | ((with_reducible refine fun (hc : (_ : Bool) = _) => ?_); (try simp only [xZ, xY, xP, reduceCtorEq] at hc); (try (have hx : True := hc; clear hx hc)); (try exact kX)) | ((fail_if_success (with_reducible first | show Is _ _ | show ACall _ _ _ _ _)); (try ((with_reducible show _ ∨ _); exact kT))))) | (((with_reducible first | apply o_callQ | apply q_callQ); rfl); (iterate 2 exact kE); (first | ((with_reducible apply hn3) <;> exact kD))))
    rintro _ W2 ⟨⟨t, ht, rfl⟩, hd2⟩
    have hb2 : W2[bp]? = some ⟨X, false⟩ := by rw [hd2.2.1 bp hbW (by omega), hb]
    have hW2 := hd2.1
    by_cases ht1 : t = 1
    rotate_left
    · have ht2 : ((t : Int) == 1) = false := by simpa using (by omega : (t : Int) ≠ 1)
      repeat' (first | (with_reducible first | apply jA | apply jB | apply jC | apply jD | apply jE | apply jF | apply jG | apply jH | apply jI | apply jJ | apply jK | apply jL | apply jM | apply jN | apply jO) | ((with_reducible first | apply jP | apply jQ); rfl) | ((first | ((with_reducible first | apply jR | apply jS | apply jT); rfl; rfl) | (with_reducible first | apply jU | apply jV | apply jW) | ((with_reducible first | apply jX | apply jY | apply jZ); rfl)); all_goals (first | ((with_reducible show Is _ _); exact kE) | ((with_reducible refine fun (hc : (_ : Bool) = _) => ?_); (try simp only [xZ, xY, xP, reduceCtorEq] at hc); (try (have hx : True := hc; clear hx hc)); (try exact kX)) | ((fail_if_success (with_reducible first | show Is _ _ | show ACall _ _ _ _ _)); (try ((with_reducible show _ ∨ _); exact kT))))))
      exact ⟨p, hp, hp1, hp5, by (simp (disch := omega) [go_sem, *]) <;> (try omega), by (simp (disch := omega) [go_sem, *]) <;> (try omega), by (simp (disch := omega) [go_sem, *]) <;> (try omega), by (simp (disch := omega) [go_sem, *]) <;> (try omega), by (simp (disch := omega) [go_sem, *]) <;> (try omega), by (simp (disch := omega) [go_sem, *]) <;> (try omega), by rw [show peX p .nilS = X from hX]; exact hb2, hd.trans hd2⟩
    · subst ht1
      repeat' (first | (with_reducible first | apply jA | apply jB | apply jC | apply jD | apply jE | apply jF | apply jG | apply jH | apply jI | apply jJ | apply jK | apply jL | apply jM | apply jN | apply jO) | ((with_reducible first | apply jP | apply jQ); rfl) | ((first | ((with_reducible first | apply jR | apply jS | apply jT); rfl; rfl) | (with_reducible first | apply jU | apply jV | apply jW) | ((with_reducible first | apply jX | apply jY | apply jZ); rfl)); all_goals (first | ((with_reducible show Is _ _); exact kE) | ((with_reducible refine fun (hc : (_ : Bool) = _) => ?_); (try simp only [xZ, xY, xP, reduceCtorEq] at hc); (try (have hx : True := hc; clear hx hc)); (try exact kX)) | ((fail_if_success (with_reducible first | show Is _ _ | show ACall _ _ _ _ _)); (try ((with_reducible show _ ∨ _); exact kT))))) | (((with_reducible first | apply o_callQ | apply q_callQ); rfl); (iterate 2 exact kE); (first | ((with_reducible apply hbk) <;> exact kD))))
      rintro _ W3 ⟨⟨u, hu, rfl⟩, hd3⟩
      have hb3 : W3[bp]? = some ⟨X, false⟩ := by rw [hd3.2.1 bp (by have := hd2.2.2; omega) (by omega), hb2]
      have hw3 : IntKind.i64.wrap (1000 + (u : Int)) = 1000 + (u : Int) := wi64 (by omega)
      repeat' (first | (with_reducible first | apply jA | apply jB | apply jC | apply jD | apply jE | apply jF | apply jG | apply jH | apply jI | apply jJ | apply jK | apply jL | apply jM | apply jN | apply jO) | ((with_reducible first | apply jP | apply jQ); rfl) | ((first | ((with_reducible first | apply jR | apply jS | apply jT); rfl; rfl) | (with_reducible first | apply jU | apply jV | apply jW) | ((with_reducible first | apply jX | apply jY | apply jZ); rfl)); all_goals (first | ((with_reducible show Is _ _); exact kE) | ((with_reducible refine fun (hc : (_ : Bool) = _) => ?_); (try simp only [xZ, xY, xP, reduceCtorEq] at hc); (try (have hx : True := hc; clear hx hc)); (try exact kX)) | ((fail_if_success (with_reducible first | show Is _ _ | show ACall _ _ _ _ _)); (try ((with_reducible show _ ∨ _); exact kT))))))
      refine ⟨(p.1, p.2.1, p.2.2.1, p.2.2.2.1, 1000 + (u : Int), p.2.2.2.2.2), PeG.kp hp hu, hp1, hp5, by (simp (disch := omega) [go_sem, *]) <;> (try omega), by (simp (disch := omega) [go_sem, *]) <;> (try omega), by (simp (disch := omega) [go_sem, *]) <;> (try omega), by (simp (disch := omega) [go_sem, *]) <;> (try omega), by (simp (disch := omega) [go_sem, *]) <;> (try omega), by (simp (disch := omega) [go_sem, *]) <;> (try omega), ?_, ((hd.trans hd2).trans hd3).set hβW hbp _⟩
      rw [List.getElem?_set_self (List.getElem?_eq_some_iff.1 hb3).1, ← (show peX p .nilS = X from hX), qx_keep (show PeG p from hp).1]
  clear hrd fr W
  rintro fr W hrd
  refine w_cut (fun fr W => ∃ (p : Pe) (av : CV) (k' : Nat), PeG p ∧ p.1 = pub ∧ fr 0 = .ptr β 0 ∧ fr 4 = .ptr r 0 ∧ fr 5 = .ptr x 0 ∧ RestP (x + 1) W0 (fr 6) ps k' ∧ fr 7 = .int .i64 i ∧ fr 8 = .ptr bp 0 ∧ W[bp]? = some ⟨peX p av, false⟩ ∧ Dr β l W0 W ∧ GrowX (bp + 1) av W p.2.2.2.2.2 ∧ ps.take k ++ p.2.2.2.2.2 = ps.take k') ?_ ?_
  · obtain ⟨p, hp, hp1, hp5, f0, f4, f5, f6, f7, f8, hb, hd⟩ := hrd
    have hW1 := hd.1
    have hbW := (List.getElem?_eq_some_iff.1 hb).1
    obtain ⟨X, hX⟩ : ∃ X, peX p .nilS = X := ⟨_, rfl⟩
    have hXl := peX_len hp.1 .nilS
    rw [hX] at hb hXl
    replace hX : Hid _ := hX
    replace hp : Hid _ := hp
    replace hp1 : Hid _ := hp1
    replace hp5 : Hid _ := hp5
    repeat' (first | (with_reducible first | apply jA | apply jB | apply jC | apply jD | apply jE | apply jF | apply jG | apply jH | apply jI | apply jJ | apply jK | apply jL | apply jM | apply jN | apply jO) | ((with_reducible first | apply jP | apply jQ); rfl) | ((first | ((with_reducible first | apply jR | apply jS | apply jT); rfl; rfl) | (with_reducible first | apply jU | apply jV | apply jW) | ((with_reducible first | apply jX | apply jY | apply jZ); rfl)); all_goals (first | ((with_reducible show Is _ _); exact kE) | ((with_reducible refine fun (hc : (_ : Bool) = _) => ?_); (try simp only [xZ, xY, xP, reduceCtorEq] at hc); (try (have hx : True := hc; clear hx hc)); (try exact kX)) | ((fail_if_success (with_reducible first | show Is _ _ | show ACall _ _ _ _ _)); (try ((with_reducible show _ ∨ _); exact kT))))) | (((with_reducible first | apply o_callQ | apply q_callQ); rfl); (iterate 2 exact kE); (first | ((with_reducible apply hn3) <;> exact kD))))
    rintro _ W2 ⟨⟨t, ht, rfl⟩, hd2⟩
    have hb2 : W2[bp]? = some ⟨X, false⟩ := by rw [hd2.2.1 bp hbW (by omega), hb]
    have hdd := hd.trans hd2
    clear hW1 hd hd2 hb
    repeat' (first | (with_reducible first | apply jA | apply jB | apply jC | apply jD | apply jE | apply jF | apply jG | apply jH | apply jI | apply jJ | apply jK | apply jL | apply jM | apply jN | apply jO) | ((with_reducible first | apply jP | apply jQ); rfl) | ((first | ((with_reducible first | apply jR | apply jS | apply jT); rfl; rfl) | (with_reducible first | apply jU | apply jV | apply jW) | ((with_reducible first | apply jX | apply jY | apply jZ); rfl)); all_goals (first | ((with_reducible show Is _ _); exact kE) | ((with_reducible refine fun (hc : (_ : Bool) = _) => ?_); (try simp only [xZ, xY, xP, reduceCtorEq] at hc); (try (have hx : True := hc; clear hx hc)); (try exact kX)) | ((fail_if_success (with_reducible first | show Is _ _ | show ACall _ _ _ _ _)); (try ((with_reducible show _ ∨ _); exact kT))))))
    refine w_loop (fun fr W => ∃ (j k' : Nat) (al : List Pf) (av : CV), fr 0 = .ptr β 0 ∧ fr 4 = .ptr r 0 ∧ fr 5 = .ptr x 0 ∧ RestP (x + 1) W0 (fr 6) ps k' ∧ fr 7 = .int .i64 i ∧ fr 8 = .ptr bp 0 ∧ fr 9 = .int .i64 j ∧ j < 3 ∧ W[bp]? = some ⟨peX p av, false⟩ ∧ Dr β l W0 W ∧ GrowX (bp + 1) av W al ∧ ps.take k ++ al = ps.take k') (fun fr _ => natOf (fr 9)) ?_ ?_
    · refine ⟨t, k, [], .nilS, by (simp (disch := omega) [go_sem, *]) <;> (try omega), by (simp (disch := omega) [go_sem, *]) <;> (try omega), by (simp (disch := omega) [go_sem, *]) <;> (try omega), ?_, by (simp (disch := omega) [go_sem, *]) <;> (try omega), by (simp (disch := omega) [go_sem, *]) <;> (try omega), by (simp (disch := omega) [go_sem, *]) <;> (try omega), ht, by rw [show peX p .nilS = X from hX]; exact hb2, hdd, .inl ⟨rfl, rfl⟩, by simp⟩
      have h6 : RestP (x + 1) W0 lc ps k := hlc
      simpa [upd, f6] using h6
    · clear f0 f4 f5 f6 f7 f8 hb2 hdd ht hbW hX hXl fr W W2 X
      rintro fr W ⟨j, k', al, av, f0, f4, f5, hr6, f7, f8, f9, hj, hb, hd, hg, htk⟩
      have hm0 : natOf (fr 9) = j := by rw [f9]; rfl
      obtain ⟨lc2, f6⟩ : ∃ lc2, fr 6 = lc2 := ⟨_, rfl⟩
      rw [f6] at hr6
      have hX84 := px_get (show PeG p from hp).1 av
      have hXl := peX_len (show PeG p from hp).1 av
      have hXw : ∀ w, (peX p av).take 84 ++ [w] = peX p w := qx_all (show PeG p from hp).1 av
      have hps16 : ∀ q ∈ ps, (pfC q).length = 18 := fun q hq => pfC_l (hps.2 q hq).1
      have hfin : ∃ (p : Pe), PeG p ∧ p.1 = pub ∧ W[bp]? = some ⟨peX p av, false⟩ ∧ GrowX (bp + 1) av W p.2.2.2.2.2 ∧ ps.take k ++ p.2.2.2.2.2 = ps.take k' := ⟨(p.1, p.2.1, p.2.2.1, p.2.2.2.1, p.2.2.2.2.1, al), PeG.al hp (fun q hq => hps.2 q (List.mem_of_mem_take (i := k') (by rw [← htk]; exact List.mem_append_right _ hq))), hp1, hb, hg, htk⟩
      by_cases hj0 : 0 < j
      rotate_left
      · obtain rfl : j = 0 := by omega
        replace hfin : Hid _ := hfin
        replace hr6 : Hid _ := hr6
        replace hp : Hid _ := hp
        repeat' (first | (with_reducible first | apply jA | apply jB | apply jC | apply jD | apply jE | apply jF | apply jG | apply jH | apply jI | apply jJ | apply jK | apply jL | apply jM | apply jN | apply jO) | ((with_reducible first | apply jP | apply jQ); rfl) | ((first | ((with_reducible first | apply jR | apply jS | apply jT); rfl; rfl) | (with_reducible first | apply jU | apply jV | apply jW) | ((with_reducible first | apply jX | apply jY | apply jZ); rfl)); all_goals (first | ((with_reducible show Is _ _); exact kE) | ((with_reducible refine fun (hc : (_ : Bool) = _) => ?_); (try simp only [xZ, xY, xP, reduceCtorEq] at hc); (try (have hx : True := hc; clear hx hc)); (try exact kX)) | ((fail_if_success (with_reducible first | show Is _ _ | show ACall _ _ _ _ _)); (try ((with_reducible show _ ∨ _); exact kT))))))
        obtain ⟨p', k1, k2, k3, k4, k5⟩ := (show ∃ (p : Pe), PeG p ∧ p.1 = pub ∧ W[bp]? = some ⟨peX p av, false⟩ ∧ GrowX (bp + 1) av W p.2.2.2.2.2 ∧ ps.take k ++ p.2.2.2.2.2 = ps.take k' from hfin)
        exact ⟨p', av, k', k1, k2, by (simp (disch := omega) [go_sem, *]) <;> (try omega), by (simp (disch := omega) [go_sem, *]) <;> (try omega), by (simp (disch := omega) [go_sem, *]) <;> (try omega), by simpa [upd, f6] using (show RestP (x + 1) W0 _ ps k' from hr6), by (simp (disch := omega) [go_sem, *]) <;> (try omega), by (simp (disch := omega) [go_sem, *]) <;> (try omega), k3, hd, k4, k5⟩
      rcases hr6.2 with ⟨hps0, rfl⟩ | ⟨b, m, hbx, hpne, rfl, hbb⟩
      · replace hfin : Hid _ := hfin
        replace hr6 : Hid _ := hr6
        replace hp : Hid _ := hp
        repeat' (first | (with_reducible first | apply jA | apply jB | apply jC | apply jD | apply jE | apply jF | apply jG | apply jH | apply jI | apply jJ | apply jK | apply jL | apply jM | apply jN | apply jO) | ((with_reducible first | apply jP | apply jQ); rfl) | ((first | ((with_reducible first | apply jR | apply jS | apply jT); rfl; rfl) | (with_reducible first | apply jU | apply jV | apply jW) | ((with_reducible first | apply jX | apply jY | apply jZ); rfl)); all_goals (first | ((with_reducible show Is _ _); exact kE) | ((with_reducible refine fun (hc : (_ : Bool) = _) => ?_); (try simp only [xZ, xY, xP, reduceCtorEq] at hc); (try (have hx : True := hc; clear hx hc)); (try exact kX)) | ((fail_if_success (with_reducible first | show Is _ _ | show ACall _ _ _ _ _)); (try ((with_reducible show _ ∨ _); exact kT))))))
        obtain ⟨p', k1, k2, k3, k4, k5⟩ := (show ∃ (p : Pe), PeG p ∧ p.1 = pub ∧ W[bp]? = some ⟨peX p av, false⟩ ∧ GrowX (bp + 1) av W p.2.2.2.2.2 ∧ ps.take k ++ p.2.2.2.2.2 = ps.take k' from hfin)
        exact ⟨p', av, k', k1, k2, by (simp (disch := omega) [go_sem, *]) <;> (try omega), by (simp (disch := omega) [go_sem, *]) <;> (try omega), by (simp (disch := omega) [go_sem, *]) <;> (try omega), by simpa [upd, f6] using (show RestP (x + 1) W0 _ ps k' from hr6), by (simp (disch := omega) [go_sem, *]) <;> (try omega), by (simp (disch := omega) [go_sem, *]) <;> (try omega), k3, hd, k4, k5⟩
      by_cases hkk : k' < ps.length
      rotate_left
      · have hk0 : ps.length - k' = 0 := by omega
        rw [hk0] at hr6 f6
        replace hfin : Hid _ := hfin
        replace hr6 : Hid _ := hr6
        replace hp : Hid _ := hp
        repeat' (first | (with_reducible first | apply jA | apply jB | apply jC | apply jD | apply jE | apply jF | apply jG | apply jH | apply jI | apply jJ | apply jK | apply jL | apply jM | apply jN | apply jO) | ((with_reducible first | apply jP | apply jQ); rfl) | ((first | ((with_reducible first | apply jR | apply jS | apply jT); rfl; rfl) | (with_reducible first | apply jU | apply jV | apply jW) | ((with_reducible first | apply jX | apply jY | apply jZ); rfl)); all_goals (first | ((with_reducible show Is _ _); exact kE) | ((with_reducible refine fun (hc : (_ : Bool) = _) => ?_); (try simp only [xZ, xY, xP, reduceCtorEq] at hc); (try (have hx : True := hc; clear hx hc)); (try exact kX)) | ((fail_if_success (with_reducible first | show Is _ _ | show ACall _ _ _ _ _)); (try ((with_reducible show _ ∨ _); exact kT))))))
        obtain ⟨p', k1, k2, k3, k4, k5⟩ := (show ∃ (p : Pe), PeG p ∧ p.1 = pub ∧ W[bp]? = some ⟨peX p av, false⟩ ∧ GrowX (bp + 1) av W p.2.2.2.2.2 ∧ ps.take k ++ p.2.2.2.2.2 = ps.take k' from hfin)
        exact ⟨p', av, k', k1, k2, by (simp (disch := omega) [go_sem, *]) <;> (try omega), by (simp (disch := omega) [go_sem, *]) <;> (try omega), by (simp (disch := omega) [go_sem, *]) <;> (try omega), by simpa [upd, f6] using (show RestP (x + 1) W0 _ ps k' from hr6), by (simp (disch := omega) [go_sem, *]) <;> (try omega), by (simp (disch := omega) [go_sem, *]) <;> (try omega), k3, hd, k4, k5⟩
      have hbl := (List.getElem?_eq_some_iff.1 hbb).1
      have hb6 : W[b]? = some ⟨ps.flatMap pfC, m⟩ := by rw [hd.2.1 b hbl (by omega), hbb]
      have hbbp : b ≠ bp := by omega
      obtain ⟨g1, g2⟩ := cells_all (f := pfC) (z := 18) (L := ps) hps16 k' hkk
      have hql := hps16 ps[k'] (List.getElem_mem hkk)
      have htk2 : ps.take k ++ (al ++ [ps[k']]) = ps.take (k' + 1) := by rw [← List.append_assoc, htk, List.take_succ_eq_append_getElem hkk]
      have hfl2 : (al ++ [ps[k']]).flatMap pfC = al.flatMap pfC ++ pfC ps[k'] := by rw [List.flatMap_append, List.flatMap_singleton]
      have hal16 : (al.flatMap pfC).length = al.length * 18 := fl_len fun q hq => hps16 q (List.mem_of_mem_take (i := k') (by rw [← htk]; exact List.mem_append_right _ hq))
      have hr7 : RestP (x + 1) W0 (.view b ((k' + 1) * 18) (ps.length - (k' + 1)) 18 false) ps (k' + 1) := ⟨hkk, .inr ⟨b, m, hbx, hpne, rfl, hbb⟩⟩
      have hall : al.length ≤ 6 := by have := congrArg List.length htk; rw [List.length_append, List.length_take, List.length_take] at this; omega
      have hXl2 : ∀ w, (peX p w).length = 85 := fun w => peX_len (show PeG p from hp).1 w
      obtain ⟨Q1, hQ1⟩ : ∃ Q1, pfC ps[k'] = Q1 := ⟨_, rfl⟩
      rw [hQ1] at hql g2 hfl2
      obtain ⟨cs, hcs⟩ : ∃ cs, ps.flatMap pfC = cs := ⟨_, rfl⟩
      rw [hcs] at hb6 g1 g2
      obtain ⟨X, hX⟩ : ∃ X, peX p av = X := ⟨_, rfl⟩
      rw [hX] at hb hX84 hXl hXw
      obtain ⟨hX1, hX2, -⟩ := hX84
      replace hcs : Hid _ := hcs
      replace hX : Hid _ := hX
      replace hQ1 : Hid _ := hQ1
      replace hr6 : Hid _ := hr6
      replace hr7 : Hid _ := hr7
      replace hp : Hid _ := hp
      replace hfin : Hid _ := hfin
      replace htk : Hid _ := htk
      replace htk2 : Hid _ := htk2
      replace hbb : Hid _ := hbb
      replace hps16 : Hid _ := hps16
      replace hXw : Hid _ := hXw
      have xb := bx_pack hb
      rcases hg with ⟨rfl, rfl⟩ | ⟨bA, m2, hbA, hane, rfl, hgb⟩
      ·
        cases m
        all_goals
          repeat' (first | (with_reducible first | apply jA | apply jB | apply jC | apply jD | apply jE | apply jF | apply jG | apply jH | apply jI | apply jJ | apply jK | apply jL | apply jM | apply jN | apply jO) | ((with_reducible first | apply jP | apply jQ); rfl) | ((first | ((with_reducible first | apply jR | apply jS | apply jT); rfl; rfl) | (with_reducible first | apply jU | apply jV | apply jW) | ((with_reducible first | apply jX | apply jY | apply jZ); rfl)); all_goals (first | ((with_reducible show Is _ _); exact kE) | ((with_reducible refine fun (hc : (_ : Bool) = _) => ?_); (try simp only [xZ, xY, xP, reduceCtorEq] at hc); (try (have hx : True := hc; clear hx hc)); (try exact kX)) | ((fail_if_success (with_reducible first | show Is _ _ | show ACall _ _ _ _ _)); (try ((with_reducible show _ ∨ _); exact kT))))))
          refine ⟨⟨j - 1, k' + 1, [ps[k']], .view W.length 0 1 18 false, by (simp (disch := omega) [go_sem, *]) <;> (try omega), by (simp (disch := omega) [go_sem, *]) <;> (try omega), by (simp (disch := omega) [go_sem, *]) <;> (try omega), ?_, by (simp (disch := omega) [go_sem, *]) <;> (try omega), by (simp (disch := omega) [go_sem, *]) <;> (try omega), by (simp (disch := omega) [go_sem, *]) <;> (try omega), by omega, ?_, ?_, ?_, htk2⟩, by (simp (disch := omega) [go_sem, *]) <;> (try omega)⟩
          · refine (congrArg (fun c => RestP (x + 1) W0 c ps (k' + 1)) (?_ : _ = _)).mpr (show RestP (x + 1) W0 (.view b ((k' + 1) * 18) (ps.length - (k' + 1)) 18 false) ps (k' + 1) from hr7)
            (simp (disch := omega) [go_sem, *]) <;> (try omega)
          · rw [xb.2.2.2.1, (show ∀ w, X.take 84 ++ [w] = peX p w from hXw)]
          · exact (hd.set hβW hbp _).app hβW _
          · exact .inr ⟨W.length, false, by have := (List.getElem?_eq_some_iff.1 hb).1; omega, by simp, rfl, by rw [bx_get0 (by simp)]; simp [show pfC ps[k'] = Q1 from hQ1]⟩
      · have xA := bx_pack hgb
        have hAbp : bA ≠ bp := by omega
        have hAl : Hid (bA < W.length) := (List.getElem?_eq_some_iff.1 hgb).1
        cases m
        all_goals
          repeat' (first | (with_reducible first | apply jA | apply jB | apply jC | apply jD | apply jE | apply jF | apply jG | apply jH | apply jI | apply jJ | apply jK | apply jL | apply jM | apply jN | apply jO) | ((with_reducible first | apply jP | apply jQ); rfl) | ((first | ((with_reducible first | apply jR | apply jS | apply jT); rfl; rfl) | (with_reducible first | apply jU | apply jV | apply jW) | ((with_reducible first | apply jX | apply jY | apply jZ); rfl)); all_goals (first | ((with_reducible show Is _ _); exact kE) | ((with_reducible refine fun (hc : (_ : Bool) = _) => ?_); (try simp only [xZ, xY, xP, reduceCtorEq] at hc); (try (have hx : True := hc; clear hx hc)); (try exact kX)) | ((fail_if_success (with_reducible first | show Is _ _ | show ACall _ _ _ _ _)); (try ((with_reducible show _ ∨ _); exact kT))))))
          refine ⟨⟨j - 1, k' + 1, al ++ [ps[k']], .view bA 0 (al.length + 1) 18 false, by (simp (disch := omega) [go_sem, *]) <;> (try omega), by (simp (disch := omega) [go_sem, *]) <;> (try omega), by (simp (disch := omega) [go_sem, *]) <;> (try omega), ?_, by (simp (disch := omega) [go_sem, *]) <;> (try omega), by (simp (disch := omega) [go_sem, *]) <;> (try omega), by (simp (disch := omega) [go_sem, *]) <;> (try omega), by omega, ?_, ?_, ?_, htk2⟩, by (simp (disch := omega) [go_sem, *]) <;> (try omega)⟩
          · refine (congrArg (fun c => RestP (x + 1) W0 c ps (k' + 1)) (?_ : _ = _)).mpr (show RestP (x + 1) W0 (.view b ((k' + 1) * 18) (ps.length - (k' + 1)) 18 false) ps (k' + 1) from hr7)
            (simp (disch := omega) [go_sem, *]) <;> (try omega)
          · rw [List.getElem?_set_self (by rw [List.length_set]; exact (List.getElem?_eq_some_iff.1 hb).1), (show ∀ w, X.take 84 ++ [w] = peX p w from hXw)]
          · exact (hd.set hβW (by omega) _).set hβW hbp _
          · exact .inr ⟨bA, true, hbA, by simp, by simp, by rw [List.getElem?_set_ne (Ne.symm hAbp), List.getElem?_set_self (show bA < W.length from hAl), hfl2]⟩
  clear hrd fr W
  rintro fr W ⟨p, av, k', hp, hp1, f0, f4, f5, hr6, f7, f8, hb, hd, hg, htk⟩
  have hZ2 : W[r]? = some ⟨Z, false⟩ := by rw [hd.2.1 r (by omega) (by omega), hZ]
  have hx2 : W[x]? = some ⟨K.map byteC ++ [.int .i64 port, pc], false⟩ := by rw [hd.2.1 x (by omega) (by omega), hx]
  have hQ2 : PeersB (x + 1) W pc Q := PeersB.keep (show PeersB (x + 1) W0 pc Q from hQ) fun j h1 h2 => hd.2.1 j h2 (by omega)
  have hr2 : RestP (x + 1) W (fr 6) ps k' := hr6.keep fun j m h1 _ h2 => hd.2.1 j (List.getElem?_eq_some_iff.1 h2).1 (by omega)
  have hXl := peX_len hp.1 av
  have hX85 := (px_get hp.1 av).2.2
  have hK32 : (K.map byteC).length = 32 := by simp [hK]
  have hdrop : (K.map byteC ++ [.int .i64 port, pc]).drop 33 = [pc] := by rw [show (33 : Nat) = 32 + 1 from rfl, ← List.drop_drop, List.drop_left' hK32]; rfl
  have hspl : ∀ w, (K.map byteC ++ [.int .i64 port, pc]).take 33 ++ [w] = K.map byteC ++ [.int .i64 port, w] := fun w => by
    rw [List.take_append, hK32, List.take_of_length_le (by omega)]; simp
  have hpc : cellsC pc = some [pc] := by
    rcases (show PeersB (x + 1) W pc Q from hQ2).2 with ⟨_, rfl⟩ | ⟨b, m, _, _, rfl, _⟩ <;> rfl
  obtain ⟨X, hX⟩ : ∃ X, peX p av = X := ⟨_, rfl⟩
  rw [hX] at hb hXl hX85
  obtain ⟨C, hC⟩ : ∃ C, K.map byteC ++ [.int .i64 port, pc] = C := ⟨_, rfl⟩
  rw [hC] at hx2 hdrop hspl
  have hCl : C.length = 34 := by rw [← hC]; simp [hK]
  have xx := bx_pack hx2
  have hbW : Hid (bp < W.length) := (List.getElem?_eq_some_iff.1 hb).1
  have hxW : Hid (x < W.length) := (List.getElem?_eq_some_iff.1 hx2).1
  replace hX : Hid _ := hX
  replace hC : Hid _ := hC
  replace hr2 : Hid _ := hr2
  replace hr6 : Hid _ := hr6
  replace hp : Hid _ := hp
  replace hg : Hid _ := hg
  replace htk : Hid _ := htk
  replace hspl : Hid _ := hspl
  have halls : alls ((Q ++ [(p, av)]).map (·.1)) = ps.take k' := by
    rw [List.map_append, alls, List.flatMap_append, ← (show ps.take k ++ p.2.2.2.2.2 = ps.take k' from htk), ← (show alls (Q.map (·.1)) = ps.take k from hal)]
    simp [alls]
  have hhead : p.1.head? = some (UInt8.ofNat (10 * i)) := by rw [hp1, ← hpub]; rfl
  have hpubs : (pubs ((Q ++ [(p, av)]).map (·.1))).Nodup := by
    rw [List.map_append, pubs, List.map_append]
    refine List.nodup_append.2 ⟨show (pubs (Q.map (·.1))).Nodup from hpu, by simp, fun a ha b hb e => ?_⟩
    rw [List.map_map, List.mem_map] at ha
    obtain ⟨q, hq1, rfl⟩ := ha
    obtain ⟨j, hj1, hj2, hj3⟩ := (show ∀ q ∈ Q, ∃ j : Nat, i < j ∧ j ≤ n ∧ q.1.1.head? = some (UInt8.ofNat (10 * j)) from hq) q hq1
    simp only [List.map_cons, List.map_nil, List.mem_singleton] at hb
    have e1 : q.1.1 = p.1 := by rw [← hb]; exact e
    rw [e1, hhead] at hj3
    have e2 := congrArg UInt8.toNat (Option.some.inj hj3)
    rw [UInt8.toNat_ofNat', UInt8.toNat_ofNat', Nat.mod_eq_of_lt (by omega), Nat.mod_eq_of_lt (by omega)] at e2
    omega
  have hqs : ∀ q ∈ Q ++ [(p, av)], ∃ j : Nat, i - 1 < j ∧ j ≤ n ∧ q.1.1.head? = some (UInt8.ofNat (10 * j)) := fun q hq1 => by
    rcases List.mem_append.1 hq1 with h | h
    · obtain ⟨j, hj1, hj2, hj3⟩ := (show ∀ q ∈ Q, ∃ j : Nat, i < j ∧ j ≤ n ∧ q.1.1.head? = some (UInt8.ofNat (10 * j)) from hq) q h
      exact ⟨j, by omega, hj2, hj3⟩
    · rw [List.mem_singleton.1 h]; exact ⟨i, by omega, by omega, hhead⟩
  replace halls : Hid _ := halls
  replace hhead : Hid _ := hhead
  replace hpubs : Hid _ := hpubs
  replace hqs : Hid _ := hqs
  replace hp1 : Hid _ := hp1
  rcases hQ2.2 with ⟨hQ0, hpc0⟩ | ⟨bP, m, hbP, hQne, hpc0, hbPc⟩
  · replace hQ2 : Hid _ := hQ2
    replace hQ0 : Hid _ := hQ0
    subst hpc0
    repeat' (first | (with_reducible first | apply jA | apply jB | apply jC | apply jD | apply jE | apply jF | apply jG | apply jH | apply jI | apply jJ | apply jK | apply jL | apply jM | apply jN | apply jO) | ((with_reducible first | apply jP | apply jQ); rfl) | ((first | ((with_reducible first | apply jR | apply jS | apply jT); rfl; rfl) | (with_reducible first | apply jU | apply jV | apply jW) | ((with_reducible first | apply jX | apply jY | apply jZ); rfl)); all_goals (first | ((with_reducible show Is _ _); exact kE) | ((with_reducible refine fun (hc : (_ : Bool) = _) => ?_); (try simp only [xZ, xY, xP, reduceCtorEq] at hc); (try (have hx : True := hc; clear hx hc)); (try exact kX)) | ((fail_if_success (with_reducible first | show Is _ _ | show ACall _ _ _ _ _)); (try ((with_reducible show _ ∨ _); exact kT))))))
    have hxW' := show x < W.length from hxW
    have hQ0' := show Q = [] from hQ0
    have hout : ∀ (y z : Box) (j : Nat), j < W.length → j ≠ x → (W.set x y ++ [z])[j]? = W[j]? := fun y z j h1 h2 => by rw [List.getElem?_append_left (by simpa using h1), List.getElem?_set_ne (Ne.symm h2)]
    refine ⟨⟨i - 1, Q ++ [(p, av)], .view W.length 0 1 85 false, k', by rw [List.length_append]; simp; omega, by (simp (disch := omega) [go_sem, *]) <;> (try omega), by (simp (disch := omega) [go_sem, *]) <;> (try omega), by (simp (disch := omega) [go_sem, *]) <;> (try omega), by (simp (disch := omega) [go_sem, *]) <;> (try omega), ?_, ?_, ?_, ?_, ?_, ?_, halls, hpubs, hqs⟩, by (simp (disch := omega) [go_sem, *]) <;> (try omega)⟩
    · obtain ⟨a, h1, h2⟩ := hd.1
      exact ⟨a, h1, by rw [hout _ _ β (by omega) (by omega), h2]⟩
    · rw [hout _ _ r (by omega) (by omega), hZ2]
    · rw [xx.2.2.2.1, (show ∀ w, C.take 33 ++ [w] = K.map byteC ++ [.int .i64 port, w] from hspl)]
    · simp; omega
    · have h9 : RestP (x + 1) (W.set x ⟨C.take 33 ++ [.view W.length 0 1 85 false], false⟩ ++ [⟨X, false⟩]) (fr 6) ps k' := (show RestP (x + 1) W (fr 6) ps k' from hr2).keep fun j m h1 _ h2 => hout _ _ j (List.getElem?_eq_some_iff.1 h2).1 (by omega)
      simpa [upd] using h9
    · have h9 := PeersB.snoc (show PeersB (x + 1) W .nilS Q from hQ2) hp (GrowX.low (show GrowX (bp + 1) av W p.2.2.2.2.2 from hg) (by omega)) (by omega) (.inl ⟨hQ0', rfl⟩)
      rw [if_pos hQ0', (show peX p av = X from hX)] at h9
      rw [← xx.2.1]
      exact h9.keep fun j h1 h2 => by rw [List.getElem?_set_ne (by omega)]
  · have hPx : bP ≠ x := by omega
    have hfQ : (Q.flatMap pqC).length = Q.length * 85 := fl_len fun q hq => peX_len ((show PeersB (x + 1) W pc Q from hQ2).1 q hq).1.1 _
    obtain ⟨CQ, hCQ⟩ : ∃ CQ, Q.flatMap pqC = CQ := ⟨_, rfl⟩
    rw [hCQ] at hbPc hfQ
    have hQl : Q.length ≠ 0 := by simpa using hQne
    replace hCQ : Hid _ := hCQ
    replace hQ2 : Hid _ := hQ2
    have xP := bx_pack hbPc
    subst hpc0
    repeat' (first | (with_reducible first | apply jA | apply jB | apply jC | apply jD | apply jE | apply jF | apply jG | apply jH | apply jI | apply jJ | apply jK | apply jL | apply jM | apply jN | apply jO) | ((with_reducible first | apply jP | apply jQ); rfl) | ((first | ((with_reducible first | apply jR | apply jS | apply jT); rfl; rfl) | (with_reducible first | apply jU | apply jV | apply jW) | ((with_reducible first | apply jX | apply jY | apply jZ); rfl)); all_goals (first | ((with_reducible show Is _ _); exact kE) | ((with_reducible refine fun (hc : (_ : Bool) = _) => ?_); (try simp only [xZ, xY, xP, reduceCtorEq] at hc); (try (have hx : True := hc; clear hx hc)); (try exact kX)) | ((fail_if_success (with_reducible first | show Is _ _ | show ACall _ _ _ _ _)); (try ((with_reducible show _ ∨ _); exact kT))))))
    have hxW' := show x < W.length from hxW
    have hPW := (List.getElem?_eq_some_iff.1 hbPc).1
    have hout : ∀ (y z : Box) (j : Nat), j ≠ x → j ≠ bP → ((W.set bP z).set x y)[j]? = W[j]? := fun y z j h1 h2 => by rw [List.getElem?_set_ne (Ne.symm h1), List.getElem?_set_ne (Ne.symm h2)]
    refine ⟨⟨i - 1, Q ++ [(p, av)], .view bP 0 (Q.length + 1) 85 false, k', by rw [List.length_append]; simp; omega, by (simp (disch := omega) [go_sem, *]) <;> (try omega), by (simp (disch := omega) [go_sem, *]) <;> (try omega), by (simp (disch := omega) [go_sem, *]) <;> (try omega), by (simp (disch := omega) [go_sem, *]) <;> (try omega), ?_, ?_, ?_, ?_, ?_, ?_, halls, hpubs, hqs⟩, by (simp (disch := omega) [go_sem, *]) <;> (try omega)⟩
    · obtain ⟨a, h1, h2⟩ := hd.1
      exact ⟨a, h1, by rw [hout _ _ β (by omega) (by omega), h2]⟩
    · rw [hout _ _ r (by omega) (by omega), hZ2]
    · rw [List.getElem?_set_self (by simpa using hxW'), (show ∀ w, C.take 33 ++ [w] = K.map byteC ++ [.int .i64 port, w] from hspl)]
    · simp; omega
    · have h9 : RestP (x + 1) ((W.set bP ⟨CQ ++ X, true⟩).set x ⟨C.take 33 ++ [.view bP 0 (Q.length + 1) 85 false], false⟩) (fr 6) ps k' := (show RestP (x + 1) W (fr 6) ps k' from hr2).keep fun j m h1 hne h2 => hout _ _ j (by omega) (gx_ne h2 hne (by rw [(show Q.flatMap pqC = CQ from hCQ)]; exact hbPc) hQne fun q hq => ((show PeersB (x + 1) W _ Q from hQ2).1 q hq).1.1)
      simpa [upd] using h9
    · have h9 := PeersB.snoc (show PeersB (x + 1) W (.view bP 0 Q.length 85 false) Q from hQ2) hp (GrowX.low (show GrowX (bp + 1) av W p.2.2.2.2.2 from hg) (by omega)) (by omega) (.inr ⟨bP, hQne, rfl, rfl⟩)
      rw [if_neg hQne, (show peX p av = X from hX), (show Q.flatMap pqC = CQ from hCQ)] at h9
      exact h9.keep fun j h1 h2 => by rw [List.getElem?_set_ne (by omega)]
end Go.Proofs.YtdceppjoipoohaaGreatDoor
end
section
namespace Go.Sy
set_option linter.all false
open Go.RowKit (Below)
section
variable {P : Program} {N n : Nat} {I0 I : Nat → Nat → Prop} {μ0 μ : List (List Place)} {B : List Box} {w0 w : World} {o : Oper} {a : Act} {fr : Fr} {ops : Array Oper}
theorem V.bview_inv {b n : Nat} {ty : TypeId} {v : Value} (h : V I μ w (.bview b n ty) v) : ∃ ps p cap, v = .slice (some ⟨p.b, 0, none⟩) n cap ∧ μ[b]? = some ps ∧ p ∈ ps ∧ p.lo = 0 ∧ p.o = 0 ∧ n ≤ p.k ∧ n ≤ cap ∧ cap ≠ 0 ∧ Free w p.b cap ∧ PlainT w p.b ty := by
  cases h with | bview _ _ _ ps p cap hb hp hlo ho hk hn hc hr hpl _ => exact ⟨ps, p, cap, rfl, hb, hp, hlo, ho, hk, hn, hc, hr, hpl⟩
theorem V.bview_view {b n : Nat} {ty : TypeId} {v : Value} (h : V I μ w (.bview b n ty) v) : V I μ w (.view b 0 n 1 false) v := by
  obtain ⟨ps, p, cap, rfl, hb, hp, hlo, ho, hk, hn, hc, hr, hpl⟩ := h.bview_inv
  have := R.view (I := I) (one := false) b 0 n 1 false ps p cap hb hp (by omega) (by omega) hn (by simp) (by rw [ho, hlo]; simpa using hr) (.nil _)
  rw [ho] at this
  simpa using this
def BldIn (B : List Box) (e : TypeId) (S l : List UInt8) (γ : Nat) (c : CV) (B' : List Box) : Prop :=
  (c = .nilS ∧ l = [] ∧ γ = B.length ∧ B' = B ++ [{ cells := S.map byteC }]) ∨ ∃ m, c = .bview γ l.length e ∧ B[γ]? = some ⟨l.map byteC, m⟩ ∧ B' = B.set γ { cells := (l ++ S).map byteC, multi := true }
theorem bld_append {js : Tmp} {x : Operand} {t tx e : TypeId} {l S : List UInt8} {γ : Nat} {c : CV} {B' : List Box} {i : TypeInfo} {z : Value} (ho : o.op = .call { callee := .builtin .append, args := #[.tmp js, x], argTypes := #[t, tx] }) (hB : BRel N I μ B w) (hs : V I μ w c (a.eval (.tmp js))) (hx : a.eval x = .string ⟨S.toArray⟩)
    (ht : P.underlying t = some (.slice e)) (htx : P.underlying tx = some .string) (hi : P.info? e = some i) (hi1 : i.size = 1) (hib : i.bytes = 1) (hiz : i.zero = some z) (hz1 : z.cells.size = 1) (hS : S ≠ []) (hl : l.length + S.length ≤ 140737488355328) (hc : BldIn B e S l γ c B') :
    ∃ v I' μ' w', (execOp a.eval o).run P w = .ok (.value v) w' ∧ Step N I μ w (.bview γ (l.length + S.length) e) v B' I' μ' w' := by
  have hS0 : S.length ≠ 0 := by simpa using hS
  have hxv : V I μ w (.str S) (a.eval x) := by rw [hx]; exact .str S (.nil _)
  obtain ⟨vs, hvs, src0⟩ := src_rel (esz := 1) (tx := tx) hB (.inr htx) hxv rfl (fun _ => htx)
  have src : ASrc P t tx o.type e i (a.eval x) S.length vs w := ASrc.of ht hi (by rw [hi1]; exact src0)
  have hby : P.bytesOf e = 1 := by simp [Program.bytesOf, hi, hib]
  have hvl := hvs.len
  have hrl : l.length + S.length ≤ 140737488355328 ∧ (l.length + S.length) * 1 ≤ 140737488355328 := ⟨hl, by omega⟩
  have fin : ∀ (nx : Next) (v : Value) (I' : Nat → Nat → Prop) (μ' : List (List Place)) (w' W : World) (g cap : Nat), (execOp a.eval o).run P w = .ok nx w' → nxv nx = some v → Step N I μ w (.view γ 0 (l.length + S.length) 1 false) v B' I' μ' w' →
      (execOp a.eval o).run P w = .ok (.value (.slice (some ⟨g, 0, none⟩) (l.length + S.length) cap)) W → PlainT W g e → ∃ v I' μ' w', (execOp a.eval o).run P w = .ok (.value v) w' ∧ Step N I μ w (.bview γ (l.length + S.length) e) v B' I' μ' w' := by
    intro nx v I' μ' w' W g cap h1 h2 h3 h4 h5
    rw [h1] at h4
    cases h4
    cases h2
    refine ⟨_, I', μ', _, h1, ⟨?_, h3.box, h3.ext, h3.below⟩⟩
    rcases h3.val.view_inv with ⟨ps, p, cap', k1, k2, k3, k4, k5, k6, -, k8⟩ | ⟨A, -, k, -⟩
    · injection k1 with e1 e2 e3
      injection e1 with e1
      injection e1 with e1 e4
      subst e1 e3
      have hlo : p.lo = 0 := by omega
      have := R.bview (I := I') (one := false) γ (l.length + S.length) e ps p cap k2 k3 hlo (by omega) (by omega) k6 (by omega) (k8.less (by omega)) h5 (.nil _)
      exact this
    · omega
  rcases hc with ⟨rfl, rfl, rfl, rfl⟩ | ⟨m, rfl, hbx, rfl⟩
  · simp only [List.length_nil, Nat.zero_add] at hl hrl fin ⊢
    have happ : appendM P e i.size B .nilS S.length (S.map byteC) = some (.view B.length 0 S.length 1 false, B ++ [{ cells := S.map byteC }]) := by
      unfold appendM
      rw [if_neg hS0]
      simp only
      rw [if_pos ⟨by rw [hby]; omega, by omega⟩, hi1]
    obtain ⟨nx, v, I', μ', w', h1, h2, h3⟩ := fits_appendM (fr := fun _ => .nilS) ho hB (by exact hs) hi hiz (by omega) (by omega) hvs src (by exact happ)
    have he := hs.nilS_inv
    have hrun := src.grow (by omega) z hiz none 0 0 [] (by simp [Builtin.firstCells]) (by omega) (by rw [hib]; omega) (by omega)
    rw [Nat.zero_add] at hrun
    exact fin nx v I' μ' w' _ w.heap.size _ h1 h2 h3 (run_call_append ho he hrun) ⟨_, push_new (alloc_heap w.drew _)⟩
  · have happ : appendM P e i.size B (.view γ 0 l.length 1 false) S.length (S.map byteC) = some (.view γ 0 (l.length + S.length) 1 false, B.set γ { cells := (l ++ S).map byteC, multi := true }) := by
      unfold appendM
      rw [if_neg hS0]
      simp only [hbx]
      rw [if_pos ⟨hi1.symm, by rw [hby]; omega, by omega⟩, if_neg (by simp), if_pos (by rw [hi1]; simp), hi1, List.map_append]
    obtain ⟨nx, v, I', μ', w', h1, h2, h3⟩ := fits_appendM (fr := fun _ => .view γ 0 l.length 1 false) ho hB (by exact hs.bview_view) hi hiz (by omega) (by omega) hvs src (by exact happ)
    obtain ⟨ps, p, cap, he, k1, k2, k3, k4, k5, k6, k7, k8, k9⟩ := hs.bview_inv
    by_cases hroom : l.length + S.length ≤ cap
    · have hrun := src.room (by omega) p.b 0 l.length cap hroom (by rw [hib]; omega) (by omega) (fun j hj => (k8.cell (by rw [hi1]; simp at hvl; omega)).1) (fun j hj => (k8.cell (by rw [hi1]; simp at hvl; omega)).2)
      exact fin nx v I' μ' w' _ p.b _ h1 h2 h3 (run_call_append ho he hrun) (setCells_plain _ _ _ _ k9)
    · obtain ⟨_, us, g1, g2, g3, _⟩ := view_cells hB hbx k1 k2 (off := 0) (n := l.length) (sz := 1) (by omega) (by omega) (s := 0) (e := l.length) (Nat.le_refl _) (by omega)
      have hrun := src.grow (by omega) z hiz (some ⟨p.b, 0, none⟩) l.length cap us (run_firstCells' (w := w.drew) (P := P) (by rw [g2, hi1]; omega) (.inr ⟨p.b, 0, rfl, fun j u hj => by
        have := g3 j u hj
        rw [k3, k4] at this
        simpa using this⟩)) (by omega) (by rw [hib]; omega) (by omega)
      exact fin nx v I' μ' w' _ w.heap.size _ h1 h2 h3 (run_call_append ho he hrun) ⟨_, push_new (alloc_heap w.drew _)⟩
theorem AWc_seq {x y : Code} {Q : Exit → Fr → List Box → Prop} (h : AWc P n x (thenC (fun fr B => AWc P n y Q fr B) Q) fr B) : AWc P n (.seq x y) Q fr B := fun N I0 μ0 w0 I μ w a Q' hs hq =>
  wp_seq (h N I0 μ0 w0 I μ w a _ hs fun ex fr1 B1 a1 I1 μ1 w1 hQ1 hs1 => by
    cases ex with
    | normal => exact hQ1 N I0 μ0 w0 I1 μ1 w1 a1 _ hs1 hq
    | _ => exact hq _ _ _ _ _ _ _ hQ1 hs1)
theorem AWc.mono {c : Code} {Q Q2 : Exit → Fr → List Box → Prop} (h : AWc P n c Q fr B) (hk : ∀ e fr B, Q e fr B → Q2 e fr B) : AWc P n c Q2 fr B := fun N I0 μ0 w0 I μ w a Q' hs hq => h N I0 μ0 w0 I μ w a Q' hs fun ex fr' B' a' I' μ' w' hQ hst => hq _ _ _ _ _ _ _ (hk _ _ _ hQ) hst
theorem acall_AWc {f : FuncId} {fn : Func} {c : Code} {args : List CV} {B : List Box} {Q : CV → List Box → Prop} (hm : Fit P) (hf : P.funcs[f]? = some fn) (hb : fn.body = some c) (hc : callable P f = true) (hn : args.length ≤ fn.ntmps)
    (h : AWc P fn.ntmps c (retC P fn.results.toList Q) (frOf args) B) : ACall P f args B Q :=
  ⟨hc, fun N I μ w vs hB hv => call_intro hm.quiet hf hb hB hv hn fun a Q' hst hq => h N I μ w I μ w a Q' hst hq⟩
theorem AWc_w {x y : Code} {Q : Exit → Fr → List Box → Prop} (hm : Fit P) (hd : drawsOk x = true) (J : Fr → List Box → Prop) (h : WPc P n x (thenC J Q) fr B) (k : ∀ fr B, J fr B → AWc P n y Q fr B) : AWc P n (.seq x y) Q fr B :=
  AWc_seq ((WPc_sound hm.mixed x _ fr B hd h).mono fun e fr1 B1 hh => by
    cases e with
    | normal => exact k _ _ hh
    | _ => exact hh)
def BldOk (P : Program) (n : Nat) (o : Oper) (fr : Fr) (B : List Box) (K : Fr → List Box → Prop) : Prop :=
  ∃ (js jx : Tmp) (t tx e : TypeId) (i : TypeInfo) (z : Value) (l S : List UInt8) (γ : Nat) (B' : List Box), o.op = .call { callee := .builtin .append, args := #[.tmp js, .tmp jx], argTypes := #[t, tx] } ∧ o.guard = none ∧ dstOk n o = true ∧ P.underlying t = some (.slice e) ∧ P.underlying tx = some .string ∧ P.info? e = some i ∧ i.size = 1 ∧ i.bytes = 1 ∧ i.zero = some z ∧ z.cells.size = 1 ∧
    S ≠ [] ∧ l.length + S.length ≤ 140737488355328 ∧ fr jx = .str S ∧ BldIn B e S l γ (fr js) B' ∧ K (upd fr o.dst (.bview γ (l.length + S.length) e)) B'
theorem AWc_bld {id : Nat} {l1 l2 : List Oper} {o : Oper} {Q : Exit → Fr → List Box → Prop} {ops : List Oper} (he : ops = l1 ++ o :: l2) (n1 : l1.all noDefer = true) (n2 : l2.all noDefer = true)
    (h : WPo P n ops.toArray (fun fr1 B1 => BldOk P n o fr1 B1 fun fr2 B2 => WPo P n ops.toArray (fun fr B => Q .normal fr B) l2 fr2 B2) l1 fr B) : AWc P n (.region id ops.toArray false) Q fr B := by
  intro N I0 μ0 w0 I μ w a Q' hs hq
  refine (wpIn_wide (n := 0)).1 (wpIn_region_list (F := freeF none) ?_)
  rw [show ops.toArray.toList = l1 ++ o :: l2 by simpa using he]
  refine WPo_in (o :: l2) l1 fr B n1 h I μ w a hs fun fr1 B1 a1 I1 μ1 w1 hp hs1 => ?_
  obtain ⟨js, jx, t, tx, e, i, z, l, S, γ, B', ho, hg, hd, ht, htx, hi, hi1, hib, hiz, hz1, hS, hl, hfx, hc, hK⟩ := hp
  have hd' : ∀ t, o.dst = some t → t < n := fun t ht => by simpa [dstOk, ht] using hd
  have hx := hs1.frame jx
  rw [hfx] at hx
  obtain ⟨v, I2, μ2, w2, hrun, hst⟩ := bld_append ho hs1.box (hs1.frame js) hx.str_inv ht htx hi hi1 hib hiz hz1 hS hl hc
  unfold wpListIn
  rw [show Region.wanted o (yielded ops.toArray a1.tmps) = true by unfold Region.wanted; rw [hg], if_pos rfl]
  refine wp_free (by simp [noDefer, ho]) ?_
  unfold Oper.wp
  rw [hrun, Oper.upon_value]
  have := WPo_in (r := none) (Q' := Q') [] l2 _ _ n2 hK I2 μ2 w2 _ (hs1.put hst hd') fun fr' B' a' I' μ' w' hQ hst => hq _ _ _ _ _ _ _ hQ hst
  rw [List.append_nil] at this
  exact this
def AWz (P : Program) (n : Nat) (c : Code) (Q : Exit → Fr → List Box → Prop) (fr : Fr) (B : List Box) : Prop :=
  ∀ (N : Nat) (I0 : Nat → Nat → Prop) (w0 : World) (I : Nat → Nat → Prop) (μ : List (List Place)) (w : World) (a : Act) (Q' : Exit → Act → World → Prop), BRel N I0 [] [] w0 → St N n I0 [] w0 fr B a I μ w →
    (∀ ex fr' B' a' I' μ' w', Q ex fr' B' → St N n I0 [] w0 fr' B' a' I' μ' w' → Q' ex a' w') → c.wp P Q' a w
theorem AWz.of {c : Code} {Q : Exit → Fr → List Box → Prop} (h : AWc P n c Q fr B) : AWz P n c Q fr B := fun N I0 w0 I μ w a Q' _ hs hq => h N I0 [] w0 I μ w a Q' hs hq
theorem AWz_seq {x y : Code} {Q : Exit → Fr → List Box → Prop} (h : AWz P n x (thenC (fun fr B => AWz P n y Q fr B) Q) fr B) : AWz P n (.seq x y) Q fr B := fun N I0 w0 I μ w a Q' h0 hs hq =>
  wp_seq (h N I0 w0 I μ w a _ h0 hs fun ex fr1 B1 a1 I1 μ1 w1 hQ1 hs1 => by
    cases ex with
    | normal => exact hQ1 N I0 w0 I1 μ1 w1 a1 _ h0 hs1 hq
    | _ => exact hq _ _ _ _ _ _ _ hQ1 hs1)
theorem acall_AWz {f : FuncId} {fn : Func} {c : Code} {args : List CV} {Q : CV → List Box → Prop} (hm : Fit P) (hf : P.funcs[f]? = some fn) (hb : fn.body = some c) (hc : callable P f = true) (hn : args.length ≤ fn.ntmps)
    (h : AWz P fn.ntmps c (retC P fn.results.toList Q) (frOf args) []) : ACall P f args [] Q :=
  ⟨hc, fun N I μ w vs hB hv => call_intro hm.quiet hf hb hB hv hn fun a Q' hst hq => by
    obtain rfl : μ = [] := List.eq_nil_of_length_eq_zero hB.len
    exact h N I w I [] w a Q' hB hst hq⟩
theorem AWz_w {x y : Code} {Q : Exit → Fr → List Box → Prop} (hm : Fit P) (hd : drawsOk x = true) (J : Fr → List Box → Prop) (h : WPc P n x (thenC J Q) fr B) (k : ∀ fr B, J fr B → AWz P n y Q fr B) : AWz P n (.seq x y) Q fr B :=
  AWz_seq (AWz.of ((WPc_sound hm.mixed x _ fr B hd h).mono fun e fr1 B1 hh => by
    cases e with
    | normal => exact k _ _ hh
    | _ => exact hh))
end
end Go.Sy
end
section
namespace Go.Proofs.YtdceppjoipoohaaGreatDoor
open Go Go.Sy
set_option linter.all false
set_option maxRecDepth 100000
set_option maxHeartbeats 4000000
open Go.RowKit (Below)
theorem tBp : Tryz.prog.underlying 66 = some (.pointer 68) := by kernel_rfl
theorem tUp : Tryz.prog.underlying 114 = some .unsafePointer := by kernel_rfl
theorem tSb : Tryz.prog.underlying 33 = some (.slice 5) := by kernel_rfl
theorem tSt : Tryz.prog.underlying 9 = some .string := by kernel_rfl
theorem u8_info : ∃ i z, Tryz.prog.info? 5 = some i ∧ i.size = 1 ∧ i.bytes = 1 ∧ i.zero = some z ∧ z.cells.size = 1 := by
  obtain ⟨i, h1, h2⟩ := Option.map_eq_some_iff.1 (show (Tryz.prog.info? 5).map (fun i => (i.zero, i.size, i.bytes)) = some (some (.int .u8 0), 1, 1) by kernel_rfl)
  simp only [Prod.mk.injEq] at h2
  exact ⟨i, _, h1, h2.2.1, h2.2.2, h2.1, rfl⟩
theorem tBi : ∃ j, Tryz.prog.info? 68 = some j ∧ j.size = 2 := by
  obtain ⟨j, h1, h2⟩ := Option.map_eq_some_iff.1 (show (Tryz.prog.info? 68).map (·.size) = some 2 by kernel_rfl)
  exact ⟨j, h1, h2⟩
theorem tBl : liesAt Tryz.prog Tryz.prog.depth 68 (2 / Tryz.prog.cellsOf 68) 0 68 1 = true := by kernel_rfl
theorem copyCheck_used (b o : Nat) (w : World) (h0 : w.cell? ⟨b, o, none⟩ = some (.pointer (some ⟨b, o, none⟩))) :
    Calls Tryz.prog 50 #[.pointer (some ⟨b, o, none⟩)] w fun e w' => e = .returned (.tuple #[]) ∧ w' = w := by
  obtain ⟨j, hj, _⟩ := tBi
  go_enter Tryz.func50, Tryz.ntmps50
  go_wp2
  rw [Lib.run_neq_ptr_same w _ tBp hj]
  go_wp2
  go_end0
  exact ⟨rfl, rfl⟩
theorem copyCheck_fresh (b : Nat) (w : World) (h0 : w.cell? ⟨b, 0, none⟩ = some (.pointer none)) (hsh : w.shape? b = some (68, 2)) (hfz : w.frozen? ⟨b, 0, none⟩ = false) :
    Calls Tryz.prog 50 #[.pointer (some ⟨b, 0, none⟩)] w fun e w' => e = .returned (.tuple #[]) ∧ w' = w.setCell ⟨b, 0, none⟩ (.pointer (some ⟨b, 0, none⟩)) := by
  obtain ⟨j, hj, hjs⟩ := tBi
  go_enter Tryz.func50, Tryz.ntmps50
  go_wp2
  rw [Lib.run_to_unsafe w ⟨b, 0, none⟩ tBp tUp hj (by rw [hjs]; decide) hsh (Nat.zero_lt_succ 1)]
  simp only [Result.andThen]
  rw [Oper.upon_value]
  go_wp2
  rw [run_callFunc_extern Tryz.func69 (by kernel_rfl) (by kernel_rfl) (by kernel_rfl) (e := Extern.AbiNoEscape.same) (by kernel_rfl)]
  rw [Lib.run_noEscape]
  simp only [Result.andThen]
  rw [Oper.upon_value]
  go_wp2
  rw [Lib.run_from_unsafe w ⟨b, 0, none⟩ tUp tBp hj hsh tBl]
  simp only [Result.andThen]
  rw [Oper.upon_value]
  go_wp2
  go_end0
  exact ⟨rfl, rfl⟩
section
variable {N n : Nat} {I0 I : Nat → Nat → Prop} {μ0 μ : List (List Sy.Place)} {B : List Box} {w0 w : World} {a : Act} {fr : Fr} {ops : Array Oper}
theorem cc_used {β : Nat} {bc : CV} {args : List CV} (ha : Is args [.ptr β 0]) (hB : B[β]? = some ⟨[.ptr β 0, bc], false⟩) : ACall Tryz.prog 50 args B fun c B' => c = .tup [] ∧ B' = B := by
  have ha : args = _ := ha
  subst ha
  refine ⟨by kernel_rfl, fun N I μ w vs hBR hv => ?_⟩
  obtain ⟨v, vs', rfl, h1, _, h3⟩ := R.cons_iff.1 hv
  rw [R.nil_iff] at h3
  subst h3
  obtain ⟨p, us, p1, rfl, p3, p4⟩ := box_ptr hBR h1 hB rfl
  obtain ⟨u, us', rfl, h4, _, _⟩ := R.cons_iff.1 p3
  obtain ⟨p', us2, q1, rfl, _, _⟩ := box_ptr hBR h4 hB rfl
  have he : p' = p := by rw [p1] at q1; simpa using q1.symm
  subst he
  have h0 := p4 0 _ rfl
  refine (copyCheck_used p'.b (p'.o + 0) w h0).mono fun e w' ⟨he, hw⟩ => ⟨.tup [], .tuple #[], B, I, μ, he, ⟨rfl, rfl⟩, ?_⟩
  subst hw
  exact ⟨.tup (.nil _) (.nil _), hBR, .refl _ _ _, Below.refl _ _⟩
theorem cc_fresh {β : Nat} {bc : CV} {v : Value} (hBR : BRel N I μ B w) (hv : V I μ w (.ptr β 0) v) (hB : B[β]? = some ⟨[.nilP, bc], false⟩) (hsh : ∃ b, v = .pointer (some ⟨b, 0, none⟩) ∧ w.shape? b = some (68, 2)) :
    Calls Tryz.prog 50 #[v] w fun e w' => e = .returned (.tuple #[]) ∧ Step N I μ w (.tup []) (.tuple #[]) (B.set β ⟨[.ptr β 0, bc], false⟩) I μ w' := by
  obtain ⟨p, us, p1, hve, p3, p4⟩ := box_ptr hBR hv hB rfl
  obtain ⟨b, hb, hs⟩ := hsh
  subst hve
  have hb0 := hb
  simp at hb
  obtain ⟨rfl, ho⟩ := hb
  obtain ⟨u, us', rfl, h4, _, _⟩ := R.cons_iff.1 p3
  have h0 := p4 0 _ rfl
  rw [h4.nilP_inv, ho] at h0
  obtain ⟨p', q1, q2, q3, q4, q5, q6, q8⟩ := one_place hBR hB rfl p1 (List.mem_singleton.2 rfl)
  have he : p' = p := by rw [p1] at q1; simpa using q1.symm
  subst he
  have hf := (q8.cell (j := 0) (by simp)).2
  rw [hb0]
  refine (copyCheck_fresh p'.b w h0 hs hf).mono fun e w' ⟨he, hw⟩ => ⟨he, ?_⟩
  have hr : R I μ w true [.ptr β 0] [.pointer (some ⟨p'.b, 0, none⟩)] := R.cons (by rw [← hb0]; exact hv) (fun _ => rfl) (.nil _)
  obtain ⟨w1, w2, w3⟩ := hBR.write (off := 0) hB rfl p1 hr (by simp)
  rw [ho] at w1 w2 w3
  subst hw
  exact ⟨.tup (.nil _) (.nil _), w1, w2, w3⟩
theorem still_step {o : Oper} {c : CV} {rest : List Oper} {Q' : Exit → Act → World → Prop} {v : Value} (hs : St N n I0 μ0 w0 fr B a I μ w) (hg : o.guard = none) (hd : dstOk n o = true) (hnd : noDefer o = true) (hr : (execOp a.eval o).run Tryz.prog w = .ok (.value v) w) (hv : V I μ w c v)
    (k : ∀ a', (∀ i, a'.tmps.getD i undef = if o.dst = some i then v else a.tmps.getD i undef) → St N n I0 μ0 w0 (upd fr o.dst c) B a' I μ w → wpListIn (freeF none) 0 Tryz.prog ops Q' rest a' w) : wpListIn (freeF none) 0 Tryz.prog ops Q' (o :: rest) a w := by
  have hd' : ∀ t, o.dst = some t → t < n := fun t ht => by simpa [dstOk, ht] using hd
  unfold wpListIn
  rw [show Region.wanted o (yielded ops a.tmps) = true by unfold Region.wanted; rw [hg], if_pos rfl]
  refine wp_free hnd ?_
  unfold Oper.wp
  rw [hr, Oper.upon_value]
  exact k _ (put_getD a o.dst v (fun t ht => by rw [hs.size]; exact hd' t ht)) (hs.put ⟨hv, hs.box, .refl _ _ _, Below.refl _ _⟩ hd')
theorem run_region {id : Nat} {l : List Oper} {Q' : Exit → Act → World → Prop} (h : wpListIn (freeF none) 0 Tryz.prog l.toArray Q' l a w) : (Code.region id l.toArray false).wp Tryz.prog Q' a w :=
  (wpIn_wide (n := 0)).1 (wpIn_region_list (F := freeF none) (by simpa using h))
theorem ws_first {β : Nat} {v : Value} {s : List UInt8} (hBR : BRel N I μ B w) (hv : V I μ w (.ptr β 0) v) (hB : B[β]? = some ⟨[.nilP, .nilS], false⟩) (hsh : ∃ b, v = .pointer (some ⟨b, 0, none⟩) ∧ w.shape? b = some (68, 2)) (hs0 : s ≠ []) (hsl : s.length < 1000000000) :
    Calls Tryz.prog 24 #[v, .string ⟨s.toArray⟩] w fun e w' => ∃ c v' B' I' μ', e = .returned v' ∧ (c = .tup [.int .i64 s.length, .nilI] ∧ B' = B.set β ⟨[.ptr β 0, .bview B.length s.length 5], false⟩ ++ [⟨s.map byteC, false⟩]) ∧ Step N I μ w c v' B' I' μ' w' := by
  have hβ := (List.getElem?_eq_some_iff.1 hB).1
  have hargs : R I μ w false [.ptr β 0, .str s] [v, .string ⟨s.toArray⟩] := .cons hv (by simp) (.str s (.nil _))
  refine call_intro mixed.quiet Tryz.func24 rfl hBR hargs (by rw [Tryz.ntmps24]; simp) fun a Q' hst hq => ?_
  have h0t := hst.frame 0
  refine wp_seq (run_region ?_)
  refine still_step (c := .int .i64 0) (v := .int .i64 0) hst rfl rfl rfl (by simp [execOp]; rfl) (.int _ _ (.nil _)) fun a1 e1 s1 => ?_
  refine still_step (c := .nilI) (v := .nilIface) s1 rfl rfl rfl (by simp [execOp]; rfl) (.nilI (.nil _)) fun a2 e2 s2 => ?_
  have hu : ∀ {u : Value}, V I μ w (.ptr β 0) u → u = v := fun {u} h => by
    obtain ⟨p, _, p1, p2, _, _⟩ := box_ptr hBR h hB rfl
    obtain ⟨p', _, q1, q2, _, _⟩ := box_ptr hBR hv hB rfl
    have he : p' = p := by rw [p1] at q1; simpa using q1.symm
    rw [p2, q2, he]
  have hv0 := hu h0t
  unfold wpListIn
  refine wp_seq (run_region ?_)
  have t2 : a2.tmps.getD 0 undef = v := by rw [e2, if_neg (by simp), e1, if_neg (by simp), hv0]
  refine still_step (c := .ptr β 0) (v := v) s2 rfl rfl rfl (by simp [execOp]; exact t2) hv fun a3 e3 s3 => ?_
  have t3 : a3.tmps.getD 6 undef = v := by rw [e3, if_pos rfl]
  unfold wpListIn
  rw [show Region.wanted _ (yielded _ a3.tmps) = true from rfl, if_pos rfl]
  refine wp_free rfl ?_
  unfold Oper.wp
  have hrun : ∀ (o : Oper) (ts : Array TypeId), o.op = .call { callee := .value (.func 50), args := #[.tmp 6], argTypes := ts } → (execOp a3.eval o).run Tryz.prog w = .ok (.enter 50 #[v]) w := fun o ts ho => by
    simp only [execOp, ho, resolve, Act.eval, Deferred.ofValue, Sem.run_bind, Sem.run_pure, Result.andThen_ok, invoke]
    rw [callable_run (by kernel_rfl)]
    simp [Act.eval, t3]
  rw [hrun _ _ rfl, Oper.upon_enter]
  refine (cc_fresh hBR hv hB hsh).mono fun e w' ⟨he, hstep⟩ => ?_
  subst he
  have s4 := s3.put hstep (d := some 7) (fun t ht => by cases ht; decide)
  have hx := bx_pack hB
  obtain ⟨p1, p2, p3, p4, p5, p6, p7, p8, p9, p10, p11, p12, p13⟩ := hx
  have hl0 : s.length ≠ 0 := by simpa using hs0
  obtain ⟨i, z, hi, hi1, hib, hiz, hz1⟩ := u8_info
  refine (?_ : AWc Tryz.prog Tryz.f24.ntmps _ (retC Tryz.prog Tryz.f24.results.toList _) _ _) N I μ w I μ w' _ Q' s4 hq
  refine AWc_seq ?_
  refine AWc_bld (l1 := [_, _, _, _, _, _]) (l2 := [_, _, _]) rfl (by rfl) (by rfl) ?_
  repeat' (first | (with_reducible first | apply jA | apply jB | apply jC | apply jD | apply jE | apply jF | apply jG | apply jH | apply jI | apply jJ | apply jK | apply jL | apply jM | apply jN | apply jO) | ((with_reducible first | apply jP | apply jQ); rfl) | ((first | ((with_reducible first | apply jR | apply jS | apply jT); rfl; rfl) | (with_reducible first | apply jU | apply jV | apply jW) | ((with_reducible first | apply jX | apply jY | apply jZ); rfl)); all_goals (first | ((with_reducible show Is _ _); exact kE) | ((with_reducible refine fun (hc : (_ : Bool) = _) => ?_); (try simp only [xZ, xY, xP, reduceCtorEq] at hc); (try (have hx : True := hc; clear hx hc)); (try exact kX)) | ((fail_if_success (with_reducible first | show Is _ _ | show ACall _ _ _ _ _)); (try ((with_reducible show _ ∨ _); exact kT))))))
  refine ⟨_, _, _, _, _, i, z, [], s, (B.set β ⟨[.ptr β 0, .nilS], false⟩).length, _, rfl, rfl, rfl, tSb, tSt, hi, hi1, hib, hiz, hz1, hs0, by simp; omega, by (simp (disch := omega) [go_sem, *]) <;> (try omega), .inl ⟨by (simp (disch := omega) [go_sem, *]) <;> (try omega), rfl, rfl, rfl⟩, ?_⟩
  repeat' (first | (with_reducible first | apply jA | apply jB | apply jC | apply jD | apply jE | apply jF | apply jG | apply jH | apply jI | apply jJ | apply jK | apply jL | apply jM | apply jN | apply jO) | ((with_reducible first | apply jP | apply jQ); rfl) | ((first | ((with_reducible first | apply jR | apply jS | apply jT); rfl; rfl) | (with_reducible first | apply jU | apply jV | apply jW) | ((with_reducible first | apply jX | apply jY | apply jZ); rfl)); all_goals (first | ((with_reducible show Is _ _); exact kE) | ((with_reducible refine fun (hc : (_ : Bool) = _) => ?_); (try simp only [xZ, xY, xP, reduceCtorEq] at hc); (try (have hx : True := hc; clear hx hc)); (try exact kX)) | ((fail_if_success (with_reducible first | show Is _ _ | show ACall _ _ _ _ _)); (try ((with_reducible show _ ∨ _); exact kT))))))
  refine WPc_sound mixed.mixed _ _ _ _ (by kernel_rfl) ?_
  repeat' (first | (with_reducible first | apply jA | apply jB | apply jC | apply jD | apply jE | apply jF | apply jG | apply jH | apply jI | apply jJ | apply jK | apply jL | apply jM | apply jN | apply jO) | ((with_reducible first | apply jP | apply jQ); rfl) | ((first | ((with_reducible first | apply jR | apply jS | apply jT); rfl; rfl) | (with_reducible first | apply jU | apply jV | apply jW) | ((with_reducible first | apply jX | apply jY | apply jZ); rfl)); all_goals (first | ((with_reducible show Is _ _); exact kE) | ((with_reducible refine fun (hc : (_ : Bool) = _) => ?_); (try simp only [xZ, xY, xP, reduceCtorEq] at hc); (try (have hx : True := hc; clear hx hc)); (try exact kX)) | ((fail_if_success (with_reducible first | show Is _ _ | show ACall _ _ _ _ _)); (try ((with_reducible show _ ∨ _); exact kT))))))
  exact ⟨rfl, rfl⟩
theorem ws_at {β γ : Nat} {m : Bool} {l s : List UInt8} {args : List CV} (ha : Is args [.ptr β 0, .str s]) (hB : B[β]? = some ⟨[.ptr β 0, .bview γ l.length 5], false⟩) (hG : B[γ]? = some ⟨l.map byteC, m⟩) (hne : β ≠ γ) (hs0 : s ≠ []) (hl : l.length + s.length < 1000000000) :
    ACall Tryz.prog 24 args B fun c B' => c = .tup [.int .i64 s.length, .nilI] ∧ B' = (B.set γ ⟨(l ++ s).map byteC, true⟩).set β ⟨[.ptr β 0, .bview γ (l.length + s.length) 5], false⟩ := by
  have ha : args = _ := ha
  subst ha
  obtain ⟨i, z, hi, hi1, hib, hiz, hz1⟩ := u8_info
  have hcc : ∀ {args : List CV}, Is args [.ptr β 0] → ACall Tryz.prog 50 args B fun c B' => c = .tup [] ∧ B' = B := fun h => cc_used h hB
  have hβ : (B.set γ ⟨(l ++ s).map byteC, true⟩)[β]? = some ⟨[.ptr β 0, .bview γ l.length 5], false⟩ := by rw [List.getElem?_set_ne (Ne.symm hne), hB]
  refine acall_AWc mixed Tryz.func24 rfl (by kernel_rfl) (by rw [Tryz.ntmps24]; simp) ?_
  refine AWc_w mixed (by kernel_rfl) (fun fr2 B2 => fr2 0 = .ptr β 0 ∧ fr2 1 = .str s ∧ B2 = B) ?_ ?_
  · repeat' (first | (with_reducible first | apply jA | apply jB | apply jC | apply jD | apply jE | apply jF | apply jG | apply jH | apply jI | apply jJ | apply jK | apply jL | apply jM | apply jN | apply jO) | ((with_reducible first | apply jP | apply jQ); rfl) | ((first | ((with_reducible first | apply jR | apply jS | apply jT); rfl; rfl) | (with_reducible first | apply jU | apply jV | apply jW) | ((with_reducible first | apply jX | apply jY | apply jZ); rfl)); all_goals (first | ((with_reducible show Is _ _); exact kE) | ((with_reducible refine fun (hc : (_ : Bool) = _) => ?_); (try simp only [xZ, xY, xP, reduceCtorEq] at hc); (try (have hx : True := hc; clear hx hc)); (try exact kX)) | ((fail_if_success (with_reducible first | show Is _ _ | show ACall _ _ _ _ _)); (try ((with_reducible show _ ∨ _); exact kT))))))
    exact ⟨by (simp (disch := omega) [go_sem, *]) <;> (try omega), by (simp (disch := omega) [go_sem, *]) <;> (try omega), rfl⟩
  rintro fr B2 ⟨f0, f1, rfl⟩
  refine AWc_w mixed (by kernel_rfl) (fun fr2 B3 => fr2 0 = .ptr β 0 ∧ fr2 1 = .str s ∧ B3 = B2) ?_ ?_
  · repeat' (first | (with_reducible first | apply jA | apply jB | apply jC | apply jD | apply jE | apply jF | apply jG | apply jH | apply jI | apply jJ | apply jK | apply jL | apply jM | apply jN | apply jO) | ((with_reducible first | apply jP | apply jQ); rfl) | ((first | ((with_reducible first | apply jR | apply jS | apply jT); rfl; rfl) | (with_reducible first | apply jU | apply jV | apply jW) | ((with_reducible first | apply jX | apply jY | apply jZ); rfl) | ((with_reducible first | apply kA | apply kB | apply kC); rfl)); all_goals (first | ((with_reducible show Is _ _); exact kE) | ((with_reducible refine fun (hc : (_ : Bool) = _) => ?_); (try simp only [xZ, xY, xP, reduceCtorEq] at hc); (try (have hx : True := hc; clear hx hc)); (try exact kX)) | ((with_reducible show ACall _ _ _ _ _); (first | ((with_reducible apply hcc) <;> exact kD))) | ((fail_if_success (with_reducible first | show Is _ _ | show ACall _ _ _ _ _)); (try ((with_reducible show _ ∨ _); exact kT))))))
    exact ⟨by (simp (disch := omega) [go_sem, *]) <;> (try omega), by (simp (disch := omega) [go_sem, *]) <;> (try omega), rfl⟩
  clear f0 f1 fr
  rintro fr B ⟨f0, f1, rfl⟩
  refine AWc_seq ?_
  refine AWc_bld (l1 := [_, _, _, _, _, _]) (l2 := [_, _, _]) rfl (by rfl) (by rfl) ?_
  repeat' (first | (with_reducible first | apply jA | apply jB | apply jC | apply jD | apply jE | apply jF | apply jG | apply jH | apply jI | apply jJ | apply jK | apply jL | apply jM | apply jN | apply jO) | ((with_reducible first | apply jP | apply jQ); rfl) | ((first | ((with_reducible first | apply jR | apply jS | apply jT); rfl; rfl) | (with_reducible first | apply jU | apply jV | apply jW) | ((with_reducible first | apply jX | apply jY | apply jZ); rfl)); all_goals (first | ((with_reducible show Is _ _); exact kE) | ((with_reducible refine fun (hc : (_ : Bool) = _) => ?_); (try simp only [xZ, xY, xP, reduceCtorEq] at hc); (try (have hx : True := hc; clear hx hc)); (try exact kX)) | ((fail_if_success (with_reducible first | show Is _ _ | show ACall _ _ _ _ _)); (try ((with_reducible show _ ∨ _); exact kT))))))
  refine ⟨_, _, _, _, _, i, z, l, s, γ, _, rfl, rfl, rfl, tSb, tSt, hi, hi1, hib, hiz, hz1, hs0, by omega, by (simp (disch := omega) [go_sem, *]) <;> (try omega), .inr ⟨m, by (simp (disch := omega) [go_sem, *]) <;> (try omega), hG, rfl⟩, ?_⟩
  repeat' (first | (with_reducible first | apply jA | apply jB | apply jC | apply jD | apply jE | apply jF | apply jG | apply jH | apply jI | apply jJ | apply jK | apply jL | apply jM | apply jN | apply jO) | ((with_reducible first | apply jP | apply jQ); rfl) | ((first | ((with_reducible first | apply jR | apply jS | apply jT); rfl; rfl) | (with_reducible first | apply jU | apply jV | apply jW) | ((with_reducible first | apply jX | apply jY | apply jZ); rfl)); all_goals (first | ((with_reducible show Is _ _); exact kE) | ((with_reducible refine fun (hc : (_ : Bool) = _) => ?_); (try simp only [xZ, xY, xP, reduceCtorEq] at hc); (try (have hx : True := hc; clear hx hc)); (try exact kX)) | ((fail_if_success (with_reducible first | show Is _ _ | show ACall _ _ _ _ _)); (try ((with_reducible show _ ∨ _); exact kT))))))
  refine WPc_sound mixed.mixed _ _ _ _ (by kernel_rfl) ?_
  repeat' (first | (with_reducible first | apply jA | apply jB | apply jC | apply jD | apply jE | apply jF | apply jG | apply jH | apply jI | apply jJ | apply jK | apply jL | apply jM | apply jN | apply jO) | ((with_reducible first | apply jP | apply jQ); rfl) | ((first | ((with_reducible first | apply jR | apply jS | apply jT); rfl; rfl) | (with_reducible first | apply jU | apply jV | apply jW) | ((with_reducible first | apply jX | apply jY | apply jZ); rfl)); all_goals (first | ((with_reducible show Is _ _); exact kE) | ((with_reducible refine fun (hc : (_ : Bool) = _) => ?_); (try simp only [xZ, xY, xP, reduceCtorEq] at hc); (try (have hx : True := hc; clear hx hc)); (try exact kX)) | ((fail_if_success (with_reducible first | show Is _ _ | show ACall _ _ _ _ _)); (try ((with_reducible show _ ∨ _); exact kT))))))
  exact ⟨rfl, rfl⟩
end
end Go.Proofs.YtdceppjoipoohaaGreatDoor
end
