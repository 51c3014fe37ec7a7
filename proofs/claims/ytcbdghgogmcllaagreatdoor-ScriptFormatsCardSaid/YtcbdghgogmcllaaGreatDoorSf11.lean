/- Lemmas and definitions of this claim (own texts, joined by a program; what the claim does not use is left out). -/
import Derived.Test.YtcbdghgogmcllaaGreatDoorSf10
set_option linter.all false
set_option maxRecDepth 100000
set_option maxHeartbeats 4000000
section
namespace Go.Proofs.YtcbdghgogmcllaaGreatDoor
open Go Go.Sy
theorem kE_SN0 {α : Type} {x y : α} (h : Is x y := by first | ((try simp (disch := first | omega | (simp only [yZ, yB] <;> omega) | fail) [go_sem, yY, *, bx_get0, bx_get, bx_set0, bx_set, if_pos, if_neg, -List.map_take, -List.map_drop, -List.map_append, -List.map_reverse]); exact rfl) | fail) : Is x y := h
theorem kD_SN0 {p : Prop} (h : p := by (first | omega | assumption | exact rfl | ((simp (disch := first | omega | (simp only [yZ, yB] <;> omega) | fail) [go_sem, yY, *, bx_get0, bx_get, bx_set0, bx_set, -List.map_take, -List.map_drop, -List.map_append, -List.map_reverse]) <;> (first | done | omega | exact rfl)) | fail)) : p := h
theorem wB_SN0 {p q : Prop} (k : q) (h : Hq q → p := by (intro k; (repeat' (first | (with_reducible first | apply jA | apply jB | apply jC | apply jD | apply jE | apply jF | apply jG | apply jH | apply jI | apply jJ | apply jK | apply jL | apply jM | apply jN | apply jO) | ((with_reducible first | apply jP | apply jQ); rfl) | ((first | ((with_reducible first | apply jR | apply jS | apply jT); rfl; rfl) | (with_reducible first | apply jU | apply jV | apply jW) | ((with_reducible first | apply jX | apply jY | apply jZ); rfl) | ((with_reducible first | apply kA | apply kB | apply kC); rfl)); all_goals (first | ((with_reducible show Is _ _); exact kE_SN0) | ((with_reducible refine fun (hc : (_ : Bool) = _) => ?_); (try simp only [xZ, xY, xP, reduceCtorEq] at hc); (try (have hx : True := hc; clear hx hc)); (try exact kX)) | ((with_reducible show ACall _ _ _ _ _); (first | ((with_reducible apply c0) <;> exact kD_SN0) | ((with_reducible apply c1) <;> exact kD_SN0) | ((with_reducible apply c2) <;> exact kD_SN0) | ((with_reducible apply c3) <;> exact kD_SN0) | ((with_reducible apply c4) <;> exact kD_SN0) | ((with_reducible apply c5) <;> exact kD_SN0) | ((with_reducible apply c6) <;> exact kD_SN0) | ((with_reducible apply c7) <;> exact kD_SN0))) | ((fail_if_success (with_reducible first | show Is _ _ | show ACall _ _ _ _ _)); (try ((with_reducible show _ ∨ _); exact kT))))) | (((with_reducible first | apply o_callQ | apply q_callQ); rfl); (iterate 2 exact kE_SN0); (first | ((with_reducible apply q0) <;> exact kD_SN0))))); exact hq k)) : p := h ⟨k⟩
theorem w_SN00 {p q : Prop}  (k : q) (h : Hq q → p := by (intro  k; exact wB_SN0 (hq k))) : p := h  ⟨k⟩
theorem w_SN01 {A0 p q : Prop} (c0 : A0) (k : q) (h : A0 → Hq q → p := by (intro c0 k; exact wB_SN0 (hq k))) : p := h c0 ⟨k⟩
theorem w_SN02 {A0 A1 p q : Prop} (c0 : A0) (c1 : A1) (k : q) (h : A0 → A1 → Hq q → p := by (intro c0 c1 k; exact wB_SN0 (hq k))) : p := h c0 c1 ⟨k⟩
structure AcS (a : Ac) : Prop where
  l : AcL a
  bytes : a.ev.bytes.length < 100000
  text : a.ev.text.length < 100000
def goodA (a : Ac) : Bool := (parseS (lineS a)).2 && sameA (parseS (lineS a)).1 a
def catS (l : List Ac) : List UInt8 := (l.map lineS).flatten
def fmtV (l : List Ac) : List UInt8 × Int := if 400 < l.length then ([], 12) else if l.all goodA then (catS l, 0) else ([], 1)
theorem lineS_short {a : Ac} (h : AcS a) : (lineS a).length < 400000 := by
  have h1 := itoa_len h.l.who
  have h2 := itoa_len h.l.n
  have h3 := itoa_len h.l.lo
  have h4 := itoa_len h.l.hi
  have h5 := itoa_len h.l.ev.time
  have h6 : (hexW a.ev.bytes).length ≤ 200000 := by
    have := h.bytes
    unfold hexW
    split
    · simp
    · rw [hexS_len]; omega
  have h7 := fmtE_len a.ev.six a.ev.ip a.ev.port
  have h8 : (hexS a.key).length = 64 := by rw [hexS_len, h.l.key]
  have h9 : (hexS [a.xor]).length = 2 := by rw [hexS_len]; rfl
  have h10 := h.text
  unfold lineS
  split
  · simp [wControl]; omega
  split
  · simp
  · have hw : (nameS a).length ≤ 8 := by
      unfold nameS nameE nameK
      repeat' split
      all_goals decide
    unfold wordsS wordsE
    repeat' split
    all_goals (simp [Go.Lib.join_cons, Go.Lib.joinTail]; omega)
theorem parseS_nil : (parseS []).2 = false := by decide +kernel
theorem good_ne {a : Ac} (h : goodA a = true) : lineS a ≠ [] := by
  intro e
  rw [goodA, e, parseS_nil] at h
  cases h
theorem catS_len {l : List Ac} (h : ∀ a ∈ l, AcS a) : (catS l).length ≤ l.length * 400000 := by
  induction l with
  | nil => simp [catS]
  | cons a l ih =>
    have := ih fun b hb => h b (by simp [hb])
    have := lineS_short (h a (by simp))
    simp [catS] at *
    omega
theorem catS_succ {l : List Ac} {j : Nat} (h : j < l.length) : catS (l.take (j + 1)) = catS (l.take j) ++ lineS l[j] := by
  rw [List.take_succ_eq_append_getElem h, catS, List.map_append, List.flatten_append]
  simp [catS]
theorem catS_ne : ∀ {l : List Ac}, l.all goodA = true → l ≠ [] → catS l ≠ []
  | [], _, h => absurd rfl h
  | a :: l, h, _ => by
    simp only [List.all_cons, Bool.and_eq_true] at h
    have := good_ne h.1
    simp [catS, this]
def BldL (l : List Ac) (j : Nat) (b4 : CV) (B : List Box) : Prop :=
  (j = 0 ∧ b4 = .bptr 0 76 2 ∧ B = [⟨[.nilP, .nilS], false⟩]) ∨ (0 < j ∧ b4 = .ptr 0 0 ∧ ∃ γ m, γ ≠ 0 ∧ B[0]? = some ⟨[.ptr 0 0, .bview γ (catS (l.take j)).length 5], false⟩ ∧ B[γ]? = some ⟨(catS (l.take j)).map byteC, m⟩)
theorem format_in (l : List Ac) (hl : ∀ a ∈ l, AcS a) (hn : l.length ≤ 2000) : PC Tryz.prog true 15 [.lst l.length (l.flatMap acC) false] (.tup [.str (fmtV l).1, .int .i64 (fmtV l).2]) := by
  have hcs : Cells acC 60 (l.flatMap acC) l := cells_all fun a ha => acC_len (hl a ha).l
  by_cases h4 : 400 < l.length
  · have e : fmtV l = ([], 12) := by rw [fmtV, if_pos h4]
    rw [e]
    generalize l.flatMap acC = Y at *
    generalize l.length = n at *
    clear hcs hl
    have h4' : (400 : Int) < n := by omega
    refine acall_intro mixed Tryz.func15 rfl ca15 (by kernel_rfl) (by rw [Tryz.ntmps15]; simp) ?_
    refine w0 ?_ 
    all_goals rfl
  have e : fmtV l = if l.all goodA then (catS l, 0) else ([], 1) := by rw [fmtV, if_neg h4]
  rw [e]
  clear e
  have h4' : ¬ ((400 : Int) < l.length) := by omega
  refine acall_AWz mixed Tryz.func15 rfl (by kernel_rfl) (by rw [Tryz.ntmps15]; simp) ?_
  have hbz : zerosOf Tryz.prog 76 = some [.nilP, .nilS] := by kernel_rfl
  generalize hY : l.flatMap acC = Y at *
  refine AWz_w mixed (by kernel_rfl) (fun fr B => fr 0 = .lst l.length Y false ∧ B = []) ?_ ?_
  · refine w0 ?_ 
    exact ⟨kS, rfl⟩
  rintro fr B ⟨f0, rfl⟩
  refine AWz_w mixed (by kernel_rfl) (fun fr B => fr 0 = .lst l.length Y false ∧ B = []) ?_ ?_
  · refine w0 ?_ 
    exact ⟨kS, rfl⟩
  clear f0 fr
  rintro fr B ⟨f0, rfl⟩
  refine AWz_seq (AWz.of (AWc_allocT (by rfl) hbz ?_))
  have f0' : upd fr (some 4) (.bptr ([] : List Box).length 76 ([.nilP, .nilS] : List CV).length) 0 = .lst l.length Y false := kS
  have f4' : upd fr (some 4) (.bptr ([] : List Box).length 76 ([.nilP, .nilS] : List CV).length) 4 = .bptr 0 76 2 := kS
  generalize upd fr (some 4) (.bptr ([] : List Box).length 76 ([.nilP, .nilS] : List CV).length) = fr at *
  simp only [List.nil_append]
  refine w_then ?_
  refine AWz_seq (AWz.of ?_)
  refine AWc_w mixed (by kernel_rfl) (fun fr B => fr 13 = .lst l.length Y false ∧ fr 14 = .int .i64 l.length ∧ fr 15 = .int .i64 0 ∧ fr 4 = .bptr 0 76 2 ∧ B = [⟨[.nilP, .nilS], false⟩]) ?_ ?_
  · refine w0 ?_ 
    exact ⟨kS, kS, kS, kS, rfl⟩
  clear f0 f0' f4'
  rintro fr B ⟨f13, f14, f15, f4, rfl⟩
  refine AWc_block (AWc_loop (fun fr B => ∃ j, j ≤ l.length ∧ (l.take j).all goodA = true ∧ fr 13 = .lst l.length Y false ∧ fr 14 = .int .i64 l.length ∧ fr 15 = .int .i64 j ∧ BldL l j (fr 4) B) (fun fr _ => l.length - natOf (fr 15)) ?_ ?_)
  · exact ⟨0, by omega, by simp, f13, f14, f15, .inl ⟨rfl, f4, rfl⟩⟩
  clear f13 f14 f15 f4 fr
  rintro fr B ⟨j, hj, hg, f13, f14, f15, hb⟩
  have hm : natOf (fr 15) = j := by rw [f15]; rfl
  by_cases hc : j < l.length
  · have ha := hl l[j] (List.getElem_mem hc)
    obtain ⟨hlen, hcell⟩ := hcs j hc
    have hls := lineS_short ha
    have hal := acC_len ha.l
    have hao : ∀ {nz : Bool} {B : List Box} {k : Nat}, omap (Go.Sy.fz nz false B (k + 3)) (acC l[j]) = some (acC l[j]) := acC_om
    have hat : (acC l[j]).take 60 = acC l[j] := List.take_of_length_le (by omega)
    have hpL : AcL (parseS (lineS l[j])).1 := parseS_L (by omega)
    have hpo : ∀ {nz : Bool} {B : List Box} {k : Nat}, omap (Go.Sy.fz nz false B (k + 3)) (acC (parseS (lineS l[j])).1) = some (acC (parseS (lineS l[j])).1) := acC_om
    have hpl := acC_len hpL
    have hpt : (acC (parseS (lineS l[j])).1).take 60 = acC (parseS (lineS l[j])).1 := List.take_of_length_le (by omega)
    have hcl := catS_len (l := l.take j) fun a ha => hl a (List.mem_of_mem_take ha)
    have hcl2 : (l.take j).length ≤ 2000 := by rw [List.length_take]; omega
    have hln : ∀ {B : List Box} {args : List CV}, Is (omap (Go.Sy.fz true false B 6) args) (some [.agg (acC l[j])]) → ACall Tryz.prog 25 args B fun c B' => c = .str (lineS l[j]) ∧ B' = B := fun hz => line_at hz ha.l
    have hps : ∀ {B : List Box} {args : List CV}, Is args [.str (lineS l[j])] → ACall Tryz.prog 23 args B fun c B' => c = .tup [.agg (acC (parseS (lineS l[j])).1), .bool (parseS (lineS l[j])).2] ∧ B' = B := fun hz => parseS_at hz (by omega)
    have hsm : ∀ {B : List Box} {args : List CV}, Is (omap (Go.Sy.fz true false B 6) args) (some [.agg (acC (parseS (lineS l[j])).1), .agg (acC l[j])]) → ACall Tryz.prog 26 args B fun c B' => c = .bool (sameA (parseS (lineS l[j])).1 l[j]) ∧ B' = B := fun hz => same_at hz hpL ha.l rfl
    have hsucc := catS_succ hc
    have hgs : (l.take (j + 1)).all goodA = goodA l[j] := by rw [List.take_succ_eq_append_getElem hc, List.all_append, hg]; simp
    have hbad : goodA l[j] = false → l.all goodA = false := fun h => by rw [List.all_eq_false]; exact ⟨_, List.getElem_mem hc, by simp [h]⟩
    have hne : goodA l[j] = true → lineS l[j] ≠ [] := good_ne
    have hgd : goodA l[j] = ((parseS (lineS l[j])).2 && sameA (parseS (lineS l[j])).1 l[j]) := rfl
    rw [hgd] at hgs hbad hne
    clear hgd hpL ha hcs
    generalize acC (parseS (lineS l[j])).1 = Z at *
    generalize sameA (parseS (lineS l[j])).1 l[j] = t2 at *
    generalize (parseS (lineS l[j])).2 = t1 at *
    generalize acC l[j] = X at *
    generalize lineS l[j] = S at *
    have hcell' : (Y.drop (j * 60)).take 60 = X := hcell
    obtain ⟨b4, h4f⟩ : ∃ v, fr 4 = v := ⟨_, rfl⟩
    have hl2 : l.length ≤ 2000 := hn
    have hgl : (l.take j).all goodA = true := hg
    obtain ⟨n, hnl⟩ : ∃ n, l.length = n := ⟨_, rfl⟩
    have hcj : j < n := by omega
    have hyl : j * 60 + 60 ≤ Y.length := by omega
    replace hgl : Hid _ := hgl
    replace hgs : Hid _ := hgs
    replace hsucc : Hid _ := hsucc
    rw [h4f] at hb
    replace hb : Hid _ := hb
    replace hY : Hid _ := hY
    clear hg hcell hlen hY
    rw [hnl] at f13 f14
    refine AWc_w mixed (by kernel_rfl) (fun fr' B' => fr' 13 = .lst n Y false ∧ fr' 14 = .int .i64 n ∧ fr' 15 = .int .i64 j ∧ fr' 4 = b4 ∧ B' = B ∧ fr' 16 = .bool true) ?_ ?_
    · refine w0 ?_ 
      exact ⟨kS, kS, kS, kS, rfl, kS⟩
    replace hm : Hid _ := hm
    clear f13 f14 f15 h4f
    rintro fr2 B2 ⟨f13, f14, f15, f4, rfl, f16⟩
    refine AWc_w mixed (by kernel_rfl) (fun fr' B' => fr' 13 = .lst n Y false ∧ fr' 14 = .int .i64 n ∧ fr' 15 = .int .i64 j ∧ fr' 4 = b4 ∧ B' = B2) ?_ ?_
    · refine w0 ?_ 
      exact ⟨f13, f14, f15, f4, rfl⟩
    clear f13 f14 f15 f4 f16
    rintro fr3 B3 ⟨f13, f14, f15, f4, rfl⟩
    refine AWc_seq (AWc_block ?_)
    refine AWc_w mixed (by kernel_rfl) (fun fr' B' => fr' 13 = .lst n Y false ∧ fr' 14 = .int .i64 n ∧ fr' 15 = .int .i64 j ∧ fr' 4 = b4 ∧ B' = B3 ++ [⟨X, false⟩] ∧ fr' 6 = .ptr B3.length 0) ?_ ?_
    · refine w_SN00 ?_ 
      exact ⟨kS, kS, kS, kS, by (simp (disch := omega) [go_sem, *, bx_get0, bx_get, bx_set0, bx_set]) <;> (try omega), kS⟩
    clear f13 f14 f15 f4
    rintro fr4 B4 ⟨f13, f14, f15, f4, rfl, f6⟩
    refine AWc_w mixed (by kernel_rfl) (fun fr' B' => fr' 13 = .lst n Y false ∧ fr' 14 = .int .i64 n ∧ fr' 15 = .int .i64 j ∧ fr' 4 = b4 ∧ B' = B3 ++ [⟨X, false⟩] ∧ fr' 6 = .ptr B3.length 0 ∧ fr' 7 = .str S) ?_ ?_
    · refine w_SN01 @hln ?_ 
      exact ⟨kS, kS, kS, kS, rfl, kS, kS⟩
    clear f13 f14 f15 f4 f6
    rintro fr5 B5 ⟨f13, f14, f15, f4, rfl, f6, f7⟩
    refine AWc_w mixed (by kernel_rfl) (fun fr' B' => (t1 && t2) = true ∧ fr' 13 = .lst n Y false ∧ fr' 14 = .int .i64 n ∧ fr' 15 = .int .i64 j ∧ fr' 4 = b4 ∧ B' = B3 ++ [⟨X, false⟩, ⟨Z, false⟩] ∧ fr' 7 = .str S) ?_ ?_
    · by_cases hgo : (t1 && t2) = true
      · cases t1 <;> cases t2 <;> try cases hgo
        clear hbad hne
        refine w_SN02 @hps @hsm ?_ 
        exact ⟨rfl, kS, kS, kS, kS, by (simp (disch := omega) [go_sem, *, bx_get0, bx_get, bx_set0, bx_set]) <;> (try omega), kS⟩
      · have hb2 := hbad (by simpa using hgo)
        rw [hb2]
        simp only [Bool.false_eq_true, if_false]
        clear hb2 hbad hne
        cases t1
        · refine w_SN02 @hps @hsm ?_ 
          all_goals rfl
        · cases t2
          · refine w_SN02 @hps @hsm ?_ 
            all_goals rfl
          · cases hgo rfl
    clear f13 f14 f15 f4 f6 f7
    rintro fr6 B6 ⟨ht, f13, f14, f15, f4, rfl, f7⟩
    have hS := hne ht
    clear hne hbad hps hsm hln
    have hSl : S.length < 1000000000 := by omega
    have hgs' : (l.take (j + 1)).all goodA = true := by rw [show (l.take (j + 1)).all goodA = (t1 && t2) from hgs]; exact ht
    have hsucc' : catS (l.take (j + 1)) = catS (l.take j) ++ S := hsucc
    have hb' : BldL l j b4 B3 := hb
    rcases hb' with ⟨rfl, rfl, rfl⟩ | ⟨h0, rfl, γ, m, hγ, hB0, hBγ⟩
    · refine AWc_ws1 (l1 := [_]) rfl rfl rfl rfl rfl ?_
      refine w0 ?_ 
      refine ⟨0, S, kS, kS, hS, hSl, rfl, ?_⟩
      show AWc _ _ _ _ _ _
      have e1 : catS (l.take (0 + 1)) = S := by rw [hsucc']; rfl
      refine WPc_sound mixed.mixed _ _ _ _ (by kernel_rfl) ?_
      refine w0 ?_ 
      refine ⟨⟨0 + 1, by omega, hgs', by rw [hnl]; (simp (disch := omega) [go_sem, *]) <;> (try omega), by rw [hnl]; (simp (disch := omega) [go_sem, *]) <;> (try omega), kS, .inr ⟨by omega, kS, ?_⟩⟩, ?_⟩
      rotate_left
      · rw [show natOf (fr 15) = _ from hm]; (simp (disch := omega) [go_sem, *]) <;> (try omega)
      rw [e1]
      exact ⟨3, false, by decide, rfl, rfl⟩
    · have hBl : γ < B3.length := (List.getElem?_eq_some_iff.1 hBγ).1
      have hBl0 : 0 < B3.length := by omega
      obtain ⟨B7, hB7⟩ : ∃ B7, B3 ++ [(⟨X, false⟩ : Box), ⟨Z, false⟩] = B7 := ⟨_, rfl⟩
      have g0 : B7[0]? = some ⟨[.ptr 0 0, .bview γ (catS (l.take j)).length 5], false⟩ := by rw [← hB7, List.getElem?_append_left hBl0, hB0]
      have gγ : B7[γ]? = some ⟨(catS (l.take j)).map byteC, m⟩ := by rw [← hB7, List.getElem?_append_left hBl, hBγ]
      rw [hB7]
      have hcl3 : (catS (l.take j)).length + S.length < 1000000000 := by omega
      generalize catS (l.take j) = L at *
      have hws : ∀ {args : List CV}, Is args [.ptr 0 0, .str S] → ACall Tryz.prog 27 args B7 fun c B' => c = .tup [.int .i64 S.length, .nilI] ∧ B' = (B7.set γ ⟨(L ++ S).map byteC, true⟩).set 0 ⟨[.ptr 0 0, .bview γ (L.length + S.length) 5], false⟩ := fun h => ws_at h g0 gγ (Ne.symm hγ) hS hcl3
      refine WPc_sound mixed.mixed _ _ _ _ (by kernel_rfl) ?_
      refine w1 @hws ?_ 
      show AWc _ _ _ _ _ _
      refine WPc_sound mixed.mixed _ _ _ _ (by kernel_rfl) ?_
      refine w0 ?_ 
      refine ⟨⟨j + 1, by omega, hgs', by rw [hnl]; (simp (disch := omega) [go_sem, *]) <;> (try omega), by rw [hnl]; (simp (disch := omega) [go_sem, *]) <;> (try omega), kS, .inr ⟨by omega, kS, ?_⟩⟩, ?_⟩
      rotate_left
      · rw [show natOf (fr 15) = _ from hm]; (simp (disch := omega) [go_sem, *]) <;> (try omega)
      rw [hsucc', List.length_append]
      have hl7 : γ < B7.length := (List.getElem?_eq_some_iff.1 gγ).1
      refine ⟨γ, true, hγ, ?_, ?_⟩
      · rw [List.getElem?_set_self (by rw [List.length_set]; omega)]
      · rw [List.getElem?_set_ne (Ne.symm hγ), List.getElem?_set_self hl7]
  · obtain rfl : j = l.length := by omega
    rw [List.take_length] at hg
    have hgl : Hid (l.all goodA = true) := hg
    rw [hg]
    clear hg
    simp only [if_true]
    have hcl := catS_len hl
    have hcl2 : (catS l).length < 1000000000 := by omega
    have hb' : BldL l l.length (fr 4) B := hb
    clear hb hcl hcs hl
    obtain ⟨b4, h4f⟩ : ∃ v, fr 4 = v := ⟨_, rfl⟩
    rw [h4f] at hb'
    replace hb' : Hid _ := hb'
    replace hcl2 : Hid _ := hcl2
    refine WPc_sound mixed.mixed _ _ _ _ (by kernel_rfl) ?_
    refine w0 ?_ 
    have hcl2 : (catS l).length < 1000000000 := hcl2
    have hb' : BldL l l.length b4 B := hb'
    rcases hb' with ⟨h0, rfl, rfl⟩ | ⟨h0, rfl, γ, m, hγ, hB0, hBγ⟩
    · have hl0 : l = [] := List.eq_nil_of_length_eq_zero h0
      subst hl0
      refine AWz_seq (AWz_string0 (d := 4) (d1 := 37) (β := 0) (ty0 := 76) (k0 := 2) rfl rfl rfl (by decide) (by rfl) (kS) rfl ?_)
      intro vs
      refine w0 ?_ 
      refine AWz.of (WPc_sound mixed.mixed _ _ _ _ (by kernel_rfl) ?_)
      refine w0 ?_ 
      rfl
    · rw [List.take_length] at hB0 hBγ
      have hne : catS l ≠ [] := catS_ne hgl (fun e => by rw [e] at h0; cases h0)
      refine AWz_seq (AWz_string (d := 4) (d1 := 37) (β := 0) (γ := γ) (l := catS l) rfl rfl rfl (by decide) (by rfl) (kS) hB0 hBγ hne hcl2 ?_)
      intro vs
      refine w0 ?_ 
      refine AWz.of (WPc_sound mixed.mixed _ _ _ _ (by kernel_rfl) ?_)
      refine w0 ?_ 
      rfl
end Go.Proofs.YtcbdghgogmcllaaGreatDoor
end
section
namespace Go.Proofs.YtcbdghgogmcllaaGreatDoor
open Go Go.Sy
theorem numR_i64 (s : List UInt8) : i64 (numR s).1 := by
  unfold numR
  split
  · rename_i h
    exact ⟨by omega, by omega⟩
  · exact i64_zero
theorem bytesR_len (s : List UInt8) : (bytesR s).1.length ≤ s.length := by
  unfold bytesR
  split
  · simp
  · split
    · rename_i l hu
      have := unhex_len _ _ hu
      split
      · simp; omega
      · simp
    · simp
theorem i64_1 : i64 1 := ⟨by decide, by decide⟩
theorem i64_2 : i64 2 := ⟨by decide, by decide⟩
theorem i64_3 : i64 3 := ⟨by decide, by decide⟩
theorem i64_4 : i64 4 := ⟨by decide, by decide⟩
theorem i64_5 : i64 5 := ⟨by decide, by decide⟩
theorem i64_6 : i64 6 := ⟨by decide, by decide⟩
theorem i64_7 : i64 7 := ⟨by decide, by decide⟩
theorem len0 : ([] : List UInt8).length < 1000000 := by decide
theorem ev0_L : EvL ev0 := ⟨rfl, i64_zero, i64_zero, i64_zero, by decide, by decide⟩
theorem evb_L {k : Int} {s : List UInt8} (hk : i64 k) (hs : s.length < 1000000) : EvL { ev0 with kind := k, bytes := (bytesR s).1 } := ⟨rfl, hk, i64_zero, i64_zero, by have := bytesR_len s; show (bytesR s).1.length < _; omega, len0⟩
theorem evR_L {x0 x1 : List UInt8} {tl : List (List UInt8)} (h1 : x1.length < 1000000) (ht : ∀ x ∈ tl, x.length < 1000000) : AcL (evR x0 x1 tl).1 := by
  unfold evR
  split
  · repeat' split
    · exact evA_L (evb_L i64_1 h1)
    · exact evA_L ⟨rfl, i64_3, i64_zero, numR_i64 _, len0, len0⟩
    · exact evA_L (evb_L i64_4 h1)
    · exact evA_L ev0_L
  · rename_i x2
    have h2 := ht x2 (by simp)
    have := bytesR_len x2
    split
    · unfold dgR
      split
      · rename_i six A n he
        have hn := parseE_port he
        exact evA_L ⟨parseE_ip he, i64_2, ⟨by show (-9223372036854775808 : Int) ≤ (n : Int); omega, by show (n : Int) ≤ _; omega⟩, i64_zero, by show (bytesR x2).1.length < _; omega, len0⟩
      · exact evA_L (evb_L i64_2 h2)
    · exact evA_L ev0_L
  · exact evA_L ev0_L
theorem handX_L {x1 : List UInt8} {tl : List (List UInt8)} : AcL (handX x1 tl).1 := by
  unfold handX
  split
  · unfold handR
    split
    · rename_i h
      exact ⟨ev0_L, i64_2, i64_zero, i64_zero, numR_i64 _, numR_i64 _, h.2.2.2.2.2⟩
    · exact ⟨ev0_L, i64_2, i64_zero, i64_zero, i64_zero, i64_zero, rfl⟩
  · exact ⟨ev0_L, i64_2, i64_zero, i64_zero, i64_zero, i64_zero, rfl⟩
theorem i64_if (p : Prop) [Decidable p] : i64 (if p then 0 else 1) := by
  split
  · exact i64_zero
  · exact i64_1
theorem namedR_L {x0 x1 : List UInt8} {tl : List (List UInt8)} : AcL (namedR x0 x1 tl).1 := by
  unfold namedR
  obtain ⟨w, hw⟩ : ∃ w, (if x1 = [48] then (0 : Int) else 1) = w := ⟨_, rfl⟩
  have hi : i64 w := hw ▸ i64_if _
  simp only [hw]
  repeat' split
  all_goals first | exact act0_L | skip
  · exact ⟨ev0_L, i64_4, hi, i64_zero, i64_zero, i64_zero, rfl⟩
  · exact ⟨ev0_L, i64_5, hi, i64_zero, i64_zero, i64_zero, rfl⟩
  · exact ⟨ev0_L, i64_3, hi, numR_i64 _, i64_zero, i64_zero, rfl⟩
  · exact ⟨ev0_L, i64_7, hi, numR_i64 _, i64_zero, i64_zero, rfl⟩
  · exact ⟨ev0_L, i64_6, hi, numR_i64 _, i64_zero, i64_zero, rfl⟩
theorem lineR_L {s : List UInt8} (hs : s.length < 1000000) : AcL (lineR s).1 := by
  unfold lineR
  split
  · unfold ctlR
    split
    · refine evA_L ⟨rfl, i64_5, i64_zero, i64_zero, len0, ?_⟩
      show (s.drop 8).length < _
      rw [List.length_drop]; omega
    · exact act0_L
  · have hm := splitL_mem 32 s
    generalize splitL 32 s = w at *
    unfold wordsR
    split
    · rename_i x0 x1 tl
      have h1 : x1.length < 1000000 := by have := hm x1 (by simp); omega
      have ht : ∀ x ∈ tl, x.length < 1000000 := fun x hx => by have := hm x (by simp [hx]); omega
      split
      · exact evR_L h1 ht
      · split
        · exact handX_L
        · exact namedR_L
    · exact act0_L
end Go.Proofs.YtcbdghgogmcllaaGreatDoor
end
section
namespace Go.Proofs.YtcbdghgogmcllaaGreatDoor
open Go Go.Sy
theorem kE_RJ0 {α : Type} {x y : α} (h : Is x y := by first | ((try simp (disch := first | omega | (simp only [yZ, yB] <;> omega) | fail) [go_sem, yY, *, bx_get0, bx_get, bx_set0, bx_set, if_pos, if_neg, -List.map_take, -List.map_drop, -List.map_append, -List.map_reverse]); exact rfl) | fail) : Is x y := h
theorem kD_RJ0 {p : Prop} (h : p := by (first | omega | assumption | exact rfl | ((simp (disch := first | omega | (simp only [yZ, yB] <;> omega) | fail) [go_sem, yY, *, bx_get0, bx_get, bx_set0, bx_set, -List.map_take, -List.map_drop, -List.map_append, -List.map_reverse]) <;> (first | done | omega | exact rfl)) | fail)) : p := h
theorem wB_RJ0 {p q : Prop} (k : q) (h : Hq q → p := by (intro k; (repeat' (first | (with_reducible first | apply jA | apply jB | apply jC | apply jD | apply jE | apply jF | apply jG | apply jH | apply jI | apply jJ | apply jK | apply jL | apply jM | apply jN | apply jO) | ((with_reducible first | apply jP | apply jQ); rfl) | ((first | ((with_reducible first | apply jR | apply jS | apply jT); rfl; rfl) | (with_reducible first | apply jU | apply jV | apply jW) | ((with_reducible first | apply jX | apply jY | apply jZ); rfl) | ((with_reducible first | apply kA | apply kB | apply kC); rfl)); all_goals (first | ((with_reducible show Is _ _); exact kE_RJ0) | ((with_reducible refine fun (hc : (_ : Bool) = _) => ?_); (try simp only [xZ, xY, xP, reduceCtorEq] at hc); (try (have hx : True := hc; clear hx hc)); (try exact kX)) | ((with_reducible show ACall _ _ _ _ _); (first | ((with_reducible apply c0) <;> exact kD_RJ0) | ((with_reducible apply c1) <;> exact kD_RJ0) | ((with_reducible apply c2) <;> exact kD_RJ0) | ((with_reducible apply c3) <;> exact kD_RJ0) | ((with_reducible apply c4) <;> exact kD_RJ0) | ((with_reducible apply c5) <;> exact kD_RJ0) | ((with_reducible apply c6) <;> exact kD_RJ0) | ((with_reducible apply c7) <;> exact kD_RJ0))) | ((fail_if_success (with_reducible first | show Is _ _ | show ACall _ _ _ _ _)); (try ((with_reducible show _ ∨ _); exact kT))))) | (((with_reducible first | apply o_callQ | apply q_callQ); rfl); (iterate 2 exact kE_RJ0); (first | ((with_reducible apply q0) <;> exact kD_RJ0))))); exact hq k)) : p := h ⟨k⟩
theorem w_RJ03 {A0 A1 A2 p q : Prop} (c0 : A0) (c1 : A1) (c2 : A2) (k : q) (h : A0 → A1 → A2 → Hq q → p := by (intro c0 c1 c2 k; exact wB_RJ0 (hq k))) : p := h c0 c1 c2 ⟨k⟩
def goodR (a : Ac) : Bool := (lineR (textR a)).2 && sameA a (lineR (textR a)).1
def catR (l : List Ac) : List UInt8 := (l.map fun a => textR a ++ [10]).flatten
def fmtR (l : List Ac) : List UInt8 × Int := if 400 < l.length then ([], 12) else if l.all goodR then (catR l, 0) else ([], 1)
theorem textR_short {a : Ac} (h : AcS a) : (textR a).length < 399999 := by
  have h1 := decM_len h.l.who
  have h2 := decM_len h.l.n
  have h3 := decM_len h.l.lo
  have h4 := decM_len h.l.hi
  have h5 := decM_len h.l.ev.time
  have h6 : (hexW a.ev.bytes).length ≤ 200000 := by
    have := h.bytes
    unfold hexW
    split
    · simp
    · rw [hexS_len]; omega
  have h7 := fmtE_len a.ev.six a.ev.ip a.ev.port
  have h8 : (hexS a.key).length = 64 := by rw [hexS_len, h.l.key]
  have h9 : (hexS [a.xor]).length = 2 := by rw [hexS_len]; rfl
  have h10 := h.text
  unfold textR textE
  repeat' split
  all_goals (simp [wPlain, wDatagram, wTick, wEntropy, wControl, wHandoff, wPick, wAbort, wKill, wCorrupt, wCut]; try omega)
theorem textR_at {B : List Box} {args : List CV} {a : Ac} (hz : Is (omap (fz true false B 6) args) (some [.agg (acC a)])) (h : AcL a) : ACall Tryz.prog 16 args B fun c B' => c = .str (textR a) ∧ B' = B := acall_fresh hz (textR_in a h)
theorem catR_len {l : List Ac} (h : ∀ a ∈ l, AcS a) : (catR l).length ≤ l.length * 400000 := by
  induction l with
  | nil => simp [catR]
  | cons a l ih =>
    have := ih fun b hb => h b (by simp [hb])
    have := textR_short (h a (by simp))
    simp [catR] at *
    omega
theorem catR_succ {l : List Ac} {j : Nat} (h : j < l.length) : catR (l.take (j + 1)) = catR (l.take j) ++ (textR l[j] ++ [10]) := by
  rw [List.take_succ_eq_append_getElem h, catR, List.map_append, List.flatten_append]
  simp [catR]
theorem rformat_in (l : List Ac) (hl : ∀ a ∈ l, AcS a) (hn : l.length ≤ 2000) : PC Tryz.prog true 6 [.lst l.length (l.flatMap acC) false] (.tup [.str (fmtR l).1, .int .i64 (fmtR l).2]) := by
  have hcs : Cells acC 60 (l.flatMap acC) l := cells_all fun a ha => acC_len (hl a ha).l
  by_cases h4 : 400 < l.length
  · have e : fmtR l = ([], 12) := by rw [fmtR, if_pos h4]
    rw [e]
    generalize l.flatMap acC = Y at *
    generalize l.length = n at *
    clear hcs hl
    have h4' : (400 : Int) < n := by omega
    refine acall_intro mixed Tryz.func6 rfl ca6 (by kernel_rfl) (by rw [Tryz.ntmps6]; simp) ?_
    refine w0 ?_ 
    all_goals rfl
  have e : fmtR l = if l.all goodR then (catR l, 0) else ([], 1) := by rw [fmtR, if_neg h4]
  rw [e]
  clear e
  have h4' : ¬ ((400 : Int) < l.length) := by omega
  generalize hY : l.flatMap acC = Y at *
  refine acall_intro mixed Tryz.func6 rfl ca6 (by kernel_rfl) (by rw [Tryz.ntmps6]; simp) ?_
  refine w0 ?_ 
  refine w_loop (fun fr B => ∃ j, j ≤ l.length ∧ (l.take j).all goodR = true ∧ fr 13 = .lst l.length Y false ∧ fr 14 = .int .i64 l.length ∧ fr 15 = .int .i64 j ∧ fr 4 = .str (catR (l.take j))) (fun fr _ => l.length - natOf (fr 15)) ?_ ?_
  · exact ⟨0, by omega, by simp, kS, kS, kS, by rw [show catR (l.take 0) = [] from rfl]; (simp (disch := omega) [go_sem, *]) <;> (try omega)⟩
  rintro fr B ⟨j, hj, hg, f13, f14, f15, f4⟩
  have hm : natOf (fr 15) = j := by rw [f15]; rfl
  have hcl := catR_len (l := l.take j) fun a ha => hl a (List.mem_of_mem_take ha)
  have hcl2 : (l.take j).length ≤ 2000 := by rw [List.length_take]; omega
  by_cases hc : j < l.length
  · have ha := hl l[j] (List.getElem_mem hc)
    obtain ⟨hlen, hcell⟩ := hcs j hc
    have hls := textR_short ha
    have hal := acC_len ha.l
    have hao : ∀ {nz : Bool} {B : List Box} {k : Nat}, omap (Go.Sy.fz nz false B (k + 3)) (acC l[j]) = some (acC l[j]) := acC_om
    have hat : (acC l[j]).take 60 = acC l[j] := List.take_of_length_le (by omega)
    have hpL : AcL (lineR (textR l[j])).1 := lineR_L (by omega)
    have hpo : ∀ {nz : Bool} {B : List Box} {k : Nat}, omap (Go.Sy.fz nz false B (k + 3)) (acC (lineR (textR l[j])).1) = some (acC (lineR (textR l[j])).1) := acC_om
    have hpl := acC_len hpL
    have hpt : (acC (lineR (textR l[j])).1).take 60 = acC (lineR (textR l[j])).1 := List.take_of_length_le (by omega)
    have htx : ∀ {B : List Box} {args : List CV}, Is (omap (Go.Sy.fz true false B 6) args) (some [.agg (acC l[j])]) → ACall Tryz.prog 16 args B fun c B' => c = .str (textR l[j]) ∧ B' = B := fun hz => textR_at hz ha.l
    have hps : ∀ {B : List Box}, ACall Tryz.prog 17 [.str (textR l[j])] B fun c B' => c = .tup [.agg (acC (lineR (textR l[j])).1), .bool (lineR (textR l[j])).2] ∧ B' = B := lineR_at (by omega)
    have hsm : ∀ {B : List Box} {args : List CV}, Is (omap (Go.Sy.fz true false B 6) args) (some [.agg (acC l[j]), .agg (acC (lineR (textR l[j])).1)]) → ACall Tryz.prog 18 args B fun c B' => c = .bool (sameA l[j] (lineR (textR l[j])).1) ∧ B' = B := fun hz => rsame_at hz ha.l hpL rfl
    have hsucc := catR_succ hc
    have hgs : (l.take (j + 1)).all goodR = goodR l[j] := by rw [List.take_succ_eq_append_getElem hc, List.all_append, hg]; simp
    have hbad : goodR l[j] = false → l.all goodR = false := fun h => by rw [List.all_eq_false]; exact ⟨_, List.getElem_mem hc, by simp [h]⟩
    have hgd : goodR l[j] = ((lineR (textR l[j])).2 && sameA l[j] (lineR (textR l[j])).1) := rfl
    rw [hgd] at hgs hbad
    clear hgd hpL ha hcs
    generalize acC (lineR (textR l[j])).1 = Z at *
    generalize sameA l[j] (lineR (textR l[j])).1 = t2 at *
    generalize (lineR (textR l[j])).2 = t1 at *
    generalize acC l[j] = X at *
    generalize textR l[j] = S at *
    have hcell' : (Y.drop (j * 60)).take 60 = X := hcell
    have hyl : j * 60 + 60 ≤ Y.length := by omega
    generalize catR (l.take j) = L at *
    obtain ⟨n, hnl⟩ : ∃ n, l.length = n := ⟨_, rfl⟩
    have hcj : j < n := by omega
    rw [hnl] at f13 f14 ⊢
    have hj2 : j < 2000000 := by omega
    have hLS : L.length + S.length + 1 < 1000000000 := by omega
    replace hgs : Hid _ := hgs
    replace hsucc : Hid _ := hsucc
    replace hnl : Hid _ := hnl
    clear hg hcell hlen hY hl hcl hcl2 h4 h4' hn hj hc
    by_cases hgo : (t1 && t2) = true
    · cases t1 <;> cases t2 <;> try cases hgo
      clear hbad
      refine w_RJ03 @htx @hps @hsm ?_ 
      have hsucc : _ = _ := hsucc
      have hgs : (l.take (j + 1)).all goodR = (true && true) := hgs
      have hnl : l.length = n := hnl
      exact ⟨⟨j + 1, by omega, hgs, kS, kS, kS, by rw [hsucc]; (simp (disch := omega) [go_sem, *]) <;> (try omega)⟩, kS⟩
    · have hb2 := hbad (by simpa using hgo)
      rw [hb2]
      simp only [Bool.false_eq_true, if_false]
      clear hb2 hbad
      cases t1
      · refine w_RJ03 @htx @hps @hsm ?_ 
        all_goals rfl
      · cases t2
        · refine w_RJ03 @htx @hps @hsm ?_ 
          all_goals rfl
        · cases hgo rfl
  · obtain rfl : j = l.length := by omega
    rw [List.take_length] at hg f4
    rw [hg]
    simp only [if_true]
    clear hcs hl hY hg
    generalize catR l = L at *
    refine w0 ?_ 
    all_goals rfl
end Go.Proofs.YtcbdghgogmcllaaGreatDoor
end
section
namespace Go.Proofs.YtcbdghgogmcllaaGreatDoor
open Go Go.Sy
theorem digV_hd {n : Nat} (h : n < 16) : digV (hd n) = some n := by
  have : ∀ k : Fin 16, digV (hd k.1) = some k.1 := by decide
  exact this ⟨n, h⟩
theorem unhex_hexS (l : List UInt8) : unhex (hexS l) = some l := by
  induction l with
  | nil => rfl
  | cons x l ih =>
    have hx := x.toNat_lt
    have e : hexS (x :: l) = hd (x.toNat / 16) :: hd (x.toNat % 16) :: hexS l := rfl
    rw [e, unhex, digV_hd (by omega), digV_hd (by omega), ih]
    simp only [Option.bind_some, Option.map_some, hexb, Option.some.injEq, List.cons.injEq, and_true]
    apply UInt8.toNat_inj.1
    rw [UInt8.toNat_ofNat']
    omega
def NoSp (x : List UInt8) : Prop := ∀ c ∈ x, c ≠ 32 ∧ c ≠ 10
theorem hd_ch {k : Nat} (h : k < 16) : hd k ≠ 32 ∧ hd k ≠ 10 ∧ hd k ≠ 45 := by
  have : ∀ k : Fin 16, hd k.1 ≠ 32 ∧ hd k.1 ≠ 10 ∧ hd k.1 ≠ 45 := by decide
  exact this ⟨k, h⟩
theorem hexS_ch (l : List UInt8) : ∀ c ∈ hexS l, c ≠ 32 ∧ c ≠ 10 ∧ c ≠ 45 := by
  intro c hc
  simp only [hexS, List.mem_flatMap] at hc
  obtain ⟨x, _, hx⟩ := hc
  have := x.toNat_lt
  simp only [List.mem_cons, List.mem_nil_iff, or_false] at hx
  rcases hx with rfl | rfl
  · exact hd_ch (by omega)
  · exact hd_ch (by omega)
theorem hexS_nosp (l : List UInt8) : NoSp (hexS l) := fun c hc => ⟨(hexS_ch l c hc).1, (hexS_ch l c hc).2.1⟩
theorem hexW_nosp (l : List UInt8) : NoSp (hexW l) := by
  unfold hexW
  split
  · intro c hc
    simp only [List.mem_singleton] at hc
    subst hc
    decide
  · exact hexS_nosp l
theorem hexS_nm (l : List UInt8) : hexS l ≠ [45] := fun h => (hexS_ch l 45 (by rw [h]; simp)).2.2 rfl
theorem unhexW_back (l : List UInt8) : unhexW (hexW l) = (l, true) := by
  unfold hexW
  split
  · rename_i h
    subst h
    rfl
  · rename_i h
    rw [unhexW, if_neg (hexS_nm l), unhex_hexS]
    have : 0 < l.length := List.length_pos_iff.2 h
    simp only [this, decide_true]
theorem bytesR_back (l : List UInt8) : bytesR (hexW l) = (l, true) := by
  unfold hexW
  split
  · rename_i h
    subst h
    rfl
  · rename_i h
    rw [bytesR, if_neg (hexS_nm l), unhex_hexS]
    simp only [ne_eq, h, not_false_eq_true, and_self, if_true]
theorem bytesR_ok {s l : List UInt8} (h : bytesR s = (l, true)) : hexW l = s := by
  unfold bytesR at h
  split at h
  · rename_i e
    simp only [Prod.mk.injEq, and_true] at h
    subst h e
    rfl
  · split at h
    · rename_i m hm
      split at h
      · rename_i hh
        simp only [Prod.mk.injEq, and_true] at h
        subst h
        rw [hexW, if_neg hh.1, hh.2]
      · cases h
    · cases h
theorem dec_nosp (n : Nat) : NoSp (Go.Lib.decDigits n) := fun c hc => by
  have := dec_dig n c hc
  constructor <;> (rintro rfl; revert this; decide)
theorem itoa_nosp (n : Int) : NoSp (Go.Lib.itoa n) := by
  unfold Go.Lib.itoa
  split
  · intro c hc
    rcases List.mem_cons.1 hc with rfl | hc
    · decide
    · exact dec_nosp _ c hc
  · exact dec_nosp _
end Go.Proofs.YtcbdghgogmcllaaGreatDoor
end
section
namespace Go.Proofs.YtcbdghgogmcllaaGreatDoor
open Go Go.Sy
theorem dec_ofNat {c : UInt8} (h1 : 48 ≤ c.toNat) (h2 : c.toNat ≤ 57) : UInt8.ofNat (48 + (c.toNat - 48)) = c := by
  rw [show 48 + (c.toNat - 48) = c.toNat by omega]
  exact UInt8.ofNat_toNat
theorem dec_back : ∀ (k : Nat) (s : List UInt8), s.length = k + 1 → s.all isDig = true → (1 < s.length → s.head? ≠ some 48) → Go.Lib.decDigits (decV s) = s
  | 0, s, hl, hd, hh => by
    match s, hl with
    | [c], _ =>
    have hc : 48 ≤ c.toNat ∧ c.toNat ≤ 57 := by simpa [isDig] using hd
    have e : decV [c] = c.toNat - 48 := by simp [decV]
    rw [e, Go.Lib.decDigits, dif_pos (by omega), dec_ofNat hc.1 hc.2]
  | k + 1, s, hl, hd, hh => by
    obtain ⟨t, c, rfl⟩ : ∃ t c, s = t ++ [c] := ⟨s.dropLast, s.getLast (by intro e; rw [e] at hl; cases hl), (List.dropLast_concat_getLast _).symm⟩
    have htl : t.length = k + 1 := by simpa using hl
    rw [List.all_append, Bool.and_eq_true] at hd
    have hc : 48 ≤ c.toNat ∧ c.toNat ≤ 57 := by simpa [isDig] using hd.2
    have hth : t.head? ≠ some 48 := by
      have := hh (by simp; omega)
      rw [List.head?_append] at this
      intro e
      rw [e] at this
      exact this rfl
    have ih := dec_back k t htl hd.1 (fun _ => hth)
    have hv : decV t ≠ 0 := fun e => by
      rw [e, Go.Lib.decDigits, dif_pos (by omega)] at ih
      rw [← ih] at hth
      exact hth rfl
    rw [decV_app, Go.Lib.decDigits, dif_neg (by omega), show (10 * decV t + (c.toNat - 48)) / 10 = decV t by omega, show (10 * decV t + (c.toNat - 48)) % 10 = c.toNat - 48 by omega, ih, dec_ofNat hc.1 hc.2]
theorem decOk_back {m : Nat} {s : List UInt8} (h : decOk m s = true) : Go.Lib.decDigits (decV s) = s := by
  rw [decOk, headOk] at h
  simp only [Bool.and_eq_true, decide_eq_true_eq, Bool.not_eq_true', Bool.and_eq_false_iff] at h
  obtain ⟨⟨⟨h1, _⟩, h3⟩, h4⟩ := h
  refine dec_back (s.length - 1) s (by omega) h4 fun hl e => ?_
  rcases h3 with h3 | h3
  · simp at h3; omega
  · rw [e] at h3; cases h3
theorem decOk_lt {s : List UInt8} (h : decOk 19 s = true) : decV s < 10000000000000000000 := by
  rw [decOk, headOk] at h
  simp only [Bool.and_eq_true, decide_eq_true_eq] at h
  have h1 := decV_lt s h.2
  have h2 : (10 : Nat) ^ s.length ≤ 10 ^ 19 := Nat.pow_le_pow_right (by omega) h.1.1.2
  omega
theorem numR_ok {s : List UInt8} {n : Int} (h : numR s = (n, true)) : 0 ≤ n ∧ n ≤ 4611686018427387904 ∧ Go.Lib.decDigits n.toNat = s := by
  unfold numR at h
  split at h
  · rename_i hh
    simp only [Prod.mk.injEq, and_true] at h
    subst h
    obtain ⟨h1, h2, h3⟩ := hh
    have hlt := decOk_lt h1
    have hb := decOk_back h1
    have e : nV s = (decV s : Int) := by
      rw [nV, if_pos h1] at h2 h3 ⊢
      rw [w64] at h2 h3 ⊢
      omega
    refine ⟨h2, h3, ?_⟩
    rw [e]
    exact hb
  · cases h
theorem numR_back {n : Int} (h0 : 0 ≤ n) (h1 : n ≤ 4611686018427387904) : numR (Go.Lib.decDigits n.toNat) = (n, true) := by
  have hok := decOk_dec 18 n.toNat (by omega)
  have hv := (dec_all n.toNat).2.1
  have e : nV (Go.Lib.decDigits n.toNat) = n := by
    rw [nV, if_pos hok, hv, w64]
    omega
  rw [numR, e, if_pos ⟨hok, h0, h1⟩]
theorem decM_nn {n : Int} (h : 0 ≤ n) : decM n = Go.Lib.decDigits n.toNat := by rw [decM, Int.max_eq_left h]
theorem numR_eq {s : List UInt8} {n : Int} (h : numR s = (n, true)) : 0 ≤ n ∧ n ≤ 4611686018427387904 ∧ decM n = s := by
  obtain ⟨h1, h2, h3⟩ := numR_ok h
  exact ⟨h1, h2, by rw [decM_nn h1, h3]⟩
theorem dec_one_len {n : Nat} (h : (Go.Lib.decDigits n).length = 1) : n < 10 := by
  by_cases h10 : n < 10
  · exact h10
  · rw [Go.Lib.decDigits, dif_neg h10, List.length_append] at h
    have := List.length_pos_iff.2 (dec_ne (n / 10))
    rw [show [UInt8.ofNat (48 + n % 10)].length = 1 from rfl] at h
    omega
theorem decM_itoa {n : Int} (h : 0 ≤ n) : Go.Lib.itoa n = decM n := by rw [itoa_nn h, decM_nn h]
end Go.Proofs.YtcbdghgogmcllaaGreatDoor
end
section
namespace Go.Proofs.YtcbdghgogmcllaaGreatDoor
open Go Go.Sy
inductive Norm : Ac → Prop
  | plain (l : List UInt8) : Norm (evA { ev0 with kind := 1, bytes := l })
  | dgram (six : Bool) (A : List UInt8) (n : Nat) (l : List UInt8) (hA : A.length = 16) (ok : okA six A = true) (h1 : 1 ≤ n) (h2 : n ≤ 65535) : Norm (evA { ev0 with kind := 2, six := six, ip := A, port := (n : Int), bytes := l })
  | tick (n : Int) (h0 : 0 ≤ n) (h1 : n ≤ 4611686018427387904) : Norm (evA { ev0 with kind := 3, time := n })
  | entropy (l : List UInt8) : Norm (evA { ev0 with kind := 4, bytes := l })
  | control (t : List UInt8) (h : prS t = true) : Norm (evA { ev0 with kind := 5, text := t })
  | handoff (lo hi : Int) (k : List UInt8) (l0 : 0 ≤ lo) (l1 : lo ≤ 9) (h0 : 0 ≤ hi) (h1 : hi ≤ 9) (hk : k.length = 32) : Norm { act0 with kind := 2, lo := lo, hi := hi, key := k }
  | pick (w n : Int) (w0 : 0 ≤ w) (w1 : w ≤ 1) (h0 : 0 ≤ n) (h1 : n ≤ 4611686018427387904) : Norm { act0 with kind := 3, who := w, n := n }
  | abort (w : Int) (w0 : 0 ≤ w) (w1 : w ≤ 1) : Norm { act0 with kind := 4, who := w }
  | kill (w : Int) (w0 : 0 ≤ w) (w1 : w ≤ 1) : Norm { act0 with kind := 5, who := w }
  | corrupt (w n : Int) (x : UInt8) (w0 : 0 ≤ w) (w1 : w ≤ 1) (h0 : 0 ≤ n) (h1 : n ≤ 4611686018427387904) : Norm { act0 with kind := 6, who := w, n := n, xor := x }
  | cut (w n : Int) (w0 : 0 ≤ w) (w1 : w ≤ 1) (h0 : 0 ≤ n) (h1 : n ≤ 4611686018427387904) : Norm { act0 with kind := 7, who := w, n := n }
structure GoodN (b : Ac) (w : List UInt8) (ws : List (List UInt8)) : Prop where
  name : nameS b = w
  words : wordsS b = ws
  text : textR b = Go.Lib.join (w :: ws) [32]
  nosp : ∀ x ∈ w :: ws, NoSp x
  rd : readW (w :: ws) = (b, true)
  rr : wordsR (w :: ws) = (b, true)
  nc : w ∈ [wPlain, wDatagram, wTick, wEntropy, wHandoff, wPick, wCut, wAbort, wKill, wCorrupt]
  ne : ws ≠ []
theorem words_nosp {w : List UInt8} (h : w ∈ [wPlain, wDatagram, wTick, wEntropy, wHandoff, wPick, wCut, wAbort, wKill, wCorrupt]) : NoSp w := by
  have : ∀ w ∈ [wPlain, wDatagram, wTick, wEntropy, wHandoff, wPick, wCut, wAbort, wKill, wCorrupt], ∀ c ∈ w, c ≠ 32 ∧ c ≠ 10 := by decide
  exact this w h
theorem join2 (x y : List UInt8) : Go.Lib.join [x, y] [32] = x ++ [32] ++ y := by simp [Go.Lib.join_cons, Go.Lib.joinTail]
theorem join3 (x y z : List UInt8) : Go.Lib.join [x, y, z] [32] = x ++ [32] ++ y ++ [32] ++ z := by simp [Go.Lib.join_cons, Go.Lib.joinTail]
theorem join4 (x y z t : List UInt8) : Go.Lib.join [x, y, z, t] [32] = x ++ [32] ++ y ++ [32] ++ z ++ [32] ++ t := by simp [Go.Lib.join_cons, Go.Lib.joinTail]
theorem nosp_two {x y : List UInt8} (h1 : NoSp x) (h2 : NoSp y) : ∀ z ∈ [x, y], NoSp z := by
  intro z hz
  simp only [List.mem_cons, List.mem_nil_iff, or_false] at hz
  rcases hz with rfl | rfl <;> assumption
theorem nosp_three {x y t : List UInt8} (h1 : NoSp x) (h2 : NoSp y) (h3 : NoSp t) : ∀ z ∈ [x, y, t], NoSp z := by
  intro z hz
  simp only [List.mem_cons, List.mem_nil_iff, or_false] at hz
  rcases hz with rfl | rfl | rfl <;> assumption
theorem nosp_four {x y t u : List UInt8} (h1 : NoSp x) (h2 : NoSp y) (h3 : NoSp t) (h4 : NoSp u) : ∀ z ∈ [x, y, t, u], NoSp z := by
  intro z hz
  simp only [List.mem_cons, List.mem_nil_iff, or_false] at hz
  rcases hz with rfl | rfl | rfl | rfl <;> assumption
theorem good_plain (l : List UInt8) : GoodN (evA { ev0 with kind := 1, bytes := l }) wPlain [hexW l] := by
  refine ⟨rfl, rfl, ?_, nosp_two (words_nosp (by decide)) (hexW_nosp l), ?_, ?_, by decide, by simp⟩
  · rw [join2]; rfl
  · show (evA { ev0 with kind := 1, bytes := (unhexW (hexW l)).1 }, (unhexW (hexW l)).2) = _
    rw [unhexW_back]
  · show (evA { ev0 with kind := 1, bytes := (bytesR (hexW l)).1 }, (bytesR (hexW l)).2) = _
    rw [bytesR_back]
theorem good_entropy (l : List UInt8) : GoodN (evA { ev0 with kind := 4, bytes := l }) wEntropy [hexW l] := by
  refine ⟨rfl, rfl, ?_, nosp_two (words_nosp (by decide)) (hexW_nosp l), ?_, ?_, by decide, by simp⟩
  · rw [join2]; rfl
  · show (evA { ev0 with kind := 4, bytes := (unhexW (hexW l)).1 }, (unhexW (hexW l)).2) = _
    rw [unhexW_back]
  · show (evA { ev0 with kind := 4, bytes := (bytesR (hexW l)).1 }, (bytesR (hexW l)).2) = _
    rw [bytesR_back]
theorem good_tick {n : Int} (h0 : 0 ≤ n) (h1 : n ≤ 4611686018427387904) : GoodN (evA { ev0 with kind := 3, time := n }) wTick [Go.Lib.itoa n] := by
  refine ⟨rfl, rfl, ?_, nosp_two (words_nosp (by decide)) (itoa_nosp n), ?_, ?_, by decide, by simp⟩
  · rw [join2, decM_itoa h0]; rfl
  · show (evA { ev0 with kind := 3, time := (numW (Go.Lib.itoa n)).1 }, (numW (Go.Lib.itoa n)).2) = _
    rw [numW_back h0 h1]
  · show (evA { ev0 with kind := 3, time := (numR (Go.Lib.itoa n)).1 }, (numR (Go.Lib.itoa n)).2) = _
    rw [itoa_nn h0, numR_back h0 h1]
theorem good_handoff {lo hi : Int} {k : List UInt8} (l0 : 0 ≤ lo) (l1 : lo ≤ 9) (h0 : 0 ≤ hi) (h1 : hi ≤ 9) (hk : k.length = 32) : GoodN { act0 with kind := 2, lo := lo, hi := hi, key := k } wHandoff [Go.Lib.itoa lo, Go.Lib.itoa hi, hexS k] := by
  have hx : hexW k = hexS k := by rw [hexW, if_neg (by intro e; rw [e] at hk; cases hk)]
  refine ⟨rfl, rfl, ?_, nosp_four (words_nosp (by decide)) (itoa_nosp lo) (itoa_nosp hi) (hexS_nosp k), ?_, ?_, by decide, by simp⟩
  · rw [join4, decM_itoa l0, decM_itoa h0]; rfl
  · show handW (Go.Lib.itoa lo) (Go.Lib.itoa hi) (hexS k) = _
    rw [handW, unhex_hexS, smallW_back l0 l1, smallW_back h0 h1]
    simp only [hk, and_self, if_true]
  · show handR (Go.Lib.itoa lo) (Go.Lib.itoa hi) (hexS k) = _
    have e1 : (Go.Lib.itoa lo).length = 1 := by rw [itoa_nn l0, dec_small (by omega)]; rfl
    have e2 : (Go.Lib.itoa hi).length = 1 := by rw [itoa_nn h0, dec_small (by omega)]; rfl
    have e3 : numR (Go.Lib.itoa lo) = (lo, true) := by rw [itoa_nn l0, numR_back l0 (by omega)]
    have e4 : numR (Go.Lib.itoa hi) = (hi, true) := by rw [itoa_nn h0, numR_back h0 (by omega)]
    have e5 : bytesR (hexS k) = (k, true) := by rw [← hx, bytesR_back]
    rw [handR, e3, e4, e5]
    simp only [e1, e2, hk, and_self, if_true]
theorem who_word {w : Int} (w0 : 0 ≤ w) (w1 : w ≤ 1) : (Go.Lib.itoa w = [48] ∨ Go.Lib.itoa w = [49]) ∧ (if Go.Lib.itoa w = [48] then (0 : Int) else 1) = w := by
  have : w = 0 ∨ w = 1 := by omega
  rcases this with rfl | rfl
  · have e : Go.Lib.itoa 0 = [48] := by rw [itoa_nn (by decide)]; exact dec_small (by decide)
    rw [e]; exact ⟨.inl rfl, rfl⟩
  · have e : Go.Lib.itoa 1 = [49] := by rw [itoa_nn (by decide)]; exact dec_small (by decide)
    rw [e]; exact ⟨.inr rfl, rfl⟩
theorem good_abort {w : Int} (w0 : 0 ≤ w) (w1 : w ≤ 1) : GoodN { act0 with kind := 4, who := w } wAbort [Go.Lib.itoa w] := by
  obtain ⟨e1, e2⟩ := who_word w0 w1
  refine ⟨rfl, rfl, ?_, nosp_two (words_nosp (by decide)) (itoa_nosp w), ?_, ?_, by decide, by simp⟩
  · rw [join2, decM_itoa w0]; rfl
  · show barW 4 (Go.Lib.itoa w) = _
    rw [barW, whoW_back w0 w1]
  · show namedR wAbort (Go.Lib.itoa w) [] = _
    rw [namedR, if_pos e1]
    simp only [e2]
    rfl
theorem good_kill {w : Int} (w0 : 0 ≤ w) (w1 : w ≤ 1) : GoodN { act0 with kind := 5, who := w } wKill [Go.Lib.itoa w] := by
  obtain ⟨e1, e2⟩ := who_word w0 w1
  refine ⟨rfl, rfl, ?_, nosp_two (words_nosp (by decide)) (itoa_nosp w), ?_, ?_, by decide, by simp⟩
  · rw [join2, decM_itoa w0]; rfl
  · show barW 5 (Go.Lib.itoa w) = _
    rw [barW, whoW_back w0 w1]
  · show namedR wKill (Go.Lib.itoa w) [] = _
    rw [namedR, if_pos e1]
    simp only [e2]
    rfl
theorem good_pick {w n : Int} (w0 : 0 ≤ w) (w1 : w ≤ 1) (h0 : 0 ≤ n) (h1 : n ≤ 4611686018427387904) : GoodN { act0 with kind := 3, who := w, n := n } wPick [Go.Lib.itoa w, Go.Lib.itoa n] := by
  obtain ⟨e1, e2⟩ := who_word w0 w1
  have e4 : numR (Go.Lib.itoa n) = (n, true) := by rw [itoa_nn h0, numR_back h0 h1]
  refine ⟨rfl, rfl, ?_, nosp_three (words_nosp (by decide)) (itoa_nosp w) (itoa_nosp n), ?_, ?_, by decide, by simp⟩
  · rw [join3, decM_itoa w0, decM_itoa h0]; rfl
  · show nmbW 3 (Go.Lib.itoa w) (Go.Lib.itoa n) = _
    rw [nmbW, whoW_back w0 w1, numW_back h0 h1]
    rfl
  · show namedR wPick (Go.Lib.itoa w) [Go.Lib.itoa n] = _
    rw [namedR, if_pos e1]
    simp only [e2, e4]
    rfl
theorem good_cut {w n : Int} (w0 : 0 ≤ w) (w1 : w ≤ 1) (h0 : 0 ≤ n) (h1 : n ≤ 4611686018427387904) : GoodN { act0 with kind := 7, who := w, n := n } wCut [Go.Lib.itoa w, Go.Lib.itoa n] := by
  obtain ⟨e1, e2⟩ := who_word w0 w1
  have e4 : numR (Go.Lib.itoa n) = (n, true) := by rw [itoa_nn h0, numR_back h0 h1]
  refine ⟨rfl, rfl, ?_, nosp_three (words_nosp (by decide)) (itoa_nosp w) (itoa_nosp n), ?_, ?_, by decide, by simp⟩
  · rw [join3, decM_itoa w0, decM_itoa h0]; rfl
  · show nmbW 7 (Go.Lib.itoa w) (Go.Lib.itoa n) = _
    rw [nmbW, whoW_back w0 w1, numW_back h0 h1]
    rfl
  · show namedR wCut (Go.Lib.itoa w) [Go.Lib.itoa n] = _
    rw [namedR, if_pos e1]
    simp only [e2, e4]
    rfl
theorem good_corrupt {w n : Int} {x : UInt8} (w0 : 0 ≤ w) (w1 : w ≤ 1) (h0 : 0 ≤ n) (h1 : n ≤ 4611686018427387904) : GoodN { act0 with kind := 6, who := w, n := n, xor := x } wCorrupt [Go.Lib.itoa w, Go.Lib.itoa n, hexS [x]] := by
  obtain ⟨e1, e2⟩ := who_word w0 w1
  have e4 : numR (Go.Lib.itoa n) = (n, true) := by rw [itoa_nn h0, numR_back h0 h1]
  have e5 : bytesR (hexS [x]) = ([x], true) := by have := bytesR_back [x]; rwa [hexW, if_neg (by simp)] at this
  refine ⟨rfl, rfl, ?_, nosp_four (words_nosp (by decide)) (itoa_nosp w) (itoa_nosp n) (hexS_nosp _), ?_, ?_, by decide, by simp⟩
  · rw [join4, decM_itoa w0, decM_itoa h0]; rfl
  · show corW (Go.Lib.itoa w) (Go.Lib.itoa n) (hexS [x]) = _
    rw [corW, unhex_hexS, whoW_back w0 w1, numW_back h0 h1]
    rfl
  · show namedR wCorrupt (Go.Lib.itoa w) [Go.Lib.itoa n, hexS [x]] = _
    rw [namedR, if_pos e1]
    simp only [e2, e4, e5]
    rfl
end Go.Proofs.YtcbdghgogmcllaaGreatDoor
end
section
namespace Go.Proofs.YtcbdghgogmcllaaGreatDoor
open Go Go.Sy
theorem fmtE_nosp {six : Bool} {A : List UInt8} {p : Nat} (hok : okA six A = true) (h1 : 1 ≤ p) (h2 : p ≤ 65535) : NoSp (fmtE six A p) := by
  have e : fmtE six A p = brk six (fmtA six A) ++ 58 :: Go.Lib.decDigits p := by rw [fmtE, if_pos ⟨hok, by omega, by omega⟩]; rfl
  have k : ∀ c : UInt8, 46 ≤ c.toNat → c ≠ 32 ∧ c ≠ 10 := fun c hc => by
    constructor <;> (rintro rfl; revert hc; decide)
  rw [e]
  intro c hc
  rcases List.mem_append.1 hc with hc | hc
  · cases six with
    | true =>
      have hc : c ∈ 91 :: (fmtA true A ++ [93]) := hc
      simp only [List.mem_cons, List.mem_append, List.mem_singleton, List.not_mem_nil, or_false] at hc
      rcases hc with rfl | hc | rfl
      · decide
      · exact k c (by have := fmtA_mem hc; omega)
      · decide
    | false => exact k c (by have := fmtA_mem (six := false) (A := A) hc; omega)
  · rcases List.mem_cons.1 hc with rfl | hc
    · decide
    · exact k c (by have := dec_mem hc; omega)
theorem good_dgram {six : Bool} {A : List UInt8} {n : Nat} {l : List UInt8} (hA : A.length = 16) (ok : okA six A = true) (h1 : 1 ≤ n) (h2 : n ≤ 65535) : GoodN (evA { ev0 with kind := 2, six := six, ip := A, port := (n : Int), bytes := l }) wDatagram [fmtE six A n, hexW l] := by
  have hp := parseE_back hA ok h1 h2
  refine ⟨rfl, rfl, ?_, nosp_three (words_nosp (by decide)) (fmtE_nosp ok h1 h2) (hexW_nosp l), ?_, ?_, by decide, by simp⟩
  · rw [join3]; rfl
  · show dgW (fmtE six A n) (hexW l) = _
    rw [dgW, hp, unhexW_back]
  · show dgR (fmtE six A n) (hexW l) = _
    rw [dgR, hp, bytesR_back]
    simp only [beq_self_eq_true, Bool.and_self]
theorem norm_cases {b : Ac} (h : Norm b) : (∃ t, prS t = true ∧ b = evA { ev0 with kind := 5, text := t }) ∨ ∃ w ws, GoodN b w ws := by
  cases h with
  | plain l => exact .inr ⟨_, _, good_plain l⟩
  | dgram six A n l hA ok h1 h2 => exact .inr ⟨_, _, good_dgram hA ok h1 h2⟩
  | tick n h0 h1 => exact .inr ⟨_, _, good_tick h0 h1⟩
  | entropy l => exact .inr ⟨_, _, good_entropy l⟩
  | control t h => exact .inl ⟨t, h, rfl⟩
  | handoff lo hi k l0 l1 h0 h1 hk => exact .inr ⟨_, _, good_handoff l0 l1 h0 h1 hk⟩
  | pick w n w0 w1 h0 h1 => exact .inr ⟨_, _, good_pick w0 w1 h0 h1⟩
  | abort w w0 w1 => exact .inr ⟨_, _, good_abort w0 w1⟩
  | kill w w0 w1 => exact .inr ⟨_, _, good_kill w0 w1⟩
  | corrupt w n x w0 w1 h0 h1 => exact .inr ⟨_, _, good_corrupt w0 w1 h0 h1⟩
  | cut w n w0 w1 h0 h1 => exact .inr ⟨_, _, good_cut w0 w1 h0 h1⟩
theorem nc_words {w : List UInt8} (h : w ∈ [wPlain, wDatagram, wTick, wEntropy, wHandoff, wPick, wCut, wAbort, wKill, wCorrupt]) (r : List UInt8) : (w ++ 32 :: r).take 8 ≠ sCtl ∧ Go.Lib.hasPrefix (w ++ 32 :: r) sCtl = false ∧ w ≠ wControl ∧ w ≠ [] := by
  simp only [List.mem_cons, List.mem_nil_iff, or_false] at h
  rcases h with rfl | rfl | rfl | rfl | rfl | rfl | rfl | rfl | rfl | rfl
  all_goals
    refine ⟨fun e => ?_, rfl, by decide, by decide⟩
    have := congrArg (fun l => (l[0]?, l[1]?, l[2]?)) e
    revert this
    simp [wPlain, wDatagram, wTick, wEntropy, wHandoff, wPick, wCut, wAbort, wKill, wCorrupt, sCtl]
section
variable {b : Ac} {w : List UInt8} {ws : List (List UInt8)}
theorem GoodN.form (h : GoodN b w ws) : ∃ r, Go.Lib.join (w :: ws) [32] = w ++ 32 :: r := by
  obtain ⟨x, l, rfl⟩ := List.exists_cons_of_ne_nil h.ne
  exact ⟨_, by rw [Go.Lib.join_cons]; simp [Go.Lib.joinTail]; rfl⟩
theorem GoodN.line (h : GoodN b w ws) : lineS b = textR b ++ [10] := by
  have := nc_words h.nc []
  rw [lineS, h.name, if_neg this.2.2.1, if_neg this.2.2.2, h.words, h.text]
theorem GoodN.split (h : GoodN b w ws) : splitL 32 (textR b) = w :: ws := by
  rw [h.text]
  exact splitL_join 32 ws w fun y hy e => (h.nosp y hy 32 e).1 rfl
theorem GoodN.back (h : GoodN b w ws) : lineR (textR b) = (b, true) := by
  obtain ⟨r, hr⟩ := h.form
  rw [lineR, if_neg, h.split, h.rr]
  rw [h.text, hr]
  exact (nc_words h.nc r).1
end
end Go.Proofs.YtcbdghgogmcllaaGreatDoor
end
section
namespace Go.Proofs.YtcbdghgogmcllaaGreatDoor
open Go Go.Sy
theorem trim_end (x : List UInt8) : Go.Lib.trimSuffix (x ++ [10]) [10] = x := by
  have h : Go.Lib.hasSuffix (x ++ [10]) [10] = true := by
    rw [Go.Lib.hasSuffix, List.isSuffixOf_iff_suffix]
    exact List.suffix_append _ _
  rw [Go.Lib.trimSuffix, if_pos h]
  simp
theorem trim_pre (p x : List UInt8) : Go.Lib.trimPrefix (p ++ x) p = x := by
  have h : Go.Lib.hasPrefix (p ++ x) p = true := by
    rw [Go.Lib.hasPrefix, List.isPrefixOf_iff_prefix]
    exact List.prefix_append _ _
  rw [Go.Lib.trimPrefix, if_pos h]
  simp
theorem pre_app (p x : List UInt8) : Go.Lib.hasPrefix (p ++ x) p = true := by
  rw [Go.Lib.hasPrefix, List.isPrefixOf_iff_prefix]
  exact List.prefix_append _ _
theorem GoodN.wds {b : Ac} {w : List UInt8} {ws : List (List UInt8)} (h : GoodN b w ws) : wdsS (lineS b) = w :: ws := by rw [wdsS, h.line, trim_end, h.split]
theorem GoodN.parse {b : Ac} {w : List UInt8} {ws : List (List UInt8)} (h : GoodN b w ws) : parseS (lineS b) = (b, true) := by
  obtain ⟨r, hr⟩ := h.form
  have hp : Go.Lib.hasPrefix (lineS b) sCtl = false := by
    rw [h.line, h.text, hr, List.append_assoc, List.cons_append]
    exact (nc_words h.nc _).2.1
  rw [parseS, hp, h.wds, h.rd]
  simp
theorem ctl_line (t : List UInt8) : lineS (evA { ev0 with kind := 5, text := t }) = sCtl ++ (t ++ [10]) := by
  show wControl ++ [32] ++ t ++ [10] = _
  simp [wControl, sCtl]
theorem ctl_text (t : List UInt8) : textR (evA { ev0 with kind := 5, text := t }) = sCtl ++ t := by
  show wControl ++ [32] ++ t = _
  simp [wControl, sCtl]
theorem ctl_parse {t : List UInt8} (h : prS t = true) : parseS (lineS (evA { ev0 with kind := 5, text := t })) = (evA { ev0 with kind := 5, text := t }, true) := by
  have e : ctlT (lineS (evA { ev0 with kind := 5, text := t })) = t := by rw [ctlT, ctl_line, trim_pre, trim_end]
  have hp : Go.Lib.hasPrefix (lineS (evA { ev0 with kind := 5, text := t })) sCtl = true := by rw [ctl_line]; exact pre_app _ _
  have hw : ctlW (lineS (evA { ev0 with kind := 5, text := t })) = evA { ev0 with kind := 5, text := t } := by rw [ctlW, e]
  rw [parseS, if_pos hp, hw, e, h]
  simp
theorem ctl_back {t : List UInt8} (h : prS t = true) : lineR (textR (evA { ev0 with kind := 5, text := t })) = (evA { ev0 with kind := 5, text := t }, true) := by
  have e1 : (sCtl ++ t).take 8 = sCtl := List.take_left' rfl
  have e2 : (sCtl ++ t).drop 8 = t := List.drop_left' rfl
  rw [ctl_text, lineR, if_pos e1, e2, ctlR, if_pos h]
theorem norm_parse {b : Ac} (h : Norm b) : parseS (lineS b) = (b, true) := by
  rcases norm_cases h with ⟨t, ht, rfl⟩ | ⟨w, ws, hg⟩
  · exact ctl_parse ht
  · exact hg.parse
theorem norm_back {b : Ac} (h : Norm b) : lineR (textR b) = (b, true) := by
  rcases norm_cases h with ⟨t, ht, rfl⟩ | ⟨w, ws, hg⟩
  · exact ctl_back ht
  · exact hg.back
theorem norm_line {b : Ac} (h : Norm b) : lineS b = textR b ++ [10] := by
  rcases norm_cases h with ⟨t, ht, rfl⟩ | ⟨w, ws, hg⟩
  · rw [ctl_line, ctl_text, List.append_assoc]
  · exact hg.line
theorem fmtE_nosp2 (six : Bool) (A : List UInt8) (p : Nat) : NoSp (fmtE six A p) := by
  by_cases h : okA six A = true ∧ 1 ≤ p ∧ p ≤ 65535
  · exact fmtE_nosp h.1 h.2.1 h.2.2
  · have e : fmtE six A p = [] := by
      rw [fmtE, if_neg]
      rintro ⟨h1, h2, h3⟩
      exact h ⟨h1, by omega, by omega⟩
    rw [e]
    intro c hc
    cases hc
theorem parseE_nil : parseE [] = none := by decide +kernel
theorem fmtE_ok {six : Bool} {A : List UInt8} {p : Nat} (h : parseE (fmtE six A p) = some (six, A, p)) : A.length = 16 ∧ okA six A = true ∧ 1 ≤ p ∧ p ≤ 65535 := by
  refine ⟨parseE_ip h, ?_⟩
  by_cases hk : okA six A = true ∧ 1 ≤ p ∧ p ≤ 65535
  · exact hk
  · have e : fmtE six A p = [] := by
      rw [fmtE, if_neg]
      rintro ⟨h1, h2, h3⟩
      exact hk ⟨h1, by omega, by omega⟩
    rw [e, parseE_nil] at h
    cases h
end Go.Proofs.YtcbdghgogmcllaaGreatDoor
end
section
namespace Go.Proofs.YtcbdghgogmcllaaGreatDoor
open Go Go.Sy
theorem pair_eq {α β : Type} {a a' : α} {b b' : β} (h : (a, b) = (a', b')) : a = a' ∧ b = b' := by cases h; exact ⟨rfl, rfl⟩
theorem parse_norm {s : List UInt8} {b : Ac} (h : parseS s = (b, true)) : Norm b ∧ s = lineS b := by
  unfold parseS at h
  split at h
  · obtain ⟨h1, h2⟩ := pair_eq h
    rw [Bool.and_eq_true, beq_iff_eq] at h2
    subst h1
    exact ⟨.control _ h2.1, h2.2.symm⟩
  · obtain ⟨h1, h2⟩ := pair_eq h
    rw [Bool.and_eq_true, beq_iff_eq] at h2
    obtain ⟨h3, h4⟩ := h2
    have hr : readW (wdsS s) = (b, true) := Prod.ext h1 h3
    rw [h1] at h4
    refine ⟨?_, h4.symm⟩
    rw [← h4] at hr
    clear h h1 h3 h4
    unfold readW at hr
    split at hr
    · rename_i x0 x1 hw
      split at hr
      · obtain ⟨rfl, _⟩ := pair_eq hr; exact .plain _
      split at hr
      · obtain ⟨e1, e2⟩ := pair_eq hr
        have := numW_ok (s := x1) (n := (numW x1).1) (Prod.ext rfl e2)
        rw [← e1]; exact .tick _ this.1 this.2
      split at hr
      · obtain ⟨rfl, _⟩ := pair_eq hr; exact .entropy _
      split at hr
      · obtain ⟨e1, e2⟩ := pair_eq hr
        have := whoW_ok (s := x1) (n := (whoW x1).1) (Prod.ext rfl e2)
        rw [← e1]; exact .abort _ this.1 this.2
      split at hr
      · obtain ⟨e1, e2⟩ := pair_eq hr
        have := whoW_ok (s := x1) (n := (whoW x1).1) (Prod.ext rfl e2)
        rw [← e1]; exact .kill _ this.1 this.2
      · cases hr
    · rename_i x0 x1 x2 hw
      split at hr
      · rename_i hx
        subst hx
        unfold dgW at hr
        split at hr
        · rename_i six A n he
          obtain ⟨e1, _⟩ := pair_eq hr
          have hl : lineS b = Go.Lib.join (wDatagram :: [fmtE six A n, hexW (unhexW x2).1]) [32] ++ [10] := by rw [← e1]; rfl
          rw [hl, wdsS, trim_end, splitL_join 32 _ _ (fun y hy e => (nosp_three (words_nosp (by decide)) (fmtE_nosp2 six A n) (hexW_nosp _) y hy 32 e).1 rfl)] at hw
          injection hw with _ hw
          injection hw with hx1 _
          rw [← hx1] at he
          obtain ⟨k1, k2, k3, k4⟩ := fmtE_ok he
          rw [← e1]
          exact .dgram six A n _ k1 k2 k3 k4
        · cases hr
      split at hr
      · obtain ⟨e1, e2⟩ := pair_eq hr
        rw [Bool.and_eq_true] at e2
        have k1 := whoW_ok (s := x1) (n := (whoW x1).1) (Prod.ext rfl e2.1)
        have k2 := numW_ok (s := x2) (n := (numW x2).1) (Prod.ext rfl e2.2)
        rw [← e1]; exact .pick _ _ k1.1 k1.2 k2.1 k2.2
      split at hr
      · obtain ⟨e1, e2⟩ := pair_eq hr
        rw [Bool.and_eq_true] at e2
        have k1 := whoW_ok (s := x1) (n := (whoW x1).1) (Prod.ext rfl e2.1)
        have k2 := numW_ok (s := x2) (n := (numW x2).1) (Prod.ext rfl e2.2)
        rw [← e1]; exact .cut _ _ k1.1 k1.2 k2.1 k2.2
      · cases hr
    · rename_i x0 x1 x2 x3 hw
      split at hr
      · unfold handW at hr
        split at hr
        · split at hr
          · rename_i hh
            obtain ⟨e1, _⟩ := pair_eq hr
            have k1 := smallW_ok (s := x1) (n := (smallW x1).1) (Prod.ext rfl hh.1)
            have k2 := smallW_ok (s := x2) (n := (smallW x2).1) (Prod.ext rfl hh.2.1)
            rw [← e1]; exact .handoff _ _ _ k1.1 k1.2 k2.1 k2.2 hh.2.2
          · cases hr
        · cases hr
      split at hr
      · unfold corW at hr
        split at hr
        · split at hr
          · rename_i hh
            obtain ⟨e1, _⟩ := pair_eq hr
            have k1 := whoW_ok (s := x1) (n := (whoW x1).1) (Prod.ext rfl hh.1)
            have k2 := numW_ok (s := x2) (n := (numW x2).1) (Prod.ext rfl hh.2)
            rw [← e1]; exact .corrupt _ _ _ k1.1 k1.2 k2.1 k2.2
          · cases hr
        · cases hr
      · cases hr
    · cases hr
theorem join_splitL (c : UInt8) : ∀ s : List UInt8, Go.Lib.join (splitL c s) [c] = s
  | [] => rfl
  | d :: s => by
    have ih := join_splitL c s
    obtain ⟨x, xs, h⟩ := List.exists_cons_of_ne_nil (splitL_ne c s)
    by_cases hd : d = c
    · rw [splitL, if_pos hd, h]
      rw [h] at ih
      rw [Go.Lib.join_cons] at ih ⊢
      rw [hd]
      simp only [Go.Lib.joinTail, List.map_cons, List.flatten_cons] at ih ⊢
      simpa using ih
    · rw [splitL_cons h hd]
      rw [h] at ih
      rw [Go.Lib.join_cons] at ih ⊢
      rw [List.cons_append, ih]
theorem hexS_W {k : List UInt8} {x : List UInt8} (h : hexW k = x) (h0 : k ≠ []) : hexS k = x := by rw [← h, hexW, if_neg h0]
theorem who_dec {x1 : List UInt8} (hx : x1 = [48] ∨ x1 = [49]) : 0 ≤ (if x1 = [48] then (0 : Int) else 1) ∧ (if x1 = [48] then (0 : Int) else 1) ≤ 1 ∧ Go.Lib.itoa (if x1 = [48] then (0 : Int) else 1) = x1 := by
  rcases hx with rfl | rfl
  · exact ⟨by decide, by decide, by rw [if_pos rfl, itoa_nn (by decide)]; exact dec_small (by decide)⟩
  · exact ⟨by decide, by decide, by rw [if_neg (by decide), itoa_nn (by decide)]; exact dec_small (by decide)⟩
theorem words_norm {w : List (List UInt8)} {b : Ac} (h : wordsR w = (b, true)) : Norm b ∧ ∃ n ws, GoodN b n ws ∧ w = n :: ws := by
  unfold wordsR at h
  split at h
  · rename_i x0 x1 tl
    split at h
    · unfold evR at h
      split at h
      · split at h
        · rename_i hx; subst hx
          obtain ⟨e1, e2⟩ := pair_eq h
          have k := bytesR_ok (s := x1) (l := (bytesR x1).1) (Prod.ext rfl e2)
          rw [← e1]; exact ⟨.plain _, _, _, good_plain _, by rw [k]⟩
        split at h
        · rename_i hx; subst hx
          obtain ⟨e1, e2⟩ := pair_eq h
          have k := numR_eq (s := x1) (n := (numR x1).1) (Prod.ext rfl e2)
          rw [← e1]; exact ⟨.tick _ k.1 k.2.1, _, _, good_tick k.1 k.2.1, by rw [decM_itoa k.1, k.2.2]⟩
        split at h
        · rename_i hx; subst hx
          obtain ⟨e1, e2⟩ := pair_eq h
          have k := bytesR_ok (s := x1) (l := (bytesR x1).1) (Prod.ext rfl e2)
          rw [← e1]; exact ⟨.entropy _, _, _, good_entropy _, by rw [k]⟩
        · cases h
      · split at h
        · rename_i x2 hx; subst hx
          unfold dgR at h
          split at h
          · rename_i six A n he
            obtain ⟨e1, e2⟩ := pair_eq h
            rw [Bool.and_eq_true, beq_iff_eq] at e2
            have k := bytesR_ok (s := x2) (l := (bytesR x2).1) (Prod.ext rfl e2.1)
            rw [← e2.2] at he
            obtain ⟨k1, k2, k3, k4⟩ := fmtE_ok he
            rw [← e1]; exact ⟨.dgram six A n _ k1 k2 k3 k4, _, _, good_dgram k1 k2 k3 k4, by rw [k, e2.2]⟩
          · cases h
        · cases h
      · cases h
    split at h
    · rename_i hx; subst hx
      unfold handX at h
      split at h
      · rename_i x2 x3
        unfold handR at h
        split at h
        · rename_i hh
          obtain ⟨g1, g2, g3, g4, g5, g6⟩ := hh
          obtain ⟨e1, _⟩ := pair_eq h
          have k1 := numR_eq (s := x1) (n := (numR x1).1) (Prod.ext rfl g3)
          have k2 := numR_eq (s := x2) (n := (numR x2).1) (Prod.ext rfl g4)
          have k3 := bytesR_ok (s := x3) (l := (bytesR x3).1) (Prod.ext rfl g5)
          have d1 : (numR x1).1 ≤ 9 := by
            have := dec_one_len (n := (numR x1).1.toNat) (by rw [← decM_nn k1.1, k1.2.2]; exact g1)
            omega
          have d2 : (numR x2).1 ≤ 9 := by
            have := dec_one_len (n := (numR x2).1.toNat) (by rw [← decM_nn k2.1, k2.2.2]; exact g2)
            omega
          have k4 := hexS_W k3 (fun e => by rw [e] at g6; cases g6)
          rw [← e1]; exact ⟨.handoff _ _ _ k1.1 d1 k2.1 d2 g6, _, _, good_handoff k1.1 d1 k2.1 d2 g6, by rw [decM_itoa k1.1, decM_itoa k2.1, k1.2.2, k2.2.2, k4]⟩
        · cases h
      · cases h
    · unfold namedR at h
      split at h
      · rename_i hx
        obtain ⟨w0, w1, w2⟩ := who_dec hx
        split at h
        · split at h
          · rename_i hx; subst hx
            obtain ⟨e1, _⟩ := pair_eq h
            rw [← e1]; exact ⟨.abort _ w0 w1, _, _, good_abort w0 w1, by rw [w2]⟩
          split at h
          · rename_i hx; subst hx
            obtain ⟨e1, _⟩ := pair_eq h
            rw [← e1]; exact ⟨.kill _ w0 w1, _, _, good_kill w0 w1, by rw [w2]⟩
          · cases h
        · rename_i x2
          split at h
          · rename_i hx; subst hx
            obtain ⟨e1, e2⟩ := pair_eq h
            have k := numR_eq (s := x2) (n := (numR x2).1) (Prod.ext rfl e2)
            rw [← e1]; exact ⟨.pick _ _ w0 w1 k.1 k.2.1, _, _, good_pick w0 w1 k.1 k.2.1, by rw [w2, decM_itoa k.1, k.2.2]⟩
          split at h
          · rename_i hx; subst hx
            obtain ⟨e1, e2⟩ := pair_eq h
            have k := numR_eq (s := x2) (n := (numR x2).1) (Prod.ext rfl e2)
            rw [← e1]; exact ⟨.cut _ _ w0 w1 k.1 k.2.1, _, _, good_cut w0 w1 k.1 k.2.1, by rw [w2, decM_itoa k.1, k.2.2]⟩
          · cases h
        · rename_i x2 x3
          split at h
          · rename_i hh
            obtain ⟨hx, g1, g2⟩ := hh
            subst hx
            obtain ⟨e1, e2⟩ := pair_eq h
            have k := numR_eq (s := x2) (n := (numR x2).1) (Prod.ext rfl e2)
            have k3 := bytesR_ok (s := x3) (l := (bytesR x3).1) (Prod.ext rfl g1)
            obtain ⟨c, hc⟩ : ∃ c, (bytesR x3).1 = [c] := by
              match (bytesR x3).1, g2 with
              | [c], _ => exact ⟨c, rfl⟩
            rw [hc] at k3 e1
            have k4 := hexS_W k3 (by simp)
            rw [← e1]; exact ⟨.corrupt _ _ _ w0 w1 k.1 k.2.1, _, _, good_corrupt (x := c) w0 w1 k.1 k.2.1, by rw [w2, decM_itoa k.1, k.2.2, k4]⟩
          · cases h
        · cases h
      · cases h
  · cases h
theorem line_norm {s : List UInt8} {b : Ac} (h : lineR s = (b, true)) : Norm b ∧ s = textR b := by
  unfold lineR at h
  split at h
  · rename_i hp
    unfold ctlR at h
    split at h
    · rename_i hc
      obtain ⟨e1, _⟩ := pair_eq h
      rw [← e1]
      refine ⟨.control _ hc, ?_⟩
      rw [ctl_text, ← hp, List.take_append_drop]
    · cases h
  · obtain ⟨h1, n, ws, hg, hw⟩ := words_norm h
    refine ⟨h1, ?_⟩
    rw [hg.text, ← hw, join_splitL]
theorem good_norm {a : Ac} : goodA a = true ↔ Norm a := by
  constructor
  · intro h
    rw [goodA, Bool.and_eq_true, sameA_iff] at h
    have := (parse_norm (Prod.ext (x := parseS (lineS a)) rfl h.1 : parseS (lineS a) = ((parseS (lineS a)).1, true))).1
    rwa [h.2] at this
  · intro h
    rw [goodA, norm_parse h]
    simp only [Bool.true_and]
    exact sameA_iff.2 rfl
theorem goodR_norm {a : Ac} : goodR a = true ↔ Norm a := by
  constructor
  · intro h
    rw [goodR, Bool.and_eq_true, sameA_iff] at h
    have := (line_norm (Prod.ext (x := lineR (textR a)) rfl h.1 : lineR (textR a) = ((lineR (textR a)).1, true))).1
    rwa [← h.2] at this
  · intro h
    rw [goodR, norm_back h]
    simp only [Bool.true_and]
    exact sameA_iff.2 rfl
theorem fmt_eq (l : List Ac) : fmtV l = fmtR l := by
  have h : l.all goodA = l.all goodR := by
    congr 1
    funext a
    exact Bool.eq_iff_iff.2 (good_norm.trans goodR_norm.symm)
  rw [fmtV, fmtR, h]
  split
  · rfl
  · split
    · rename_i hh
      have : catS l = catR l := by
        rw [catS, catR]
        congr 1
        exact List.map_congr_left fun a ha => norm_line (goodR_norm.1 (List.all_eq_true.1 hh a ha))
      rw [this]
    · rfl
end Go.Proofs.YtcbdghgogmcllaaGreatDoor
end
section
namespace Go.Sy
theorem acall_let0 {P : Program} {f : FuncId} {args : List CV} {B : List Box} {Q' : CV → Prop} (hm : MLow B) (h : ACall P f args B fun c B1 => ∃ (G : List Box) (c' : CV), B1 = B ++ G ∧ fz true false (List.replicate B.length ⟨[], true⟩ ++ G) 6 c = some c' ∧ Q' c') :
    ACall P f args B fun c B' => Q' c ∧ B' = B := by
  refine acall_drop h fun c B1 ⟨G, c', hB, hz, hq⟩ => ⟨c', ?_, ?_, hq, ?_⟩
  · rw [hB]
    refine ⟨by simp, fun k box hk hb => ?_⟩
    rw [List.getElem?_append_left hk] at hb
    cases hmu : box.multi with
    | true => exact .inl (hm k box hb hmu)
    | false => exact .inr ⟨hb, rfl⟩
  · rw [hB]
    have : hide B.length (B ++ G) = List.replicate B.length ⟨[], true⟩ ++ G := by
      rw [hide, List.drop_left' rfl, Nat.min_eq_left (by simp)]
    rw [this]; exact hz
  · rw [hB, List.take_left' rfl]
end Go.Sy
namespace Go.Proofs.YtcbdghgogmcllaaGreatDoor
open Go Go.Sy
theorem kE_MB0 {α : Type} {x y : α} (h : Is x y := by first | ((try simp (disch := first | omega | (simp only [yZ, yB] <;> omega) | fail) [go_sem, yY, *, bx_get0, bx_get, bx_set0, bx_set, if_pos, if_neg, -List.map_take, -List.map_drop, -List.map_append, -List.map_reverse]); exact rfl) | fail) : Is x y := h
theorem kD_MB0 {p : Prop} (h : p := by (first | omega | assumption | exact rfl | ((simp (disch := first | omega | (simp only [yZ, yB] <;> omega) | fail) [go_sem, yY, *, bx_get0, bx_get, bx_set0, bx_set, -List.map_take, -List.map_drop, -List.map_append, -List.map_reverse]) <;> (first | done | omega | exact rfl)) | fail)) : p := h
theorem kE_MB1 {α : Type} {x y : α} (h : Is x y := by first | ((try simp (disch := first | omega | (simp only [yZ, yB] <;> omega) | fail) [go_sem, yY, *, addrC, if_pos, if_neg, -List.map_take, -List.map_drop, -List.map_append, -List.map_reverse]); exact rfl) | fail) : Is x y := h
theorem kD_MB1 {p : Prop} (h : p := by (first | omega | assumption | exact rfl | ((simp (disch := first | omega | (simp only [yZ, yB] <;> omega) | fail) [go_sem, yY, *, addrC, -List.map_take, -List.map_drop, -List.map_append, -List.map_reverse]) <;> (first | done | omega | exact rfl)) | fail)) : p := h
theorem wB_MB0 {p q : Prop} (k : q) (h : Hq q → p := by (intro k; (repeat' (first | (with_reducible first | apply jA | apply jB | apply jC | apply jD | apply jE | apply jF | apply jG | apply jH | apply jI | apply jJ | apply jK | apply jL | apply jM | apply jN | apply jO) | ((with_reducible first | apply jP | apply jQ); rfl) | ((first | ((with_reducible first | apply jR | apply jS | apply jT); rfl; rfl) | (with_reducible first | apply jU | apply jV | apply jW) | ((with_reducible first | apply jX | apply jY | apply jZ); rfl) | ((with_reducible first | apply kA | apply kB | apply kC); rfl)); all_goals (first | ((with_reducible show Is _ _); exact kE_MB0) | ((with_reducible refine fun (hc : (_ : Bool) = _) => ?_); (try simp only [xZ, xY, xP, reduceCtorEq] at hc); (try (have hx : True := hc; clear hx hc)); (try exact kX)) | ((with_reducible show ACall _ _ _ _ _); (first | ((with_reducible apply c0) <;> exact kD_MB0) | ((with_reducible apply c1) <;> exact kD_MB0) | ((with_reducible apply c2) <;> exact kD_MB0) | ((with_reducible apply c3) <;> exact kD_MB0) | ((with_reducible apply c4) <;> exact kD_MB0) | ((with_reducible apply c5) <;> exact kD_MB0) | ((with_reducible apply c6) <;> exact kD_MB0) | ((with_reducible apply c7) <;> exact kD_MB0))) | ((fail_if_success (with_reducible first | show Is _ _ | show ACall _ _ _ _ _)); (try ((with_reducible show _ ∨ _); exact kT))))) | (((with_reducible first | apply o_callQ | apply q_callQ); rfl); (iterate 2 exact kE_MB0); (first | ((with_reducible apply q0) <;> exact kD_MB0))))); exact hq k)) : p := h ⟨k⟩
theorem wB_MB1 {p q : Prop} (k : q) (h : Hq q → p := by (intro k; (repeat' (first | (with_reducible first | apply jA | apply jB | apply jC | apply jD | apply jE | apply jF | apply jG | apply jH | apply jI | apply jJ | apply jK | apply jL | apply jM | apply jN | apply jO) | ((with_reducible first | apply jP | apply jQ); rfl) | ((first | ((with_reducible first | apply jR | apply jS | apply jT); rfl; rfl) | (with_reducible first | apply jU | apply jV | apply jW) | ((with_reducible first | apply jX | apply jY | apply jZ); rfl) | ((with_reducible first | apply kA | apply kB | apply kC); rfl)); all_goals (first | ((with_reducible show Is _ _); exact kE_MB1) | ((with_reducible refine fun (hc : (_ : Bool) = _) => ?_); (try simp only [xZ, xY, xP, reduceCtorEq] at hc); (try (have hx : True := hc; clear hx hc)); (try exact kX)) | ((with_reducible show ACall _ _ _ _ _); (first | ((with_reducible apply c0) <;> exact kD_MB1) | ((with_reducible apply c1) <;> exact kD_MB1) | ((with_reducible apply c2) <;> exact kD_MB1) | ((with_reducible apply c3) <;> exact kD_MB1) | ((with_reducible apply c4) <;> exact kD_MB1) | ((with_reducible apply c5) <;> exact kD_MB1) | ((with_reducible apply c6) <;> exact kD_MB1) | ((with_reducible apply c7) <;> exact kD_MB1))) | ((fail_if_success (with_reducible first | show Is _ _ | show ACall _ _ _ _ _)); (try ((with_reducible show _ ∨ _); exact kT))))) | (((with_reducible first | apply o_callQ | apply q_callQ); rfl); (iterate 2 exact kE_MB1); (first | ((with_reducible apply q0) <;> exact kD_MB1))))); exact hq k)) : p := h ⟨k⟩
theorem w_MB00 {p q : Prop}  (k : q) (h : Hq q → p := by (intro  k; exact wB_MB0 (hq k))) : p := h  ⟨k⟩
theorem w_MB01q {A0 A1 p q : Prop} (c0 : A0) (q0 : A1) (k : q) (h : A0 → A1 → Hq q → p := by (intro c0 q0 k; exact wB_MB0 (hq k))) : p := h c0 q0 ⟨k⟩
theorem w_MB02 {A0 A1 p q : Prop} (c0 : A0) (c1 : A1) (k : q) (h : A0 → A1 → Hq q → p := by (intro c0 c1 k; exact wB_MB0 (hq k))) : p := h c0 c1 ⟨k⟩
theorem w_MB03 {A0 A1 A2 p q : Prop} (c0 : A0) (c1 : A1) (c2 : A2) (k : q) (h : A0 → A1 → A2 → Hq q → p := by (intro c0 c1 c2 k; exact wB_MB0 (hq k))) : p := h c0 c1 c2 ⟨k⟩
theorem w_MB05 {A0 A1 A2 A3 A4 p q : Prop} (c0 : A0) (c1 : A1) (c2 : A2) (c3 : A3) (c4 : A4) (k : q) (h : A0 → A1 → A2 → A3 → A4 → Hq q → p := by (intro c0 c1 c2 c3 c4 k; exact wB_MB0 (hq k))) : p := h c0 c1 c2 c3 c4 ⟨k⟩
theorem w_MB18 {A0 A1 A2 A3 A4 A5 A6 A7 p q : Prop} (c0 : A0) (c1 : A1) (c2 : A2) (c3 : A3) (c4 : A4) (c5 : A5) (c6 : A6) (c7 : A7) (k : q) (h : A0 → A1 → A2 → A3 → A4 → A5 → A6 → A7 → Hq q → p := by (intro c0 c1 c2 c3 c4 c5 c6 c7 k; exact wB_MB1 (hq k))) : p := h c0 c1 c2 c3 c4 c5 c6 c7 ⟨k⟩
structure DmP (D : List CV) (now : Int) : Prop where
  len : D.length = 148
  all : D.take 148 = D
  d107 : D.drop 107 = .int .i64 now :: D.drop 108
  d108 : D.drop 108 = .nilS :: D.drop 109
theorem sessions_at {B : List Box} {args D : List CV} {now : Int} (ha : Is args [.agg D]) (hD : DmP D now) (hm : MLow B) : ACall Tryz.prog 130 args B fun c B' => c = .lst 0 [] false ∧ B' = B := by
  obtain rfl := ha
  obtain ⟨d1, d2, d3, d4⟩ := hD
  refine acall_let0 (Q' := fun c => c = .lst 0 [] false) hm ?_
  refine acall_intro mixed Tryz.func130 rfl ca130 (by kernel_rfl) (by rw [Tryz.ntmps130]; simp) ?_
  refine w_MB00 ?_ 
  refine w_loop (fun fr B1 => fr 11 = .int .i64 0 ∧ fr 10 = .int .i64 0 ∧ fr 3 = .nilS ∧ B1 = B ++ [⟨D, false⟩]) (fun fr _ => 0) ?_ ?_
  · exact ⟨kS, kS, kS, rfl⟩
  rintro fr B1 ⟨f11, f10, f3, rfl⟩
  refine w_MB00 ?_ 
  exact ⟨_, _, rfl, rfl, rfl⟩
def atA (i : Nat) : List UInt8 := [192, 0, 2, UInt8.ofNat (i + 1)] ++ z12
theorem at_in (i : Nat) (hi : i < 100) : PC Tryz.prog true 131 [.int .i64 i] (.agg (.bool false :: ((atA i).map byteC ++ [.int .i64 (1000 + i)]))) := by
  have e : byteC (UInt8.ofNat (i + 1)) = .int .u8 (IntKind.u8.wrap (i + 1)) := by rw [byte_wrap]; push_cast; rfl
  have e2 : (IntKind.u8.wrap (i + 1)) = i + 1 := by rw [IntKind.wrap_u8]; omega
  rw [e2] at e
  refine acall_intro mixed Tryz.func131 rfl ca131 (by kernel_rfl) (by rw [Tryz.ntmps131]; simp) ?_
  refine w0 ?_ 
  simp only [atA, List.map_append, List.map_cons, e]
  rfl
theorem at_at {B : List Box} {args : List CV} {i : Nat} (h : Is args [.int .i64 i]) (hi : i < 100) : ACall Tryz.prog 131 args B fun c B' => c = .agg (.bool false :: ((atA i).map byteC ++ [.int .i64 (1000 + i)])) ∧ B' = B := by
  obtain rfl := h
  exact acall_fresh (nz := true) (by simp [go_sem]) (at_in i hi)
structure EvG (e : Ev) : Prop where
  bytes : e.bytes.length ≤ 200
  text : e.text.length ≤ 200
  ip : e.ip.length = 16
  norm : Norm (evA e) ∨ ∃ n : Int, -1000 ≤ n ∧ n < 0 ∧ e = { ev0 with kind := 3, time := n }
theorem evfz {W : List Box} {cs : List CV} {v : CV} {e : Ev} (hc : cs = .int .i64 e.kind :: .bool e.six :: (e.ip.map byteC ++ [.int .i64 e.port, v, .int .i64 e.time, .str e.text])) (hv : fz true false W 5 v = some (.lst e.bytes.length (e.bytes.map byteC) false)) : fz true false W 6 (.agg cs) = some (.agg (evC e)) := by
  rw [hc, fz_agg]
  simp [evC, omap_app, omap_two, omap_nil, omap_bytes, fz_int, fz_bool, fz_str, hv]
theorem viewfz {W : List Box} {b n : Nat} {f m : Bool} {bs : List UInt8} {cells : List CV} (hW : W[b]? = some ⟨cells, m⟩) (hc : cells.take n = bs.map byteC) (hn : n = bs.length) : fz true false W 5 (.view b 0 n 1 f) = some (.lst bs.length (bs.map byteC) false) := by
  rw [fz_view, hW]
  simp only [List.drop_zero, Nat.mul_one, hc, omap_bytes, Option.map_some, Bool.not_true, Bool.and_false]
  rw [hn]
theorem lstfz {W : List Box} {n : Nat} {bs : List UInt8} (hn : n = bs.length) : fz true false W 5 (.lst n (bs.map byteC) false) = some (.lst bs.length (bs.map byteC) false) := by
  subst hn
  simp [fz_lst, omap_bytes]
theorem plain_at {B : List Box} {β : Nat} {args : List CV} {l : List UInt8} {a : Nat} (ha : Is args [.ptr β 0]) (hB : B[β]? = some (cb l a)) (hm : MLow B) (hl : a ≤ l.length ∧ l.length < 1000000) : ACall Tryz.prog 98 args B fun c B' => ∃ a', a' ≤ l.length ∧ (∃ e, EvG e ∧ c = .agg (evC e)) ∧ B' = B.set β (cb l a') := by
  obtain rfl := ha
  obtain ⟨v1, a1, hv1, ha1, h1⟩ := nx_ex l 4 4 rfl hl.1 hl.2 (by omega)
  obtain ⟨v2, a2, hv2, ha2, h2⟩ := nx_ex l 256 256 rfl ha1 hl.2 (by omega)
  obtain ⟨v3, a3, hv3, ha3, h3⟩ := nx_ex l 60 60 rfl ha2 hl.2 (by omega)
  obtain ⟨v4, a4, hv4, ha4, h4⟩ := nx_ex l 256 256 rfl ha3 hl.2 (by omega)
  obtain ⟨v5, a5, hv5, ha5, h5⟩ := nx_ex l 10 10 rfl ha4 hl.2 (by omega)
  obtain ⟨v6, a6, hv6, ha6, h6⟩ := nx_ex l (20 + v3) (20 + v3) (by push_cast; rfl) ha5 hl.2 (by omega)
  obtain ⟨v7, a7, hv7, ha7, h7⟩ := nx_ex l 256 256 rfl ha5 hl.2 (by omega)
  have hh1 : ∀ {B : List Box} {args : List CV}, Is args [.int .i64 0, .int .i64 1] → ACall Tryz.prog 129 args B fun c B' => c = addrC false (hostV 0 1 ++ z12) ∧ B' = B := hostG_at
  have hh2 : ∀ {B : List Box} {args : List CV}, Is args [.int .i64 (1 + v1), .int .i64 v2] → ACall Tryz.prog 129 args B fun c B' => c = addrC false (hostV (1 + v1) v2 ++ z12) ∧ B' = B := hostG_at
  have hfill : byteC (UInt8.ofNat v4) = .int .u8 v4 := by rw [byte_wrap, IntKind.wrap_u8]; congr 1; omega
  have hpk : ∀ {B : List Box} {args : List CV}, Is (omap (fz true false B 6) args) (some [addrC false (hostV 0 1 ++ z12), addrC false (hostV (1 + v1) v2 ++ z12), .int .i64 v3, .int .u8 v4]) → ACall Tryz.prog 128 args B fun c B' => c = .view B.length 0 (20 + v3) 1 true ∧ B' = B ++ [⟨(pkt4 (hostV 0 1) (hostV (1 + v1) v2) v3 (UInt8.ofNat v4) v3).map byteC, false⟩] := fun hz => pk_own (fill := UInt8.ofNat v4) (by rw [hfill]; exact hz) rfl rfl rfl (by omega)
  have hpl := pkt4_len (hostV 0 1) (hostV (1 + v1) v2) v3 (UInt8.ofNat v4) v3 rfl rfl (Nat.le_refl _)
  have hl1 := hl.1
  have hl2 := hl.2
  generalize pkt4 (hostV 0 1) (hostV (1 + v1) v2) v3 (UInt8.ofNat v4) v3 = pk at *
  generalize hostV 0 1 ++ z12 = A0 at *
  generalize hostV (1 + v1) v2 ++ z12 = A1 at *
  clear hfill hl
  have xb := bx_pack hB
  refine drop_cb hm ?_
  refine acall_intro mixed Tryz.func98 rfl ca98 (by kernel_rfl) (by rw [Tryz.ntmps98]; simp) ?_
  have hev : ∀ bs : List UInt8, bs.length ≤ 200 → EvG { ev0 with kind := 1, bytes := bs } := fun bs h => ⟨h, Nat.zero_le _, rfl, .inl (.plain bs)⟩
  replace hev : Hid _ := hev
  replace hm : Hid _ := hm
  have hpm : (pk.map byteC).length = 20 + v3 := by rw [List.length_map, hpl]
  by_cases h51 : v5 = 1
  · subst h51
    repeat' (first | (with_reducible first | apply jA | apply jB | apply jC | apply jD | apply jE | apply jF | apply jG | apply jH | apply jI | apply jJ | apply jK | apply jL | apply jM | apply jN | apply jO) | ((with_reducible first | apply jP | apply jQ); rfl) | ((first | ((with_reducible first | apply jR | apply jS | apply jT); rfl; rfl) | (with_reducible first | apply jU | apply jV | apply jW) | ((with_reducible first | apply jX | apply jY | apply jZ); rfl) | ((with_reducible first | apply kA | apply kB | apply kC); rfl)); all_goals (first | ((with_reducible show Is _ _); exact kE_MB1) | ((with_reducible refine fun (hc : (_ : Bool) = _) => ?_); (try simp only [xZ, xY, xP, reduceCtorEq] at hc); (try (have hx : True := hc; clear hx hc)); (try exact kX)) | ((with_reducible show ACall _ _ _ _ _); (first | ((with_reducible apply h1) <;> exact kD_MB1) | ((with_reducible apply h2) <;> exact kD_MB1) | ((with_reducible apply h3) <;> exact kD_MB1) | ((with_reducible apply h4) <;> exact kD_MB1) | ((with_reducible apply h5) <;> exact kD_MB1) | ((with_reducible apply h6) <;> exact kD_MB1) | ((with_reducible apply hh1) <;> exact kD_MB1) | ((with_reducible apply hh2) <;> exact kD_MB1) | ((with_reducible apply hpk) <;> exact kD_MB1))) | ((fail_if_success (with_reducible first | show Is _ _ | show ACall _ _ _ _ _)); (try ((with_reducible show _ ∨ _); exact kT))))))
    have hev := (show ∀ bs : List UInt8, bs.length ≤ 200 → EvG { ev0 with kind := 1, bytes := bs } from hev)
    refine ⟨a6, _, .agg (evC { ev0 with kind := 1, bytes := pk.take v6 }), ha6, rfl, evfz rfl ?_, _, hev _ (by rw [List.length_take]; omega), rfl⟩
    exact viewfz (by rw [fzl_get]; rfl) (by rw [List.map_take]) (by rw [List.length_take]; omega)
  by_cases h52 : v5 = 2
  · subst h52
    repeat' (first | (with_reducible first | apply jA | apply jB | apply jC | apply jD | apply jE | apply jF | apply jG | apply jH | apply jI | apply jJ | apply jK | apply jL | apply jM | apply jN | apply jO) | ((with_reducible first | apply jP | apply jQ); rfl) | ((first | ((with_reducible first | apply jR | apply jS | apply jT); rfl; rfl) | (with_reducible first | apply jU | apply jV | apply jW) | ((with_reducible first | apply jX | apply jY | apply jZ); rfl) | ((with_reducible first | apply kA | apply kB | apply kC); rfl)); all_goals (first | ((with_reducible show Is _ _); exact kE_MB1) | ((with_reducible refine fun (hc : (_ : Bool) = _) => ?_); (try simp only [xZ, xY, xP, reduceCtorEq] at hc); (try (have hx : True := hc; clear hx hc)); (try exact kX)) | ((with_reducible show ACall _ _ _ _ _); (first | ((with_reducible apply h1) <;> exact kD_MB1) | ((with_reducible apply h2) <;> exact kD_MB1) | ((with_reducible apply h3) <;> exact kD_MB1) | ((with_reducible apply h4) <;> exact kD_MB1) | ((with_reducible apply h5) <;> exact kD_MB1) | ((with_reducible apply h7) <;> exact kD_MB1) | ((with_reducible apply hh1) <;> exact kD_MB1) | ((with_reducible apply hh2) <;> exact kD_MB1) | ((with_reducible apply hpk) <;> exact kD_MB1))) | ((fail_if_success (with_reducible first | show Is _ _ | show ACall _ _ _ _ _)); (try ((with_reducible show _ ∨ _); exact kT))))))
    have hev := (show ∀ bs : List UInt8, bs.length ≤ 200 → EvG { ev0 with kind := 1, bytes := bs } from hev)
    have hb7 : byteC (UInt8.ofNat v7) = .int .u8 v7 := by rw [byte_wrap, IntKind.wrap_u8]; congr 1; omega
    have hbl : (UInt8.ofNat v7 :: pk.tail).length = 20 + v3 := by rw [List.length_cons, List.length_tail]; omega
    refine ⟨a7, _, .agg (evC { ev0 with kind := 1, bytes := UInt8.ofNat v7 :: pk.tail }), ha7, rfl, evfz rfl ?_, _, hev _ (by omega), rfl⟩
    exact viewfz (by rw [fzl_get]; rfl) (by rw [List.map_cons, hb7, List.map_tail, List.take_of_length_le (by rw [List.length_cons, List.length_tail]; omega)]) hbl.symm
  · have e1 : ((v5 : Int) == 1) = false := by simpa using (by omega : (v5 : Int) ≠ 1)
    have e2 : ((v5 : Int) == 2) = false := by simpa using (by omega : (v5 : Int) ≠ 2)
    refine w_MB18 @h1 @h2 @h3 @h4 @h5 @hh1 @hh2 @hpk ?_ 
    have hev := (show ∀ bs : List UInt8, bs.length ≤ 200 → EvG { ev0 with kind := 1, bytes := bs } from hev)
    refine ⟨a5, _, .agg (evC { ev0 with kind := 1, bytes := pk }), ha5, rfl, evfz rfl ?_, _, hev _ (by omega), rfl⟩
    exact viewfz (by rw [fzl_get]; rfl) (List.take_of_length_le (by show (pk.map byteC).length ≤ _; omega)) hpl.symm
theorem datagram_at {B : List Box} {β : Nat} {args D : List CV} {now : Int} {l : List UInt8} {a : Nat} (ha : Is args [.ptr β 0, .agg D]) (hD : DmP D now) (hB : B[β]? = some (cb l a)) (hm : MLow B) (hl : a ≤ l.length ∧ l.length < 1000000) : ACall Tryz.prog 99 args B fun c B' => ∃ a', a' ≤ l.length ∧ (∃ e, EvG e ∧ c = .agg (evC e)) ∧ B' = B.set β (cb l a') := by
  obtain rfl := ha
  obtain ⟨v1, a1, hv1, ha1, h1⟩ := nx_ex l 4 4 rfl hl.1 hl.2 (by omega)
  obtain ⟨v2, a2, hv2, ha2, h2⟩ := nx_ex l 20 20 rfl ha1 hl.2 (by omega)
  obtain ⟨K, a3, hK, ha3, h3⟩ := by_ex l (32 + v2) (32 + v2) (by push_cast; rfl) ha2 hl.2 (by omega)
  have hs : ∀ {B : List Box} {args : List CV}, Is args [.agg D] → MLow B → ACall Tryz.prog 130 args B fun c B' => c = .lst 0 [] false ∧ B' = B := fun h hm => sessions_at h hD hm
  have hat : ∀ {B : List Box} {args : List CV}, Is args [.int .i64 v1] → ACall Tryz.prog 131 args B fun c B' => c = .agg (.bool false :: ((atA v1).map byteC ++ [.int .i64 (1000 + v1)])) ∧ B' = B := fun h => at_at h (by omega)
  have hm2 : ∀ (b c : Box), b.multi = false → c.multi = false → MLow (B ++ [b, c]) := fun b c hb hc => mlow_app hm (by simp [hb, hc])
  have hm3 : ∀ (n : Nat) (b c d : Box), b.multi = false → c.multi = false → d.multi = false → MLow (B.set β (cb l n) ++ [b, c, d]) := fun n b c d hb hc hd => mlow_app (mlow_set hm (by simp [cb])) (by simp [hb, hc, hd])
  have hev : Hid (∀ bs : List UInt8, bs.length ≤ 200 → EvG { ev0 with kind := 2, six := false, ip := atA v1, port := (1000 + v1 : Nat), bytes := bs }) := fun bs h => ⟨h, Nat.zero_le _, rfl, .inl (.dgram false (atA v1) (1000 + v1) bs rfl rfl (by omega) (by omega))⟩
  have hal : (atA v1).length = 16 := rfl
  obtain ⟨d1, d2, d3, d4⟩ := hD
  have hl1 := hl.1
  have hl2 := hl.2
  generalize atA v1 = A at *
  clear hl
  have xb := bx_pack hB
  refine drop_cb hm ?_
  refine acall_intro mixed Tryz.func99 rfl ca99 (by kernel_rfl) (by rw [Tryz.ntmps99]; simp) ?_
  replace hm : Hid _ := hm
  refine w_MB05 @h1 @h2 @h3 @hs @hat ?_ 
  have hev := (show ∀ bs : List UInt8, bs.length ≤ 200 → EvG { ev0 with kind := 2, six := false, ip := A, port := (1000 + v1 : Nat), bytes := bs } from hev)
  refine ⟨a3, _, .agg (evC { ev0 with kind := 2, six := false, ip := A, port := (1000 + v1 : Nat), bytes := K }), ha3, rfl, evfz ?_ (lstfz hK.symm), _, hev _ (by omega), rfl⟩
  simp [ev0]
theorem event_at {B : List Box} {β : Nat} {args D : List CV} {now : Int} {l : List UInt8} {a : Nat} (ha : Is args [.ptr β 0, .agg D]) (hD : DmP D now) (hn : 0 ≤ now ∧ now ≤ 1048576) (hB : B[β]? = some (cb l a)) (hm : MLow B) (hl : a ≤ l.length ∧ l.length < 1000000) : ACall Tryz.prog 57 args B fun c B' => ∃ a', a' ≤ l.length ∧ (∃ e, EvG e ∧ c = .agg (evC e)) ∧ B' = B.set β (cb l a') := by
  obtain rfl := ha
  obtain ⟨v1, a1, hv1, ha1, h1⟩ := nx_ex l 8 8 rfl hl.1 hl.2 (by omega)
  obtain ⟨d1, d2, d3, d4⟩ := id hD
  obtain ⟨hn1, hn2⟩ := hn
  have hl1 := hl.1
  have hl2 := hl.2
  have hB1 : (B.set β (cb l a1) ++ [(⟨D, false⟩ : Box), ⟨zE, false⟩])[β]? = some (cb l a1) := (bx_pack hB).2.2.2.1 _ _
  have hm1 : MLow (B.set β (cb l a1) ++ [(⟨D, false⟩ : Box), ⟨zE, false⟩]) := mlow_app (mlow_set hm (by simp [cb])) (by simp)
  have hpl : ∀ {args : List CV}, Is args [.ptr β 0] → ACall Tryz.prog 98 args (B.set β (cb l a1) ++ [(⟨D, false⟩ : Box), ⟨zE, false⟩]) fun c B' => ∃ a', a' ≤ l.length ∧ (∃ e, EvG e ∧ c = .agg (evC e)) ∧ B' = (B.set β (cb l a1) ++ [(⟨D, false⟩ : Box), ⟨zE, false⟩]).set β (cb l a') := fun h => plain_at h hB1 hm1 ⟨ha1, hl2⟩
  have hdg : ∀ {args : List CV}, Is args [.ptr β 0, .agg D] → ACall Tryz.prog 99 args (B.set β (cb l a1) ++ [(⟨D, false⟩ : Box), ⟨zE, false⟩]) fun c B' => ∃ a', a' ≤ l.length ∧ (∃ e, EvG e ∧ c = .agg (evC e)) ∧ B' = (B.set β (cb l a1) ++ [(⟨D, false⟩ : Box), ⟨zE, false⟩]).set β (cb l a') := fun h => datagram_at h hD hB1 hm1 ⟨ha1, hl2⟩
  have xb := bx_pack hB
  refine drop_cb hm ?_
  replace hm : Hid _ := hm
  replace hm1 : Hid _ := hm1
  replace hB1 : Hid _ := hB1
  clear hl
  rw [zE] at hpl hdg
  refine acall_intro mixed Tryz.func57 rfl ca57 (by kernel_rfl) (by rw [Tryz.ntmps57]; simp) ?_
  have hv : v1 = 0 ∨ v1 = 1 ∨ v1 = 2 ∨ v1 = 3 ∨ v1 = 4 ∨ v1 = 5 ∨ v1 = 6 ∨ v1 = 7 := by omega
  replace hD : Hid _ := hD
  clear hv1
  rcases hv with rfl | rfl | rfl | rfl | rfl | rfl | rfl | rfl
  ·
    clear hdg
    refine w_MB01q @h1 @hpl ?_ 
    rintro _ _ ⟨a', ha', ⟨e, he, rfl⟩, rfl⟩
    have hEl := evC_len he.ip
    have hEt : (evC e).take 22 = evC e := List.take_of_length_le (by omega)
    have hEo : ∀ W : List Box, fz true false W 6 (.agg (evC e)) = some (.agg (evC e)) := fun W => by rw [fz_agg, evC_om]; rfl
    replace hEo : Hid _ := hEo
    have hfin : Hid (∃ e', EvG e' ∧ CV.agg (evC e) = .agg (evC e')) := ⟨e, he, rfl⟩
    clear he
    generalize evC e = E at *
    refine w_MB00 ?_ 
    exact ⟨a', _, _, ha', rfl, (show ∀ W : List Box, fz true false W 6 (.agg E) = some (.agg E) from hEo) _, hfin⟩
  ·
    clear hdg
    refine w_MB01q @h1 @hpl ?_ 
    rintro _ _ ⟨a', ha', ⟨e, he, rfl⟩, rfl⟩
    have hEl := evC_len he.ip
    have hEt : (evC e).take 22 = evC e := List.take_of_length_le (by omega)
    have hEo : ∀ W : List Box, fz true false W 6 (.agg (evC e)) = some (.agg (evC e)) := fun W => by rw [fz_agg, evC_om]; rfl
    replace hEo : Hid _ := hEo
    have hfin : Hid (∃ e', EvG e' ∧ CV.agg (evC e) = .agg (evC e')) := ⟨e, he, rfl⟩
    clear he
    generalize evC e = E at *
    refine w_MB00 ?_ 
    exact ⟨a', _, _, ha', rfl, (show ∀ W : List Box, fz true false W 6 (.agg E) = some (.agg E) from hEo) _, hfin⟩
  ·
    clear hpl
    refine w_MB01q @h1 @hdg ?_ 
    rintro _ _ ⟨a', ha', ⟨e, he, rfl⟩, rfl⟩
    have hEl := evC_len he.ip
    have hEt : (evC e).take 22 = evC e := List.take_of_length_le (by omega)
    have hEo : ∀ W : List Box, fz true false W 6 (.agg (evC e)) = some (.agg (evC e)) := fun W => by rw [fz_agg, evC_om]; rfl
    replace hEo : Hid _ := hEo
    have hfin : Hid (∃ e', EvG e' ∧ CV.agg (evC e) = .agg (evC e')) := ⟨e, he, rfl⟩
    clear he
    generalize evC e = E at *
    refine w_MB00 ?_ 
    exact ⟨a', _, _, ha', rfl, (show ∀ W : List Box, fz true false W 6 (.agg E) = some (.agg E) from hEo) _, hfin⟩
  ·
    clear hpl
    refine w_MB01q @h1 @hdg ?_ 
    rintro _ _ ⟨a', ha', ⟨e, he, rfl⟩, rfl⟩
    have hEl := evC_len he.ip
    have hEt : (evC e).take 22 = evC e := List.take_of_length_le (by omega)
    have hEo : ∀ W : List Box, fz true false W 6 (.agg (evC e)) = some (.agg (evC e)) := fun W => by rw [fz_agg, evC_om]; rfl
    replace hEo : Hid _ := hEo
    have hfin : Hid (∃ e', EvG e' ∧ CV.agg (evC e) = .agg (evC e')) := ⟨e, he, rfl⟩
    clear he
    generalize evC e = E at *
    refine w_MB00 ?_ 
    exact ⟨a', _, _, ha', rfl, (show ∀ W : List Box, fz true false W 6 (.agg E) = some (.agg E) from hEo) _, hfin⟩
  ·
    clear hpl
    refine w_MB01q @h1 @hdg ?_ 
    rintro _ _ ⟨a', ha', ⟨e, he, rfl⟩, rfl⟩
    have hEl := evC_len he.ip
    have hEt : (evC e).take 22 = evC e := List.take_of_length_le (by omega)
    have hEo : ∀ W : List Box, fz true false W 6 (.agg (evC e)) = some (.agg (evC e)) := fun W => by rw [fz_agg, evC_om]; rfl
    replace hEo : Hid _ := hEo
    have hfin : Hid (∃ e', EvG e' ∧ CV.agg (evC e) = .agg (evC e')) := ⟨e, he, rfl⟩
    clear he
    generalize evC e = E at *
    refine w_MB00 ?_ 
    exact ⟨a', _, _, ha', rfl, (show ∀ W : List Box, fz true false W 6 (.agg E) = some (.agg E) from hEo) _, hfin⟩
  · clear hpl hdg
    obtain ⟨v2, a2, hv2, ha2, h2⟩ := nx_ex l 256 256 rfl ha1 hl2 (by omega)
    obtain ⟨v3, a3, hv3, ha3, h3⟩ := nx_ex l 2 2 rfl ha2 hl2 (by omega)
    repeat' (first | (with_reducible first | apply jA | apply jB | apply jC | apply jD | apply jE | apply jF | apply jG | apply jH | apply jI | apply jJ | apply jK | apply jL | apply jM | apply jN | apply jO) | ((with_reducible apply jP); rfl) | ((first | ((with_reducible first | apply jR | apply jS | apply jT); rfl; rfl) | (with_reducible first | apply jU | apply jV | apply jW) | ((with_reducible first | apply jX | apply jY | apply jZ); rfl) | ((with_reducible first | apply kA | apply kB | apply kC); rfl)); all_goals (first | ((with_reducible show Is _ _); exact kE_MB0) | ((with_reducible refine fun (hc : (_ : Bool) = _) => ?_); (try simp only [xZ, xY, xP, reduceCtorEq] at hc); (try (have hx : True := hc; clear hx hc)); (try exact kX)) | ((with_reducible show ACall _ _ _ _ _); (first | ((with_reducible apply h1) <;> exact kD_MB0) | ((with_reducible apply h2) <;> exact kD_MB0) | ((with_reducible apply h3) <;> exact kD_MB0))) | ((fail_if_success (with_reducible first | show Is _ _ | show ACall _ _ _ _ _)); (try ((with_reducible show _ ∨ _); exact kT))))))
    refine w_drawJ [1] [⟨[], false⟩] (fun B' => B'[B.length]? = some ⟨D, false⟩) rfl (by simp (disch := first | omega | (simp only [yZ, yB] <;> omega) | fail) [go_sem, yY, *, -List.map_take, -List.map_drop, -List.map_append, -List.map_reverse]; exact rfl) (by simp (disch := first | omega | (simp only [yZ, yB] <;> omega) | fail) [go_sem, yY, *, -List.map_take, -List.map_drop, -List.map_append, -List.map_reverse]) ?_
    repeat' (first | (with_reducible first | apply jA | apply jB | apply jC | apply jD | apply jE | apply jF | apply jG | apply jH | apply jI | apply jJ | apply jK | apply jL | apply jM | apply jN | apply jO) | ((with_reducible apply jP); rfl) | ((first | ((with_reducible first | apply d_made | apply q_made); rfl; rfl)); (iterate 6 exact kE_MB0)) | ((first | ((with_reducible first | apply d_fop | apply q_fop); rfl; rfl)); (intro Bx hJ; (first | (obtain ⟨_, hJ1, hJ2⟩ := hJ) | (try simp only at hJ)); exact kE_MB0)) | ((with_reducible first | apply d_free | apply q_free); rfl; (iterate 2 exact kE_MB0); (intro Bx hJ); (first | ((with_reducible apply h1) <;> exact kD_MB0) | ((with_reducible apply h2) <;> exact kD_MB0) | ((with_reducible apply h3) <;> exact kD_MB0))) | ((first | ((with_reducible first | apply jR | apply jS | apply jT); rfl; rfl) | (with_reducible first | apply jU | apply jV | apply jW) | ((with_reducible first | apply jX | apply jY | apply jZ); rfl) | ((with_reducible first | apply kA | apply kB | apply kC); rfl)); all_goals (first | ((with_reducible show Is _ _); exact kE_MB0) | ((with_reducible refine fun (hc : (_ : Bool) = _) => ?_); (try simp only [xZ, xY, xP, reduceCtorEq] at hc); (try (have hx : True := hc; clear hx hc)); (try exact kX)) | ((with_reducible show ACall _ _ _ _ _); (first | ((with_reducible apply h1) <;> exact kD_MB0) | ((with_reducible apply h2) <;> exact kD_MB0) | ((with_reducible apply h3) <;> exact kD_MB0))) | ((fail_if_success (with_reducible first | show Is _ _ | show ACall _ _ _ _ _)); (try ((with_reducible show _ ∨ _); first | exact .inl rfl | (refine .inr ⟨rfl, ?_, ?_⟩; (focus (repeat (first | exact trivial | refine ⟨.inl rfl, ?_⟩ | refine ⟨.inr rfl, ?_⟩ | refine ⟨.inr (by (simp (disch := first | omega | (simp only [yZ, yB] <;> omega) | fail) [go_sem, yY, *, bx_get0, bx_get, bx_set0, bx_set, -List.map_take, -List.map_drop, -List.map_append, -List.map_reverse])), ?_⟩))); (first | exact trivial | exact rfl | (refine ⟨_, ?_, ?_⟩; (focus (simp (disch := first | omega | (simp only [yZ, yB] <;> omega) | fail) [go_sem, yY, *, bx_get0, bx_get, bx_set0, bx_set, -List.map_take, -List.map_drop, -List.map_append, -List.map_reverse]; (try exact rfl))); (simp (disch := first | omega | (simp only [yZ, yB] <;> omega) | fail) [go_sem, yY, *, bx_get0, bx_get, bx_set0, bx_set, -List.map_take, -List.map_drop, -List.map_append, -List.map_reverse])) | (simp (disch := first | omega | (simp only [yZ, yB] <;> omega) | fail) [go_sem, yY, *, bx_get0, bx_get, bx_set0, bx_set, -List.map_take, -List.map_drop, -List.map_append, -List.map_reverse]))) | exact .inl (by (simp (disch := first | omega | (simp only [yZ, yB] <;> omega) | fail) [go_sem, yY, *, bx_get0, bx_get, bx_set0, bx_set, -List.map_take, -List.map_drop, -List.map_append, -List.map_reverse]))))))))
    refine ⟨a3, _, .agg (evC { ev0 with kind := 3, time := now + v2 * 10 - v3 * 300 }), ha3, rfl, evfz rfl rfl, _, ⟨Nat.zero_le _, Nat.zero_le _, rfl, ?_⟩, rfl⟩
    by_cases h0 : 0 ≤ now + v2 * 10 - v3 * 300
    · exact .inl (.tick _ h0 (by omega))
    · exact .inr ⟨_, by omega, by omega, rfl⟩
  · clear hpl hdg
    obtain ⟨v2, a2, hv2, ha2, h2⟩ := nx_ex l 40 40 rfl ha1 hl2 (by omega)
    obtain ⟨K, a3, hK, ha3, h3⟩ := by_ex l v2 v2 rfl ha2 hl2 (by omega)
    have hm3 : ∀ (n : Nat) (b c : Box), b.multi = false → c.multi = false → MLow (B.set β (cb l n) ++ [b, c]) := fun n b c hb hc => mlow_app (mlow_set (show MLow B from hm) (by simp [cb])) (by simp [hb, hc])
    refine w_MB03 @h1 @h2 @h3 ?_ 
    exact ⟨a3, _, .agg (evC { ev0 with kind := 4, bytes := K }), ha3, rfl, evfz rfl (lstfz hK.symm), _, ⟨by show K.length ≤ 200; omega, Nat.zero_le _, rfl, .inl (.entropy K)⟩, rfl⟩
  · clear hpl hdg
    obtain ⟨v2, a2, hv2, ha2, h2⟩ := nx_ex l 4 4 rfl ha1 hl2 (by omega)
    have hv : v2 = 0 ∨ v2 = 1 ∨ v2 = 2 ∨ v2 = 3 := by omega
    clear hv2
    rcases hv with rfl | rfl | rfl | rfl
    · refine w_MB02 @h1 @h2 ?_ 
      exact ⟨a2, _, .agg (evC { ev0 with kind := 5, text := [98, 97, 100] }), ha2, rfl, evfz rfl rfl, _, ⟨Nat.zero_le _, by decide, rfl, .inl (.control _ (by decide))⟩, rfl⟩
    · refine w_MB02 @h1 @h2 ?_ 
      exact ⟨a2, _, .agg (evC { ev0 with kind := 5, text := [100, 101, 110, 121, 32, 49, 48, 46, 49, 46, 48, 46, 48, 47, 49, 54] }), ha2, rfl, evfz rfl rfl, _, ⟨Nat.zero_le _, by decide, rfl, .inl (.control _ (by decide))⟩, rfl⟩
    · refine w_MB02 @h1 @h2 ?_ 
      exact ⟨a2, _, .agg (evC { ev0 with kind := 5, text := [103, 101, 116] }), ha2, rfl, evfz rfl rfl, _, ⟨Nat.zero_le _, by decide, rfl, .inl (.control _ (by decide))⟩, rfl⟩
    · refine w_MB02 @h1 @h2 ?_ 
      exact ⟨a2, _, .agg (evC { ev0 with kind := 5, text := [110, 111, 116, 104, 105, 110, 103] }), ha2, rfl, evfz rfl rfl, _, ⟨Nat.zero_le _, by decide, rfl, .inl (.control _ (by decide))⟩, rfl⟩
end Go.Proofs.YtcbdghgogmcllaaGreatDoor
end
section
namespace Go.Sy
theorem w_cut {P : Program} {n : Nat} {a rest : Code} {Q : Exit → Fr → List Box → Prop} {fr : Fr} {B : List Box} (I : Fr → List Box → Prop) (h1 : WPc P n a (thenC I Q) fr B) (h2 : ∀ fr B, I fr B → WPc P n rest Q fr B) : WPc P n (.seq a rest) Q fr B := by
  have key : ∀ {K K' : Fr → List Box → Prop} (_ : ∀ fr B, K fr B → K' fr B) (e : Exit) (fr : Fr) (B : List Box), thenC K Q e fr B → thenC K' Q e fr B := fun hk e fr B h => by
    cases e with
    | normal => exact hk _ _ h
    | _ => exact h
  exact WPc_mono a (key h2) fr B h1
end Go.Sy
namespace Go.Proofs.YtcbdghgogmcllaaGreatDoor
open Go Go.Sy
theorem kE_MC0 {α : Type} {x y : α} (h : Is x y := by first | ((try simp (disch := first | omega | (simp only [yZ, yB] <;> omega) | fail) [go_sem, yY, *, bx_get0, bx_get, bx_set0, bx_set, if_pos, if_neg, -List.map_take, -List.map_drop, -List.map_append, -List.map_reverse]); exact rfl) | fail) : Is x y := h
theorem kD_MC0 {p : Prop} (h : p := by (first | omega | assumption | exact rfl | ((simp (disch := first | omega | (simp only [yZ, yB] <;> omega) | fail) [go_sem, yY, *, bx_get0, bx_get, bx_set0, bx_set, -List.map_take, -List.map_drop, -List.map_append, -List.map_reverse]) <;> (first | done | omega | exact rfl)) | fail)) : p := h
theorem wB_MC0 {p q : Prop} (k : q) (h : Hq q → p := by (intro k; (repeat' (first | (with_reducible first | apply jA | apply jB | apply jC | apply jD | apply jE | apply jF | apply jG | apply jH | apply jI | apply jJ | apply jK | apply jL | apply jM | apply jN | apply jO) | ((with_reducible first | apply jP | apply jQ); rfl) | ((first | ((with_reducible first | apply jR | apply jS | apply jT); rfl; rfl) | (with_reducible first | apply jU | apply jV | apply jW) | ((with_reducible first | apply jX | apply jY | apply jZ); rfl) | ((with_reducible first | apply kA | apply kB | apply kC); rfl)); all_goals (first | ((with_reducible show Is _ _); exact kE_MC0) | ((with_reducible refine fun (hc : (_ : Bool) = _) => ?_); (try simp only [xZ, xY, xP, reduceCtorEq] at hc); (try (have hx : True := hc; clear hx hc)); (try exact kX)) | ((with_reducible show ACall _ _ _ _ _); (first | ((with_reducible apply c0) <;> exact kD_MC0) | ((with_reducible apply c1) <;> exact kD_MC0) | ((with_reducible apply c2) <;> exact kD_MC0) | ((with_reducible apply c3) <;> exact kD_MC0) | ((with_reducible apply c4) <;> exact kD_MC0) | ((with_reducible apply c5) <;> exact kD_MC0) | ((with_reducible apply c6) <;> exact kD_MC0) | ((with_reducible apply c7) <;> exact kD_MC0))) | ((fail_if_success (with_reducible first | show Is _ _ | show ACall _ _ _ _ _)); (try ((with_reducible show _ ∨ _); exact kT))))) | (((with_reducible first | apply o_callQ | apply q_callQ); rfl); (iterate 2 exact kE_MC0); (first | ((with_reducible apply q0) <;> exact kD_MC0))))); exact hq k)) : p := h ⟨k⟩
theorem w_MC00 {p q : Prop}  (k : q) (h : Hq q → p := by (intro  k; exact wB_MC0 (hq k))) : p := h  ⟨k⟩
theorem w_MC01 {A0 p q : Prop} (c0 : A0) (k : q) (h : A0 → Hq q → p := by (intro c0 k; exact wB_MC0 (hq k))) : p := h c0 ⟨k⟩
theorem w_MC01q {A0 A1 p q : Prop} (c0 : A0) (q0 : A1) (k : q) (h : A0 → A1 → Hq q → p := by (intro c0 q0 k; exact wB_MC0 (hq k))) : p := h c0 q0 ⟨k⟩
theorem w_MC02 {A0 A1 p q : Prop} (c0 : A0) (c1 : A1) (k : q) (h : A0 → A1 → Hq q → p := by (intro c0 c1 k; exact wB_MC0 (hq k))) : p := h c0 c1 ⟨k⟩
theorem w_MC03 {A0 A1 A2 p q : Prop} (c0 : A0) (c1 : A1) (c2 : A2) (k : q) (h : A0 → A1 → A2 → Hq q → p := by (intro c0 c1 c2 k; exact wB_MC0 (hq k))) : p := h c0 c1 c2 ⟨k⟩
theorem w_MC04 {A0 A1 A2 A3 p q : Prop} (c0 : A0) (c1 : A1) (c2 : A2) (c3 : A3) (k : q) (h : A0 → A1 → A2 → A3 → Hq q → p := by (intro c0 c1 c2 c3 k; exact wB_MC0 (hq k))) : p := h c0 c1 c2 c3 ⟨k⟩
theorem w_MC05 {A0 A1 A2 A3 A4 p q : Prop} (c0 : A0) (c1 : A1) (c2 : A2) (c3 : A3) (c4 : A4) (k : q) (h : A0 → A1 → A2 → A3 → A4 → Hq q → p := by (intro c0 c1 c2 c3 c4 k; exact wB_MC0 (hq k))) : p := h c0 c1 c2 c3 c4 ⟨k⟩
def zAc : List CV := .int .i64 0 :: (zE ++ (.int .i64 0 :: .int .i64 0 :: .int .u8 0 :: .int .i64 0 :: .int .i64 0 :: z32.map byteC))
theorem minput_in (e : Ev) (h : e.ip.length = 16) : PC Tryz.prog false 56 [.agg (evC e)] (.agg (acC (evA e))) := by
  have hl := evC_len h
  have ho : ∀ {nz : Bool} {B : List Box} {k : Nat}, omap (Go.Sy.fz nz false B (k + 3)) (evC e) = some (evC e) := evC_om
  have ht : (evC e).take 22 = evC e := List.take_of_length_le (by omega)
  rw [evA_cells]
  generalize evC e = X at *
  clear h
  refine acall_intro mixed Tryz.func56 rfl ca56 (by kernel_rfl) (by rw [Tryz.ntmps56]; simp) ?_
  refine w0 ?_ 
  simp [go_sem, ho, z32]
  rfl
theorem minput_at {B : List Box} {args : List CV} {e : Ev} (hz : Is args [.agg (evC e)]) (h : e.ip.length = 16) : ACall Tryz.prog 56 args B fun c B' => c = .agg (acC (evA e)) ∧ B' = B := by
  obtain rfl := hz
  exact acall_imm (nz := true) (by rw [omap_two, fz_agg, evC_om]; rfl) (minput_in e h)
theorem pick_in (w n : Int) : PC Tryz.prog true 60 [.int .i64 w, .int .i64 n] (.agg (acC { act0 with kind := 3, who := w, n := n })) := by
  refine acall_intro mixed Tryz.func60 rfl ca60 (by kernel_rfl) (by rw [Tryz.ntmps60]; simp) ?_
  refine w0 ?_ 
  rfl
theorem pick_at {B : List Box} {args : List CV} {w n : Int} (hz : Is args [.int .i64 w, .int .i64 n]) : ACall Tryz.prog 60 args B fun c B' => c = .agg (acC { act0 with kind := 3, who := w, n := n }) ∧ B' = B := by
  obtain rfl := hz
  exact acall_fresh (nz := true) (by simp [go_sem]) (pick_in w n)
theorem handoff_in (lo hi : Int) (k : List UInt8) (hk : k.length = 32) : PC Tryz.prog true 58 [.int .i64 lo, .int .i64 hi, .agg (k.map byteC)] (.agg (acC { act0 with kind := 2, lo := lo, hi := hi, key := k })) := by
  refine acall_intro mixed Tryz.func58 rfl ca58 (by kernel_rfl) (by rw [Tryz.ntmps58]; simp) ?_
  have hkl : (k.map byteC).length = 32 := by simp [hk]
  have hkt : (k.map byteC).take 32 = k.map byteC := List.take_of_length_le (by omega)
  refine w0 ?_ 
  simp [go_sem, acC, evC, act0, ev0, z16, omap_app, omap_bytes]
  rfl
theorem handoff_at {B : List Box} {args : List CV} {lo hi : Int} {k : List UInt8} (hz : Is args [.int .i64 lo, .int .i64 hi, .agg (k.map byteC)]) (hk : k.length = 32) : ACall Tryz.prog 58 args B fun c B' => c = .agg (acC { act0 with kind := 2, lo := lo, hi := hi, key := k }) ∧ B' = B := by
  obtain rfl := hz
  exact acall_fresh (nz := true) (by simp [go_sem, omap_bytes]) (handoff_in lo hi k hk)
structure AcG (a : Ac) : Prop where
  bytes : a.ev.bytes.length ≤ 200
  text : a.ev.text.length ≤ 200
  ip : a.ev.ip.length = 16
  key : a.key.length = 32
  norm : Norm a ∨ ∃ n : Int, -1000 ≤ n ∧ n < 0 ∧ a = evA { ev0 with kind := 3, time := n }
theorem ac_fz {a : Ac} (W : List Box) : fz true false W 6 (.agg (acC a)) = some (.agg (acC a)) := by rw [fz_agg, acC_om]; rfl
theorem ac_end {B : List Box} {β : Nat} {l : List UInt8} {a' : Nat} {G : List Box} {ac : Ac} {c : CV} {W : List Box} (ha' : a' ≤ l.length) (hW : W = B.set β (cb l a') ++ G) (hc : c = .agg (acC ac)) (h : AcG ac) :
    ∃ (a : Nat) (G : List Box) (c' : CV), a ≤ l.length ∧ W = B.set β (cb l a) ++ G ∧ fz true false (List.replicate B.length ⟨[], true⟩ ++ G) 6 c = some c' ∧ ∃ ac, AcG ac ∧ c' = .agg (acC ac) :=
  ⟨a', G, .agg (acC ac), ha', hW, by rw [hc]; exact ac_fz _, ac, h, rfl⟩
theorem ac_end2 {B : List Box} {β : Nat} {l : List UInt8} {a' : Nat} {G : List Box} {ac : Ac} {c : CV} {W : List Box} (ha' : a' ≤ l.length) (hW : W = B.set β (cb l a') ++ G) (hc : ∀ W : List Box, fz true false W 6 c = some (.agg (acC ac))) (h : AcG ac) :
    ∃ (a : Nat) (G : List Box) (c' : CV), a ≤ l.length ∧ W = B.set β (cb l a) ++ G ∧ fz true false (List.replicate B.length ⟨[], true⟩ ++ G) 6 c = some c' ∧ ∃ ac, AcG ac ∧ c' = .agg (acC ac) :=
  ⟨a', G, .agg (acC ac), ha', hW, hc _, ac, h, rfl⟩
theorem acG_of {a : Ac} (h : Norm a) (h1 : a.ev = ev0) (h2 : a.key.length = 32) : AcG a := ⟨by rw [h1]; exact Nat.zero_le _, by rw [h1]; exact Nat.zero_le _, by rw [h1]; rfl, h2, .inl h⟩
theorem action_at {B : List Box} {β : Nat} {args D : List CV} {now : Int} {l : List UInt8} {a : Nat} (ha : Is args [.ptr β 0, .agg D, .bool false]) (hD : DmP D now) (hn : 0 ≤ now ∧ now ≤ 1048576) (hB : B[β]? = some (cb l a)) (hm : MLow B) (hl : a ≤ l.length ∧ l.length < 1000000) : ACall Tryz.prog 39 args B fun c B' => ∃ a', a' ≤ l.length ∧ (∃ ac, AcG ac ∧ c = .agg (acC ac)) ∧ B' = B.set β (cb l a') := by
  obtain rfl := ha
  obtain ⟨d1, d2, d3, d4⟩ := id hD
  have hl1 := hl.1
  have hl2 := hl.2
  have xb := bx_pack hB
  refine drop_cb hm ?_
  replace hm : Hid _ := hm
  replace hD : Hid _ := hD
  replace hn : Hid _ := hn
  replace hB : Hid _ := hB
  clear hl
  refine acall_intro mixed Tryz.func39 rfl ca39 (by kernel_rfl) (by rw [Tryz.ntmps39]; simp) ?_
  refine w_cut (fun fr W => fr 0 = .ptr β 0 ∧ fr 2 = .bool false ∧ fr 4 = .ptr B.length 0 ∧ fr 6 = .ptr (B.length + 1) 0 ∧ W = B ++ [⟨D, false⟩, ⟨zAc, false⟩]) ?_ ?_
  · refine w_MC00 ?_ 
    exact ⟨kS, kS, kS, kS, rfl⟩
  rintro fr W ⟨f0, f2, f4, f6, rfl⟩
  have hz60 : zAc.length = 60 := rfl
  generalize zAc = Z at *
  refine w_cut (fun fr W => ∃ (a1 n : Nat), a1 ≤ l.length ∧ n ≤ 6000 ∧ fr 7 = .int .i64 n ∧ fr 0 = .ptr β 0 ∧ fr 2 = .bool false ∧ fr 4 = .ptr B.length 0 ∧ fr 6 = .ptr (B.length + 1) 0 ∧ W = B.set β (cb l a1) ++ [⟨D, false⟩, ⟨Z, false⟩]) ?_ ?_
  · obtain ⟨v, a1, hv, ha1, h1⟩ := nx_ex l 7 7 rfl hl1 hl2 (by omega)
    have hv : v = 0 ∨ v = 1 ∨ v = 2 ∨ v = 3 ∨ v = 4 ∨ v = 5 ∨ v = 6 := by omega
    rcases hv with rfl | rfl | rfl | rfl | rfl | rfl | rfl
    · refine w_MC01 @h1 ?_ 
      exact ⟨a1, 6000, ha1, by omega, kS, kS, kS, kS, kS, rfl⟩
    · refine w_MC01 @h1 ?_ 
      exact ⟨a1, 6000, ha1, by omega, kS, kS, kS, kS, kS, rfl⟩
    · refine w_MC01 @h1 ?_ 
      exact ⟨a1, 6000, ha1, by omega, kS, kS, kS, kS, kS, rfl⟩
    · refine w_MC01 @h1 ?_ 
      exact ⟨a1, 700, ha1, by omega, kS, kS, kS, kS, kS, rfl⟩
    · refine w_MC01 @h1 ?_ 
      exact ⟨a1, 40, ha1, by omega, kS, kS, kS, kS, kS, rfl⟩
    · refine w_MC01 @h1 ?_ 
      exact ⟨a1, 1, ha1, by omega, kS, kS, kS, kS, kS, rfl⟩
    · refine w_MC01 @h1 ?_ 
      exact ⟨a1, 0, ha1, by omega, kS, kS, kS, kS, kS, rfl⟩
  clear f0 f2 f4 f6 fr
  rintro fr W ⟨a1, n, ha1, hn6, f7, f0, f2, f4, f6, rfl⟩
  obtain ⟨k, a2, hk, ha2, h2⟩ := nx_ex l 16 16 rfl ha1 hl2 (by omega)
  by_cases k5 : k < 5
  · have hev : ∀ {args : List CV}, Is args [.ptr β 0, .agg D] → ACall Tryz.prog 57 args (B.set β (cb l a2) ++ [(⟨D, false⟩ : Box), ⟨Z, false⟩]) fun c B' => ∃ a', a' ≤ l.length ∧ (∃ e, EvG e ∧ c = .agg (evC e)) ∧ B' = (B.set β (cb l a2) ++ [(⟨D, false⟩ : Box), ⟨Z, false⟩]).set β (cb l a') :=
      fun h => event_at h hD hn ((bx_pack (show B[β]? = some (cb l a) from hB)).2.2.2.1 _ _) (mlow_app (mlow_set hm (by simp [cb])) (by simp)) ⟨ha2, hl2⟩
    refine w_MC01q @h2 @hev ?_ 
    rintro _ _ ⟨a', ha', ⟨e, he, rfl⟩, rfl⟩
    have hin : ∀ {B : List Box} {args : List CV}, Is args [.agg (evC e)] → ACall Tryz.prog 56 args B fun c B' => c = .agg (acC (evA e)) ∧ B' = B := fun h => minput_at h he.ip
    have hAl := acA_len e he.ip
    have hAt : (acC (evA e)).take 60 = acC (evA e) := List.take_of_length_le (by omega)
    have hg : Hid (AcG (evA e)) := ⟨he.bytes, he.text, he.ip, rfl, he.norm.imp id fun ⟨n, h1, h2, h3⟩ => ⟨n, h1, h2, by rw [h3]⟩⟩
    obtain ⟨Y, hY⟩ : ∃ Y, acC (evA e) = Y := ⟨_, rfl⟩
    obtain ⟨E, hE⟩ : ∃ E, evC e = E := ⟨_, rfl⟩
    rw [hE, hY] at hin
    rw [hE]
    rw [hY] at hAl hAt
    replace hY : Hid _ := hY
    clear he hE
    refine w_MC01 @hin ?_ 
    exact ac_end ha' rfl (show CV.agg Y = .agg (acC (evA e)) by rw [show acC (evA e) = Y from hY]) hg
  by_cases k7 : k < 7
  · obtain ⟨v1, a3, hv1, ha3, h3⟩ := nx_ex l 2 2 rfl ha2 hl2 (by omega)
    obtain ⟨v2, a4, hv2, ha4, h4⟩ := nx_ex l 2 2 rfl ha3 hl2 (by omega)
    obtain ⟨K, a5, hK, ha5, h5⟩ := ky_ex l ha4 hl2
    have hm3 : ∀ (n : Nat) (b c : Box), b.multi = false → c.multi = false → MLow (B.set β (cb l n) ++ [b, c]) := fun n b c hb hc => mlow_app (mlow_set (show MLow B from hm) (by simp [cb])) (by simp [hb, hc])
    have hho : ∀ {B : List Box} {args : List CV}, Is args [.int .i64 (1 + v1), .int .i64 (2 + v2), .agg (K.map byteC)] → ACall Tryz.prog 58 args B fun c B' => c = .agg (acC { act0 with kind := 2, lo := 1 + v1, hi := 2 + v2, key := K }) ∧ B' = B := fun h => handoff_at h hK
    have hg : Hid (AcG { act0 with kind := 2, lo := 1 + v1, hi := 2 + v2, key := K }) := acG_of (.handoff _ _ K (by omega) (by omega) (by omega) (by omega) hK) rfl hK
    have hAl : (acC { act0 with kind := 2, lo := 1 + v1, hi := 2 + v2, key := K }).length = 60 := acK_len ⟨rfl, hK⟩
    have hAt : (acC { act0 with kind := 2, lo := 1 + v1, hi := 2 + v2, key := K }).take 60 = acC { act0 with kind := 2, lo := 1 + v1, hi := 2 + v2, key := K } := List.take_of_length_le (by omega)
    generalize (⟨2, act0.ev, act0.who, act0.n, act0.xor, 1 + v1, 2 + v2, K⟩ : Ac) = ac at *
    obtain ⟨Y, hY⟩ : ∃ Y, acC ac = Y := ⟨_, rfl⟩
    rw [hY] at hho hAl hAt
    replace hY : Hid _ := hY
    refine w_MC05 @h2 @h3 @h4 @h5 @hho ?_ 
    exact ac_end ha5 rfl (show CV.agg Y = .agg (acC ac) by rw [show acC ac = Y from hY]) hg
  by_cases k12 : k < 12
  · obtain ⟨v1, a3, hv1, ha3, h3⟩ := nx_ex l 2 2 rfl ha2 hl2 (by omega)
    have hpi : ∀ {B : List Box} {args : List CV}, Is args [.int .i64 v1, .int .i64 n] → ACall Tryz.prog 60 args B fun c B' => c = .agg (acC { act0 with kind := 3, who := v1, n := n }) ∧ B' = B := fun h => pick_at h
    have hg : Hid (AcG { act0 with kind := 3, who := v1, n := n }) := acG_of (.pick _ _ (by omega) (by omega) (by omega) (by omega)) rfl rfl
    have hAl : (acC { act0 with kind := 3, who := v1, n := n }).length = 60 := acK_len ⟨rfl, rfl⟩
    have hAt : (acC { act0 with kind := 3, who := v1, n := n }).take 60 = acC { act0 with kind := 3, who := v1, n := n } := List.take_of_length_le (by omega)
    generalize (⟨3, act0.ev, v1, n, act0.xor, act0.lo, act0.hi, act0.key⟩ : Ac) = ac at *
    obtain ⟨Y, hY⟩ : ∃ Y, acC ac = Y := ⟨_, rfl⟩
    rw [hY] at hpi hAl hAt
    replace hY : Hid _ := hY
    refine w_MC03 @h2 @h3 @hpi ?_ 
    exact ac_end ha3 rfl (show CV.agg Y = .agg (acC ac) by rw [show acC ac = Y from hY]) hg
  by_cases e12 : k = 12
  · subst e12
    obtain ⟨v1, a3, hv1, ha3, h3⟩ := nx_ex l 2 2 rfl ha2 hl2 (by omega)
    refine w_MC02 @h2 @h3 ?_ 
    exact ac_end2 (ac := { act0 with kind := 5, who := v1 }) ha3 rfl (fun _ => rfl) (acG_of (.kill _ (by omega) (by omega)) rfl rfl)
  have f12 : ((k : Int) == 12) = false := by simpa using (by omega : (k : Int) ≠ 12)
  by_cases e13 : k = 13
  · subst e13
    obtain ⟨v1, a3, hv1, ha3, h3⟩ := nx_ex l 2 2 rfl ha2 hl2 (by omega)
    refine w_MC02 @h2 @h3 ?_ 
    exact ac_end2 (ac := { act0 with kind := 4, who := v1 }) ha3 rfl (fun _ => rfl) (acG_of (.abort _ (by omega) (by omega)) rfl rfl)
  have f13 : ((k : Int) == 13) = false := by simpa using (by omega : (k : Int) ≠ 13)
  by_cases e14 : k = 14
  · subst e14
    obtain ⟨v1, a3, hv1, ha3, h3⟩ := nx_ex l 2 2 rfl ha2 hl2 (by omega)
    obtain ⟨v2, a4, hv2, ha4, h4⟩ := nx_ex l 40 40 rfl ha3 hl2 (by omega)
    refine w_MC03 @h2 @h3 @h4 ?_ 
    exact ac_end2 (ac := { act0 with kind := 7, who := v1, n := v2 }) ha4 rfl (fun _ => rfl) (acG_of (.cut _ _ (by omega) (by omega) (by omega) (by omega)) rfl rfl)
  have f14 : ((k : Int) == 14) = false := by simpa using (by omega : (k : Int) ≠ 14)
  obtain ⟨v1, a3, hv1, ha3, h3⟩ := nx_ex l 2 2 rfl ha2 hl2 (by omega)
  obtain ⟨v2, a4, hv2, ha4, h4⟩ := bg_ex l 3000 3000 rfl ha3 hl2 (by omega)
  obtain ⟨v3, a5, hv3, ha5, h5⟩ := nx_ex l 256 256 rfl ha4 hl2 (by omega)
  refine w_MC04 @h2 @h3 @h4 @h5 ?_ 
  have hb7 : CV.int .u8 (v3 : Int) = byteC (UInt8.ofNat v3) := by rw [byte_wrap, IntKind.wrap_u8]; congr 1; omega
  refine ac_end2 (ac := { act0 with kind := 6, who := v1, n := v2, xor := UInt8.ofNat v3 }) ha5 rfl (fun _ => ?_) (acG_of (.corrupt _ _ _ (by omega) (by omega) (by omega) (by omega)) rfl rfl)
  rw [hb7]
  rfl
end Go.Proofs.YtcbdghgogmcllaaGreatDoor
end
section
namespace Go.Proofs.YtcbdghgogmcllaaGreatDoor
open Go Go.Sy
def parL (pf : List UInt8 → Ac × Bool) : List (List UInt8) → Nat → List Ac → List Ac × Int × Int
  | [], _, _ => ([], 0, 0)
  | [x], k, out => if x = [] then (if 400 < out.length then ([], 0, 12) else (out, 0, 0)) else ([], (k : Int), 5)
  | x :: y :: r, k, out => if (pf x).2 then parL pf (y :: r) (k + 1) (out ++ [(pf x).1]) else ([], (k : Int), 5)
def pfS (x : List UInt8) : Ac × Bool := parseS (x ++ [10])
def parV (s : List UInt8) : List Ac × Int × Int := parL pfS (splitL 10 s) 1 []
def parR (s : List UInt8) : List Ac × Int × Int := parL lineR (splitL 10 s) 1 []
theorem pf_eq (x : List UInt8) : (pfS x).2 = (lineR x).2 ∧ ((lineR x).2 = true → (pfS x).1 = (lineR x).1) := by
  have h1 : ∀ b, pfS x = (b, true) → lineR x = (b, true) := fun b h => by
    obtain ⟨hn, hs⟩ := parse_norm h
    rw [norm_line hn] at hs
    rw [List.append_cancel_right hs]
    exact norm_back hn
  have h2 : ∀ b, lineR x = (b, true) → pfS x = (b, true) := fun b h => by
    obtain ⟨hn, hs⟩ := line_norm h
    rw [pfS, hs, ← norm_line hn]
    exact norm_parse hn
  cases hp : (lineR x).2 with
  | true =>
    have := h2 (lineR x).1 (Prod.ext rfl hp)
    rw [this]
    exact ⟨rfl, fun _ => rfl⟩
  | false =>
    refine ⟨?_, fun h => by cases h⟩
    cases hq : (pfS x).2 with
    | false => rfl
    | true =>
      have := h1 (pfS x).1 (Prod.ext rfl hq)
      rw [this] at hp
      cases hp
theorem parL_eq : ∀ (L : List (List UInt8)) (k : Nat) (out : List Ac), parL pfS L k out = parL lineR L k out
  | [], _, _ => rfl
  | [_], _, _ => rfl
  | x :: y :: r, k, out => by
    obtain ⟨h1, h2⟩ := pf_eq x
    rw [parL, parL, h1]
    split
    · rename_i h
      rw [h2 h]
      exact parL_eq (y :: r) _ _
    · rfl
theorem par_eq (s : List UInt8) : parV s = parR s := parL_eq _ _ _
end Go.Proofs.YtcbdghgogmcllaaGreatDoor
end
section
namespace Go.Proofs.YtcbdghgogmcllaaGreatDoor
open Go Go.Sy
def RowsA (out : List Ac) (c : CV) (B : List Box) : Prop := (out = [] ∧ c = .nilS) ∨ (out ≠ [] ∧ ∃ β m, c = .view β 0 out.length 60 false ∧ B[β]? = some ⟨out.flatMap acC, m⟩)
theorem rows_len {out : List Ac} (h : ∀ a ∈ out, AcK a) : (out.flatMap acC).length = out.length * 60 := by
  induction out with
  | nil => rfl
  | cons a l ih =>
    rw [List.flatMap_cons, List.length_append, ih fun b hb => h b (by simp [hb]), acK_len (h a (by simp)), List.length_cons]
    omega
theorem acs_om {nz : Bool} : ∀ (out : List Ac) {B : List Box} {k : Nat}, omap (Go.Sy.fz nz false B (k + 3)) (out.flatMap acC) = some (out.flatMap acC)
  | [], _, _ => rfl
  | a :: l, B, k => by
    rw [List.flatMap_cons, omap_app, acC_om, acs_om l]
    rfl
def parC (r : List Ac × Int × Int) : CV := .tup [.lst r.1.length (r.1.flatMap acC) false, .int .i64 r.2.1, .int .i64 r.2.2]
end Go.Proofs.YtcbdghgogmcllaaGreatDoor
end
section
namespace Go.Proofs.YtcbdghgogmcllaaGreatDoor
open Go Go.Sy
theorem kE_MD0 {α : Type} {x y : α} (h : Is x y := by first | ((try simp (disch := first | omega | (simp only [yZ, yB] <;> omega) | fail) [go_sem, yY, *, bx_get0, bx_get, bx_set0, bx_set, if_pos, if_neg, -List.map_take, -List.map_drop, -List.map_append, -List.map_reverse]); exact rfl) | fail) : Is x y := h
theorem kD_MD0 {p : Prop} (h : p := by (first | omega | assumption | exact rfl | ((simp (disch := first | omega | (simp only [yZ, yB] <;> omega) | fail) [go_sem, yY, *, bx_get0, bx_get, bx_set0, bx_set, -List.map_take, -List.map_drop, -List.map_append, -List.map_reverse]) <;> (first | done | omega | exact rfl)) | fail)) : p := h
theorem wB_MD0 {p q : Prop} (k : q) (h : Hq q → p := by (intro k; (repeat' (first | (with_reducible first | apply jA | apply jB | apply jC | apply jD | apply jE | apply jF | apply jG | apply jH | apply jI | apply jJ | apply jK | apply jL | apply jM | apply jN | apply jO) | ((with_reducible first | apply jP | apply jQ); rfl) | ((first | ((with_reducible first | apply jR | apply jS | apply jT); rfl; rfl) | (with_reducible first | apply jU | apply jV | apply jW) | ((with_reducible first | apply jX | apply jY | apply jZ); rfl) | ((with_reducible first | apply kA | apply kB | apply kC); rfl)); all_goals (first | ((with_reducible show Is _ _); exact kE_MD0) | ((with_reducible refine fun (hc : (_ : Bool) = _) => ?_); (try simp only [xZ, xY, xP, reduceCtorEq] at hc); (try (have hx : True := hc; clear hx hc)); (try exact kX)) | ((with_reducible show ACall _ _ _ _ _); (first | ((with_reducible apply c0) <;> exact kD_MD0) | ((with_reducible apply c1) <;> exact kD_MD0) | ((with_reducible apply c2) <;> exact kD_MD0) | ((with_reducible apply c3) <;> exact kD_MD0) | ((with_reducible apply c4) <;> exact kD_MD0) | ((with_reducible apply c5) <;> exact kD_MD0) | ((with_reducible apply c6) <;> exact kD_MD0) | ((with_reducible apply c7) <;> exact kD_MD0))) | ((fail_if_success (with_reducible first | show Is _ _ | show ACall _ _ _ _ _)); (try ((with_reducible show _ ∨ _); exact kT))))) | (((with_reducible first | apply o_callQ | apply q_callQ); rfl); (iterate 2 exact kE_MD0); (first | ((with_reducible apply q0) <;> exact kD_MD0))))); exact hq k)) : p := h ⟨k⟩
theorem w_MD00 {p q : Prop}  (k : q) (h : Hq q → p := by (intro  k; exact wB_MD0 (hq k))) : p := h  ⟨k⟩
theorem w_MD01 {A0 p q : Prop} (c0 : A0) (k : q) (h : A0 → Hq q → p := by (intro c0 k; exact wB_MD0 (hq k))) : p := h c0 ⟨k⟩
theorem w_MD01q {A0 A1 p q : Prop} (c0 : A0) (q0 : A1) (k : q) (h : A0 → A1 → Hq q → p := by (intro c0 q0 k; exact wB_MD0 (hq k))) : p := h c0 q0 ⟨k⟩
def OutB (B : List Box) (β : Nat) (l : List UInt8) (a : Nat) (D : List CV) (out : List Ac) (c : CV) (W : List Box) : Prop :=
  (out = [] ∧ c = .nilS ∧ W = B.set β (cb l a) ++ [⟨D, false⟩]) ∨ (out ≠ [] ∧ ∃ m, c = .view (B.length + 1) 0 out.length 60 false ∧ W = B.set β (cb l a) ++ [⟨D, false⟩, ⟨out.flatMap acC, m⟩])
theorem actions_at {B : List Box} {β : Nat} {args D : List CV} {now : Int} {l : List UInt8} {a : Nat} (ha : Is args [.ptr β 0, .agg D, .int .i64 16, .bool false]) (hD : DmP D now) (hn : 0 ≤ now ∧ now ≤ 1048576) (hB : B[β]? = some (cb l a)) (hm : MLow B) (hl : a ≤ l.length ∧ l.length < 1000000) : ACall Tryz.prog 21 args B fun c B' => ∃ a', a' ≤ l.length ∧ (∃ out : List Ac, out.length ≤ 16 ∧ (∀ x ∈ out, AcG x) ∧ c = .lst out.length (out.flatMap acC) false) ∧ B' = B.set β (cb l a') := by
  obtain rfl := ha
  obtain ⟨d1, d2, d3, d4⟩ := id hD
  have hl1 := hl.1
  have hl2 := hl.2
  have xb := bx_pack hB
  have hB0 : B.set β (cb l a) = B := bx_same hB
  refine drop_cb hm ?_
  replace hm : Hid _ := hm
  replace hD : Hid _ := hD
  replace hn : Hid _ := hn
  clear hl
  refine acall_intro mixed Tryz.func21 rfl ca21 (by kernel_rfl) (by rw [Tryz.ntmps21]; simp) ?_
  refine w_MD00 ?_ 
  refine w_loop (fun fr W => ∃ (a' : Nat) (out : List Ac), a' ≤ l.length ∧ out.length ≤ 16 ∧ (∀ x ∈ out, AcG x) ∧ fr 0 = .ptr β 0 ∧ fr 2 = .int .i64 16 ∧ fr 3 = .bool false ∧ fr 5 = .ptr B.length 0 ∧ OutB B β l a' D out (fr 9) W) (fun fr _ => match fr 9 with | .view _ _ n _ _ => 16 - n | _ => 16) ?_ ?_
  · exact ⟨a, [], hl1, by simp, by simp, kS, kS, kS, kS, .inl ⟨rfl, kS, by rw [hB0]⟩⟩
  clear hB0 hl1
  replace hB : Hid _ := hB
  rintro fr W ⟨a1, out, ha1, ho, hg, f0, f2, f3, f5, hr⟩
  have hleft : ∀ {B : List Box} {args : List CV}, Is args [.ptr β 0] → B[β]? = some (cb l a1) → ACall Tryz.prog 38 args B fun c B' => c = .bool (decide (a1 < l.length)) ∧ B' = B := fun h h2 => left_at h h2
  have hgk : ∀ x ∈ out, AcK x := fun x hx => ⟨(hg x hx).ip, (hg x hx).key⟩
  have hrl := rows_len hgk
  have hoo : ∀ {B : List Box} {k : Nat}, omap (Go.Sy.fz true false B (k + 3)) (out.flatMap acC) = some (out.flatMap acC) := acs_om out
  have hno : NoRef (out.flatMap acC) := acs_om out
  have htk : (out.flatMap acC).take (out.length * 60) = out.flatMap acC := List.take_of_length_le (by omega)
  obtain ⟨n, hon⟩ : ∃ n, out.length = n := ⟨_, rfl⟩
  have hact : ∀ {args : List CV}, Is args [.ptr β 0, .agg D, .bool false] → ACall Tryz.prog 39 args W fun c B' => ∃ a', a' ≤ l.length ∧ (∃ ac, AcG ac ∧ c = .agg (acC ac)) ∧ B' = W.set β (cb l a') := fun h => by
    have xb := bx_pack (show B[β]? = some (cb l a) from hB)
    rcases hr with ⟨rfl, _, rfl⟩ | ⟨_, m, _, rfl⟩
    · exact action_at h hD hn (xb.2.2.2.1 _ _) (mlow_app (mlow_set hm (by simp [cb])) (by simp)) ⟨ha1, hl2⟩
    · exact action_at h hD hn (xb.2.2.2.1 _ _) (mlow_app (mlow_set hm (by simp [cb])) (by simp; exact fun _ => hno)) ⟨ha1, hl2⟩
  have hfin : Hid (∃ o : List Ac, o.length ≤ 16 ∧ (∀ x ∈ o, AcG x) ∧ CV.lst n (out.flatMap acC) false = .lst o.length (o.flatMap acC) false) := ⟨out, ho, hg, by rw [hon]⟩
  replace hg : Hid _ := hg
  replace hno : Hid _ := hno
  clear hgk
  have hfz : ∀ m, fz true false (List.replicate B.length ⟨[], true⟩ ++ [(⟨D, false⟩ : Box), ⟨out.flatMap acC, m⟩]) 6 (.view (B.length + 1) 0 n 60 false) = some (.lst n (out.flatMap acC) false) := fun m => by
    rw [fz_view, fzl_get]
    show (omap _ (((out.flatMap acC).drop 0).take (n * 60))).map _ = _
    rw [List.drop_zero, ← hon, htk, hoo]
    rfl
  replace hfz : Hid _ := hfz
  rw [hon] at htk hrl
  by_cases hc : n < 16
  rotate_left
  · have hc' : ¬ ((n : Int) < 16) := by omega
    rcases hr with ⟨rfl, f9, rfl⟩ | ⟨hne, m, f9, rfl⟩
    · simp at hon; omega
    · rw [hon] at f9
      clear hact
      refine w_MD01 @hleft ?_ 
      exact ⟨a1, _, _, ha1, rfl, (show ∀ m, fz true false (List.replicate B.length ⟨[], true⟩ ++ [(⟨D, false⟩ : Box), ⟨out.flatMap acC, m⟩]) 6 (.view (B.length + 1) 0 n 60 false) = some (.lst n (out.flatMap acC) false) from hfz) m, hfin⟩
  by_cases hc2 : a1 < l.length
  rotate_left
  · rcases hr with ⟨rfl, f9, rfl⟩ | ⟨hne, m, f9, rfl⟩
    · clear hact
      refine w_MD01 @hleft ?_ 
      exact ⟨a1, _, .lst 0 [] false, ha1, rfl, rfl, [], by simp, by simp, rfl⟩
    · rw [hon] at f9
      clear hact
      refine w_MD01 @hleft ?_ 
      exact ⟨a1, _, _, ha1, rfl, (show ∀ m, fz true false (List.replicate B.length ⟨[], true⟩ ++ [(⟨D, false⟩ : Box), ⟨out.flatMap acC, m⟩]) 6 (.view (B.length + 1) 0 n 60 false) = some (.lst n (out.flatMap acC) false) from hfz) m, hfin⟩
  rcases hr with ⟨rfl, f9, rfl⟩ | ⟨hne, m, f9, rfl⟩
  · obtain rfl : n = 0 := by simpa using hon.symm
    refine w_MD01q @hleft @hact ?_ 
    have hg : Hid (∀ x ∈ ([] : List Ac), AcG x) := fun _ h => by cases h
    rintro _ _ ⟨a2, ha2, ⟨ac, hac, rfl⟩, rfl⟩
    have hXl := acK_len ⟨hac.ip, hac.key⟩
    have hXt : (acC ac).take 60 = acC ac := List.take_of_length_le (by omega)
    have hg2 : ∀ x ∈ ([] : List Ac) ++ [ac], AcG x := fun x hx => by
      rcases List.mem_append.1 hx with h | h
      · exact (show ∀ x ∈ ([] : List Ac), AcG x from hg) x h
      · rw [List.mem_singleton] at h; subst h; exact hac
    have hol : (([] : List Ac) ++ [ac]).length = 0 + 1 := by rw [List.length_append, hon]; rfl
    have hfl : (([] : List Ac) ++ [ac]).flatMap acC = (([] : List Ac)).flatMap acC ++ acC ac := by rw [List.flatMap_append, List.flatMap_singleton]
    have hne2 : ([] : List Ac) ++ [ac] ≠ [] := by simp
    obtain ⟨out2, ho2⟩ : ∃ o, ([] : List Ac) ++ [ac] = o := ⟨_, rfl⟩
    rw [ho2] at hg2 hol hfl hne2
    replace hg2 : Hid _ := hg2
    replace hol : Hid _ := hol
    replace hfl : Hid _ := hfl
    replace hne2 : Hid _ := hne2
    clear ho2 hac
    generalize acC ac = X at *
    clear hact hfz hfin
    refine w_MD00 ?_ 
    have hol : out2.length = 1 := hol
    refine ⟨⟨a2, out2, ha2, by omega, hg2, kS, kS, kS, kS, .inr ⟨hne2, false, by rw [hol]; (simp (disch := omega) [go_sem, *]) <;> (try omega), ?_⟩⟩, kS⟩
    rw [show out2.flatMap acC = X from hfl]
  · rw [hon] at f9
    have hnz : n ≠ 0 := by rintro rfl; exact hne (List.eq_nil_of_length_eq_zero hon)
    have hbn : (n + 1) * Tryz.prog.bytesOf 47 ≤ 140737488355328 := by
      have : Tryz.prog.bytesOf 47 ≤ 1000 := by decide +kernel
      have : (n + 1) * Tryz.prog.bytesOf 47 ≤ 16 * 1000 := Nat.mul_le_mul (by omega) this
      omega
    have hbn2 : (n + 1) * 168 ≤ 140737488355328 := by omega
    generalize hDD : out.flatMap acC = DD at *
    refine w_MD01q @hleft @hact ?_ 
    rintro _ _ ⟨a2, ha2, ⟨ac, hac, rfl⟩, rfl⟩
    have hXl := acK_len ⟨hac.ip, hac.key⟩
    have hXt : (acC ac).take 60 = acC ac := List.take_of_length_le (by omega)
    have hg2 : ∀ x ∈ out ++ [ac], AcG x := fun x hx => by
      rcases List.mem_append.1 hx with h | h
      · exact (show ∀ x ∈ out, AcG x from hg) x h
      · rw [List.mem_singleton] at h; subst h; exact hac
    have hol : (out ++ [ac]).length = n + 1 := by rw [List.length_append, hon]; rfl
    have hfl : (out ++ [ac]).flatMap acC = (out).flatMap acC ++ acC ac := by rw [List.flatMap_append, List.flatMap_singleton]
    have hne2 : out ++ [ac] ≠ [] := by simp
    obtain ⟨out2, ho2⟩ : ∃ o, out ++ [ac] = o := ⟨_, rfl⟩
    rw [ho2] at hg2 hol hfl hne2
    replace hg2 : Hid _ := hg2
    replace hol : Hid _ := hol
    replace hfl : Hid _ := hfl
    replace hne2 : Hid _ := hne2
    clear ho2 hac
    generalize acC ac = X at *
    clear hact hfz hfin
    refine w_MD00 ?_ 
    have hol : out2.length = n + 1 := hol
    refine ⟨⟨a2, out2, ha2, by omega, hg2, kS, kS, kS, kS, .inr ⟨hne2, true, by rw [hol]; (simp (disch := omega) [go_sem, *]) <;> (try omega), ?_⟩⟩, kS⟩
    rw [show out2.flatMap acC = _ from hfl, hDD]
end Go.Proofs.YtcbdghgogmcllaaGreatDoor
end
