/-
  Appends, copies, lengths, strings and bytes.
-/
import Derived.Test.YtjlfblcoghiijaaSyJ
namespace Go.Sy
set_option linter.all false
open Go.RowKit (Below)

section
variable {P : Program} {N : Nat} {I : Nat → Nat → Prop} {μ : List (List Place)} {B : List Box} {w : World} {o : Oper} {a : Act} {fr : Fr} {c : CV}

theorem szOf_info {t : TypeId} {n : Nat} (h : szOf P t = some n) : ∃ i, P.info? t = some i ∧ i.size = n := by
  unfold szOf at h
  simpa using h

/-- What the built-in 'append' comes to, as the operation's run. -/
theorem run_call_builtin {b : Builtin} {args : Array Operand} {ts : Array TypeId} {v : Value} {w' : World} (ho : o.op = .call { callee := .builtin b, args, argTypes := ts })
    (hr : (builtin b ts o.type (args.map fun | .const _ => true | _ => false) (args.map a.eval)).run P w = .ok (.value v) w') : (execOp a.eval o).run P w = .ok (.value v) w' := by
  simp only [execOp, ho, resolve, Sem.run_bind, Sem.run_pure, Result.andThen_ok, invoke]
  exact hr

theorem run_call_append {t tx : TypeId} {s x : Operand} {sv v : Value} {w' : World} (ho : o.op = .call { callee := .builtin .append, args := #[s, x], argTypes := #[t, tx] }) (h1 : a.eval s = sv)
    (hr : (Builtin.append_ #[t, tx] o.type #[sv, a.eval x]).run P w = .ok v w') : (execOp a.eval o).run P w = .ok (.value v) w' :=
  run_call_builtin ho (by simp [builtin, h1, hr])

theorem run_append_zero {t tx ty e : TypeId} {size : Nat} {A : Option Addr} {n cap : Nat} {x : Value} (ht : P.underlying t = some (.slice e)) (hs : szOf P e = some size) (hsrc : Src P size tx x 0 [] w) (hn : n ≤ cap) :
    (Builtin.append_ #[t, tx] ty #[.slice A n cap, x]).run P w = .ok (.slice A n cap) w := by
  have hc := hsrc.cells
  rcases hsrc.kind with ⟨e', hk⟩ | hk <;> cases A <;>
    simp [Builtin.append_, run_underlying ht, run_underlying hk, run_sizeOf' hs, hsrc.len, hn, hc, storeCells]

theorem wrap_i64' (n : Int) : IntKind.i64.wrap n = (n + 9223372036854775808) % 18446744073709551616 - 9223372036854775808 := IntKind.wrap_i64 n
theorem run_append_grow_zeros (w : World) (t tn ty e : TypeId) (i : TypeInfo) (z : Value) (kn k : IntKind) (ht : P.underlying t = some (.slice e)) (htn : P.underlying tn = some (.int kn)) (hi : P.info? e = some i) (hz : i.zero = some z) (base : Option Addr) (sLen sCap : Nat) (olds : List Value)
    (hold : (Builtin.firstCells i.size sLen (.slice base sLen sCap)).run P w.drew = .ok olds.toArray w.drew) (n : Nat) (hn0 : 0 < n) (hs : 0 < i.size)
    (hg : sCap < sLen + n) (h63 : ((sLen + n : Nat) : Int) ≤ 9223372036854775807) (h48 : (sLen + n) * i.bytes ≤ 140737488355328) :
    (Builtin.append_ #[t, tn] ty #[.slice base sLen sCap, .int k n]).run P w =
      .ok (.slice (some ⟨w.heap.size, 0, none⟩) (sLen + n) (grownCap w (sLen + n) sCap e))
        (w.drew.alloc (.cells (olds.toArray ++ Builtin.zeroCells z.cells n ++ Builtin.zeroCells z.cells (grownCap w (sLen + n) sCap e - (sLen + n))) e)) := by
  have hn : ¬ (sLen + n ≤ sCap) := by omega
  have hn' : n ≠ 0 := by omega
  have hw : IntKind.i64.wrap (n : Int) = n := by rw [wrap_i64']; omega
  have h63' : ¬ (9223372036854775807 < ((sLen : Int) + (n : Int))) := by omega
  have hfit := growslice_fits hg h48
  have h48' : ¬ (281474976710656 < Builtin.nextslicecap (sLen + n) sCap * i.bytes) := by omega
  have hle : n * i.bytes ≤ (sLen + n) * i.bytes := Nat.mul_le_mul_right _ (by omega)
  have h48i : ¬ (281474976710656 < (n : Int) * (i.bytes : Int)) := by rw [← Int.natCast_mul]; omega
  have hneg : ¬ ((n : Int) < 0) := by omega
  have hns : ¬ (n * i.size = 0) := Nat.mul_ne_zero hn' (by omega)
  simp [Builtin.append_, run_underlying ht, run_underlying htn, sizeOf, typeInfo, zeroValue, hi, hz, asInt, asIntOf, hw, hn, hn', hneg, hns, h63', h48', h48i, Question.forced, hold, newRow, grownCap]

theorem repV_mem {l : List Value} {u : Value} : ∀ {n : Nat}, u ∈ repV l n → u ∈ l
  | 0, h => by simp [repV] at h
  | n + 1, h => by
    simp only [repV, List.mem_append] at h
    rcases h with h | h
    · exact h
    · exact repV_mem h
/-- WHAT AN append OF m ELEMENTS COMES TO, whatever its second argument is. -/
structure ASrc (P : Program) (t tx ty e : TypeId) (i : TypeInfo) (x : Value) (m : Nat) (vs : List Value) (w : World) : Prop where
  newsLen : vs.length = m * i.size
  zero : m = 0 → ∀ (A : Option Addr) (n cap : Nat), n ≤ cap → (Builtin.append_ #[t, tx] ty #[.slice A n cap, x]).run P w = .ok (.slice A n cap) w
  room : 0 < m → ∀ (b off sLen sCap : Nat), sLen + m ≤ sCap → (sLen + m) * i.bytes ≤ 140737488355328 → sLen + m ≤ 140737488355328 → (∀ j, j < vs.length → (w.cell? ⟨b, off + sLen * i.size + j, none⟩).isSome = true) → (∀ j, j < vs.length → w.frozen? ⟨b, off + sLen * i.size + j, none⟩ = false) →
    (Builtin.append_ #[t, tx] ty #[.slice (some ⟨b, off, none⟩) sLen sCap, x]).run P w = .ok (.slice (some ⟨b, off, none⟩) (sLen + m) sCap) (w.setCells b (off + sLen * i.size) vs)
  grow : 0 < m → ∀ (z : Value), i.zero = some z → ∀ (base : Option Addr) (sLen sCap : Nat) (olds : List Value), (Builtin.firstCells i.size sLen (.slice base sLen sCap)).run P w.drew = .ok olds.toArray w.drew → sCap < sLen + m → (sLen + m) * i.bytes ≤ 140737488355328 → sLen + m ≤ 140737488355328 →
    (Builtin.append_ #[t, tx] ty #[.slice base sLen sCap, x]).run P w = .ok (.slice (some ⟨w.heap.size, 0, none⟩) (sLen + m) (grownCap w (sLen + m) sCap e))
      (w.drew.alloc (.cells ((olds ++ vs).toArray ++ Builtin.zeroCells z.cells (grownCap w (sLen + m) sCap e - (sLen + m))) e))

theorem ASrc.of {t tx ty e : TypeId} {i : TypeInfo} {x : Value} {m : Nat} {vs : List Value} (ht : P.underlying t = some (.slice e)) (hi : P.info? e = some i) (src : Src P i.size tx x m vs w) : ASrc P t tx ty e i x m vs w := by
  refine ⟨src.newsLen, fun hm A n cap hn => ?_, fun _ b off sLen sCap h1 _ _ h2 h3 => run_append_room_src (P := P) w t tx ty e i ht hi b off sLen sCap x m vs src h1 h2 h3,
    fun _ z hz base sLen sCap olds h1 h2 h3 h4 => run_append_grow_src (P := P) w t tx ty e i z ht hi hz base sLen sCap olds h1 x m vs src h2 (by omega) (growslice_fits h2 h3)⟩
  subst hm
  have hnil : vs = [] := List.eq_nil_of_length_eq_zero (by rw [src.newsLen]; simp)
  subst hnil
  exact run_append_zero ht (by simp [szOf, hi]) src hn

theorem ASrc.zeros {t tx ty e : TypeId} {i : TypeInfo} {z0 : Value} {kn k : IntKind} {m : Nat} (ht : P.underlying t = some (.slice e)) (htn : P.underlying tx = some (.int kn)) (hi : P.info? e = some i) (hz0 : i.zero = some z0) (hsz : z0.cells.size = i.size) (hs0 : 0 < i.size)
    (hone : ∀ u ∈ z0.cells.toList, u.oneCell' = true) : ASrc P t tx ty e i (.int k m) m (repV z0.cells.toList m) w := by
  have hlen : (repV z0.cells.toList m).length = m * i.size := by rw [repV_length]; simp [hsz]
  have hrow : (Builtin.zeroCells z0.cells m).toList = repV z0.cells.toList m := zero_row z0.cells m
  refine ⟨hlen, fun hm A n cap hn => ?_, fun hm b off sLen sCap h1 h48 h63 hc hf => ?_, fun hm z hz base sLen sCap olds h1 h2 h48 h63 => ?_⟩
  · subst hm
    have hw : IntKind.i64.wrap 0 = 0 := by rw [wrap_i64']; rfl
    cases A <;> simp [Builtin.append_, run_underlying ht, run_underlying htn, sizeOf, typeInfo, hi, asInt, asIntOf, hw, hn, storeCells]
  · have hst := run_storeCells_cells (P := P) b (off + sLen * i.size) (repV z0.cells.toList m) 0 w (by simpa using hc) (by simpa using hf) (fun u hu => hone u (repV_mem hu))
    simp only [Nat.add_zero] at hst
    have hn' : m ≠ 0 := by omega
    have hw : IntKind.i64.wrap (m : Int) = m := by rw [wrap_i64']; omega
    have hle : m * i.bytes ≤ (sLen + m) * i.bytes := Nat.mul_le_mul_right _ (by omega)
    have h48i : ¬ (281474976710656 < (m : Int) * (i.bytes : Int)) := by rw [← Int.natCast_mul]; omega
    have hneg : ¬ ((m : Int) < 0) := by omega
    have hns : ¬ (m * i.size = 0) := Nat.mul_ne_zero hn' (by omega)
    simp [Builtin.append_, run_underlying ht, run_underlying htn, sizeOf, typeInfo, zeroValue, hi, hz0, asInt, asIntOf, hw, hn', hneg, hns, h48i, h1, hrow, Addr.add_lit, hst]
  · have : z = z0 := by rw [hz0] at hz; simpa using hz.symm
    subst this
    rw [run_append_grow_zeros (P := P) w t tx ty e i z kn k ht htn hi hz base sLen sCap olds h1 m hm hs0 h2 (by omega) h48]
    congr 3
    apply Array.ext'
    simp [hrow]

theorem fits_appendM {t tx e : TypeId} {i : TypeInfo} {z : Value} {s x : Operand} {m : Nat} {news : List CV} {vs : List Value} {r : CV × List Box} (ho : o.op = .call { callee := .builtin .append, args := #[s, x], argTypes := #[t, tx] }) (hB : BRel N I μ B w) (hs : V I μ w (opv fr s) (a.eval s))
    (hi : P.info? e = some i) (hiz : i.zero = some z) (hzs : z.cells.size = i.size) (hzs' : ¬ i.size = 0) (hvs : R I μ w true news vs) (src : ASrc P t tx o.type e i (a.eval x) m vs w)
    (h : appendM P e i.size B (opv fr s) m news = some r) : Fits P N I μ w o a r.1 r.2 := by
  have hby : P.bytesOf e = i.bytes := by simp [Program.bytesOf, hi]
  have hvl := hvs.len
  have hnl := src.newsLen
  unfold appendM at h
  split at h
  · rename_i hm
    split at h
    · rename_i e1
      rw [e1] at hs h
      simp at h; subst h
      have h1 := hs.nilS_inv
      exact fits_value hB (v := a.eval s) (run_call_builtin ho (by simp [builtin, h1, src.zero hm _ _ _ (Nat.le_refl 0)])) hs
    · rename_i n cs full e1
      rw [e1] at hs h
      simp at h; subst h
      rcases hs.lst_inv with ⟨b, o', cap, us, h1, _, _, h2, _⟩ | ⟨A, h1, _, _⟩
      · exact fits_value hB (v := a.eval s) (run_call_builtin ho (by simp [builtin, h1, src.zero hm _ _ _ h2])) hs
      · exact fits_value hB (v := a.eval s) (run_call_builtin ho (by simp [builtin, h1, src.zero hm _ _ _ (Nat.le_refl 0)])) hs
    · rename_i b off n sz full e1
      rw [e1] at hs h
      simp at h; subst h
      rcases hs.view_inv with ⟨ps, p, cap, h1, _, _, _, _, h2, _, _⟩ | ⟨A, h1, _, _⟩
      · exact fits_value hB (v := a.eval s) (run_call_builtin ho (by simp [builtin, h1, src.zero hm _ _ _ h2])) hs
      · exact fits_value hB (v := a.eval s) (run_call_builtin ho (by simp [builtin, h1, src.zero hm _ _ _ (Nat.le_refl 0)])) hs
    · rename_i b off n cap sz e1
      rw [e1] at hs h
      simp at h; subst h
      rcases hs.cview_inv with ⟨ps, p, h1, _, _, _, _, h2, _⟩ | ⟨A, h1, _, _, _⟩
      · exact fits_value hB (v := a.eval s) (run_call_builtin ho (by simp [builtin, h1, src.zero hm _ _ _ h2])) hs
      · exact fits_value hB (v := a.eval s) (run_call_builtin ho (by simp [builtin, h1, src.zero hm _ _ _ (Nat.le_refl 0)])) hs
    · cases h
  · rename_i hm
    have hmp : 0 < m := by omega
    -- a new row
    have grow : ∀ (A : Option Addr) (n cap : Nat) (olds : List CV) (us : List Value), a.eval s = .slice A n cap → cap < n + m → R I μ w true olds us → us.length = n * i.size →
        (us = [] ∨ ∃ b o, A = some ⟨b, o, none⟩ ∧ ∀ j u, us[j]? = some u → w.cell? ⟨b, o + j, none⟩ = some u) → (n + m) * i.bytes ≤ 140737488355328 → n + m ≤ 140737488355328 →
        Fits P N I μ w o a (.view B.length 0 (n + m) i.size false) (B ++ [{ cells := olds ++ news }]) := by
      intro A n cap olds us h1 h2 h3 h4 h5 h6 h7
      have hrun := src.grow hmp z hiz A n cap us (run_firstCells' (w := w.drew) (P := P) h4 (by
        rcases h5 with h5 | ⟨b, o, h5, h8⟩
        · exact .inl h5
        · exact .inr ⟨b, o, h5, fun j u hj => h8 j u hj⟩)) h2 h6 h7
      have hcap := grownCap_ge w (n + m) cap e
      have holds := h3.len
      refine fits_push (w' := w.drew.alloc (.cells ((us ++ vs).toArray ++ Builtin.zeroCells z.cells (grownCap w (n + m) cap e - (n + m))) e)) (rest := (Builtin.zeroCells z.cells (grownCap w (n + m) cap e - (n + m))).toList) hB
        (run_call_append ho h1 hrun) rfl rfl ⟨rfl, rfl, rfl⟩ (fun j _ hj => by omega) (h3.append hvs) (by simp) (fun _ hf => ?_)
      have hk2 : (olds ++ news).length = (n + m) * i.size := by rw [List.length_append, holds, hvl, h4, hnl, Nat.add_mul]
      refine .view B.length 0 (n + m) i.size false _ ⟨w.heap.size, 0, 0, (olds ++ news).length⟩ (grownCap w (n + m) cap e) (last_place hB _) (List.mem_singleton.2 rfl) (Nat.le_refl _) (by show 0 + (n + m) * i.size ≤ (olds ++ news).length; rw [hk2]; omega) hcap (by simp) (hf.less ?_) (.nil _)
      simp only [Array.size_append, List.size_toArray, List.length_append, size_zeroCells, hzs, h4, hnl, ← Nat.add_mul]
      have : n + m + (grownCap w (n + m) cap e - (n + m)) = grownCap w (n + m) cap e := by omega
      rw [this]; omega
    split at h
    · rename_i e1
      rw [e1] at hs
      have h1 := hs.nilS_inv
      split at h
      · rename_i hb
        simp at h; subst h
        have := grow none 0 0 [] [] h1 (by omega) (.nil _) (by simp) (.inl rfl) (by rw [Nat.zero_add, ← hby]; exact hb.1) (by omega)
        simpa using this
      · cases h
    · rename_i n cs e1
      rw [e1] at hs
      split at h
      · rename_i hb
        simp at h; subst h
        rcases hs.lst_inv with ⟨b, o', cap, us, h1, h2, h3, h4, h5⟩ | ⟨A, h1, rfl, rfl⟩
        · have hc := h5 rfl
          subst hc
          exact grow _ cap cap cs us h1 (by omega) h2 (by rw [← h2.len]; exact hb.2.2) (.inr ⟨b, o', rfl, fun j u hj => (h3 j u hj).1⟩) (by rw [← hby]; exact hb.1) hb.2.1
        · exact grow A 0 0 [] [] h1 (by omega) (.nil _) (by simp) (.inl rfl) (by rw [← hby]; exact hb.1) hb.2.1
      · cases h
    · rename_i b off n sz full e1
      rw [e1] at hs
      split at h
      · cases h
      · rename_i box hbx
        split at h
        · rename_i hb
          obtain ⟨rfl, hb1, hb2⟩ := hb
          split at h
          · rename_i hfull
            simp at h; subst h
            rcases hs.view_inv with ⟨ps, p, cap, h1, h2, h3, h4, h5, h6, h7, h8⟩ | ⟨A, h1, rfl, _⟩
            · have hc := h7 hfull
              subst hc
              obtain ⟨_, us, g1, g2, g3, _⟩ := view_cells hB hbx h2 h3 h4 h5 (s := off) (e := cap * i.size) (Nat.le_refl _) (Nat.le_refl _)
              exact grow _ cap cap _ us h1 (by omega) g1 g2 (.inr ⟨_, _, rfl, g3⟩) (by rw [← hby]; exact hb1) hb2
            · have := grow A 0 0 [] [] h1 (by omega) (.nil _) (by simp) (.inl rfl) (by rw [← hby]; exact hb1) hb2
              simpa using this
          · split at h
            · rename_i hend
              simp at h; subst h
              have hnews0 : 0 < news.length := by
                rw [hvl, hnl]; exact Nat.mul_pos (by omega) (by omega)
              -- the row grows in a new block
              have grow2 : ∀ (A : Option Addr) (cap : Nat) (us : List Value) (ps : List Place), a.eval s = .slice A n cap → cap < n + m → R I μ w true (box.cells.drop off) us → us.length = n * i.size → μ[b]? = some ps → ps ≠ [] →
                  (us = [] ∨ ∃ b o, A = some ⟨b, o, none⟩ ∧ ∀ j u, us[j]? = some u → w.cell? ⟨b, o + j, none⟩ = some u) →
                  Fits P N I μ w o a (.view b off (n + m) i.size false) (B.set b { cells := box.cells ++ news, multi := true }) := by
                intro A cap us ps h1 h2 h3 h4 hps hne h5
                have hrun := src.grow hmp z hiz A n cap us (run_firstCells' (w := w.drew) (P := P) h4 (by
                  rcases h5 with h5 | ⟨b, o, h5, h8⟩
                  · exact .inl h5
                  · exact .inr ⟨b, o, h5, fun j u hj => h8 j u hj⟩)) h2 (by rw [← hby]; exact hb1) hb2
                have hcap := grownCap_ge w (n + m) cap e
                generalize grownCap w (n + m) cap e = cap' at hrun hcap
                have hcell : ((us ++ vs).toArray ++ Builtin.zeroCells z.cells (cap' - (n + m))).size = cap' * i.size := by
                  simp only [Array.size_append, List.size_toArray, List.length_append, size_zeroCells, hzs, h4, hnl, ← Nat.add_mul]
                  congr 1; omega
                have hcm : (n + m) * i.size ≤ cap' * i.size := Nat.mul_le_mul_right _ hcap
                have hadd : (n + m) * i.size = n * i.size + m * i.size := Nat.add_mul _ _ _
                generalize hW : w.drew.alloc (.cells ((us ++ vs).toArray ++ Builtin.zeroCells z.cells (cap' - (n + m))) e) = W at hrun
                have hp : W.heap = w.heap.push (.cells ((us ++ vs).toArray ++ Builtin.zeroCells z.cells (cap' - (n + m))) e) := by rw [← hW]; rfl
                have hbel : Below N w W := Below.of_heap hB.low hp (by rw [← hW]; rfl) (by rw [← hW]; rfl) (by rw [← hW]; rfl)
                have hfree : Free W w.heap.size (cap' * i.size) := ⟨_, e, (0, 0), push_new hp, by rw [hcell]; exact Nat.le_refl _, fun j _ hj => by omega⟩
                have hbl : n * i.size = box.cells.length - off := by rw [← h4, ← h3.len]; simp
                obtain ⟨g1, g2⟩ := hB.grown (q := ⟨w.heap.size, off, 0, box.cells.length + news.length⟩) hbx hps hne hnews0 hbel (fun b _ h _ => (push_old hp (Array.getElem?_eq_some_iff.1 h).1).trans h) (fun b n hf => hf.of_same (push_old hp hf.lt)) (fun b hf => hf.of_same (push_old hp hf.lt)) (fun b j hbs _ => cell_same (push_old hp hbs)) (.inl ⟨rfl, rfl⟩)
                  (by show off ≤ box.cells.length; omega) rfl (hfree.less (by simp only; omega)) h3 hvs (fun j v hj => by
                    simp only [World.cell?, push_new hp, Nat.zero_add]
                    simp only [Option.isSome_none, Bool.false_eq_true, if_false]
                    rw [← Array.getElem?_toList, Array.toList_append, List.getElem?_append_left (by have := (List.getElem?_eq_some_iff.1 hj).1; simpa using this)]
                    simpa using hj)
                refine ⟨_, _, _, _, W, run_call_append ho h1 hrun, rfl, ?_, g1, g2, hbel⟩
                have hbμ : b < μ.length := (List.getElem?_eq_some_iff.1 hps).1
                have hv := R.view (I := pub I (⟨w.heap.size, off, 0, box.cells.length + news.length⟩ :: ps)) (w := W) (μ := μ.set b (⟨w.heap.size, off, 0, box.cells.length + news.length⟩ :: ps)) (one := false) b off (n + m) i.size false
                  (⟨w.heap.size, off, 0, box.cells.length + news.length⟩ :: ps) ⟨w.heap.size, off, 0, box.cells.length + news.length⟩ cap' (by simp [hbμ]) (by simp) (Nat.le_refl _) (by simp only; omega) hcap (by simp) (by simpa using hfree) (.nil _)
                simpa using hv
              rcases hs.view_inv with ⟨ps, p, cap, h1, h2, h3, h4, h5, h6, h7, h8⟩ | ⟨A, h1, rfl, h2⟩
              · obtain ⟨hkl, us, g1, g2, g3, _⟩ := view_cells hB hbx h2 h3 h4 h5 (s := off) (e := n * i.size) (Nat.le_refl _) (Nat.le_refl _)
                rw [List.take_of_length_le (by simp; omega)] at g1
                by_cases hroom : n + m ≤ cap
                · -- there is room
                  have hmk : n * i.size + m * i.size ≤ cap * i.size := by rw [← Nat.add_mul]; exact Nat.mul_le_mul_right _ hroom
                  have hpo : p.o + (off - p.lo) + n * i.size = p.o + (box.cells.length - p.lo) := by omega
                  have hrun := src.room hmp p.b (p.o + (off - p.lo)) n cap hroom (by rw [← hby]; exact hb1) hb2 (fun j hj => (h8.cell (by omega)).1) (fun j hj => (h8.cell (by omega)).2)
                  obtain ⟨c0, c1, ⟨ws, c2, c3⟩, c4⟩ := place_cells hB hbx h2 h3
                  have hpk : p.k = box.cells.length := by omega
                  have c2' : R I μ w true (box.cells.drop p.lo) ws := by rw [hpk, List.take_of_length_le (Nat.le_refl _)] at c2; exact c2
                  have hwl := c2'.len
                  rw [hpo] at hrun
                  have hfr' : Free w p.b (p.o + (box.cells.length - p.lo) + vs.length) := h8.less (by omega)
                  obtain ⟨g4, g5⟩ := hB.grown (w' := w.setCells p.b (p.o + (box.cells.length - p.lo)) vs) (q := ⟨p.b, p.lo, p.o, box.cells.length + news.length⟩) hbx h2 (List.ne_nil_of_mem h3) hnews0 (setCells_below vs (hB.places b ps p h2 h3).1 w) (setCells_oth vs _ _ w (hB.places b ps p h2 h3).2.2.cells) (fun b n hf => setCells_free vs _ _ w hf) (fun b hf => setCells_plain vs _ _ w hf)
                    (fun b' j _ hj => setCells_out vs w (fun hbb => by
                      rcases hj with hj | hj
                      · exact absurd hbb hj
                      · exact .inl hj)) (.inr ⟨p, h3, rfl, hpk, by rw [hpk]⟩) (by simp only; omega) rfl (setCells_free vs _ _ w (hfr'.less (by simp only; omega))) c2' hvs (fun j v hj => by
                      simp at hwl
                      rcases Nat.lt_or_ge j ws.length with hl | hl
                      · rw [List.getElem?_append_left hl] at hj
                        rw [setCells_out vs w (fun _ => .inl (by simp only; omega))]
                        exact c3 j v hj
                      · rw [List.getElem?_append_right hl] at hj
                        have := setCells_in vs w hfr' hj
                        rwa [show p.o + (box.cells.length - p.lo) + (j - ws.length) = p.o + j by omega] at this)
                  refine ⟨_, _, _, _, _, run_call_append ho h1 hrun, rfl, ?_, g4, g5, setCells_below vs (hB.places b ps p h2 h3).1 w⟩
                  have hbμ : b < μ.length := (List.getElem?_eq_some_iff.1 h2).1
                  exact R.view (one := false) b off (n + m) i.size false
                    (⟨p.b, p.lo, p.o, box.cells.length + news.length⟩ :: ps) ⟨p.b, p.lo, p.o, box.cells.length + news.length⟩ cap (by simp [hbμ]) (by simp) h4 (by simp only; rw [Nat.add_mul]; omega) hroom (by simp) (setCells_free vs _ _ w h8) (.nil _)
                · exact grow2 _ cap us ps h1 (by omega) g1 g2 h2 (List.ne_nil_of_mem h3) (.inr ⟨_, _, rfl, g3⟩)
              · obtain ⟨ps, p, k1, k2⟩ := h2
                exact grow2 A 0 [] ps h1 (by omega) (by rw [List.drop_of_length_le (by omega)]; exact .nil _) (by simp) k1 (List.ne_nil_of_mem k2) (.inl rfl)
            · cases h
        · cases h
    · rename_i b off n cap sz e1
      rw [e1] at hs
      split at h
      · cases h
      · rename_i box hbx
        split at h
        · rename_i hb
          obtain ⟨rfl, hb1, hb2, hb3, hb4⟩ := hb
          split at h
          · rename_i hroom
            simp at h; subst h
            rcases hs.cview_inv with ⟨ps, p, h1, h2, h3, h4, h5, h6, h7⟩ | ⟨A, _, _, h1, _⟩
            · obtain ⟨p', q1, q2, q3, q4, q5, q6, q8⟩ := one_place hB hbx hb3 h2 h3
              have hps : ps = [p'] := by rw [h2] at q1; simpa using q1
              subst hps
              have : p = p' := by simpa using h3
              subst this
              have hmk : n * i.size + m * i.size ≤ cap * i.size := by rw [← Nat.add_mul]; exact Nat.mul_le_mul_right _ hroom
              have hoff : p.o + (off - p.lo) = p.o + off := by omega
              have hrun := src.room hmp p.b (p.o + off) n cap hroom (by rw [← hby]; exact hb1) hb2 (fun j hj => (q8.cell (by omega)).1) (fun j hj => (q8.cell (by omega)).2)
              obtain ⟨g1, g2, g3⟩ := hB.write (off := off + n * i.size) hbx hb3 q1 hvs (by omega)
              rw [Nat.add_assoc] at hrun
              rw [hoff] at h1
              refine ⟨_, _, I, μ, _, run_call_append ho h1 hrun, rfl, ?_, g1, g2, g3⟩
              have hv := R.cview (I := I) (μ := μ) (w := w.setCells p.b (p.o + (off + n * i.size)) vs) (one := false) b off (n + m) cap i.size [p] p q1 (by simp) h4 h5 hroom (setCells_plain vs _ _ w h7) (.nil _)
              rwa [hoff] at hv
            · omega
          · rename_i hroom
            simp at h; subst h
            rcases hs.cview_inv with ⟨ps, p, h1, h2, h3, h4, h5, h6, h7⟩ | ⟨A, h1, rfl, rfl, _⟩
            · have hmul : n * i.size ≤ cap * i.size := Nat.mul_le_mul_right _ h6
              obtain ⟨_, us, g1, g2, g3, _⟩ := view_cells hB hbx h2 h3 h4 (n := n) (sz := i.size) (by omega) (s := off) (e := n * i.size) (Nat.le_refl _) (Nat.le_refl _)
              exact grow _ n cap _ us h1 (by omega) g1 g2 (.inr ⟨_, _, rfl, g3⟩) (by rw [← hby]; exact hb1) hb2
            · have := grow A 0 0 [] [] h1 (by omega) (.nil _) (by simp) (.inl rfl) (by rw [← hby]; exact hb1) hb2
              simpa using this
        · cases h
    · cases h

theorem fits_append {t tx : TypeId} {s x : Operand} {r : CV × List Box} (ho : o.op = .call { callee := .builtin .append, args := #[s, x], argTypes := #[t, tx] }) (hB : BRel N I μ B w) (hfr : ∀ i, V I μ w (fr i) (a.tmps.getD i undef))
    (hk : (∃ e, P.underlying tx = some (.slice e)) ∨ P.underlying tx = some .string) (htx : (∃ l, opv fr x = .str l) → P.underlying tx = some .string)
    (h : appendC P t B (opv fr s) (opv fr x) = some r) : Fits P N I μ w o a r.1 r.2 := by
  have hs := opv_rel hfr s
  have hx := opv_rel hfr x
  unfold appendC at h
  simp only [Option.bind_eq_some_iff] at h
  obtain ⟨e, he, esz, hsz, ⟨m, news⟩, hsrc, h⟩ := h
  simp only at h
  have ht := elemT_some he
  obtain ⟨vs, hvs, src⟩ := src_rel hB hk hx hsrc htx
  obtain ⟨i, hi, rfl⟩ := szOf_info hsz
  split at h
  · cases h
  · rename_i z hz
    have hiz : i.zero = some z := by simpa [hi] using hz
    split at h
    · cases h
    · rename_i hzs
      exact fits_appendM ho hB hs hi hiz (by omega) (by omega) hvs (ASrc.of ht hi src) h

theorem fits_appendZ {t tx : TypeId} {s x : Operand} {kn k : IntKind} {m : Int} {r : CV × List Box} (ho : o.op = .call { callee := .builtin .append, args := #[s, x], argTypes := #[t, tx] }) (hB : BRel N I μ B w) (hfr : ∀ i, V I μ w (fr i) (a.tmps.getD i undef))
    (htn : P.underlying tx = some (.int kn)) (hx : opv fr x = .int k m) (hm : 0 ≤ m) (h : appendZ P t B (opv fr s) m.toNat = some r) : Fits P N I μ w o a r.1 r.2 := by
  have hs := opv_rel hfr s
  have hxv := opv_rel hfr x
  rw [hx] at hxv
  have hxv := hxv.int_inv
  obtain ⟨m, rfl⟩ := Int.eq_ofNat_of_zero_le hm
  rw [Int.toNat_natCast] at h
  unfold appendZ at h
  simp only [Option.bind_eq_some_iff] at h
  obtain ⟨e, he, esz, hsz, zs, hzs, h⟩ := h
  have ht := elemT_some he
  obtain ⟨i, hi, rfl⟩ := szOf_info hsz
  obtain ⟨z, _, hz, hzr⟩ := zeros_rel (I := I) (μ := μ) (w := w) hzs
  have hiz : i.zero = some z := by simpa [hi] using hz
  split at h
  · cases h
  · rename_i hnz
    have hzc : z.cells.size = i.size := by have := hzr.len; simp at this; omega
    have src : ASrc P t tx o.type e i (.int k m) m (repV z.cells.toList m) w := ASrc.zeros ht htn hi hiz hzc (by omega) hzr.oneCells
    rw [← hxv] at src
    exact fits_appendM ho hB hs hi hiz hzc (by omega) (rep_rel hzr m) src h

end
end Go.Sy
