/-
  The library's 'overlaps' on a row that nobody writes and one of the call's own; an append whose capacity becomes known.
-/
import Derived.Test.YtjlfblcoghiijaaSyX
import Derived.Laws.Externs
namespace Go.Sy
set_option linter.all false
open Go.RowKit (Below)

section
variable {P : Program} {n : Nat} {B : List Box}

theorem run_overlaps_plain (w : World) (tS tR e : TypeId) (ht : P.underlying tS = some (.slice e)) (size : Nat) (hz : ∀ w, (Go.sizeOf e).run P w = .ok size w)
    (a b : Addr) (la ca lb cb : Nat) (hne : a.block ≠ b.block) (tA tB : TypeId) (kA kB : Nat)
    (hsa : w.shape? a.block = some (tA, kA)) (hkA : kA ≠ 0) (hsb : w.shape? b.block = some (tB, kB)) (hkB : kB ≠ 0)
    (hfb : w.frozen? b = false) (hfe : w.frozen? { block := b.block, off := kB } = false) :
    (Extern.SlicesOverlaps.overlaps #[tS, tS] #[tR] #[.slice (some a) la ca, .slice (some b) lb cb]).run P w = .ok (.bool false) w := by
  have hnb : (a.block != b.block) = true := by simpa using hne
  have hnb' : (a.block == b.block) = false := by simpa using hne
  change Sem.run P (α := Value) (do
    let some t := (#[tS, tS] : Array TypeId)[0]? | stuck "slices.overlaps: no parameter types"
    let .slice elem ← underlying t | stuck "slices.overlaps: slice type expected"
    let size ← sizeOf elem
    match (some a : Option Addr), (some b : Option Addr) with
    | some a, some b =>
      if la = 0 ∨ lb = 0 ∨ size = 0 then pure (Value.bool false)
      else if a.block != b.block && (← frozen a) && (← frozen b) then unsupported .addressObserved
      else do
        if a.block != b.block then do
          noView a; noView b
          if ← mayBeOne a b then return Value.bool ((← choose (.extern "sameAddr.stringBytes" 2)) == 1)
        pure (Value.bool (a.block == b.block && a.off < b.off + lb * size && b.off < a.off + la * size))
    | _, _ => pure (Value.bool false)) w = _
  by_cases h0 : la = 0 ∨ lb = 0 ∨ size = 0
  · simp [run_underlying ht, hz, h0]
  · cases kB with
    | zero => exact absurd rfl hkB
    | succ kB =>
      cases kA with
      | zero => exact absurd rfl hkA
      | succ kA =>
        cases hfa : w.frozen? a <;> cases hfae : w.frozen? { block := a.block, off := kA + 1 } <;>
          simp [run_underlying ht, hz, h0, hnb, hnb', frozen, noView, viewAt, mayBeOne, stringish, shape, Sem.run, hsa, hsb, hfb, hfe, hfa, hfae]

theorem shape_of_cell {w : World} {b j : Nat} {v : Value} (h : w.cell? ⟨b, j, none⟩ = some v) : ∃ t k, w.shape? b = some (t, k) ∧ k ≠ 0 := by
  unfold World.cell? at h
  unfold World.shape?
  cases hh : w.heap[b]? with
  | none => simp [hh] at h
  | some o =>
    cases o with
    | cells c t fz =>
      refine ⟨t, c.size, rfl, fun h0 => ?_⟩
      have hc : c = #[] := Array.size_eq_zero_iff.1 h0
      subst hc
      simp [hh] at h
    | _ => simp [hh] at h

theorem ecall_overlaps {f : FuncId} {fn : Func} {tS tR e : TypeId} {size : Nat} (hf : P.funcs[f]? = some fn) (hname : (fn.name == "runtime.NumGoroutine") = false) (hb : fn.body.isNone = true) (hn : Extern.findNext fn = none)
    (he : Extern.find fn = some (Extern.SlicesOverlaps.overlaps #[tS, tS] #[tR])) (ht : P.underlying tS = some (.slice e)) (hz : szOf P e = some size)
    {m : Nat} {vs : List CV} {full : Bool} {b off k cap : Nat} {cells : List CV} (hvs : vs ≠ []) (hbx : B[b]? = some ⟨cells, false⟩) :
    ECall P f [.lst m vs full, .cview b off k cap size] B fun c B' => c = .bool false ∧ B' = B := by
  intro N I μ w us hB hR
  obtain ⟨v1, us1, rfl, h1, _, hR⟩ := R.cons_iff.1 hR
  obtain ⟨v2, us2, rfl, h2, _, hR⟩ := R.cons_iff.1 hR
  rw [R.nil_iff] at hR
  subst hR
  have hrun : ∀ r, (Extern.SlicesOverlaps.overlaps #[tS, tS] #[tR] #[v1, v2]).run P w = .ok r w → (callFunc f [v1, v2].toArray).run P w = .ok (.value r) w := by
    intro r hr
    rw [run_callFunc_extern hf hname hb hn he]
    show ((Extern.SlicesOverlaps.overlaps #[tS, tS] #[tR] #[v1, v2]).run P w).andThen _ = _
    rw [hr]; rfl
  refine ⟨.bool false, w, .bool false, B, I, μ, hrun _ ?_, ⟨rfl, rfl⟩, .bool _ (.nil _), hB, .refl _ _ _, Below.refl _ _⟩
  have hz' : ∀ w, (Go.sizeOf e).run P w = .ok size w := fun w => run_sizeOf' hz w
  rcases h1.lst_inv with ⟨vb, vo, vc, ws, rfl, g1, g2, g3, _⟩ | ⟨A, _, _, h⟩
  · have hwl := g1.len
    cases ws with
    | nil => simp at hwl; exact absurd hwl hvs
    | cons w0 ws =>
      obtain ⟨c0, i0⟩ := g2 0 w0 rfl
      rcases h2.cview_inv with ⟨ps, p, rfl, q1, q2, q3, q4, q5, q6⟩ | ⟨A, rfl, rfl, rfl, _⟩
      · obtain ⟨p', r1, _, _, _, r5, _, _⟩ := one_place hB hbx rfl q1 q2
        have hps : ps = [p'] := by rw [q1] at r1; simpa using r1
        subst hps
        have : p = p' := by simpa using q2
        subst this
        have hne : vb ≠ p.b := fun e => r5 (vo + 0) (by rw [← e]; exact i0)
        obtain ⟨tA, kA, s1, s2⟩ := shape_of_cell c0
        obtain ⟨bc, tB, hpl⟩ := q6
        by_cases hk0 : k = 0
        · subst hk0
          show Sem.run P (α := Value) (do
            let some t := (#[tS, tS] : Array TypeId)[0]? | stuck "slices.overlaps: no parameter types"
            let .slice elem ← underlying t | stuck "slices.overlaps: slice type expected"
            let size ← sizeOf elem
            match (some ⟨vb, vo, none⟩ : Option Addr), (some ⟨p.b, p.o + (off - p.lo), none⟩ : Option Addr) with
            | some a, some b =>
              if m = 0 ∨ 0 = 0 ∨ size = 0 then pure (Value.bool false)
              else if a.block != b.block && (← frozen a) && (← frozen b) then unsupported .addressObserved
              else do
                if a.block != b.block then do
                  noView a; noView b
                  if ← mayBeOne a b then return Value.bool ((← choose (.extern "sameAddr.stringBytes" 2)) == 1)
                pure (Value.bool (a.block == b.block && a.off < b.off + 0 * size && b.off < a.off + m * size))
            | _, _ => pure (Value.bool false)) w = _
          simp [run_underlying ht, hz']
        · by_cases hbs : bc.size = 0
          · by_cases hsz : size = 0
            · show Sem.run P (α := Value) (do
                let some t := (#[tS, tS] : Array TypeId)[0]? | stuck "slices.overlaps: no parameter types"
                let .slice elem ← underlying t | stuck "slices.overlaps: slice type expected"
                let size ← sizeOf elem
                match (some ⟨vb, vo, none⟩ : Option Addr), (some ⟨p.b, p.o + (off - p.lo), none⟩ : Option Addr) with
                | some a, some b =>
                  if m = 0 ∨ k = 0 ∨ size = 0 then pure (Value.bool false)
                  else if a.block != b.block && (← frozen a) && (← frozen b) then unsupported .addressObserved
                  else do
                    if a.block != b.block then do
                      noView a; noView b
                      if ← mayBeOne a b then return Value.bool ((← choose (.extern "sameAddr.stringBytes" 2)) == 1)
                    pure (Value.bool (a.block == b.block && a.off < b.off + k * size && b.off < a.off + m * size))
                | _, _ => pure (Value.bool false)) w = _
              simp [run_underlying ht, hz', hsz]
            · exfalso
              have hfr := (hB.places b [p] p q1 (by simp)).2.2
              obtain ⟨c', t', fz', f1, f2, _⟩ := hfr
              rw [hpl] at f1
              simp only [Option.some.injEq, Obj.cells.injEq] at f1
              obtain ⟨rfl, _, _⟩ := f1
              have hle := (hB.places b [p] p q1 (by simp)).2.1
              have h1 : k * size ≤ cap * size := Nat.mul_le_mul_right _ q5
              have h2 : 0 < k * size := Nat.mul_pos (by omega) (by omega)
              omega
          · exact run_overlaps_plain w tS tR e ht size hz' ⟨vb, vo, none⟩ ⟨p.b, p.o + (off - p.lo), none⟩ m vc k cap hne tA tB kA bc.size s1 s2 (by simp [World.shape?, hpl]) hbs (by simp [World.frozen?, hpl]) (by simp [World.frozen?, hpl])
      · show Sem.run P (α := Value) (do
          let some t := (#[tS, tS] : Array TypeId)[0]? | stuck "slices.overlaps: no parameter types"
          let .slice elem ← underlying t | stuck "slices.overlaps: slice type expected"
          let size ← sizeOf elem
          match (some ⟨vb, vo, none⟩ : Option Addr), A with
          | some a, some b =>
            if m = 0 ∨ 0 = 0 ∨ size = 0 then pure (Value.bool false)
            else if a.block != b.block && (← frozen a) && (← frozen b) then unsupported .addressObserved
            else do
              if a.block != b.block then do
                noView a; noView b
                if ← mayBeOne a b then return Value.bool ((← choose (.extern "sameAddr.stringBytes" 2)) == 1)
              pure (Value.bool (a.block == b.block && a.off < b.off + 0 * size && b.off < a.off + m * size))
          | _, _ => pure (Value.bool false)) w = _
        cases A <;> simp [run_underlying ht, hz']
  · exact absurd h hvs
/-- A call of a function without a body, its answer by an equation. -/
theorem o_ecall_eq {n : Nat} {ops : Array Oper} {fr : Fr} {q : Fr → List Box → Prop} {rest : List Oper} {dst : Option Tmp} {f : Operand} {args : Array Operand} {ts : Array TypeId} {ty : TypeId} {pos : String} {after : Array Edge} {g : FuncId} {first caps all : List CV} {c : CV} {B' : List Box}
    (hd : dstOk n ⟨dst, .call { callee := .value f, args, argTypes := ts }, ty, pos, after, none⟩ = true) (hf : Is (opv fr f) (.fn (.func g) first caps)) (ha : Is (first ++ args.toList.map (opv fr) ++ caps) all)
    (hc : ECall P g all B fun c' B'' => c' = c ∧ B'' = B') (h : WPo P n ops q rest (upd fr dst c) B') : WPo P n ops q (⟨dst, .call { callee := .value f, args, argTypes := ts }, ty, pos, after, none⟩ :: rest) fr B :=
  o_ecall hd hf ha hc h
/-- An append that has no room: whatever the new capacity. -/
theorem o_appendG {n : Nat} {ops : Array Oper} {fr : Fr} {q : Fr → List Box → Prop} {rest : List Oper} {dst : Option Tmp} {y z : Operand} {t tx : TypeId} {ty : TypeId} {pos : String} {after : Array Edge} {e esz m k : Nat} {zs news olds : List CV} {s x : CV}
    (hd : dstOk n ⟨dst, .call { callee := .builtin .append, args := #[y, z], argTypes := #[t, tx] }, ty, pos, after, none⟩ = true) (hs : Is (opv fr y) s) (hx : Is (opv fr z) x)
    (he : elemT P t = some e) (hsz : szOf P e = some esz) (hzs : zerosOf P e = some zs) (hzl : zs.length = esz) (hz0 : esz ≠ 0) (hk : ∃ e', P.underlying tx = some (.slice e')) (hsrc : srcC B esz x = some (m, news)) (hns : ∀ l, x ≠ .str l) (hm : m ≠ 0)
    (hold : s = .nilS ∧ k = 0 ∧ olds = [] ∨ s = .lst k olds true ∧ olds.length = k * esz ∨ ∃ b off c0 box, s = .cview b off k c0 esz ∧ B[b]? = some box ∧ c0 < k + m ∧ olds = (box.cells.drop off).take (k * esz)) (hb1 : (k + m) * P.bytesOf e ≤ 140737488355328) (hb2 : k + m ≤ 140737488355328)
    (h : ∀ cap, k + m ≤ cap → WPo P n ops q rest (upd fr dst (.cview B.length 0 (k + m) cap esz)) (B ++ [{ cells := olds ++ news ++ repC zs (cap - (k + m)) }])) :
    WPo P n ops q (⟨dst, .call { callee := .builtin .append, args := #[y, z], argTypes := #[t, tx] }, ty, pos, after, none⟩ :: rest) fr B := by
  have hs : opv fr y = s := hs
  have hx : opv fr z = x := hx
  unfold WPo
  refine ⟨hd, fun _ => .inr ?_, fun h => by cases h⟩
  show StepG P _ fr B _
  unfold StepG
  simp only [List.map_cons, List.map_nil, hs, hx]
  exact ⟨e, esz, zs, m, news, k, olds, he, hsz, hzs, hzl, hz0, hk, hsrc, hns, hm, hold, hb1, hb2, h⟩
/-- An empty slice that may be nil. -/
theorem o_nilEq {n : Nat} {ops : Array Oper} {fr : Fr} {q : Fr → List Box → Prop} {rest : List Oper} {dst : Option Tmp} {op : BinOp} {t yt e : TypeId} {x y : Operand} {ty : TypeId} {pos : String} {after : Array Edge}
    (hd : dstOk n ⟨dst, .binOp op t x y yt, ty, pos, after, none⟩ = true) (ht : P.underlying t = some (.slice e)) (hy : Is (opv fr y) .nilS) (hx : Is (lenC (opv fr x)) (some 0)) (hop : op = .eql ∨ op = .neq)
    (h1 : WPo P n ops q rest (upd fr dst (.bool true)) B) (h2 : WPo P n ops q rest (upd fr dst (.bool false)) B) : WPo P n ops q (⟨dst, .binOp op t x y yt, ty, pos, after, none⟩ :: rest) fr B := by
  unfold WPo
  refine ⟨hd, fun _ => .inr ?_, fun h => by cases h⟩
  show StepG P _ fr B _
  unfold StepG
  exact ⟨⟨e, ht⟩, hy, hx, hop, h1, h2⟩
end
end Go.Sy
