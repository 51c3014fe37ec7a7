/-
  Composite values, made slices, appends, copies, strings and bytes.
-/
import Derived.Test.YtjlfblcoghiijaaSyI
namespace Go.Sy
set_option linter.all false
open Go.RowKit (Below)

section
variable {P : Program} {N : Nat} {I : Nat → Nat → Prop} {μ : List (List Place)} {B : List Box} {w : World} {o : Oper} {a : Act} {fr : Fr} {c : CV}

theorem fits_build {t : TypeId} {parts : Array (Nat × Operand)} {r : CV × List Box} (ho : o.op = .build t parts) (hB : BRel N I μ B w) (hfr : ∀ i, V I μ w (fr i) (a.tmps.getD i undef))
    (h : ev P o fr B = some r) : Fits P N I μ w o a r.1 r.2 := by
  simp only [ev, ho, Option.bind_eq_some_iff] at h
  obtain ⟨zs, hz, h⟩ := h
  obtain ⟨z, h1, _, h2⟩ := zeros_rel (I := I) (μ := μ) (w := w) hz
  have hp := map_toList (a := a) parts
  split at h
  · rename_i fs hu
    split at h
    · cases h
    · rename_i hall
      simp only [Option.map_eq_some_iff] at h
      obtain ⟨cs, hc, rfl⟩ := h
      have hall' : ∀ f ∈ fs, ∃ n, szOf P f.type = some n := by
        intro f hf
        simp only [Bool.not_eq_false, List.all_eq_true] at hall
        exact Option.isSome_iff_exists.1 (hall f (by simpa using hf))
      have hm := mapM_sizes (P := P) (w := w) hall'
      have hpl : (fun (i : Nat) => (fs[i]?).bind fun (f : Field) => (szOf P f.type).map (f.offset, ·)) = fun (i : Nat) => (fs.map fun (f : Field) => (f.offset, P.cellsOf f.type))[i]? := by
        funext i
        rw [Array.getElem?_map]
        cases hf : fs[i]? with
        | none => rfl
        | some f =>
          obtain ⟨n, hn⟩ := hall' f (Array.mem_of_getElem? hf)
          have hc : P.cellsOf f.type = n := by unfold szOf at hn; simp [Program.cellsOf, hn]
          simp [hn, hc]
      rw [hpl] at hc
      obtain ⟨cells', g1, g2⟩ := fill_rel hfr parts.toList zs z.cells cs h2 hc
      rw [← hp] at g1
      refine fits_value hB (v := .agg cells') ?_ (by have := R.agg (bs := cells'.toList) g2 (.nil (I := I) (μ := μ) (w := w) false); simpa using this)
      simp only [execOp, ho, Instr.build, Sem.run_bind, h1, Result.andThen_ok, run_underlying hu, hm, g1, Sem.run_pure]
  · rename_i n e hu
    simp only [Option.bind_eq_some_iff, Option.map_eq_some_iff] at h
    obtain ⟨esz, hs, cs, hc, rfl⟩ := h
    obtain ⟨cells', g1, g2⟩ := fill_rel hfr parts.toList zs z.cells cs h2 hc
    rw [← hp] at g1
    refine fits_value hB (v := .agg cells') ?_ (by have := R.agg (bs := cells'.toList) g2 (.nil (I := I) (μ := μ) (w := w) false); simpa using this)
    simp only [execOp, ho, Instr.build, Sem.run_bind, h1, Result.andThen_ok, run_underlying hu, run_sizeOf' hs, g1, Sem.run_pure]
  · cases h

def repV (l : List Value) : Nat → List Value
  | 0 => []
  | n + 1 => l ++ repV l n
theorem repV_length (l : List Value) (n : Nat) : (repV l n).length = n * l.length := by
  induction n with
  | zero => simp [repV]
  | succ n ih => simp [repV, ih, Nat.succ_mul, Nat.add_comm]
theorem repC_length (l : List CV) (n : Nat) : (repC l n).length = n * l.length := by
  induction n with
  | zero => simp [repC]
  | succ n ih => simp [repC, ih, Nat.succ_mul, Nat.add_comm]
theorem repV_add (l : List Value) (m n : Nat) : repV l (m + n) = repV l m ++ repV l n := by
  induction m with
  | zero => simp [repV]
  | succ m ih => rw [Nat.succ_add]; simp [repV, ih]
theorem rep_rel {zs : List CV} {l : List Value} (h : R I μ w true zs l) (n : Nat) : R I μ w true (repC zs n) (repV l n) := by
  induction n with
  | zero => exact .nil _
  | succ n ih => exact h.append ih

theorem zero_row (z : Array Value) (n : Nat) : ((Array.range (n * z.size)).map (fun i => z[i % z.size]!)).toList = repV z.toList n := by
  rw [Array.toList_map, Array.toList_range]
  induction n with
  | zero => simp [repV]
  | succ n ih =>
    rw [Nat.succ_mul, Nat.add_comm, List.range_add, List.map_append, repV, ← ih]
    congr 1
    · apply List.ext_getElem
      · simp
      · intro i h1 h2
        have hi : i < z.size := by simpa using h1
        simp [Nat.mod_eq_of_lt hi, hi]
    · simp [List.map_map, Function.comp_def]

theorem fits_buildSlice {t : TypeId} {n : Nat} {parts : Array (Nat × Operand)} {r : CV × List Box} (ho : o.op = .buildSlice t n parts) (hB : BRel N I μ B w) (hfr : ∀ i, V I μ w (fr i) (a.tmps.getD i undef))
    (h : ev P o fr B = some r) : Fits P N I μ w o a r.1 r.2 := by
  simp only [ev, ho, Option.bind_eq_some_iff] at h
  obtain ⟨e, he, esz, hs, h⟩ := h
  split at h
  · cases h
  · rename_i hle
    simp only [Option.bind_eq_some_iff] at h
    obtain ⟨zs, hz, h⟩ := h
    split at h
    · cases h
    · rename_i hzl
      simp only [Option.map_eq_some_iff] at h
      obtain ⟨cs, hc, rfl⟩ := h
      obtain ⟨z, h1, _, h2⟩ := zeros_rel (I := I) (μ := μ) (w := w) hz
      have hzs : z.cells.size = esz := by have := h2.len; simp at this; omega
      have hu := elemT_some he
      have hrow := zero_row z.cells n
      rw [hzs] at hrow
      have hp := map_toList (a := a) parts
      have hcells : ∃ cells0 : Array Value, cells0 = (Array.range (n * esz)).map (fun i => (if n * esz = 0 then #[] else z.cells)[i % (if n * esz = 0 then (#[] : Array Value) else z.cells).size]!) ∧ cells0.toList = repV z.cells.toList n := by
        refine ⟨_, rfl, ?_⟩
        by_cases h0 : n * esz = 0
        · have hn0 : n = 0 := by
            rcases Nat.mul_eq_zero.1 h0 with h0 | h0
            · exact h0
            · omega
          subst hn0
          simp [repV]
        · simp only [if_neg h0, hzs]
          exact hrow
      obtain ⟨cells0, e0, e1⟩ := hcells
      obtain ⟨cells', g1, g2⟩ := fill_rel hfr parts.toList (repC zs n) cells0 cs (by rw [e1]; exact rep_rel h2 n) hc
      rw [← hp] at g1
      obtain ⟨b1, b2⟩ := hB.fresh (w' := w.alloc (.cells cells' e)) (cells := cells') (ty := e) (fz := (0, 0)) rfl
      refine ⟨.value (.slice (some ⟨w.heap.size, 0, none⟩) n n), .slice (some ⟨w.heap.size, 0, none⟩) n n, _, _, w.alloc (.cells cells' e), ?_, rfl, ?_, b1, b2, Below.of_heap hB.low rfl rfl rfl rfl⟩
      · have h24 : ¬ (n * esz > 2 ^ 24) := by omega
        by_cases h0 : n * esz = 0
        · simp only [if_pos h0] at e0
          simp only [execOp, ho, Instr.buildSlice, Sem.run_bind, run_underlying hu, Result.andThen_ok, run_sizeOf' hs, if_neg h24, Sem.run_pure, if_pos h0, ← e0, g1]
          simp [newRow]
        · simp only [if_neg h0] at e0
          simp only [execOp, ho, Instr.buildSlice, Sem.run_bind, run_underlying hu, Result.andThen_ok, run_sizeOf' hs, if_neg h24, Sem.run_pure, if_neg h0, h1, ← e0, g1]
          simp [newRow]
      · refine .lst n true w.heap.size 0 n (g2.ext b2.toKeep) (fun j v hj => ⟨?_, .inr rfl⟩) (Nat.le_refl _) (fun _ => rfl) (.nil _)
        simp only [World.cell?, push_new (alloc_heap w _), Nat.zero_add]
        simpa using hj

theorem fits_makeSlice {t : TypeId} {x y : Operand} {r : CV × List Box} (ho : o.op = .makeSlice t x y) (hB : BRel N I μ B w) (hfr : ∀ i, V I μ w (fr i) (a.tmps.getD i undef))
    (h : ev P o fr B = some r) : Fits P N I μ w o a r.1 r.2 := by
  have hx := opv_rel hfr x
  have hy := opv_rel hfr y
  simp only [ev, ho, Option.bind_eq_some_iff] at h
  obtain ⟨e, he, esz, hs, zs, hz, h⟩ := h
  split at h
  · cases h
  · rename_i hzl
    split at h
    · rename_i k l k' c e1 e2
      rw [e1] at hx
      rw [e2] at hy
      have hx := hx.int_inv
      have hy := hy.int_inv
      split at h
      · rename_i hcond
        obtain ⟨hl0, hlc, hc40, hby⟩ := hcond
        simp at h; subst h
        obtain ⟨z, h1, hz1, h2⟩ := zeros_rel (I := I) (μ := μ) (w := w) hz
        have hzs : z.cells.size = esz := by have := h2.len; simp at this; omega
        have hu := elemT_some he
        obtain ⟨ln, rfl⟩ : ∃ n : Nat, l = n := ⟨l.toNat, by omega⟩
        obtain ⟨cn, rfl⟩ : ∃ n : Nat, c = n := ⟨c.toNat, by omega⟩
        have hwl : IntKind.i64.wrap (ln : Int) = ln := IntWalk.i64_in _ (by omega)
        have hwc : IntKind.i64.wrap (cn : Int) = cn := IntWalk.i64_in _ (by omega)
        have hrow := zero_row z.cells cn
        rw [hzs] at hrow
        have hcells : ∃ cells0 : Array Value, cells0 = (Array.range (cn * esz)).map (fun i => (if cn * esz = 0 then #[] else z.cells)[i % (if cn * esz = 0 then (#[] : Array Value) else z.cells).size]!) ∧ cells0.toList = repV z.cells.toList cn := by
          refine ⟨_, rfl, ?_⟩
          by_cases h0 : cn * esz = 0
          · have : (repV z.cells.toList cn) = [] := List.eq_nil_of_length_eq_zero (by rw [repV_length]; simpa [hzs] using h0)
            simp [h0, this]
          · simp only [if_neg h0, hzs]
            exact hrow
        obtain ⟨cells0, e0, e3⟩ := hcells
        have hsz : cells0.size = cn * esz := by rw [← Array.length_toList, e3, repV_length]; simp [hzs]
        obtain ⟨i, hi⟩ : ∃ i, P.info? e = some i := by
          unfold szOf at hs
          simp only [Option.map_eq_some_iff] at hs
          obtain ⟨i, hi, _⟩ := hs
          exact ⟨i, hi⟩
        have hbo : P.bytesOf e = i.bytes := by simp [Program.bytesOf, hi]
        rw [hbo] at hby
        refine fits_push (w' := w.alloc (.cells cells0 e)) (nx := .value (.slice (some ⟨w.heap.size, 0, none⟩) ln cn)) (rest := repV z.cells.toList (cn - ln)) hB ?_ rfl rfl ⟨rfl, rfl, rfl⟩ (fun j _ hj => by omega) (rep_rel h2 ln) ?_ (fun _ hfree => ?_)
        · have hL1 : ¬ (281474976710656 < (i.bytes : Int) * (cn : Int)) := by omega
          have hcn : ¬ ((cn : Int) < 0) := by omega
          have hln : ¬ ((ln : Int) < 0) := by omega
          have hlc' : ¬ ((cn : Int) < (ln : Int)) := by omega
          by_cases h0 : cn * esz = 0
          · simp only [if_pos h0] at e0
            have e0' : cells0 = #[] := by apply Array.ext'; rw [e3]; exact List.eq_nil_of_length_eq_zero (by rw [repV_length]; simpa [hzs] using h0)
            simp [execOp, ho, Instr.makeSlice, run_underlying hu, hx, hy, asInt, asIntOf, typeInfo, hi, hwl, hwc, hL1, run_sizeOf' hs, h0, newRow, e0', hcn, hln, hlc', show Array.range 0 = #[] from rfl]
          · simp only [if_neg h0] at e0
            simp [execOp, ho, Instr.makeSlice, run_underlying hu, hx, hy, asInt, asIntOf, typeInfo, hi, hwl, hwc, hL1, run_sizeOf' hs, h0, newRow, h1, e0, hcn, hln, hlc']
        · rw [e3, ← repV_add]
          congr 1
          omega
        · have hz3 : zs.length = esz := by omega
          have hv := R.view (I := I) (w := w.alloc (.cells cells0 e)) (one := false) B.length 0 ln esz (decide ((ln : Int) = cn)) [⟨w.heap.size, 0, 0, (repC zs ln).length⟩] ⟨w.heap.size, 0, 0, (repC zs ln).length⟩ cn (last_place hB _) (List.mem_singleton.2 rfl) (Nat.le_refl _)
            (by rw [repC_length, hz3, Nat.zero_add]; exact Nat.le_refl _) (by omega) (fun hd => by have := of_decide_eq_true hd; omega) (by simpa [hsz] using hfree) (.nil _)
          simpa using hv
      · cases h
    · cases h

end
end Go.Sy
