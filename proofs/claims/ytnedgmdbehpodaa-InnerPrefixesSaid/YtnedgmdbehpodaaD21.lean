import Derived.Test.YtnedgmdbehpodaaD20
import Derived.Test.YtnedgmdbehpodaaSyW
namespace Go.Proofs.Ytnedgmdbehpodaa
open Go Go.Sy
set_option linter.all false
set_option maxRecDepth 100000
set_option maxHeartbeats 4000000
open Go.ChangeShapes Go.WideShapes
section
variable {H : Type} {enc : TypeId × Value → H} {P : Program} {W : World} {base : Nat} {spare : Nat → Bool} {held : Bool}
theorem cells_bytes {t e : TypeId} {n fuel : Nat} {cs : List Value} {x : DataW H × List MemPlace} (hu : P.underlying t = some (.array n e)) (he : P.underlying e = some (.int .u8)) (hc : P.cellsOf e = 1) (hn : P.cellsOf t = n)
    (h : DataW.trod enc P W base spare held fuel t cs = some x) : ∃ l : List UInt8, l.length = n ∧ cs = l.map fun b => Value.int .u8 (b.toNat : Int) := by
  obtain ⟨xs, m, rfl, _, hl, hx, hi⟩ := DataW.trod_array hu h
  obtain ⟨l, hl'⟩ := bytes_cells cs fun v hv => by
    obtain ⟨i, hi1, hi2⟩ := List.mem_iff_getElem.1 hv
    have hin : i < n := by rw [← hn, ← hl]; exact hi1
    have := hi i hin
    rw [hc, List.getElem?_eq_getElem (by omega), Nat.mul_one] at this
    rw [show (cs.drop i).take 1 = [v] from by rw [List.drop_eq_getElem_cons hi1, hi2]; rfl] at this
    obtain ⟨k, h1, h2, h3⟩ := DataW.trod_int he this
    simp at h1
    exact ⟨k, h1, h3⟩
  refine ⟨l, ?_, hl'⟩
  have := congrArg List.length hl'
  simp only [List.length_map] at this
  rw [← this, hl, hn]
/-- Two fields side by side. -/
theorem cells_two {t : TypeId} {f0 f1 : Field} {fuel : Nat} {cs : List Value} {x : DataW H × List MemPlace} {a b : Nat} (ht : P.underlying t = some (.struct #[f0, f1])) (h0 : f0.offset = 0) (ha : P.cellsOf f0.type = a) (h1 : f1.offset = a) (hb : P.cellsOf f1.type = b) (hn : P.cellsOf t = a + b)
    (h : DataW.trod enc P W base spare held fuel t cs = some x) : ∃ n c0 c1 y0 y1, cs = c0 ++ c1 ∧ DataW.trod enc P W base spare held n f0.type c0 = some y0 ∧ DataW.trod enc P W base spare held n f1.type c1 = some y1 := by
  obtain ⟨xs, n, _, _, hl, hlen, hf⟩ := DataW.trod_struct ht h
  match xs, hlen with
  | [y0, y1], _ =>
    have g0 := hf 0 f0 rfl
    have g1 := hf 1 f1 rfl
    rw [h0, ha, List.drop_zero] at g0
    rw [h1, hb, List.take_of_length_le (by rw [List.length_drop]; omega)] at g1
    exact ⟨n, cs.take a, cs.drop a, y0, y1, (List.take_append_drop a cs).symm, g0, g1⟩
theorem open_addr {r : Reach} {b0 : Nat} {t e : TypeId} {f0 f1 : Field} {v : Value} {d : DataW H} {ps : List MemPlace} (ht : P.underlying t = some (.struct #[f0, f1])) (h0 : f0.offset = 0) (ha : P.cellsOf f0.type = 1) (h1 : f1.offset = 1) (hb : P.cellsOf f1.type = 16) (hn : P.cellsOf t = 17)
    (hu0 : P.underlying f0.type = some .bool) (hu1 : P.underlying f1.type = some (.array 16 e)) (he : P.underlying e = some (.int .u8)) (hc : P.cellsOf e = 1)
    (hval : Value.okWide P W r b0 t v) (hd : DataW.Trod enc P W base spare held t v d ps) : ∃ (six : Bool) (A : List UInt8), A.length = 16 ∧ V (Old W) [] W (addrC six A) v := by
  obtain ⟨cs, rfl, _⟩ := okWide_struct ht hval
  obtain ⟨fuel, hf⟩ := hd
  obtain ⟨n, c0, c1, y0, y1, hcs, g0, g1⟩ := cells_two ht h0 ha h1 hb hn hf
  obtain ⟨six, rfl, _⟩ := DataW.trod_bool hu0 g0
  obtain ⟨A, hA, rfl⟩ := cells_bytes hu1 he hc hb g1
  refine ⟨six, A, hA, ?_⟩
  have hcs : cs.toList = _ := hcs
  rw [← Array.toArray_toList (xs := cs), hcs]
  exact .agg (.bool _ (R_bytes _ _ _ _ A)) (.nil _)
theorem open_pref {r : Reach} {b0 : Nat} {t e : TypeId} {f0 f1 g0 g1 : Field} {v : Value} {d : DataW H} {ps : List MemPlace} (ht : P.underlying t = some (.struct #[g0, g1])) (k0 : g0.offset = 0) (ka : P.cellsOf g0.type = 17) (k1 : g1.offset = 17) (kb : P.cellsOf g1.type = 1) (kn : P.cellsOf t = 18)
    (hu : P.underlying g0.type = some (.struct #[f0, f1])) (h0 : f0.offset = 0) (ha : P.cellsOf f0.type = 1) (h1 : f1.offset = 1) (hb : P.cellsOf f1.type = 16)
    (hu0 : P.underlying f0.type = some .bool) (hu1 : P.underlying f1.type = some (.array 16 e)) (he : P.underlying e = some (.int .u8)) (hc : P.cellsOf e = 1) (hk : P.underlying g1.type = some (.int .i64))
    (hval : Value.okWide P W r b0 t v) (hd : DataW.Trod enc P W base spare held t v d ps) : ∃ (six : Bool) (A : List UInt8) (s : Int), A.length = 16 ∧ (Lit.int .i64 s).wf = true ∧ V (Old W) [] W (prefC six A s) v := by
  obtain ⟨cs, rfl, _⟩ := okWide_struct ht hval
  obtain ⟨fuel, hf⟩ := hd
  obtain ⟨n, c0, c1, y0, y1, hcs, q0, q1⟩ := cells_two ht k0 ka k1 kb kn hf
  obtain ⟨n2, c2, c3, y2, y3, rfl, q2, q3⟩ := cells_two hu h0 ha h1 hb ka q0
  obtain ⟨six, rfl, _⟩ := DataW.trod_bool hu0 q2
  obtain ⟨A, hA, rfl⟩ := cells_bytes hu1 he hc hb q3
  obtain ⟨s, rfl, _, hs⟩ := DataW.trod_int hk q1
  refine ⟨six, A, s, hA, hs, ?_⟩
  have hcs : cs.toList = _ := hcs
  rw [← Array.toArray_toList (xs := cs), hcs]
  exact .agg (.bool _ ((R_bytes _ _ _ _ A).append (.int _ _ (.nil _)))) (.nil _)
end
end Go.Proofs.Ytnedgmdbehpodaa
