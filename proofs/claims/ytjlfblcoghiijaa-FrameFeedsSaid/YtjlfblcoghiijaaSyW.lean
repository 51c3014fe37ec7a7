/-
  From a contract on values to what a row asks: the arguments opened, the call, the memory behind it.
-/
import Derived.Test.YtjlfblcoghiijaaSyX
import Derived.OpenShut
import Derived.ShutString
import Derived.ChangeOld
import Derived.Below
import Derived.ProofKit
namespace Go.Sy
set_option linter.all false
open Go.RowKit (Below)
open Go.ChangeShapes Go.WideShapes

section
variable {H : Type} {enc : TypeId × Value → H} {P : Program} {W : World} {base : Nat} {held : Bool}

def Old (W : World) : Nat → Nat → Prop := fun b _ => b < W.heap.size

theorem fz_true {fr nz : Bool} {B : List Box} {k : Nat} {c : CV} {t : Bool} (h : fz nz fr B k c = some (.bool t)) : c = .bool t := by
  cases k with
  | zero => simp [fz] at h
  | succ k =>
    cases c <;> simp only [fz] at h
    case bool b => simpa using h
    case nilS => cases nz <;> simp at h
    case view => split at h <;> simp at h
    case cview => split at h <;> simp at h
    case ptr => split at h <;> (try split at h) <;> simp at h
    case lst => split at h <;> simp at h
    case iptr => split at h <;> simp at h
    case fn => split at h <;> simp at h
    all_goals simp at h

/-- THE CALL, as a row asks of it. -/
theorem PC.calls {fr : Bool} {f : FuncId} {args : List CV} {vs : List Value} (h : PC P fr f args (.bool true)) (hv : R (Old W) [] W false args vs) : Calls P f vs.toArray W fun e w' => e = .returned (.bool true) ∧ Below W.heap.size W w' := by
  refine (h.2 W.heap.size (Old W) [] W vs (BRel.none_ W _ fun _ _ h => h) hv).mono fun e w' ⟨c, v, B', I', μ', he, hQ, hs⟩ => ?_
  have := fz_true hQ
  subst this
  exact ⟨by rw [he, hs.val.bool_inv], hs.below⟩

theorem byte_of_wf {n : Int} (h : (Lit.int .u8 n).wf = true) : ∃ b : UInt8, n = b.toNat := by
  have := bounds_u8 h
  exact ⟨UInt8.ofNat n.toNat, by simp; omega⟩

/-- A row of bytes in cells. -/
theorem bytes_cells : ∀ (vs : List Value), (∀ v ∈ vs, ∃ n, v = .int .u8 n ∧ (Lit.int .u8 n).wf = true) → ∃ l : List UInt8, vs = l.map fun b => .int .u8 (b.toNat : Int)
  | [], _ => ⟨[], rfl⟩
  | v :: vs, h => by
    obtain ⟨n, rfl, hn⟩ := h v (by simp)
    obtain ⟨b, rfl⟩ := byte_of_wf hn
    obtain ⟨l, rfl⟩ := bytes_cells vs fun v hv => h v (by simp [hv])
    exact ⟨b :: l, rfl⟩
theorem R_bytes (I : Nat → Nat → Prop) (μ : List (List Place)) (w : World) (one : Bool) : ∀ l : List UInt8, R I μ w one (l.map byteC) (l.map fun b => .int .u8 (b.toNat : Int))
  | [] => .nil _
  | b :: l => .int _ _ (R_bytes I μ w one l)

theorem open_byteArray {r : Reach} {b0 : Nat} {t e : TypeId} {n : Nat} {v : Value} {d : DataW H} {ps : List MemPlace} (hu : P.underlying t = some (.array n e)) (he : P.underlying e = some (.int .u8)) (hc : P.cellsOf e = 1) (hn : P.cellsOf t = n)
    (hval : Value.okWide P W r b0 t v) (hd : DataW.Trod enc P W base (fun _ => true) held t v d ps) : ∃ l : List UInt8, l.length = n ∧ v = .agg (l.map fun b => Value.int .u8 (b.toNat : Int)).toArray := by
  unfold Value.okWide at hval
  simp only [hu] at hval
  obtain ⟨cs, rfl, hcs, _⟩ := hval
  obtain ⟨fuel, hf⟩ := hd
  obtain ⟨xs, m, rfl, _, hl, hx, hi⟩ := DataW.trod_array hu hf
  simp only [Value.cells] at hi hl
  obtain ⟨l, hl'⟩ := bytes_cells cs.toList fun v hv => by
    obtain ⟨i, hi1, hi2⟩ := List.mem_iff_getElem.1 hv
    have hin : i < n := by rw [← hn, ← hl]; exact hi1
    have := hi i hin
    rw [hc, List.getElem?_eq_getElem (by omega), Nat.mul_one] at this
    rw [show (cs.toList.drop i).take 1 = [v] from by rw [List.drop_eq_getElem_cons hi1]; simp [← hi2]] at this
    obtain ⟨k, h1, h2, h3⟩ := DataW.trod_int he this
    simp at h1
    exact ⟨k, h1, h3⟩
  refine ⟨l, ?_, ?_⟩
  · have := congrArg List.length hl'
    simp only [List.length_map] at this
    rw [← this, hl, hn]
  · rw [← hl']
theorem V_byteArray {I : Nat → Nat → Prop} {μ : List (List Place)} {w : World} (l : List UInt8) : V I μ w (.agg (l.map byteC)) (.agg (l.map fun b => Value.int .u8 (b.toNat : Int)).toArray) := .agg (R_bytes _ _ _ _ l) (.nil _)

theorem open_bytes {r : Reach} {b0 : Nat} {t e : TypeId} {v : Value} {d : DataW H} {ps : List MemPlace} (ht : P.underlying t = some (.slice e)) (he : P.underlying e = some (.int .u8)) (hc : P.cellsOf e = 1)
    (hval : Value.okWide P W r b0 t v) (hd : DataW.Trod enc P W base (fun _ => true) held t v d ps) : ∃ l : List UInt8, l.length ≤ maxLen ∧ V (Old W) [] W (lb l) v := by
  obtain ⟨a0, len0, cap0, rfl⟩ := okWide_slice ht hval
  obtain ⟨fuel, hf⟩ := hd
  rcases open_ints ht he hc hf with ⟨hcs, _⟩ | ⟨x, l, c, zs, hcs, _, hl, hm, hz, _, hcell, hwz⟩
  · simp [Value.cells] at hcs
    obtain ⟨rfl, rfl, rfl⟩ := hcs
    exact ⟨[], by simp, .lstE _ _ (.nil _)⟩
  · simp [Value.cells] at hcs
    obtain ⟨rfl, rfl, rfl⟩ := hcs
    simp only [if_true] at hz
    by_cases hc0 : cap0 = 0
    · subst hc0
      obtain rfl : len0 = 0 := by omega
      exact ⟨[], by simp, .lstE _ _ (.nil _)⟩
    · obtain ⟨b, off, spot⟩ := x
      have hspot : spot = none := by simpa [Addr.add] using World.cell?_spot (hcell 0 (by omega))
      subst hspot
      obtain ⟨bl, hbl⟩ := bytes_cells ((zs.take len0).map (Value.int .u8)) fun v hv => by
        obtain ⟨n, hn, rfl⟩ := List.mem_map.1 hv
        exact ⟨n, rfl, hwz n (List.mem_of_mem_take hn)⟩
      have hlen : bl.length = len0 := by
        have := congrArg List.length hbl
        simp at this; omega
      refine ⟨bl, by omega, ?_⟩
      rw [lb, hlen]
      refine .lst len0 false b off cap0 (R_bytes _ _ _ _ bl) (fun j v hj => ?_) hl (fun h => by cases h) (.nil _)
      rw [← hbl] at hj
      have hjl : j < len0 := by have := (List.getElem?_eq_some_iff.1 hj).1; simp at this; omega
      have h1 := hcell j (by omega)
      rw [show Addr.add ⟨b, off, none⟩ j = ⟨b, off + j, none⟩ by unfold Addr.add; split <;> simp_all] at h1
      have h2 : v = .int .u8 (zs.getD j 0) := by
        rw [List.getElem?_map, List.getElem?_take_of_lt hjl, List.getElem?_eq_getElem (by omega)] at hj
        simp at hj
        rw [← hj, List.getD_eq_getElem?_getD, List.getElem?_eq_getElem (by omega)]; rfl
      subst h2
      refine ⟨h1, ?_⟩
      unfold World.cell? at h1
      show b < W.heap.size
      rcases Nat.lt_or_ge b W.heap.size with hb | hb
      · exact hb
      · have : W.heap[b]? = none := Array.getElem?_eq_none hb
        simp [this] at h1

theorem open_str {r : Reach} {b0 : Nat} {t : TypeId} {v : Value} {d : DataW H} {ps : List MemPlace} (ht : P.underlying t = some .string) (hval : Value.okWide P W r b0 t v) (hd : DataW.Trod enc P W base (fun _ => true) held t v d ps) :
    ∃ l : List UInt8, l.length ≤ maxLen ∧ V (Old W) [] W (.str l) v := by
  obtain ⟨s, rfl, _, _, hs⟩ := Go.ChangeMaps.open_string ht hval hd
  refine ⟨s.data.toList, by simpa using hs, ?_⟩
  exact .str s.data.toList (.nil _)
theorem open_i {r : Reach} {b0 : Nat} {t : TypeId} {k : IntKind} {v : Value} {d : DataW H} {ps : List MemPlace} (ht : P.underlying t = some (.int k)) (hval : Value.okWide P W r b0 t v) (hd : DataW.Trod enc P W base (fun _ => true) held t v d ps) :
    ∃ n, (Lit.int k n).wf = true ∧ V (Old W) [] W (.int k n) v := by
  obtain ⟨n, rfl, _, _, hw⟩ := ChangeShapes.open_int ht hval hd
  exact ⟨n, hw, .int _ _ (.nil _)⟩
theorem open_byte {r : Reach} {b0 : Nat} {t : TypeId} {v : Value} {d : DataW H} {ps : List MemPlace} (ht : P.underlying t = some (.int .u8)) (hval : Value.okWide P W r b0 t v) (hd : DataW.Trod enc P W base (fun _ => true) held t v d ps) :
    ∃ b : UInt8, V (Old W) [] W (byteC b) v := by
  obtain ⟨n, hw, h⟩ := open_i ht hval hd
  obtain ⟨b, rfl⟩ := byte_of_wf hw
  exact ⟨b, h⟩
theorem open_b {r : Reach} {b0 : Nat} {t : TypeId} {v : Value} {d : DataW H} {ps : List MemPlace} (ht : P.underlying t = some .bool) (hval : Value.okWide P W r b0 t v) (hd : DataW.Trod enc P W base (fun _ => true) held t v d ps) :
    ∃ b : Bool, V (Old W) [] W (.bool b) v := by
  obtain ⟨b, rfl, _⟩ := RowKit.open_bool ht hval hd
  exact ⟨b, .bool _ (.nil _)⟩
theorem V_cons {I : Nat → Nat → Prop} {μ : List (List Place)} {w : World} {c : CV} {v : Value} {cs : List CV} {vs : List Value} (h : V I μ w c v) (hs : R I μ w false cs vs) : R I μ w false (c :: cs) (v :: vs) := .cons h (by simp) hs
end
end Go.Sy
