/-
  Openers: what a parameter of a type built of ints, bools, strings, arrays of bytes, structs and slices holds, as canonical values.
-/
import Derived.Test.YtjlfblcoghiijaaSyW
namespace Go.Sy
set_option linter.all false
open Go.RowKit (Below)
open Go.ChangeShapes Go.WideShapes

section
variable {H : Type} {enc : TypeId × Value → H} {P : Program} {W : World} {base : Nat} {held : Bool}

/-- Cells of type t are those of some a that is as 'ok' says. -/
def Opn (enc : TypeId × Value → H) (P : Program) (W : World) (base : Nat) (held : Bool) (t : TypeId) {α : Type} (f : α → List CV) (ok : α → Prop) : Prop :=
  ∀ (fuel : Nat) (cs : List Value) (x : DataW H × List MemPlace), DataW.trod enc P W base (fun _ => true) held fuel t cs = some x → ∃ a, ok a ∧ R (Old W) [] W true (f a) cs

theorem Opn.mono {t : TypeId} {α : Type} {f : α → List CV} {ok ok' : α → Prop} (h : Opn enc P W base held t f ok) (hk : ∀ a, ok a → ok' a) : Opn enc P W base held t f ok' := fun fuel cs x hx =>
  let ⟨a, h1, h2⟩ := h fuel cs x hx; ⟨a, hk a h1, h2⟩

theorem opn_int {t : TypeId} {k : IntKind} (ht : P.underlying t = some (.int k)) : Opn enc P W base held t (fun n => [.int k n]) (fun n => (Lit.int k n).wf = true) := fun fuel cs x hx => by
  obtain ⟨n, rfl, _, hw⟩ := DataW.trod_int ht hx
  exact ⟨n, hw, .int _ _ (.nil _)⟩
theorem opn_i64 {t : TypeId} (ht : P.underlying t = some (.int .i64)) : Opn enc P W base held t (fun n => [.int .i64 n]) (fun n => -9223372036854775808 ≤ n ∧ n ≤ 9223372036854775807) := (opn_int ht).mono fun _ h => bounds_i64 h
theorem opn_u16 {t : TypeId} (ht : P.underlying t = some (.int .u16)) : Opn enc P W base held t (fun n => [.int .u16 n]) (fun n => 0 ≤ n ∧ n ≤ 65535) := (opn_int ht).mono fun _ h => bounds_u16 h
theorem opn_u32 {t : TypeId} (ht : P.underlying t = some (.int .u32)) : Opn enc P W base held t (fun n => [.int .u32 n]) (fun n => 0 ≤ n ∧ n ≤ 4294967295) := (opn_int ht).mono fun _ h => bounds_u32 h
theorem opn_u64 {t : TypeId} (ht : P.underlying t = some (.int .u64)) : Opn enc P W base held t (fun n => [.int .u64 n]) (fun n => 0 ≤ n ∧ n ≤ 18446744073709551615) := (opn_int ht).mono fun _ h => bounds_u64 h
theorem opn_byte {t : TypeId} (ht : P.underlying t = some (.int .u8)) : Opn enc P W base held t (fun b : UInt8 => [byteC b]) (fun _ => True) := fun fuel cs x hx => by
  obtain ⟨n, rfl, _, hw⟩ := DataW.trod_int ht hx
  obtain ⟨b, rfl⟩ := byte_of_wf hw
  exact ⟨b, trivial, .int _ _ (.nil _)⟩
theorem opn_bool {t : TypeId} (ht : P.underlying t = some .bool) : Opn enc P W base held t (fun b : Bool => [.bool b]) (fun _ => True) := fun fuel cs x hx => by
  obtain ⟨b, rfl, _⟩ := DataW.trod_bool ht hx
  exact ⟨b, trivial, .bool _ (.nil _)⟩
theorem opn_str {t : TypeId} (ht : P.underlying t = some .string) : Opn enc P W base held t (fun l : List UInt8 => [.str l]) (fun l => l.length ≤ maxLen) := fun fuel cs x hx => by
  obtain ⟨s, rfl, _, hs⟩ := DataW.trod_string ht hx
  exact ⟨s.data.toList, by simpa using hs, .str s.data.toList (.nil _)⟩
theorem opn_byteArray {t e : TypeId} {n : Nat} (hu : P.underlying t = some (.array n e)) (he : P.underlying e = some (.int .u8)) (hc : P.cellsOf e = 1) (hn : P.cellsOf t = n) : Opn enc P W base held t (fun l : List UInt8 => l.map byteC) (fun l => l.length = n) := fun fuel cs x hx => by
  obtain ⟨xs, m, rfl, _, hl, hx, hi⟩ := DataW.trod_array hu hx
  obtain ⟨l, hl'⟩ := bytes_cells cs fun v hv => by
    obtain ⟨i, hi1, hi2⟩ := List.mem_iff_getElem.1 hv
    have hin : i < n := by rw [← hn, ← hl]; exact hi1
    have := hi i hin
    rw [hc, List.getElem?_eq_getElem (by omega), Nat.mul_one] at this
    rw [show (cs.drop i).take 1 = [v] from by rw [List.drop_eq_getElem_cons hi1, hi2]; rfl] at this
    obtain ⟨k, h1, h2, h3⟩ := DataW.trod_int he this
    simp at h1
    exact ⟨k, h1, h3⟩
  refine ⟨l, ?_, by rw [hl']; exact R_bytes _ _ _ _ l⟩
  show l.length = n
  have := congrArg List.length hl'
  simp only [List.length_map] at this
  rw [← this, hl, hn]

/-- The fields of a struct, one behind the other. -/
inductive OpnF (enc : TypeId × Value → H) (P : Program) (W : World) (base : Nat) (held : Bool) : (off : Nat) → List Field → {α : Type} → (α → List CV) → (α → Prop) → Prop
  | one {off : Nat} {f : Field} {α : Type} {g : α → List CV} {ok : α → Prop} (h0 : f.offset = off) (h : Opn enc P W base held f.type g ok) : OpnF enc P W base held off [f] g ok
  | cons {off n : Nat} {f : Field} {fs : List Field} {α β : Type} {g : α → List CV} {ok : α → Prop} {g' : β → List CV} {ok' : β → Prop} (h0 : f.offset = off) (hc : P.cellsOf f.type = n) (h : Opn enc P W base held f.type g ok)
      (hs : OpnF enc P W base held (off + n) fs g' ok') : OpnF enc P W base held off (f :: fs) (fun p : α × β => g p.1 ++ g' p.2) (fun p => ok p.1 ∧ ok' p.2)
theorem opnF {fuel : Nat} {cs : List Value} {off : Nat} {fs : List Field} {α : Type} {g : α → List CV} {ok : α → Prop} (h : OpnF enc P W base held off fs g ok) (hx : ∀ f ∈ fs, ∃ y, DataW.trod enc P W base (fun _ => true) held fuel f.type ((cs.drop f.offset).take (P.cellsOf f.type)) = some y)
    (hl : ∀ f, fs.getLast? = some f → cs.length = f.offset + P.cellsOf f.type) : ∃ a, ok a ∧ R (Old W) [] W true (g a) (cs.drop off) := by
  induction h with
  | @one off f α g ok h0 h =>
    obtain ⟨y, hy⟩ := hx f (by simp)
    have hl := hl f rfl
    rw [h0] at hy hl
    obtain ⟨a, h1, h2⟩ := h _ _ _ hy
    refine ⟨a, h1, ?_⟩
    rwa [List.take_of_length_le (by rw [List.length_drop]; omega)] at h2
  | @cons off n f fs α β g ok g' ok' h0 hc h hs ih =>
    obtain ⟨y, hy⟩ := hx f (by simp)
    rw [h0, hc] at hy
    obtain ⟨a, h1, h2⟩ := h _ _ _ hy
    obtain ⟨b, h3, h4⟩ := ih (fun f hf => hx f (by simp [hf])) (fun f' hf' => hl f' (by
      cases fs with
      | nil => simp at hf'
      | cons f1 fs => rw [List.getLast?_cons_cons]; exact hf'))
    refine ⟨(a, b), ⟨h1, h3⟩, ?_⟩
    rw [← List.take_append_drop n (cs.drop off), List.drop_drop]
    exact h2.append h4
theorem opn_struct {t : TypeId} {fs : Array Field} {l : List Field} {f : Field} {α : Type} {g : α → List CV} {ok : α → Prop} (ht : P.underlying t = some (.struct fs)) (hl : fs.toList = l) (hf : l.getLast? = some f) (hn : P.cellsOf t = f.offset + P.cellsOf f.type) (h : OpnF enc P W base held 0 l g ok) : Opn enc P W base held t g ok := fun fuel cs x hx => by
  obtain ⟨xs, n, rfl, _, hlen, hxs, hi⟩ := DataW.trod_struct ht hx
  have := opnF (fuel := n) (cs := cs) h (fun f hf => by
    obtain ⟨i, hi1, hi2⟩ := List.mem_iff_getElem.1 hf
    have hfi : fs[i]? = some f := by rw [← Array.getElem?_toList, hl, List.getElem?_eq_getElem hi1, hi2]
    have hil : i < xs.length := by rw [hxs]; exact (Array.getElem?_eq_some_iff.1 hfi).1
    exact ⟨xs[i], by rw [hi i f hfi, List.getElem?_eq_getElem hil]⟩) (fun f' hf' => by
    rw [hf] at hf'; cases hf'; rw [hlen, hn])
  simpa using this

/-- Rows. -/
theorem row_cells {α : Type} {g : α → List CV} {ok : α → Prop} {z : Nat} {b o : Nat} : ∀ (n i : Nat), (∀ j, i ≤ j → j < i + n → ∃ a vs, ok a ∧ R (Old W) [] W true (g a) vs ∧ vs.length = z ∧ ∀ k v, vs[k]? = some v → W.cell? ⟨b, o + j * z + k, none⟩ = some v) →
    ∃ (l : List α) (vs : List Value), l.length = n ∧ (∀ a ∈ l, ok a) ∧ R (Old W) [] W true (l.flatMap g) vs ∧ vs.length = n * z ∧ ∀ k v, vs[k]? = some v → W.cell? ⟨b, o + i * z + k, none⟩ = some v
  | 0, i, _ => ⟨[], [], rfl, by simp, .nil _, by simp, by simp⟩
  | n + 1, i, h => by
    obtain ⟨a, vs, h1, h2, h3, h4⟩ := h i (Nat.le_refl _) (by omega)
    obtain ⟨l, us, g1, g2, g3, g4, g5⟩ := row_cells n (i + 1) (fun j h1 h2 => h j (by omega) (by omega))
    refine ⟨a :: l, vs ++ us, by simp [g1], fun x hx => ?_, ?_, by rw [List.length_append, h3, g4, Nat.succ_mul]; omega, fun k v hk => ?_⟩
    · rcases List.mem_cons.1 hx with rfl | hx
      · exact h1
      · exact g2 x hx
    · rw [List.flatMap_cons]; exact h2.append g3
    · rcases Nat.lt_or_ge k z with hkz | hkz
      · rw [List.getElem?_append_left (by omega)] at hk
        exact h4 k v hk
      · rw [List.getElem?_append_right (by omega), h3] at hk
        have := g5 _ v hk
        rw [Nat.succ_mul] at this
        rw [show o + i * z + k = o + (i * z + z) + (k - z) by omega]
        exact this
theorem cells_at {a : Addr} {n : Nat} {vs : List Value} (h : W.cells? base a n = some vs) : vs.length = n ∧ ∀ (k : Nat) (v : Value), vs[k]? = some v → W.cell? (a.add k) = some v := by
  unfold World.cells? at h
  split at h
  · refine ⟨by simpa using mapM_some_length h, fun k v hk => ?_⟩
    have hkn : k < n := by
      have h1 := (List.getElem?_eq_some_iff.1 hk).1
      have h2 : vs.length = n := by simpa using mapM_some_length h
      omega
    have := mapM_some_get h k k (by simp [hkn])
    rw [this, hk]
  · cases h
theorem add_none (b o k : Nat) : Addr.add ⟨b, o, none⟩ k = ⟨b, o + k, none⟩ := by unfold Addr.add; split <;> simp_all
theorem opn_slice {t e : TypeId} {α : Type} {g : α → List CV} {ok : α → Prop} {z : Nat} (ht : P.underlying t = some (.slice e)) (hz : P.cellsOf e = z) (hz0 : 0 < z) (h : Opn enc P W base held e g ok) :
    Opn enc P W base held t (fun l : List α => [.lst l.length (l.flatMap g) false]) (fun l => l.length ≤ maxLen ∧ ∀ a ∈ l, ok a) := fun fuel cs x hx => by
  rcases DataW.trod_slice ht hx with ⟨rfl, _⟩ | ⟨a, len, cap, elems, rest, n, _, rfl, _, hb, hl, hm, hlen, hel, hsp, _⟩
  · exact ⟨[], ⟨by simp, by simp⟩, .lstE _ _ (.nil _)⟩
  · obtain ⟨hrl, hr⟩ := hsp rfl
    by_cases hc0 : cap = 0
    · subst hc0
      obtain rfl : len = 0 := by omega
      exact ⟨[], ⟨by simp, by simp⟩, .lstE _ _ (.nil _)⟩
    · have hat : ∀ i, i < cap → ∃ vs y, W.cells? base (a.add (i * z)) z = some vs ∧ DataW.trod enc P W base (fun _ => true) held n e vs = some y := by
        intro i hi
        rcases Nat.lt_or_ge i len with h1 | h1
        · have := hel i h1
          rw [hz, List.getElem?_eq_getElem (by omega)] at this
          obtain ⟨vs, h2, h3⟩ := Option.bind_eq_some_iff.1 this
          exact ⟨vs, _, h2, h3⟩
        · have := hr (i - len) (by omega)
          rw [hz, List.getElem?_eq_getElem (by omega), show len + (i - len) = i by omega] at this
          obtain ⟨vs, h2, h3⟩ := Option.bind_eq_some_iff.1 this
          exact ⟨vs, _, h2, h3⟩
      obtain ⟨b, off, spot⟩ := a
      have hspot : spot = none := by
        obtain ⟨vs, y, h1, _⟩ := hat 0 (by omega)
        obtain ⟨h2, h3⟩ := cells_at h1
        have h4 := h3 0 vs[0] (List.getElem?_eq_getElem (by omega))
        have := World.cell?_spot h4
        simpa [Addr.add] using this
      subst hspot
      obtain ⟨l, vs, h1, h2, h3, h4, h5⟩ := row_cells (W := W) (g := g) (ok := ok) (z := z) (b := b) (o := off) len 0 (fun j _ hj => by
        obtain ⟨vs, y, g1, g2⟩ := hat j (by omega)
        obtain ⟨g3, g4⟩ := cells_at g1
        obtain ⟨a, g5, g6⟩ := h _ _ _ g2
        exact ⟨a, vs, g5, g6, g3, fun k v hk => by have := g4 k v hk; rwa [add_none, add_none] at this⟩)
      refine ⟨l, ⟨by omega, h2⟩, ?_⟩
      show R (Old W) [] W true [.lst l.length (l.flatMap g) false] _
      rw [h1]
      refine .lst len false b off cap h3 (fun j v hj => ?_) hl (fun h => by cases h) (.nil _)
      have h6 := h5 j v hj
      rw [Nat.zero_mul, Nat.add_zero] at h6
      refine ⟨h6, ?_⟩
      unfold World.cell? at h6
      show b < W.heap.size
      rcases Nat.lt_or_ge b W.heap.size with hb | hb
      · exact hb
      · have : W.heap[b]? = none := Array.getElem?_eq_none hb
        simp [this] at h6

theorem opn_bytes {t e : TypeId} (ht : P.underlying t = some (.slice e)) (he : P.underlying e = some (.int .u8)) (hc : P.cellsOf e = 1) : Opn enc P W base held t (fun l : List UInt8 => [lb l]) (fun l => l.length ≤ maxLen) := fun fuel cs x hx => by
  obtain ⟨l, h1, h2⟩ := opn_slice (z := 1) ht hc (by omega) (opn_byte he) fuel cs x hx
  refine ⟨l, h1.1, ?_⟩
  have e : ∀ l : List UInt8, l.flatMap (fun b => [byteC b]) = l.map byteC := fun l => by
    induction l with
    | nil => rfl
    | cons b l ih => rw [List.flatMap_cons, ih]; rfl
  have h2 : R (Old W) [] W true [.lst l.length (l.flatMap fun b => [byteC b]) false] cs := h2
  rw [e] at h2
  exact h2
/-- Parameters. -/
theorem open_agg {r : Reach} {b0 : Nat} {t : TypeId} {fs : Array Field} {v : Value} {d : DataW H} {ps : List MemPlace} {α : Type} {g : α → List CV} {ok : α → Prop} (ht : P.underlying t = some (.struct fs)) (h : Opn enc P W base held t g ok)
    (hval : Value.okWide P W r b0 t v) (hd : DataW.Trod enc P W base (fun _ => true) held t v d ps) : ∃ a, ok a ∧ V (Old W) [] W (.agg (g a)) v := by
  obtain ⟨cs, rfl, _⟩ := okWide_struct ht hval
  obtain ⟨fuel, hf⟩ := hd
  obtain ⟨a, h1, h2⟩ := h _ _ _ hf
  exact ⟨a, h1, .agg (bs := cs.toList) h2 (.nil _)⟩
theorem open_row {r : Reach} {b0 : Nat} {t e : TypeId} {v : Value} {d : DataW H} {ps : List MemPlace} {α : Type} {g : α → List CV} {ok : List α → Prop} (ht : P.underlying t = some (.slice e)) (h : Opn enc P W base held t (fun l : List α => [.lst l.length (l.flatMap g) false]) ok)
    (hval : Value.okWide P W r b0 t v) (hd : DataW.Trod enc P W base (fun _ => true) held t v d ps) : ∃ l : List α, ok l ∧ V (Old W) [] W (.lst l.length (l.flatMap g) false) v := by
  obtain ⟨a0, len0, cap0, rfl⟩ := okWide_slice ht hval
  obtain ⟨fuel, hf⟩ := hd
  obtain ⟨a, h1, h2⟩ := h _ _ _ hf
  simp only [Value.cells] at h2
  exact ⟨a, h1, h2.weak⟩
end
end Go.Sy
