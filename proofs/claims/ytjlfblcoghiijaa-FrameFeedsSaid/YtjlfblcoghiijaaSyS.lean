/-
  Contracts on values alone: what is handed back is a value that nobody writes any more.
-/
import Derived.Test.YtjlfblcoghiijaaSyR
namespace Go.Sy
set_option linter.all false
open Go.RowKit (Below)

/-- THE CONTRACT OF A FUNCTION OF VALUES: from the frozen arguments the frozen result. 'fr': nothing of the arguments is in it. -/
def PC (P : Program) (fr : Bool) (f : FuncId) (args : List CV) (c : CV) : Prop := ACall P f args [] fun c1 B1 => fz true fr B1 6 c1 = some c

section
variable {P : Program} {N : Nat} {I : Nat → Nat → Prop} {μ : List (List Place)} {B : List Box} {w : World}

theorem omap_one {nz fr : Bool} {k : Nat} {c c' : CV} (h : fz nz fr B k c = some c') : omap (fz nz fr B k) [c] = some [c'] := by simp [omap, h]

/-- What nothing of the arguments is in serves at any arguments. -/
theorem acall_fresh {f : FuncId} {args args' : List CV} {c' : CV} {nz : Bool} (hz : omap (fz nz false B 6) args = some args') (h : PC P true f args' c') : ACall P f args B fun c B' => c = c' ∧ B' = B := by
  refine ⟨h.1, fun N I μ w vs hB hv => ?_⟩
  have hv' := fz_rel (J := fun b _ => b < w.heap.size) hB (fun _ b j h => hB.imm b j h) (fun β ps p _ h1 h2 => (hB.places β ps p h1 h2).2.2.lt) 6 false args vs args' hv hz
  refine (h.2 w.heap.size (fun b _ => b < w.heap.size) [] w vs (BRel.none_ w _ fun _ _ h => h) hv').mono fun e w' ⟨c, v, B1, J1, μ1, he, hQ, hs⟩ => ?_
  have hv2 := fz_rel (J := fun b _ => I b 0 ∨ (w.heap.size ≤ b ∧ b < w'.heap.size)) hs.box (fun h => by cases h) (fun β ps p _ h1 h2 => .inr ⟨(hs.box.places β ps p h1 h2).1, (hs.box.places β ps p h1 h2).2.2.lt⟩) 6 false [c] [v] [c'] hs.val (omap_one hQ)
  obtain ⟨g1, g2, g3⟩ := hB.behind (I2 := fun b j => I b j ∨ (w.heap.size ≤ b ∧ b < w'.heap.size)) hs.below (fun _ _ h => .inl h) (fun _ _ h => h)
  have hv3 := fz_rel (J := fun b j => I b j ∨ (w.heap.size ≤ b ∧ b < w'.heap.size)) hs.box (fun h => by cases h) (fun β ps p _ h1 h2 => .inr ⟨(hs.box.places β ps p h1 h2).1, (hs.box.places β ps p h1 h2).2.2.lt⟩) 6 false [c] [v] [c'] hs.val (omap_one hQ)
  exact ⟨c', v, B, _, μ, he, ⟨rfl, rfl⟩, hv3.ext ⟨fun _ _ h => h, fun _ _ _ => rfl, fun _ _ h => h, fun _ h => h, fun _ _ h => by simp at h⟩, g1, g2, g3⟩

theorem rel_free {nz fr : Bool} : ∀ (k : Nat) (one : Bool) (cs : List CV) (vs : List Value) (cs' : List CV), R I μ w one cs vs → omap (fz nz fr [] k) cs = some cs' → R I [] w one cs' vs := by
  intro k
  induction k with
  | zero =>
    intro one cs vs cs' h hc
    cases cs with
    | nil => simp [omap] at hc; subst hc; rw [R.nil_iff] at h; subst h; exact .nil _
    | cons c cs => simp [omap, fz] at hc
  | succ k ih =>
    intro one cs
    induction cs with
    | nil => intro vs cs' h hc; simp [omap] at hc; subst hc; rw [R.nil_iff] at h; subst h; exact .nil _
    | cons c cs ihl =>
      intro vs cs' h hc
      obtain ⟨v, vs, rfl, h1, h2, h3⟩ := R.cons_iff.1 h
      obtain ⟨c', l', rfl, hf, hl⟩ := omap_cons hc
      refine .cons ?_ h2 (ihl vs l' h3 hl)
      clear ihl h hc h3 hl
      cases h1 with
      | bool b _ => simp [fz] at hf; subst hf; exact .bool _ (.nil _)
      | int k n _ => simp [fz] at hf; subst hf; exact .int _ _ (.nil _)
      | str s _ => simp [fz] at hf; subst hf; exact .str _ (.nil _)
      | nilP _ => simp [fz] at hf; subst hf; exact .nilP (.nil _)
      | nilS _ =>
        simp [fz] at hf; subst hf
        cases nz
        · exact .nilS (.nil _)
        · exact .lstE _ _ (.nil _)
      | nilF _ => simp [fz] at hf; subst hf; exact .nilF (.nil _)
      | nilI _ => simp [fz] at hf; subst hf; exact .nilI (.nil _)
      | raw v h _ => simp [fz] at hf; subst hf; exact .raw v h (.nil _)
      | agg h _ => simp only [fz, Option.map_eq_some_iff] at hf; obtain ⟨cs, hf, rfl⟩ := hf; exact .agg (ih _ _ _ _ h hf) (.nil _)
      | tup h _ => simp only [fz, Option.map_eq_some_iff] at hf; obtain ⟨cs, hf, rfl⟩ := hf; exact .tup (ih _ _ _ _ h hf) (.nil _)
      | lst n full b o cap h hm hn hfu _ =>
        simp only [fz] at hf
        split at hf
        · cases hf
        · rename_i hfe
          simp only [Option.map_eq_some_iff] at hf; obtain ⟨cs, hf, rfl⟩ := hf
          exact .lst n _ b o cap (ih _ _ _ _ h hf) hm hn (fun hx => hfu (by simp at hx; exact hx.1)) (.nil _)
      | lstE full A _ => simp [fz, omap] at hf; subst hf; exact .lstE _ A (.nil _)
      | view β off n sz full ps p cap hb hp hlo hk hn hfu hr _ => simp [fz] at hf
      | viewE β off sz full A hb _ => simp [fz] at hf
      | cview β off n cap sz ps p hb hp hlo hk hn hpl _ => simp [fz] at hf
      | cviewE β off sz A hb _ => simp [fz] at hf
      | ptr β off ps p hb hp hlo _ => simp [fz] at hf
      | iptr b o h hm _ =>
        simp only [fz] at hf
        split at hf
        · cases hf
        · rename_i hfe
          simp only [Option.map_eq_some_iff] at hf; obtain ⟨cs, hf, rfl⟩ := hf
          exact .iptr b o (ih _ _ _ _ h hf) hm (.nil _)
      | fn f h h' _ =>
        simp only [fz] at hf
        split at hf
        · rename_i x y e1 e2
          simp at hf; subst hf
          exact .fn f (ih _ _ _ _ h e1) (ih _ _ _ _ h' e2) (.nil _)
        · cases hf
      | iface t h _ =>
        simp only [fz, Option.map_eq_some_iff] at hf
        obtain ⟨v', hf, rfl⟩ := hf
        exact .iface t (ih _ _ _ _ h (by simp [omap, hf])) (.nil _)

/-- Where no box is handed in, what is handed back may hold parts of the arguments. -/
theorem acall_imm {f : FuncId} {args args' : List CV} {c' : CV} {nz fr : Bool} (hz : omap (fz nz false [] 6) args = some args') (h : PC P fr f args' c') : ACall P f args B fun c B' => c = c' ∧ B' = B := by
  refine ⟨h.1, fun N I μ w vs hB hv => ?_⟩
  have hv' := rel_free 6 false args vs args' hv hz
  refine (h.2 w.heap.size I [] w vs (BRel.none_ w _ hB.imm) hv').mono fun e w' ⟨c, v, B1, J1, μ1, he, hQ, hs⟩ => ?_
  have hJ : ∀ b j, J1 b j → I b j ∨ (w.heap.size ≤ b ∧ b < w'.heap.size) := fun b j hj => by
    rcases hs.ext.immN b j hj with h1 | h1 | ⟨β, ps, p, h1, _⟩
    · exact .inl h1
    · exact .inr ⟨h1, hs.box.imm _ _ hj⟩
    · simp at h1
  have hv2 := fz_rel (J := fun b j => I b j ∨ (w.heap.size ≤ b ∧ b < w'.heap.size)) hs.box (fun _ => hJ) (fun β ps p _ h1 h2 => .inr ⟨(hs.box.places β ps p h1 h2).1, (hs.box.places β ps p h1 h2).2.2.lt⟩) 6 false [c] [v] [c'] hs.val (omap_one hQ)
  obtain ⟨g1, g2, g3⟩ := hB.behind (I2 := fun b j => I b j ∨ (w.heap.size ≤ b ∧ b < w'.heap.size)) hs.below (fun _ _ h => .inl h) (fun _ _ h => h)
  exact ⟨c', v, B, _, μ, he, ⟨rfl, rfl⟩, hv2.ext ⟨fun _ _ h => h, fun _ _ _ => rfl, fun _ _ h => h, fun _ h => h, fun _ _ h => by simp at h⟩, g1, g2, g3⟩

/-- What is handed back becomes a row of the caller's own. -/
def OC (P : Program) (f : FuncId) (args : List CV) (sz : Nat) (cells : List CV) : Prop := ACall P f args [] fun c B1 => ∃ b off n full box, c = .view b off n sz full ∧ B1[b]? = some box ∧ (box.cells.drop off).take (n * sz) = cells ∧ cells.length = n * sz

theorem acall_row {f : FuncId} {args args' : List CV} {cells : List CV} {sz : Nat} {nz : Bool} (hz : omap (fz nz false B 6) args = some args') (h : OC P f args' sz cells) (hs : (toVL cells).isSome = true) :
    ACall P f args B fun c B' => ∃ n full, cells.length = n * sz ∧ c = (ownC B n sz full cells).1 ∧ B' = (ownC B n sz full cells).2 :=
  acall_own hz h fun c B1 ⟨b, off, n, full, box, h1, h2, h3, h4⟩ => ⟨b, off, n, sz, full, box, h1, h2, by rw [h3]; exact hs, n, full, h4, by rw [h3], by rw [h3]⟩

theorem o_call_eq {n : Nat} {ops : Array Oper} {fr : Fr} {q : Fr → List Box → Prop} {rest : List Oper} {dst : Option Tmp} {f : Operand} {args : Array Operand} {ts : Array TypeId} {ty : TypeId} {pos : String} {after : Array Edge} {g : FuncId} {first caps all : List CV} {c : CV} {B' : List Box}
    (hd : dstOk n ⟨dst, .call { callee := .value f, args, argTypes := ts }, ty, pos, after, none⟩ = true) (hf : Is (opv fr f) (.fn (.func g) first caps)) (ha : Is (first ++ args.toList.map (opv fr) ++ caps) all)
    (hc : ACall P g all B fun c' B'' => c' = c ∧ B'' = B') (h : WPo P n ops q rest (upd fr dst c) B') : WPo P n ops q (⟨dst, .call { callee := .value f, args, argTypes := ts }, ty, pos, after, none⟩ :: rest) fr B :=
  o_call hd hf ha (hc.mono fun _ _ ⟨h1, h2⟩ => by rw [h1, h2]; exact h)

/-- A byte string, read. -/
def lb (l : List UInt8) : CV := .lst l.length (l.map byteC) false

/-- What freezing comes to, shape by shape. -/
theorem fz_int {nz fr : Bool} {k : Nat} {κ : IntKind} {n : Int} : fz nz fr B (k + 1) (.int κ n) = some (.int κ n) := rfl
theorem fz_byte {nz fr : Bool} {k : Nat} {b : UInt8} : fz nz fr B (k + 1) (byteC b) = some (byteC b) := rfl
theorem fz_bool {nz fr : Bool} {k : Nat} {n : Bool} : fz nz fr B (k + 1) (.bool n) = some (.bool n) := rfl
theorem fz_str {nz fr : Bool} {k : Nat} {n : List UInt8} : fz nz fr B (k + 1) (.str n) = some (.str n) := rfl
theorem fz_nilP {nz fr : Bool} {k : Nat} : fz nz fr B (k + 1) .nilP = some .nilP := rfl
theorem fz_nilF {nz fr : Bool} {k : Nat} : fz nz fr B (k + 1) .nilF = some .nilF := rfl
theorem fz_nilI {nz fr : Bool} {k : Nat} : fz nz fr B (k + 1) .nilI = some .nilI := rfl
theorem fz_raw {nz fr : Bool} {k : Nat} {v : Value} : fz nz fr B (k + 1) (.raw v) = some (.raw v) := rfl
theorem fz_nilS {nz fr : Bool} {k : Nat} : fz nz fr B (k + 1) .nilS = some (if nz then .lst 0 [] false else .nilS) := rfl
theorem fz_agg {nz fr : Bool} {k : Nat} {cs : List CV} : fz nz fr B (k + 1) (.agg cs) = (omap (fz nz fr B k) cs).map .agg := rfl
theorem fz_tup {nz fr : Bool} {k : Nat} {cs : List CV} : fz nz fr B (k + 1) (.tup cs) = (omap (fz nz fr B k) cs).map .tup := rfl
theorem fz_lst {nz fr : Bool} {k n : Nat} {full : Bool} {cs : List CV} : fz nz fr B (k + 1) (.lst n cs full) = if fr && !cs.isEmpty then none else (omap (fz nz fr B k) cs).map fun cs => .lst n cs (full && !nz) := rfl
theorem fz_iptr {nz fr : Bool} {k : Nat} {cs : List CV} : fz nz fr B (k + 1) (.iptr cs) = if fr && !cs.isEmpty then none else (omap (fz nz fr B k) cs).map .iptr := rfl
theorem fz_view {nz fr : Bool} {k b off n sz : Nat} {full : Bool} : fz nz fr B (k + 1) (.view b off n sz full) = match B[b]? with | some box => (omap (fz nz fr B k) ((box.cells.drop off).take (n * sz))).map fun cs => .lst n cs (full && !nz) | none => none := rfl
theorem fz_cview {nz fr : Bool} {k b off n cap sz : Nat} : fz nz fr B (k + 1) (.cview b off n cap sz) = match B[b]? with | some box => (omap (fz nz fr B k) ((box.cells.drop off).take (n * sz))).map fun cs => .lst n cs false | none => none := rfl
theorem fz_ptr {nz fr : Bool} {k b off : Nat} : fz nz fr B (k + 1) (.ptr b off) = match B[b]? with | some box => if box.multi then none else (omap (fz nz fr B k) (box.cells.drop off)).map .iptr | none => none := rfl
theorem fz_iface {nz fr : Bool} {k : Nat} {t : TypeId} {v : CV} : fz nz fr B (k + 1) (.iface t v) = (fz nz fr B k v).map (.iface t) := rfl
theorem omap_nil {f : CV → Option CV} : omap f [] = some [] := rfl
theorem omap_two {f : CV → Option CV} {c : CV} {l : List CV} : omap f (c :: l) = (f c).bind fun c' => (omap f l).map (c' :: ·) := by
  rw [omap]; cases f c <;> cases omap f l <;> rfl

theorem omap_map {α : Type} {f : CV → Option CV} {g h : α → CV} (l : List α) (hf : ∀ x ∈ l, f (g x) = some (h x)) : omap f (l.map g) = some (l.map h) := by
  induction l with
  | nil => rfl
  | cons a l ih => simp [omap, hf a (by simp), ih fun x hx => hf x (by simp [hx])]
theorem omap_bytes {nz fr : Bool} {k : Nat} (l : List UInt8) : omap (fz nz fr B (k + 1)) (l.map byteC) = some (l.map byteC) := omap_map l fun _ _ => rfl
theorem omap_ints {nz fr : Bool} {k : Nat} {κ : IntKind} (l : List Int) : omap (fz nz fr B (k + 1)) (l.map (CV.int κ)) = some (l.map (CV.int κ)) := omap_map l fun _ _ => rfl
theorem fz_lb {nz : Bool} {k : Nat} (l : List UInt8) : fz nz false B (k + 2) (lb l) = some (lb l) := by rw [lb, fz_lst]; simp [omap_bytes]
theorem scal_bytes (l : List UInt8) : (toVL (l.map byteC)).isSome = true := by
  induction l with
  | nil => simp [toVL]
  | cons a l ih => rw [List.map_cons, toVL_cons, ih]; simp [byteC, toV]
theorem bytes_take (l : List UInt8) (k : Nat) : (l.map byteC).take k = (l.take k).map byteC := List.map_take.symm
theorem bytes_drop (l : List UInt8) (k : Nat) : (l.map byteC).drop k = (l.drop k).map byteC := List.map_drop.symm
theorem bytes_append (l l' : List UInt8) : l.map byteC ++ l'.map byteC = (l ++ l').map byteC := List.map_append.symm
theorem byte_of (n : Nat) : byteC (UInt8.ofNat n) = .int .u8 (IntKind.u8.wrap n) := by
  simp [byteC, IntKind.wrap_u8]
theorem byte_of_int (n : Int) (h : 0 ≤ n) : .int .u8 (IntKind.u8.wrap n) = byteC (UInt8.ofNat n.toNat) := by
  rw [byte_of, Int.toNat_of_nonneg h]
theorem byte_eq {a b : UInt8} : ((a.toNat : Int) = (b.toNat : Int)) ↔ a = b := by
  constructor
  · intro h; exact UInt8.toNat_inj.1 (by omega)
  · rintro rfl; rfl
theorem eqV_bytes_aux {t e : TypeId} {d : Nat} (he : P.underlying e = some (.int .u8)) (ha : aggT P e = false) (is : List Nat) (l1 l2 : List UInt8) (h1 : ∀ i ∈ is, i < l1.length) (h2 : ∀ i ∈ is, i < l2.length) :
    is.foldr (fun i acc => acc.bind fun r => (partC P e (l1.map byteC) (i * 1)).bind fun p => (partC P e (l2.map byteC) (i * 1)).bind fun q => (eqV P (d + 1) e p q).map (· && r)) (some true) = some (is.all fun i => l1[i]? == l2[i]?) := by
  induction is with
  | nil => rfl
  | cons i is ih =>
    have g1 := h1 i (by simp)
    have g2 := h2 i (by simp)
    rw [List.foldr_cons, ih (fun j hj => h1 j (by simp [hj])) (fun j hj => h2 j (by simp [hj]))]
    simp only [Option.bind_some, partC, he, Option.isNone_some, Bool.false_eq_true, if_false, ha, Nat.mul_one, List.getElem?_map, List.getElem?_eq_getElem g1, List.getElem?_eq_getElem g2, Option.map_some, byteC, eqV, if_true, List.all_cons]
    have e : ((l1[i].toNat : Int) == (l2[i].toNat : Int)) = (some l1[i] == some l2[i]) := by rw [Bool.eq_iff_iff]; simp [byte_eq]
    rw [e]
theorem eqV_bytes {t e : TypeId} {n d : Nat} (hu : P.underlying t = some (.array n e)) (he : P.underlying e = some (.int .u8)) (hs : szOf P e = some 1) (ha : aggT P e = false) (l1 l2 : List UInt8) (h1 : l1.length = n) (h2 : l2.length = n) :
    eqV P (d + 2) t (.agg (l1.map byteC)) (.agg (l2.map byteC)) = some (l1 == l2) := by
  unfold eqV; simp only [hu, hs, Option.bind_some]
  rw [eqV_bytes_aux (t := t) he ha _ _ _ (fun i hi => by simpa [h1] using hi) (fun i hi => by simpa [h2] using hi)]
  congr 1
  rw [Bool.eq_iff_iff, List.all_eq_true, beq_iff_eq]
  constructor
  · intro h
    apply List.ext_getElem?
    intro i
    by_cases hi : i < n
    · simpa using h i (by simpa using hi)
    · rw [List.getElem?_eq_none (by omega), List.getElem?_eq_none (by omega)]
  · rintro rfl i _; simp
theorem eqV_int {t : TypeId} {q : IntKind} (hu : P.underlying t = some (.int q)) (d : Nat) (k : IntKind) (a b : Int) : eqV P (d + 1) t (.int k a) (.int k b) = some (a == b) := by
  unfold eqV; simp [hu]
theorem eqV_bool {t : TypeId} (hu : P.underlying t = some .bool) (d : Nat) (a b : Bool) : eqV P (d + 1) t (.bool a) (.bool b) = some (a == b) := by
  unfold eqV; simp [hu]
theorem eqV_str {t : TypeId} (hu : P.underlying t = some .string) (d : Nat) (a b : List UInt8) : eqV P (d + 1) t (.str a) (.str b) = some (a == b) := by
  unfold eqV; simp [hu]
def eqF (P : Program) (d : Nat) (xs ys : List CV) : List Field → Option Bool
  | [] => some true
  | f :: fl => if f.name = "_" then none else (eqF P d xs ys fl).bind fun r => (partC P f.type xs f.offset).bind fun p => (partC P f.type ys f.offset).bind fun q => (eqV P d f.type p q).map (· && r)
theorem eqV_struct {t : TypeId} {fs : Array Field} (hu : P.underlying t = some (.struct fs)) (hs : P.stoodInHeld t = false) (d : Nat) (xs ys : List CV) : eqV P (d + 1) t (.agg xs) (.agg ys) = eqF P d xs ys fs.toList := by
  unfold eqV; simp only [hu, hs, Bool.false_eq_true, if_false]
  generalize fs.toList = fl
  induction fl with
  | nil => rfl
  | cons f fl ih => rw [List.foldr_cons, ih, eqF]
theorem byteC_inj {a b : UInt8} : byteC a = byteC b ↔ a = b := by simp [byteC, byte_eq]
theorem bytesC_map (l : List UInt8) : bytesC (l.map byteC) = some l := by
  induction l with
  | nil => rfl
  | cons a l ih => rw [List.map_cons]; simp only [byteC, bytesC] at ih ⊢; rw [ih]; simp
theorem less_irrefl (l : List UInt8) : Op.bytesLess l l = false := by
  induction l with
  | nil => rfl
  | cons a l ih => simp [Op.bytesLess, ih]
theorem less_total (a b : List UInt8) : Op.bytesLess b a = !(Op.bytesLess a b || a == b) := by
  induction a generalizing b with
  | nil => cases b <;> simp [Op.bytesLess]
  | cons x a ih =>
    cases b with
    | nil => simp [Op.bytesLess]
    | cons y b =>
      simp only [Op.bytesLess, ih b, List.cons_beq_cons]
      by_cases h : x = y
      · subst h; simp
      · have h' : ¬ y = x := fun e => h e.symm
        simp only [beq_eq_false_iff_ne.2 h, beq_eq_false_iff_ne.2 h', Bool.false_and, Bool.or_false]
        rcases Nat.lt_or_ge x.toNat y.toNat with hl | hl
        · have h1 : x < y := UInt8.lt_iff_toNat_lt.2 hl
          have h2 : ¬ y < x := fun e => by have := UInt8.lt_iff_toNat_lt.1 e; omega
          simp [h1, h2]
        · have h0 : x.toNat ≠ y.toNat := fun e => h (UInt8.toNat_inj.1 e)
          have h1 : ¬ x < y := fun e => by have := UInt8.lt_iff_toNat_lt.1 e; omega
          have h2 : y < x := UInt8.lt_iff_toNat_lt.2 (by omega)
          simp [h1, h2]
theorem less_diff {a b : List UInt8} {k : Nat} (ha : k < a.length) (hb : k < b.length) (ht : a.take k = b.take k) (hne : a[k] ≠ b[k]) : Op.bytesLess a b = decide (a[k].toNat < b[k].toNat) := by
  induction k generalizing a b with
  | zero =>
    cases a with
    | nil => simp at ha
    | cons x a =>
      cases b with
      | nil => simp at hb
      | cons y b =>
        simp only [List.getElem_cons_zero] at hne ⊢
        simp only [Op.bytesLess, beq_eq_false_iff_ne.2 hne, Bool.false_and, Bool.or_false]
        rw [decide_eq_decide]; exact UInt8.lt_iff_toNat_lt
  | succ k ih =>
    cases a with
    | nil => simp at ha
    | cons x a =>
      cases b with
      | nil => simp at hb
      | cons y b =>
        simp only [List.take_succ_cons, List.cons.injEq] at ht
        simp only [List.getElem_cons_succ] at hne ⊢
        rw [← ih (by simpa using ha) (by simpa using hb) ht.2 hne]
        simp [Op.bytesLess, ht.1]
end
attribute [go_sem] eqF bytesC_map
attribute [go_sem] fz_lb fz_int fz_byte fz_bool fz_str fz_nilP fz_nilF fz_nilI fz_raw fz_nilS fz_agg fz_tup fz_lst fz_iptr fz_view fz_cview fz_ptr fz_iface omap_nil omap_two omap_bytes omap_ints
end Go.Sy
