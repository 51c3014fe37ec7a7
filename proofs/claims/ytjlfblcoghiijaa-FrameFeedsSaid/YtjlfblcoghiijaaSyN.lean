/-
  A statement whose order Go leaves open: one lexical run of the canonical machine serves every order.
-/
import Derived.Test.YtjlfblcoghiijaaSyM
namespace Go.Sy
set_option linter.all false
open Go.RowKit (Below)

def maskOf (o : Oper) (acc : List Nat) : Nat := o.after.toList.foldl (fun s e => if Region.binds .any e then s ||| 2 ^ e.on ||| acc.getD e.on 0 else s) 0
def befs : List Oper → List Nat → List Nat
  | [], acc => acc
  | o :: rest, acc => befs rest (acc ++ [maskOf o acc])
def namesOf (ops : List Oper) (o : Oper) : List Tmp :=
  o.dst.toList ++ (o.op.operands.toList.filterMap fun | .tmp t => some t | _ => none) ++ (match o.guard with | some (j, _) => ((ops[j]?).bind (·.dst)).toList | none => [])
def orders (bs : List Nat) (i j : Nat) : Bool := (bs.getD (max i j) 0).testBit (min i j)
/-- An operation that neither looks at the boxes nor turns them. -/
def still (P : Program) : Op → Bool
  | .move _ | .assign _ | .pick .. | .binOp .. | .unOp .. | .extract .. | .field .. | .index .. | .makeFunc .. | .makeInterface .. => true
  | .build .. | .buildSlice .. | .fieldAddr .. => true
  | .convert _ d _ => match P.underlying d with | some (.int _) => true | _ => false
  | .slice t .. => match P.underlying t with | some .string | some (.slice _) => true | _ => false
  | .call { callee := .builtin .len, args, argTypes } => args.size == 1 && argTypes.size == 1
  | _ => false
def barrier (P : Program) (ops : List Oper) (bs hs : List Nat) (k : Nat) : Bool := (List.range ops.length).all fun i => i == k || orders bs i k || hs.contains i || (match ops[i]? with | some o => still P o.op | none => true)
def drawOk (ops : List Oper) (bs : List Nat) : Bool :=
  (ops.zipIdx.all fun (o, i) => o.after.toList.all fun e => !Region.binds .any e || decide (e.on < i)) &&
  (ops.zipIdx.all fun (o, i) => ops.zipIdx.all fun (p, j) => i == j || orders bs i j || (match p.dst with | some d => !(namesOf ops o).contains d | none => true))

section
variable {P : Program} {N n : Nat} {I0 I : Nat → Nat → Prop} {μ0 μ : List (List Place)} {B : List Box} {w0 w : World} {o : Oper} {a : Act} {fr : Fr} {ops : Array Oper}

theorem befs_length : ∀ (l : List Oper) (acc : List Nat), (befs l acc).length = acc.length + l.length
  | [], acc => by simp [befs]
  | o :: l, acc => by rw [befs, befs_length l]; simp; omega
theorem befs_prefix : ∀ (l : List Oper) (acc : List Nat) (i : Nat), i < acc.length → (befs l acc)[i]? = acc[i]?
  | [], acc, i, _ => rfl
  | o :: l, acc, i, h => by rw [befs, befs_prefix l _ i (by simp; omega), List.getElem?_append_left h]
theorem befs_get : ∀ (l : List Oper) (acc : List Nat) (i : Nat) (o : Oper), l[i]? = some o → (befs l acc)[acc.length + i]? = some (maskOf o ((befs l acc).take (acc.length + i)))
  | [], acc, i, o, h => by simp at h
  | p :: l, acc, i, o, h => by
    cases i with
    | zero =>
      simp at h; subst h
      rw [befs, Nat.add_zero, befs_prefix l _ _ (by simp)]
      have : ((befs l (acc ++ [maskOf p acc])).take acc.length) = acc := by
        apply List.ext_getElem?
        intro i
        rw [List.getElem?_take]
        split
        · rename_i hi
          rw [befs_prefix l _ i (by simp; omega), List.getElem?_append_left hi]
        · rename_i hi
          rw [List.getElem?_eq_none (by omega)]
      rw [this]
      simp
    | succ i =>
      have := befs_get l (acc ++ [maskOf p acc]) i o (by simpa using h)
      rw [befs]
      simpa [Nat.add_assoc, Nat.add_comm 1 i] using this

theorem mask_bit {o : Oper} {acc : List Nat} {j : Nat} (h : (maskOf o acc).testBit j = true) : ∃ e ∈ o.after, Region.binds .any e = true ∧ (e.on = j ∨ (acc.getD e.on 0).testBit j = true) := by
  have key : ∀ (l : List Edge) (s : Nat), (l.foldl (fun s e => if Region.binds .any e then s ||| 2 ^ e.on ||| acc.getD e.on 0 else s) s).testBit j = true → s.testBit j = true ∨ ∃ e ∈ l, Region.binds .any e = true ∧ (e.on = j ∨ (acc.getD e.on 0).testBit j = true) := by
    intro l
    induction l with
    | nil => intro s h; exact .inl h
    | cons e l ih =>
      intro s h
      rw [List.foldl_cons] at h
      rcases ih _ h with h1 | ⟨e', he, h1⟩
      · split at h1
        · rename_i hb
          simp only [Nat.testBit_or, Bool.or_eq_true, Nat.testBit_two_pow, decide_eq_true_eq] at h1
          rcases h1 with (h1 | h1) | h1
          · exact .inl h1
          · exact .inr ⟨e, by simp, hb, .inl h1⟩
          · exact .inr ⟨e, by simp, hb, .inr h1⟩
        · exact .inl h1
      · exact .inr ⟨e', by simp [he], h1⟩
  rcases key _ _ h with h1 | ⟨e, he, h1⟩
  · simp at h1
  · exact ⟨e, by simpa using he, h1⟩

/-- A set of operations that have come up holds all that they wait for. -/
def Closed (ops : Array Oper) (S : Nat → Bool) : Prop := ∀ (i : Nat) (o : Oper), ops[i]? = some o → S i = true → ∀ e ∈ o.after, Region.binds .any e = true → S e.on = true

theorem anc_in {S : Nat → Bool} (hc : Closed ops S) (hlt : ∀ (i : Nat) (o : Oper), ops[i]? = some o → ∀ e ∈ o.after, Region.binds .any e = true → e.on < i) :
    ∀ (i : Nat) (o : Oper) (j : Nat), ops[i]? = some o → ((befs ops.toList []).getD i 0).testBit j = true → (∀ e ∈ o.after, Region.binds .any e = true → S e.on = true) → S j = true := by
  intro i
  induction i using Nat.strongRecOn with
  | _ i ih =>
    intro o j ho hb hd
    have hg := befs_get ops.toList [] i o (by simpa using ho)
    simp only [List.length_nil, Nat.zero_add] at hg
    rw [List.getD_eq_getElem?_getD, hg, Option.getD_some] at hb
    obtain ⟨e, he, hbd, h1⟩ := mask_bit hb
    have hei := hlt i o ho e he hbd
    have hS := hd e he hbd
    rcases h1 with rfl | h1
    · exact hS
    · have hsz := (Array.getElem?_eq_some_iff.1 ho).1
      have hoe : ops[e.on]? = some ops[e.on] := by simp [show e.on < ops.size by omega]
      refine ih e.on hei _ j hoe ?_ (fun e' he' hb' => hc e.on _ hoe hS e' he' hb')
      rw [List.getD_eq_getElem?_getD, List.getElem?_take, if_pos hei, ← List.getD_eq_getElem?_getD] at h1
      exact h1

theorem evPure_congr {fr fr' : Fr} (hs : ∀ cs b, o.op ≠ .select cs b) (h : ∀ x ∈ o.op.operands, opv fr x = opv fr' x) : evPure P o fr = evPure P o fr' := by
  unfold evPure
  have e1 : (o.op.operands.all fun x => (toV (opv fr x)).isSome) = (o.op.operands.all fun x => (toV (opv fr' x)).isSome) := by
    rw [Bool.eq_iff_iff, Array.all_eq_true_iff_forall_mem, Array.all_eq_true_iff_forall_mem]
    exact ⟨fun hh x hx => by rw [← h x hx]; exact hh x hx, fun hh x hx => by rw [h x hx]; exact hh x hx⟩
  have e2 : execOp (fun x => (toV (opv fr x)).getD undef) o = execOp (fun x => (toV (opv fr' x)).getD undef) o :=
    execOp_congr o hs fun x hx => by rw [h x hx]
  rw [e1, e2]

theorem map_congr' {fr fr' : Fr} {l : List Operand} (h : ∀ x ∈ l, opv fr x = opv fr' x) : l.map (opv fr) = l.map (opv fr') := List.map_congr_left h

theorem ev_congr {fr fr' : Fr} (h : ∀ x ∈ o.op.operands, opv fr x = opv fr' x) : ev P o fr B = ev P o fr' B := by
  have hp : (∀ cs b, o.op ≠ .select cs b) → evPure P o fr = evPure P o fr' := fun hs => evPure_congr hs h
  cases ho : o.op with
  | call c =>
    obtain ⟨callee, args, ts⟩ := c
    cases callee with
    | builtin b =>
      have hp := hp (by simp [ho])
      have ha : args.toList.map (opv fr) = args.toList.map (opv fr') := map_congr' fun x hx => h x (by rw [ho]; simpa [Op.operands, Call.operands] using hx)
      simp only [ev, ho, ha, builtinC, hp]
    | value f => simp [ev, ho]
    | invoke x y => simp [ev, ho]
  | makeFunc f x y =>
    have h1 : x.toList.map (opv fr) = x.toList.map (opv fr') := map_congr' fun z hz => h z (by rw [ho]; simp [Op.operands]; exact .inl (by simpa using hz))
    have h2 : y.toList.map (opv fr) = y.toList.map (opv fr') := map_congr' fun z hz => h z (by rw [ho]; simp [Op.operands]; exact .inr (by simpa using hz))
    simp only [ev, ho, h1, h2]
  | build t ps =>
    have h1 : ps.toList.map (fun p => (p.1, opv fr p.2)) = ps.toList.map (fun p => (p.1, opv fr' p.2)) := List.map_congr_left fun p hp => by
      rw [h p.2 (by rw [ho]; simp only [Op.operands, List.mem_toArray]; exact List.mem_map.2 ⟨p, hp, rfl⟩)]
    simp only [ev, ho, h1]
  | buildSlice t k ps =>
    have h1 : ps.toList.map (fun p => (p.1, opv fr p.2)) = ps.toList.map (fun p => (p.1, opv fr' p.2)) := List.map_congr_left fun p hp => by
      rw [h p.2 (by rw [ho]; simp only [Op.operands, List.mem_toArray]; exact List.mem_map.2 ⟨p, hp, rfl⟩)]
    simp only [ev, ho, h1]
  | slice t x l hi m =>
    have hx := h x (by rw [ho]; simp [Op.operands])
    have hl : l.map (opv fr) = l.map (opv fr') := by
      cases l with
      | none => rfl
      | some y => simp only [Option.map_some]; rw [h y (by rw [ho]; simp [Op.operands])]
    have hh : hi.map (opv fr) = hi.map (opv fr') := by
      cases hi with
      | none => rfl
      | some y => simp only [Option.map_some]; rw [h y (by rw [ho]; simp [Op.operands])]
    have hm : m.map (opv fr) = m.map (opv fr') := by
      cases m with
      | none => rfl
      | some y => simp only [Option.map_some]; rw [h y (by rw [ho]; simp [Op.operands])]
    simp only [ev, ho, hx, hl, hh, hm]
  | pick x y z =>
    have h1 := h x (by rw [ho]; simp [Op.operands])
    have h2 := h y (by rw [ho]; simp [Op.operands])
    have h3 := h z (by rw [ho]; simp [Op.operands])
    simp only [ev, ho, h1, h2, h3]
  | store t x y =>
    have h1 := h x (by rw [ho]; simp [Op.operands])
    have h2 := h y (by rw [ho]; simp [Op.operands])
    simp only [ev, ho, h1, h2]
  | binOp op t x y yt =>
    have h1 := h x (by rw [ho]; simp [Op.operands])
    have h2 := h y (by rw [ho]; simp [Op.operands])
    have hp := hp (by simp [ho])
    simp only [ev, ho, h1, h2, hp]
  | unOp op t x =>
    have h1 := h x (by rw [ho]; simp [Op.operands])
    have hp := hp (by simp [ho])
    simp only [ev, ho, h1, hp]
  | convert s d x =>
    have h1 := h x (by rw [ho]; simp [Op.operands])
    have hp := hp (by simp [ho])
    simp only [ev, ho, h1, hp]
  | makeSlice t x y | indexAddr t x y | index t x y =>
    have h1 := h x (by rw [ho]; simp [Op.operands])
    have h2 := h y (by rw [ho]; simp [Op.operands])
    simp only [ev, ho, h1, h2]
  | move x | assign x | box t x | load t x | nilCheck x | sliceToArrayPointer t x | makeInterface t x | fieldAddr t x i | field t x i | extract x i =>
    have h1 := h x (by rw [ho]; simp [Op.operands])
    simp only [ev, ho, h1]
  | _ => simp only [ev, ho]

theorem still_ev {o : Oper} {fr : Fr} (h : still P o.op = true) : ∃ r : Option CV, ∀ B : List Box, ev P o fr B = r.map (·, B) := by
  unfold still at h
  split at h
  all_goals first | cases h | skip
  · rename_i x ho; exact ⟨some (opv fr x), fun B => by simp only [ev, ho]; rfl⟩
  · rename_i x ho; exact ⟨some (opv fr x), fun B => by simp only [ev, ho]; rfl⟩
  · rename_i c a b ho
    cases hc : opv fr c with
    | bool t => exact ⟨some (if t then opv fr a else opv fr b), fun B => by simp only [ev, ho, hc]; rfl⟩
    | _ => exact ⟨none, fun B => by simp only [ev, ho, hc]; rfl⟩
  · rename_i op t x y yt ho
    cases h1 : binC P op t (opv fr x) (opv fr y) with
    | some r => exact ⟨r, fun B => by simp only [ev, ho, h1]⟩
    | none =>
      cases h2 : aggEq P op t (opv fr x) (opv fr y) with
      | some c => exact ⟨some c, fun B => by simp only [ev, ho, h1, h2]; rfl⟩
      | none => exact ⟨evPure P o fr, fun B => by simp only [ev, ho, h1, h2]⟩
  · rename_i op t x ho
    cases h1 : unC op (opv fr x) with
    | some r => exact ⟨r, fun B => by simp only [ev, ho, h1]⟩
    | none => exact ⟨evPure P o fr, fun B => by simp only [ev, ho, h1]⟩
  · rename_i x i ho
    cases hc : opv fr x with
    | tup cs => exact ⟨cs[i]?, fun B => by simp only [ev, ho, hc]⟩
    | _ => exact ⟨none, fun B => by simp only [ev, ho, hc]; rfl⟩
  · rename_i t x i ho
    refine ⟨match opv fr x, P.underlying t with | .agg cs, some (.struct fs) => (fs[i]?).bind fun f => partC P f.type cs f.offset | _, _ => none, fun B => ?_⟩
    simp only [ev, ho]
    generalize opv fr x = X
    generalize P.underlying t = U
    split
    · rename_i fs; dsimp only; cases fs[i]? <;> rfl
    · split <;> first | rfl | simp_all
  · rename_i t x i ho
    refine ⟨match opv fr x, opv fr i, P.underlying t with
      | .str s, .int _ i, some .string => if 0 ≤ i then (s[i.toNat]?).map byteC else none
      | .agg cs, .int _ i, some (.array n e) => if 0 ≤ i ∧ i < n then (szOf P e).bind fun esz => partC P e cs (i.toNat * esz) else none
      | _, _, _ => none, fun B => ?_⟩
    simp only [ev, ho]
    generalize opv fr x = X
    generalize opv fr i = Y
    generalize P.underlying t = U
    split
    · rename_i s _ i; dsimp only; split
      · cases s[i.toNat]? <;> rfl
      · rfl
    · rename_i cs _ i n e; dsimp only; split
      · cases szOf P e <;> rfl
      · rfl
    · split <;> first | rfl | (exfalso; simp_all; done) | (exfalso; rename_i hh; exact hh _ _ _ _ _ rfl rfl rfl)
  · rename_i f x y ho; exact ⟨some (.fn f (x.toList.map (opv fr)) (y.toList.map (opv fr))), fun B => by simp only [ev, ho]; rfl⟩
  · rename_i t x ho
    cases hc : P.underlying t with
    | none => exact ⟨none, fun B => by simp only [ev, ho, hc]; rfl⟩
    | some d => cases d with
      | interface _ => exact ⟨none, fun B => by simp only [ev, ho, hc]; rfl⟩
      | _ => exact ⟨some (.iface t (opv fr x)), fun B => by simp only [ev, ho, hc]; rfl⟩
  · rename_i t parts ho
    refine ⟨(zerosOf P t).bind fun zs => match P.underlying t with
      | some (.struct fs) => if fs.toList.all (fun f => (szOf P f.type).isSome) = false then none else (fillC (fun i => (fs[i]?).bind fun f => (szOf P f.type).map (f.offset, ·)) zs (parts.toList.map fun p => (p.1, opv fr p.2))).map .agg
      | some (.array _ e) => (szOf P e).bind fun esz => (fillC (fun i => some (i * esz, esz)) zs (parts.toList.map fun p => (p.1, opv fr p.2))).map .agg
      | _ => none, fun B => ?_⟩
    simp only [ev, ho]
    cases zerosOf P t with
    | none => rfl
    | some zs =>
      simp only [Option.bind_some]
      generalize P.underlying t = U
      split
      · dsimp only; split
        · rfl
        · rw [Option.map_map]; rfl
      · rename_i e; dsimp only; cases szOf P e with
        | none => rfl
        | some z => simp only [Option.bind_some]; rw [Option.map_map]; rfl
      · split <;> first | rfl | simp_all
  · rename_i t k parts ho
    refine ⟨(elemT P t).bind fun e => (szOf P e).bind fun esz => if k * esz > 65536 ∨ esz = 0 then none else (zerosOf P e).bind fun zs => if zs.length ≠ esz then none else
      (fillC (fun i => some (i * esz, esz)) (repC zs k) (parts.toList.map fun p => (p.1, opv fr p.2))).map fun cs => .lst k cs true, fun B => ?_⟩
    simp only [ev, ho]
    cases elemT P t with
    | none => rfl
    | some e =>
      simp only [Option.bind_some]
      cases szOf P e with
      | none => rfl
      | some esz =>
        simp only [Option.bind_some]
        split
        · rfl
        · cases zerosOf P e with
          | none => rfl
          | some zs =>
            simp only [Option.bind_some]
            split
            · rfl
            · rw [Option.map_map]; rfl
  · rename_i t x i ho
    refine ⟨match P.underlying t with
      | some (.struct fs) => (fs[i]?).bind fun f => match szOf P f.type with
        | some (_ + 1) => match opv fr x with | .ptr b off => some (.ptr b (off + f.offset)) | .iptr cs => some (.iptr (cs.drop f.offset)) | _ => none
        | _ => none
      | _ => none, fun B => ?_⟩
    simp only [ev, ho]
    generalize opv fr x = X
    generalize P.underlying t = U
    split
    · rename_i fs
      dsimp only
      cases fs[i]? with
      | none => rfl
      | some f =>
        simp only [Option.bind_some]
        cases szOf P f.type with
        | none => rfl
        | some z => cases z with
          | zero => rfl
          | succ z => cases X <;> rfl
    · split <;> first | rfl | simp_all
  · rename_i s d x ho
    cases hd : P.underlying d with
    | none => rw [hd] at h; cases h
    | some dd =>
      cases dd with
      | int k =>
        refine ⟨match opv fr x, P.underlying s with | .int _ n, some _ => some (.int k (k.wrap n)) | _, _ => evPure P o fr, fun B => ?_⟩
        simp only [ev, ho, hd]
        generalize opv fr x = X
        generalize P.underlying s = U
        cases X <;> cases U <;> first | rfl | (rename_i dd; cases dd <;> rfl)
      | _ => rw [hd] at h; cases h
  · rename_i t x lo hi mx ho
    cases hd : P.underlying t with
    | none => rw [hd] at h; cases h
    | some dd =>
      cases dd with
      | string =>
        refine ⟨match opv fr x, mx with | .str s, none => (boundsC s.length (lo.map (opv fr)) (hi.map (opv fr)) none).map fun (l, h, _) => .str ((s.drop l).take (h - l)) | _, _ => none, fun B => ?_⟩
        simp only [ev, ho, hd]
        generalize opv fr x = X
        split
        · simp only [Option.map_map]; rfl
        · split <;> first | rfl | simp_all
      | slice e =>
        refine ⟨(szOf P e).bind fun esz => match opv fr x with
          | .nilS => (boundsC 0 (lo.map (opv fr)) (hi.map (opv fr)) (mx.map (opv fr))).map fun _ => .nilS
          | .lst n cs full => (boundsC n (lo.map (opv fr)) (hi.map (opv fr)) (mx.map (opv fr))).map fun (l, h, m) => .lst (h - l) ((cs.drop (l * esz)).take ((h - l) * esz)) (fullC m full h n)
          | .cview b off n cap sz => if sz = esz ∧ mx.isNone then (boundsK n cap (lo.map (opv fr)) (hi.map (opv fr))).map fun (l, h) => .cview b (off + l * sz) (h - l) (cap - l) sz else if sz = esz then (boundsC n (lo.map (opv fr)) (hi.map (opv fr)) (mx.map (opv fr))).map fun (l, h, m) => .cview b (off + l * esz) (h - l) (m.getD cap - l) esz else none
          | .view b off n sz full => if sz = esz then (boundsC n (lo.map (opv fr)) (hi.map (opv fr)) (mx.map (opv fr))).map fun (l, h, m) => .view b (off + l * esz) (h - l) esz (fullC m full h n) else none
          | _ => none, fun B => ?_⟩
        simp only [ev, ho, hd]
        cases szOf P e with
        | none => rfl
        | some esz =>
          simp only [Option.bind_some]
          generalize opv fr x = X
          cases X <;> dsimp only <;> first | rfl | (simp only [Option.map_map]; rfl) | (split <;> first | rfl | (simp only [Option.map_map]; rfl) | (split <;> first | rfl | (simp only [Option.map_map]; rfl)))
      | _ => rw [hd] at h; cases h
  · rename_i args ts ho
    simp only [Bool.and_eq_true, beq_iff_eq] at h
    obtain ⟨h1, h2⟩ := h
    obtain ⟨x, hx⟩ : ∃ x, args = #[x] := by
      match args, h1 with
      | ⟨[x]⟩, _ => exact ⟨x, rfl⟩
    obtain ⟨t, ht⟩ : ∃ t, ts = #[t] := by
      match ts, h2 with
      | ⟨[t]⟩, _ => exact ⟨t, rfl⟩
    subst hx ht
    refine ⟨match opv fr x with
      | .nilS => if (elemT P t).isSome then some (.int .i64 0) else none
      | .lst n _ _ => if (elemT P t).isSome then some (.int .i64 n) else none
      | .view _ _ n _ _ => if (elemT P t).isSome then some (.int .i64 n) else none
      | .cview _ _ n _ _ => if (elemT P t).isSome then some (.int .i64 n) else none
      | .str s => match P.underlying t with | some .string => some (.int .i64 s.length) | _ => none
      | _ => match P.underlying t with | some (.array n _) => some (.int .i64 n) | _ => none, fun B => ?_⟩
    simp only [ev, ho, builtinC, List.map_cons, List.map_nil]
    generalize opv fr x = X
    generalize P.underlying t = U
    cases X <;> dsimp only <;> first | rfl | (split <;> rfl) | (split <;> first | rfl | (split <;> first | rfl | (exfalso; rename_i hh _ _ _; exact hh _ _ rfl) | (exfalso; rename_i hh; exact hh _ _ rfl) | simp_all))
theorem StepC_still {o : Oper} {fr : Fr} {B B1 : List Box} {v : CV} (h : still P o.op = true) (hs : StepC P o fr B fun c B'' => c = v ∧ B'' = B1) : B1 = B ∧ ∀ B2, StepC P o fr B2 fun c B'' => c = v ∧ B'' = B2 := by
  obtain ⟨r, hr⟩ := still_ev (P := P) (fr := fr) h
  have hnc : ∀ f args ts, o.op ≠ .call { callee := .value f, args, argTypes := ts } := by
    intro f args ts ho
    rw [ho] at h; simp [still] at h
  have back : ∀ (B : List Box) (K : CV → List Box → Prop), (match r with | some c => K c B | none => False) → StepC P o fr B K := by
    intro B K hk
    unfold StepC
    split
    · rename_i f args ts ho
      exact absurd ho (hnc f args ts)
    · left
      rw [hr]
      cases r with
      | none => exact hk
      | some c => exact hk
  unfold StepC at hs
  split at hs
  · rename_i f args ts ho
    exact absurd ho (hnc f args ts)
  · rcases hs with hs | hs
    · rw [hr] at hs
      cases r with
      | none => exact hs.elim
      | some c =>
        obtain ⟨h1, h2⟩ : c = v ∧ B = B1 := hs
        exact ⟨h2.symm, fun B2 => back B2 _ ⟨h1, rfl⟩⟩
    · exfalso
      unfold StepG at hs
      split at hs
      · rename_i args ts ho; rw [ho] at h; simp [still] at h
      · obtain ⟨_, _, _, _, ⟨k1, _⟩, k2, _⟩ := hs
        rw [← k1] at k2; cases k2
      · exact hs
theorem StepC_congr {fr fr' : Fr} {K : CV → List Box → Prop} (h : ∀ x ∈ o.op.operands, opv fr x = opv fr' x) : StepC P o fr B K ↔ StepC P o fr' B K := by
  unfold StepC
  rw [ev_congr h]
  split
  · rename_i f args ts ho
    have h1 := h f (by rw [ho]; simp [Op.operands, Call.operands])
    have h2 : args.toList.map (opv fr) = args.toList.map (opv fr') := map_congr' fun x hx => h x (by rw [ho]; simp only [Op.operands, Call.operands]; exact Array.mem_append.2 (.inr (by simpa using hx)))
    rw [h1, h2]
  · have : StepG P o fr B K = StepG P o fr' B K := by
      unfold StepG
      split
      · rename_i args ts ho
        have h2 : args.toList.map (opv fr) = args.toList.map (opv fr') := map_congr' fun x hx => h x (by rw [ho]; simp only [Op.operands, Call.operands]; simpa using hx)
        rw [h2]
      · rename_i op t x y yt ho
        rw [h x (by rw [ho]; simp [Op.operands]), h y (by rw [ho]; simp [Op.operands])]
      · rfl
    rw [this]

end
end Go.Sy
