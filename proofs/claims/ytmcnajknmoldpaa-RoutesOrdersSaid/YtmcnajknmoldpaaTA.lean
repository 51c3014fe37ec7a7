import Derived.Test.YtmcnajknmoldpaaSyX
import Derived.Test.YtmcnajknmoldpaaB0
import Derived.Test.YtmcnajknmoldpaaDB
import Derived.Test.YtmcnajknmoldpaaCB
namespace Go.Proofs.Ytmcnajknmoldpaa
open Go Go.Sy
set_option linter.all false
set_option maxRecDepth 100000
set_option maxHeartbeats 4000000
/-! The trie of routes, in plain Lean: what is found behind any insertions. -/
inductive Tr where
  | nil
  | node (has : Bool) (key : List UInt8) (l r : Tr)
def Tr.put : Tr → List Bool → List UInt8 → Tr
  | .nil, [], k => .node true k .nil .nil
  | .node h k0 l r, [], k => if h then .node h k0 l r else .node true k l r
  | .nil, b :: p, k => if b then .node false (List.replicate 32 0) .nil (Tr.put .nil p k) else .node false (List.replicate 32 0) (Tr.put .nil p k) .nil
  | .node h k0 l r, b :: p, k => if b then .node h k0 l (Tr.put r p k) else .node h k0 (Tr.put l p k) r
/-- How deep, and whose. -/
def Tr.find : Tr → List Bool → Option (Nat × List UInt8)
  | .nil, _ => none
  | .node h k _ _, [] => if h then some (0, k) else none
  | .node h k l r, b :: q => match Tr.find (if b then r else l) q with
    | some (d, x) => some (d + 1, x)
    | none => if h then some (0, k) else none
/-- Does what is found last longer than n bits? -/
def deeper (o : Option (Nat × List UInt8)) (n : Nat) : Bool := match o with
  | some (d, _) => decide (n ≤ d)
  | none => false
def isPre : List Bool → List Bool → Bool
  | [], _ => true
  | _ :: _, [] => false
  | a :: p, b :: q => a == b && isPre p q
def step (q : List Bool) (o : Option (Nat × List UInt8)) (e : List Bool × List UInt8) : Option (Nat × List UInt8) := if isPre e.1 q && !deeper o e.1.length then some (e.1.length, e.2) else o
theorem find_nil (q : List Bool) : Tr.find .nil q = none := by cases q <;> rfl
theorem find_put : ∀ (p q : List Bool) (T : Tr) (k : List UInt8), (T.put p k).find q = step q (T.find q) (p, k)
  | [], q, .nil, k => by cases q <;> simp [Tr.put, Tr.find, step, isPre, deeper, find_nil]
  | [], q, .node h k0 l r, k => by
    cases h with
    | true =>
      have hd : deeper (Tr.find (.node true k0 l r) q) 0 = true := by
        cases q with
        | nil => rfl
        | cons b q =>
          simp only [Tr.find]
          cases Tr.find (if b then r else l) q with
          | none => rfl
          | some x => obtain ⟨d, x⟩ := x; simp [deeper]
      simp only [Tr.put, if_true, step, List.length_nil, hd, Bool.not_true, Bool.and_false, Bool.false_eq_true, if_false]
    | false =>
      cases q with
      | nil => simp [Tr.put, Tr.find, step, isPre, deeper]
      | cons b q =>
        simp only [Tr.put, Tr.find, Bool.false_eq_true, if_false, if_true]
        cases hf : Tr.find (if b then r else l) q with
        | none => simp [step, isPre, deeper]
        | some x => obtain ⟨d, x⟩ := x; simp [step, isPre, deeper]
  | b :: p, [], .nil, k => by cases b <;> simp [Tr.put, Tr.find, step, isPre, deeper]
  | b :: p, [], .node h k0 l r, k => by cases b <;> simp [Tr.put, Tr.find, step, isPre]
  | b :: p, c :: q, .nil, k => by
    have ih := find_put p q .nil k
    rw [find_nil] at ih ⊢
    have hn : Tr.find .nil q = none := find_nil q
    cases b <;> cases c <;> simp only [Tr.put, Tr.find, step, isPre, deeper, Bool.false_eq_true, if_false, if_true, hn, ih, beq_self_eq_true, Bool.true_and, Bool.not_false, Bool.and_true, show (true == false) = false from rfl, show (false == true) = false from rfl, Bool.false_and]
    all_goals (cases isPre p q <;> simp)
  | b :: p, c :: q, .node h k0 l r, k => by
    have ihl := find_put p q l k
    have ihr := find_put p q r k
    have key : ∀ o : Option (Nat × List UInt8), (match step q o (p, k) with | some (d, x) => some (d + 1, x) | none => if h then some (0, k0) else none) = step (c :: q) (match o with | some (d, x) => some (d + 1, x) | none => if h then some (0, k0) else none) (c :: p, k) := fun o => by
      unfold step
      simp only [isPre, beq_self_eq_true, Bool.true_and, List.length_cons]
      cases o with
      | none => cases h <;> cases isPre p q <;> simp [deeper]
      | some x =>
        obtain ⟨d, x⟩ := x
        cases isPre p q with
        | false => simp
        | true => by_cases hd : p.length ≤ d <;> simp [deeper, hd]
    by_cases hbc : b = c
    · subst hbc
      cases b with
      | true =>
        simp only [Tr.put, Tr.find, if_true, ihr]
        exact key _
      | false =>
        simp only [Tr.put, Tr.find, Bool.false_eq_true, if_false, ihl]
        exact key _
    · have hne : (b == c) = false := by simpa using hbc
      have hs : ∀ o, step (c :: q) o (b :: p, k) = o := fun o => by simp [step, isPre, hne]
      rw [hs]
      cases b <;> cases c <;> simp_all [Tr.put, Tr.find]
/-- The trie of a list, and what is found in it. -/
def trieF (L : List (List Bool × List UInt8)) : Tr := L.foldl (fun T e => T.put e.1 e.2) .nil
theorem find_trie (q : List Bool) : ∀ (L : List (List Bool × List UInt8)) (T : Tr), (L.foldl (fun T e => T.put e.1 e.2) T).find q = L.foldl (step q) (T.find q)
  | [], _ => rfl
  | e :: L, T => by rw [List.foldl_cons, List.foldl_cons, find_trie q L, find_put]
theorem find_all (L : List (List Bool × List UInt8)) (q : List Bool) : (trieF L).find q = L.foldl (step q) none := by rw [trieF, find_trie, find_nil]
/-! The trie as it stands in boxes; routes.put. -/
abbrev Ad := Bool × List UInt8
def adC (a : Ad) : List CV := .bool a.1 :: a.2.map byteC
abbrev Rt := (Ad × Int) × List UInt8
def rtC (r : Rt) : List CV := (adC r.1.1 ++ [.int .i64 r.1.2]) ++ r.2.map byteC
def ndC (h : Bool) (k : List UInt8) (cl cr : CV) : List CV := .bool h :: (k.map byteC ++ [cl, cr])
/-- A pointer leads to a trie, whose nodes stand in the boxes 'ids'. -/
inductive HT (B : List Box) : List Nat → CV → Tr → Prop
  | nil : HT B [] .nilP .nil
  | node {il ir : List Nat} {cl cr : CV} {l r : Tr} (b : Nat) (h : Bool) (k : List UInt8) (hk : k.length = 32) (hb : B[b]? = some ⟨ndC h k cl cr, false⟩) (hl : HT B il cl l) (hr : HT B ir cr r)
      (h1 : b ∉ il) (h2 : b ∉ ir) (h3 : ∀ i ∈ il, i ∉ ir) : HT B (b :: (il ++ ir)) (.ptr b 0) (.node h k l r)
theorem HT.lt {B : List Box} {ids : List Nat} {c : CV} {T : Tr} (h : HT B ids c T) : ∀ i ∈ ids, i < B.length := by
  induction h with
  | nil => intro i hi; cases hi
  | node b h k hk hb hl hr h1 h2 h3 il ir =>
    intro i hi
    rw [List.mem_cons, List.mem_append] at hi
    rcases hi with rfl | hi | hi
    · exact (List.getElem?_eq_some_iff.1 hb).1
    · exact il i hi
    · exact ir i hi
theorem HT.keep {B B' : List Box} {ids : List Nat} {c : CV} {T : Tr} (h : HT B ids c T) (hk : ∀ i ∈ ids, B'[i]? = B[i]?) : HT B' ids c T := by
  induction h with
  | nil => exact .nil
  | node b h k hk0 hb hl hr h1 h2 h3 il ir =>
    refine .node b h k hk0 (by rw [hk b (by simp), hb]) (il fun i hi => hk i (by simp [hi])) (ir fun i hi => hk i (by simp [hi])) h1 h2 h3
/-- What a call that puts a route leaves. -/
def PutR (B : List Box) (ids : List Nat) (T' : Tr) (c : CV) (B' : List Box) : Prop :=
  ∃ ids', HT B' ids' c T' ∧ (∀ i ∈ ids', i ∈ ids ∨ B.length ≤ i) ∧ (∀ i, i < B.length → i ∉ ids → B'[i]? = B[i]?) ∧ B.length ≤ B'.length
def pathF (A : List UInt8) (n : Nat) : List Bool := (List.range n).map fun k => bitI A k == 1
theorem path_drop {A : List UInt8} {n j : Nat} (h : j < n) : (pathF A n).drop j = (bitI A j == 1) :: (pathF A n).drop (j + 1) := by
  have hl : (pathF A n).length = n := by simp [pathF]
  rw [List.drop_eq_getElem_cons (by omega)]
  simp [pathF]
theorem path_end {A : List UInt8} {n : Nat} : (pathF A n).drop n = [] := List.drop_eq_nil_of_le (by simp [pathF])
/-- One node behind which a child changed. -/
theorem HT.child {B B' : List Box} {b : Nat} {h : Bool} {k : List UInt8} {il ir ids' : List Nat} {cl cr c : CV} {l r T' : Tr} {x : Bool} (hk : k.length = 32) (hl : HT B il cl l) (hr : HT B ir cr r) (h1 : b ∉ il) (h2 : b ∉ ir) (h3 : ∀ i ∈ il, i ∉ ir) (hb : b < B.length)
    (hc : HT B' ids' c T') (hi : ∀ i ∈ ids', i ∈ (if x then ir else il) ∨ B.length ≤ i) (hs : ∀ i, i < B.length → i ∉ (if x then ir else il) → B'[i]? = B[i]?) (hlen : B.length ≤ B'.length) :
    PutR B (b :: (il ++ ir)) (if x then .node h k l T' else .node h k T' r) (.ptr b 0) (B'.set b ⟨ndC h k (if x then cl else c) (if x then c else cr), false⟩) := by
  have hil := hl.lt
  have hir := hr.lt
  have hset : ∀ y, (B'.set b y)[b]? = some y := fun y => List.getElem?_set_self (by omega)
  have hne : ∀ y i, i ≠ b → (B'.set b y)[i]? = B'[i]? := fun y i hi => List.getElem?_set_ne (Ne.symm hi)
  have hb' : b ∉ ids' := fun hm => by
    rcases hi b hm with hx | hx
    · cases x
      · exact h1 hx
      · exact h2 hx
    · omega
  cases x with
  | true =>
    simp only [if_true] at hi hs ⊢
    refine ⟨b :: (il ++ ids'), .node b h k hk (hset _) (hl.keep fun i hi' => ?_) (hc.keep fun i hi' => hne _ i fun e => hb' (e ▸ hi')) h1 hb' fun i hi' hm => ?_, fun i hi' => ?_, fun i hi' hn => ?_, by rw [List.length_set]; exact hlen⟩
    · rw [hne _ i fun e => h1 (e ▸ hi'), hs i (hil i hi') (h3 i hi')]
    · rcases hi i hm with hx | hx
      · exact h3 i hi' hx
      · have := hil i hi'; omega
    · rw [List.mem_cons, List.mem_append] at hi'
      rcases hi' with rfl | hx | hx
      · exact .inl (by simp)
      · exact .inl (by simp [hx])
      · rcases hi i hx with hy | hy
        · exact .inl (by simp [hy])
        · exact .inr hy
    · rw [List.mem_cons, List.mem_append] at hn
      rw [hne _ i fun e => hn (.inl e), hs i hi' fun hx => hn (.inr (.inr hx))]
  | false =>
    simp only [Bool.false_eq_true, if_false] at hi hs ⊢
    refine ⟨b :: (ids' ++ ir), .node b h k hk (hset _) (hc.keep fun i hi' => hne _ i fun e => hb' (e ▸ hi')) (hr.keep fun i hi' => ?_) hb' h2 fun i hi' hm => ?_, fun i hi' => ?_, fun i hi' hn => ?_, by rw [List.length_set]; exact hlen⟩
    · rw [hne _ i fun e => h2 (e ▸ hi'), hs i (hir i hi') fun hx => h3 i hx hi']
    · rcases hi i hi' with hx | hx
      · exact h3 i hx hm
      · have := hir i hm; omega
    · rw [List.mem_cons, List.mem_append] at hi'
      rcases hi' with rfl | hx | hx
      · exact .inl (by simp)
      · rcases hi i hx with hy | hy
        · exact .inl (by simp [hy])
        · exact .inr hy
      · exact .inl (by simp [hx])
    · rw [List.mem_cons, List.mem_append] at hn
      rw [hne _ i fun e => hn (.inl e), hs i hi' fun hx => hn (.inr (.inl hx))]
theorem rbit_in (a : Ad) (k : Nat) (ha : a.2.length = 16) (hk : k < 128) : PC Try.prog true 55 [.agg (adC a), .int .i64 k] (.int .i64 (bitI a.2 k)) := by
  obtain ⟨six, A⟩ := a
  dsimp only at ha
  have hg := get_of_getD (l := A) (i := k / 8) rfl (by omega)
  have hs : (7 - (k : Int) % 8).toNat = 7 - k % 8 := by omega
  have hs2 : 0 ≤ 7 - (k : Int) % 8 := by omega
  rw [bitI]
  generalize A.getD (k / 8) 0 = x at *
  refine acall_intro mixed Try.func55 rfl ca55 (by kernel_rfl) (by rw [Try.ntmps55]; simp) ?_
  repeat' (first | (with_reducible (first | apply w_seq | apply w_region | apply w_block | apply w_skip | apply w_exit | apply w_ret | apply w_then | apply w_then_exit | apply w_then_ret | apply w_in | apply w_in_here | apply w_in_ret | apply w_round | apply o_nil | apply d_nil)) | ((with_reducible (first | apply w_in_exit)); rfl) | ((with_reducible (first | apply w_draw)); rfl) | ((first | ((with_reducible (first | apply o_op | apply d_op | apply q_op)); rfl; rfl) | ((with_reducible (first | apply w_cond | apply w_end | apply w_return))) | ((with_reducible (first | apply o_guard | apply d_guard | apply q_guard)); rfl)); all_goals (first | ((with_reducible show Is _ _); ((try simp (disch := first | omega | (simp only [yA, yB, yC, yD, yE] <;> omega) | fail) [go_sem, yF, yG, yH, *, adC, cons_get1, byteC, if_pos, if_neg, -List.map_take, -List.map_drop, -List.map_append, -List.map_reverse]); exact rfl)) | ((fail_if_success (with_reducible show Is _ _)); (first | ((with_reducible refine fun (hc : (_ : Bool) = _) => ?_); (try simp only [xA, xB, xC, xD, xE, xF, xG, xH, reduceCtorEq, xI, xJ, xK, xL, xM, xN, xO, xP, xQ, xR] at hc); (try (have hx : True := hc; clear hx hc)); (try (exfalso; omega)); (try (with_reducible (exact absurd hc (by assumption)))); (try (with_reducible (exact absurd (by assumption) hc)))) | ((fail_if_success (with_reducible show ACall _ _ _ _ _)); (try (first | exact .inl rfl | (refine .inr ⟨rfl, ?_, ?_⟩; (focus (repeat (first | exact trivial | refine ⟨.inl rfl, ?_⟩ | refine ⟨.inr rfl, ?_⟩))); (first | exact trivial | exact rfl))))))))))
  have hx := x.toNat_lt
  have := div_pow_lt (n := x.toNat) (7 - k % 8) (b := 256) (by omega)
  have hz : 0 ≤ ((x.toNat : Int) / 2 ^ (7 - k % 8)) % 2 ∧ ((x.toNat : Int) / 2 ^ (7 - k % 8)) % 2 < 2 := ⟨Int.emod_nonneg _ (by decide), Int.emod_lt_of_pos _ (by decide)⟩
  rw [and1_u8 this, wi64 ⟨by omega, by omega⟩, fz_int]
  push_cast
  rfl
theorem rbit_at {B : List Box} {args : List CV} {a : Ad} {k : Nat} (hz : Is (omap (fz true false B 6) args) (some [.agg (adC a), .int .i64 k])) (ha : a.2.length = 16) (hk : k < 128) : ACall Try.prog 55 args B fun c B' => c = .int .i64 (bitI a.2 k) ∧ B' = B := acall_fresh hz (rbit_in a k ha hk)
/-! routes.put. -/
theorem adC_len {a : Ad} (h : a.2.length = 16) : (adC a).length = 17 := by simp [adC, h]
theorem rtC_len {r : Rt} (h : r.1.1.2.length = 16) (hk : r.2.length = 32) : (rtC r).length = 50 := by simp [rtC, adC, h, hk]
theorem rt_parts {r : Rt} (h : r.1.1.2.length = 16) (hk : r.2.length = 32) : (rtC r).take 17 = adC r.1.1 ∧ (rtC r)[17]? = some (.int .i64 r.1.2) ∧ ((rtC r).drop 17).head? = some (.int .i64 r.1.2) ∧ (rtC r).drop 18 = r.2.map byteC ∧ (rtC r).take 18 = adC r.1.1 ++ [.int .i64 r.1.2] ∧ (rtC r).take 50 = rtC r ∧ (rtC r).drop 50 = [] := by
  have l17 := adC_len h
  have l18 : (adC r.1.1 ++ [CV.int .i64 r.1.2]).length = 18 := by rw [List.length_append, l17]; rfl
  have e : rtC r = adC r.1.1 ++ (.int .i64 r.1.2 :: r.2.map byteC) := by rw [rtC, List.append_assoc]; rfl
  have l50 := rtC_len h hk
  have g17 : (rtC r)[17]? = some (.int .i64 r.1.2) := by rw [e, List.getElem?_append_right (by omega), l17]; rfl
  refine ⟨by rw [e, List.take_left' l17], g17, by rw [List.head?_drop, g17], by rw [rtC, List.drop_left' l18], by rw [rtC, List.take_left' l18], List.take_of_length_le (by omega), List.drop_eq_nil_of_le (by omega)⟩
theorem nil_run (t : Tmp) : (match pureRun Try.prog (do
          let __do_lift ←
            do
              eqGuard BinOp.eql 66 (.tmp t) (.const (.pointer none)) (Value.pointer none) (Value.pointer none)
              binOp BinOp.eql 66 (Value.pointer none) (Value.pointer none)
          pure (Next.value __do_lift)) with
      | some (Next.value v) => some (ofV v)
      | x => none) = some (CV.bool true) := by kernel_rfl
/-- A nil pointer is nil. -/
theorem ev_nilPtr {fr : Fr} {B : List Box} {t : Tmp} {yt ty : TypeId} {dst : Option Tmp} {pos : String} {after : Array Edge} {g : Option (Nat × Bool)} (hx : fr t = .nilP) : ev Try.prog ⟨dst, .binOp .eql 66 (.tmp t) (.const (.pointer none)) yt, ty, pos, after, g⟩ fr B = some (.bool true, B) := by
  have hx : opv fr (.tmp t) = .nilP := hx
  have hy : opv fr (.const (.pointer none)) = .nilP := rfl
  have h : evPure Try.prog ⟨dst, .binOp .eql 66 (.tmp t) (.const (.pointer none)) yt, ty, pos, after, g⟩ fr = some (.bool true) := by
    unfold evPure
    simp only [Op.operands, hx, hy, toV, execOp, Option.getD_some, Option.isSome_some]
    have ha : (#[Operand.tmp t, Operand.const (.pointer none)].all fun x => (toV (opv fr x)).isSome) = true := by simp [hx, hy, toV]
    rw [if_pos ha]
    exact nil_run t
  simp only [ev, hx, hy, binC, aggEq, h]
  rfl
theorem PutR.same {B X : List Box} {ids : List Nat} {c : CV} {T : Tr} (h : HT B ids c T) : PutR B ids T c (B ++ X) :=
  ⟨ids, h.keep fun i hi => List.getElem?_append_left (h.lt i hi), fun i hi => .inl hi, fun i hi _ => List.getElem?_append_left hi, by rw [List.length_append]; omega⟩
theorem PutR.setN {B X : List Box} {b : Nat} {h' : Bool} {k' : List UInt8} {il ir : List Nat} {cl cr : CV} {l r : Tr} (hk : k'.length = 32) (hb : b < B.length) (hl : HT B il cl l) (hr : HT B ir cr r) (h1 : b ∉ il) (h2 : b ∉ ir) (h3 : ∀ i ∈ il, i ∉ ir) :
    PutR B (b :: (il ++ ir)) (.node h' k' l r) (.ptr b 0) (B.set b ⟨ndC h' k' cl cr, false⟩ ++ X) := by
  have hlen : (B.set b ⟨ndC h' k' cl cr, false⟩).length = B.length := List.length_set
  have hget : ∀ i, i < B.length → (B.set b ⟨ndC h' k' cl cr, false⟩ ++ X)[i]? = (B.set b ⟨ndC h' k' cl cr, false⟩)[i]? := fun i hi => List.getElem?_append_left (by omega)
  have hne : ∀ i, i ≠ b → (B.set b ⟨ndC h' k' cl cr, false⟩)[i]? = B[i]? := fun i hi => List.getElem?_set_ne (Ne.symm hi)
  refine ⟨b :: (il ++ ir), .node b h' k' hk (by rw [hget b hb]; exact List.getElem?_set_self hb) (hl.keep fun i hi => ?_) (hr.keep fun i hi => ?_) h1 h2 h3, fun i hi => .inl hi, fun i hi hn => ?_, by rw [List.length_append, hlen]; omega⟩
  · rw [hget i (hl.lt i hi), hne i fun e => h1 (e ▸ hi)]
  · rw [hget i (hr.lt i hi), hne i fun e => h2 (e ▸ hi)]
  · rw [hget i hi, hne i fun e => hn (by rw [e]; simp)]
theorem PutR.new {B X : List Box} {x : Box} {k : List UInt8} {h : Bool} (hk : k.length = 32) : PutR B [] (.node h k .nil .nil) (.ptr (B.length + 1) 0) (B ++ (x :: ⟨ndC h k .nilP .nilP, false⟩ :: X)) := by
  refine ⟨[B.length + 1], .node (il := []) (ir := []) _ h k hk ?_ .nil .nil (by simp) (by simp) (by simp), fun i hi => .inr ?_, fun i hi _ => List.getElem?_append_left hi, by rw [List.length_append]; omega⟩
  · rw [List.getElem?_append_right (by omega), Nat.add_sub_cancel_left]; rfl
  · rw [List.mem_singleton.1 hi]; omega
theorem PutR.up {B X B' : List Box} {ids ids0 : List Nat} {c : CV} {T : Tr} (h : PutR (B ++ X) ids T c B') (hi : ∀ i ∈ ids, i ∈ ids0 ∨ B.length ≤ i) : PutR B ids0 T c B' := by
  obtain ⟨ids', g1, g2, g3, g4⟩ := h
  rw [List.length_append] at g4
  refine ⟨ids', g1, fun i h => ?_, fun i h hn => ?_, by omega⟩
  · rcases g2 i h with h | h
    · exact hi i h
    · rw [List.length_append] at h; exact .inr (by omega)
  · rw [g3 i (by rw [List.length_append]; omega) fun hm => ?_, List.getElem?_append_left h]
    rcases hi i hm with h' | h'
    · exact hn h'
    · omega
theorem HT.one {B : List Box} {ids : List Nat} {c : CV} {T : Tr} (h : HT B ids c T) : cellsC c = some [c] := by
  cases h <;> rfl
/-- There is such an outcome. -/
theorem put_ex {k : List UInt8} (hk : k.length = 32) : ∀ (p : List Bool) (T : Tr) (B : List Box) (ids : List Nat) (c : CV), HT B ids c T → ∃ c' B', PutR B ids (T.put p k) c' B'
  | [], _, B, _, _, .nil => ⟨_, _, PutR.new (x := ⟨[], false⟩) (X := []) hk⟩
  | [], _, B, _, _, .node b h k0 hk0 hb hl hr h1 h2 h3 => by
    cases h with
    | true => exact ⟨_, _, PutR.same (X := []) (.node b true k0 hk0 hb hl hr h1 h2 h3)⟩
    | false => exact ⟨_, _, PutR.setN (X := []) (h' := true) (k' := k) hk (List.getElem?_eq_some_iff.1 hb).1 hl hr h1 h2 h3⟩
  | x :: p, _, B, _, _, .nil => by
    obtain ⟨c', B', ids', g1, g2, g3, g4⟩ := put_ex hk p .nil (B ++ [⟨[], false⟩, ⟨ndC false (List.replicate 32 0) .nilP .nilP, false⟩]) [] .nilP .nil
    have := HT.child (B := B ++ [⟨[], false⟩, ⟨ndC false (List.replicate 32 0) .nilP .nilP, false⟩]) (b := B.length + 1) (h := false) (k := List.replicate 32 0) (il := []) (ir := []) (l := .nil) (r := .nil) (x := x) rfl .nil .nil (by simp) (by simp) (by simp) (by simp) g1 (by simpa using g2) (by simpa using g3) g4
    cases x with
    | true => exact ⟨_, _, PutR.up (ids0 := []) this (by intro i hi; simp at hi; omega)⟩
    | false => exact ⟨_, _, PutR.up (ids0 := []) this (by intro i hi; simp at hi; omega)⟩
  | x :: p, _, B, _, _, .node (il := il) (ir := ir) (cl := cl) (cr := cr) (l := l) (r := r) b h k0 hk0 hb hl hr h1 h2 h3 => by
    have hbl := (List.getElem?_eq_some_iff.1 hb).1
    cases x with
    | true =>
      obtain ⟨c', B', ids', g1, g2, g3, g4⟩ := put_ex hk p r B ir cr hr
      exact ⟨_, _, HT.child (x := true) hk0 hl hr h1 h2 h3 hbl g1 g2 g3 g4⟩
    | false =>
      obtain ⟨c', B', ids', g1, g2, g3, g4⟩ := put_ex hk p l B il cl hl
      exact ⟨_, _, HT.child (x := false) hk0 hl hr h1 h2 h3 hbl g1 g2 g3 g4⟩
theorem nd_parts {h : Bool} {k : List UInt8} {cl cr : CV} (hk : k.length = 32) : (ndC h k cl cr).length = 35 ∧ (ndC h k cl cr)[33]? = some cl ∧ ((ndC h k cl cr).drop 33).head? = some cl ∧ (ndC h k cl cr)[34]? = some cr ∧ ((ndC h k cl cr).drop 34).head? = some cr ∧
    (∀ c, (ndC h k cl cr).take 33 ++ c :: (ndC h k cl cr).drop 34 = ndC h k c cr) ∧ ∀ c, (ndC h k cl cr).take 34 ++ [c] = ndC h k cl c := by
  have l33 : (CV.bool h :: k.map byteC).length = 33 := by simp [hk]
  have e : ndC h k cl cr = (CV.bool h :: k.map byteC) ++ [cl, cr] := rfl
  have g33 : (ndC h k cl cr)[33]? = some cl := by rw [e, List.getElem?_append_right (by omega), l33]; rfl
  have g34 : (ndC h k cl cr)[34]? = some cr := by rw [e, List.getElem?_append_right (by omega), l33]; rfl
  refine ⟨by rw [e, List.length_append, l33]; rfl, g33, by rw [List.head?_drop, g33], g34, by rw [List.head?_drop, g34], fun c => ?_, fun c => ?_⟩
  · rw [e, List.take_left' l33, List.drop_append, List.drop_eq_nil_of_le (by omega), l33]; rfl
  · rw [e, List.take_append, List.take_of_length_le (by omega), l33]
    show (CV.bool h :: k.map byteC ++ [cl]) ++ [c] = _
    rw [List.append_assoc]; rfl
theorem put_at (A : List UInt8) (six : Bool) (n : Nat) (k : List UInt8) (hA : A.length = 16) (hk : k.length = 32) (hn : n ≤ 128) : ∀ (m j : Nat), j + m = n → ∀ (B : List Box) (ids : List Nat) (c : CV) (T : Tr), HT B ids c T → ∀ (args : List CV), Is args [c, .agg (rtC (((six, A), (n : Int)), k)), .int .i64 j] →
    ACall Try.prog 54 args B fun c' B' => PutR B ids (T.put ((pathF A n).drop j) k) c' B' := by
  have hr := rtC_len (r := (((six, A), (n : Int)), k)) hA hk
  obtain ⟨r1, r2, r3, r4, r5, r6, r7⟩ := rt_parts (r := (((six, A), (n : Int)), k)) hA hk
  dsimp only at r1 r2 r3 r4 r5
  intro m
  induction m with
  | zero =>
    intro j hj B ids c T hT args ha
    have ha : args = _ := ha
    subst ha
    obtain rfl : j = n := by omega
    rw [path_end]
    generalize rtC (((six, A), (j : Int)), k) = rc at *
    refine acall_intro mixed Try.func54 rfl ca54 (by kernel_rfl) (by rw [Try.ntmps54]; simp) ?_
    have hkt : (k.map byteC).take 32 = k.map byteC := List.take_of_length_le (by simp [hk])
    cases hT with
    | nil =>
      repeat' (first | (with_reducible (first | apply w_seq | apply w_region | apply w_block | apply w_skip | apply w_exit | apply w_ret | apply w_then | apply w_then_exit | apply w_then_ret | apply w_in | apply w_in_here | apply w_in_ret | apply w_round | apply o_nil | apply d_nil)) | ((with_reducible (first | apply w_in_exit)); rfl) | ((with_reducible (first | apply w_draw)); rfl) | ((first | ((with_reducible (first | apply o_op | apply d_op | apply q_op)); rfl; rfl) | ((with_reducible (first | apply w_cond | apply w_end | apply w_return))) | ((with_reducible (first | apply o_guard | apply d_guard | apply q_guard)); rfl)); all_goals (first | ((with_reducible show Is _ _); ((try simp (disch := first | omega | (simp only [yA, yB, yC, yD, yE] <;> omega) | fail) [go_sem, yF, yG, yH, *, if_pos, if_neg, -List.map_take, -List.map_drop, -List.map_append, -List.map_reverse]); exact rfl)) | ((fail_if_success (with_reducible show Is _ _)); (first | ((with_reducible refine fun (hc : (_ : Bool) = _) => ?_); (try simp only [xA, xB, xC, xD, xE, xF, xG, xH, reduceCtorEq, xI, xJ, xK, xL, xM, xN, xO, xP, xQ, xR] at hc); (try (have hx : True := hc; clear hx hc)); (try (exfalso; omega)); (try (with_reducible (exact absurd hc (by assumption)))); (try (with_reducible (exact absurd (by assumption) hc)))) | ((fail_if_success (with_reducible show ACall _ _ _ _ _)); (try (first | exact .inl rfl | (refine .inr ⟨rfl, ?_, ?_⟩; (focus (repeat (first | exact trivial | refine ⟨.inl rfl, ?_⟩ | refine ⟨.inr rfl, ?_⟩))); (first | exact trivial | exact rfl))))))))))
      refine o_op rfl rfl (ev_nilPtr (by (simp (disch := omega) [go_sem, *]) <;> (try omega))) ?_
      repeat' (first | (with_reducible (first | apply w_seq | apply w_region | apply w_block | apply w_skip | apply w_exit | apply w_ret | apply w_then | apply w_then_exit | apply w_then_ret | apply w_in | apply w_in_here | apply w_in_ret | apply w_round | apply o_nil | apply d_nil)) | ((with_reducible (first | apply w_in_exit)); rfl) | ((first | ((with_reducible (first | apply o_op | apply d_op | apply q_op)); rfl; rfl) | ((with_reducible (first | apply w_cond | apply w_end | apply w_return))) | ((with_reducible (first | apply o_guard | apply d_guard | apply q_guard)); rfl)); all_goals (first | ((with_reducible show Is _ _); ((try simp (disch := first | omega | (simp only [yA, yB, yC, yD, yE] <;> omega) | fail) [go_sem, yF, yG, yH, *, if_pos, if_neg, -List.map_take, -List.map_drop, -List.map_append, -List.map_reverse]); exact rfl)) | ((fail_if_success (with_reducible show Is _ _)); (first | ((with_reducible refine fun (hc : (_ : Bool) = _) => ?_); (try simp only [xA, xB, xC, xD, xE, xF, xG, xH, reduceCtorEq, xI, xJ, xK, xL, xM, xN, xO, xP, xQ, xR] at hc); (try (have hx : True := hc; clear hx hc)); (try (exfalso; omega)); (try (with_reducible (exact absurd hc (by assumption)))); (try (with_reducible (exact absurd (by assumption) hc)))) | ((fail_if_success (with_reducible show ACall _ _ _ _ _)); (try (first | exact .inl rfl | (refine .inr ⟨rfl, ?_, ?_⟩; (focus (repeat (first | exact trivial | refine ⟨.inl rfl, ?_⟩ | refine ⟨.inr rfl, ?_⟩))); (first | exact trivial | exact rfl))))))))))
      refine w_drawJ [3] [⟨[], false⟩] (fun B' => B'[B.length]? = some ⟨rc, false⟩) rfl rfl (by simp) ?_
      repeat' (first | (with_reducible (first | apply w_seq | apply w_region | apply w_block | apply w_skip | apply w_exit | apply w_ret | apply w_then | apply w_then_exit | apply w_then_ret | apply w_in | apply w_in_here | apply w_in_ret | apply w_round | apply o_nil | apply d_nil)) | ((with_reducible (first | apply w_in_exit)); rfl) | ((with_reducible (first | apply w_draw)); rfl) | ((with_reducible (first | apply w_drawA)); (conv => lhs; reduce); ((try simp (disch := first | omega | (simp only [yA, yB, yC, yD, yE] <;> omega) | fail) [go_sem, yF, yG, yH, *, if_pos, if_neg, -List.map_take, -List.map_drop, -List.map_append, -List.map_reverse]); exact rfl); ((try simp (disch := first | omega | (simp only [yA, yB, yC, yD, yE] <;> omega) | fail) [go_sem, yF, yG, yH, *, if_pos, if_neg, -List.map_take, -List.map_drop, -List.map_append, -List.map_reverse]); exact rfl)) | ((first | ((with_reducible (first | apply d_made | apply q_made)); rfl; rfl)); (iterate 6 ((try simp (disch := first | omega | (simp only [yA, yB, yC, yD, yE] <;> omega) | fail) [go_sem, yF, yG, yH, *, if_pos, if_neg, -List.map_take, -List.map_drop, -List.map_append, -List.map_reverse]); exact rfl))) | ((first | ((with_reducible (first | apply d_fop | apply q_fop)); rfl; rfl)); (intro Bx hJ; (first | (obtain ⟨_, hJ1, hJ2⟩ := hJ) | (try simp only at hJ)); ((try simp (disch := first | omega | (simp only [yA, yB, yC, yD, yE] <;> omega) | fail) [go_sem, yF, yG, yH, *, if_pos, if_neg, -List.map_take, -List.map_drop, -List.map_append, -List.map_reverse]); exact rfl))) | ((first | ((with_reducible (first | apply o_op | apply d_op | apply q_op)); rfl; rfl) | ((with_reducible (first | apply w_cond | apply w_end | apply w_return))) | ((with_reducible (first | apply o_guard | apply d_guard | apply q_guard)); rfl)); all_goals (first | ((with_reducible show Is _ _); ((try simp (disch := first | omega | (simp only [yA, yB, yC, yD, yE] <;> omega) | fail) [go_sem, yF, yG, yH, *, if_pos, if_neg, -List.map_take, -List.map_drop, -List.map_append, -List.map_reverse]); exact rfl)) | ((fail_if_success (with_reducible show Is _ _)); (first | ((with_reducible refine fun (hc : (_ : Bool) = _) => ?_); (try simp only [xA, xB, xC, xD, xE, xF, xG, xH, reduceCtorEq, xI, xJ, xK, xL, xM, xN, xO, xP, xQ, xR] at hc); (try (have hx : True := hc; clear hx hc)); (try (exfalso; omega)); (try (with_reducible (exact absurd hc (by assumption)))); (try (with_reducible (exact absurd (by assumption) hc)))) | ((fail_if_success (with_reducible show ACall _ _ _ _ _)); (try (first | exact .inl rfl | (refine .inr ⟨rfl, ?_, ?_⟩; (focus (repeat (first | exact trivial | refine ⟨.inl rfl, ?_⟩ | refine ⟨.inr rfl, ?_⟩ | refine ⟨.inr (by (simp (disch := first | omega | (simp only [yA, yB, yC, yD, yE] <;> omega) | fail) [go_sem, yF, yG, yH, *, -List.map_take, -List.map_drop, -List.map_append, -List.map_reverse])), ?_⟩))); (first | exact trivial | exact rfl | (refine ⟨_, ?_, ?_⟩; (focus (simp (disch := first | omega | (simp only [yA, yB, yC, yD, yE] <;> omega) | fail) [go_sem, yF, yG, yH, *, -List.map_take, -List.map_drop, -List.map_append, -List.map_reverse]; (try exact rfl))); (simp (disch := first | omega | (simp only [yA, yB, yC, yD, yE] <;> omega) | fail) [go_sem, yF, yG, yH, *, -List.map_take, -List.map_drop, -List.map_append, -List.map_reverse])) | (simp (disch := first | omega | (simp only [yA, yB, yC, yD, yE] <;> omega) | fail) [go_sem, yF, yG, yH, *, -List.map_take, -List.map_drop, -List.map_append, -List.map_reverse]))) | exact .inl (by (simp (disch := first | omega | (simp only [yA, yB, yC, yD, yE] <;> omega) | fail) [go_sem, yF, yG, yH, *, -List.map_take, -List.map_drop, -List.map_append, -List.map_reverse]))))))))))
      exact PutR.new hk
    | node b h k0 hk0 hb hl hr' h1 h2 h3 =>
      have hbx := bx_pack hb
      have hkm := bmid hk0
      cases h with
      | true =>
        repeat' (first | (with_reducible (first | apply w_seq | apply w_region | apply w_block | apply w_skip | apply w_exit | apply w_ret | apply w_then | apply w_then_exit | apply w_then_ret | apply w_in | apply w_in_here | apply w_in_ret | apply w_round | apply o_nil | apply d_nil)) | ((with_reducible (first | apply w_in_exit)); rfl) | ((with_reducible (first | apply w_draw)); rfl) | ((first | ((with_reducible (first | apply o_op | apply d_op | apply q_op)); rfl; rfl) | ((with_reducible (first | apply w_cond | apply w_end | apply w_return))) | ((with_reducible (first | apply o_guard | apply d_guard | apply q_guard)); rfl)); all_goals (first | ((with_reducible show Is _ _); ((try simp (disch := first | omega | (simp only [yA, yB, yC, yD, yE] <;> omega) | fail) [go_sem, yF, yG, yH, *, ndC, if_pos, if_neg, -List.map_take, -List.map_drop, -List.map_append, -List.map_reverse]); exact rfl)) | ((fail_if_success (with_reducible show Is _ _)); (first | ((with_reducible refine fun (hc : (_ : Bool) = _) => ?_); (try simp only [xA, xB, xC, xD, xE, xF, xG, xH, reduceCtorEq, xI, xJ, xK, xL, xM, xN, xO, xP, xQ, xR] at hc); (try (have hx : True := hc; clear hx hc)); (try (exfalso; omega)); (try (with_reducible (exact absurd hc (by assumption)))); (try (with_reducible (exact absurd (by assumption) hc)))) | ((fail_if_success (with_reducible show ACall _ _ _ _ _)); (try (first | exact .inl rfl | (refine .inr ⟨rfl, ?_, ?_⟩; (focus (repeat (first | exact trivial | refine ⟨.inl rfl, ?_⟩ | refine ⟨.inr rfl, ?_⟩))); (first | exact trivial | exact rfl))))))))))
        exact PutR.same (.node b true k0 hk0 hb hl hr' h1 h2 h3)
      | false =>
        repeat' (first | (with_reducible (first | apply w_seq | apply w_region | apply w_block | apply w_skip | apply w_exit | apply w_ret | apply w_then | apply w_then_exit | apply w_then_ret | apply w_in | apply w_in_here | apply w_in_ret | apply w_round | apply o_nil | apply d_nil)) | ((with_reducible (first | apply w_in_exit)); rfl) | ((first | ((with_reducible (first | apply o_op | apply d_op | apply q_op)); rfl; rfl) | ((with_reducible (first | apply w_cond | apply w_end | apply w_return))) | ((with_reducible (first | apply o_guard | apply d_guard | apply q_guard)); rfl)); all_goals (first | ((with_reducible show Is _ _); ((try simp (disch := first | omega | (simp only [yA, yB, yC, yD, yE] <;> omega) | fail) [go_sem, yF, yG, yH, *, ndC, if_pos, if_neg, -List.map_take, -List.map_drop, -List.map_append, -List.map_reverse]); exact rfl)) | ((fail_if_success (with_reducible show Is _ _)); (first | ((with_reducible refine fun (hc : (_ : Bool) = _) => ?_); (try simp only [xA, xB, xC, xD, xE, xF, xG, xH, reduceCtorEq, xI, xJ, xK, xL, xM, xN, xO, xP, xQ, xR] at hc); (try (have hx : True := hc; clear hx hc)); (try (exfalso; omega)); (try (with_reducible (exact absurd hc (by assumption)))); (try (with_reducible (exact absurd (by assumption) hc)))) | ((fail_if_success (with_reducible show ACall _ _ _ _ _)); (try (first | exact .inl rfl | (refine .inr ⟨rfl, ?_, ?_⟩; (focus (repeat (first | exact trivial | refine ⟨.inl rfl, ?_⟩ | refine ⟨.inr rfl, ?_⟩))); (first | exact trivial | exact rfl))))))))))
        refine w_drawJ [3] [⟨[], false⟩] (fun B' => B'[B.length]? = some ⟨rc, false⟩) rfl rfl (by simp) ?_
        repeat' (first | (with_reducible (first | apply w_seq | apply w_region | apply w_block | apply w_skip | apply w_exit | apply w_ret | apply w_then | apply w_then_exit | apply w_then_ret | apply w_in | apply w_in_here | apply w_in_ret | apply w_round | apply o_nil | apply d_nil)) | ((with_reducible (first | apply w_in_exit)); rfl) | ((with_reducible (first | apply w_draw)); rfl) | ((with_reducible (first | apply w_drawA)); (conv => lhs; reduce); ((try simp (disch := first | omega | (simp only [yA, yB, yC, yD, yE] <;> omega) | fail) [go_sem, yF, yG, yH, *, ndC, if_pos, if_neg, -List.map_take, -List.map_drop, -List.map_append, -List.map_reverse]); exact rfl); ((try simp (disch := first | omega | (simp only [yA, yB, yC, yD, yE] <;> omega) | fail) [go_sem, yF, yG, yH, *, ndC, if_pos, if_neg, -List.map_take, -List.map_drop, -List.map_append, -List.map_reverse]); exact rfl)) | ((first | ((with_reducible (first | apply d_made | apply q_made)); rfl; rfl)); (iterate 6 ((try simp (disch := first | omega | (simp only [yA, yB, yC, yD, yE] <;> omega) | fail) [go_sem, yF, yG, yH, *, ndC, if_pos, if_neg, -List.map_take, -List.map_drop, -List.map_append, -List.map_reverse]); exact rfl))) | ((first | ((with_reducible (first | apply d_fop | apply q_fop)); rfl; rfl)); (intro Bx hJ; (first | (obtain ⟨_, hJ1, hJ2⟩ := hJ) | (try simp only at hJ)); ((try simp (disch := first | omega | (simp only [yA, yB, yC, yD, yE] <;> omega) | fail) [go_sem, yF, yG, yH, *, ndC, if_pos, if_neg, -List.map_take, -List.map_drop, -List.map_append, -List.map_reverse]); exact rfl))) | ((first | ((with_reducible (first | apply o_op | apply d_op | apply q_op)); rfl; rfl) | ((with_reducible (first | apply w_cond | apply w_end | apply w_return))) | ((with_reducible (first | apply o_guard | apply d_guard | apply q_guard)); rfl)); all_goals (first | ((with_reducible show Is _ _); ((try simp (disch := first | omega | (simp only [yA, yB, yC, yD, yE] <;> omega) | fail) [go_sem, yF, yG, yH, *, ndC, if_pos, if_neg, -List.map_take, -List.map_drop, -List.map_append, -List.map_reverse]); exact rfl)) | ((fail_if_success (with_reducible show Is _ _)); (first | ((with_reducible refine fun (hc : (_ : Bool) = _) => ?_); (try simp only [xA, xB, xC, xD, xE, xF, xG, xH, reduceCtorEq, xI, xJ, xK, xL, xM, xN, xO, xP, xQ, xR] at hc); (try (have hx : True := hc; clear hx hc)); (try (exfalso; omega)); (try (with_reducible (exact absurd hc (by assumption)))); (try (with_reducible (exact absurd (by assumption) hc)))) | ((fail_if_success (with_reducible show ACall _ _ _ _ _)); (try (first | exact .inl rfl | (refine .inr ⟨rfl, ?_, ?_⟩; (focus (repeat (first | exact trivial | refine ⟨.inl rfl, ?_⟩ | refine ⟨.inr rfl, ?_⟩ | refine ⟨.inr (by (simp (disch := first | omega | (simp only [yA, yB, yC, yD, yE] <;> omega) | fail) [go_sem, yF, yG, yH, *, ndC, -List.map_take, -List.map_drop, -List.map_append, -List.map_reverse])), ?_⟩))); (first | exact trivial | exact rfl | (refine ⟨_, ?_, ?_⟩; (focus (simp (disch := first | omega | (simp only [yA, yB, yC, yD, yE] <;> omega) | fail) [go_sem, yF, yG, yH, *, ndC, -List.map_take, -List.map_drop, -List.map_append, -List.map_reverse]; (try exact rfl))); (simp (disch := first | omega | (simp only [yA, yB, yC, yD, yE] <;> omega) | fail) [go_sem, yF, yG, yH, *, ndC, -List.map_take, -List.map_drop, -List.map_append, -List.map_reverse])) | (simp (disch := first | omega | (simp only [yA, yB, yC, yD, yE] <;> omega) | fail) [go_sem, yF, yG, yH, *, ndC, -List.map_take, -List.map_drop, -List.map_append, -List.map_reverse]))) | exact .inl (by (simp (disch := first | omega | (simp only [yA, yB, yC, yD, yE] <;> omega) | fail) [go_sem, yF, yG, yH, *, ndC, -List.map_take, -List.map_drop, -List.map_append, -List.map_reverse]))))))))))
        exact PutR.setN (X := [⟨rc, false⟩, ⟨[], false⟩]) hk (List.getElem?_eq_some_iff.1 hb).1 hl hr' h1 h2 h3
  | succ m ih =>
    intro j hj B ids c T hT args ha
    have ha : args = _ := ha
    subst ha
    have hjn : j < n := by omega
    rw [path_drop hjn]
    have hbit : ∀ (B : List Box) (args : List CV), Is (omap (fz true false B 6) args) (some [.agg (adC (six, A)), .int .i64 j]) → ACall Try.prog 55 args B fun c B' => c = .int .i64 (bitI A j) ∧ B' = B := fun B args h => rbit_at (a := (six, A)) h hA (by omega)
    have hb2 : bitI A j < 2 := Nat.mod_lt _ (by omega)
    have hw : IntKind.i64.wrap ((j : Int) + 1) = (j : Int) + 1 := wi64 (by omega)
    have hj1 : ((j + 1 : Nat) : Int) = (j : Int) + 1 := by omega
    have hadm : ∀ (nz fr : Bool) (B : List Box) (k : Nat), omap (fz nz fr B (k + 1)) (adC (six, A)) = some (adC (six, A)) := fun _ _ _ _ => by simp [adC, go_sem]
    have hla := adC_len (a := (six, A)) hA
    have hta : (adC (six, A)).take 17 = adC (six, A) := List.take_of_length_le (by omega)
    have ih := ih (j + 1) (by omega)
    simp only [hj1] at ih
    clear hj1
    generalize (pathF A n).drop (j + 1) = p at *
    generalize rtC (((six, A), (n : Int)), k) = rc at *
    generalize adC (six, A) = ac at *
    refine acall_intro mixed Try.func54 rfl ca54 (by kernel_rfl) (by rw [Try.ntmps54]; simp) ?_
    have hne : ¬ ((j : Int) = (n : Int)) := by omega
    generalize bitI A j = y at *
    cases hT with
    | nil =>
      repeat' (first | (with_reducible (first | apply w_seq | apply w_region | apply w_block | apply w_skip | apply w_exit | apply w_ret | apply w_then | apply w_then_exit | apply w_then_ret | apply w_in | apply w_in_here | apply w_in_ret | apply w_round | apply o_nil | apply d_nil)) | ((with_reducible (first | apply w_in_exit)); rfl) | ((with_reducible (first | apply w_draw)); rfl) | ((first | ((with_reducible (first | apply o_op | apply d_op | apply q_op)); rfl; rfl) | ((with_reducible (first | apply w_cond | apply w_end | apply w_return))) | ((with_reducible (first | apply o_guard | apply d_guard | apply q_guard)); rfl)); all_goals (first | ((with_reducible show Is _ _); ((try simp (disch := first | omega | (simp only [yA, yB, yC, yD, yE] <;> omega) | fail) [go_sem, yF, yG, yH, *, if_pos, if_neg, -List.map_take, -List.map_drop, -List.map_append, -List.map_reverse]); exact rfl)) | ((fail_if_success (with_reducible show Is _ _)); (first | ((with_reducible refine fun (hc : (_ : Bool) = _) => ?_); (try simp only [xA, xB, xC, xD, xE, xF, xG, xH, reduceCtorEq, xI, xJ, xK, xL, xM, xN, xO, xP, xQ, xR] at hc); (try (have hx : True := hc; clear hx hc)); (try (exfalso; omega)); (try (with_reducible (exact absurd hc (by assumption)))); (try (with_reducible (exact absurd (by assumption) hc)))) | ((fail_if_success (with_reducible show ACall _ _ _ _ _)); (try (first | exact .inl rfl | (refine .inr ⟨rfl, ?_, ?_⟩; (focus (repeat (first | exact trivial | refine ⟨.inl rfl, ?_⟩ | refine ⟨.inr rfl, ?_⟩))); (first | exact trivial | exact rfl))))))))))
      refine o_op rfl rfl (ev_nilPtr (by (simp (disch := omega) [go_sem, *]) <;> (try omega))) ?_
      repeat' (first | (with_reducible (first | apply w_seq | apply w_region | apply w_block | apply w_skip | apply w_exit | apply w_ret | apply w_then | apply w_then_exit | apply w_then_ret | apply w_in | apply w_in_here | apply w_in_ret | apply w_round | apply o_nil | apply d_nil)) | ((with_reducible (first | apply w_in_exit)); rfl) | ((first | ((with_reducible (first | apply o_op | apply d_op | apply q_op)); rfl; rfl) | ((with_reducible (first | apply w_cond | apply w_end | apply w_return))) | ((with_reducible (first | apply o_guard | apply d_guard | apply q_guard)); rfl) | ((with_reducible (first | apply o_call_eq | apply d_call | apply q_call)); rfl)); all_goals (first | ((with_reducible show Is _ _); ((try simp (disch := first | omega | (simp only [yA, yB, yC, yD, yE] <;> omega) | fail) [go_sem, yF, yG, yH, *, if_pos, if_neg, -List.map_take, -List.map_drop, -List.map_append, -List.map_reverse]); exact rfl)) | ((fail_if_success (with_reducible show Is _ _)); (first | ((with_reducible refine fun (hc : (_ : Bool) = _) => ?_); (try simp only [xA, xB, xC, xD, xE, xF, xG, xH, reduceCtorEq, xI, xJ, xK, xL, xM, xN, xO, xP, xQ, xR] at hc); (try (have hx : True := hc; clear hx hc)); (try (exfalso; omega)); (try (with_reducible (exact absurd hc (by assumption)))); (try (with_reducible (exact absurd (by assumption) hc)))) | ((with_reducible show ACall _ _ _ _ _); (first | ((with_reducible (first | apply hbit)) <;> (first | omega | assumption | exact rfl | ((simp (disch := first | omega | (simp only [yA, yB, yC, yD, yE] <;> omega) | fail) [go_sem, yF, yG, yH, *, -List.map_take, -List.map_drop, -List.map_append, -List.map_reverse]) <;> (first | done | omega | exact rfl)))))) | ((fail_if_success (with_reducible show ACall _ _ _ _ _)); (try (first | exact .inl rfl | (refine .inr ⟨rfl, ?_, ?_⟩; (focus (repeat (first | exact trivial | refine ⟨.inl rfl, ?_⟩ | refine ⟨.inr rfl, ?_⟩))); (first | exact trivial | exact rfl))))))))))
      obtain ⟨b, hbe⟩ : ∃ b, B.length + 1 = b := ⟨_, rfl⟩
      obtain ⟨nc, hnc⟩ : ∃ nc, ndC false (List.replicate 32 0) .nilP .nilP = nc := ⟨_, rfl⟩
      obtain ⟨B1, hB1⟩ : ∃ B1 : List Box, B ++ [⟨rc, false⟩, ⟨[.bool false, .int .u8 0, .int .u8 0, .int .u8 0, .int .u8 0, .int .u8 0, .int .u8 0, .int .u8 0, .int .u8 0, .int .u8 0, .int .u8 0, .int .u8 0, .int .u8 0, .int .u8 0, .int .u8 0, .int .u8 0, .int .u8 0, .int .u8 0, .int .u8 0, .int .u8 0, .int .u8 0, .int .u8 0, .int .u8 0, .int .u8 0, .int .u8 0, .int .u8 0, .int .u8 0, .int .u8 0, .int .u8 0, .int .u8 0, .int .u8 0, .int .u8 0, .int .u8 0, .nilP, .nilP], false⟩] = B1 := ⟨_, rfl⟩
      obtain ⟨D1, hD⟩ : ∃ D1 : List Box, B1 ++ [⟨[], false⟩, ⟨[], false⟩] = D1 := ⟨_, rfl⟩
      have hDe : B ++ [⟨rc, false⟩, ⟨[.bool false, .int .u8 0, .int .u8 0, .int .u8 0, .int .u8 0, .int .u8 0, .int .u8 0, .int .u8 0, .int .u8 0, .int .u8 0, .int .u8 0, .int .u8 0, .int .u8 0, .int .u8 0, .int .u8 0, .int .u8 0, .int .u8 0, .int .u8 0, .int .u8 0, .int .u8 0, .int .u8 0, .int .u8 0, .int .u8 0, .int .u8 0, .int .u8 0, .int .u8 0, .int .u8 0, .int .u8 0, .int .u8 0, .int .u8 0, .int .u8 0, .int .u8 0, .int .u8 0, .nilP, .nilP], false⟩, ⟨[], false⟩, ⟨[], false⟩] = D1 := by rw [← hD, ← hB1, List.append_assoc]; rfl
      have hb1 : D1[b]? = some ⟨nc, false⟩ := by rw [← hDe, ← hbe, ← hnc, List.getElem?_append_right (by omega), Nat.add_sub_cancel_left]; rfl
      have hrc : D1[B.length]? = some ⟨rc, false⟩ := by rw [← hDe, List.getElem?_append_right (Nat.le_refl _), Nat.sub_self]; rfl
      have hup : ∀ T c B2, PutR D1 (b :: ([] ++ [])) T c B2 → PutR B [] T c B2 := fun T c B2 h => PutR.up (X := [⟨rc, false⟩, ⟨[.bool false, .int .u8 0, .int .u8 0, .int .u8 0, .int .u8 0, .int .u8 0, .int .u8 0, .int .u8 0, .int .u8 0, .int .u8 0, .int .u8 0, .int .u8 0, .int .u8 0, .int .u8 0, .int .u8 0, .int .u8 0, .int .u8 0, .int .u8 0, .int .u8 0, .int .u8 0, .int .u8 0, .int .u8 0, .int .u8 0, .int .u8 0, .int .u8 0, .int .u8 0, .int .u8 0, .int .u8 0, .int .u8 0, .int .u8 0, .int .u8 0, .int .u8 0, .int .u8 0, .nilP, .nilP], false⟩, ⟨[], false⟩, ⟨[], false⟩]) (by rw [hDe]; exact h) (by intro i hi; simp at hi; omega)
      have hk0 : (List.replicate 32 (0 : UInt8)).length = 32 := rfl
      obtain ⟨n1, n2, n3, n4, n5, n6, n7⟩ := nd_parts (h := false) (cl := .nilP) (cr := .nilP) hk0
      rw [hnc] at n1 n2 n3 n4 n5 n6 n7
      have n8 : nc.drop 35 = [] := List.drop_eq_nil_of_le (by omega)
      have hl : HT D1 [] .nilP .nil := .nil
      have hr' : HT D1 [] .nilP .nil := .nil
      have h1 : b ∉ ([] : List Nat) := by simp
      have h2 : b ∉ ([] : List Nat) := by simp
      have h3 : ∀ i ∈ ([] : List Nat), i ∉ ([] : List Nat) := by simp
      have hi0 : ∀ i, B1.length ≤ i → i ∉ ([] : List Nat) := by simp
      have hcall : ∀ args, Is args [.nilP, .agg rc, .int .i64 ((j : Int) + 1)] → ACall Try.prog 54 args D1 fun c' B' => PutR D1 [] (Tr.put .nil p k) c' B' := fun args h => ih D1 [] .nilP .nil .nil args h
      rw [hB1, hbe]
      clear hB1 hnc hbit hDe
      replace hD : Is _ _ := hD
      replace hup : Hid _ := hup
      rcases (show y = 0 ∨ y = 1 by omega) with rfl | rfl
      · refine w_drawQ [12, 14] [⟨[], false⟩, ⟨[], false⟩] (fun _ => True) rfl hD trivial ?_
        repeat' (first | (with_reducible (first | apply w_seq | apply w_region | apply w_block | apply w_skip | apply w_exit | apply w_ret | apply w_then | apply w_then_exit | apply w_then_ret | apply w_in | apply w_in_here | apply w_in_ret | apply w_round | apply o_nil | apply d_nil)) | ((with_reducible (first | apply w_in_exit)); rfl) | ((with_reducible (first | apply w_draw)); rfl) | ((with_reducible (first | apply w_drawA)); (conv => lhs; reduce); ((try simp (disch := first | omega | (simp only [yA, yB, yC, yD, yE] <;> omega) | fail) [go_sem, yF, yG, yH, *, if_pos, if_neg, -List.map_take, -List.map_drop, -List.map_append, -List.map_reverse]); exact rfl); ((try simp (disch := first | omega | (simp only [yA, yB, yC, yD, yE] <;> omega) | fail) [go_sem, yF, yG, yH, *, if_pos, if_neg, -List.map_take, -List.map_drop, -List.map_append, -List.map_reverse]); exact rfl)) | ((first | ((with_reducible (first | apply d_made | apply q_made)); rfl; rfl)); (iterate 6 ((try simp (disch := first | omega | (simp only [yA, yB, yC, yD, yE] <;> omega) | fail) [go_sem, yF, yG, yH, *, if_pos, if_neg, -List.map_take, -List.map_drop, -List.map_append, -List.map_reverse]); exact rfl))) | ((first | ((with_reducible (first | apply d_fop | apply q_fop)); rfl; rfl)); (intro Bx hJ; (first | (obtain ⟨_, hJ1, hJ2⟩ := hJ) | (try simp only at hJ)); ((try simp (disch := first | omega | (simp only [yA, yB, yC, yD, yE] <;> omega) | fail) [go_sem, yF, yG, yH, *, if_pos, if_neg, -List.map_take, -List.map_drop, -List.map_append, -List.map_reverse]); exact rfl))) | ((first | ((with_reducible (first | apply o_op | apply d_op | apply q_op)); rfl; rfl) | ((with_reducible (first | apply w_cond | apply w_end | apply w_return))) | ((with_reducible (first | apply o_guard | apply d_guard | apply q_guard)); rfl)); all_goals (first | ((with_reducible show Is _ _); ((try simp (disch := first | omega | (simp only [yA, yB, yC, yD, yE] <;> omega) | fail) [go_sem, yF, yG, yH, *, if_pos, if_neg, -List.map_take, -List.map_drop, -List.map_append, -List.map_reverse]); exact rfl)) | ((fail_if_success (with_reducible show Is _ _)); (first | ((with_reducible refine fun (hc : (_ : Bool) = _) => ?_); (try simp only [xA, xB, xC, xD, xE, xF, xG, xH, reduceCtorEq, xI, xJ, xK, xL, xM, xN, xO, xP, xQ, xR] at hc); (try (have hx : True := hc; clear hx hc)); (try (exfalso; omega)); (try (with_reducible (exact absurd hc (by assumption)))); (try (with_reducible (exact absurd (by assumption) hc)))) | ((fail_if_success (with_reducible show ACall _ _ _ _ _)); (try (first | exact .inl rfl | (refine .inr ⟨rfl, ?_, ?_⟩; (focus (repeat (first | exact trivial | refine ⟨.inl rfl, ?_⟩ | refine ⟨.inr rfl, ?_⟩ | refine ⟨.inr (by (simp (disch := first | omega | (simp only [yA, yB, yC, yD, yE] <;> omega) | fail) [go_sem, yF, yG, yH, *, -List.map_take, -List.map_drop, -List.map_append, -List.map_reverse])), ?_⟩))); (first | exact trivial | exact rfl | (refine ⟨_, ?_, ?_⟩; (focus (simp (disch := first | omega | (simp only [yA, yB, yC, yD, yE] <;> omega) | fail) [go_sem, yF, yG, yH, *, -List.map_take, -List.map_drop, -List.map_append, -List.map_reverse]; (try exact rfl))); (simp (disch := first | omega | (simp only [yA, yB, yC, yD, yE] <;> omega) | fail) [go_sem, yF, yG, yH, *, -List.map_take, -List.map_drop, -List.map_append, -List.map_reverse])) | (simp (disch := first | omega | (simp only [yA, yB, yC, yD, yE] <;> omega) | fail) [go_sem, yF, yG, yH, *, -List.map_take, -List.map_drop, -List.map_append, -List.map_reverse]))) | exact .inl (by (simp (disch := first | omega | (simp only [yA, yB, yC, yD, yE] <;> omega) | fail) [go_sem, yF, yG, yH, *, -List.map_take, -List.map_drop, -List.map_append, -List.map_reverse]))))))))) | (((with_reducible (first | apply o_callQ | apply q_callQ)); rfl); (iterate 2 ((try simp (disch := first | omega | (simp only [yA, yB, yC, yD, yE] <;> omega) | fail) [go_sem, yF, yG, yH, *, if_pos, if_neg, -List.map_take, -List.map_drop, -List.map_append, -List.map_reverse]); exact rfl)); (first | ((with_reducible (first | apply hcall)) <;> (first | omega | assumption | exact rfl | ((simp (disch := first | omega | (simp only [yA, yB, yC, yD, yE] <;> omega) | fail) [go_sem, yF, yG, yH, *, -List.map_take, -List.map_drop, -List.map_append, -List.map_reverse]) <;> (first | done | omega | exact rfl)))))))
        · exact put_ex hk p _ D1 _ _ hl
        · rintro c2 B2 ⟨ids', g1, g2, g3, g4⟩
          have hDl : D1.length = B1.length + 2 := by rw [← (show B1 ++ [⟨[], false⟩, ⟨[], false⟩] = D1 from hD), List.length_append]; rfl
          refine ⟨⟨.inr (g3 _ (by omega) (hi0 _ (by omega))), .inr (g3 _ (by omega) (hi0 _ (by omega))), trivial⟩, trivial, ?_⟩
          have hb2 : B2[b]? = some ⟨nc, false⟩ := by rw [g3 b (List.getElem?_eq_some_iff.1 hb1).1 (by assumption), hb1]
          have hbx2 := bx_pack hb2
          have hch := HT.child (x := false) (h := false) hk0 hl hr' h1 h2 h3 (List.getElem?_eq_some_iff.1 hb1).1 g1 g2 g3 g4
          replace hch : Hid _ := hch
          have hcc := g1.one
          clear g1 g2 g3 g4 hcall
          repeat' (first | (with_reducible (first | apply w_seq | apply w_region | apply w_block | apply w_skip | apply w_exit | apply w_ret | apply w_then | apply w_then_exit | apply w_then_ret | apply w_in | apply w_in_here | apply w_in_ret | apply w_round | apply o_nil | apply d_nil)) | ((with_reducible (first | apply w_in_exit)); rfl) | ((with_reducible (first | apply w_draw)); rfl) | ((with_reducible (first | apply w_drawA)); (conv => lhs; reduce); ((try simp (disch := first | omega | (simp only [yA, yB, yC, yD, yE] <;> omega) | fail) [go_sem, yF, yG, yH, *, if_pos, if_neg, -List.map_take, -List.map_drop, -List.map_append, -List.map_reverse]); exact rfl); ((try simp (disch := first | omega | (simp only [yA, yB, yC, yD, yE] <;> omega) | fail) [go_sem, yF, yG, yH, *, if_pos, if_neg, -List.map_take, -List.map_drop, -List.map_append, -List.map_reverse]); exact rfl)) | ((first | ((with_reducible (first | apply d_made | apply q_made)); rfl; rfl)); (iterate 6 ((try simp (disch := first | omega | (simp only [yA, yB, yC, yD, yE] <;> omega) | fail) [go_sem, yF, yG, yH, *, if_pos, if_neg, -List.map_take, -List.map_drop, -List.map_append, -List.map_reverse]); exact rfl))) | ((first | ((with_reducible (first | apply d_fop | apply q_fop)); rfl; rfl)); (intro Bx hJ; (first | (obtain ⟨_, hJ1, hJ2⟩ := hJ) | (try simp only at hJ)); ((try simp (disch := first | omega | (simp only [yA, yB, yC, yD, yE] <;> omega) | fail) [go_sem, yF, yG, yH, *, if_pos, if_neg, -List.map_take, -List.map_drop, -List.map_append, -List.map_reverse]); exact rfl))) | ((first | ((with_reducible (first | apply o_op | apply d_op | apply q_op)); rfl; rfl) | ((with_reducible (first | apply w_cond | apply w_end | apply w_return))) | ((with_reducible (first | apply o_guard | apply d_guard | apply q_guard)); rfl)); all_goals (first | ((with_reducible show Is _ _); ((try simp (disch := first | omega | (simp only [yA, yB, yC, yD, yE] <;> omega) | fail) [go_sem, yF, yG, yH, *, if_pos, if_neg, -List.map_take, -List.map_drop, -List.map_append, -List.map_reverse]); exact rfl)) | ((fail_if_success (with_reducible show Is _ _)); (first | ((with_reducible refine fun (hc : (_ : Bool) = _) => ?_); (try simp only [xA, xB, xC, xD, xE, xF, xG, xH, reduceCtorEq, xI, xJ, xK, xL, xM, xN, xO, xP, xQ, xR] at hc); (try (have hx : True := hc; clear hx hc)); (try (exfalso; omega)); (try (with_reducible (exact absurd hc (by assumption)))); (try (with_reducible (exact absurd (by assumption) hc)))) | ((fail_if_success (with_reducible show ACall _ _ _ _ _)); (try (first | exact .inl rfl | (refine .inr ⟨rfl, ?_, ?_⟩; (focus (repeat (first | exact trivial | refine ⟨.inl rfl, ?_⟩ | refine ⟨.inr rfl, ?_⟩ | refine ⟨.inr (by (simp (disch := first | omega | (simp only [yA, yB, yC, yD, yE] <;> omega) | fail) [go_sem, yF, yG, yH, *, -List.map_take, -List.map_drop, -List.map_append, -List.map_reverse])), ?_⟩))); (first | exact trivial | exact rfl | (refine ⟨_, ?_, ?_⟩; (focus (simp (disch := first | omega | (simp only [yA, yB, yC, yD, yE] <;> omega) | fail) [go_sem, yF, yG, yH, *, -List.map_take, -List.map_drop, -List.map_append, -List.map_reverse]; (try exact rfl))); (simp (disch := first | omega | (simp only [yA, yB, yC, yD, yE] <;> omega) | fail) [go_sem, yF, yG, yH, *, -List.map_take, -List.map_drop, -List.map_append, -List.map_reverse])) | (simp (disch := first | omega | (simp only [yA, yB, yC, yD, yE] <;> omega) | fail) [go_sem, yF, yG, yH, *, -List.map_take, -List.map_drop, -List.map_append, -List.map_reverse]))) | exact .inl (by (simp (disch := first | omega | (simp only [yA, yB, yC, yD, yE] <;> omega) | fail) [go_sem, yF, yG, yH, *, -List.map_take, -List.map_drop, -List.map_append, -List.map_reverse]))))))))))
          exact (show ∀ T c B2, PutR D1 (b :: ([] ++ [])) T c B2 → PutR B [] T c B2 from hup) _ _ _ hch
      · refine w_drawQ [12, 14] [⟨[], false⟩, ⟨[], false⟩] (fun _ => True) rfl hD trivial ?_
        repeat' (first | (with_reducible (first | apply w_seq | apply w_region | apply w_block | apply w_skip | apply w_exit | apply w_ret | apply w_then | apply w_then_exit | apply w_then_ret | apply w_in | apply w_in_here | apply w_in_ret | apply w_round | apply o_nil | apply d_nil)) | ((with_reducible (first | apply w_in_exit)); rfl) | ((with_reducible (first | apply w_draw)); rfl) | ((with_reducible (first | apply w_drawA)); (conv => lhs; reduce); ((try simp (disch := first | omega | (simp only [yA, yB, yC, yD, yE] <;> omega) | fail) [go_sem, yF, yG, yH, *, if_pos, if_neg, -List.map_take, -List.map_drop, -List.map_append, -List.map_reverse]); exact rfl); ((try simp (disch := first | omega | (simp only [yA, yB, yC, yD, yE] <;> omega) | fail) [go_sem, yF, yG, yH, *, if_pos, if_neg, -List.map_take, -List.map_drop, -List.map_append, -List.map_reverse]); exact rfl)) | ((first | ((with_reducible (first | apply d_made | apply q_made)); rfl; rfl)); (iterate 6 ((try simp (disch := first | omega | (simp only [yA, yB, yC, yD, yE] <;> omega) | fail) [go_sem, yF, yG, yH, *, if_pos, if_neg, -List.map_take, -List.map_drop, -List.map_append, -List.map_reverse]); exact rfl))) | ((first | ((with_reducible (first | apply d_fop | apply q_fop)); rfl; rfl)); (intro Bx hJ; (first | (obtain ⟨_, hJ1, hJ2⟩ := hJ) | (try simp only at hJ)); ((try simp (disch := first | omega | (simp only [yA, yB, yC, yD, yE] <;> omega) | fail) [go_sem, yF, yG, yH, *, if_pos, if_neg, -List.map_take, -List.map_drop, -List.map_append, -List.map_reverse]); exact rfl))) | ((first | ((with_reducible (first | apply o_op | apply d_op | apply q_op)); rfl; rfl) | ((with_reducible (first | apply w_cond | apply w_end | apply w_return))) | ((with_reducible (first | apply o_guard | apply d_guard | apply q_guard)); rfl)); all_goals (first | ((with_reducible show Is _ _); ((try simp (disch := first | omega | (simp only [yA, yB, yC, yD, yE] <;> omega) | fail) [go_sem, yF, yG, yH, *, if_pos, if_neg, -List.map_take, -List.map_drop, -List.map_append, -List.map_reverse]); exact rfl)) | ((fail_if_success (with_reducible show Is _ _)); (first | ((with_reducible refine fun (hc : (_ : Bool) = _) => ?_); (try simp only [xA, xB, xC, xD, xE, xF, xG, xH, reduceCtorEq, xI, xJ, xK, xL, xM, xN, xO, xP, xQ, xR] at hc); (try (have hx : True := hc; clear hx hc)); (try (exfalso; omega)); (try (with_reducible (exact absurd hc (by assumption)))); (try (with_reducible (exact absurd (by assumption) hc)))) | ((fail_if_success (with_reducible show ACall _ _ _ _ _)); (try (first | exact .inl rfl | (refine .inr ⟨rfl, ?_, ?_⟩; (focus (repeat (first | exact trivial | refine ⟨.inl rfl, ?_⟩ | refine ⟨.inr rfl, ?_⟩ | refine ⟨.inr (by (simp (disch := first | omega | (simp only [yA, yB, yC, yD, yE] <;> omega) | fail) [go_sem, yF, yG, yH, *, -List.map_take, -List.map_drop, -List.map_append, -List.map_reverse])), ?_⟩))); (first | exact trivial | exact rfl | (refine ⟨_, ?_, ?_⟩; (focus (simp (disch := first | omega | (simp only [yA, yB, yC, yD, yE] <;> omega) | fail) [go_sem, yF, yG, yH, *, -List.map_take, -List.map_drop, -List.map_append, -List.map_reverse]; (try exact rfl))); (simp (disch := first | omega | (simp only [yA, yB, yC, yD, yE] <;> omega) | fail) [go_sem, yF, yG, yH, *, -List.map_take, -List.map_drop, -List.map_append, -List.map_reverse])) | (simp (disch := first | omega | (simp only [yA, yB, yC, yD, yE] <;> omega) | fail) [go_sem, yF, yG, yH, *, -List.map_take, -List.map_drop, -List.map_append, -List.map_reverse]))) | exact .inl (by (simp (disch := first | omega | (simp only [yA, yB, yC, yD, yE] <;> omega) | fail) [go_sem, yF, yG, yH, *, -List.map_take, -List.map_drop, -List.map_append, -List.map_reverse]))))))))) | (((with_reducible (first | apply o_callQ | apply q_callQ)); rfl); (iterate 2 ((try simp (disch := first | omega | (simp only [yA, yB, yC, yD, yE] <;> omega) | fail) [go_sem, yF, yG, yH, *, if_pos, if_neg, -List.map_take, -List.map_drop, -List.map_append, -List.map_reverse]); exact rfl)); (first | ((with_reducible (first | apply hcall)) <;> (first | omega | assumption | exact rfl | ((simp (disch := first | omega | (simp only [yA, yB, yC, yD, yE] <;> omega) | fail) [go_sem, yF, yG, yH, *, -List.map_take, -List.map_drop, -List.map_append, -List.map_reverse]) <;> (first | done | omega | exact rfl)))))))
        · exact put_ex hk p _ D1 _ _ hr'
        · rintro c2 B2 ⟨ids', g1, g2, g3, g4⟩
          have hDl : D1.length = B1.length + 2 := by rw [← (show B1 ++ [⟨[], false⟩, ⟨[], false⟩] = D1 from hD), List.length_append]; rfl
          refine ⟨⟨.inr (g3 _ (by omega) (hi0 _ (by omega))), .inr (g3 _ (by omega) (hi0 _ (by omega))), trivial⟩, trivial, ?_⟩
          have hb2 : B2[b]? = some ⟨nc, false⟩ := by rw [g3 b (List.getElem?_eq_some_iff.1 hb1).1 (by assumption), hb1]
          have hbx2 := bx_pack hb2
          have hch := HT.child (x := true) (h := false) hk0 hl hr' h1 h2 h3 (List.getElem?_eq_some_iff.1 hb1).1 g1 g2 g3 g4
          replace hch : Hid _ := hch
          have hcc := g1.one
          clear g1 g2 g3 g4 hcall
          repeat' (first | (with_reducible (first | apply w_seq | apply w_region | apply w_block | apply w_skip | apply w_exit | apply w_ret | apply w_then | apply w_then_exit | apply w_then_ret | apply w_in | apply w_in_here | apply w_in_ret | apply w_round | apply o_nil | apply d_nil)) | ((with_reducible (first | apply w_in_exit)); rfl) | ((with_reducible (first | apply w_draw)); rfl) | ((with_reducible (first | apply w_drawA)); (conv => lhs; reduce); ((try simp (disch := first | omega | (simp only [yA, yB, yC, yD, yE] <;> omega) | fail) [go_sem, yF, yG, yH, *, if_pos, if_neg, -List.map_take, -List.map_drop, -List.map_append, -List.map_reverse]); exact rfl); ((try simp (disch := first | omega | (simp only [yA, yB, yC, yD, yE] <;> omega) | fail) [go_sem, yF, yG, yH, *, if_pos, if_neg, -List.map_take, -List.map_drop, -List.map_append, -List.map_reverse]); exact rfl)) | ((first | ((with_reducible (first | apply d_made | apply q_made)); rfl; rfl)); (iterate 6 ((try simp (disch := first | omega | (simp only [yA, yB, yC, yD, yE] <;> omega) | fail) [go_sem, yF, yG, yH, *, if_pos, if_neg, -List.map_take, -List.map_drop, -List.map_append, -List.map_reverse]); exact rfl))) | ((first | ((with_reducible (first | apply d_fop | apply q_fop)); rfl; rfl)); (intro Bx hJ; (first | (obtain ⟨_, hJ1, hJ2⟩ := hJ) | (try simp only at hJ)); ((try simp (disch := first | omega | (simp only [yA, yB, yC, yD, yE] <;> omega) | fail) [go_sem, yF, yG, yH, *, if_pos, if_neg, -List.map_take, -List.map_drop, -List.map_append, -List.map_reverse]); exact rfl))) | ((first | ((with_reducible (first | apply o_op | apply d_op | apply q_op)); rfl; rfl) | ((with_reducible (first | apply w_cond | apply w_end | apply w_return))) | ((with_reducible (first | apply o_guard | apply d_guard | apply q_guard)); rfl)); all_goals (first | ((with_reducible show Is _ _); ((try simp (disch := first | omega | (simp only [yA, yB, yC, yD, yE] <;> omega) | fail) [go_sem, yF, yG, yH, *, if_pos, if_neg, -List.map_take, -List.map_drop, -List.map_append, -List.map_reverse]); exact rfl)) | ((fail_if_success (with_reducible show Is _ _)); (first | ((with_reducible refine fun (hc : (_ : Bool) = _) => ?_); (try simp only [xA, xB, xC, xD, xE, xF, xG, xH, reduceCtorEq, xI, xJ, xK, xL, xM, xN, xO, xP, xQ, xR] at hc); (try (have hx : True := hc; clear hx hc)); (try (exfalso; omega)); (try (with_reducible (exact absurd hc (by assumption)))); (try (with_reducible (exact absurd (by assumption) hc)))) | ((fail_if_success (with_reducible show ACall _ _ _ _ _)); (try (first | exact .inl rfl | (refine .inr ⟨rfl, ?_, ?_⟩; (focus (repeat (first | exact trivial | refine ⟨.inl rfl, ?_⟩ | refine ⟨.inr rfl, ?_⟩ | refine ⟨.inr (by (simp (disch := first | omega | (simp only [yA, yB, yC, yD, yE] <;> omega) | fail) [go_sem, yF, yG, yH, *, -List.map_take, -List.map_drop, -List.map_append, -List.map_reverse])), ?_⟩))); (first | exact trivial | exact rfl | (refine ⟨_, ?_, ?_⟩; (focus (simp (disch := first | omega | (simp only [yA, yB, yC, yD, yE] <;> omega) | fail) [go_sem, yF, yG, yH, *, -List.map_take, -List.map_drop, -List.map_append, -List.map_reverse]; (try exact rfl))); (simp (disch := first | omega | (simp only [yA, yB, yC, yD, yE] <;> omega) | fail) [go_sem, yF, yG, yH, *, -List.map_take, -List.map_drop, -List.map_append, -List.map_reverse])) | (simp (disch := first | omega | (simp only [yA, yB, yC, yD, yE] <;> omega) | fail) [go_sem, yF, yG, yH, *, -List.map_take, -List.map_drop, -List.map_append, -List.map_reverse]))) | exact .inl (by (simp (disch := first | omega | (simp only [yA, yB, yC, yD, yE] <;> omega) | fail) [go_sem, yF, yG, yH, *, -List.map_take, -List.map_drop, -List.map_append, -List.map_reverse]))))))))))
          exact (show ∀ T c B2, PutR D1 (b :: ([] ++ [])) T c B2 → PutR B [] T c B2 from hup) _ _ _ hch
    | @node il ir cl cr l r b h k0 hk0 hb hl0 hr0 h1 h2 h3 =>
      have hbx := bx_pack hb
      obtain ⟨nc, hnc⟩ : ∃ nc, ndC h k0 cl cr = nc := ⟨_, rfl⟩
      obtain ⟨n1, n2, n3, n4, n5, n6, n7⟩ := nd_parts (h := h) (cl := cl) (cr := cr) hk0
      rw [hnc] at n1 n2 n3 n4 n5 n6 n7 hb hbx
      have n8 : nc.drop 35 = [] := List.drop_eq_nil_of_le (by omega)
      repeat' (first | (with_reducible (first | apply w_seq | apply w_region | apply w_block | apply w_skip | apply w_exit | apply w_ret | apply w_then | apply w_then_exit | apply w_then_ret | apply w_in | apply w_in_here | apply w_in_ret | apply w_round | apply o_nil | apply d_nil)) | ((with_reducible (first | apply w_in_exit)); rfl) | ((first | ((with_reducible (first | apply o_op | apply d_op | apply q_op)); rfl; rfl) | ((with_reducible (first | apply w_cond | apply w_end | apply w_return))) | ((with_reducible (first | apply o_guard | apply d_guard | apply q_guard)); rfl) | ((with_reducible (first | apply o_call_eq | apply d_call | apply q_call)); rfl)); all_goals (first | ((with_reducible show Is _ _); ((try simp (disch := first | omega | (simp only [yA, yB, yC, yD, yE] <;> omega) | fail) [go_sem, yF, yG, yH, *, if_pos, if_neg, -List.map_take, -List.map_drop, -List.map_append, -List.map_reverse]); exact rfl)) | ((fail_if_success (with_reducible show Is _ _)); (first | ((with_reducible refine fun (hc : (_ : Bool) = _) => ?_); (try simp only [xA, xB, xC, xD, xE, xF, xG, xH, reduceCtorEq, xI, xJ, xK, xL, xM, xN, xO, xP, xQ, xR] at hc); (try (have hx : True := hc; clear hx hc)); (try (exfalso; omega)); (try (with_reducible (exact absurd hc (by assumption)))); (try (with_reducible (exact absurd (by assumption) hc)))) | ((with_reducible show ACall _ _ _ _ _); (first | ((with_reducible (first | apply hbit)) <;> (first | omega | assumption | exact rfl | ((simp (disch := first | omega | (simp only [yA, yB, yC, yD, yE] <;> omega) | fail) [go_sem, yF, yG, yH, *, -List.map_take, -List.map_drop, -List.map_append, -List.map_reverse]) <;> (first | done | omega | exact rfl)))))) | ((fail_if_success (with_reducible show ACall _ _ _ _ _)); (try (first | exact .inl rfl | (refine .inr ⟨rfl, ?_, ?_⟩; (focus (repeat (first | exact trivial | refine ⟨.inl rfl, ?_⟩ | refine ⟨.inr rfl, ?_⟩))); (first | exact trivial | exact rfl))))))))))
      obtain ⟨B1, hB1⟩ : ∃ B1 : List Box, B ++ [⟨rc, false⟩] = B1 := ⟨_, rfl⟩
      obtain ⟨D1, hD⟩ : ∃ D1 : List Box, B1 ++ [⟨[], false⟩, ⟨[], false⟩] = D1 := ⟨_, rfl⟩
      have hDe : B ++ [⟨rc, false⟩, ⟨[], false⟩, ⟨[], false⟩] = D1 := by rw [← hD, ← hB1, List.append_assoc]; rfl
      have hB1l : B1.length = B.length + 1 := by rw [← hB1, List.length_append]; rfl
      have hb1 : D1[b]? = some ⟨nc, false⟩ := by rw [← hDe, List.getElem?_append_left (List.getElem?_eq_some_iff.1 hb).1, hb]
      have hrc : D1[B.length]? = some ⟨rc, false⟩ := by rw [← hDe, List.getElem?_append_right (Nat.le_refl _), Nat.sub_self]; rfl
      have hup : ∀ T c B2, PutR D1 (b :: (il ++ ir)) T c B2 → PutR B (b :: (il ++ ir)) T c B2 := fun T c B2 h => PutR.up (X := [⟨rc, false⟩, ⟨[], false⟩, ⟨[], false⟩]) (by rw [hDe]; exact h) (fun i hi => .inl hi)
      have hl : HT D1 il cl l := hl0.keep fun i hi => by rw [← hDe, List.getElem?_append_left (hl0.lt i hi)]
      have hr' : HT D1 ir cr r := hr0.keep fun i hi => by rw [← hDe, List.getElem?_append_left (hr0.lt i hi)]
      have hil : ∀ i, B1.length ≤ i → i ∉ il := fun i h hm => by have := hl0.lt i hm; omega
      have hir : ∀ i, B1.length ≤ i → i ∉ ir := fun i h hm => by have := hr0.lt i hm; omega
      rw [hB1]
      clear hB1 hnc hbit hDe hb hbx
      replace hup : Hid _ := hup
      replace hD : Is _ _ := hD
      rcases (show y = 0 ∨ y = 1 by omega) with rfl | rfl
      · have hcall : ∀ args, Is args [cl, .agg rc, .int .i64 ((j : Int) + 1)] → ACall Try.prog 54 args D1 fun c' B' => PutR D1 il (Tr.put l p k) c' B' := fun args h => ih D1 il cl l hl args h
        refine w_drawQ [12, 14] [⟨[], false⟩, ⟨[], false⟩] (fun _ => True) rfl hD trivial ?_
        repeat' (first | (with_reducible (first | apply w_seq | apply w_region | apply w_block | apply w_skip | apply w_exit | apply w_ret | apply w_then | apply w_then_exit | apply w_then_ret | apply w_in | apply w_in_here | apply w_in_ret | apply w_round | apply o_nil | apply d_nil)) | ((with_reducible (first | apply w_in_exit)); rfl) | ((with_reducible (first | apply w_draw)); rfl) | ((with_reducible (first | apply w_drawA)); (conv => lhs; reduce); ((try simp (disch := first | omega | (simp only [yA, yB, yC, yD, yE] <;> omega) | fail) [go_sem, yF, yG, yH, *, if_pos, if_neg, -List.map_take, -List.map_drop, -List.map_append, -List.map_reverse]); exact rfl); ((try simp (disch := first | omega | (simp only [yA, yB, yC, yD, yE] <;> omega) | fail) [go_sem, yF, yG, yH, *, if_pos, if_neg, -List.map_take, -List.map_drop, -List.map_append, -List.map_reverse]); exact rfl)) | ((first | ((with_reducible (first | apply d_made | apply q_made)); rfl; rfl)); (iterate 6 ((try simp (disch := first | omega | (simp only [yA, yB, yC, yD, yE] <;> omega) | fail) [go_sem, yF, yG, yH, *, if_pos, if_neg, -List.map_take, -List.map_drop, -List.map_append, -List.map_reverse]); exact rfl))) | ((first | ((with_reducible (first | apply d_fop | apply q_fop)); rfl; rfl)); (intro Bx hJ; (first | (obtain ⟨_, hJ1, hJ2⟩ := hJ) | (try simp only at hJ)); ((try simp (disch := first | omega | (simp only [yA, yB, yC, yD, yE] <;> omega) | fail) [go_sem, yF, yG, yH, *, if_pos, if_neg, -List.map_take, -List.map_drop, -List.map_append, -List.map_reverse]); exact rfl))) | ((first | ((with_reducible (first | apply o_op | apply d_op | apply q_op)); rfl; rfl) | ((with_reducible (first | apply w_cond | apply w_end | apply w_return))) | ((with_reducible (first | apply o_guard | apply d_guard | apply q_guard)); rfl)); all_goals (first | ((with_reducible show Is _ _); ((try simp (disch := first | omega | (simp only [yA, yB, yC, yD, yE] <;> omega) | fail) [go_sem, yF, yG, yH, *, if_pos, if_neg, -List.map_take, -List.map_drop, -List.map_append, -List.map_reverse]); exact rfl)) | ((fail_if_success (with_reducible show Is _ _)); (first | ((with_reducible refine fun (hc : (_ : Bool) = _) => ?_); (try simp only [xA, xB, xC, xD, xE, xF, xG, xH, reduceCtorEq, xI, xJ, xK, xL, xM, xN, xO, xP, xQ, xR] at hc); (try (have hx : True := hc; clear hx hc)); (try (exfalso; omega)); (try (with_reducible (exact absurd hc (by assumption)))); (try (with_reducible (exact absurd (by assumption) hc)))) | ((fail_if_success (with_reducible show ACall _ _ _ _ _)); (try (first | exact .inl rfl | (refine .inr ⟨rfl, ?_, ?_⟩; (focus (repeat (first | exact trivial | refine ⟨.inl rfl, ?_⟩ | refine ⟨.inr rfl, ?_⟩ | refine ⟨.inr (by (simp (disch := first | omega | (simp only [yA, yB, yC, yD, yE] <;> omega) | fail) [go_sem, yF, yG, yH, *, -List.map_take, -List.map_drop, -List.map_append, -List.map_reverse])), ?_⟩))); (first | exact trivial | exact rfl | (refine ⟨_, ?_, ?_⟩; (focus (simp (disch := first | omega | (simp only [yA, yB, yC, yD, yE] <;> omega) | fail) [go_sem, yF, yG, yH, *, -List.map_take, -List.map_drop, -List.map_append, -List.map_reverse]; (try exact rfl))); (simp (disch := first | omega | (simp only [yA, yB, yC, yD, yE] <;> omega) | fail) [go_sem, yF, yG, yH, *, -List.map_take, -List.map_drop, -List.map_append, -List.map_reverse])) | (simp (disch := first | omega | (simp only [yA, yB, yC, yD, yE] <;> omega) | fail) [go_sem, yF, yG, yH, *, -List.map_take, -List.map_drop, -List.map_append, -List.map_reverse]))) | exact .inl (by (simp (disch := first | omega | (simp only [yA, yB, yC, yD, yE] <;> omega) | fail) [go_sem, yF, yG, yH, *, -List.map_take, -List.map_drop, -List.map_append, -List.map_reverse]))))))))) | (((with_reducible (first | apply o_callQ | apply q_callQ)); rfl); (iterate 2 ((try simp (disch := first | omega | (simp only [yA, yB, yC, yD, yE] <;> omega) | fail) [go_sem, yF, yG, yH, *, if_pos, if_neg, -List.map_take, -List.map_drop, -List.map_append, -List.map_reverse]); exact rfl)); (first | ((with_reducible (first | apply hcall)) <;> (first | omega | assumption | exact rfl | ((simp (disch := first | omega | (simp only [yA, yB, yC, yD, yE] <;> omega) | fail) [go_sem, yF, yG, yH, *, -List.map_take, -List.map_drop, -List.map_append, -List.map_reverse]) <;> (first | done | omega | exact rfl)))))))
        · exact put_ex hk p _ D1 _ _ hl
        · rintro c2 B2 ⟨ids', g1, g2, g3, g4⟩
          have hDl : D1.length = B1.length + 2 := by rw [← (show B1 ++ [⟨[], false⟩, ⟨[], false⟩] = D1 from hD), List.length_append]; rfl
          refine ⟨⟨.inr (g3 _ (by omega) (hil _ (by omega))), .inr (g3 _ (by omega) (hil _ (by omega))), trivial⟩, trivial, ?_⟩
          have hb2 : B2[b]? = some ⟨nc, false⟩ := by rw [g3 b (List.getElem?_eq_some_iff.1 hb1).1 (by assumption), hb1]
          have hbx2 := bx_pack hb2
          have hch := HT.child (x := false) (h := h) hk0 hl hr' h1 h2 h3 (List.getElem?_eq_some_iff.1 hb1).1 g1 g2 g3 g4
          replace hch : Hid _ := hch
          have hcc := g1.one
          clear g1 g2 g3 g4 hcall
          repeat' (first | (with_reducible (first | apply w_seq | apply w_region | apply w_block | apply w_skip | apply w_exit | apply w_ret | apply w_then | apply w_then_exit | apply w_then_ret | apply w_in | apply w_in_here | apply w_in_ret | apply w_round | apply o_nil | apply d_nil)) | ((with_reducible (first | apply w_in_exit)); rfl) | ((with_reducible (first | apply w_draw)); rfl) | ((with_reducible (first | apply w_drawA)); (conv => lhs; reduce); ((try simp (disch := first | omega | (simp only [yA, yB, yC, yD, yE] <;> omega) | fail) [go_sem, yF, yG, yH, *, if_pos, if_neg, -List.map_take, -List.map_drop, -List.map_append, -List.map_reverse]); exact rfl); ((try simp (disch := first | omega | (simp only [yA, yB, yC, yD, yE] <;> omega) | fail) [go_sem, yF, yG, yH, *, if_pos, if_neg, -List.map_take, -List.map_drop, -List.map_append, -List.map_reverse]); exact rfl)) | ((first | ((with_reducible (first | apply d_made | apply q_made)); rfl; rfl)); (iterate 6 ((try simp (disch := first | omega | (simp only [yA, yB, yC, yD, yE] <;> omega) | fail) [go_sem, yF, yG, yH, *, if_pos, if_neg, -List.map_take, -List.map_drop, -List.map_append, -List.map_reverse]); exact rfl))) | ((first | ((with_reducible (first | apply d_fop | apply q_fop)); rfl; rfl)); (intro Bx hJ; (first | (obtain ⟨_, hJ1, hJ2⟩ := hJ) | (try simp only at hJ)); ((try simp (disch := first | omega | (simp only [yA, yB, yC, yD, yE] <;> omega) | fail) [go_sem, yF, yG, yH, *, if_pos, if_neg, -List.map_take, -List.map_drop, -List.map_append, -List.map_reverse]); exact rfl))) | ((first | ((with_reducible (first | apply o_op | apply d_op | apply q_op)); rfl; rfl) | ((with_reducible (first | apply w_cond | apply w_end | apply w_return))) | ((with_reducible (first | apply o_guard | apply d_guard | apply q_guard)); rfl)); all_goals (first | ((with_reducible show Is _ _); ((try simp (disch := first | omega | (simp only [yA, yB, yC, yD, yE] <;> omega) | fail) [go_sem, yF, yG, yH, *, if_pos, if_neg, -List.map_take, -List.map_drop, -List.map_append, -List.map_reverse]); exact rfl)) | ((fail_if_success (with_reducible show Is _ _)); (first | ((with_reducible refine fun (hc : (_ : Bool) = _) => ?_); (try simp only [xA, xB, xC, xD, xE, xF, xG, xH, reduceCtorEq, xI, xJ, xK, xL, xM, xN, xO, xP, xQ, xR] at hc); (try (have hx : True := hc; clear hx hc)); (try (exfalso; omega)); (try (with_reducible (exact absurd hc (by assumption)))); (try (with_reducible (exact absurd (by assumption) hc)))) | ((fail_if_success (with_reducible show ACall _ _ _ _ _)); (try (first | exact .inl rfl | (refine .inr ⟨rfl, ?_, ?_⟩; (focus (repeat (first | exact trivial | refine ⟨.inl rfl, ?_⟩ | refine ⟨.inr rfl, ?_⟩ | refine ⟨.inr (by (simp (disch := first | omega | (simp only [yA, yB, yC, yD, yE] <;> omega) | fail) [go_sem, yF, yG, yH, *, -List.map_take, -List.map_drop, -List.map_append, -List.map_reverse])), ?_⟩))); (first | exact trivial | exact rfl | (refine ⟨_, ?_, ?_⟩; (focus (simp (disch := first | omega | (simp only [yA, yB, yC, yD, yE] <;> omega) | fail) [go_sem, yF, yG, yH, *, -List.map_take, -List.map_drop, -List.map_append, -List.map_reverse]; (try exact rfl))); (simp (disch := first | omega | (simp only [yA, yB, yC, yD, yE] <;> omega) | fail) [go_sem, yF, yG, yH, *, -List.map_take, -List.map_drop, -List.map_append, -List.map_reverse])) | (simp (disch := first | omega | (simp only [yA, yB, yC, yD, yE] <;> omega) | fail) [go_sem, yF, yG, yH, *, -List.map_take, -List.map_drop, -List.map_append, -List.map_reverse]))) | exact .inl (by (simp (disch := first | omega | (simp only [yA, yB, yC, yD, yE] <;> omega) | fail) [go_sem, yF, yG, yH, *, -List.map_take, -List.map_drop, -List.map_append, -List.map_reverse]))))))))))
          exact (show ∀ T c B2, PutR D1 (b :: (il ++ ir)) T c B2 → PutR B (b :: (il ++ ir)) T c B2 from hup) _ _ _ hch
      · have hcall : ∀ args, Is args [cr, .agg rc, .int .i64 ((j : Int) + 1)] → ACall Try.prog 54 args D1 fun c' B' => PutR D1 ir (Tr.put r p k) c' B' := fun args h => ih D1 ir cr r hr' args h
        refine w_drawQ [12, 14] [⟨[], false⟩, ⟨[], false⟩] (fun _ => True) rfl hD trivial ?_
        repeat' (first | (with_reducible (first | apply w_seq | apply w_region | apply w_block | apply w_skip | apply w_exit | apply w_ret | apply w_then | apply w_then_exit | apply w_then_ret | apply w_in | apply w_in_here | apply w_in_ret | apply w_round | apply o_nil | apply d_nil)) | ((with_reducible (first | apply w_in_exit)); rfl) | ((with_reducible (first | apply w_draw)); rfl) | ((with_reducible (first | apply w_drawA)); (conv => lhs; reduce); ((try simp (disch := first | omega | (simp only [yA, yB, yC, yD, yE] <;> omega) | fail) [go_sem, yF, yG, yH, *, if_pos, if_neg, -List.map_take, -List.map_drop, -List.map_append, -List.map_reverse]); exact rfl); ((try simp (disch := first | omega | (simp only [yA, yB, yC, yD, yE] <;> omega) | fail) [go_sem, yF, yG, yH, *, if_pos, if_neg, -List.map_take, -List.map_drop, -List.map_append, -List.map_reverse]); exact rfl)) | ((first | ((with_reducible (first | apply d_made | apply q_made)); rfl; rfl)); (iterate 6 ((try simp (disch := first | omega | (simp only [yA, yB, yC, yD, yE] <;> omega) | fail) [go_sem, yF, yG, yH, *, if_pos, if_neg, -List.map_take, -List.map_drop, -List.map_append, -List.map_reverse]); exact rfl))) | ((first | ((with_reducible (first | apply d_fop | apply q_fop)); rfl; rfl)); (intro Bx hJ; (first | (obtain ⟨_, hJ1, hJ2⟩ := hJ) | (try simp only at hJ)); ((try simp (disch := first | omega | (simp only [yA, yB, yC, yD, yE] <;> omega) | fail) [go_sem, yF, yG, yH, *, if_pos, if_neg, -List.map_take, -List.map_drop, -List.map_append, -List.map_reverse]); exact rfl))) | ((first | ((with_reducible (first | apply o_op | apply d_op | apply q_op)); rfl; rfl) | ((with_reducible (first | apply w_cond | apply w_end | apply w_return))) | ((with_reducible (first | apply o_guard | apply d_guard | apply q_guard)); rfl)); all_goals (first | ((with_reducible show Is _ _); ((try simp (disch := first | omega | (simp only [yA, yB, yC, yD, yE] <;> omega) | fail) [go_sem, yF, yG, yH, *, if_pos, if_neg, -List.map_take, -List.map_drop, -List.map_append, -List.map_reverse]); exact rfl)) | ((fail_if_success (with_reducible show Is _ _)); (first | ((with_reducible refine fun (hc : (_ : Bool) = _) => ?_); (try simp only [xA, xB, xC, xD, xE, xF, xG, xH, reduceCtorEq, xI, xJ, xK, xL, xM, xN, xO, xP, xQ, xR] at hc); (try (have hx : True := hc; clear hx hc)); (try (exfalso; omega)); (try (with_reducible (exact absurd hc (by assumption)))); (try (with_reducible (exact absurd (by assumption) hc)))) | ((fail_if_success (with_reducible show ACall _ _ _ _ _)); (try (first | exact .inl rfl | (refine .inr ⟨rfl, ?_, ?_⟩; (focus (repeat (first | exact trivial | refine ⟨.inl rfl, ?_⟩ | refine ⟨.inr rfl, ?_⟩ | refine ⟨.inr (by (simp (disch := first | omega | (simp only [yA, yB, yC, yD, yE] <;> omega) | fail) [go_sem, yF, yG, yH, *, -List.map_take, -List.map_drop, -List.map_append, -List.map_reverse])), ?_⟩))); (first | exact trivial | exact rfl | (refine ⟨_, ?_, ?_⟩; (focus (simp (disch := first | omega | (simp only [yA, yB, yC, yD, yE] <;> omega) | fail) [go_sem, yF, yG, yH, *, -List.map_take, -List.map_drop, -List.map_append, -List.map_reverse]; (try exact rfl))); (simp (disch := first | omega | (simp only [yA, yB, yC, yD, yE] <;> omega) | fail) [go_sem, yF, yG, yH, *, -List.map_take, -List.map_drop, -List.map_append, -List.map_reverse])) | (simp (disch := first | omega | (simp only [yA, yB, yC, yD, yE] <;> omega) | fail) [go_sem, yF, yG, yH, *, -List.map_take, -List.map_drop, -List.map_append, -List.map_reverse]))) | exact .inl (by (simp (disch := first | omega | (simp only [yA, yB, yC, yD, yE] <;> omega) | fail) [go_sem, yF, yG, yH, *, -List.map_take, -List.map_drop, -List.map_append, -List.map_reverse]))))))))) | (((with_reducible (first | apply o_callQ | apply q_callQ)); rfl); (iterate 2 ((try simp (disch := first | omega | (simp only [yA, yB, yC, yD, yE] <;> omega) | fail) [go_sem, yF, yG, yH, *, if_pos, if_neg, -List.map_take, -List.map_drop, -List.map_append, -List.map_reverse]); exact rfl)); (first | ((with_reducible (first | apply hcall)) <;> (first | omega | assumption | exact rfl | ((simp (disch := first | omega | (simp only [yA, yB, yC, yD, yE] <;> omega) | fail) [go_sem, yF, yG, yH, *, -List.map_take, -List.map_drop, -List.map_append, -List.map_reverse]) <;> (first | done | omega | exact rfl)))))))
        · exact put_ex hk p _ D1 _ _ hr'
        · rintro c2 B2 ⟨ids', g1, g2, g3, g4⟩
          have hDl : D1.length = B1.length + 2 := by rw [← (show B1 ++ [⟨[], false⟩, ⟨[], false⟩] = D1 from hD), List.length_append]; rfl
          refine ⟨⟨.inr (g3 _ (by omega) (hir _ (by omega))), .inr (g3 _ (by omega) (hir _ (by omega))), trivial⟩, trivial, ?_⟩
          have hb2 : B2[b]? = some ⟨nc, false⟩ := by rw [g3 b (List.getElem?_eq_some_iff.1 hb1).1 (by assumption), hb1]
          have hbx2 := bx_pack hb2
          have hch := HT.child (x := true) (h := h) hk0 hl hr' h1 h2 h3 (List.getElem?_eq_some_iff.1 hb1).1 g1 g2 g3 g4
          replace hch : Hid _ := hch
          have hcc := g1.one
          clear g1 g2 g3 g4 hcall
          repeat' (first | (with_reducible (first | apply w_seq | apply w_region | apply w_block | apply w_skip | apply w_exit | apply w_ret | apply w_then | apply w_then_exit | apply w_then_ret | apply w_in | apply w_in_here | apply w_in_ret | apply w_round | apply o_nil | apply d_nil)) | ((with_reducible (first | apply w_in_exit)); rfl) | ((with_reducible (first | apply w_draw)); rfl) | ((with_reducible (first | apply w_drawA)); (conv => lhs; reduce); ((try simp (disch := first | omega | (simp only [yA, yB, yC, yD, yE] <;> omega) | fail) [go_sem, yF, yG, yH, *, if_pos, if_neg, -List.map_take, -List.map_drop, -List.map_append, -List.map_reverse]); exact rfl); ((try simp (disch := first | omega | (simp only [yA, yB, yC, yD, yE] <;> omega) | fail) [go_sem, yF, yG, yH, *, if_pos, if_neg, -List.map_take, -List.map_drop, -List.map_append, -List.map_reverse]); exact rfl)) | ((first | ((with_reducible (first | apply d_made | apply q_made)); rfl; rfl)); (iterate 6 ((try simp (disch := first | omega | (simp only [yA, yB, yC, yD, yE] <;> omega) | fail) [go_sem, yF, yG, yH, *, if_pos, if_neg, -List.map_take, -List.map_drop, -List.map_append, -List.map_reverse]); exact rfl))) | ((first | ((with_reducible (first | apply d_fop | apply q_fop)); rfl; rfl)); (intro Bx hJ; (first | (obtain ⟨_, hJ1, hJ2⟩ := hJ) | (try simp only at hJ)); ((try simp (disch := first | omega | (simp only [yA, yB, yC, yD, yE] <;> omega) | fail) [go_sem, yF, yG, yH, *, if_pos, if_neg, -List.map_take, -List.map_drop, -List.map_append, -List.map_reverse]); exact rfl))) | ((first | ((with_reducible (first | apply o_op | apply d_op | apply q_op)); rfl; rfl) | ((with_reducible (first | apply w_cond | apply w_end | apply w_return))) | ((with_reducible (first | apply o_guard | apply d_guard | apply q_guard)); rfl)); all_goals (first | ((with_reducible show Is _ _); ((try simp (disch := first | omega | (simp only [yA, yB, yC, yD, yE] <;> omega) | fail) [go_sem, yF, yG, yH, *, if_pos, if_neg, -List.map_take, -List.map_drop, -List.map_append, -List.map_reverse]); exact rfl)) | ((fail_if_success (with_reducible show Is _ _)); (first | ((with_reducible refine fun (hc : (_ : Bool) = _) => ?_); (try simp only [xA, xB, xC, xD, xE, xF, xG, xH, reduceCtorEq, xI, xJ, xK, xL, xM, xN, xO, xP, xQ, xR] at hc); (try (have hx : True := hc; clear hx hc)); (try (exfalso; omega)); (try (with_reducible (exact absurd hc (by assumption)))); (try (with_reducible (exact absurd (by assumption) hc)))) | ((fail_if_success (with_reducible show ACall _ _ _ _ _)); (try (first | exact .inl rfl | (refine .inr ⟨rfl, ?_, ?_⟩; (focus (repeat (first | exact trivial | refine ⟨.inl rfl, ?_⟩ | refine ⟨.inr rfl, ?_⟩ | refine ⟨.inr (by (simp (disch := first | omega | (simp only [yA, yB, yC, yD, yE] <;> omega) | fail) [go_sem, yF, yG, yH, *, -List.map_take, -List.map_drop, -List.map_append, -List.map_reverse])), ?_⟩))); (first | exact trivial | exact rfl | (refine ⟨_, ?_, ?_⟩; (focus (simp (disch := first | omega | (simp only [yA, yB, yC, yD, yE] <;> omega) | fail) [go_sem, yF, yG, yH, *, -List.map_take, -List.map_drop, -List.map_append, -List.map_reverse]; (try exact rfl))); (simp (disch := first | omega | (simp only [yA, yB, yC, yD, yE] <;> omega) | fail) [go_sem, yF, yG, yH, *, -List.map_take, -List.map_drop, -List.map_append, -List.map_reverse])) | (simp (disch := first | omega | (simp only [yA, yB, yC, yD, yE] <;> omega) | fail) [go_sem, yF, yG, yH, *, -List.map_take, -List.map_drop, -List.map_append, -List.map_reverse]))) | exact .inl (by (simp (disch := first | omega | (simp only [yA, yB, yC, yD, yE] <;> omega) | fail) [go_sem, yF, yG, yH, *, -List.map_take, -List.map_drop, -List.map_append, -List.map_reverse]))))))))))
          exact (show ∀ T c B2, PutR D1 (b :: (il ++ ir)) T c B2 → PutR B (b :: (il ++ ir)) T c B2 from hup) _ _ _ hch
/-! routes.find. -/
/-- A node without a route has the key zero. -/
def Tr.ok : Tr → Prop
  | .nil => True
  | .node h k l r => (h = false → k = List.replicate 32 0) ∧ l.ok ∧ r.ok
theorem Tr.put_ok (k : List UInt8) : ∀ (p : List Bool) (T : Tr), T.ok → (T.put p k).ok
  | [], .nil, _ => ⟨fun h => (by cases h), trivial, trivial⟩
  | [], .node h k0 l r, ⟨h1, h2, h3⟩ => by
    cases h with
    | true => exact ⟨fun h => (by cases h), h2, h3⟩
    | false => exact ⟨fun h => (by cases h), h2, h3⟩
  | b :: p, .nil, _ => by
    have := Tr.put_ok k p .nil trivial
    cases b
    · exact ⟨fun _ => rfl, this, trivial⟩
    · exact ⟨fun _ => rfl, trivial, this⟩
  | b :: p, .node h k0 l r, ⟨h1, h2, h3⟩ => by
    cases b
    · exact ⟨h1, Tr.put_ok k p l h2, h3⟩
    · exact ⟨h1, h2, Tr.put_ok k p r h3⟩
def fndF (o : Option (Nat × List UInt8)) : List UInt8 × Bool := match o with
  | some (_, x) => (x, true)
  | none => (List.replicate 32 0, false)
def fndC (r : List UInt8 × Bool) : CV := .tup [.agg (r.1.map byteC), .bool r.2]
def Tr.keys : Tr → List (List UInt8)
  | .nil => []
  | .node _ k l r => k :: (l.keys ++ r.keys)
theorem Tr.put_keys {k : List UInt8} (hk : k.length = 32) : ∀ (p : List Bool) (T : Tr), (∀ x ∈ T.keys, x.length = 32) → ∀ x ∈ (T.put p k).keys, x.length = 32
  | [], .nil, _ => by simp [Tr.put, Tr.keys, hk]
  | [], .node h k0 l r, hT => by
    cases h <;> simp_all [Tr.put, Tr.keys]
  | b :: p, .nil, _ => by
    have := Tr.put_keys hk p .nil (by simp [Tr.keys])
    cases b <;> simp [Tr.put, Tr.keys] <;> exact this
  | b :: p, .node h k0 l r, hT => by
    simp only [Tr.keys, List.mem_cons, List.mem_append] at hT
    have h1 := Tr.put_keys hk p l fun x hx => hT x (by simp [hx])
    have h2 := Tr.put_keys hk p r fun x hx => hT x (by simp [hx])
    intro x hx
    cases b <;> simp only [Tr.put, Tr.keys, Bool.false_eq_true, if_false, if_true, List.mem_cons, List.mem_append] at hx
    · rcases hx with hx | hx | hx
      · exact hT x (by simp [hx])
      · exact h1 x hx
      · exact hT x (by simp [hx])
    · rcases hx with hx | hx | hx
      · exact hT x (by simp [hx])
      · exact hT x (by simp [hx])
      · exact h2 x hx
/-- The trie as a value that never changes. -/
def trC : Tr → CV
  | .nil => .nilP
  | .node h k l r => .iptr (ndC h k (trC l) (trC r))
def Tr.depth : Tr → Nat
  | .nil => 1
  | .node _ _ l r => max l.depth r.depth + 2
theorem trC_fz (nz : Bool) (B : List Box) : ∀ (T : Tr) (k : Nat), T.depth ≤ k → fz nz false B k (trC T) = some (trC T)
  | .nil, k + 1, _ => rfl
  | .nil, 0, h => by simp [Tr.depth] at h
  | .node h kk l r, k, hk => by
    simp only [Tr.depth] at hk
    obtain ⟨k, rfl⟩ : ∃ k', k = k' + 2 := ⟨k - 2, by omega⟩
    have h1 := trC_fz nz B l (k + 1) (by omega)
    have h2 := trC_fz nz B r (k + 1) (by omega)
    simp [trC, ndC, go_sem, h1, h2]
theorem HT.fz {nz fr : Bool} {B : List Box} {ids : List Nat} {c : CV} {T : Tr} (h : HT B ids c T) : ∀ k, T.depth ≤ k → Go.Sy.fz nz fr B k c = some (trC T) := by
  induction h with
  | nil => intro k hk; cases k with
    | zero => simp [Tr.depth] at hk
    | succ k => rfl
  | node b h k0 hk hb hl hr h1 h2 h3 il ir =>
    intro k hk
    simp only [Tr.depth] at hk
    obtain ⟨k, rfl⟩ : ∃ k', k = k' + 2 := ⟨k - 2, by omega⟩
    have h1 := il (k + 1) (by omega)
    have h2 := ir (k + 1) (by omega)
    simp [trC, ndC, go_sem, h1, h2, hb]
theorem find_mem : ∀ (T : Tr) (q : List Bool) (d : Nat) (x : List UInt8), T.find q = some (d, x) → x ∈ T.keys
  | .nil, q, d, x, h => by rw [find_nil] at h; cases h
  | .node h k l r, [], d, x, hf => by
    simp only [Tr.find] at hf
    split at hf
    · simp at hf; simp [Tr.keys, hf.2]
    · cases hf
  | .node h k l r, b :: q, d, x, hf => by
    simp only [Tr.find] at hf
    split at hf
    · rename_i d' x' he
      simp at hf
      have := find_mem _ _ _ _ he
      rw [hf.2] at this
      cases b <;> simp at this <;> simp [Tr.keys, this]
    · split at hf
      · simp at hf; simp [Tr.keys, hf.2]
      · cases hf
theorem find_at (A : List UInt8) (six : Bool) (hA : A.length = 16) : ∀ (m j : Nat), j + m = 128 → ∀ (T : Tr), T.ok → (∀ k ∈ T.keys, k.length = 32) → ∀ (B : List Box) (args : List CV), Is args [trC T, .agg (adC (six, A)), .int .i64 j] →
    ACall Try.prog 36 args B fun c' B' => c' = fndC (fndF (T.find ((pathF A 128).drop j))) ∧ B' = B := by
  have hla := adC_len (a := (six, A)) hA
  have hta : (adC (six, A)).take 17 = adC (six, A) := List.take_of_length_le (by omega)
  have hda : (adC (six, A)).drop 17 = [] := List.drop_eq_nil_of_le (by omega)
  have hadm : ∀ (nz fr : Bool) (B : List Box) (k : Nat), omap (fz nz fr B (k + 1)) (adC (six, A)) = some (adC (six, A)) := fun _ _ _ _ => by simp [adC, go_sem]
  intro m
  induction m with
  | zero =>
    intro j hj T hok hkeys B args ha
    obtain rfl : j = 128 := by omega
    rw [path_end]
    have ha : args = _ := ha
    refine acall_freshK (nz := true) (k1 := T.depth + 2) (k2 := 6) (args' := [trC T, .agg (adC (six, A)), .int .i64 (128 : Nat)]) (by rw [ha]; simp [go_sem, hadm, trC_fz]) ?_
    generalize adC (six, A) = ac at *
    cases T with
    | nil =>
      rw [find_nil]
      refine acall_intro mixed Try.func36 rfl ca36 (by kernel_rfl) (by rw [Try.ntmps36]; simp) ?_
      repeat' (first | (with_reducible (first | apply w_seq | apply w_region | apply w_block | apply w_skip | apply w_exit | apply w_ret | apply w_then | apply w_then_exit | apply w_then_ret | apply w_in | apply w_in_here | apply w_in_ret | apply w_round | apply o_nil | apply d_nil)) | ((with_reducible (first | apply w_in_exit)); rfl) | ((with_reducible (first | apply w_draw)); rfl) | ((first | ((with_reducible (first | apply o_op | apply d_op | apply q_op)); rfl; rfl) | ((with_reducible (first | apply w_cond | apply w_end | apply w_return))) | ((with_reducible (first | apply o_guard | apply d_guard | apply q_guard)); rfl)); all_goals (first | ((with_reducible show Is _ _); ((try simp (disch := first | omega | (simp only [yA, yB, yC, yD, yE] <;> omega) | fail) [go_sem, yF, yG, yH, *, trC, if_pos, if_neg, -List.map_take, -List.map_drop, -List.map_append, -List.map_reverse]); exact rfl)) | ((fail_if_success (with_reducible show Is _ _)); (first | ((with_reducible refine fun (hc : (_ : Bool) = _) => ?_); (try simp only [xA, xB, xC, xD, xE, xF, xG, xH, reduceCtorEq, xI, xJ, xK, xL, xM, xN, xO, xP, xQ, xR] at hc); (try (have hx : True := hc; clear hx hc)); (try (exfalso; omega)); (try (with_reducible (exact absurd hc (by assumption)))); (try (with_reducible (exact absurd (by assumption) hc)))) | ((fail_if_success (with_reducible show ACall _ _ _ _ _)); (try (first | exact .inl rfl | (refine .inr ⟨rfl, ?_, ?_⟩; (focus (repeat (first | exact trivial | refine ⟨.inl rfl, ?_⟩ | refine ⟨.inr rfl, ?_⟩))); (first | exact trivial | exact rfl))))))))))
      refine o_op rfl rfl (ev_nilPtr (by (simp (disch := omega) [go_sem, *]) <;> (try omega))) ?_
      repeat' (first | (with_reducible (first | apply w_seq | apply w_region | apply w_block | apply w_skip | apply w_exit | apply w_ret | apply w_then | apply w_then_exit | apply w_then_ret | apply w_in | apply w_in_here | apply w_in_ret | apply w_round | apply o_nil | apply d_nil)) | ((with_reducible (first | apply w_in_exit)); rfl) | ((with_reducible (first | apply w_draw)); rfl) | ((first | ((with_reducible (first | apply o_op | apply d_op | apply q_op)); rfl; rfl) | ((with_reducible (first | apply w_cond | apply w_end | apply w_return))) | ((with_reducible (first | apply o_guard | apply d_guard | apply q_guard)); rfl)); all_goals (first | ((with_reducible show Is _ _); ((try simp (disch := first | omega | (simp only [yA, yB, yC, yD, yE] <;> omega) | fail) [go_sem, yF, yG, yH, *, if_pos, if_neg, -List.map_take, -List.map_drop, -List.map_append, -List.map_reverse]); exact rfl)) | ((fail_if_success (with_reducible show Is _ _)); (first | ((with_reducible refine fun (hc : (_ : Bool) = _) => ?_); (try simp only [xA, xB, xC, xD, xE, xF, xG, xH, reduceCtorEq, xI, xJ, xK, xL, xM, xN, xO, xP, xQ, xR] at hc); (try (have hx : True := hc; clear hx hc)); (try (exfalso; omega)); (try (with_reducible (exact absurd hc (by assumption)))); (try (with_reducible (exact absurd (by assumption) hc)))) | ((fail_if_success (with_reducible show ACall _ _ _ _ _)); (try (first | exact .inl rfl | (refine .inr ⟨rfl, ?_, ?_⟩; (focus (repeat (first | exact trivial | refine ⟨.inl rfl, ?_⟩ | refine ⟨.inr rfl, ?_⟩))); (first | exact trivial | exact rfl))))))))))
      rfl
    | node h k0 l r =>
      have hk0 := hkeys k0 (by simp [Tr.keys])
      have hkm := bmid hk0
      have hkt : (k0.map byteC).take 32 = k0.map byteC := List.take_of_length_le (by simp [hk0])
      have hkd : (k0.map byteC).drop 32 = [] := List.drop_eq_nil_of_le (by simp [hk0])
      have hz : fndF (Tr.find (.node h k0 l r) []) = (k0, h) := by
        cases h with
        | true => rfl
        | false => rw [hok.1 rfl]; rfl
      rw [hz]
      clear hz hok
      generalize trC l = cl at *
      refine acall_intro mixed Try.func36 rfl ca36 (by kernel_rfl) (by rw [Try.ntmps36]; simp) ?_
      repeat' (first | (with_reducible (first | apply w_seq | apply w_region | apply w_block | apply w_skip | apply w_exit | apply w_ret | apply w_then | apply w_then_exit | apply w_then_ret | apply w_in | apply w_in_here | apply w_in_ret | apply w_round | apply o_nil | apply d_nil)) | ((with_reducible (first | apply w_in_exit)); rfl) | ((first | ((with_reducible (first | apply o_op | apply d_op | apply q_op)); rfl; rfl) | ((with_reducible (first | apply w_cond | apply w_end | apply w_return))) | ((with_reducible (first | apply o_guard | apply d_guard | apply q_guard)); rfl)); all_goals (first | ((with_reducible show Is _ _); ((try simp (disch := first | omega | (simp only [yA, yB, yC, yD, yE] <;> omega) | fail) [go_sem, yF, yG, yH, *, trC, ndC, if_pos, if_neg, -List.map_take, -List.map_drop, -List.map_append, -List.map_reverse]); exact rfl)) | ((fail_if_success (with_reducible show Is _ _)); (first | ((with_reducible refine fun (hc : (_ : Bool) = _) => ?_); (try simp only [xA, xB, xC, xD, xE, xF, xG, xH, reduceCtorEq, xI, xJ, xK, xL, xM, xN, xO, xP, xQ, xR] at hc); (try (have hx : True := hc; clear hx hc)); (try (exfalso; omega)); (try (with_reducible (exact absurd hc (by assumption)))); (try (with_reducible (exact absurd (by assumption) hc)))) | ((fail_if_success (with_reducible show ACall _ _ _ _ _)); (try (first | exact .inl rfl | (refine .inr ⟨rfl, ?_, ?_⟩; (focus (repeat (first | exact trivial | refine ⟨.inl rfl, ?_⟩ | refine ⟨.inr rfl, ?_⟩))); (first | exact trivial | exact rfl))))))))))
      refine w_drawJ [5, 7] [⟨[], false⟩, ⟨[], false⟩] (fun _ => True) rfl rfl trivial ?_
      repeat' (first | (with_reducible (first | apply w_seq | apply w_region | apply w_block | apply w_skip | apply w_exit | apply w_ret | apply w_then | apply w_then_exit | apply w_then_ret | apply w_in | apply w_in_here | apply w_in_ret | apply w_round | apply o_nil | apply d_nil)) | ((with_reducible (first | apply w_in_exit)); rfl) | ((first | ((with_reducible (first | apply d_made | apply q_made)); rfl; rfl)); (iterate 6 ((try simp (disch := first | omega | (simp only [yA, yB, yC, yD, yE] <;> omega) | fail) [go_sem, yF, yG, yH, *, trC, ndC, if_pos, if_neg, -List.map_take, -List.map_drop, -List.map_append, -List.map_reverse]); exact rfl))) | ((first | ((with_reducible (first | apply d_fop | apply q_fop)); rfl; rfl)); (intro Bx hJ; (first | (obtain ⟨_, hJ1, hJ2⟩ := hJ) | (try simp only at hJ)); ((try simp (disch := first | omega | (simp only [yA, yB, yC, yD, yE] <;> omega) | fail) [go_sem, yF, yG, yH, *, trC, ndC, if_pos, if_neg, -List.map_take, -List.map_drop, -List.map_append, -List.map_reverse]); exact rfl))) | ((first | ((with_reducible (first | apply o_op | apply d_op | apply q_op)); rfl; rfl) | ((with_reducible (first | apply w_cond | apply w_end | apply w_return))) | ((with_reducible (first | apply o_guard | apply d_guard | apply q_guard)); rfl)); all_goals (first | ((with_reducible show Is _ _); ((try simp (disch := first | omega | (simp only [yA, yB, yC, yD, yE] <;> omega) | fail) [go_sem, yF, yG, yH, *, trC, ndC, if_pos, if_neg, -List.map_take, -List.map_drop, -List.map_append, -List.map_reverse]); exact rfl)) | ((fail_if_success (with_reducible show Is _ _)); (first | ((with_reducible refine fun (hc : (_ : Bool) = _) => ?_); (try simp only [xA, xB, xC, xD, xE, xF, xG, xH, reduceCtorEq, xI, xJ, xK, xL, xM, xN, xO, xP, xQ, xR] at hc); (try (have hx : True := hc; clear hx hc)); (try (exfalso; omega)); (try (with_reducible (exact absurd hc (by assumption)))); (try (with_reducible (exact absurd (by assumption) hc)))) | ((fail_if_success (with_reducible show ACall _ _ _ _ _)); (try (first | exact .inl rfl | (refine .inr ⟨rfl, ?_, ?_⟩; (focus (repeat (first | exact trivial | refine ⟨.inl rfl, ?_⟩ | refine ⟨.inr rfl, ?_⟩ | refine ⟨.inr (by (simp (disch := first | omega | (simp only [yA, yB, yC, yD, yE] <;> omega) | fail) [go_sem, yF, yG, yH, *, trC, ndC, -List.map_take, -List.map_drop, -List.map_append, -List.map_reverse])), ?_⟩))); (first | exact trivial | exact rfl | (refine ⟨_, ?_, ?_⟩; (focus (simp (disch := first | omega | (simp only [yA, yB, yC, yD, yE] <;> omega) | fail) [go_sem, yF, yG, yH, *, trC, ndC, -List.map_take, -List.map_drop, -List.map_append, -List.map_reverse]; (try exact rfl))); (simp (disch := first | omega | (simp only [yA, yB, yC, yD, yE] <;> omega) | fail) [go_sem, yF, yG, yH, *, trC, ndC, -List.map_take, -List.map_drop, -List.map_append, -List.map_reverse])) | (simp (disch := first | omega | (simp only [yA, yB, yC, yD, yE] <;> omega) | fail) [go_sem, yF, yG, yH, *, trC, ndC, -List.map_take, -List.map_drop, -List.map_append, -List.map_reverse]))) | exact .inl (by (simp (disch := first | omega | (simp only [yA, yB, yC, yD, yE] <;> omega) | fail) [go_sem, yF, yG, yH, *, trC, ndC, -List.map_take, -List.map_drop, -List.map_append, -List.map_reverse]))))))))))
      (simp (disch := omega) [go_sem, fndC]) <;> (try omega)
  | succ m ih =>
    intro j hj T hok hkeys B args ha
    have hjn : j < 128 := by omega
    rw [path_drop hjn]
    have ha : args = _ := ha
    refine acall_freshK (nz := true) (k1 := T.depth + 2) (k2 := 6) (args' := [trC T, .agg (adC (six, A)), .int .i64 j]) (by rw [ha]; simp [go_sem, hadm, trC_fz]) ?_
    have hbit : ∀ (B : List Box) (args : List CV), Is (omap (fz true false B 6) args) (some [.agg (adC (six, A)), .int .i64 j]) → ACall Try.prog 55 args B fun c B' => c = .int .i64 (bitI A j) ∧ B' = B := fun B args h => rbit_at (a := (six, A)) h hA (by omega)
    have hb2 : bitI A j < 2 := Nat.mod_lt _ (by omega)
    have hw : IntKind.i64.wrap ((j : Int) + 1) = (j : Int) + 1 := wi64 (by omega)
    have hj1 : ((j + 1 : Nat) : Int) = (j : Int) + 1 := by omega
    have ih := ih (j + 1) (by omega)
    simp only [hj1] at ih
    clear hj1
    generalize (pathF A 128).drop (j + 1) = p at *
    generalize adC (six, A) = ac at *
    generalize bitI A j = y at *
    cases T with
    | nil =>
      rw [find_nil]
      refine acall_intro mixed Try.func36 rfl ca36 (by kernel_rfl) (by rw [Try.ntmps36]; simp) ?_
      repeat' (first | (with_reducible (first | apply w_seq | apply w_region | apply w_block | apply w_skip | apply w_exit | apply w_ret | apply w_then | apply w_then_exit | apply w_then_ret | apply w_in | apply w_in_here | apply w_in_ret | apply w_round | apply o_nil | apply d_nil)) | ((with_reducible (first | apply w_in_exit)); rfl) | ((with_reducible (first | apply w_draw)); rfl) | ((first | ((with_reducible (first | apply o_op | apply d_op | apply q_op)); rfl; rfl) | ((with_reducible (first | apply w_cond | apply w_end | apply w_return))) | ((with_reducible (first | apply o_guard | apply d_guard | apply q_guard)); rfl)); all_goals (first | ((with_reducible show Is _ _); ((try simp (disch := first | omega | (simp only [yA, yB, yC, yD, yE] <;> omega) | fail) [go_sem, yF, yG, yH, *, trC, if_pos, if_neg, -List.map_take, -List.map_drop, -List.map_append, -List.map_reverse]); exact rfl)) | ((fail_if_success (with_reducible show Is _ _)); (first | ((with_reducible refine fun (hc : (_ : Bool) = _) => ?_); (try simp only [xA, xB, xC, xD, xE, xF, xG, xH, reduceCtorEq, xI, xJ, xK, xL, xM, xN, xO, xP, xQ, xR] at hc); (try (have hx : True := hc; clear hx hc)); (try (exfalso; omega)); (try (with_reducible (exact absurd hc (by assumption)))); (try (with_reducible (exact absurd (by assumption) hc)))) | ((fail_if_success (with_reducible show ACall _ _ _ _ _)); (try (first | exact .inl rfl | (refine .inr ⟨rfl, ?_, ?_⟩; (focus (repeat (first | exact trivial | refine ⟨.inl rfl, ?_⟩ | refine ⟨.inr rfl, ?_⟩))); (first | exact trivial | exact rfl))))))))))
      refine o_op rfl rfl (ev_nilPtr (by (simp (disch := omega) [go_sem, *]) <;> (try omega))) ?_
      repeat' (first | (with_reducible (first | apply w_seq | apply w_region | apply w_block | apply w_skip | apply w_exit | apply w_ret | apply w_then | apply w_then_exit | apply w_then_ret | apply w_in | apply w_in_here | apply w_in_ret | apply w_round | apply o_nil | apply d_nil)) | ((with_reducible (first | apply w_in_exit)); rfl) | ((with_reducible (first | apply w_draw)); rfl) | ((first | ((with_reducible (first | apply o_op | apply d_op | apply q_op)); rfl; rfl) | ((with_reducible (first | apply w_cond | apply w_end | apply w_return))) | ((with_reducible (first | apply o_guard | apply d_guard | apply q_guard)); rfl)); all_goals (first | ((with_reducible show Is _ _); ((try simp (disch := first | omega | (simp only [yA, yB, yC, yD, yE] <;> omega) | fail) [go_sem, yF, yG, yH, *, if_pos, if_neg, -List.map_take, -List.map_drop, -List.map_append, -List.map_reverse]); exact rfl)) | ((fail_if_success (with_reducible show Is _ _)); (first | ((with_reducible refine fun (hc : (_ : Bool) = _) => ?_); (try simp only [xA, xB, xC, xD, xE, xF, xG, xH, reduceCtorEq, xI, xJ, xK, xL, xM, xN, xO, xP, xQ, xR] at hc); (try (have hx : True := hc; clear hx hc)); (try (exfalso; omega)); (try (with_reducible (exact absurd hc (by assumption)))); (try (with_reducible (exact absurd (by assumption) hc)))) | ((fail_if_success (with_reducible show ACall _ _ _ _ _)); (try (first | exact .inl rfl | (refine .inr ⟨rfl, ?_, ?_⟩; (focus (repeat (first | exact trivial | refine ⟨.inl rfl, ?_⟩ | refine ⟨.inr rfl, ?_⟩))); (first | exact trivial | exact rfl))))))))))
      rfl
    | node h k0 l r =>
      have hk0 := hkeys k0 (by simp [Tr.keys])
      have hkl := ih l hok.2.1 fun x hx => hkeys x (by simp [Tr.keys, hx])
      have hkr := ih r hok.2.2 fun x hx => hkeys x (by simp [Tr.keys, hx])
      clear ih
      have hkm := bmid hk0
      have hkt : (k0.map byteC).take 32 = k0.map byteC := List.take_of_length_le (by simp [hk0])
      have hkd : (k0.map byteC).drop 32 = [] := List.drop_eq_nil_of_le (by simp [hk0])
      have hz : h = false → k0 = List.replicate 32 0 := hok.1
      clear hok
      obtain ⟨n1, n2, n3, n4, n5, n6, n7⟩ := nd_parts (h := h) (cl := trC l) (cr := trC r) hk0
      clear n6 n7
      rw [show trC (.node h k0 l r) = .iptr (ndC h k0 (trC l) (trC r)) from rfl]
      clear ha
      have e0 : fndF (Tr.find (.node h k0 l r) ((y == 1) :: p)) = match (if y = 0 then l else r).find p with
        | some (_, x) => (x, true)
        | none => (k0, h) := by
        have hh : ∀ o : Option (Nat × List UInt8), fndF (match o with | some (d, x) => some (d + 1, x) | none => if h then some (0, k0) else none) = match o with | some (_, x) => (x, true) | none => (k0, h) := fun o => by
          cases o with
          | some x => rfl
          | none => cases h with
            | true => rfl
            | false => rw [hz rfl]; rfl
        rw [← hh]
        rcases (show y = 0 ∨ y = 1 by omega) with rfl | rfl <;> rfl
      rw [e0]
      clear e0 hz
      rcases (show y = 0 ∨ y = 1 by omega) with rfl | rfl
      · simp only [if_true]
        cases hf : (l).find p with
        | some dx =>
          obtain ⟨d, x⟩ := dx
          rw [hf] at hkl
          have hx : x.length = 32 := hkeys x (by have := find_mem _ _ _ _ hf; simp [Tr.keys, this])
          have hx1 : (x.map byteC).take 32 = x.map byteC := List.take_of_length_le (by simp [hx])
          have hx2 : (x.map byteC).drop 32 = [] := List.drop_eq_nil_of_le (by simp [hx])
          generalize trC l = cl at *
          generalize trC r = cr at *
          have hcall : ∀ (B : List Box) (args : List CV), Is args [cl, .agg ac, .int .i64 ((j : Int) + 1)] → ACall Try.prog 36 args B fun c' B' => c' = .tup [.agg (x.map byteC), .bool true] ∧ B' = B := hkl
          clear hkl hkr hkeys
          refine acall_intro mixed Try.func36 rfl ca36 (by kernel_rfl) (by rw [Try.ntmps36]; simp) ?_
          repeat' (first | (with_reducible (first | apply w_seq | apply w_region | apply w_block | apply w_skip | apply w_exit | apply w_ret | apply w_then | apply w_then_exit | apply w_then_ret | apply w_in | apply w_in_here | apply w_in_ret | apply w_round | apply o_nil | apply d_nil)) | ((with_reducible (first | apply w_in_exit)); rfl) | ((with_reducible (first | apply w_draw)); rfl) | ((with_reducible (first | apply w_drawA)); (conv => lhs; reduce); ((try simp (disch := first | omega | (simp only [yA, yB, yC, yD, yE] <;> omega) | fail) [go_sem, yF, yG, yH, *, if_pos, if_neg, -List.map_take, -List.map_drop, -List.map_append, -List.map_reverse]); exact rfl); ((try simp (disch := first | omega | (simp only [yA, yB, yC, yD, yE] <;> omega) | fail) [go_sem, yF, yG, yH, *, if_pos, if_neg, -List.map_take, -List.map_drop, -List.map_append, -List.map_reverse]); exact rfl)) | ((first | ((with_reducible (first | apply d_made | apply q_made)); rfl; rfl)); (iterate 6 ((try simp (disch := first | omega | (simp only [yA, yB, yC, yD, yE] <;> omega) | fail) [go_sem, yF, yG, yH, *, if_pos, if_neg, -List.map_take, -List.map_drop, -List.map_append, -List.map_reverse]); exact rfl))) | ((first | ((with_reducible (first | apply d_fop | apply q_fop)); rfl; rfl)); (intro Bx hJ; (first | (obtain ⟨_, hJ1, hJ2⟩ := hJ) | (try simp only at hJ)); ((try simp (disch := first | omega | (simp only [yA, yB, yC, yD, yE] <;> omega) | fail) [go_sem, yF, yG, yH, *, if_pos, if_neg, -List.map_take, -List.map_drop, -List.map_append, -List.map_reverse]); exact rfl))) | ((with_reducible (first | apply d_free | apply q_free)); rfl; (iterate 2 ((try simp (disch := first | omega | (simp only [yA, yB, yC, yD, yE] <;> omega) | fail) [go_sem, yF, yG, yH, *, if_pos, if_neg, -List.map_take, -List.map_drop, -List.map_append, -List.map_reverse]); exact rfl)); (intro Bx hJ); (first | ((with_reducible (first | apply hbit)) <;> (first | omega | assumption | exact rfl | ((simp (disch := first | omega | (simp only [yA, yB, yC, yD, yE] <;> omega) | fail) [go_sem, yF, yG, yH, *, -List.map_take, -List.map_drop, -List.map_append, -List.map_reverse]) <;> (first | done | omega | exact rfl)))) | ((with_reducible (first | apply hcall)) <;> (first | omega | assumption | exact rfl | ((simp (disch := first | omega | (simp only [yA, yB, yC, yD, yE] <;> omega) | fail) [go_sem, yF, yG, yH, *, -List.map_take, -List.map_drop, -List.map_append, -List.map_reverse]) <;> (first | done | omega | exact rfl)))))) | ((first | ((with_reducible (first | apply o_op | apply d_op | apply q_op)); rfl; rfl) | ((with_reducible (first | apply w_cond | apply w_end | apply w_return))) | ((with_reducible (first | apply o_guard | apply d_guard | apply q_guard)); rfl) | ((with_reducible (first | apply o_call_eq | apply d_call | apply q_call)); rfl)); all_goals (first | ((with_reducible show Is _ _); ((try simp (disch := first | omega | (simp only [yA, yB, yC, yD, yE] <;> omega) | fail) [go_sem, yF, yG, yH, *, if_pos, if_neg, -List.map_take, -List.map_drop, -List.map_append, -List.map_reverse]); exact rfl)) | ((fail_if_success (with_reducible show Is _ _)); (first | ((with_reducible refine fun (hc : (_ : Bool) = _) => ?_); (try simp only [xA, xB, xC, xD, xE, xF, xG, xH, reduceCtorEq, xI, xJ, xK, xL, xM, xN, xO, xP, xQ, xR] at hc); (try (have hx : True := hc; clear hx hc)); (try (exfalso; omega)); (try (with_reducible (exact absurd hc (by assumption)))); (try (with_reducible (exact absurd (by assumption) hc)))) | ((with_reducible show ACall _ _ _ _ _); (first | ((with_reducible (first | apply hbit)) <;> (first | omega | assumption | exact rfl | ((simp (disch := first | omega | (simp only [yA, yB, yC, yD, yE] <;> omega) | fail) [go_sem, yF, yG, yH, *, -List.map_take, -List.map_drop, -List.map_append, -List.map_reverse]) <;> (first | done | omega | exact rfl)))) | ((with_reducible (first | apply hcall)) <;> (first | omega | assumption | exact rfl | ((simp (disch := first | omega | (simp only [yA, yB, yC, yD, yE] <;> omega) | fail) [go_sem, yF, yG, yH, *, -List.map_take, -List.map_drop, -List.map_append, -List.map_reverse]) <;> (first | done | omega | exact rfl)))))) | ((fail_if_success (with_reducible show ACall _ _ _ _ _)); (try (first | exact .inl rfl | (refine .inr ⟨rfl, ?_, ?_⟩; (focus (repeat (first | exact trivial | refine ⟨.inl rfl, ?_⟩ | refine ⟨.inr rfl, ?_⟩ | refine ⟨.inr (by (simp (disch := first | omega | (simp only [yA, yB, yC, yD, yE] <;> omega) | fail) [go_sem, yF, yG, yH, *, -List.map_take, -List.map_drop, -List.map_append, -List.map_reverse])), ?_⟩))); (first | exact trivial | exact rfl | (refine ⟨_, ?_, ?_⟩; (focus (simp (disch := first | omega | (simp only [yA, yB, yC, yD, yE] <;> omega) | fail) [go_sem, yF, yG, yH, *, -List.map_take, -List.map_drop, -List.map_append, -List.map_reverse]; (try exact rfl))); (simp (disch := first | omega | (simp only [yA, yB, yC, yD, yE] <;> omega) | fail) [go_sem, yF, yG, yH, *, -List.map_take, -List.map_drop, -List.map_append, -List.map_reverse])) | (simp (disch := first | omega | (simp only [yA, yB, yC, yD, yE] <;> omega) | fail) [go_sem, yF, yG, yH, *, -List.map_take, -List.map_drop, -List.map_append, -List.map_reverse]))) | exact .inl (by (simp (disch := first | omega | (simp only [yA, yB, yC, yD, yE] <;> omega) | fail) [go_sem, yF, yG, yH, *, -List.map_take, -List.map_drop, -List.map_append, -List.map_reverse]))))))))))
          (simp (disch := omega) [go_sem, fndC]) <;> (try omega)
        | none =>
          rw [hf] at hkl
          generalize trC l = cl at *
          generalize trC r = cr at *
          have hcall : ∀ (B : List Box) (args : List CV), Is args [cl, .agg ac, .int .i64 ((j : Int) + 1)] → ACall Try.prog 36 args B fun c' B' => c' = .tup [.agg ((List.replicate 32 (0 : UInt8)).map byteC), .bool false] ∧ B' = B := hkl
          clear hkl hkr hkeys
          refine acall_intro mixed Try.func36 rfl ca36 (by kernel_rfl) (by rw [Try.ntmps36]; simp) ?_
          repeat' (first | (with_reducible (first | apply w_seq | apply w_region | apply w_block | apply w_skip | apply w_exit | apply w_ret | apply w_then | apply w_then_exit | apply w_then_ret | apply w_in | apply w_in_here | apply w_in_ret | apply w_round | apply o_nil | apply d_nil)) | ((with_reducible (first | apply w_in_exit)); rfl) | ((first | ((with_reducible (first | apply o_op | apply d_op | apply q_op)); rfl; rfl) | ((with_reducible (first | apply w_cond | apply w_end | apply w_return))) | ((with_reducible (first | apply o_guard | apply d_guard | apply q_guard)); rfl) | ((with_reducible (first | apply o_call_eq | apply d_call | apply q_call)); rfl)); all_goals (first | ((with_reducible show Is _ _); ((try simp (disch := first | omega | (simp only [yA, yB, yC, yD, yE] <;> omega) | fail) [go_sem, yF, yG, yH, *, if_pos, if_neg, -List.map_take, -List.map_drop, -List.map_append, -List.map_reverse]); exact rfl)) | ((fail_if_success (with_reducible show Is _ _)); (first | ((with_reducible refine fun (hc : (_ : Bool) = _) => ?_); (try simp only [xA, xB, xC, xD, xE, xF, xG, xH, reduceCtorEq, xI, xJ, xK, xL, xM, xN, xO, xP, xQ, xR] at hc); (try (have hx : True := hc; clear hx hc)); (try (exfalso; omega)); (try (with_reducible (exact absurd hc (by assumption)))); (try (with_reducible (exact absurd (by assumption) hc)))) | ((with_reducible show ACall _ _ _ _ _); (first | ((with_reducible (first | apply hbit)) <;> (first | omega | assumption | exact rfl | ((simp (disch := first | omega | (simp only [yA, yB, yC, yD, yE] <;> omega) | fail) [go_sem, yF, yG, yH, *, -List.map_take, -List.map_drop, -List.map_append, -List.map_reverse]) <;> (first | done | omega | exact rfl)))) | ((with_reducible (first | apply hcall)) <;> (first | omega | assumption | exact rfl | ((simp (disch := first | omega | (simp only [yA, yB, yC, yD, yE] <;> omega) | fail) [go_sem, yF, yG, yH, *, -List.map_take, -List.map_drop, -List.map_append, -List.map_reverse]) <;> (first | done | omega | exact rfl)))))) | ((fail_if_success (with_reducible show ACall _ _ _ _ _)); (try (first | exact .inl rfl | (refine .inr ⟨rfl, ?_, ?_⟩; (focus (repeat (first | exact trivial | refine ⟨.inl rfl, ?_⟩ | refine ⟨.inr rfl, ?_⟩))); (first | exact trivial | exact rfl))))))))))
          refine w_drawA rfl rfl rfl ?_
          repeat' (first | (with_reducible (first | apply w_seq | apply w_region | apply w_block | apply w_skip | apply w_exit | apply w_ret | apply w_then | apply w_then_exit | apply w_then_ret | apply w_in | apply w_in_here | apply w_in_ret | apply w_round | apply o_nil | apply d_nil)) | ((with_reducible (first | apply w_in_exit)); rfl) | ((first | ((with_reducible (first | apply d_made | apply q_made)); rfl; rfl)); (iterate 6 ((try simp (disch := first | omega | (simp only [yA, yB, yC, yD, yE] <;> omega) | fail) [go_sem, yF, yG, yH, *, if_pos, if_neg, -List.map_take, -List.map_drop, -List.map_append, -List.map_reverse]); exact rfl))) | ((first | ((with_reducible (first | apply d_fop | apply q_fop)); rfl; rfl)); (intro Bx hJ; (first | (obtain ⟨_, hJ1, hJ2⟩ := hJ) | (try simp only at hJ)); ((try simp (disch := first | omega | (simp only [yA, yB, yC, yD, yE] <;> omega) | fail) [go_sem, yF, yG, yH, *, if_pos, if_neg, -List.map_take, -List.map_drop, -List.map_append, -List.map_reverse]); exact rfl))) | ((with_reducible (first | apply d_free | apply q_free)); rfl; (iterate 2 ((try simp (disch := first | omega | (simp only [yA, yB, yC, yD, yE] <;> omega) | fail) [go_sem, yF, yG, yH, *, if_pos, if_neg, -List.map_take, -List.map_drop, -List.map_append, -List.map_reverse]); exact rfl)); (intro Bx hJ); (first | ((with_reducible (first | apply hbit)) <;> (first | omega | assumption | exact rfl | ((simp (disch := first | omega | (simp only [yA, yB, yC, yD, yE] <;> omega) | fail) [go_sem, yF, yG, yH, *, -List.map_take, -List.map_drop, -List.map_append, -List.map_reverse]) <;> (first | done | omega | exact rfl)))) | ((with_reducible (first | apply hcall)) <;> (first | omega | assumption | exact rfl | ((simp (disch := first | omega | (simp only [yA, yB, yC, yD, yE] <;> omega) | fail) [go_sem, yF, yG, yH, *, -List.map_take, -List.map_drop, -List.map_append, -List.map_reverse]) <;> (first | done | omega | exact rfl)))))) | ((first | ((with_reducible (first | apply o_op | apply d_op | apply q_op)); rfl; rfl) | ((with_reducible (first | apply w_cond | apply w_end | apply w_return))) | ((with_reducible (first | apply o_guard | apply d_guard | apply q_guard)); rfl) | ((with_reducible (first | apply o_call_eq | apply d_call | apply q_call)); rfl)); all_goals (first | ((with_reducible show Is _ _); ((try simp (disch := first | omega | (simp only [yA, yB, yC, yD, yE] <;> omega) | fail) [go_sem, yF, yG, yH, *, if_pos, if_neg, -List.map_take, -List.map_drop, -List.map_append, -List.map_reverse]); exact rfl)) | ((fail_if_success (with_reducible show Is _ _)); (first | ((with_reducible refine fun (hc : (_ : Bool) = _) => ?_); (try simp only [xA, xB, xC, xD, xE, xF, xG, xH, reduceCtorEq, xI, xJ, xK, xL, xM, xN, xO, xP, xQ, xR] at hc); (try (have hx : True := hc; clear hx hc)); (try (exfalso; omega)); (try (with_reducible (exact absurd hc (by assumption)))); (try (with_reducible (exact absurd (by assumption) hc)))) | ((with_reducible show ACall _ _ _ _ _); (first | ((with_reducible (first | apply hbit)) <;> (first | omega | assumption | exact rfl | ((simp (disch := first | omega | (simp only [yA, yB, yC, yD, yE] <;> omega) | fail) [go_sem, yF, yG, yH, *, -List.map_take, -List.map_drop, -List.map_append, -List.map_reverse]) <;> (first | done | omega | exact rfl)))) | ((with_reducible (first | apply hcall)) <;> (first | omega | assumption | exact rfl | ((simp (disch := first | omega | (simp only [yA, yB, yC, yD, yE] <;> omega) | fail) [go_sem, yF, yG, yH, *, -List.map_take, -List.map_drop, -List.map_append, -List.map_reverse]) <;> (first | done | omega | exact rfl)))))) | ((fail_if_success (with_reducible show ACall _ _ _ _ _)); (try (first | exact .inl rfl | (refine .inr ⟨rfl, ?_, ?_⟩; (focus (repeat (first | exact trivial | refine ⟨.inl rfl, ?_⟩ | refine ⟨.inr rfl, ?_⟩ | refine ⟨.inr (by (simp (disch := first | omega | (simp only [yA, yB, yC, yD, yE] <;> omega) | fail) [go_sem, yF, yG, yH, *, -List.map_take, -List.map_drop, -List.map_append, -List.map_reverse])), ?_⟩))); (first | exact trivial | exact rfl | (refine ⟨_, ?_, ?_⟩; (focus (simp (disch := first | omega | (simp only [yA, yB, yC, yD, yE] <;> omega) | fail) [go_sem, yF, yG, yH, *, -List.map_take, -List.map_drop, -List.map_append, -List.map_reverse]; (try exact rfl))); (simp (disch := first | omega | (simp only [yA, yB, yC, yD, yE] <;> omega) | fail) [go_sem, yF, yG, yH, *, -List.map_take, -List.map_drop, -List.map_append, -List.map_reverse])) | (simp (disch := first | omega | (simp only [yA, yB, yC, yD, yE] <;> omega) | fail) [go_sem, yF, yG, yH, *, -List.map_take, -List.map_drop, -List.map_append, -List.map_reverse]))) | exact .inl (by (simp (disch := first | omega | (simp only [yA, yB, yC, yD, yE] <;> omega) | fail) [go_sem, yF, yG, yH, *, -List.map_take, -List.map_drop, -List.map_append, -List.map_reverse]))))))))))
          refine w_drawJ [5, 7] [⟨[], false⟩, ⟨[], false⟩] (fun _ => True) rfl rfl trivial ?_
          repeat' (first | (with_reducible (first | apply w_seq | apply w_region | apply w_block | apply w_skip | apply w_exit | apply w_ret | apply w_then | apply w_then_exit | apply w_then_ret | apply w_in | apply w_in_here | apply w_in_ret | apply w_round | apply o_nil | apply d_nil)) | ((with_reducible (first | apply w_in_exit)); rfl) | ((first | ((with_reducible (first | apply d_made | apply q_made)); rfl; rfl)); (iterate 6 ((try simp (disch := first | omega | (simp only [yA, yB, yC, yD, yE] <;> omega) | fail) [go_sem, yF, yG, yH, *, ndC, if_pos, if_neg, -List.map_take, -List.map_drop, -List.map_append, -List.map_reverse]); exact rfl))) | ((first | ((with_reducible (first | apply d_fop | apply q_fop)); rfl; rfl)); (intro Bx hJ; (first | (obtain ⟨_, hJ1, hJ2⟩ := hJ) | (try simp only at hJ)); ((try simp (disch := first | omega | (simp only [yA, yB, yC, yD, yE] <;> omega) | fail) [go_sem, yF, yG, yH, *, ndC, if_pos, if_neg, -List.map_take, -List.map_drop, -List.map_append, -List.map_reverse]); exact rfl))) | ((first | ((with_reducible (first | apply o_op | apply d_op | apply q_op)); rfl; rfl) | ((with_reducible (first | apply w_cond | apply w_end | apply w_return))) | ((with_reducible (first | apply o_guard | apply d_guard | apply q_guard)); rfl)); all_goals (first | ((with_reducible show Is _ _); ((try simp (disch := first | omega | (simp only [yA, yB, yC, yD, yE] <;> omega) | fail) [go_sem, yF, yG, yH, *, ndC, if_pos, if_neg, -List.map_take, -List.map_drop, -List.map_append, -List.map_reverse]); exact rfl)) | ((fail_if_success (with_reducible show Is _ _)); (first | ((with_reducible refine fun (hc : (_ : Bool) = _) => ?_); (try simp only [xA, xB, xC, xD, xE, xF, xG, xH, reduceCtorEq, xI, xJ, xK, xL, xM, xN, xO, xP, xQ, xR] at hc); (try (have hx : True := hc; clear hx hc)); (try (exfalso; omega)); (try (with_reducible (exact absurd hc (by assumption)))); (try (with_reducible (exact absurd (by assumption) hc)))) | ((fail_if_success (with_reducible show ACall _ _ _ _ _)); (try (first | exact .inl rfl | (refine .inr ⟨rfl, ?_, ?_⟩; (focus (repeat (first | exact trivial | refine ⟨.inl rfl, ?_⟩ | refine ⟨.inr rfl, ?_⟩ | refine ⟨.inr (by (simp (disch := first | omega | (simp only [yA, yB, yC, yD, yE] <;> omega) | fail) [go_sem, yF, yG, yH, *, ndC, -List.map_take, -List.map_drop, -List.map_append, -List.map_reverse])), ?_⟩))); (first | exact trivial | exact rfl | (refine ⟨_, ?_, ?_⟩; (focus (simp (disch := first | omega | (simp only [yA, yB, yC, yD, yE] <;> omega) | fail) [go_sem, yF, yG, yH, *, ndC, -List.map_take, -List.map_drop, -List.map_append, -List.map_reverse]; (try exact rfl))); (simp (disch := first | omega | (simp only [yA, yB, yC, yD, yE] <;> omega) | fail) [go_sem, yF, yG, yH, *, ndC, -List.map_take, -List.map_drop, -List.map_append, -List.map_reverse])) | (simp (disch := first | omega | (simp only [yA, yB, yC, yD, yE] <;> omega) | fail) [go_sem, yF, yG, yH, *, ndC, -List.map_take, -List.map_drop, -List.map_append, -List.map_reverse]))) | exact .inl (by (simp (disch := first | omega | (simp only [yA, yB, yC, yD, yE] <;> omega) | fail) [go_sem, yF, yG, yH, *, ndC, -List.map_take, -List.map_drop, -List.map_append, -List.map_reverse]))))))))))
          (simp (disch := omega) [go_sem, fndC]) <;> (try omega)
      · simp only [show ¬ (1 : Nat) = 0 by decide, if_false]
        cases hf : (r).find p with
        | some dx =>
          obtain ⟨d, x⟩ := dx
          rw [hf] at hkr
          have hx : x.length = 32 := hkeys x (by have := find_mem _ _ _ _ hf; simp [Tr.keys, this])
          have hx1 : (x.map byteC).take 32 = x.map byteC := List.take_of_length_le (by simp [hx])
          have hx2 : (x.map byteC).drop 32 = [] := List.drop_eq_nil_of_le (by simp [hx])
          generalize trC l = cl at *
          generalize trC r = cr at *
          have hcall : ∀ (B : List Box) (args : List CV), Is args [cr, .agg ac, .int .i64 ((j : Int) + 1)] → ACall Try.prog 36 args B fun c' B' => c' = .tup [.agg (x.map byteC), .bool true] ∧ B' = B := hkr
          clear hkl hkr hkeys
          refine acall_intro mixed Try.func36 rfl ca36 (by kernel_rfl) (by rw [Try.ntmps36]; simp) ?_
          repeat' (first | (with_reducible (first | apply w_seq | apply w_region | apply w_block | apply w_skip | apply w_exit | apply w_ret | apply w_then | apply w_then_exit | apply w_then_ret | apply w_in | apply w_in_here | apply w_in_ret | apply w_round | apply o_nil | apply d_nil)) | ((with_reducible (first | apply w_in_exit)); rfl) | ((with_reducible (first | apply w_draw)); rfl) | ((with_reducible (first | apply w_drawA)); (conv => lhs; reduce); ((try simp (disch := first | omega | (simp only [yA, yB, yC, yD, yE] <;> omega) | fail) [go_sem, yF, yG, yH, *, if_pos, if_neg, -List.map_take, -List.map_drop, -List.map_append, -List.map_reverse]); exact rfl); ((try simp (disch := first | omega | (simp only [yA, yB, yC, yD, yE] <;> omega) | fail) [go_sem, yF, yG, yH, *, if_pos, if_neg, -List.map_take, -List.map_drop, -List.map_append, -List.map_reverse]); exact rfl)) | ((first | ((with_reducible (first | apply d_made | apply q_made)); rfl; rfl)); (iterate 6 ((try simp (disch := first | omega | (simp only [yA, yB, yC, yD, yE] <;> omega) | fail) [go_sem, yF, yG, yH, *, if_pos, if_neg, -List.map_take, -List.map_drop, -List.map_append, -List.map_reverse]); exact rfl))) | ((first | ((with_reducible (first | apply d_fop | apply q_fop)); rfl; rfl)); (intro Bx hJ; (first | (obtain ⟨_, hJ1, hJ2⟩ := hJ) | (try simp only at hJ)); ((try simp (disch := first | omega | (simp only [yA, yB, yC, yD, yE] <;> omega) | fail) [go_sem, yF, yG, yH, *, if_pos, if_neg, -List.map_take, -List.map_drop, -List.map_append, -List.map_reverse]); exact rfl))) | ((with_reducible (first | apply d_free | apply q_free)); rfl; (iterate 2 ((try simp (disch := first | omega | (simp only [yA, yB, yC, yD, yE] <;> omega) | fail) [go_sem, yF, yG, yH, *, if_pos, if_neg, -List.map_take, -List.map_drop, -List.map_append, -List.map_reverse]); exact rfl)); (intro Bx hJ); (first | ((with_reducible (first | apply hbit)) <;> (first | omega | assumption | exact rfl | ((simp (disch := first | omega | (simp only [yA, yB, yC, yD, yE] <;> omega) | fail) [go_sem, yF, yG, yH, *, -List.map_take, -List.map_drop, -List.map_append, -List.map_reverse]) <;> (first | done | omega | exact rfl)))) | ((with_reducible (first | apply hcall)) <;> (first | omega | assumption | exact rfl | ((simp (disch := first | omega | (simp only [yA, yB, yC, yD, yE] <;> omega) | fail) [go_sem, yF, yG, yH, *, -List.map_take, -List.map_drop, -List.map_append, -List.map_reverse]) <;> (first | done | omega | exact rfl)))))) | ((first | ((with_reducible (first | apply o_op | apply d_op | apply q_op)); rfl; rfl) | ((with_reducible (first | apply w_cond | apply w_end | apply w_return))) | ((with_reducible (first | apply o_guard | apply d_guard | apply q_guard)); rfl) | ((with_reducible (first | apply o_call_eq | apply d_call | apply q_call)); rfl)); all_goals (first | ((with_reducible show Is _ _); ((try simp (disch := first | omega | (simp only [yA, yB, yC, yD, yE] <;> omega) | fail) [go_sem, yF, yG, yH, *, if_pos, if_neg, -List.map_take, -List.map_drop, -List.map_append, -List.map_reverse]); exact rfl)) | ((fail_if_success (with_reducible show Is _ _)); (first | ((with_reducible refine fun (hc : (_ : Bool) = _) => ?_); (try simp only [xA, xB, xC, xD, xE, xF, xG, xH, reduceCtorEq, xI, xJ, xK, xL, xM, xN, xO, xP, xQ, xR] at hc); (try (have hx : True := hc; clear hx hc)); (try (exfalso; omega)); (try (with_reducible (exact absurd hc (by assumption)))); (try (with_reducible (exact absurd (by assumption) hc)))) | ((with_reducible show ACall _ _ _ _ _); (first | ((with_reducible (first | apply hbit)) <;> (first | omega | assumption | exact rfl | ((simp (disch := first | omega | (simp only [yA, yB, yC, yD, yE] <;> omega) | fail) [go_sem, yF, yG, yH, *, -List.map_take, -List.map_drop, -List.map_append, -List.map_reverse]) <;> (first | done | omega | exact rfl)))) | ((with_reducible (first | apply hcall)) <;> (first | omega | assumption | exact rfl | ((simp (disch := first | omega | (simp only [yA, yB, yC, yD, yE] <;> omega) | fail) [go_sem, yF, yG, yH, *, -List.map_take, -List.map_drop, -List.map_append, -List.map_reverse]) <;> (first | done | omega | exact rfl)))))) | ((fail_if_success (with_reducible show ACall _ _ _ _ _)); (try (first | exact .inl rfl | (refine .inr ⟨rfl, ?_, ?_⟩; (focus (repeat (first | exact trivial | refine ⟨.inl rfl, ?_⟩ | refine ⟨.inr rfl, ?_⟩ | refine ⟨.inr (by (simp (disch := first | omega | (simp only [yA, yB, yC, yD, yE] <;> omega) | fail) [go_sem, yF, yG, yH, *, -List.map_take, -List.map_drop, -List.map_append, -List.map_reverse])), ?_⟩))); (first | exact trivial | exact rfl | (refine ⟨_, ?_, ?_⟩; (focus (simp (disch := first | omega | (simp only [yA, yB, yC, yD, yE] <;> omega) | fail) [go_sem, yF, yG, yH, *, -List.map_take, -List.map_drop, -List.map_append, -List.map_reverse]; (try exact rfl))); (simp (disch := first | omega | (simp only [yA, yB, yC, yD, yE] <;> omega) | fail) [go_sem, yF, yG, yH, *, -List.map_take, -List.map_drop, -List.map_append, -List.map_reverse])) | (simp (disch := first | omega | (simp only [yA, yB, yC, yD, yE] <;> omega) | fail) [go_sem, yF, yG, yH, *, -List.map_take, -List.map_drop, -List.map_append, -List.map_reverse]))) | exact .inl (by (simp (disch := first | omega | (simp only [yA, yB, yC, yD, yE] <;> omega) | fail) [go_sem, yF, yG, yH, *, -List.map_take, -List.map_drop, -List.map_append, -List.map_reverse]))))))))))
          (simp (disch := omega) [go_sem, fndC]) <;> (try omega)
        | none =>
          rw [hf] at hkr
          generalize trC l = cl at *
          generalize trC r = cr at *
          have hcall : ∀ (B : List Box) (args : List CV), Is args [cr, .agg ac, .int .i64 ((j : Int) + 1)] → ACall Try.prog 36 args B fun c' B' => c' = .tup [.agg ((List.replicate 32 (0 : UInt8)).map byteC), .bool false] ∧ B' = B := hkr
          clear hkl hkr hkeys
          refine acall_intro mixed Try.func36 rfl ca36 (by kernel_rfl) (by rw [Try.ntmps36]; simp) ?_
          repeat' (first | (with_reducible (first | apply w_seq | apply w_region | apply w_block | apply w_skip | apply w_exit | apply w_ret | apply w_then | apply w_then_exit | apply w_then_ret | apply w_in | apply w_in_here | apply w_in_ret | apply w_round | apply o_nil | apply d_nil)) | ((with_reducible (first | apply w_in_exit)); rfl) | ((first | ((with_reducible (first | apply o_op | apply d_op | apply q_op)); rfl; rfl) | ((with_reducible (first | apply w_cond | apply w_end | apply w_return))) | ((with_reducible (first | apply o_guard | apply d_guard | apply q_guard)); rfl) | ((with_reducible (first | apply o_call_eq | apply d_call | apply q_call)); rfl)); all_goals (first | ((with_reducible show Is _ _); ((try simp (disch := first | omega | (simp only [yA, yB, yC, yD, yE] <;> omega) | fail) [go_sem, yF, yG, yH, *, if_pos, if_neg, -List.map_take, -List.map_drop, -List.map_append, -List.map_reverse]); exact rfl)) | ((fail_if_success (with_reducible show Is _ _)); (first | ((with_reducible refine fun (hc : (_ : Bool) = _) => ?_); (try simp only [xA, xB, xC, xD, xE, xF, xG, xH, reduceCtorEq, xI, xJ, xK, xL, xM, xN, xO, xP, xQ, xR] at hc); (try (have hx : True := hc; clear hx hc)); (try (exfalso; omega)); (try (with_reducible (exact absurd hc (by assumption)))); (try (with_reducible (exact absurd (by assumption) hc)))) | ((with_reducible show ACall _ _ _ _ _); (first | ((with_reducible (first | apply hbit)) <;> (first | omega | assumption | exact rfl | ((simp (disch := first | omega | (simp only [yA, yB, yC, yD, yE] <;> omega) | fail) [go_sem, yF, yG, yH, *, -List.map_take, -List.map_drop, -List.map_append, -List.map_reverse]) <;> (first | done | omega | exact rfl)))) | ((with_reducible (first | apply hcall)) <;> (first | omega | assumption | exact rfl | ((simp (disch := first | omega | (simp only [yA, yB, yC, yD, yE] <;> omega) | fail) [go_sem, yF, yG, yH, *, -List.map_take, -List.map_drop, -List.map_append, -List.map_reverse]) <;> (first | done | omega | exact rfl)))))) | ((fail_if_success (with_reducible show ACall _ _ _ _ _)); (try (first | exact .inl rfl | (refine .inr ⟨rfl, ?_, ?_⟩; (focus (repeat (first | exact trivial | refine ⟨.inl rfl, ?_⟩ | refine ⟨.inr rfl, ?_⟩))); (first | exact trivial | exact rfl))))))))))
          refine w_drawA rfl rfl rfl ?_
          repeat' (first | (with_reducible (first | apply w_seq | apply w_region | apply w_block | apply w_skip | apply w_exit | apply w_ret | apply w_then | apply w_then_exit | apply w_then_ret | apply w_in | apply w_in_here | apply w_in_ret | apply w_round | apply o_nil | apply d_nil)) | ((with_reducible (first | apply w_in_exit)); rfl) | ((first | ((with_reducible (first | apply d_made | apply q_made)); rfl; rfl)); (iterate 6 ((try simp (disch := first | omega | (simp only [yA, yB, yC, yD, yE] <;> omega) | fail) [go_sem, yF, yG, yH, *, if_pos, if_neg, -List.map_take, -List.map_drop, -List.map_append, -List.map_reverse]); exact rfl))) | ((first | ((with_reducible (first | apply d_fop | apply q_fop)); rfl; rfl)); (intro Bx hJ; (first | (obtain ⟨_, hJ1, hJ2⟩ := hJ) | (try simp only at hJ)); ((try simp (disch := first | omega | (simp only [yA, yB, yC, yD, yE] <;> omega) | fail) [go_sem, yF, yG, yH, *, if_pos, if_neg, -List.map_take, -List.map_drop, -List.map_append, -List.map_reverse]); exact rfl))) | ((with_reducible (first | apply d_free | apply q_free)); rfl; (iterate 2 ((try simp (disch := first | omega | (simp only [yA, yB, yC, yD, yE] <;> omega) | fail) [go_sem, yF, yG, yH, *, if_pos, if_neg, -List.map_take, -List.map_drop, -List.map_append, -List.map_reverse]); exact rfl)); (intro Bx hJ); (first | ((with_reducible (first | apply hbit)) <;> (first | omega | assumption | exact rfl | ((simp (disch := first | omega | (simp only [yA, yB, yC, yD, yE] <;> omega) | fail) [go_sem, yF, yG, yH, *, -List.map_take, -List.map_drop, -List.map_append, -List.map_reverse]) <;> (first | done | omega | exact rfl)))) | ((with_reducible (first | apply hcall)) <;> (first | omega | assumption | exact rfl | ((simp (disch := first | omega | (simp only [yA, yB, yC, yD, yE] <;> omega) | fail) [go_sem, yF, yG, yH, *, -List.map_take, -List.map_drop, -List.map_append, -List.map_reverse]) <;> (first | done | omega | exact rfl)))))) | ((first | ((with_reducible (first | apply o_op | apply d_op | apply q_op)); rfl; rfl) | ((with_reducible (first | apply w_cond | apply w_end | apply w_return))) | ((with_reducible (first | apply o_guard | apply d_guard | apply q_guard)); rfl) | ((with_reducible (first | apply o_call_eq | apply d_call | apply q_call)); rfl)); all_goals (first | ((with_reducible show Is _ _); ((try simp (disch := first | omega | (simp only [yA, yB, yC, yD, yE] <;> omega) | fail) [go_sem, yF, yG, yH, *, if_pos, if_neg, -List.map_take, -List.map_drop, -List.map_append, -List.map_reverse]); exact rfl)) | ((fail_if_success (with_reducible show Is _ _)); (first | ((with_reducible refine fun (hc : (_ : Bool) = _) => ?_); (try simp only [xA, xB, xC, xD, xE, xF, xG, xH, reduceCtorEq, xI, xJ, xK, xL, xM, xN, xO, xP, xQ, xR] at hc); (try (have hx : True := hc; clear hx hc)); (try (exfalso; omega)); (try (with_reducible (exact absurd hc (by assumption)))); (try (with_reducible (exact absurd (by assumption) hc)))) | ((with_reducible show ACall _ _ _ _ _); (first | ((with_reducible (first | apply hbit)) <;> (first | omega | assumption | exact rfl | ((simp (disch := first | omega | (simp only [yA, yB, yC, yD, yE] <;> omega) | fail) [go_sem, yF, yG, yH, *, -List.map_take, -List.map_drop, -List.map_append, -List.map_reverse]) <;> (first | done | omega | exact rfl)))) | ((with_reducible (first | apply hcall)) <;> (first | omega | assumption | exact rfl | ((simp (disch := first | omega | (simp only [yA, yB, yC, yD, yE] <;> omega) | fail) [go_sem, yF, yG, yH, *, -List.map_take, -List.map_drop, -List.map_append, -List.map_reverse]) <;> (first | done | omega | exact rfl)))))) | ((fail_if_success (with_reducible show ACall _ _ _ _ _)); (try (first | exact .inl rfl | (refine .inr ⟨rfl, ?_, ?_⟩; (focus (repeat (first | exact trivial | refine ⟨.inl rfl, ?_⟩ | refine ⟨.inr rfl, ?_⟩ | refine ⟨.inr (by (simp (disch := first | omega | (simp only [yA, yB, yC, yD, yE] <;> omega) | fail) [go_sem, yF, yG, yH, *, -List.map_take, -List.map_drop, -List.map_append, -List.map_reverse])), ?_⟩))); (first | exact trivial | exact rfl | (refine ⟨_, ?_, ?_⟩; (focus (simp (disch := first | omega | (simp only [yA, yB, yC, yD, yE] <;> omega) | fail) [go_sem, yF, yG, yH, *, -List.map_take, -List.map_drop, -List.map_append, -List.map_reverse]; (try exact rfl))); (simp (disch := first | omega | (simp only [yA, yB, yC, yD, yE] <;> omega) | fail) [go_sem, yF, yG, yH, *, -List.map_take, -List.map_drop, -List.map_append, -List.map_reverse])) | (simp (disch := first | omega | (simp only [yA, yB, yC, yD, yE] <;> omega) | fail) [go_sem, yF, yG, yH, *, -List.map_take, -List.map_drop, -List.map_append, -List.map_reverse]))) | exact .inl (by (simp (disch := first | omega | (simp only [yA, yB, yC, yD, yE] <;> omega) | fail) [go_sem, yF, yG, yH, *, -List.map_take, -List.map_drop, -List.map_append, -List.map_reverse]))))))))))
          refine w_drawJ [5, 7] [⟨[], false⟩, ⟨[], false⟩] (fun _ => True) rfl rfl trivial ?_
          repeat' (first | (with_reducible (first | apply w_seq | apply w_region | apply w_block | apply w_skip | apply w_exit | apply w_ret | apply w_then | apply w_then_exit | apply w_then_ret | apply w_in | apply w_in_here | apply w_in_ret | apply w_round | apply o_nil | apply d_nil)) | ((with_reducible (first | apply w_in_exit)); rfl) | ((first | ((with_reducible (first | apply d_made | apply q_made)); rfl; rfl)); (iterate 6 ((try simp (disch := first | omega | (simp only [yA, yB, yC, yD, yE] <;> omega) | fail) [go_sem, yF, yG, yH, *, ndC, if_pos, if_neg, -List.map_take, -List.map_drop, -List.map_append, -List.map_reverse]); exact rfl))) | ((first | ((with_reducible (first | apply d_fop | apply q_fop)); rfl; rfl)); (intro Bx hJ; (first | (obtain ⟨_, hJ1, hJ2⟩ := hJ) | (try simp only at hJ)); ((try simp (disch := first | omega | (simp only [yA, yB, yC, yD, yE] <;> omega) | fail) [go_sem, yF, yG, yH, *, ndC, if_pos, if_neg, -List.map_take, -List.map_drop, -List.map_append, -List.map_reverse]); exact rfl))) | ((first | ((with_reducible (first | apply o_op | apply d_op | apply q_op)); rfl; rfl) | ((with_reducible (first | apply w_cond | apply w_end | apply w_return))) | ((with_reducible (first | apply o_guard | apply d_guard | apply q_guard)); rfl)); all_goals (first | ((with_reducible show Is _ _); ((try simp (disch := first | omega | (simp only [yA, yB, yC, yD, yE] <;> omega) | fail) [go_sem, yF, yG, yH, *, ndC, if_pos, if_neg, -List.map_take, -List.map_drop, -List.map_append, -List.map_reverse]); exact rfl)) | ((fail_if_success (with_reducible show Is _ _)); (first | ((with_reducible refine fun (hc : (_ : Bool) = _) => ?_); (try simp only [xA, xB, xC, xD, xE, xF, xG, xH, reduceCtorEq, xI, xJ, xK, xL, xM, xN, xO, xP, xQ, xR] at hc); (try (have hx : True := hc; clear hx hc)); (try (exfalso; omega)); (try (with_reducible (exact absurd hc (by assumption)))); (try (with_reducible (exact absurd (by assumption) hc)))) | ((fail_if_success (with_reducible show ACall _ _ _ _ _)); (try (first | exact .inl rfl | (refine .inr ⟨rfl, ?_, ?_⟩; (focus (repeat (first | exact trivial | refine ⟨.inl rfl, ?_⟩ | refine ⟨.inr rfl, ?_⟩ | refine ⟨.inr (by (simp (disch := first | omega | (simp only [yA, yB, yC, yD, yE] <;> omega) | fail) [go_sem, yF, yG, yH, *, ndC, -List.map_take, -List.map_drop, -List.map_append, -List.map_reverse])), ?_⟩))); (first | exact trivial | exact rfl | (refine ⟨_, ?_, ?_⟩; (focus (simp (disch := first | omega | (simp only [yA, yB, yC, yD, yE] <;> omega) | fail) [go_sem, yF, yG, yH, *, ndC, -List.map_take, -List.map_drop, -List.map_append, -List.map_reverse]; (try exact rfl))); (simp (disch := first | omega | (simp only [yA, yB, yC, yD, yE] <;> omega) | fail) [go_sem, yF, yG, yH, *, ndC, -List.map_take, -List.map_drop, -List.map_append, -List.map_reverse])) | (simp (disch := first | omega | (simp only [yA, yB, yC, yD, yE] <;> omega) | fail) [go_sem, yF, yG, yH, *, ndC, -List.map_take, -List.map_drop, -List.map_append, -List.map_reverse]))) | exact .inl (by (simp (disch := first | omega | (simp only [yA, yB, yC, yD, yE] <;> omega) | fail) [go_sem, yF, yG, yH, *, ndC, -List.map_take, -List.map_drop, -List.map_append, -List.map_reverse]))))))))))
          (simp (disch := omega) [go_sem, fndC]) <;> (try omega)
end Go.Proofs.Ytmcnajknmoldpaa
