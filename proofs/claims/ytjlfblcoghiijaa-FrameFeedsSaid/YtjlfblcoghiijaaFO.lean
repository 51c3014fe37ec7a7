import Derived.Test.YtjlfblcoghiijaaFG
namespace Go.Proofs.Ytjlfblcoghiijaa
open Go Go.Sy
set_option linter.all false
set_option maxRecDepth 100000
set_option maxHeartbeats 4000000
/-! The frames that are out: what both readers and Parts need. -/
theorem OutV.len {L0 : Nat} {B : List Box} {oc : CV} {fs : List (Int × List UInt8)} (h : OutV L0 B oc fs) : lenC oc = some fs.length := by
  rcases h with ⟨rfl, rfl⟩ | ⟨b, cells, m, _, rfl, _, _⟩ <;> rfl
def RI (d0 : List UInt8) (fr : Fr) (B : List Box) : Prop :=
  ∃ fs d oc f, OutV 2 B oc fs ∧ fr 7 = oc ∧ fr 6 = .lst d.length (d.map byteC) f ∧ feedA d0 = (fs ++ (feedA d).1, (feedA d).2) ∧ B[1]? = some ⟨[.nilS, .bool false], false⟩ ∧ fr 4 = .ptr 1 0 ∧ fs.length + d.length ≤ d0.length
def RM (fr : Fr) (_ : List Box) : Nat := (lenC (fr 6)).getD 0
theorem OutV.app {L0 : Nat} {B : List Box} {oc : CV} {fs : List (Int × List UInt8)} (h : OutV L0 B oc fs) (X : List Box) : OutV L0 (B ++ X) oc fs :=
  h.keep fun β bx _ g => by rw [List.getElem?_append_left (List.getElem?_eq_some_iff.1 g).1]; exact g
theorem OutV.set1 {L0 : Nat} {B : List Box} {oc : CV} {fs : List (Int × List UInt8)} (h : OutV L0 B oc fs) (i : Nat) (hi : i < L0) (x : Box) : OutV L0 (B.set i x) oc fs :=
  h.keep fun β bx g1 g => by rw [List.getElem?_set_ne (by omega)]; exact g
theorem outv_one {L0 : Nat} {B X : List Box} {k : Int} {p : List UInt8} {c : CV} {j : Nat} {mm : Bool} (hl : L0 ≤ B.length) (hj : X[j]? = some ⟨[.int .i64 k, c], mm⟩) (hc : (p = [] ∧ (c = .nilS ∨ c = .lst 0 [] true)) ∨ ∃ i m f, i ≠ j ∧ c = .view (B.length + i) 0 p.length 1 f ∧ X[i]? = some ⟨p.map byteC, m⟩) :
    OutV L0 (B ++ X) (.view (B.length + j) 0 1 2 false) [(k, p)] := by
  have hX' : ∀ i, (B ++ X)[B.length + i]? = X[i]? := fun i => by rw [List.getElem?_append_right (by simp)]; simp
  refine .inr ⟨B.length + j, _, mm, by omega, rfl, by rw [hX', hj], c, [], rfl, ?_, rfl⟩
  rcases hc with hc | ⟨i, m, f, h4, rfl, h5⟩
  · exact .inl hc
  · exact .inr ⟨B.length + i, m, f, by omega, by omega, rfl, by rw [hX', h5]⟩
theorem outv_more {L0 b : Nat} {B X : List Box} {k : Int} {p : List UInt8} {c : CV} {fs : List (Int × List UInt8)} {cells : List CV} {m0 : Bool} (hl : L0 ≤ B.length) (hb : L0 ≤ b) (hbb : B[b]? = some ⟨cells, m0⟩) (hfr : FrB L0 b B cells fs)
    (hc : (p = [] ∧ (c = .nilS ∨ c = .lst 0 [] true)) ∨ ∃ i m f, c = .view (B.length + i) 0 p.length 1 f ∧ X[i]? = some ⟨p.map byteC, m⟩) :
    OutV L0 (B.set b ⟨cells ++ [.int .i64 k, c], true⟩ ++ X) (.view b 0 (fs.length + 1) 2 false) (fs ++ [(k, p)]) := by
  have hbl := (List.getElem?_eq_some_iff.1 hbb).1
  have hX' : ∀ i, (B.set b ⟨cells ++ [.int .i64 k, c], true⟩ ++ X)[B.length + i]? = X[i]? := fun i => by rw [List.getElem?_append_right (by simp)]; simp
  refine .inr ⟨b, cells ++ [.int .i64 k, c], true, hb, by simp, ?_, FrB.snoc ?_ (hfr.keep fun β bx g1 g2 g3 => ?_)⟩
  · rw [List.getElem?_append_left (by simp; omega), List.getElem?_set_self hbl]
  · rcases hc with hc | ⟨i, m, f, rfl, h5⟩
    · exact .inl hc
    · exact .inr ⟨B.length + i, m, f, by omega, by omega, rfl, by rw [hX', h5]⟩
  · have := (List.getElem?_eq_some_iff.1 g3).1
    rw [List.getElem?_append_left (by simp; omega), List.getElem?_set_ne (Ne.symm g2), g3]
theorem ret_fz {L0 : Nat} {B : List Box} {oc dc : CV} {br : Bool} {fs : List (Int × List UInt8)} {d : List UInt8} (hO : OutV L0 B oc fs) (hd : fz true true B 4 dc = some (lb d)) : fz true true B 6 (.tup [.agg [dc, .bool br], oc]) = some (.tup [.agg [lb d, .bool br], rl frC fs]) := by
  rw [fz_tup, omap_two, fz_agg, omap_two, hd, Option.bind_some, omap_two, fz_bool, omap_nil, Option.bind_some]
  simp only [Option.map_some, Option.bind_some]
  rw [omap_two, hO.fz (k := 2)]
  rfl
end Go.Proofs.Ytjlfblcoghiijaa
