import Derived.Test.YtjlfblcoghiijaaFL
import Derived.Test.YtjlfblcoghiijaaFN
namespace Go.Proofs.Ytjlfblcoghiijaa
open Go Go.Sy
set_option linter.all false
set_option maxRecDepth 100000
set_option maxHeartbeats 4000000
/-! Chunks make no difference. -/
def outS (x : List (Int × List UInt8) × Option (List UInt8)) : (List UInt8 × Bool) × List (Int × List UInt8) := ((x.2.getD [], x.2.isNone), x.1)
theorem feedAll_bad (d : List UInt8) : ∀ cs : List (List UInt8), feedAll (d, true) cs = ((d, true), [])
  | [] => rfl
  | c :: cs => by
    have : feedS (d, true) c = ((d, true), []) := by simp [feedS]
    simp only [feedAll, this, feedAll_bad d cs]; rfl
theorem feedAll_good : ∀ (cs : List (List UInt8)) (r : List UInt8), feedA r = ([], some r) → feedAll (r, false) cs = outS (feedA (r ++ cs.flatten))
  | [], r, h => by simp [feedAll, outS, h]
  | c :: cs, r, h => by
    have hf : feedS (r, false) c = outS (feedA (r ++ c)) := by simp [feedS, outS]
    have ha := feedA_app (r ++ c).length (r ++ c) cs.flatten (Nat.le_refl _)
    rw [List.flatten_cons, ← List.append_assoc, ha]
    simp only [feedAll, hf]
    cases he : (feedA (r ++ c)).2 with
    | none => simp only [outS, he, feedAll_bad, Option.getD_none, Option.isNone_none, List.append_nil]
    | some q =>
      have hq := feedA_stuck _ _ _ (Nat.le_refl _) he
      simp only [outS, he, Option.getD_some, Option.isNone_some]
      rw [feedAll_good cs q hq]
      rfl
theorem feedAll_eq (cs : List (List UInt8)) : feedAll ([], false) cs = outS (feedA cs.flatten) := feedAll_good cs [] rfl
/-- Bytes that were put behind one another. -/
def AllR (B : List Box) (ac : CV) (E : List UInt8) : Prop := (E = [] ∧ ac = .nilS) ∨ ∃ b m, ac = .view b 0 E.length 1 false ∧ B[b]? = some ⟨E.map byteC, m⟩
theorem feed_all {B : List Box} {args : List CV} {m : Nat} {f2 : Bool} {E ch : List UInt8} {ac : CV} (ha : Is args [ac, .lst m (ch.map byteC) f2]) (hA : AllR B ac E) (hm : m = ch.length) (hE : E.length < 100000000) (hc : ch.length < 9223372036854775808) :
    ACall Try.prog 16 args B (FdQ E B) := by
  rcases hA with ⟨rfl, rfl⟩ | ⟨b, mm, rfl, hb⟩
  · exact feedN_at (m := m) ha
  · have := feed_law_at (n := E.length) (D := E) ha (Nat.le_refl _) hm hE hc hb
    rwa [List.take_length] at this
theorem OutF.fz {L0 k : Nat} {B : List Box} {oc : CV} {fs : List (Int × List UInt8)} (h : OutF L0 B oc fs) : Go.Sy.fz true false B (k + 3) oc = some (rl frC fs) := by
  rcases h with ⟨rfl, rfl⟩ | ⟨b, m, _, rfl, h5⟩
  · rfl
  · rw [fz_view, h5]
    simp only [List.drop_zero]
    rw [List.take_of_length_le (by rw [fl_len (n := 2) fun a _ => frC_len a]; exact Nat.le_refl _), omap_fl (fun a => by rw [frC, omap_two, fz_int, Option.bind_some, omap_two, fz_lb]; rfl)]; rfl
theorem rl_fz {k : Nat} {B : List Box} (fs : List (Int × List UInt8)) : Go.Sy.fz true false B (k + 3) (rl frC fs) = some (rl frC fs) := by
  rw [rl, fz_lst, omap_fl (fun a => by rw [frC, omap_two, fz_int, Option.bind_some, omap_two, fz_lb]; rfl)]; rfl
theorem same_out {L0 : Nat} {B : List Box} {args : List CV} {oc : CV} {G L : List (Int × List UInt8)} (ha : Is args [oc, rl frC L]) (hO : OutF L0 B oc G) (hl : G.length < 1000000000) (hm : L.length < 1000000000) : ACall Try.prog 13 args B fun c B' => c = .bool (G == L) ∧ B' = B := by
  have ha : args = _ := ha
  subst ha
  exact same_at (by show omap _ _ = _; rw [omap_two, hO.fz (k := 3), Option.bind_some, omap_two, rl_fz (k := 3)]; rfl) hl hm
end Go.Proofs.Ytjlfblcoghiijaa
