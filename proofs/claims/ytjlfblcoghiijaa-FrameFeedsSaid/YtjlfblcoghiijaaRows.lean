/-
  No cell of these rows narrows 'for every input' (looked for: loops, veiled, ifaces, maps, wideKeys, modest, calm, conditions, laid).
  DERIVED. THE GIVEN ROWS OF THIS SEAT. 5 by the template 'for every input the law returns true; each argument reads behind the call as it read before'; 0 by the template 'total and deterministic' (their statements: YtjlfblcoghiijaaTotals.lean).
  GIVEN WITH THE SEED: the statements are not yours to turn. If you find one false, say at which input.
  Laid BY PROGRAM, IN A SANDBOX (cutbox-rows.mjs): the forced cells as the released guide's own fill.sh prints them over the translation 035972a2b1368458… (all of the seat's roots in one cut). By AI agents, Wed Nov 11 2026. No macro, syntax, notation, axiom, sorry.
-/
import Derived.Test.YtjlfblcoghiijaaChecked
import GoSem.Claim
import GoSem.ClaimJoined
import GoSem.ClaimMapViews
import Derived.JoinedTies
import Derived.KernelRfl
namespace Go.Proofs.Ytjlfblcoghiijaa
/- THE CELL 'sum', in the pinned program and in every row, IS THE sha256 OF THE DUMP (.gsa) THAT YtjlfblcoghiijaaProg.lean LOADS. Nothing in Lean hashes anything: it is a label: what it is worth is what the hold of that sum in a sandbox is worth. -/
noncomputable def Try.pinned : Pinned := { name := "ytjlfblcoghiijaa", sum := "035972a2b1368458ed493632a139ad0919358674c683090d59f6f5f38bda75d9", checked := Try.checked }
namespace Rows
def none {H : Type} : Left H := { results := [], args := [] }

/-- 'burrowlaw30.FrameFeeds': WHATEVER THE INPUT: true; the input reads as it did. -/
def frameFeedsSpec : ChangeSpec := { name := "frameFeeds", fn := fun _ => fun
  | [d1, d2, d3, d4, d5, d6] => { results := [.lit (.bool true)], args := [d1, d2, d3, d4, d5, d6] }
  | _ => none }
def frameFeedsRow : OpenClaim := { program := "ytjlfblcoghiijaa", sum := "035972a2b1368458ed493632a139ad0919358674c683090d59f6f5f38bda75d9", func := "burrow/burrowlaw30.FrameFeeds", spec := "frameFeeds", unfollowed := true, recurses := true, apart := false }
def FrameFeedsSaid : Prop := frameFeedsRow.holds Try.pinned (OpenSpec.ofChange frameFeedsSpec)

/-- ITS FALSE NEIGHBOUR: 'it returns false'. Refute it at one input. -/
def frameFeedsWrong : ChangeSpec := { name := "frameFeeds", fn := fun _ => fun
  | [d1, d2, d3, d4, d5, d6] => { results := [.lit (.bool false)], args := [d1, d2, d3, d4, d5, d6] }
  | _ => none }
def FrameFeedsWrongFalsely : Prop := frameFeedsRow.holds Try.pinned (OpenSpec.ofChange frameFeedsWrong)

/-- 'burrowlaw30.FrameArrives': WHATEVER THE INPUT: true; the input reads as it did. -/
def frameArrivesSpec : ChangeSpec := { name := "frameArrives", fn := fun _ => fun
  | [d1, d2] => { results := [.lit (.bool true)], args := [d1, d2] }
  | _ => none }
def frameArrivesRow : OpenClaim := { program := "ytjlfblcoghiijaa", sum := "035972a2b1368458ed493632a139ad0919358674c683090d59f6f5f38bda75d9", func := "burrow/burrowlaw30.FrameArrives", spec := "frameArrives", unfollowed := true, recurses := true, apart := false }
def FrameArrivesSaid : Prop := frameArrivesRow.holds Try.pinned (OpenSpec.ofChange frameArrivesSpec)

/-- ITS FALSE NEIGHBOUR: 'it returns false'. Refute it at one input. -/
def frameArrivesWrong : ChangeSpec := { name := "frameArrives", fn := fun _ => fun
  | [d1, d2] => { results := [.lit (.bool false)], args := [d1, d2] }
  | _ => none }
def FrameArrivesWrongFalsely : Prop := frameArrivesRow.holds Try.pinned (OpenSpec.ofChange frameArrivesWrong)

/-- 'burrowlaw30.FrameDetects': WHATEVER THE INPUT: true; the input reads as it did. -/
def frameDetectsSpec : ChangeSpec := { name := "frameDetects", fn := fun _ => fun
  | [d1, d2, d3, d4] => { results := [.lit (.bool true)], args := [d1, d2, d3, d4] }
  | _ => none }
def frameDetectsRow : OpenClaim := { program := "ytjlfblcoghiijaa", sum := "035972a2b1368458ed493632a139ad0919358674c683090d59f6f5f38bda75d9", func := "burrow/burrowlaw30.FrameDetects", spec := "frameDetects", unfollowed := true, recurses := true, apart := false }
def FrameDetectsSaid : Prop := frameDetectsRow.holds Try.pinned (OpenSpec.ofChange frameDetectsSpec)

/-- ITS FALSE NEIGHBOUR: 'it returns false'. Refute it at one input. -/
def frameDetectsWrong : ChangeSpec := { name := "frameDetects", fn := fun _ => fun
  | [d1, d2, d3, d4] => { results := [.lit (.bool false)], args := [d1, d2, d3, d4] }
  | _ => none }
def FrameDetectsWrongFalsely : Prop := frameDetectsRow.holds Try.pinned (OpenSpec.ofChange frameDetectsWrong)

/-- 'burrowlaw30.FrameEncodes': WHATEVER THE INPUT: true; the input reads as it did. -/
def frameEncodesSpec : ChangeSpec := { name := "frameEncodes", fn := fun _ => fun
  | [d1, d2, d3] => { results := [.lit (.bool true)], args := [d1, d2, d3] }
  | _ => none }
def frameEncodesRow : OpenClaim := { program := "ytjlfblcoghiijaa", sum := "035972a2b1368458ed493632a139ad0919358674c683090d59f6f5f38bda75d9", func := "burrow/burrowlaw30.FrameEncodes", spec := "frameEncodes", unfollowed := true, recurses := true, apart := false }
def FrameEncodesSaid : Prop := frameEncodesRow.holds Try.pinned (OpenSpec.ofChange frameEncodesSpec)

/-- ITS FALSE NEIGHBOUR: 'it returns false'. Refute it at one input. -/
def frameEncodesWrong : ChangeSpec := { name := "frameEncodes", fn := fun _ => fun
  | [d1, d2, d3] => { results := [.lit (.bool false)], args := [d1, d2, d3] }
  | _ => none }
def FrameEncodesWrongFalsely : Prop := frameEncodesRow.holds Try.pinned (OpenSpec.ofChange frameEncodesWrong)

/-- 'burrowlaw30.FrameCarries': WHATEVER THE INPUT: true; the input reads as it did. -/
def frameCarriesSpec : ChangeSpec := { name := "frameCarries", fn := fun _ => fun
  | [d1, d2] => { results := [.lit (.bool true)], args := [d1, d2] }
  | _ => none }
def frameCarriesRow : OpenClaim := { program := "ytjlfblcoghiijaa", sum := "035972a2b1368458ed493632a139ad0919358674c683090d59f6f5f38bda75d9", func := "burrow/burrowlaw30.FrameCarries", spec := "frameCarries", unfollowed := true, recurses := true, apart := false }
def FrameCarriesSaid : Prop := frameCarriesRow.holds Try.pinned (OpenSpec.ofChange frameCarriesSpec)

/-- ITS FALSE NEIGHBOUR: 'it returns false'. Refute it at one input. -/
def frameCarriesWrong : ChangeSpec := { name := "frameCarries", fn := fun _ => fun
  | [d1, d2] => { results := [.lit (.bool false)], args := [d1, d2] }
  | _ => none }
def FrameCarriesWrongFalsely : Prop := frameCarriesRow.holds Try.pinned (OpenSpec.ofChange frameCarriesWrong)

/- THE SECOND FORM. 'bulk': how many values and letters a reading holds, each counted each time it is reached (what is shared counts as often as it is met; a slice's spare places count too). A statement '..UptoSaid' is the law's where the arguments, and the package variables that the reading takes, are together of bulk at most 1048576: NARROWER than '..Said'. Prove '..Said' where nothing that the law and all that it calls make is longer than what came in: it says more and counts as full. Else prove '..UptoSaid'. A law counts once. -/
mutual
def uptoBulk {H : Type} : DataW H → Nat
  | .lit (.string bytes) => bytes.length + 1
  | .lit _ => 1
  | .nil => 1
  | .ptr d => uptoBulk d + 1
  | .slice elems spare => uptoBulkAll elems + uptoBulkAll spare + 1
  | .agg parts => uptoBulkAll parts + 1
  | .iface _ d => uptoBulk d + 1
  | .map entries => uptoBulkEntries entries + 1
  | .held _ => 1
def uptoBulkAll {H : Type} : List (DataW H) → Nat
  | [] => 0
  | d :: r => uptoBulk d + uptoBulkAll r
def uptoBulkEntries {H : Type} : List (Lit × DataW H) → Nat
  | [] => 0
  | x :: r => uptoBulkEntry x + uptoBulkEntries r
def uptoBulkEntry {H : Type} : Lit × DataW H → Nat
  | (.string bytes, d) => bytes.length + uptoBulk d + 1
  | (_, d) => uptoBulk d + 1
 end
def uptoSmall : (H : Type) → List (DataW H) → Bool := fun _ ds => decide (uptoBulkAll ds ≤ 1048576)
def OpenSpec.upto (s : _root_.Go.ChangeSpec) : _root_.Go.OpenSpec := { _root_.Go.OpenSpec.ofChange s with cond := some uptoSmall }

/-- 'burrowlaw30.FrameFeeds', WHERE WHAT IT READS IS OF BULK AT MOST 1048576: true; the input reads as it did. -/
def frameFeedsUptoRow : OpenClaim := { program := "ytjlfblcoghiijaa", sum := "035972a2b1368458ed493632a139ad0919358674c683090d59f6f5f38bda75d9", func := "burrow/burrowlaw30.FrameFeeds", spec := "frameFeeds", unfollowed := true, recurses := true, apart := false, narrowed := true }
def FrameFeedsUptoSaid : Prop := frameFeedsUptoRow.holds Try.pinned (OpenSpec.upto frameFeedsSpec)

/-- 'burrowlaw30.FrameArrives', WHERE WHAT IT READS IS OF BULK AT MOST 1048576: true; the input reads as it did. -/
def frameArrivesUptoRow : OpenClaim := { program := "ytjlfblcoghiijaa", sum := "035972a2b1368458ed493632a139ad0919358674c683090d59f6f5f38bda75d9", func := "burrow/burrowlaw30.FrameArrives", spec := "frameArrives", unfollowed := true, recurses := true, apart := false, narrowed := true }
def FrameArrivesUptoSaid : Prop := frameArrivesUptoRow.holds Try.pinned (OpenSpec.upto frameArrivesSpec)

/-- 'burrowlaw30.FrameDetects', WHERE WHAT IT READS IS OF BULK AT MOST 1048576: true; the input reads as it did. -/
def frameDetectsUptoRow : OpenClaim := { program := "ytjlfblcoghiijaa", sum := "035972a2b1368458ed493632a139ad0919358674c683090d59f6f5f38bda75d9", func := "burrow/burrowlaw30.FrameDetects", spec := "frameDetects", unfollowed := true, recurses := true, apart := false, narrowed := true }
def FrameDetectsUptoSaid : Prop := frameDetectsUptoRow.holds Try.pinned (OpenSpec.upto frameDetectsSpec)

/-- 'burrowlaw30.FrameEncodes', WHERE WHAT IT READS IS OF BULK AT MOST 1048576: true; the input reads as it did. -/
def frameEncodesUptoRow : OpenClaim := { program := "ytjlfblcoghiijaa", sum := "035972a2b1368458ed493632a139ad0919358674c683090d59f6f5f38bda75d9", func := "burrow/burrowlaw30.FrameEncodes", spec := "frameEncodes", unfollowed := true, recurses := true, apart := false, narrowed := true }
def FrameEncodesUptoSaid : Prop := frameEncodesUptoRow.holds Try.pinned (OpenSpec.upto frameEncodesSpec)

/-- 'burrowlaw30.FrameCarries', WHERE WHAT IT READS IS OF BULK AT MOST 1048576: true; the input reads as it did. -/
def frameCarriesUptoRow : OpenClaim := { program := "ytjlfblcoghiijaa", sum := "035972a2b1368458ed493632a139ad0919358674c683090d59f6f5f38bda75d9", func := "burrow/burrowlaw30.FrameCarries", spec := "frameCarries", unfollowed := true, recurses := true, apart := false, narrowed := true }
def FrameCarriesUptoSaid : Prop := frameCarriesUptoRow.holds Try.pinned (OpenSpec.upto frameCarriesSpec)

end Rows
end Go.Proofs.Ytjlfblcoghiijaa
