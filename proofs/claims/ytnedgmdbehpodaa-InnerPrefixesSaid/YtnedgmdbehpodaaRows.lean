/-
  No cell of these rows narrows 'for every input' (looked for: loops, veiled, ifaces, maps, wideKeys, modest, calm, conditions, laid).
  DERIVED. THE GIVEN ROWS OF THIS SEAT. 12 by the template 'for every input the law returns true; each argument reads behind the call as it read before'; 0 by the template 'total and deterministic' (their statements: YtnedgmdbehpodaaTotals.lean).
  GIVEN WITH THE SEED: the statements are not yours to turn. If you find one false, say at which input.
  Laid BY PROGRAM, IN A SANDBOX (cutbox-rows.mjs): the forced cells as the released guide's own fill.sh prints them over the translation a508171b351ee013… (all of the seat's roots in one cut). By AI agents, Wed Nov 11 2026. No macro, syntax, notation, axiom, sorry.
-/
import Derived.Test.YtnedgmdbehpodaaChecked
import GoSem.Claim
import GoSem.ClaimJoined
import GoSem.ClaimMapViews
import Derived.JoinedTies
import Derived.KernelRfl
namespace Go.Proofs.Ytnedgmdbehpodaa
/- THE CELL 'sum', in the pinned program and in every row, IS THE sha256 OF THE DUMP (.gsa) THAT YtnedgmdbehpodaaProg.lean LOADS. Nothing in Lean hashes anything: it is a label: what it is worth is what the hold of that sum in a sandbox is worth. -/
noncomputable def Try.pinned : Pinned := { name := "ytnedgmdbehpodaa", sum := "a508171b351ee01366277e864ba5c2376311a359aedcce8057da52bb3d1a19fd", checked := Try.checked }
namespace Rows
def none {H : Type} : Left H := { results := [], args := [] }

/-- 'burrowlaw09.TaiAfter': WHATEVER THE INPUT: true; the input reads as it did. -/
def taiAfterSpec : ChangeSpec := { name := "taiAfter", fn := fun _ => fun
  | [d1, d2, d3] => { results := [.lit (.bool true)], args := [d1, d2, d3] }
  | _ => none }
def taiAfterRow : OpenClaim := { program := "ytnedgmdbehpodaa", sum := "a508171b351ee01366277e864ba5c2376311a359aedcce8057da52bb3d1a19fd", func := "burrow/burrowlaw09.TaiAfter", spec := "taiAfter", apart := false }
def TaiAfterSaid : Prop := taiAfterRow.holds Try.pinned (OpenSpec.ofChange taiAfterSpec)

/-- ITS FALSE NEIGHBOUR: 'it returns false'. Refute it at one input. -/
def taiAfterWrong : ChangeSpec := { name := "taiAfter", fn := fun _ => fun
  | [d1, d2, d3] => { results := [.lit (.bool false)], args := [d1, d2, d3] }
  | _ => none }
def TaiAfterWrongFalsely : Prop := taiAfterRow.holds Try.pinned (OpenSpec.ofChange taiAfterWrong)

/-- 'burrowlaw09.TaiStamps': WHATEVER THE INPUT: true; the input reads as it did. -/
def taiStampsSpec : ChangeSpec := { name := "taiStamps", fn := fun _ => fun
  | [d1, d2, d3, d4] => { results := [.lit (.bool true)], args := [d1, d2, d3, d4] }
  | _ => none }
def taiStampsRow : OpenClaim := { program := "ytnedgmdbehpodaa", sum := "a508171b351ee01366277e864ba5c2376311a359aedcce8057da52bb3d1a19fd", func := "burrow/burrowlaw09.TaiStamps", spec := "taiStamps", apart := false }
def TaiStampsSaid : Prop := taiStampsRow.holds Try.pinned (OpenSpec.ofChange taiStampsSpec)

/-- ITS FALSE NEIGHBOUR: 'it returns false'. Refute it at one input. -/
def taiStampsWrong : ChangeSpec := { name := "taiStamps", fn := fun _ => fun
  | [d1, d2, d3, d4] => { results := [.lit (.bool false)], args := [d1, d2, d3, d4] }
  | _ => none }
def TaiStampsWrongFalsely : Prop := taiStampsRow.holds Try.pinned (OpenSpec.ofChange taiStampsWrong)

/-- 'burrowlaw09.TaiOrders': WHATEVER THE INPUT: true; the input reads as it did. -/
def taiOrdersSpec : ChangeSpec := { name := "taiOrders", fn := fun _ => fun
  | [d1, d2, d3] => { results := [.lit (.bool true)], args := [d1, d2, d3] }
  | _ => none }
def taiOrdersRow : OpenClaim := { program := "ytnedgmdbehpodaa", sum := "a508171b351ee01366277e864ba5c2376311a359aedcce8057da52bb3d1a19fd", func := "burrow/burrowlaw09.TaiOrders", spec := "taiOrders", apart := false }
def TaiOrdersSaid : Prop := taiOrdersRow.holds Try.pinned (OpenSpec.ofChange taiOrdersSpec)

/-- ITS FALSE NEIGHBOUR: 'it returns false'. Refute it at one input. -/
def taiOrdersWrong : ChangeSpec := { name := "taiOrders", fn := fun _ => fun
  | [d1, d2, d3] => { results := [.lit (.bool false)], args := [d1, d2, d3] }
  | _ => none }
def TaiOrdersWrongFalsely : Prop := taiOrdersRow.holds Try.pinned (OpenSpec.ofChange taiOrdersWrong)

/-- 'burrowlaw01.CodecNumbers': WHATEVER THE INPUT: true; the input reads as it did. -/
def codecNumbersSpec : ChangeSpec := { name := "codecNumbers", fn := fun _ => fun
  | [d1, d2, d3] => { results := [.lit (.bool true)], args := [d1, d2, d3] }
  | _ => none }
def codecNumbersRow : OpenClaim := { program := "ytnedgmdbehpodaa", sum := "a508171b351ee01366277e864ba5c2376311a359aedcce8057da52bb3d1a19fd", func := "burrow/burrowlaw01.CodecNumbers", spec := "codecNumbers", apart := false }
def CodecNumbersSaid : Prop := codecNumbersRow.holds Try.pinned (OpenSpec.ofChange codecNumbersSpec)

/-- ITS FALSE NEIGHBOUR: 'it returns false'. Refute it at one input. -/
def codecNumbersWrong : ChangeSpec := { name := "codecNumbers", fn := fun _ => fun
  | [d1, d2, d3] => { results := [.lit (.bool false)], args := [d1, d2, d3] }
  | _ => none }
def CodecNumbersWrongFalsely : Prop := codecNumbersRow.holds Try.pinned (OpenSpec.ofChange codecNumbersWrong)

/-- 'burrowlaw01.CodecReturns': WHATEVER THE INPUT: true; the input reads as it did. -/
def codecReturnsSpec : ChangeSpec := { name := "codecReturns", fn := fun _ => fun
  | [d1, d2] => { results := [.lit (.bool true)], args := [d1, d2] }
  | _ => none }
def codecReturnsRow : OpenClaim := { program := "ytnedgmdbehpodaa", sum := "a508171b351ee01366277e864ba5c2376311a359aedcce8057da52bb3d1a19fd", func := "burrow/burrowlaw01.CodecReturns", spec := "codecReturns", apart := false }
def CodecReturnsSaid : Prop := codecReturnsRow.holds Try.pinned (OpenSpec.ofChange codecReturnsSpec)

/-- ITS FALSE NEIGHBOUR: 'it returns false'. Refute it at one input. -/
def codecReturnsWrong : ChangeSpec := { name := "codecReturns", fn := fun _ => fun
  | [d1, d2] => { results := [.lit (.bool false)], args := [d1, d2] }
  | _ => none }
def CodecReturnsWrongFalsely : Prop := codecReturnsRow.holds Try.pinned (OpenSpec.ofChange codecReturnsWrong)

/-- 'burrowlaw01.CodecEqual': WHATEVER THE INPUT: true; the input reads as it did. -/
def codecEqualSpec : ChangeSpec := { name := "codecEqual", fn := fun _ => fun
  | [d1, d2, d3, d4] => { results := [.lit (.bool true)], args := [d1, d2, d3, d4] }
  | _ => none }
def codecEqualRow : OpenClaim := { program := "ytnedgmdbehpodaa", sum := "a508171b351ee01366277e864ba5c2376311a359aedcce8057da52bb3d1a19fd", func := "burrow/burrowlaw01.CodecEqual", spec := "codecEqual", apart := false }
def CodecEqualSaid : Prop := codecEqualRow.holds Try.pinned (OpenSpec.ofChange codecEqualSpec)

/-- ITS FALSE NEIGHBOUR: 'it returns false'. Refute it at one input. -/
def codecEqualWrong : ChangeSpec := { name := "codecEqual", fn := fun _ => fun
  | [d1, d2, d3, d4] => { results := [.lit (.bool false)], args := [d1, d2, d3, d4] }
  | _ => none }
def CodecEqualWrongFalsely : Prop := codecEqualRow.holds Try.pinned (OpenSpec.ofChange codecEqualWrong)

/-- 'burrowlaw10.InnerChecks': WHATEVER THE INPUT: true; the input reads as it did. -/
def innerChecksSpec : ChangeSpec := { name := "innerChecks", fn := fun _ => fun
  | [d1, d2, d3, d4, d5, d6] => { results := [.lit (.bool true)], args := [d1, d2, d3, d4, d5, d6] }
  | _ => none }
def innerChecksRow : OpenClaim := { program := "ytnedgmdbehpodaa", sum := "a508171b351ee01366277e864ba5c2376311a359aedcce8057da52bb3d1a19fd", func := "burrow/burrowlaw10.InnerChecks", spec := "innerChecks", apart := false }
def InnerChecksSaid : Prop := innerChecksRow.holds Try.pinned (OpenSpec.ofChange innerChecksSpec)

/-- ITS FALSE NEIGHBOUR: 'it returns false'. Refute it at one input. -/
def innerChecksWrong : ChangeSpec := { name := "innerChecks", fn := fun _ => fun
  | [d1, d2, d3, d4, d5, d6] => { results := [.lit (.bool false)], args := [d1, d2, d3, d4, d5, d6] }
  | _ => none }
def InnerChecksWrongFalsely : Prop := innerChecksRow.holds Try.pinned (OpenSpec.ofChange innerChecksWrong)

/-- 'burrowlaw10.InnerReturns': WHATEVER THE INPUT: true; the input reads as it did. -/
def innerReturnsSpec : ChangeSpec := { name := "innerReturns", fn := fun _ => fun
  | [d1, d2, d3] => { results := [.lit (.bool true)], args := [d1, d2, d3] }
  | _ => none }
def innerReturnsRow : OpenClaim := { program := "ytnedgmdbehpodaa", sum := "a508171b351ee01366277e864ba5c2376311a359aedcce8057da52bb3d1a19fd", func := "burrow/burrowlaw10.InnerReturns", spec := "innerReturns", apart := false }
def InnerReturnsSaid : Prop := innerReturnsRow.holds Try.pinned (OpenSpec.ofChange innerReturnsSpec)

/-- ITS FALSE NEIGHBOUR: 'it returns false'. Refute it at one input. -/
def innerReturnsWrong : ChangeSpec := { name := "innerReturns", fn := fun _ => fun
  | [d1, d2, d3] => { results := [.lit (.bool false)], args := [d1, d2, d3] }
  | _ => none }
def InnerReturnsWrongFalsely : Prop := innerReturnsRow.holds Try.pinned (OpenSpec.ofChange innerReturnsWrong)

/-- 'burrowlaw10.InnerNests': WHATEVER THE INPUT: true; the input reads as it did. -/
def innerNestsSpec : ChangeSpec := { name := "innerNests", fn := fun _ => fun
  | [d1, d2, d3, d4] => { results := [.lit (.bool true)], args := [d1, d2, d3, d4] }
  | _ => none }
def innerNestsRow : OpenClaim := { program := "ytnedgmdbehpodaa", sum := "a508171b351ee01366277e864ba5c2376311a359aedcce8057da52bb3d1a19fd", func := "burrow/burrowlaw10.InnerNests", spec := "innerNests", apart := false }
def InnerNestsSaid : Prop := innerNestsRow.holds Try.pinned (OpenSpec.ofChange innerNestsSpec)

/-- ITS FALSE NEIGHBOUR: 'it returns false'. Refute it at one input. -/
def innerNestsWrong : ChangeSpec := { name := "innerNests", fn := fun _ => fun
  | [d1, d2, d3, d4] => { results := [.lit (.bool false)], args := [d1, d2, d3, d4] }
  | _ => none }
def InnerNestsWrongFalsely : Prop := innerNestsRow.holds Try.pinned (OpenSpec.ofChange innerNestsWrong)

/-- 'burrowlaw10.InnerPrefixes': WHATEVER THE INPUT: true; the input reads as it did. -/
def innerPrefixesSpec : ChangeSpec := { name := "innerPrefixes", fn := fun _ => fun
  | [d1, d2, d3, d4, d5] => { results := [.lit (.bool true)], args := [d1, d2, d3, d4, d5] }
  | _ => none }
def innerPrefixesRow : OpenClaim := { program := "ytnedgmdbehpodaa", sum := "a508171b351ee01366277e864ba5c2376311a359aedcce8057da52bb3d1a19fd", func := "burrow/burrowlaw10.InnerPrefixes", spec := "innerPrefixes", inPlace := ["internal/bytealg.Compare"], apart := false }
def InnerPrefixesSaid : Prop := innerPrefixesRow.holds Try.pinned (OpenSpec.ofChange innerPrefixesSpec)

/-- ITS FALSE NEIGHBOUR: 'it returns false'. Refute it at one input. -/
def innerPrefixesWrong : ChangeSpec := { name := "innerPrefixes", fn := fun _ => fun
  | [d1, d2, d3, d4, d5] => { results := [.lit (.bool false)], args := [d1, d2, d3, d4, d5] }
  | _ => none }
def InnerPrefixesWrongFalsely : Prop := innerPrefixesRow.holds Try.pinned (OpenSpec.ofChange innerPrefixesWrong)

/-- 'burrowlaw01.CodecTexts': WHATEVER THE INPUT: true; the input reads as it did. -/
def codecTextsSpec : ChangeSpec := { name := "codecTexts", fn := fun _ => fun
  | [d1, d2, d3, d4, d5] => { results := [.lit (.bool true)], args := [d1, d2, d3, d4, d5] }
  | _ => none }
def codecTextsRow : OpenClaim := { program := "ytnedgmdbehpodaa", sum := "a508171b351ee01366277e864ba5c2376311a359aedcce8057da52bb3d1a19fd", func := "burrow/burrowlaw01.CodecTexts", spec := "codecTexts", apart := false }
def CodecTextsSaid : Prop := codecTextsRow.holds Try.pinned (OpenSpec.ofChange codecTextsSpec)

/-- ITS FALSE NEIGHBOUR: 'it returns false'. Refute it at one input. -/
def codecTextsWrong : ChangeSpec := { name := "codecTexts", fn := fun _ => fun
  | [d1, d2, d3, d4, d5] => { results := [.lit (.bool false)], args := [d1, d2, d3, d4, d5] }
  | _ => none }
def CodecTextsWrongFalsely : Prop := codecTextsRow.holds Try.pinned (OpenSpec.ofChange codecTextsWrong)

/-- 'burrowlaw01.CodecTextsReturn': WHATEVER THE INPUT: true; the input reads as it did. -/
def codecTextsReturnSpec : ChangeSpec := { name := "codecTextsReturn", fn := fun _ => fun
  | [d1, d2, d3, d4] => { results := [.lit (.bool true)], args := [d1, d2, d3, d4] }
  | _ => none }
def codecTextsReturnRow : OpenClaim := { program := "ytnedgmdbehpodaa", sum := "a508171b351ee01366277e864ba5c2376311a359aedcce8057da52bb3d1a19fd", func := "burrow/burrowlaw01.CodecTextsReturn", spec := "codecTextsReturn", apart := false }
def CodecTextsReturnSaid : Prop := codecTextsReturnRow.holds Try.pinned (OpenSpec.ofChange codecTextsReturnSpec)

/-- ITS FALSE NEIGHBOUR: 'it returns false'. Refute it at one input. -/
def codecTextsReturnWrong : ChangeSpec := { name := "codecTextsReturn", fn := fun _ => fun
  | [d1, d2, d3, d4] => { results := [.lit (.bool false)], args := [d1, d2, d3, d4] }
  | _ => none }
def CodecTextsReturnWrongFalsely : Prop := codecTextsReturnRow.holds Try.pinned (OpenSpec.ofChange codecTextsReturnWrong)

/- THE SECOND FORM. 'bulk': how many values and letters a reading holds, each counted each time it is reached (what is shared counts as often as it is met; a slice's spare places count too). A statement '..UptoSaid' is the law's where the arguments, and the package variables that the reading takes, are together of bulk at most 1048576: NARROWER than '..Said'. Prove '..Said' where nothing that the law and all that it calls make is longer than what came in: it says more and counts as full. Else prove '..UptoSaid'. A law counts once. -/
mutual
def uptoBulk {H : Type} : DataW H → Nat
  | .lit (.string bytes) => bytes.length + 1
  | .lit _ => 1
  | .nil => 1
  | .ptr d => uptoBulk d + 1
  | .slice elems spare => uptoBulkAll elems + uptoBulkAll spare + 1
  | .agg parts => uptoBulkAll parts + 1
  | .iface _ d => uptoBulk d + 1
  | .map entries => uptoBulkEntries entries + 1
  | .held _ => 1
def uptoBulkAll {H : Type} : List (DataW H) → Nat
  | [] => 0
  | d :: r => uptoBulk d + uptoBulkAll r
def uptoBulkEntries {H : Type} : List (Lit × DataW H) → Nat
  | [] => 0
  | x :: r => uptoBulkEntry x + uptoBulkEntries r
def uptoBulkEntry {H : Type} : Lit × DataW H → Nat
  | (.string bytes, d) => bytes.length + uptoBulk d + 1
  | (_, d) => uptoBulk d + 1
 end
def uptoSmall : (H : Type) → List (DataW H) → Bool := fun _ ds => decide (uptoBulkAll ds ≤ 1048576)
def OpenSpec.upto (s : _root_.Go.ChangeSpec) : _root_.Go.OpenSpec := { _root_.Go.OpenSpec.ofChange s with cond := some uptoSmall }

/-- 'burrowlaw09.TaiAfter', WHERE WHAT IT READS IS OF BULK AT MOST 1048576: true; the input reads as it did. -/
def taiAfterUptoRow : OpenClaim := { program := "ytnedgmdbehpodaa", sum := "a508171b351ee01366277e864ba5c2376311a359aedcce8057da52bb3d1a19fd", func := "burrow/burrowlaw09.TaiAfter", spec := "taiAfter", apart := false, narrowed := true }
def TaiAfterUptoSaid : Prop := taiAfterUptoRow.holds Try.pinned (OpenSpec.upto taiAfterSpec)

/-- 'burrowlaw09.TaiStamps', WHERE WHAT IT READS IS OF BULK AT MOST 1048576: true; the input reads as it did. -/
def taiStampsUptoRow : OpenClaim := { program := "ytnedgmdbehpodaa", sum := "a508171b351ee01366277e864ba5c2376311a359aedcce8057da52bb3d1a19fd", func := "burrow/burrowlaw09.TaiStamps", spec := "taiStamps", apart := false, narrowed := true }
def TaiStampsUptoSaid : Prop := taiStampsUptoRow.holds Try.pinned (OpenSpec.upto taiStampsSpec)

/-- 'burrowlaw09.TaiOrders', WHERE WHAT IT READS IS OF BULK AT MOST 1048576: true; the input reads as it did. -/
def taiOrdersUptoRow : OpenClaim := { program := "ytnedgmdbehpodaa", sum := "a508171b351ee01366277e864ba5c2376311a359aedcce8057da52bb3d1a19fd", func := "burrow/burrowlaw09.TaiOrders", spec := "taiOrders", apart := false, narrowed := true }
def TaiOrdersUptoSaid : Prop := taiOrdersUptoRow.holds Try.pinned (OpenSpec.upto taiOrdersSpec)

/-- 'burrowlaw01.CodecNumbers', WHERE WHAT IT READS IS OF BULK AT MOST 1048576: true; the input reads as it did. -/
def codecNumbersUptoRow : OpenClaim := { program := "ytnedgmdbehpodaa", sum := "a508171b351ee01366277e864ba5c2376311a359aedcce8057da52bb3d1a19fd", func := "burrow/burrowlaw01.CodecNumbers", spec := "codecNumbers", apart := false, narrowed := true }
def CodecNumbersUptoSaid : Prop := codecNumbersUptoRow.holds Try.pinned (OpenSpec.upto codecNumbersSpec)

/-- 'burrowlaw01.CodecReturns', WHERE WHAT IT READS IS OF BULK AT MOST 1048576: true; the input reads as it did. -/
def codecReturnsUptoRow : OpenClaim := { program := "ytnedgmdbehpodaa", sum := "a508171b351ee01366277e864ba5c2376311a359aedcce8057da52bb3d1a19fd", func := "burrow/burrowlaw01.CodecReturns", spec := "codecReturns", apart := false, narrowed := true }
def CodecReturnsUptoSaid : Prop := codecReturnsUptoRow.holds Try.pinned (OpenSpec.upto codecReturnsSpec)

/-- 'burrowlaw01.CodecEqual', WHERE WHAT IT READS IS OF BULK AT MOST 1048576: true; the input reads as it did. -/
def codecEqualUptoRow : OpenClaim := { program := "ytnedgmdbehpodaa", sum := "a508171b351ee01366277e864ba5c2376311a359aedcce8057da52bb3d1a19fd", func := "burrow/burrowlaw01.CodecEqual", spec := "codecEqual", apart := false, narrowed := true }
def CodecEqualUptoSaid : Prop := codecEqualUptoRow.holds Try.pinned (OpenSpec.upto codecEqualSpec)

/-- 'burrowlaw10.InnerChecks', WHERE WHAT IT READS IS OF BULK AT MOST 1048576: true; the input reads as it did. -/
def innerChecksUptoRow : OpenClaim := { program := "ytnedgmdbehpodaa", sum := "a508171b351ee01366277e864ba5c2376311a359aedcce8057da52bb3d1a19fd", func := "burrow/burrowlaw10.InnerChecks", spec := "innerChecks", apart := false, narrowed := true }
def InnerChecksUptoSaid : Prop := innerChecksUptoRow.holds Try.pinned (OpenSpec.upto innerChecksSpec)

/-- 'burrowlaw10.InnerReturns', WHERE WHAT IT READS IS OF BULK AT MOST 1048576: true; the input reads as it did. -/
def innerReturnsUptoRow : OpenClaim := { program := "ytnedgmdbehpodaa", sum := "a508171b351ee01366277e864ba5c2376311a359aedcce8057da52bb3d1a19fd", func := "burrow/burrowlaw10.InnerReturns", spec := "innerReturns", apart := false, narrowed := true }
def InnerReturnsUptoSaid : Prop := innerReturnsUptoRow.holds Try.pinned (OpenSpec.upto innerReturnsSpec)

/-- 'burrowlaw10.InnerNests', WHERE WHAT IT READS IS OF BULK AT MOST 1048576: true; the input reads as it did. -/
def innerNestsUptoRow : OpenClaim := { program := "ytnedgmdbehpodaa", sum := "a508171b351ee01366277e864ba5c2376311a359aedcce8057da52bb3d1a19fd", func := "burrow/burrowlaw10.InnerNests", spec := "innerNests", apart := false, narrowed := true }
def InnerNestsUptoSaid : Prop := innerNestsUptoRow.holds Try.pinned (OpenSpec.upto innerNestsSpec)

/-- 'burrowlaw10.InnerPrefixes', WHERE WHAT IT READS IS OF BULK AT MOST 1048576: true; the input reads as it did. -/
def innerPrefixesUptoRow : OpenClaim := { program := "ytnedgmdbehpodaa", sum := "a508171b351ee01366277e864ba5c2376311a359aedcce8057da52bb3d1a19fd", func := "burrow/burrowlaw10.InnerPrefixes", spec := "innerPrefixes", inPlace := ["internal/bytealg.Compare"], apart := false, narrowed := true }
def InnerPrefixesUptoSaid : Prop := innerPrefixesUptoRow.holds Try.pinned (OpenSpec.upto innerPrefixesSpec)

/-- 'burrowlaw01.CodecTexts', WHERE WHAT IT READS IS OF BULK AT MOST 1048576: true; the input reads as it did. -/
def codecTextsUptoRow : OpenClaim := { program := "ytnedgmdbehpodaa", sum := "a508171b351ee01366277e864ba5c2376311a359aedcce8057da52bb3d1a19fd", func := "burrow/burrowlaw01.CodecTexts", spec := "codecTexts", apart := false, narrowed := true }
def CodecTextsUptoSaid : Prop := codecTextsUptoRow.holds Try.pinned (OpenSpec.upto codecTextsSpec)

/-- 'burrowlaw01.CodecTextsReturn', WHERE WHAT IT READS IS OF BULK AT MOST 1048576: true; the input reads as it did. -/
def codecTextsReturnUptoRow : OpenClaim := { program := "ytnedgmdbehpodaa", sum := "a508171b351ee01366277e864ba5c2376311a359aedcce8057da52bb3d1a19fd", func := "burrow/burrowlaw01.CodecTextsReturn", spec := "codecTextsReturn", apart := false, narrowed := true }
def CodecTextsReturnUptoSaid : Prop := codecTextsReturnUptoRow.holds Try.pinned (OpenSpec.upto codecTextsReturnSpec)

end Rows
end Go.Proofs.Ytnedgmdbehpodaa
