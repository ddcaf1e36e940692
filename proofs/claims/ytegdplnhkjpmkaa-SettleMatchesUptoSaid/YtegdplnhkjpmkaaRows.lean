/-
  No cell of these rows narrows 'for every input' (looked for: loops, veiled, ifaces, maps, wideKeys, modest, calm, conditions, laid).
  DERIVED. THE GIVEN ROWS OF THIS SEAT. 7 by the template 'for every input the law returns true; each argument reads behind the call as it read before'; 0 by the template 'total and deterministic' (their statements: YtegdplnhkjpmkaaTotals.lean).
  GIVEN WITH THE SEED: the statements are not yours to turn. If you find one false, say at which input.
  Laid BY PROGRAM, IN A SANDBOX (cutbox-rows.mjs): the forced cells as the released guide's own fill.sh prints them over the translation a58016154c2be5d3… (all of the seat's roots in one cut). By AI agents, Wed Nov 11 2026. No macro, syntax, notation, axiom, sorry.
-/
import Derived.Test.YtegdplnhkjpmkaaChecked
import GoSem.Claim
import GoSem.ClaimJoined
import GoSem.ClaimMapViews
import Derived.JoinedTies
import Derived.KernelRfl
namespace Go.Proofs.Ytegdplnhkjpmkaa
/- THE CELL 'sum', in the pinned program and in every row, IS THE sha256 OF THE DUMP (.gsa) THAT YtegdplnhkjpmkaaProg.lean LOADS. Nothing in Lean hashes anything: it is a label: what it is worth is what the hold of that sum in a sandbox is worth. -/
noncomputable def Try.pinned : Pinned := { name := "ytegdplnhkjpmkaa", sum := "a58016154c2be5d37cb5280a00b9cd758ecc51a8cde866833b292c26fb1af043", checked := Try.checked }
namespace Rows
def none {H : Type} : Left H := { results := [], args := [] }

/-- 'pylonlaw36.SettleMatches': WHATEVER THE INPUT: true; the input reads as it did. -/
def settleMatchesSpec : ChangeSpec := { name := "settleMatches", fn := fun _ => fun
  | [d1, d2, d3, d4] => { results := [.lit (.bool true)], args := [d1, d2, d3, d4] }
  | _ => none }
def settleMatchesRow : OpenClaim := { program := "ytegdplnhkjpmkaa", sum := "a58016154c2be5d37cb5280a00b9cd758ecc51a8cde866833b292c26fb1af043", func := "pylon/pylonlaw36.SettleMatches", spec := "settleMatches", unfollowed := true, recurses := true, apart := false }
def SettleMatchesSaid : Prop := settleMatchesRow.holds Try.pinned (OpenSpec.ofChange settleMatchesSpec)

/-- ITS FALSE NEIGHBOUR: 'it returns false'. Refute it at one input. -/
def settleMatchesWrong : ChangeSpec := { name := "settleMatches", fn := fun _ => fun
  | [d1, d2, d3, d4] => { results := [.lit (.bool false)], args := [d1, d2, d3, d4] }
  | _ => none }
def SettleMatchesWrongFalsely : Prop := settleMatchesRow.holds Try.pinned (OpenSpec.ofChange settleMatchesWrong)

/-- 'pylonlaw36.SettleNoDeviation': WHATEVER THE INPUT: true; the input reads as it did. -/
def settleNoDeviationSpec : ChangeSpec := { name := "settleNoDeviation", fn := fun _ => fun
  | [d1, d2, d3, d4] => { results := [.lit (.bool true)], args := [d1, d2, d3, d4] }
  | _ => none }
def settleNoDeviationRow : OpenClaim := { program := "ytegdplnhkjpmkaa", sum := "a58016154c2be5d37cb5280a00b9cd758ecc51a8cde866833b292c26fb1af043", func := "pylon/pylonlaw36.SettleNoDeviation", spec := "settleNoDeviation", unfollowed := true, recurses := true, apart := false }
def SettleNoDeviationSaid : Prop := settleNoDeviationRow.holds Try.pinned (OpenSpec.ofChange settleNoDeviationSpec)

/-- ITS FALSE NEIGHBOUR: 'it returns false'. Refute it at one input. -/
def settleNoDeviationWrong : ChangeSpec := { name := "settleNoDeviation", fn := fun _ => fun
  | [d1, d2, d3, d4] => { results := [.lit (.bool false)], args := [d1, d2, d3, d4] }
  | _ => none }
def SettleNoDeviationWrongFalsely : Prop := settleNoDeviationRow.holds Try.pinned (OpenSpec.ofChange settleNoDeviationWrong)

/-- 'pylonlaw36.SettleSplit': WHATEVER THE INPUT: true; the input reads as it did. -/
def settleSplitSpec : ChangeSpec := { name := "settleSplit", fn := fun _ => fun
  | [d1, d2, d3, d4, d5, d6, d7] => { results := [.lit (.bool true)], args := [d1, d2, d3, d4, d5, d6, d7] }
  | _ => none }
def settleSplitRow : OpenClaim := { program := "ytegdplnhkjpmkaa", sum := "a58016154c2be5d37cb5280a00b9cd758ecc51a8cde866833b292c26fb1af043", func := "pylon/pylonlaw36.SettleSplit", spec := "settleSplit", unfollowed := true, recurses := true, apart := false }
def SettleSplitSaid : Prop := settleSplitRow.holds Try.pinned (OpenSpec.ofChange settleSplitSpec)

/-- ITS FALSE NEIGHBOUR: 'it returns false'. Refute it at one input. -/
def settleSplitWrong : ChangeSpec := { name := "settleSplit", fn := fun _ => fun
  | [d1, d2, d3, d4, d5, d6, d7] => { results := [.lit (.bool false)], args := [d1, d2, d3, d4, d5, d6, d7] }
  | _ => none }
def SettleSplitWrongFalsely : Prop := settleSplitRow.holds Try.pinned (OpenSpec.ofChange settleSplitWrong)

/-- 'pylonlaw36.SettlePriceChange': WHATEVER THE INPUT: true; the input reads as it did. -/
def settlePriceChangeSpec : ChangeSpec := { name := "settlePriceChange", fn := fun _ => fun
  | [d1, d2, d3, d4, d5] => { results := [.lit (.bool true)], args := [d1, d2, d3, d4, d5] }
  | _ => none }
def settlePriceChangeRow : OpenClaim := { program := "ytegdplnhkjpmkaa", sum := "a58016154c2be5d37cb5280a00b9cd758ecc51a8cde866833b292c26fb1af043", func := "pylon/pylonlaw36.SettlePriceChange", spec := "settlePriceChange", unfollowed := true, recurses := true, apart := false }
def SettlePriceChangeSaid : Prop := settlePriceChangeRow.holds Try.pinned (OpenSpec.ofChange settlePriceChangeSpec)

/-- ITS FALSE NEIGHBOUR: 'it returns false'. Refute it at one input. -/
def settlePriceChangeWrong : ChangeSpec := { name := "settlePriceChange", fn := fun _ => fun
  | [d1, d2, d3, d4, d5] => { results := [.lit (.bool false)], args := [d1, d2, d3, d4, d5] }
  | _ => none }
def SettlePriceChangeWrongFalsely : Prop := settlePriceChangeRow.holds Try.pinned (OpenSpec.ofChange settlePriceChangeWrong)

/-- 'pylonlaw36.SettleRents': WHATEVER THE INPUT: true; the input reads as it did. -/
def settleRentsSpec : ChangeSpec := { name := "settleRents", fn := fun _ => fun
  | [d1, d2, d3, d4] => { results := [.lit (.bool true)], args := [d1, d2, d3, d4] }
  | _ => none }
def settleRentsRow : OpenClaim := { program := "ytegdplnhkjpmkaa", sum := "a58016154c2be5d37cb5280a00b9cd758ecc51a8cde866833b292c26fb1af043", func := "pylon/pylonlaw36.SettleRents", spec := "settleRents", unfollowed := true, recurses := true, apart := false }
def SettleRentsSaid : Prop := settleRentsRow.holds Try.pinned (OpenSpec.ofChange settleRentsSpec)

/-- ITS FALSE NEIGHBOUR: 'it returns false'. Refute it at one input. -/
def settleRentsWrong : ChangeSpec := { name := "settleRents", fn := fun _ => fun
  | [d1, d2, d3, d4] => { results := [.lit (.bool false)], args := [d1, d2, d3, d4] }
  | _ => none }
def SettleRentsWrongFalsely : Prop := settleRentsRow.holds Try.pinned (OpenSpec.ofChange settleRentsWrong)

/-- 'pylonlaw36.SettleExamples': WHATEVER THE INPUT: true; the input reads as it did. -/
def settleExamplesSpec : ChangeSpec := { name := "settleExamples", fn := fun _ => fun
  | [] => { results := [.lit (.bool true)], args := [] }
  | _ => none }
def settleExamplesRow : OpenClaim := { program := "ytegdplnhkjpmkaa", sum := "a58016154c2be5d37cb5280a00b9cd758ecc51a8cde866833b292c26fb1af043", func := "pylon/pylonlaw36.SettleExamples", spec := "settleExamples", unfollowed := true, recurses := true, apart := false }
def SettleExamplesSaid : Prop := settleExamplesRow.holds Try.pinned (OpenSpec.ofChange settleExamplesSpec)

/-- ITS FALSE NEIGHBOUR: 'it returns false'. Refute it at one input. -/
def settleExamplesWrong : ChangeSpec := { name := "settleExamples", fn := fun _ => fun
  | [] => { results := [.lit (.bool false)], args := [] }
  | _ => none }
def SettleExamplesWrongFalsely : Prop := settleExamplesRow.holds Try.pinned (OpenSpec.ofChange settleExamplesWrong)

/-- 'pylonlaw36.SettleDays': WHATEVER THE INPUT: true; the input reads as it did. -/
def settleDaysSpec : ChangeSpec := { name := "settleDays", fn := fun _ => fun
  | [d1, d2, d3, d4] => { results := [.lit (.bool true)], args := [d1, d2, d3, d4] }
  | _ => none }
def settleDaysRow : OpenClaim := { program := "ytegdplnhkjpmkaa", sum := "a58016154c2be5d37cb5280a00b9cd758ecc51a8cde866833b292c26fb1af043", func := "pylon/pylonlaw36.SettleDays", spec := "settleDays", unfollowed := true, recurses := true, apart := false }
def SettleDaysSaid : Prop := settleDaysRow.holds Try.pinned (OpenSpec.ofChange settleDaysSpec)

/-- ITS FALSE NEIGHBOUR: 'it returns false'. Refute it at one input. -/
def settleDaysWrong : ChangeSpec := { name := "settleDays", fn := fun _ => fun
  | [d1, d2, d3, d4] => { results := [.lit (.bool false)], args := [d1, d2, d3, d4] }
  | _ => none }
def SettleDaysWrongFalsely : Prop := settleDaysRow.holds Try.pinned (OpenSpec.ofChange settleDaysWrong)

/- THE SECOND FORM. 'bulk': how many values and letters a reading holds, each counted each time it is reached (what is shared counts as often as it is met; a slice's spare places count too). A statement '..UptoSaid' is the law's where the arguments, and the package variables that the reading takes, are together of bulk at most 1048576: NARROWER than '..Said'. Prove '..Said' where nothing that the law and all that it calls make is longer than what came in: it says more and counts as full. Else prove '..UptoSaid'. A law counts once. -/
mutual
def uptoBulk {H : Type} : DataW H → Nat
  | .lit (.string bytes) => bytes.length + 1
  | .lit _ => 1
  | .nil => 1
  | .ptr d => uptoBulk d + 1
  | .slice elems spare => uptoBulkAll elems + uptoBulkAll spare + 1
  | .agg parts => uptoBulkAll parts + 1
  | .iface _ d => uptoBulk d + 1
  | .map entries => uptoBulkEntries entries + 1
  | .held _ => 1
def uptoBulkAll {H : Type} : List (DataW H) → Nat
  | [] => 0
  | d :: r => uptoBulk d + uptoBulkAll r
def uptoBulkEntries {H : Type} : List (Lit × DataW H) → Nat
  | [] => 0
  | x :: r => uptoBulkEntry x + uptoBulkEntries r
def uptoBulkEntry {H : Type} : Lit × DataW H → Nat
  | (.string bytes, d) => bytes.length + uptoBulk d + 1
  | (_, d) => uptoBulk d + 1
 end
def uptoSmall : (H : Type) → List (DataW H) → Bool := fun _ ds => decide (uptoBulkAll ds ≤ 1048576)
def OpenSpec.upto (s : _root_.Go.ChangeSpec) : _root_.Go.OpenSpec := { _root_.Go.OpenSpec.ofChange s with cond := some uptoSmall }

/-- 'pylonlaw36.SettleMatches', WHERE WHAT IT READS IS OF BULK AT MOST 1048576: true; the input reads as it did. -/
def settleMatchesUptoRow : OpenClaim := { program := "ytegdplnhkjpmkaa", sum := "a58016154c2be5d37cb5280a00b9cd758ecc51a8cde866833b292c26fb1af043", func := "pylon/pylonlaw36.SettleMatches", spec := "settleMatches", unfollowed := true, recurses := true, apart := false, narrowed := true }
def SettleMatchesUptoSaid : Prop := settleMatchesUptoRow.holds Try.pinned (OpenSpec.upto settleMatchesSpec)

/-- 'pylonlaw36.SettleNoDeviation', WHERE WHAT IT READS IS OF BULK AT MOST 1048576: true; the input reads as it did. -/
def settleNoDeviationUptoRow : OpenClaim := { program := "ytegdplnhkjpmkaa", sum := "a58016154c2be5d37cb5280a00b9cd758ecc51a8cde866833b292c26fb1af043", func := "pylon/pylonlaw36.SettleNoDeviation", spec := "settleNoDeviation", unfollowed := true, recurses := true, apart := false, narrowed := true }
def SettleNoDeviationUptoSaid : Prop := settleNoDeviationUptoRow.holds Try.pinned (OpenSpec.upto settleNoDeviationSpec)

/-- 'pylonlaw36.SettleSplit', WHERE WHAT IT READS IS OF BULK AT MOST 1048576: true; the input reads as it did. -/
def settleSplitUptoRow : OpenClaim := { program := "ytegdplnhkjpmkaa", sum := "a58016154c2be5d37cb5280a00b9cd758ecc51a8cde866833b292c26fb1af043", func := "pylon/pylonlaw36.SettleSplit", spec := "settleSplit", unfollowed := true, recurses := true, apart := false, narrowed := true }
def SettleSplitUptoSaid : Prop := settleSplitUptoRow.holds Try.pinned (OpenSpec.upto settleSplitSpec)

/-- 'pylonlaw36.SettlePriceChange', WHERE WHAT IT READS IS OF BULK AT MOST 1048576: true; the input reads as it did. -/
def settlePriceChangeUptoRow : OpenClaim := { program := "ytegdplnhkjpmkaa", sum := "a58016154c2be5d37cb5280a00b9cd758ecc51a8cde866833b292c26fb1af043", func := "pylon/pylonlaw36.SettlePriceChange", spec := "settlePriceChange", unfollowed := true, recurses := true, apart := false, narrowed := true }
def SettlePriceChangeUptoSaid : Prop := settlePriceChangeUptoRow.holds Try.pinned (OpenSpec.upto settlePriceChangeSpec)

/-- 'pylonlaw36.SettleRents', WHERE WHAT IT READS IS OF BULK AT MOST 1048576: true; the input reads as it did. -/
def settleRentsUptoRow : OpenClaim := { program := "ytegdplnhkjpmkaa", sum := "a58016154c2be5d37cb5280a00b9cd758ecc51a8cde866833b292c26fb1af043", func := "pylon/pylonlaw36.SettleRents", spec := "settleRents", unfollowed := true, recurses := true, apart := false, narrowed := true }
def SettleRentsUptoSaid : Prop := settleRentsUptoRow.holds Try.pinned (OpenSpec.upto settleRentsSpec)

/-- 'pylonlaw36.SettleExamples', WHERE WHAT IT READS IS OF BULK AT MOST 1048576: true; the input reads as it did. -/
def settleExamplesUptoRow : OpenClaim := { program := "ytegdplnhkjpmkaa", sum := "a58016154c2be5d37cb5280a00b9cd758ecc51a8cde866833b292c26fb1af043", func := "pylon/pylonlaw36.SettleExamples", spec := "settleExamples", unfollowed := true, recurses := true, apart := false, narrowed := true }
def SettleExamplesUptoSaid : Prop := settleExamplesUptoRow.holds Try.pinned (OpenSpec.upto settleExamplesSpec)

/-- 'pylonlaw36.SettleDays', WHERE WHAT IT READS IS OF BULK AT MOST 1048576: true; the input reads as it did. -/
def settleDaysUptoRow : OpenClaim := { program := "ytegdplnhkjpmkaa", sum := "a58016154c2be5d37cb5280a00b9cd758ecc51a8cde866833b292c26fb1af043", func := "pylon/pylonlaw36.SettleDays", spec := "settleDays", unfollowed := true, recurses := true, apart := false, narrowed := true }
def SettleDaysUptoSaid : Prop := settleDaysUptoRow.holds Try.pinned (OpenSpec.upto settleDaysSpec)

end Rows
end Go.Proofs.Ytegdplnhkjpmkaa
