/-
  No cell of these rows narrows 'for every input' (looked for: loops, veiled, ifaces, maps, wideKeys, modest, calm, conditions, laid).
  DERIVED. THE GIVEN ROWS OF THIS SEAT. 6 by the template 'for every input the law returns true; each argument reads behind the call as it read before'; 0 by the template 'total and deterministic' (their statements: YtmiflmkdaeianaaTotals.lean).
  GIVEN WITH THE SEED: the statements are not yours to turn. If you find one false, say at which input.
  Laid BY PROGRAM, IN A SANDBOX (cutbox-rows.mjs): the forced cells as the released guide's own fill.sh prints them over the translation 7f11a4751d0570e3… (all of the seat's roots in one cut). By AI agents, Wed Nov 11 2026. No macro, syntax, notation, axiom, sorry.
-/
import Derived.Test.YtmiflmkdaeianaaChecked
import GoSem.Claim
import GoSem.ClaimJoined
import GoSem.ClaimMapViews
import Derived.JoinedTies
import Derived.KernelRfl
namespace Go.Proofs.Ytmiflmkdaeianaa
/- THE CELL 'sum', in the pinned program and in every row, IS THE sha256 OF THE DUMP (.gsa) THAT YtmiflmkdaeianaaProg.lean LOADS. Nothing in Lean hashes anything: it is a label: what it is worth is what the hold of that sum in a sandbox is worth. -/
noncomputable def Try.pinned : Pinned := { name := "ytmiflmkdaeianaa", sum := "7f11a4751d0570e36dcc71f5774ad0ef321f87eb41cd6bfd05a1b3446c900c98", checked := Try.checked }
namespace Rows
def none {H : Type} : Left H := { results := [], args := [] }

/-- 'pylonlaw39.BookRounds': WHATEVER THE INPUT: true; the input reads as it did. -/
def bookRoundsSpec : ChangeSpec := { name := "bookRounds", fn := fun _ => fun
  | [d] => { results := [.lit (.bool true)], args := [d] }
  | _ => none }
def bookRoundsRow : OpenClaim := { program := "ytmiflmkdaeianaa", sum := "7f11a4751d0570e36dcc71f5774ad0ef321f87eb41cd6bfd05a1b3446c900c98", func := "pylon/pylonlaw39.BookRounds", spec := "bookRounds", unfollowed := true, recurses := true, apart := false }
def BookRoundsSaid : Prop := bookRoundsRow.holds Try.pinned (OpenSpec.ofChange bookRoundsSpec)

/-- ITS FALSE NEIGHBOUR: 'it returns false'. Refute it at one input. -/
def bookRoundsWrong : ChangeSpec := { name := "bookRounds", fn := fun _ => fun
  | [d] => { results := [.lit (.bool false)], args := [d] }
  | _ => none }
def BookRoundsWrongFalsely : Prop := bookRoundsRow.holds Try.pinned (OpenSpec.ofChange bookRoundsWrong)

/-- 'pylonlaw39.BookZeroSum': WHATEVER THE INPUT: true; the input reads as it did. -/
def bookZeroSumSpec : ChangeSpec := { name := "bookZeroSum", fn := fun _ => fun
  | [d1, d2] => { results := [.lit (.bool true)], args := [d1, d2] }
  | _ => none }
def bookZeroSumRow : OpenClaim := { program := "ytmiflmkdaeianaa", sum := "7f11a4751d0570e36dcc71f5774ad0ef321f87eb41cd6bfd05a1b3446c900c98", func := "pylon/pylonlaw39.BookZeroSum", spec := "bookZeroSum", unfollowed := true, recurses := true, apart := false }
def BookZeroSumSaid : Prop := bookZeroSumRow.holds Try.pinned (OpenSpec.ofChange bookZeroSumSpec)

/-- ITS FALSE NEIGHBOUR: 'it returns false'. Refute it at one input. -/
def bookZeroSumWrong : ChangeSpec := { name := "bookZeroSum", fn := fun _ => fun
  | [d1, d2] => { results := [.lit (.bool false)], args := [d1, d2] }
  | _ => none }
def BookZeroSumWrongFalsely : Prop := bookZeroSumRow.holds Try.pinned (OpenSpec.ofChange bookZeroSumWrong)

/-- 'pylonlaw39.BookConcatenates': WHATEVER THE INPUT: true; the input reads as it did. -/
def bookConcatenatesSpec : ChangeSpec := { name := "bookConcatenates", fn := fun _ => fun
  | [d1, d2, d3] => { results := [.lit (.bool true)], args := [d1, d2, d3] }
  | _ => none }
def bookConcatenatesRow : OpenClaim := { program := "ytmiflmkdaeianaa", sum := "7f11a4751d0570e36dcc71f5774ad0ef321f87eb41cd6bfd05a1b3446c900c98", func := "pylon/pylonlaw39.BookConcatenates", spec := "bookConcatenates", unfollowed := true, recurses := true, apart := false }
def BookConcatenatesSaid : Prop := bookConcatenatesRow.holds Try.pinned (OpenSpec.ofChange bookConcatenatesSpec)

/-- ITS FALSE NEIGHBOUR: 'it returns false'. Refute it at one input. -/
def bookConcatenatesWrong : ChangeSpec := { name := "bookConcatenates", fn := fun _ => fun
  | [d1, d2, d3] => { results := [.lit (.bool false)], args := [d1, d2, d3] }
  | _ => none }
def BookConcatenatesWrongFalsely : Prop := bookConcatenatesRow.holds Try.pinned (OpenSpec.ofChange bookConcatenatesWrong)

/-- 'pylonlaw39.BookIndependent': WHATEVER THE INPUT: true; the input reads as it did. -/
def bookIndependentSpec : ChangeSpec := { name := "bookIndependent", fn := fun _ => fun
  | [d1, d2, d3] => { results := [.lit (.bool true)], args := [d1, d2, d3] }
  | _ => none }
def bookIndependentRow : OpenClaim := { program := "ytmiflmkdaeianaa", sum := "7f11a4751d0570e36dcc71f5774ad0ef321f87eb41cd6bfd05a1b3446c900c98", func := "pylon/pylonlaw39.BookIndependent", spec := "bookIndependent", unfollowed := true, recurses := true, apart := false }
def BookIndependentSaid : Prop := bookIndependentRow.holds Try.pinned (OpenSpec.ofChange bookIndependentSpec)

/-- ITS FALSE NEIGHBOUR: 'it returns false'. Refute it at one input. -/
def bookIndependentWrong : ChangeSpec := { name := "bookIndependent", fn := fun _ => fun
  | [d1, d2, d3] => { results := [.lit (.bool false)], args := [d1, d2, d3] }
  | _ => none }
def BookIndependentWrongFalsely : Prop := bookIndependentRow.holds Try.pinned (OpenSpec.ofChange bookIndependentWrong)

/-- 'pylonlaw39.BookExamples': WHATEVER THE INPUT: true; the input reads as it did. -/
def bookExamplesSpec : ChangeSpec := { name := "bookExamples", fn := fun _ => fun
  | [] => { results := [.lit (.bool true)], args := [] }
  | _ => none }
def bookExamplesRow : OpenClaim := { program := "ytmiflmkdaeianaa", sum := "7f11a4751d0570e36dcc71f5774ad0ef321f87eb41cd6bfd05a1b3446c900c98", func := "pylon/pylonlaw39.BookExamples", spec := "bookExamples", unfollowed := true, recurses := true, apart := false }
def BookExamplesSaid : Prop := bookExamplesRow.holds Try.pinned (OpenSpec.ofChange bookExamplesSpec)

/-- ITS FALSE NEIGHBOUR: 'it returns false'. Refute it at one input. -/
def bookExamplesWrong : ChangeSpec := { name := "bookExamples", fn := fun _ => fun
  | [] => { results := [.lit (.bool false)], args := [] }
  | _ => none }
def BookExamplesWrongFalsely : Prop := bookExamplesRow.holds Try.pinned (OpenSpec.ofChange bookExamplesWrong)

/-- 'pylonlaw39.BookRounding': WHATEVER THE INPUT: true; the input reads as it did. -/
def bookRoundingSpec : ChangeSpec := { name := "bookRounding", fn := fun _ => fun
  | [d1, d2, d3] => { results := [.lit (.bool true)], args := [d1, d2, d3] }
  | _ => none }
def bookRoundingRow : OpenClaim := { program := "ytmiflmkdaeianaa", sum := "7f11a4751d0570e36dcc71f5774ad0ef321f87eb41cd6bfd05a1b3446c900c98", func := "pylon/pylonlaw39.BookRounding", spec := "bookRounding", unfollowed := true, recurses := true, apart := false }
def BookRoundingSaid : Prop := bookRoundingRow.holds Try.pinned (OpenSpec.ofChange bookRoundingSpec)

/-- ITS FALSE NEIGHBOUR: 'it returns false'. Refute it at one input. -/
def bookRoundingWrong : ChangeSpec := { name := "bookRounding", fn := fun _ => fun
  | [d1, d2, d3] => { results := [.lit (.bool false)], args := [d1, d2, d3] }
  | _ => none }
def BookRoundingWrongFalsely : Prop := bookRoundingRow.holds Try.pinned (OpenSpec.ofChange bookRoundingWrong)

/- THE SECOND FORM. 'bulk': how many values and letters a reading holds, each counted each time it is reached (what is shared counts as often as it is met; a slice's spare places count too). A statement '..UptoSaid' is the law's where the arguments, and the package variables that the reading takes, are together of bulk at most 1048576: NARROWER than '..Said'. Prove '..Said' where nothing that the law and all that it calls make is longer than what came in: it says more and counts as full. Else prove '..UptoSaid'. A law counts once. -/
mutual
def uptoBulk {H : Type} : DataW H → Nat
  | .lit (.string bytes) => bytes.length + 1
  | .lit _ => 1
  | .nil => 1
  | .ptr d => uptoBulk d + 1
  | .slice elems spare => uptoBulkAll elems + uptoBulkAll spare + 1
  | .agg parts => uptoBulkAll parts + 1
  | .iface _ d => uptoBulk d + 1
  | .map entries => uptoBulkEntries entries + 1
  | .held _ => 1
def uptoBulkAll {H : Type} : List (DataW H) → Nat
  | [] => 0
  | d :: r => uptoBulk d + uptoBulkAll r
def uptoBulkEntries {H : Type} : List (Lit × DataW H) → Nat
  | [] => 0
  | x :: r => uptoBulkEntry x + uptoBulkEntries r
def uptoBulkEntry {H : Type} : Lit × DataW H → Nat
  | (.string bytes, d) => bytes.length + uptoBulk d + 1
  | (_, d) => uptoBulk d + 1
 end
def uptoSmall : (H : Type) → List (DataW H) → Bool := fun _ ds => decide (uptoBulkAll ds ≤ 1048576)
def OpenSpec.upto (s : _root_.Go.ChangeSpec) : _root_.Go.OpenSpec := { _root_.Go.OpenSpec.ofChange s with cond := some uptoSmall }

/-- 'pylonlaw39.BookRounds', WHERE WHAT IT READS IS OF BULK AT MOST 1048576: true; the input reads as it did. -/
def bookRoundsUptoRow : OpenClaim := { program := "ytmiflmkdaeianaa", sum := "7f11a4751d0570e36dcc71f5774ad0ef321f87eb41cd6bfd05a1b3446c900c98", func := "pylon/pylonlaw39.BookRounds", spec := "bookRounds", unfollowed := true, recurses := true, apart := false, narrowed := true }
def BookRoundsUptoSaid : Prop := bookRoundsUptoRow.holds Try.pinned (OpenSpec.upto bookRoundsSpec)

/-- 'pylonlaw39.BookZeroSum', WHERE WHAT IT READS IS OF BULK AT MOST 1048576: true; the input reads as it did. -/
def bookZeroSumUptoRow : OpenClaim := { program := "ytmiflmkdaeianaa", sum := "7f11a4751d0570e36dcc71f5774ad0ef321f87eb41cd6bfd05a1b3446c900c98", func := "pylon/pylonlaw39.BookZeroSum", spec := "bookZeroSum", unfollowed := true, recurses := true, apart := false, narrowed := true }
def BookZeroSumUptoSaid : Prop := bookZeroSumUptoRow.holds Try.pinned (OpenSpec.upto bookZeroSumSpec)

/-- 'pylonlaw39.BookConcatenates', WHERE WHAT IT READS IS OF BULK AT MOST 1048576: true; the input reads as it did. -/
def bookConcatenatesUptoRow : OpenClaim := { program := "ytmiflmkdaeianaa", sum := "7f11a4751d0570e36dcc71f5774ad0ef321f87eb41cd6bfd05a1b3446c900c98", func := "pylon/pylonlaw39.BookConcatenates", spec := "bookConcatenates", unfollowed := true, recurses := true, apart := false, narrowed := true }
def BookConcatenatesUptoSaid : Prop := bookConcatenatesUptoRow.holds Try.pinned (OpenSpec.upto bookConcatenatesSpec)

/-- 'pylonlaw39.BookIndependent', WHERE WHAT IT READS IS OF BULK AT MOST 1048576: true; the input reads as it did. -/
def bookIndependentUptoRow : OpenClaim := { program := "ytmiflmkdaeianaa", sum := "7f11a4751d0570e36dcc71f5774ad0ef321f87eb41cd6bfd05a1b3446c900c98", func := "pylon/pylonlaw39.BookIndependent", spec := "bookIndependent", unfollowed := true, recurses := true, apart := false, narrowed := true }
def BookIndependentUptoSaid : Prop := bookIndependentUptoRow.holds Try.pinned (OpenSpec.upto bookIndependentSpec)

/-- 'pylonlaw39.BookExamples', WHERE WHAT IT READS IS OF BULK AT MOST 1048576: true; the input reads as it did. -/
def bookExamplesUptoRow : OpenClaim := { program := "ytmiflmkdaeianaa", sum := "7f11a4751d0570e36dcc71f5774ad0ef321f87eb41cd6bfd05a1b3446c900c98", func := "pylon/pylonlaw39.BookExamples", spec := "bookExamples", unfollowed := true, recurses := true, apart := false, narrowed := true }
def BookExamplesUptoSaid : Prop := bookExamplesUptoRow.holds Try.pinned (OpenSpec.upto bookExamplesSpec)

/-- 'pylonlaw39.BookRounding', WHERE WHAT IT READS IS OF BULK AT MOST 1048576: true; the input reads as it did. -/
def bookRoundingUptoRow : OpenClaim := { program := "ytmiflmkdaeianaa", sum := "7f11a4751d0570e36dcc71f5774ad0ef321f87eb41cd6bfd05a1b3446c900c98", func := "pylon/pylonlaw39.BookRounding", spec := "bookRounding", unfollowed := true, recurses := true, apart := false, narrowed := true }
def BookRoundingUptoSaid : Prop := bookRoundingUptoRow.holds Try.pinned (OpenSpec.upto bookRoundingSpec)

end Rows
end Go.Proofs.Ytmiflmkdaeianaa
