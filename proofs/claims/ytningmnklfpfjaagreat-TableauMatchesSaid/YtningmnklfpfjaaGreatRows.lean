/-
  No cell of these rows narrows 'for every input' (looked for: loops, veiled, ifaces, maps, wideKeys, modest, calm, conditions, laid).
  DERIVED. THE GIVEN ROWS OF THIS SEAT. 6 by the template 'for every input the law returns true; each argument reads behind the call as it read before'; 0 by the template 'total and deterministic' (their statements: YtningmnklfpfjaaGreatTotals.lean).
  GIVEN WITH THE SEED: the statements are not yours to turn. If you find one false, say at which input.
  Laid BY PROGRAM, IN A SANDBOX (cutbox-rows.mjs): the forced cells as the released guide's own fill.sh prints them over the translation ec90699afbfe34df… (all of the seat's roots in one cut). By AI agents, Wed Nov 11 2026. No macro, syntax, notation, axiom, sorry.
-/
import Derived.Test.YtningmnklfpfjaaGreatChecked
import GoSem.Claim
import GoSem.ClaimJoined
import GoSem.ClaimMapViews
import Derived.JoinedTies
import Derived.KernelRfl
namespace Go.Proofs.YtningmnklfpfjaaGreat
/- THE CELL 'sum', in the pinned program and in every row, IS THE sha256 OF THE DUMP (.gsa) THAT YtningmnklfpfjaaGreatProg.lean LOADS. Nothing in Lean hashes anything: it is a label: what it is worth is what the hold of that sum in a sandbox is worth. -/
noncomputable def Tryz.pinned : Pinned := { name := "ytningmnklfpfjaagreat", sum := "ec90699afbfe34dfcebc41352ae6de91b9b61aff1036a21ac922f91e0deb2df5", checked := Tryz.checked }
namespace Rows
def none {H : Type} : Left H := { results := [], args := [] }

/-- 'pylonlaw07.TableauCopies': WHATEVER THE INPUT: true; the input reads as it did. -/
def tableauCopiesSpec : ChangeSpec := { name := "tableauCopies", fn := fun _ => fun
  | [d1, d2] => { results := [.lit (.bool true)], args := [d1, d2] }
  | _ => none }
def tableauCopiesRow : OpenClaim := { program := "ytningmnklfpfjaagreat", sum := "ec90699afbfe34dfcebc41352ae6de91b9b61aff1036a21ac922f91e0deb2df5", func := "pylon/pylonlaw07.TableauCopies", spec := "tableauCopies", unfollowed := true, recurses := true, apart := false }
def TableauCopiesSaid : Prop := tableauCopiesRow.holds Tryz.pinned (OpenSpec.ofChange tableauCopiesSpec)

/-- ITS FALSE NEIGHBOUR: 'it returns false'. Refute it at one input. -/
def tableauCopiesWrong : ChangeSpec := { name := "tableauCopies", fn := fun _ => fun
  | [d1, d2] => { results := [.lit (.bool false)], args := [d1, d2] }
  | _ => none }
def TableauCopiesWrongFalsely : Prop := tableauCopiesRow.holds Tryz.pinned (OpenSpec.ofChange tableauCopiesWrong)

/-- 'pylonlaw07.TableauMatches': WHATEVER THE INPUT: true; the input reads as it did. -/
def tableauMatchesSpec : ChangeSpec := { name := "tableauMatches", fn := fun _ => fun
  | [d1, d2, d3] => { results := [.lit (.bool true)], args := [d1, d2, d3] }
  | _ => none }
def tableauMatchesRow : OpenClaim := { program := "ytningmnklfpfjaagreat", sum := "ec90699afbfe34dfcebc41352ae6de91b9b61aff1036a21ac922f91e0deb2df5", func := "pylon/pylonlaw07.TableauMatches", spec := "tableauMatches", unfollowed := true, recurses := true, apart := false }
def TableauMatchesSaid : Prop := tableauMatchesRow.holds Tryz.pinned (OpenSpec.ofChange tableauMatchesSpec)

/-- ITS FALSE NEIGHBOUR: 'it returns false'. Refute it at one input. -/
def tableauMatchesWrong : ChangeSpec := { name := "tableauMatches", fn := fun _ => fun
  | [d1, d2, d3] => { results := [.lit (.bool false)], args := [d1, d2, d3] }
  | _ => none }
def TableauMatchesWrongFalsely : Prop := tableauMatchesRow.holds Tryz.pinned (OpenSpec.ofChange tableauMatchesWrong)

/-- 'pylonlaw07.TableauAtMatches': WHATEVER THE INPUT: true; the input reads as it did. -/
def tableauAtMatchesSpec : ChangeSpec := { name := "tableauAtMatches", fn := fun _ => fun
  | [d1, d2] => { results := [.lit (.bool true)], args := [d1, d2] }
  | _ => none }
def tableauAtMatchesRow : OpenClaim := { program := "ytningmnklfpfjaagreat", sum := "ec90699afbfe34dfcebc41352ae6de91b9b61aff1036a21ac922f91e0deb2df5", func := "pylon/pylonlaw07.TableauAtMatches", spec := "tableauAtMatches", unfollowed := true, recurses := true, apart := false }
def TableauAtMatchesSaid : Prop := tableauAtMatchesRow.holds Tryz.pinned (OpenSpec.ofChange tableauAtMatchesSpec)

/-- ITS FALSE NEIGHBOUR: 'it returns false'. Refute it at one input. -/
def tableauAtMatchesWrong : ChangeSpec := { name := "tableauAtMatches", fn := fun _ => fun
  | [d1, d2] => { results := [.lit (.bool false)], args := [d1, d2] }
  | _ => none }
def TableauAtMatchesWrongFalsely : Prop := tableauAtMatchesRow.holds Tryz.pinned (OpenSpec.ofChange tableauAtMatchesWrong)

/-- 'pylonlaw07.TableauOptimal': WHATEVER THE INPUT: true; the input reads as it did. -/
def tableauOptimalSpec : ChangeSpec := { name := "tableauOptimal", fn := fun _ => fun
  | [d1, d2, d3] => { results := [.lit (.bool true)], args := [d1, d2, d3] }
  | _ => none }
def tableauOptimalRow : OpenClaim := { program := "ytningmnklfpfjaagreat", sum := "ec90699afbfe34dfcebc41352ae6de91b9b61aff1036a21ac922f91e0deb2df5", func := "pylon/pylonlaw07.TableauOptimal", spec := "tableauOptimal", unfollowed := true, recurses := true, apart := false }
def TableauOptimalSaid : Prop := tableauOptimalRow.holds Tryz.pinned (OpenSpec.ofChange tableauOptimalSpec)

/-- ITS FALSE NEIGHBOUR: 'it returns false'. Refute it at one input. -/
def tableauOptimalWrong : ChangeSpec := { name := "tableauOptimal", fn := fun _ => fun
  | [d1, d2, d3] => { results := [.lit (.bool false)], args := [d1, d2, d3] }
  | _ => none }
def TableauOptimalWrongFalsely : Prop := tableauOptimalRow.holds Tryz.pinned (OpenSpec.ofChange tableauOptimalWrong)

/-- 'pylonlaw07.TableauPathFree': WHATEVER THE INPUT: true; the input reads as it did. -/
def tableauPathFreeSpec : ChangeSpec := { name := "tableauPathFree", fn := fun _ => fun
  | [d1, d2, d3] => { results := [.lit (.bool true)], args := [d1, d2, d3] }
  | _ => none }
def tableauPathFreeRow : OpenClaim := { program := "ytningmnklfpfjaagreat", sum := "ec90699afbfe34dfcebc41352ae6de91b9b61aff1036a21ac922f91e0deb2df5", func := "pylon/pylonlaw07.TableauPathFree", spec := "tableauPathFree", unfollowed := true, recurses := true, apart := false }
def TableauPathFreeSaid : Prop := tableauPathFreeRow.holds Tryz.pinned (OpenSpec.ofChange tableauPathFreeSpec)

/-- ITS FALSE NEIGHBOUR: 'it returns false'. Refute it at one input. -/
def tableauPathFreeWrong : ChangeSpec := { name := "tableauPathFree", fn := fun _ => fun
  | [d1, d2, d3] => { results := [.lit (.bool false)], args := [d1, d2, d3] }
  | _ => none }
def TableauPathFreeWrongFalsely : Prop := tableauPathFreeRow.holds Tryz.pinned (OpenSpec.ofChange tableauPathFreeWrong)

/-- 'pylonlaw07.TableauEquations': WHATEVER THE INPUT: true; the input reads as it did. -/
def tableauEquationsSpec : ChangeSpec := { name := "tableauEquations", fn := fun _ => fun
  | [d1, d2, d3] => { results := [.lit (.bool true)], args := [d1, d2, d3] }
  | _ => none }
def tableauEquationsRow : OpenClaim := { program := "ytningmnklfpfjaagreat", sum := "ec90699afbfe34dfcebc41352ae6de91b9b61aff1036a21ac922f91e0deb2df5", func := "pylon/pylonlaw07.TableauEquations", spec := "tableauEquations", unfollowed := true, recurses := true, apart := false }
def TableauEquationsSaid : Prop := tableauEquationsRow.holds Tryz.pinned (OpenSpec.ofChange tableauEquationsSpec)

/-- ITS FALSE NEIGHBOUR: 'it returns false'. Refute it at one input. -/
def tableauEquationsWrong : ChangeSpec := { name := "tableauEquations", fn := fun _ => fun
  | [d1, d2, d3] => { results := [.lit (.bool false)], args := [d1, d2, d3] }
  | _ => none }
def TableauEquationsWrongFalsely : Prop := tableauEquationsRow.holds Tryz.pinned (OpenSpec.ofChange tableauEquationsWrong)

/- THE SECOND FORM. 'bulk': how many values and letters a reading holds, each counted each time it is reached (what is shared counts as often as it is met; a slice's spare places count too). A statement '..UptoSaid' is the law's where the arguments, and the package variables that the reading takes, are together of bulk at most 1048576: NARROWER than '..Said'. Prove '..Said' where nothing that the law and all that it calls make is longer than what came in: it says more and counts as full. Else prove '..UptoSaid'. A law counts once. -/
mutual
def uptoBulk {H : Type} : DataW H → Nat
  | .lit (.string bytes) => bytes.length + 1
  | .lit _ => 1
  | .nil => 1
  | .ptr d => uptoBulk d + 1
  | .slice elems spare => uptoBulkAll elems + uptoBulkAll spare + 1
  | .agg parts => uptoBulkAll parts + 1
  | .iface _ d => uptoBulk d + 1
  | .map entries => uptoBulkEntries entries + 1
  | .held _ => 1
def uptoBulkAll {H : Type} : List (DataW H) → Nat
  | [] => 0
  | d :: r => uptoBulk d + uptoBulkAll r
def uptoBulkEntries {H : Type} : List (Lit × DataW H) → Nat
  | [] => 0
  | x :: r => uptoBulkEntry x + uptoBulkEntries r
def uptoBulkEntry {H : Type} : Lit × DataW H → Nat
  | (.string bytes, d) => bytes.length + uptoBulk d + 1
  | (_, d) => uptoBulk d + 1
 end
def uptoSmall : (H : Type) → List (DataW H) → Bool := fun _ ds => decide (uptoBulkAll ds ≤ 1048576)
def OpenSpec.upto (s : _root_.Go.ChangeSpec) : _root_.Go.OpenSpec := { _root_.Go.OpenSpec.ofChange s with cond := some uptoSmall }

/-- 'pylonlaw07.TableauCopies', WHERE WHAT IT READS IS OF BULK AT MOST 1048576: true; the input reads as it did. -/
def tableauCopiesUptoRow : OpenClaim := { program := "ytningmnklfpfjaagreat", sum := "ec90699afbfe34dfcebc41352ae6de91b9b61aff1036a21ac922f91e0deb2df5", func := "pylon/pylonlaw07.TableauCopies", spec := "tableauCopies", unfollowed := true, recurses := true, apart := false, narrowed := true }
def TableauCopiesUptoSaid : Prop := tableauCopiesUptoRow.holds Tryz.pinned (OpenSpec.upto tableauCopiesSpec)

/-- 'pylonlaw07.TableauMatches', WHERE WHAT IT READS IS OF BULK AT MOST 1048576: true; the input reads as it did. -/
def tableauMatchesUptoRow : OpenClaim := { program := "ytningmnklfpfjaagreat", sum := "ec90699afbfe34dfcebc41352ae6de91b9b61aff1036a21ac922f91e0deb2df5", func := "pylon/pylonlaw07.TableauMatches", spec := "tableauMatches", unfollowed := true, recurses := true, apart := false, narrowed := true }
def TableauMatchesUptoSaid : Prop := tableauMatchesUptoRow.holds Tryz.pinned (OpenSpec.upto tableauMatchesSpec)

/-- 'pylonlaw07.TableauAtMatches', WHERE WHAT IT READS IS OF BULK AT MOST 1048576: true; the input reads as it did. -/
def tableauAtMatchesUptoRow : OpenClaim := { program := "ytningmnklfpfjaagreat", sum := "ec90699afbfe34dfcebc41352ae6de91b9b61aff1036a21ac922f91e0deb2df5", func := "pylon/pylonlaw07.TableauAtMatches", spec := "tableauAtMatches", unfollowed := true, recurses := true, apart := false, narrowed := true }
def TableauAtMatchesUptoSaid : Prop := tableauAtMatchesUptoRow.holds Tryz.pinned (OpenSpec.upto tableauAtMatchesSpec)

/-- 'pylonlaw07.TableauOptimal', WHERE WHAT IT READS IS OF BULK AT MOST 1048576: true; the input reads as it did. -/
def tableauOptimalUptoRow : OpenClaim := { program := "ytningmnklfpfjaagreat", sum := "ec90699afbfe34dfcebc41352ae6de91b9b61aff1036a21ac922f91e0deb2df5", func := "pylon/pylonlaw07.TableauOptimal", spec := "tableauOptimal", unfollowed := true, recurses := true, apart := false, narrowed := true }
def TableauOptimalUptoSaid : Prop := tableauOptimalUptoRow.holds Tryz.pinned (OpenSpec.upto tableauOptimalSpec)

/-- 'pylonlaw07.TableauPathFree', WHERE WHAT IT READS IS OF BULK AT MOST 1048576: true; the input reads as it did. -/
def tableauPathFreeUptoRow : OpenClaim := { program := "ytningmnklfpfjaagreat", sum := "ec90699afbfe34dfcebc41352ae6de91b9b61aff1036a21ac922f91e0deb2df5", func := "pylon/pylonlaw07.TableauPathFree", spec := "tableauPathFree", unfollowed := true, recurses := true, apart := false, narrowed := true }
def TableauPathFreeUptoSaid : Prop := tableauPathFreeUptoRow.holds Tryz.pinned (OpenSpec.upto tableauPathFreeSpec)

/-- 'pylonlaw07.TableauEquations', WHERE WHAT IT READS IS OF BULK AT MOST 1048576: true; the input reads as it did. -/
def tableauEquationsUptoRow : OpenClaim := { program := "ytningmnklfpfjaagreat", sum := "ec90699afbfe34dfcebc41352ae6de91b9b61aff1036a21ac922f91e0deb2df5", func := "pylon/pylonlaw07.TableauEquations", spec := "tableauEquations", unfollowed := true, recurses := true, apart := false, narrowed := true }
def TableauEquationsUptoSaid : Prop := tableauEquationsUptoRow.holds Tryz.pinned (OpenSpec.upto tableauEquationsSpec)

end Rows
end Go.Proofs.YtningmnklfpfjaaGreat
