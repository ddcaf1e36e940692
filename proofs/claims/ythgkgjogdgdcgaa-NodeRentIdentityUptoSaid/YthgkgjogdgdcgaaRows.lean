/-
  No cell of these rows narrows 'for every input' (looked for: loops, veiled, ifaces, maps, wideKeys, modest, calm, conditions, laid).
  DERIVED. THE GIVEN ROWS OF THIS SEAT. 3 by the template 'for every input the law returns true; each argument reads behind the call as it read before'; 0 by the template 'total and deterministic' (their statements: YthgkgjogdgdcgaaTotals.lean).
  GIVEN WITH THE SEED: the statements are not yours to turn. If you find one false, say at which input.
  Laid BY PROGRAM, IN A SANDBOX (cutbox-rows.mjs): the forced cells as the released guide's own fill.sh prints them over the translation a5aff73da9214bfc… (all of the seat's roots in one cut). By AI agents, Wed Nov 11 2026. No macro, syntax, notation, axiom, sorry.
-/
import Derived.Test.YthgkgjogdgdcgaaChecked
import GoSem.Claim
import GoSem.ClaimJoined
import GoSem.ClaimMapViews
import Derived.JoinedTies
import Derived.KernelRfl
namespace Go.Proofs.Ythgkgjogdgdcgaa
/- THE CELL 'sum', in the pinned program and in every row, IS THE sha256 OF THE DUMP (.gsa) THAT YthgkgjogdgdcgaaProg.lean LOADS. Nothing in Lean hashes anything: it is a label: what it is worth is what the hold of that sum in a sandbox is worth. -/
noncomputable def Try.pinned : Pinned := { name := "ythgkgjogdgdcgaa", sum := "a5aff73da9214bfc62c5058c7cfa0bc03214331e97b00fa90ba135fa41ea0be8", checked := Try.checked }
namespace Rows
def none {H : Type} : Left H := { results := [], args := [] }

/-- 'pylonlaw33.NodeExamples': WHATEVER THE INPUT: true; the input reads as it did. -/
def nodeExamplesSpec : ChangeSpec := { name := "nodeExamples", fn := fun _ => fun
  | [] => { results := [.lit (.bool true)], args := [] }
  | _ => none }
def nodeExamplesRow : OpenClaim := { program := "ythgkgjogdgdcgaa", sum := "a5aff73da9214bfc62c5058c7cfa0bc03214331e97b00fa90ba135fa41ea0be8", func := "pylon/pylonlaw33.NodeExamples", spec := "nodeExamples", unfollowed := true, recurses := true, apart := false }
def NodeExamplesSaid : Prop := nodeExamplesRow.holds Try.pinned (OpenSpec.ofChange nodeExamplesSpec)

/-- ITS FALSE NEIGHBOUR: 'it returns false'. Refute it at one input. -/
def nodeExamplesWrong : ChangeSpec := { name := "nodeExamples", fn := fun _ => fun
  | [] => { results := [.lit (.bool false)], args := [] }
  | _ => none }
def NodeExamplesWrongFalsely : Prop := nodeExamplesRow.holds Try.pinned (OpenSpec.ofChange nodeExamplesWrong)

/-- 'pylonlaw33.NodeExtremes': WHATEVER THE INPUT: true; the input reads as it did. -/
def nodeExtremesSpec : ChangeSpec := { name := "nodeExtremes", fn := fun _ => fun
  | [d1, d2] => { results := [.lit (.bool true)], args := [d1, d2] }
  | _ => none }
def nodeExtremesRow : OpenClaim := { program := "ythgkgjogdgdcgaa", sum := "a5aff73da9214bfc62c5058c7cfa0bc03214331e97b00fa90ba135fa41ea0be8", func := "pylon/pylonlaw33.NodeExtremes", spec := "nodeExtremes", unfollowed := true, recurses := true, apart := false }
def NodeExtremesSaid : Prop := nodeExtremesRow.holds Try.pinned (OpenSpec.ofChange nodeExtremesSpec)

/-- ITS FALSE NEIGHBOUR: 'it returns false'. Refute it at one input. -/
def nodeExtremesWrong : ChangeSpec := { name := "nodeExtremes", fn := fun _ => fun
  | [d1, d2] => { results := [.lit (.bool false)], args := [d1, d2] }
  | _ => none }
def NodeExtremesWrongFalsely : Prop := nodeExtremesRow.holds Try.pinned (OpenSpec.ofChange nodeExtremesWrong)

/-- 'pylonlaw33.NodeRentIdentity': WHATEVER THE INPUT: true; the input reads as it did. -/
def nodeRentIdentitySpec : ChangeSpec := { name := "nodeRentIdentity", fn := fun _ => fun
  | [d1, d2, d3, d4, d5] => { results := [.lit (.bool true)], args := [d1, d2, d3, d4, d5] }
  | _ => none }
def nodeRentIdentityRow : OpenClaim := { program := "ythgkgjogdgdcgaa", sum := "a5aff73da9214bfc62c5058c7cfa0bc03214331e97b00fa90ba135fa41ea0be8", func := "pylon/pylonlaw33.NodeRentIdentity", spec := "nodeRentIdentity", unfollowed := true, recurses := true, apart := false }
def NodeRentIdentitySaid : Prop := nodeRentIdentityRow.holds Try.pinned (OpenSpec.ofChange nodeRentIdentitySpec)

/-- ITS FALSE NEIGHBOUR: 'it returns false'. Refute it at one input. -/
def nodeRentIdentityWrong : ChangeSpec := { name := "nodeRentIdentity", fn := fun _ => fun
  | [d1, d2, d3, d4, d5] => { results := [.lit (.bool false)], args := [d1, d2, d3, d4, d5] }
  | _ => none }
def NodeRentIdentityWrongFalsely : Prop := nodeRentIdentityRow.holds Try.pinned (OpenSpec.ofChange nodeRentIdentityWrong)

/- THE SECOND FORM. 'bulk': how many values and letters a reading holds, each counted each time it is reached (what is shared counts as often as it is met; a slice's spare places count too). A statement '..UptoSaid' is the law's where the arguments, and the package variables that the reading takes, are together of bulk at most 1048576: NARROWER than '..Said'. Prove '..Said' where nothing that the law and all that it calls make is longer than what came in: it says more and counts as full. Else prove '..UptoSaid'. A law counts once. -/
mutual
def uptoBulk {H : Type} : DataW H → Nat
  | .lit (.string bytes) => bytes.length + 1
  | .lit _ => 1
  | .nil => 1
  | .ptr d => uptoBulk d + 1
  | .slice elems spare => uptoBulkAll elems + uptoBulkAll spare + 1
  | .agg parts => uptoBulkAll parts + 1
  | .iface _ d => uptoBulk d + 1
  | .map entries => uptoBulkEntries entries + 1
  | .held _ => 1
def uptoBulkAll {H : Type} : List (DataW H) → Nat
  | [] => 0
  | d :: r => uptoBulk d + uptoBulkAll r
def uptoBulkEntries {H : Type} : List (Lit × DataW H) → Nat
  | [] => 0
  | x :: r => uptoBulkEntry x + uptoBulkEntries r
def uptoBulkEntry {H : Type} : Lit × DataW H → Nat
  | (.string bytes, d) => bytes.length + uptoBulk d + 1
  | (_, d) => uptoBulk d + 1
 end
def uptoSmall : (H : Type) → List (DataW H) → Bool := fun _ ds => decide (uptoBulkAll ds ≤ 1048576)
def OpenSpec.upto (s : _root_.Go.ChangeSpec) : _root_.Go.OpenSpec := { _root_.Go.OpenSpec.ofChange s with cond := some uptoSmall }

/-- 'pylonlaw33.NodeExamples', WHERE WHAT IT READS IS OF BULK AT MOST 1048576: true; the input reads as it did. -/
def nodeExamplesUptoRow : OpenClaim := { program := "ythgkgjogdgdcgaa", sum := "a5aff73da9214bfc62c5058c7cfa0bc03214331e97b00fa90ba135fa41ea0be8", func := "pylon/pylonlaw33.NodeExamples", spec := "nodeExamples", unfollowed := true, recurses := true, apart := false, narrowed := true }
def NodeExamplesUptoSaid : Prop := nodeExamplesUptoRow.holds Try.pinned (OpenSpec.upto nodeExamplesSpec)

/-- 'pylonlaw33.NodeExtremes', WHERE WHAT IT READS IS OF BULK AT MOST 1048576: true; the input reads as it did. -/
def nodeExtremesUptoRow : OpenClaim := { program := "ythgkgjogdgdcgaa", sum := "a5aff73da9214bfc62c5058c7cfa0bc03214331e97b00fa90ba135fa41ea0be8", func := "pylon/pylonlaw33.NodeExtremes", spec := "nodeExtremes", unfollowed := true, recurses := true, apart := false, narrowed := true }
def NodeExtremesUptoSaid : Prop := nodeExtremesUptoRow.holds Try.pinned (OpenSpec.upto nodeExtremesSpec)

/-- 'pylonlaw33.NodeRentIdentity', WHERE WHAT IT READS IS OF BULK AT MOST 1048576: true; the input reads as it did. -/
def nodeRentIdentityUptoRow : OpenClaim := { program := "ythgkgjogdgdcgaa", sum := "a5aff73da9214bfc62c5058c7cfa0bc03214331e97b00fa90ba135fa41ea0be8", func := "pylon/pylonlaw33.NodeRentIdentity", spec := "nodeRentIdentity", unfollowed := true, recurses := true, apart := false, narrowed := true }
def NodeRentIdentityUptoSaid : Prop := nodeRentIdentityUptoRow.holds Try.pinned (OpenSpec.upto nodeRentIdentitySpec)

end Rows
end Go.Proofs.Ythgkgjogdgdcgaa
