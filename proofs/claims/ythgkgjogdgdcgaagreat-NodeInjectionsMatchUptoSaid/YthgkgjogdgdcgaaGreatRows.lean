/-
  No cell of these rows narrows 'for every input' (looked for: loops, veiled, ifaces, maps, wideKeys, modest, calm, conditions, laid).
  DERIVED. THE GIVEN ROWS OF THIS SEAT. 6 by the template 'for every input the law returns true; each argument reads behind the call as it read before'; 0 by the template 'total and deterministic' (their statements: YthgkgjogdgdcgaaGreatTotals.lean).
  GIVEN WITH THE SEED: the statements are not yours to turn. If you find one false, say at which input.
  Laid BY PROGRAM, IN A SANDBOX (cutbox-rows.mjs): the forced cells as the released guide's own fill.sh prints them over the translation c0eccec35928a36d… (all of the seat's roots in one cut). By AI agents, Wed Nov 11 2026. No macro, syntax, notation, axiom, sorry.
-/
import Derived.Test.YthgkgjogdgdcgaaGreatChecked
import GoSem.Claim
import GoSem.ClaimJoined
import GoSem.ClaimMapViews
import Derived.JoinedTies
import Derived.KernelRfl
namespace Go.Proofs.YthgkgjogdgdcgaaGreat
/- THE CELL 'sum', in the pinned program and in every row, IS THE sha256 OF THE DUMP (.gsa) THAT YthgkgjogdgdcgaaGreatProg.lean LOADS. Nothing in Lean hashes anything: it is a label: what it is worth is what the hold of that sum in a sandbox is worth. -/
noncomputable def Tryz.pinned : Pinned := { name := "ythgkgjogdgdcgaagreat", sum := "c0eccec35928a36d08ad469fb079fbbe67dff29b70bd1456adb71f71b194237b", checked := Tryz.checked }
namespace Rows
def none {H : Type} : Left H := { results := [], args := [] }

/-- 'pylonlaw33.NodeMatches': WHATEVER THE INPUT: true; the input reads as it did. -/
def nodeMatchesSpec : ChangeSpec := { name := "nodeMatches", fn := fun _ => fun
  | [d1, d2, d3, d4] => { results := [.lit (.bool true)], args := [d1, d2, d3, d4] }
  | _ => none }
def nodeMatchesRow : OpenClaim := { program := "ythgkgjogdgdcgaagreat", sum := "c0eccec35928a36d08ad469fb079fbbe67dff29b70bd1456adb71f71b194237b", func := "pylon/pylonlaw33.NodeMatches", spec := "nodeMatches", unfollowed := true, recurses := true, apart := false }
def NodeMatchesSaid : Prop := nodeMatchesRow.holds Tryz.pinned (OpenSpec.ofChange nodeMatchesSpec)

/-- ITS FALSE NEIGHBOUR: 'it returns false'. Refute it at one input. -/
def nodeMatchesWrong : ChangeSpec := { name := "nodeMatches", fn := fun _ => fun
  | [d1, d2, d3, d4] => { results := [.lit (.bool false)], args := [d1, d2, d3, d4] }
  | _ => none }
def NodeMatchesWrongFalsely : Prop := nodeMatchesRow.holds Tryz.pinned (OpenSpec.ofChange nodeMatchesWrong)

/-- 'pylonlaw33.NodeInjectionsMatch': WHATEVER THE INPUT: true; the input reads as it did. -/
def nodeInjectionsMatchSpec : ChangeSpec := { name := "nodeInjectionsMatch", fn := fun _ => fun
  | [d1, d2, d3, d4, d5] => { results := [.lit (.bool true)], args := [d1, d2, d3, d4, d5] }
  | _ => none }
def nodeInjectionsMatchRow : OpenClaim := { program := "ythgkgjogdgdcgaagreat", sum := "c0eccec35928a36d08ad469fb079fbbe67dff29b70bd1456adb71f71b194237b", func := "pylon/pylonlaw33.NodeInjectionsMatch", spec := "nodeInjectionsMatch", unfollowed := true, recurses := true, apart := false }
def NodeInjectionsMatchSaid : Prop := nodeInjectionsMatchRow.holds Tryz.pinned (OpenSpec.ofChange nodeInjectionsMatchSpec)

/-- ITS FALSE NEIGHBOUR: 'it returns false'. Refute it at one input. -/
def nodeInjectionsMatchWrong : ChangeSpec := { name := "nodeInjectionsMatch", fn := fun _ => fun
  | [d1, d2, d3, d4, d5] => { results := [.lit (.bool false)], args := [d1, d2, d3, d4, d5] }
  | _ => none }
def NodeInjectionsMatchWrongFalsely : Prop := nodeInjectionsMatchRow.holds Tryz.pinned (OpenSpec.ofChange nodeInjectionsMatchWrong)

/-- 'pylonlaw33.NodeLevels': WHATEVER THE INPUT: true; the input reads as it did. -/
def nodeLevelsSpec : ChangeSpec := { name := "nodeLevels", fn := fun _ => fun
  | [d1, d2, d3, d4] => { results := [.lit (.bool true)], args := [d1, d2, d3, d4] }
  | _ => none }
def nodeLevelsRow : OpenClaim := { program := "ythgkgjogdgdcgaagreat", sum := "c0eccec35928a36d08ad469fb079fbbe67dff29b70bd1456adb71f71b194237b", func := "pylon/pylonlaw33.NodeLevels", spec := "nodeLevels", unfollowed := true, recurses := true, apart := false }
def NodeLevelsSaid : Prop := nodeLevelsRow.holds Tryz.pinned (OpenSpec.ofChange nodeLevelsSpec)

/-- ITS FALSE NEIGHBOUR: 'it returns false'. Refute it at one input. -/
def nodeLevelsWrong : ChangeSpec := { name := "nodeLevels", fn := fun _ => fun
  | [d1, d2, d3, d4] => { results := [.lit (.bool false)], args := [d1, d2, d3, d4] }
  | _ => none }
def NodeLevelsWrongFalsely : Prop := nodeLevelsRow.holds Tryz.pinned (OpenSpec.ofChange nodeLevelsWrong)

/-- 'pylonlaw33.NodeInjections': WHATEVER THE INPUT: true; the input reads as it did. -/
def nodeInjectionsSpec : ChangeSpec := { name := "nodeInjections", fn := fun _ => fun
  | [d1, d2, d3, d4, d5, d6, d7] => { results := [.lit (.bool true)], args := [d1, d2, d3, d4, d5, d6, d7] }
  | _ => none }
def nodeInjectionsRow : OpenClaim := { program := "ythgkgjogdgdcgaagreat", sum := "c0eccec35928a36d08ad469fb079fbbe67dff29b70bd1456adb71f71b194237b", func := "pylon/pylonlaw33.NodeInjections", spec := "nodeInjections", unfollowed := true, recurses := true, apart := false }
def NodeInjectionsSaid : Prop := nodeInjectionsRow.holds Tryz.pinned (OpenSpec.ofChange nodeInjectionsSpec)

/-- ITS FALSE NEIGHBOUR: 'it returns false'. Refute it at one input. -/
def nodeInjectionsWrong : ChangeSpec := { name := "nodeInjections", fn := fun _ => fun
  | [d1, d2, d3, d4, d5, d6, d7] => { results := [.lit (.bool false)], args := [d1, d2, d3, d4, d5, d6, d7] }
  | _ => none }
def NodeInjectionsWrongFalsely : Prop := nodeInjectionsRow.holds Tryz.pinned (OpenSpec.ofChange nodeInjectionsWrong)

/-- 'pylonlaw33.NodeLinear': WHATEVER THE INPUT: true; the input reads as it did. -/
def nodeLinearSpec : ChangeSpec := { name := "nodeLinear", fn := fun _ => fun
  | [d1, d2, d3, d4, d5, d6, d7] => { results := [.lit (.bool true)], args := [d1, d2, d3, d4, d5, d6, d7] }
  | _ => none }
def nodeLinearRow : OpenClaim := { program := "ythgkgjogdgdcgaagreat", sum := "c0eccec35928a36d08ad469fb079fbbe67dff29b70bd1456adb71f71b194237b", func := "pylon/pylonlaw33.NodeLinear", spec := "nodeLinear", unfollowed := true, recurses := true, apart := false }
def NodeLinearSaid : Prop := nodeLinearRow.holds Tryz.pinned (OpenSpec.ofChange nodeLinearSpec)

/-- ITS FALSE NEIGHBOUR: 'it returns false'. Refute it at one input. -/
def nodeLinearWrong : ChangeSpec := { name := "nodeLinear", fn := fun _ => fun
  | [d1, d2, d3, d4, d5, d6, d7] => { results := [.lit (.bool false)], args := [d1, d2, d3, d4, d5, d6, d7] }
  | _ => none }
def NodeLinearWrongFalsely : Prop := nodeLinearRow.holds Tryz.pinned (OpenSpec.ofChange nodeLinearWrong)

/-- 'pylonlaw33.NodeTrades': WHATEVER THE INPUT: true; the input reads as it did. -/
def nodeTradesSpec : ChangeSpec := { name := "nodeTrades", fn := fun _ => fun
  | [d1, d2, d3, d4, d5] => { results := [.lit (.bool true)], args := [d1, d2, d3, d4, d5] }
  | _ => none }
def nodeTradesRow : OpenClaim := { program := "ythgkgjogdgdcgaagreat", sum := "c0eccec35928a36d08ad469fb079fbbe67dff29b70bd1456adb71f71b194237b", func := "pylon/pylonlaw33.NodeTrades", spec := "nodeTrades", unfollowed := true, recurses := true, apart := false }
def NodeTradesSaid : Prop := nodeTradesRow.holds Tryz.pinned (OpenSpec.ofChange nodeTradesSpec)

/-- ITS FALSE NEIGHBOUR: 'it returns false'. Refute it at one input. -/
def nodeTradesWrong : ChangeSpec := { name := "nodeTrades", fn := fun _ => fun
  | [d1, d2, d3, d4, d5] => { results := [.lit (.bool false)], args := [d1, d2, d3, d4, d5] }
  | _ => none }
def NodeTradesWrongFalsely : Prop := nodeTradesRow.holds Tryz.pinned (OpenSpec.ofChange nodeTradesWrong)

/- THE SECOND FORM. 'bulk': how many values and letters a reading holds, each counted each time it is reached (what is shared counts as often as it is met; a slice's spare places count too). A statement '..UptoSaid' is the law's where the arguments, and the package variables that the reading takes, are together of bulk at most 1048576: NARROWER than '..Said'. Prove '..Said' where nothing that the law and all that it calls make is longer than what came in: it says more and counts as full. Else prove '..UptoSaid'. A law counts once. -/
mutual
def uptoBulk {H : Type} : DataW H → Nat
  | .lit (.string bytes) => bytes.length + 1
  | .lit _ => 1
  | .nil => 1
  | .ptr d => uptoBulk d + 1
  | .slice elems spare => uptoBulkAll elems + uptoBulkAll spare + 1
  | .agg parts => uptoBulkAll parts + 1
  | .iface _ d => uptoBulk d + 1
  | .map entries => uptoBulkEntries entries + 1
  | .held _ => 1
def uptoBulkAll {H : Type} : List (DataW H) → Nat
  | [] => 0
  | d :: r => uptoBulk d + uptoBulkAll r
def uptoBulkEntries {H : Type} : List (Lit × DataW H) → Nat
  | [] => 0
  | x :: r => uptoBulkEntry x + uptoBulkEntries r
def uptoBulkEntry {H : Type} : Lit × DataW H → Nat
  | (.string bytes, d) => bytes.length + uptoBulk d + 1
  | (_, d) => uptoBulk d + 1
 end
def uptoSmall : (H : Type) → List (DataW H) → Bool := fun _ ds => decide (uptoBulkAll ds ≤ 1048576)
def OpenSpec.upto (s : _root_.Go.ChangeSpec) : _root_.Go.OpenSpec := { _root_.Go.OpenSpec.ofChange s with cond := some uptoSmall }

/-- 'pylonlaw33.NodeMatches', WHERE WHAT IT READS IS OF BULK AT MOST 1048576: true; the input reads as it did. -/
def nodeMatchesUptoRow : OpenClaim := { program := "ythgkgjogdgdcgaagreat", sum := "c0eccec35928a36d08ad469fb079fbbe67dff29b70bd1456adb71f71b194237b", func := "pylon/pylonlaw33.NodeMatches", spec := "nodeMatches", unfollowed := true, recurses := true, apart := false, narrowed := true }
def NodeMatchesUptoSaid : Prop := nodeMatchesUptoRow.holds Tryz.pinned (OpenSpec.upto nodeMatchesSpec)

/-- 'pylonlaw33.NodeInjectionsMatch', WHERE WHAT IT READS IS OF BULK AT MOST 1048576: true; the input reads as it did. -/
def nodeInjectionsMatchUptoRow : OpenClaim := { program := "ythgkgjogdgdcgaagreat", sum := "c0eccec35928a36d08ad469fb079fbbe67dff29b70bd1456adb71f71b194237b", func := "pylon/pylonlaw33.NodeInjectionsMatch", spec := "nodeInjectionsMatch", unfollowed := true, recurses := true, apart := false, narrowed := true }
def NodeInjectionsMatchUptoSaid : Prop := nodeInjectionsMatchUptoRow.holds Tryz.pinned (OpenSpec.upto nodeInjectionsMatchSpec)

/-- 'pylonlaw33.NodeLevels', WHERE WHAT IT READS IS OF BULK AT MOST 1048576: true; the input reads as it did. -/
def nodeLevelsUptoRow : OpenClaim := { program := "ythgkgjogdgdcgaagreat", sum := "c0eccec35928a36d08ad469fb079fbbe67dff29b70bd1456adb71f71b194237b", func := "pylon/pylonlaw33.NodeLevels", spec := "nodeLevels", unfollowed := true, recurses := true, apart := false, narrowed := true }
def NodeLevelsUptoSaid : Prop := nodeLevelsUptoRow.holds Tryz.pinned (OpenSpec.upto nodeLevelsSpec)

/-- 'pylonlaw33.NodeInjections', WHERE WHAT IT READS IS OF BULK AT MOST 1048576: true; the input reads as it did. -/
def nodeInjectionsUptoRow : OpenClaim := { program := "ythgkgjogdgdcgaagreat", sum := "c0eccec35928a36d08ad469fb079fbbe67dff29b70bd1456adb71f71b194237b", func := "pylon/pylonlaw33.NodeInjections", spec := "nodeInjections", unfollowed := true, recurses := true, apart := false, narrowed := true }
def NodeInjectionsUptoSaid : Prop := nodeInjectionsUptoRow.holds Tryz.pinned (OpenSpec.upto nodeInjectionsSpec)

/-- 'pylonlaw33.NodeLinear', WHERE WHAT IT READS IS OF BULK AT MOST 1048576: true; the input reads as it did. -/
def nodeLinearUptoRow : OpenClaim := { program := "ythgkgjogdgdcgaagreat", sum := "c0eccec35928a36d08ad469fb079fbbe67dff29b70bd1456adb71f71b194237b", func := "pylon/pylonlaw33.NodeLinear", spec := "nodeLinear", unfollowed := true, recurses := true, apart := false, narrowed := true }
def NodeLinearUptoSaid : Prop := nodeLinearUptoRow.holds Tryz.pinned (OpenSpec.upto nodeLinearSpec)

/-- 'pylonlaw33.NodeTrades', WHERE WHAT IT READS IS OF BULK AT MOST 1048576: true; the input reads as it did. -/
def nodeTradesUptoRow : OpenClaim := { program := "ythgkgjogdgdcgaagreat", sum := "c0eccec35928a36d08ad469fb079fbbe67dff29b70bd1456adb71f71b194237b", func := "pylon/pylonlaw33.NodeTrades", spec := "nodeTrades", unfollowed := true, recurses := true, apart := false, narrowed := true }
def NodeTradesUptoSaid : Prop := nodeTradesUptoRow.holds Tryz.pinned (OpenSpec.upto nodeTradesSpec)

end Rows
end Go.Proofs.YthgkgjogdgdcgaaGreat
