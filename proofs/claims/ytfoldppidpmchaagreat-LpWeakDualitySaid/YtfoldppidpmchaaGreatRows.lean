/-
  No cell of these rows narrows 'for every input' (looked for: loops, veiled, ifaces, maps, wideKeys, modest, calm, conditions, laid).
  DERIVED. THE GIVEN ROWS OF THIS SEAT. 6 by the template 'for every input the law returns true; each argument reads behind the call as it read before'; 0 by the template 'total and deterministic' (their statements: YtfoldppidpmchaaGreatTotals.lean).
  GIVEN WITH THE SEED: the statements are not yours to turn. If you find one false, say at which input.
  Laid BY PROGRAM, IN A SANDBOX (cutbox-rows.mjs): the forced cells as the released guide's own fill.sh prints them over the translation dd6d111a057b0e47… (all of the seat's roots in one cut). By AI agents, Wed Nov 11 2026. No macro, syntax, notation, axiom, sorry.
-/
import Derived.Test.YtfoldppidpmchaaGreatChecked
import GoSem.Claim
import GoSem.ClaimJoined
import GoSem.ClaimMapViews
import Derived.JoinedTies
import Derived.KernelRfl
namespace Go.Proofs.YtfoldppidpmchaaGreat
/- THE CELL 'sum', in the pinned program and in every row, IS THE sha256 OF THE DUMP (.gsa) THAT YtfoldppidpmchaaGreatProg.lean LOADS. Nothing in Lean hashes anything: it is a label: what it is worth is what the hold of that sum in a sandbox is worth. -/
noncomputable def Tryz.pinned : Pinned := { name := "ytfoldppidpmchaagreat", sum := "dd6d111a057b0e472f8910b746b801837c075d999dce4cbda47090a4d1037675", checked := Tryz.checked }
namespace Rows
def none {H : Type} : Left H := { results := [], args := [] }

/-- 'pylonlaw06.LpExamples': WHATEVER THE INPUT: true; the input reads as it did. -/
def lpExamplesSpec : ChangeSpec := { name := "lpExamples", fn := fun _ => fun
  | [] => { results := [.lit (.bool true)], args := [] }
  | _ => none }
def lpExamplesRow : OpenClaim := { program := "ytfoldppidpmchaagreat", sum := "dd6d111a057b0e472f8910b746b801837c075d999dce4cbda47090a4d1037675", func := "pylon/pylonlaw06.LpExamples", spec := "lpExamples", unfollowed := true, recurses := true, apart := false }
def LpExamplesSaid : Prop := lpExamplesRow.holds Tryz.pinned (OpenSpec.ofChange lpExamplesSpec)

/-- ITS FALSE NEIGHBOUR: 'it returns false'. Refute it at one input. -/
def lpExamplesWrong : ChangeSpec := { name := "lpExamples", fn := fun _ => fun
  | [] => { results := [.lit (.bool false)], args := [] }
  | _ => none }
def LpExamplesWrongFalsely : Prop := lpExamplesRow.holds Tryz.pinned (OpenSpec.ofChange lpExamplesWrong)

/-- 'pylonlaw06.LpSameMatches': WHATEVER THE INPUT: true; the input reads as it did. -/
def lpSameMatchesSpec : ChangeSpec := { name := "lpSameMatches", fn := fun _ => fun
  | [d1, d2] => { results := [.lit (.bool true)], args := [d1, d2] }
  | _ => none }
def lpSameMatchesRow : OpenClaim := { program := "ytfoldppidpmchaagreat", sum := "dd6d111a057b0e472f8910b746b801837c075d999dce4cbda47090a4d1037675", func := "pylon/pylonlaw06.LpSameMatches", spec := "lpSameMatches", unfollowed := true, recurses := true, apart := false }
def LpSameMatchesSaid : Prop := lpSameMatchesRow.holds Tryz.pinned (OpenSpec.ofChange lpSameMatchesSpec)

/-- ITS FALSE NEIGHBOUR: 'it returns false'. Refute it at one input. -/
def lpSameMatchesWrong : ChangeSpec := { name := "lpSameMatches", fn := fun _ => fun
  | [d1, d2] => { results := [.lit (.bool false)], args := [d1, d2] }
  | _ => none }
def LpSameMatchesWrongFalsely : Prop := lpSameMatchesRow.holds Tryz.pinned (OpenSpec.ofChange lpSameMatchesWrong)

/-- 'pylonlaw06.LpDualDual': WHATEVER THE INPUT: true; the input reads as it did. -/
def lpDualDualSpec : ChangeSpec := { name := "lpDualDual", fn := fun _ => fun
  | [d] => { results := [.lit (.bool true)], args := [d] }
  | _ => none }
def lpDualDualRow : OpenClaim := { program := "ytfoldppidpmchaagreat", sum := "dd6d111a057b0e472f8910b746b801837c075d999dce4cbda47090a4d1037675", func := "pylon/pylonlaw06.LpDualDual", spec := "lpDualDual", unfollowed := true, recurses := true, apart := false }
def LpDualDualSaid : Prop := lpDualDualRow.holds Tryz.pinned (OpenSpec.ofChange lpDualDualSpec)

/-- ITS FALSE NEIGHBOUR: 'it returns false'. Refute it at one input. -/
def lpDualDualWrong : ChangeSpec := { name := "lpDualDual", fn := fun _ => fun
  | [d] => { results := [.lit (.bool false)], args := [d] }
  | _ => none }
def LpDualDualWrongFalsely : Prop := lpDualDualRow.holds Tryz.pinned (OpenSpec.ofChange lpDualDualWrong)

/-- 'pylonlaw06.LpWeakDuality': WHATEVER THE INPUT: true; the input reads as it did. -/
def lpWeakDualitySpec : ChangeSpec := { name := "lpWeakDuality", fn := fun _ => fun
  | [d1, d2, d3] => { results := [.lit (.bool true)], args := [d1, d2, d3] }
  | _ => none }
def lpWeakDualityRow : OpenClaim := { program := "ytfoldppidpmchaagreat", sum := "dd6d111a057b0e472f8910b746b801837c075d999dce4cbda47090a4d1037675", func := "pylon/pylonlaw06.LpWeakDuality", spec := "lpWeakDuality", unfollowed := true, recurses := true, apart := false }
def LpWeakDualitySaid : Prop := lpWeakDualityRow.holds Tryz.pinned (OpenSpec.ofChange lpWeakDualitySpec)

/-- ITS FALSE NEIGHBOUR: 'it returns false'. Refute it at one input. -/
def lpWeakDualityWrong : ChangeSpec := { name := "lpWeakDuality", fn := fun _ => fun
  | [d1, d2, d3] => { results := [.lit (.bool false)], args := [d1, d2, d3] }
  | _ => none }
def LpWeakDualityWrongFalsely : Prop := lpWeakDualityRow.holds Tryz.pinned (OpenSpec.ofChange lpWeakDualityWrong)

/-- 'pylonlaw06.LpBuildMatches': WHATEVER THE INPUT: true; the input reads as it did. -/
def lpBuildMatchesSpec : ChangeSpec := { name := "lpBuildMatches", fn := fun _ => fun
  | [d1, d2, d3, d4] => { results := [.lit (.bool true)], args := [d1, d2, d3, d4] }
  | _ => none }
def lpBuildMatchesRow : OpenClaim := { program := "ytfoldppidpmchaagreat", sum := "dd6d111a057b0e472f8910b746b801837c075d999dce4cbda47090a4d1037675", func := "pylon/pylonlaw06.LpBuildMatches", spec := "lpBuildMatches", unfollowed := true, recurses := true, apart := false }
def LpBuildMatchesSaid : Prop := lpBuildMatchesRow.holds Tryz.pinned (OpenSpec.ofChange lpBuildMatchesSpec)

/-- ITS FALSE NEIGHBOUR: 'it returns false'. Refute it at one input. -/
def lpBuildMatchesWrong : ChangeSpec := { name := "lpBuildMatches", fn := fun _ => fun
  | [d1, d2, d3, d4] => { results := [.lit (.bool false)], args := [d1, d2, d3, d4] }
  | _ => none }
def LpBuildMatchesWrongFalsely : Prop := lpBuildMatchesRow.holds Tryz.pinned (OpenSpec.ofChange lpBuildMatchesWrong)

/-- 'pylonlaw06.LpConstraints': WHATEVER THE INPUT: true; the input reads as it did. -/
def lpConstraintsSpec : ChangeSpec := { name := "lpConstraints", fn := fun _ => fun
  | [d1, d2, d3, d4, d5] => { results := [.lit (.bool true)], args := [d1, d2, d3, d4, d5] }
  | _ => none }
def lpConstraintsRow : OpenClaim := { program := "ytfoldppidpmchaagreat", sum := "dd6d111a057b0e472f8910b746b801837c075d999dce4cbda47090a4d1037675", func := "pylon/pylonlaw06.LpConstraints", spec := "lpConstraints", unfollowed := true, recurses := true, apart := false }
def LpConstraintsSaid : Prop := lpConstraintsRow.holds Tryz.pinned (OpenSpec.ofChange lpConstraintsSpec)

/-- ITS FALSE NEIGHBOUR: 'it returns false'. Refute it at one input. -/
def lpConstraintsWrong : ChangeSpec := { name := "lpConstraints", fn := fun _ => fun
  | [d1, d2, d3, d4, d5] => { results := [.lit (.bool false)], args := [d1, d2, d3, d4, d5] }
  | _ => none }
def LpConstraintsWrongFalsely : Prop := lpConstraintsRow.holds Tryz.pinned (OpenSpec.ofChange lpConstraintsWrong)

/- THE SECOND FORM. 'bulk': how many values and letters a reading holds, each counted each time it is reached (what is shared counts as often as it is met; a slice's spare places count too). A statement '..UptoSaid' is the law's where the arguments, and the package variables that the reading takes, are together of bulk at most 1048576: NARROWER than '..Said'. Prove '..Said' where nothing that the law and all that it calls make is longer than what came in: it says more and counts as full. Else prove '..UptoSaid'. A law counts once. -/
mutual
def uptoBulk {H : Type} : DataW H → Nat
  | .lit (.string bytes) => bytes.length + 1
  | .lit _ => 1
  | .nil => 1
  | .ptr d => uptoBulk d + 1
  | .slice elems spare => uptoBulkAll elems + uptoBulkAll spare + 1
  | .agg parts => uptoBulkAll parts + 1
  | .iface _ d => uptoBulk d + 1
  | .map entries => uptoBulkEntries entries + 1
  | .held _ => 1
def uptoBulkAll {H : Type} : List (DataW H) → Nat
  | [] => 0
  | d :: r => uptoBulk d + uptoBulkAll r
def uptoBulkEntries {H : Type} : List (Lit × DataW H) → Nat
  | [] => 0
  | x :: r => uptoBulkEntry x + uptoBulkEntries r
def uptoBulkEntry {H : Type} : Lit × DataW H → Nat
  | (.string bytes, d) => bytes.length + uptoBulk d + 1
  | (_, d) => uptoBulk d + 1
 end
def uptoSmall : (H : Type) → List (DataW H) → Bool := fun _ ds => decide (uptoBulkAll ds ≤ 1048576)
def OpenSpec.upto (s : _root_.Go.ChangeSpec) : _root_.Go.OpenSpec := { _root_.Go.OpenSpec.ofChange s with cond := some uptoSmall }

/-- 'pylonlaw06.LpExamples', WHERE WHAT IT READS IS OF BULK AT MOST 1048576: true; the input reads as it did. -/
def lpExamplesUptoRow : OpenClaim := { program := "ytfoldppidpmchaagreat", sum := "dd6d111a057b0e472f8910b746b801837c075d999dce4cbda47090a4d1037675", func := "pylon/pylonlaw06.LpExamples", spec := "lpExamples", unfollowed := true, recurses := true, apart := false, narrowed := true }
def LpExamplesUptoSaid : Prop := lpExamplesUptoRow.holds Tryz.pinned (OpenSpec.upto lpExamplesSpec)

/-- 'pylonlaw06.LpSameMatches', WHERE WHAT IT READS IS OF BULK AT MOST 1048576: true; the input reads as it did. -/
def lpSameMatchesUptoRow : OpenClaim := { program := "ytfoldppidpmchaagreat", sum := "dd6d111a057b0e472f8910b746b801837c075d999dce4cbda47090a4d1037675", func := "pylon/pylonlaw06.LpSameMatches", spec := "lpSameMatches", unfollowed := true, recurses := true, apart := false, narrowed := true }
def LpSameMatchesUptoSaid : Prop := lpSameMatchesUptoRow.holds Tryz.pinned (OpenSpec.upto lpSameMatchesSpec)

/-- 'pylonlaw06.LpDualDual', WHERE WHAT IT READS IS OF BULK AT MOST 1048576: true; the input reads as it did. -/
def lpDualDualUptoRow : OpenClaim := { program := "ytfoldppidpmchaagreat", sum := "dd6d111a057b0e472f8910b746b801837c075d999dce4cbda47090a4d1037675", func := "pylon/pylonlaw06.LpDualDual", spec := "lpDualDual", unfollowed := true, recurses := true, apart := false, narrowed := true }
def LpDualDualUptoSaid : Prop := lpDualDualUptoRow.holds Tryz.pinned (OpenSpec.upto lpDualDualSpec)

/-- 'pylonlaw06.LpWeakDuality', WHERE WHAT IT READS IS OF BULK AT MOST 1048576: true; the input reads as it did. -/
def lpWeakDualityUptoRow : OpenClaim := { program := "ytfoldppidpmchaagreat", sum := "dd6d111a057b0e472f8910b746b801837c075d999dce4cbda47090a4d1037675", func := "pylon/pylonlaw06.LpWeakDuality", spec := "lpWeakDuality", unfollowed := true, recurses := true, apart := false, narrowed := true }
def LpWeakDualityUptoSaid : Prop := lpWeakDualityUptoRow.holds Tryz.pinned (OpenSpec.upto lpWeakDualitySpec)

/-- 'pylonlaw06.LpBuildMatches', WHERE WHAT IT READS IS OF BULK AT MOST 1048576: true; the input reads as it did. -/
def lpBuildMatchesUptoRow : OpenClaim := { program := "ytfoldppidpmchaagreat", sum := "dd6d111a057b0e472f8910b746b801837c075d999dce4cbda47090a4d1037675", func := "pylon/pylonlaw06.LpBuildMatches", spec := "lpBuildMatches", unfollowed := true, recurses := true, apart := false, narrowed := true }
def LpBuildMatchesUptoSaid : Prop := lpBuildMatchesUptoRow.holds Tryz.pinned (OpenSpec.upto lpBuildMatchesSpec)

/-- 'pylonlaw06.LpConstraints', WHERE WHAT IT READS IS OF BULK AT MOST 1048576: true; the input reads as it did. -/
def lpConstraintsUptoRow : OpenClaim := { program := "ytfoldppidpmchaagreat", sum := "dd6d111a057b0e472f8910b746b801837c075d999dce4cbda47090a4d1037675", func := "pylon/pylonlaw06.LpConstraints", spec := "lpConstraints", unfollowed := true, recurses := true, apart := false, narrowed := true }
def LpConstraintsUptoSaid : Prop := lpConstraintsUptoRow.holds Tryz.pinned (OpenSpec.upto lpConstraintsSpec)

end Rows
end Go.Proofs.YtfoldppidpmchaaGreat
