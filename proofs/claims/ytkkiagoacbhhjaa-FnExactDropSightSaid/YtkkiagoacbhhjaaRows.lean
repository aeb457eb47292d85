/-
  No cell of these rows narrows 'for every input' (looked for: loops, veiled, ifaces, maps, wideKeys, modest, calm, conditions, laid).
  DERIVED. THE GIVEN ROWS OF THIS SEAT. 8 by the template 'for every input the law returns true; each argument reads behind the call as it read before'; 0 by the template 'total and deterministic' (their statements: YtkkiagoacbhhjaaTotals.lean).
  GIVEN WITH THE SEED: the statements are not yours to turn. If you find one false, say at which input.
  Laid BY PROGRAM, IN A SANDBOX (cutbox-rows.mjs): the forced cells as the released guide's own fill.sh prints them over the translation d9b070e2887dbf99… (all of the seat's roots in one cut). By AI agents, Wed Nov 11 2026. No macro, syntax, notation, axiom, sorry.
-/
import Derived.Test.YtkkiagoacbhhjaaChecked
import GoSem.Claim
import GoSem.ClaimJoined
import GoSem.ClaimMapViews
import Derived.JoinedTies
import Derived.KernelRfl
namespace Go.Proofs.Ytkkiagoacbhhjaa
/- THE CELL 'sum', in the pinned program and in every row, IS THE sha256 OF THE DUMP (.gsa) THAT YtkkiagoacbhhjaaProg.lean LOADS. Nothing in Lean hashes anything: it is a label: what it is worth is what the hold of that sum in a sandbox is worth. -/
noncomputable def Try.pinned : Pinned := { name := "ytkkiagoacbhhjaa", sum := "d9b070e2887dbf99b7b2ca0562249c8b4a58eed66516e33fdd7bea1b0b3b8c83", checked := Try.checked }
namespace Rows
def none {H : Type} : Left H := { results := [], args := [] }

/-- 'laws.FnExactValidDeed': WHATEVER THE INPUT: true; the input reads as it did. -/
def fnExactValidDeedSpec : ChangeSpec := { name := "fnExactValidDeed", fn := fun _ => fun
  | [d] => { results := [.lit (.bool true)], args := [d] }
  | _ => none }
def fnExactValidDeedRow : OpenClaim := { program := "ytkkiagoacbhhjaa", sum := "d9b070e2887dbf99b7b2ca0562249c8b4a58eed66516e33fdd7bea1b0b3b8c83", func := "loop.example/g01099/laws.FnExactValidDeed", spec := "fnExactValidDeed", unfollowed := true, recurses := true, apart := false }
def FnExactValidDeedSaid : Prop := fnExactValidDeedRow.holds Try.pinned (OpenSpec.ofChange fnExactValidDeedSpec)

/-- ITS FALSE NEIGHBOUR: 'it returns false'. Refute it at one input. -/
def fnExactValidDeedWrong : ChangeSpec := { name := "fnExactValidDeed", fn := fun _ => fun
  | [d] => { results := [.lit (.bool false)], args := [d] }
  | _ => none }
def FnExactValidDeedWrongFalsely : Prop := fnExactValidDeedRow.holds Try.pinned (OpenSpec.ofChange fnExactValidDeedWrong)

/-- 'laws.FnExactValidSurvey': WHATEVER THE INPUT: true; the input reads as it did. -/
def fnExactValidSurveySpec : ChangeSpec := { name := "fnExactValidSurvey", fn := fun _ => fun
  | [d] => { results := [.lit (.bool true)], args := [d] }
  | _ => none }
def fnExactValidSurveyRow : OpenClaim := { program := "ytkkiagoacbhhjaa", sum := "d9b070e2887dbf99b7b2ca0562249c8b4a58eed66516e33fdd7bea1b0b3b8c83", func := "loop.example/g01099/laws.FnExactValidSurvey", spec := "fnExactValidSurvey", unfollowed := true, recurses := true, apart := false }
def FnExactValidSurveySaid : Prop := fnExactValidSurveyRow.holds Try.pinned (OpenSpec.ofChange fnExactValidSurveySpec)

/-- ITS FALSE NEIGHBOUR: 'it returns false'. Refute it at one input. -/
def fnExactValidSurveyWrong : ChangeSpec := { name := "fnExactValidSurvey", fn := fun _ => fun
  | [d] => { results := [.lit (.bool false)], args := [d] }
  | _ => none }
def FnExactValidSurveyWrongFalsely : Prop := fnExactValidSurveyRow.holds Try.pinned (OpenSpec.ofChange fnExactValidSurveyWrong)

/-- 'laws.FnExactIsConnected': WHATEVER THE INPUT: true; the input reads as it did. -/
def fnExactIsConnectedSpec : ChangeSpec := { name := "fnExactIsConnected", fn := fun _ => fun
  | [d] => { results := [.lit (.bool true)], args := [d] }
  | _ => none }
def fnExactIsConnectedRow : OpenClaim := { program := "ytkkiagoacbhhjaa", sum := "d9b070e2887dbf99b7b2ca0562249c8b4a58eed66516e33fdd7bea1b0b3b8c83", func := "loop.example/g01099/laws.FnExactIsConnected", spec := "fnExactIsConnected", unfollowed := true, recurses := true, apart := false }
def FnExactIsConnectedSaid : Prop := fnExactIsConnectedRow.holds Try.pinned (OpenSpec.ofChange fnExactIsConnectedSpec)

/-- ITS FALSE NEIGHBOUR: 'it returns false'. Refute it at one input. -/
def fnExactIsConnectedWrong : ChangeSpec := { name := "fnExactIsConnected", fn := fun _ => fun
  | [d] => { results := [.lit (.bool false)], args := [d] }
  | _ => none }
def FnExactIsConnectedWrongFalsely : Prop := fnExactIsConnectedRow.holds Try.pinned (OpenSpec.ofChange fnExactIsConnectedWrong)

/-- 'laws.FnExactDropSight': WHATEVER THE INPUT: true; the input reads as it did. -/
def fnExactDropSightSpec : ChangeSpec := { name := "fnExactDropSight", fn := fun _ => fun
  | [d1, d2] => { results := [.lit (.bool true)], args := [d1, d2] }
  | _ => none }
def fnExactDropSightRow : OpenClaim := { program := "ytkkiagoacbhhjaa", sum := "d9b070e2887dbf99b7b2ca0562249c8b4a58eed66516e33fdd7bea1b0b3b8c83", func := "loop.example/g01099/laws.FnExactDropSight", spec := "fnExactDropSight", unfollowed := true, recurses := true, apart := false }
def FnExactDropSightSaid : Prop := fnExactDropSightRow.holds Try.pinned (OpenSpec.ofChange fnExactDropSightSpec)

/-- ITS FALSE NEIGHBOUR: 'it returns false'. Refute it at one input. -/
def fnExactDropSightWrong : ChangeSpec := { name := "fnExactDropSight", fn := fun _ => fun
  | [d1, d2] => { results := [.lit (.bool false)], args := [d1, d2] }
  | _ => none }
def FnExactDropSightWrongFalsely : Prop := fnExactDropSightRow.holds Try.pinned (OpenSpec.ofChange fnExactDropSightWrong)

/-- 'laws.FnExactTreeSights': WHATEVER THE INPUT: true; the input reads as it did. -/
def fnExactTreeSightsSpec : ChangeSpec := { name := "fnExactTreeSights", fn := fun _ => fun
  | [d] => { results := [.lit (.bool true)], args := [d] }
  | _ => none }
def fnExactTreeSightsRow : OpenClaim := { program := "ytkkiagoacbhhjaa", sum := "d9b070e2887dbf99b7b2ca0562249c8b4a58eed66516e33fdd7bea1b0b3b8c83", func := "loop.example/g01099/laws.FnExactTreeSights", spec := "fnExactTreeSights", unfollowed := true, recurses := true, apart := false }
def FnExactTreeSightsSaid : Prop := fnExactTreeSightsRow.holds Try.pinned (OpenSpec.ofChange fnExactTreeSightsSpec)

/-- ITS FALSE NEIGHBOUR: 'it returns false'. Refute it at one input. -/
def fnExactTreeSightsWrong : ChangeSpec := { name := "fnExactTreeSights", fn := fun _ => fun
  | [d] => { results := [.lit (.bool false)], args := [d] }
  | _ => none }
def FnExactTreeSightsWrongFalsely : Prop := fnExactTreeSightsRow.holds Try.pinned (OpenSpec.ofChange fnExactTreeSightsWrong)

/-- 'laws.FnExactTreeHeights': WHATEVER THE INPUT: true; the input reads as it did. -/
def fnExactTreeHeightsSpec : ChangeSpec := { name := "fnExactTreeHeights", fn := fun _ => fun
  | [d] => { results := [.lit (.bool true)], args := [d] }
  | _ => none }
def fnExactTreeHeightsRow : OpenClaim := { program := "ytkkiagoacbhhjaa", sum := "d9b070e2887dbf99b7b2ca0562249c8b4a58eed66516e33fdd7bea1b0b3b8c83", func := "loop.example/g01099/laws.FnExactTreeHeights", spec := "fnExactTreeHeights", unfollowed := true, recurses := true, apart := false }
def FnExactTreeHeightsSaid : Prop := fnExactTreeHeightsRow.holds Try.pinned (OpenSpec.ofChange fnExactTreeHeightsSpec)

/-- ITS FALSE NEIGHBOUR: 'it returns false'. Refute it at one input. -/
def fnExactTreeHeightsWrong : ChangeSpec := { name := "fnExactTreeHeights", fn := fun _ => fun
  | [d] => { results := [.lit (.bool false)], args := [d] }
  | _ => none }
def FnExactTreeHeightsWrongFalsely : Prop := fnExactTreeHeightsRow.holds Try.pinned (OpenSpec.ofChange fnExactTreeHeightsWrong)

/-- 'laws.FnExactLoopErrors': WHATEVER THE INPUT: true; the input reads as it did. -/
def fnExactLoopErrorsSpec : ChangeSpec := { name := "fnExactLoopErrors", fn := fun _ => fun
  | [d] => { results := [.lit (.bool true)], args := [d] }
  | _ => none }
def fnExactLoopErrorsRow : OpenClaim := { program := "ytkkiagoacbhhjaa", sum := "d9b070e2887dbf99b7b2ca0562249c8b4a58eed66516e33fdd7bea1b0b3b8c83", func := "loop.example/g01099/laws.FnExactLoopErrors", spec := "fnExactLoopErrors", unfollowed := true, recurses := true, apart := false }
def FnExactLoopErrorsSaid : Prop := fnExactLoopErrorsRow.holds Try.pinned (OpenSpec.ofChange fnExactLoopErrorsSpec)

/-- ITS FALSE NEIGHBOUR: 'it returns false'. Refute it at one input. -/
def fnExactLoopErrorsWrong : ChangeSpec := { name := "fnExactLoopErrors", fn := fun _ => fun
  | [d] => { results := [.lit (.bool false)], args := [d] }
  | _ => none }
def FnExactLoopErrorsWrongFalsely : Prop := fnExactLoopErrorsRow.holds Try.pinned (OpenSpec.ofChange fnExactLoopErrorsWrong)

/-- 'laws.FnExactUncheckedSights': WHATEVER THE INPUT: true; the input reads as it did. -/
def fnExactUncheckedSightsSpec : ChangeSpec := { name := "fnExactUncheckedSights", fn := fun _ => fun
  | [d] => { results := [.lit (.bool true)], args := [d] }
  | _ => none }
def fnExactUncheckedSightsRow : OpenClaim := { program := "ytkkiagoacbhhjaa", sum := "d9b070e2887dbf99b7b2ca0562249c8b4a58eed66516e33fdd7bea1b0b3b8c83", func := "loop.example/g01099/laws.FnExactUncheckedSights", spec := "fnExactUncheckedSights", unfollowed := true, recurses := true, apart := false }
def FnExactUncheckedSightsSaid : Prop := fnExactUncheckedSightsRow.holds Try.pinned (OpenSpec.ofChange fnExactUncheckedSightsSpec)

/-- ITS FALSE NEIGHBOUR: 'it returns false'. Refute it at one input. -/
def fnExactUncheckedSightsWrong : ChangeSpec := { name := "fnExactUncheckedSights", fn := fun _ => fun
  | [d] => { results := [.lit (.bool false)], args := [d] }
  | _ => none }
def FnExactUncheckedSightsWrongFalsely : Prop := fnExactUncheckedSightsRow.holds Try.pinned (OpenSpec.ofChange fnExactUncheckedSightsWrong)

/- THE SECOND FORM. 'bulk': how many values and letters a reading holds, each counted each time it is reached (what is shared counts as often as it is met; a slice's spare places count too). A statement '..UptoSaid' is the law's where the arguments, and the package variables that the reading takes, are together of bulk at most 1048576: NARROWER than '..Said'. Prove '..Said' where nothing that the law and all that it calls make is longer than what came in: it says more and counts as full. Else prove '..UptoSaid'. A law counts once. -/
mutual
def uptoBulk {H : Type} : DataW H → Nat
  | .lit (.string bytes) => bytes.length + 1
  | .lit _ => 1
  | .nil => 1
  | .ptr d => uptoBulk d + 1
  | .slice elems spare => uptoBulkAll elems + uptoBulkAll spare + 1
  | .agg parts => uptoBulkAll parts + 1
  | .iface _ d => uptoBulk d + 1
  | .map entries => uptoBulkEntries entries + 1
  | .held _ => 1
def uptoBulkAll {H : Type} : List (DataW H) → Nat
  | [] => 0
  | d :: r => uptoBulk d + uptoBulkAll r
def uptoBulkEntries {H : Type} : List (Lit × DataW H) → Nat
  | [] => 0
  | x :: r => uptoBulkEntry x + uptoBulkEntries r
def uptoBulkEntry {H : Type} : Lit × DataW H → Nat
  | (.string bytes, d) => bytes.length + uptoBulk d + 1
  | (_, d) => uptoBulk d + 1
 end
def uptoSmall : (H : Type) → List (DataW H) → Bool := fun _ ds => decide (uptoBulkAll ds ≤ 1048576)
def OpenSpec.upto (s : _root_.Go.ChangeSpec) : _root_.Go.OpenSpec := { _root_.Go.OpenSpec.ofChange s with cond := some uptoSmall }

/-- 'laws.FnExactValidDeed', WHERE WHAT IT READS IS OF BULK AT MOST 1048576: true; the input reads as it did. -/
def fnExactValidDeedUptoRow : OpenClaim := { program := "ytkkiagoacbhhjaa", sum := "d9b070e2887dbf99b7b2ca0562249c8b4a58eed66516e33fdd7bea1b0b3b8c83", func := "loop.example/g01099/laws.FnExactValidDeed", spec := "fnExactValidDeed", unfollowed := true, recurses := true, apart := false, narrowed := true }
def FnExactValidDeedUptoSaid : Prop := fnExactValidDeedUptoRow.holds Try.pinned (OpenSpec.upto fnExactValidDeedSpec)

/-- 'laws.FnExactValidSurvey', WHERE WHAT IT READS IS OF BULK AT MOST 1048576: true; the input reads as it did. -/
def fnExactValidSurveyUptoRow : OpenClaim := { program := "ytkkiagoacbhhjaa", sum := "d9b070e2887dbf99b7b2ca0562249c8b4a58eed66516e33fdd7bea1b0b3b8c83", func := "loop.example/g01099/laws.FnExactValidSurvey", spec := "fnExactValidSurvey", unfollowed := true, recurses := true, apart := false, narrowed := true }
def FnExactValidSurveyUptoSaid : Prop := fnExactValidSurveyUptoRow.holds Try.pinned (OpenSpec.upto fnExactValidSurveySpec)

/-- 'laws.FnExactIsConnected', WHERE WHAT IT READS IS OF BULK AT MOST 1048576: true; the input reads as it did. -/
def fnExactIsConnectedUptoRow : OpenClaim := { program := "ytkkiagoacbhhjaa", sum := "d9b070e2887dbf99b7b2ca0562249c8b4a58eed66516e33fdd7bea1b0b3b8c83", func := "loop.example/g01099/laws.FnExactIsConnected", spec := "fnExactIsConnected", unfollowed := true, recurses := true, apart := false, narrowed := true }
def FnExactIsConnectedUptoSaid : Prop := fnExactIsConnectedUptoRow.holds Try.pinned (OpenSpec.upto fnExactIsConnectedSpec)

/-- 'laws.FnExactDropSight', WHERE WHAT IT READS IS OF BULK AT MOST 1048576: true; the input reads as it did. -/
def fnExactDropSightUptoRow : OpenClaim := { program := "ytkkiagoacbhhjaa", sum := "d9b070e2887dbf99b7b2ca0562249c8b4a58eed66516e33fdd7bea1b0b3b8c83", func := "loop.example/g01099/laws.FnExactDropSight", spec := "fnExactDropSight", unfollowed := true, recurses := true, apart := false, narrowed := true }
def FnExactDropSightUptoSaid : Prop := fnExactDropSightUptoRow.holds Try.pinned (OpenSpec.upto fnExactDropSightSpec)

/-- 'laws.FnExactTreeSights', WHERE WHAT IT READS IS OF BULK AT MOST 1048576: true; the input reads as it did. -/
def fnExactTreeSightsUptoRow : OpenClaim := { program := "ytkkiagoacbhhjaa", sum := "d9b070e2887dbf99b7b2ca0562249c8b4a58eed66516e33fdd7bea1b0b3b8c83", func := "loop.example/g01099/laws.FnExactTreeSights", spec := "fnExactTreeSights", unfollowed := true, recurses := true, apart := false, narrowed := true }
def FnExactTreeSightsUptoSaid : Prop := fnExactTreeSightsUptoRow.holds Try.pinned (OpenSpec.upto fnExactTreeSightsSpec)

/-- 'laws.FnExactTreeHeights', WHERE WHAT IT READS IS OF BULK AT MOST 1048576: true; the input reads as it did. -/
def fnExactTreeHeightsUptoRow : OpenClaim := { program := "ytkkiagoacbhhjaa", sum := "d9b070e2887dbf99b7b2ca0562249c8b4a58eed66516e33fdd7bea1b0b3b8c83", func := "loop.example/g01099/laws.FnExactTreeHeights", spec := "fnExactTreeHeights", unfollowed := true, recurses := true, apart := false, narrowed := true }
def FnExactTreeHeightsUptoSaid : Prop := fnExactTreeHeightsUptoRow.holds Try.pinned (OpenSpec.upto fnExactTreeHeightsSpec)

/-- 'laws.FnExactLoopErrors', WHERE WHAT IT READS IS OF BULK AT MOST 1048576: true; the input reads as it did. -/
def fnExactLoopErrorsUptoRow : OpenClaim := { program := "ytkkiagoacbhhjaa", sum := "d9b070e2887dbf99b7b2ca0562249c8b4a58eed66516e33fdd7bea1b0b3b8c83", func := "loop.example/g01099/laws.FnExactLoopErrors", spec := "fnExactLoopErrors", unfollowed := true, recurses := true, apart := false, narrowed := true }
def FnExactLoopErrorsUptoSaid : Prop := fnExactLoopErrorsUptoRow.holds Try.pinned (OpenSpec.upto fnExactLoopErrorsSpec)

/-- 'laws.FnExactUncheckedSights', WHERE WHAT IT READS IS OF BULK AT MOST 1048576: true; the input reads as it did. -/
def fnExactUncheckedSightsUptoRow : OpenClaim := { program := "ytkkiagoacbhhjaa", sum := "d9b070e2887dbf99b7b2ca0562249c8b4a58eed66516e33fdd7bea1b0b3b8c83", func := "loop.example/g01099/laws.FnExactUncheckedSights", spec := "fnExactUncheckedSights", unfollowed := true, recurses := true, apart := false, narrowed := true }
def FnExactUncheckedSightsUptoSaid : Prop := fnExactUncheckedSightsUptoRow.holds Try.pinned (OpenSpec.upto fnExactUncheckedSightsSpec)

end Rows
end Go.Proofs.Ytkkiagoacbhhjaa
