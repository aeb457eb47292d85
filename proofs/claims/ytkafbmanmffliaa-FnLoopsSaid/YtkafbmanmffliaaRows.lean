/-
  No cell of these rows narrows 'for every input' (looked for: loops, veiled, ifaces, maps, wideKeys, modest, calm, conditions, laid).
  DERIVED. THE GIVEN ROWS OF THIS SEAT. 14 by the template 'for every input the law returns true; each argument reads behind the call as it read before'; 0 by the template 'total and deterministic' (their statements: YtkafbmanmffliaaTotals.lean).
  GIVEN WITH THE SEED: the statements are not yours to turn. If you find one false, say at which input.
  Laid BY PROGRAM, IN A SANDBOX (cutbox-rows.mjs): the forced cells as the released guide's own fill.sh prints them over the translation 8dad25c0856eb3a3… (all of the seat's roots in one cut). By AI agents, Wed Nov 11 2026. No macro, syntax, notation, axiom, sorry.
-/
import Derived.Test.YtkafbmanmffliaaChecked
import GoSem.Claim
import GoSem.ClaimJoined
import GoSem.ClaimMapViews
import Derived.JoinedTies
import Derived.KernelRfl
namespace Go.Proofs.Ytkafbmanmffliaa
/- THE CELL 'sum', in the pinned program and in every row, IS THE sha256 OF THE DUMP (.gsa) THAT YtkafbmanmffliaaProg.lean LOADS. Nothing in Lean hashes anything: it is a label: what it is worth is what the hold of that sum in a sandbox is worth. -/
noncomputable def Try.pinned : Pinned := { name := "ytkafbmanmffliaa", sum := "8dad25c0856eb3a3a683cd96fadf6a6c4f785fa458384d395fa52ee37548161e", checked := Try.checked }
namespace Rows
def none {H : Type} : Left H := { results := [], args := [] }

/-- 'laws.FnNormalEquations': WHATEVER THE INPUT: true; the input reads as it did. -/
def fnNormalEquationsSpec : ChangeSpec := { name := "fnNormalEquations", fn := fun _ => fun
  | [d1, d2] => { results := [.lit (.bool true)], args := [d1, d2] }
  | _ => none }
def fnNormalEquationsRow : OpenClaim := { program := "ytkafbmanmffliaa", sum := "8dad25c0856eb3a3a683cd96fadf6a6c4f785fa458384d395fa52ee37548161e", func := "loop.example/g01099/laws.FnNormalEquations", spec := "fnNormalEquations", unfollowed := true, recurses := true, apart := false }
def FnNormalEquationsSaid : Prop := fnNormalEquationsRow.holds Try.pinned (OpenSpec.ofChange fnNormalEquationsSpec)

/-- ITS FALSE NEIGHBOUR: 'it returns false'. Refute it at one input. -/
def fnNormalEquationsWrong : ChangeSpec := { name := "fnNormalEquations", fn := fun _ => fun
  | [d1, d2] => { results := [.lit (.bool false)], args := [d1, d2] }
  | _ => none }
def FnNormalEquationsWrongFalsely : Prop := fnNormalEquationsRow.holds Try.pinned (OpenSpec.ofChange fnNormalEquationsWrong)

/-- 'laws.FnCofactors': WHATEVER THE INPUT: true; the input reads as it did. -/
def fnCofactorsSpec : ChangeSpec := { name := "fnCofactors", fn := fun _ => fun
  | [d1, d2] => { results := [.lit (.bool true)], args := [d1, d2] }
  | _ => none }
def fnCofactorsRow : OpenClaim := { program := "ytkafbmanmffliaa", sum := "8dad25c0856eb3a3a683cd96fadf6a6c4f785fa458384d395fa52ee37548161e", func := "loop.example/g01099/laws.FnCofactors", spec := "fnCofactors", unfollowed := true, recurses := true, apart := false }
def FnCofactorsSaid : Prop := fnCofactorsRow.holds Try.pinned (OpenSpec.ofChange fnCofactorsSpec)

/-- ITS FALSE NEIGHBOUR: 'it returns false'. Refute it at one input. -/
def fnCofactorsWrong : ChangeSpec := { name := "fnCofactors", fn := fun _ => fun
  | [d1, d2] => { results := [.lit (.bool false)], args := [d1, d2] }
  | _ => none }
def FnCofactorsWrongFalsely : Prop := fnCofactorsRow.holds Try.pinned (OpenSpec.ofChange fnCofactorsWrong)

/-- 'laws.FnLeastSquares': WHATEVER THE INPUT: true; the input reads as it did. -/
def fnLeastSquaresSpec : ChangeSpec := { name := "fnLeastSquares", fn := fun _ => fun
  | [d1, d2] => { results := [.lit (.bool true)], args := [d1, d2] }
  | _ => none }
def fnLeastSquaresRow : OpenClaim := { program := "ytkafbmanmffliaa", sum := "8dad25c0856eb3a3a683cd96fadf6a6c4f785fa458384d395fa52ee37548161e", func := "loop.example/g01099/laws.FnLeastSquares", spec := "fnLeastSquares", unfollowed := true, recurses := true, apart := false }
def FnLeastSquaresSaid : Prop := fnLeastSquaresRow.holds Try.pinned (OpenSpec.ofChange fnLeastSquaresSpec)

/-- ITS FALSE NEIGHBOUR: 'it returns false'. Refute it at one input. -/
def fnLeastSquaresWrong : ChangeSpec := { name := "fnLeastSquares", fn := fun _ => fun
  | [d1, d2] => { results := [.lit (.bool false)], args := [d1, d2] }
  | _ => none }
def FnLeastSquaresWrongFalsely : Prop := fnLeastSquaresRow.holds Try.pinned (OpenSpec.ofChange fnLeastSquaresWrong)

/-- 'laws.FnExactCofactorOf': WHATEVER THE INPUT: true; the input reads as it did. -/
def fnExactCofactorOfSpec : ChangeSpec := { name := "fnExactCofactorOf", fn := fun _ => fun
  | [d1, d2, d3] => { results := [.lit (.bool true)], args := [d1, d2, d3] }
  | _ => none }
def fnExactCofactorOfRow : OpenClaim := { program := "ytkafbmanmffliaa", sum := "8dad25c0856eb3a3a683cd96fadf6a6c4f785fa458384d395fa52ee37548161e", func := "loop.example/g01099/laws.FnExactCofactorOf", spec := "fnExactCofactorOf", unfollowed := true, recurses := true, apart := false }
def FnExactCofactorOfSaid : Prop := fnExactCofactorOfRow.holds Try.pinned (OpenSpec.ofChange fnExactCofactorOfSpec)

/-- ITS FALSE NEIGHBOUR: 'it returns false'. Refute it at one input. -/
def fnExactCofactorOfWrong : ChangeSpec := { name := "fnExactCofactorOf", fn := fun _ => fun
  | [d1, d2, d3] => { results := [.lit (.bool false)], args := [d1, d2, d3] }
  | _ => none }
def FnExactCofactorOfWrongFalsely : Prop := fnExactCofactorOfRow.holds Try.pinned (OpenSpec.ofChange fnExactCofactorOfWrong)

/-- 'laws.FnLoops': WHATEVER THE INPUT: true; the input reads as it did. -/
def fnLoopsSpec : ChangeSpec := { name := "fnLoops", fn := fun _ => fun
  | [d1, d2] => { results := [.lit (.bool true)], args := [d1, d2] }
  | _ => none }
def fnLoopsRow : OpenClaim := { program := "ytkafbmanmffliaa", sum := "8dad25c0856eb3a3a683cd96fadf6a6c4f785fa458384d395fa52ee37548161e", func := "loop.example/g01099/laws.FnLoops", spec := "fnLoops", unfollowed := true, recurses := true, apart := false }
def FnLoopsSaid : Prop := fnLoopsRow.holds Try.pinned (OpenSpec.ofChange fnLoopsSpec)

/-- ITS FALSE NEIGHBOUR: 'it returns false'. Refute it at one input. -/
def fnLoopsWrong : ChangeSpec := { name := "fnLoops", fn := fun _ => fun
  | [d1, d2] => { results := [.lit (.bool false)], args := [d1, d2] }
  | _ => none }
def FnLoopsWrongFalsely : Prop := fnLoopsRow.holds Try.pinned (OpenSpec.ofChange fnLoopsWrong)

/-- 'laws.FnExactRiseBetween': WHATEVER THE INPUT: true; the input reads as it did. -/
def fnExactRiseBetweenSpec : ChangeSpec := { name := "fnExactRiseBetween", fn := fun _ => fun
  | [d1, d2, d3] => { results := [.lit (.bool true)], args := [d1, d2, d3] }
  | _ => none }
def fnExactRiseBetweenRow : OpenClaim := { program := "ytkafbmanmffliaa", sum := "8dad25c0856eb3a3a683cd96fadf6a6c4f785fa458384d395fa52ee37548161e", func := "loop.example/g01099/laws.FnExactRiseBetween", spec := "fnExactRiseBetween", unfollowed := true, recurses := true, apart := false }
def FnExactRiseBetweenSaid : Prop := fnExactRiseBetweenRow.holds Try.pinned (OpenSpec.ofChange fnExactRiseBetweenSpec)

/-- ITS FALSE NEIGHBOUR: 'it returns false'. Refute it at one input. -/
def fnExactRiseBetweenWrong : ChangeSpec := { name := "fnExactRiseBetween", fn := fun _ => fun
  | [d1, d2, d3] => { results := [.lit (.bool false)], args := [d1, d2, d3] }
  | _ => none }
def FnExactRiseBetweenWrongFalsely : Prop := fnExactRiseBetweenRow.holds Try.pinned (OpenSpec.ofChange fnExactRiseBetweenWrong)

/-- 'laws.FnRedundant': WHATEVER THE INPUT: true; the input reads as it did. -/
def fnRedundantSpec : ChangeSpec := { name := "fnRedundant", fn := fun _ => fun
  | [d1, d2] => { results := [.lit (.bool true)], args := [d1, d2] }
  | _ => none }
def fnRedundantRow : OpenClaim := { program := "ytkafbmanmffliaa", sum := "8dad25c0856eb3a3a683cd96fadf6a6c4f785fa458384d395fa52ee37548161e", func := "loop.example/g01099/laws.FnRedundant", spec := "fnRedundant", unfollowed := true, recurses := true, apart := false }
def FnRedundantSaid : Prop := fnRedundantRow.holds Try.pinned (OpenSpec.ofChange fnRedundantSpec)

/-- ITS FALSE NEIGHBOUR: 'it returns false'. Refute it at one input. -/
def fnRedundantWrong : ChangeSpec := { name := "fnRedundant", fn := fun _ => fun
  | [d1, d2] => { results := [.lit (.bool false)], args := [d1, d2] }
  | _ => none }
def FnRedundantWrongFalsely : Prop := fnRedundantRow.holds Try.pinned (OpenSpec.ofChange fnRedundantWrong)

/-- 'laws.FnExactSquareSumOf': WHATEVER THE INPUT: true; the input reads as it did. -/
def fnExactSquareSumOfSpec : ChangeSpec := { name := "fnExactSquareSumOf", fn := fun _ => fun
  | [d] => { results := [.lit (.bool true)], args := [d] }
  | _ => none }
def fnExactSquareSumOfRow : OpenClaim := { program := "ytkafbmanmffliaa", sum := "8dad25c0856eb3a3a683cd96fadf6a6c4f785fa458384d395fa52ee37548161e", func := "loop.example/g01099/laws.FnExactSquareSumOf", spec := "fnExactSquareSumOf", unfollowed := true, recurses := true, apart := false }
def FnExactSquareSumOfSaid : Prop := fnExactSquareSumOfRow.holds Try.pinned (OpenSpec.ofChange fnExactSquareSumOfSpec)

/-- ITS FALSE NEIGHBOUR: 'it returns false'. Refute it at one input. -/
def fnExactSquareSumOfWrong : ChangeSpec := { name := "fnExactSquareSumOf", fn := fun _ => fun
  | [d] => { results := [.lit (.bool false)], args := [d] }
  | _ => none }
def FnExactSquareSumOfWrongFalsely : Prop := fnExactSquareSumOfRow.holds Try.pinned (OpenSpec.ofChange fnExactSquareSumOfWrong)

/-- 'laws.FnExactAdjustSurvey': WHATEVER THE INPUT: true; the input reads as it did. -/
def fnExactAdjustSurveySpec : ChangeSpec := { name := "fnExactAdjustSurvey", fn := fun _ => fun
  | [d] => { results := [.lit (.bool true)], args := [d] }
  | _ => none }
def fnExactAdjustSurveyRow : OpenClaim := { program := "ytkafbmanmffliaa", sum := "8dad25c0856eb3a3a683cd96fadf6a6c4f785fa458384d395fa52ee37548161e", func := "loop.example/g01099/laws.FnExactAdjustSurvey", spec := "fnExactAdjustSurvey", unfollowed := true, recurses := true, apart := false }
def FnExactAdjustSurveySaid : Prop := fnExactAdjustSurveyRow.holds Try.pinned (OpenSpec.ofChange fnExactAdjustSurveySpec)

/-- ITS FALSE NEIGHBOUR: 'it returns false'. Refute it at one input. -/
def fnExactAdjustSurveyWrong : ChangeSpec := { name := "fnExactAdjustSurvey", fn := fun _ => fun
  | [d] => { results := [.lit (.bool false)], args := [d] }
  | _ => none }
def FnExactAdjustSurveyWrongFalsely : Prop := fnExactAdjustSurveyRow.holds Try.pinned (OpenSpec.ofChange fnExactAdjustSurveyWrong)

/-- 'laws.FnExactBlunderIn': WHATEVER THE INPUT: true; the input reads as it did. -/
def fnExactBlunderInSpec : ChangeSpec := { name := "fnExactBlunderIn", fn := fun _ => fun
  | [d] => { results := [.lit (.bool true)], args := [d] }
  | _ => none }
def fnExactBlunderInRow : OpenClaim := { program := "ytkafbmanmffliaa", sum := "8dad25c0856eb3a3a683cd96fadf6a6c4f785fa458384d395fa52ee37548161e", func := "loop.example/g01099/laws.FnExactBlunderIn", spec := "fnExactBlunderIn", unfollowed := true, recurses := true, apart := false }
def FnExactBlunderInSaid : Prop := fnExactBlunderInRow.holds Try.pinned (OpenSpec.ofChange fnExactBlunderInSpec)

/-- ITS FALSE NEIGHBOUR: 'it returns false'. Refute it at one input. -/
def fnExactBlunderInWrong : ChangeSpec := { name := "fnExactBlunderIn", fn := fun _ => fun
  | [d] => { results := [.lit (.bool false)], args := [d] }
  | _ => none }
def FnExactBlunderInWrongFalsely : Prop := fnExactBlunderInRow.holds Try.pinned (OpenSpec.ofChange fnExactBlunderInWrong)

/-- 'laws.FnExactResidualsOf': WHATEVER THE INPUT: true; the input reads as it did. -/
def fnExactResidualsOfSpec : ChangeSpec := { name := "fnExactResidualsOf", fn := fun _ => fun
  | [d] => { results := [.lit (.bool true)], args := [d] }
  | _ => none }
def fnExactResidualsOfRow : OpenClaim := { program := "ytkafbmanmffliaa", sum := "8dad25c0856eb3a3a683cd96fadf6a6c4f785fa458384d395fa52ee37548161e", func := "loop.example/g01099/laws.FnExactResidualsOf", spec := "fnExactResidualsOf", unfollowed := true, recurses := true, apart := false }
def FnExactResidualsOfSaid : Prop := fnExactResidualsOfRow.holds Try.pinned (OpenSpec.ofChange fnExactResidualsOfSpec)

/-- ITS FALSE NEIGHBOUR: 'it returns false'. Refute it at one input. -/
def fnExactResidualsOfWrong : ChangeSpec := { name := "fnExactResidualsOf", fn := fun _ => fun
  | [d] => { results := [.lit (.bool false)], args := [d] }
  | _ => none }
def FnExactResidualsOfWrongFalsely : Prop := fnExactResidualsOfRow.holds Try.pinned (OpenSpec.ofChange fnExactResidualsOfWrong)

/-- 'laws.FnExactRedundanciesOf': WHATEVER THE INPUT: true; the input reads as it did. -/
def fnExactRedundanciesOfSpec : ChangeSpec := { name := "fnExactRedundanciesOf", fn := fun _ => fun
  | [d] => { results := [.lit (.bool true)], args := [d] }
  | _ => none }
def fnExactRedundanciesOfRow : OpenClaim := { program := "ytkafbmanmffliaa", sum := "8dad25c0856eb3a3a683cd96fadf6a6c4f785fa458384d395fa52ee37548161e", func := "loop.example/g01099/laws.FnExactRedundanciesOf", spec := "fnExactRedundanciesOf", unfollowed := true, recurses := true, apart := false }
def FnExactRedundanciesOfSaid : Prop := fnExactRedundanciesOfRow.holds Try.pinned (OpenSpec.ofChange fnExactRedundanciesOfSpec)

/-- ITS FALSE NEIGHBOUR: 'it returns false'. Refute it at one input. -/
def fnExactRedundanciesOfWrong : ChangeSpec := { name := "fnExactRedundanciesOf", fn := fun _ => fun
  | [d] => { results := [.lit (.bool false)], args := [d] }
  | _ => none }
def FnExactRedundanciesOfWrongFalsely : Prop := fnExactRedundanciesOfRow.holds Try.pinned (OpenSpec.ofChange fnExactRedundanciesOfWrong)

/-- 'laws.FnBlunder': WHATEVER THE INPUT: true; the input reads as it did. -/
def fnBlunderSpec : ChangeSpec := { name := "fnBlunder", fn := fun _ => fun
  | [d1, d2] => { results := [.lit (.bool true)], args := [d1, d2] }
  | _ => none }
def fnBlunderRow : OpenClaim := { program := "ytkafbmanmffliaa", sum := "8dad25c0856eb3a3a683cd96fadf6a6c4f785fa458384d395fa52ee37548161e", func := "loop.example/g01099/laws.FnBlunder", spec := "fnBlunder", unfollowed := true, recurses := true, apart := false }
def FnBlunderSaid : Prop := fnBlunderRow.holds Try.pinned (OpenSpec.ofChange fnBlunderSpec)

/-- ITS FALSE NEIGHBOUR: 'it returns false'. Refute it at one input. -/
def fnBlunderWrong : ChangeSpec := { name := "fnBlunder", fn := fun _ => fun
  | [d1, d2] => { results := [.lit (.bool false)], args := [d1, d2] }
  | _ => none }
def FnBlunderWrongFalsely : Prop := fnBlunderRow.holds Try.pinned (OpenSpec.ofChange fnBlunderWrong)

/-- 'laws.FnExactSuspectOf': WHATEVER THE INPUT: true; the input reads as it did. -/
def fnExactSuspectOfSpec : ChangeSpec := { name := "fnExactSuspectOf", fn := fun _ => fun
  | [d] => { results := [.lit (.bool true)], args := [d] }
  | _ => none }
def fnExactSuspectOfRow : OpenClaim := { program := "ytkafbmanmffliaa", sum := "8dad25c0856eb3a3a683cd96fadf6a6c4f785fa458384d395fa52ee37548161e", func := "loop.example/g01099/laws.FnExactSuspectOf", spec := "fnExactSuspectOf", unfollowed := true, recurses := true, apart := false }
def FnExactSuspectOfSaid : Prop := fnExactSuspectOfRow.holds Try.pinned (OpenSpec.ofChange fnExactSuspectOfSpec)

/-- ITS FALSE NEIGHBOUR: 'it returns false'. Refute it at one input. -/
def fnExactSuspectOfWrong : ChangeSpec := { name := "fnExactSuspectOf", fn := fun _ => fun
  | [d] => { results := [.lit (.bool false)], args := [d] }
  | _ => none }
def FnExactSuspectOfWrongFalsely : Prop := fnExactSuspectOfRow.holds Try.pinned (OpenSpec.ofChange fnExactSuspectOfWrong)

/- THE SECOND FORM. 'bulk': how many values and letters a reading holds, each counted each time it is reached (what is shared counts as often as it is met; a slice's spare places count too). A statement '..UptoSaid' is the law's where the arguments, and the package variables that the reading takes, are together of bulk at most 1048576: NARROWER than '..Said'. Prove '..Said' where nothing that the law and all that it calls make is longer than what came in: it says more and counts as full. Else prove '..UptoSaid'. A law counts once. -/
mutual
def uptoBulk {H : Type} : DataW H → Nat
  | .lit (.string bytes) => bytes.length + 1
  | .lit _ => 1
  | .nil => 1
  | .ptr d => uptoBulk d + 1
  | .slice elems spare => uptoBulkAll elems + uptoBulkAll spare + 1
  | .agg parts => uptoBulkAll parts + 1
  | .iface _ d => uptoBulk d + 1
  | .map entries => uptoBulkEntries entries + 1
  | .held _ => 1
def uptoBulkAll {H : Type} : List (DataW H) → Nat
  | [] => 0
  | d :: r => uptoBulk d + uptoBulkAll r
def uptoBulkEntries {H : Type} : List (Lit × DataW H) → Nat
  | [] => 0
  | x :: r => uptoBulkEntry x + uptoBulkEntries r
def uptoBulkEntry {H : Type} : Lit × DataW H → Nat
  | (.string bytes, d) => bytes.length + uptoBulk d + 1
  | (_, d) => uptoBulk d + 1
 end
def uptoSmall : (H : Type) → List (DataW H) → Bool := fun _ ds => decide (uptoBulkAll ds ≤ 1048576)
def OpenSpec.upto (s : _root_.Go.ChangeSpec) : _root_.Go.OpenSpec := { _root_.Go.OpenSpec.ofChange s with cond := some uptoSmall }

/-- 'laws.FnNormalEquations', WHERE WHAT IT READS IS OF BULK AT MOST 1048576: true; the input reads as it did. -/
def fnNormalEquationsUptoRow : OpenClaim := { program := "ytkafbmanmffliaa", sum := "8dad25c0856eb3a3a683cd96fadf6a6c4f785fa458384d395fa52ee37548161e", func := "loop.example/g01099/laws.FnNormalEquations", spec := "fnNormalEquations", unfollowed := true, recurses := true, apart := false, narrowed := true }
def FnNormalEquationsUptoSaid : Prop := fnNormalEquationsUptoRow.holds Try.pinned (OpenSpec.upto fnNormalEquationsSpec)

/-- 'laws.FnCofactors', WHERE WHAT IT READS IS OF BULK AT MOST 1048576: true; the input reads as it did. -/
def fnCofactorsUptoRow : OpenClaim := { program := "ytkafbmanmffliaa", sum := "8dad25c0856eb3a3a683cd96fadf6a6c4f785fa458384d395fa52ee37548161e", func := "loop.example/g01099/laws.FnCofactors", spec := "fnCofactors", unfollowed := true, recurses := true, apart := false, narrowed := true }
def FnCofactorsUptoSaid : Prop := fnCofactorsUptoRow.holds Try.pinned (OpenSpec.upto fnCofactorsSpec)

/-- 'laws.FnLeastSquares', WHERE WHAT IT READS IS OF BULK AT MOST 1048576: true; the input reads as it did. -/
def fnLeastSquaresUptoRow : OpenClaim := { program := "ytkafbmanmffliaa", sum := "8dad25c0856eb3a3a683cd96fadf6a6c4f785fa458384d395fa52ee37548161e", func := "loop.example/g01099/laws.FnLeastSquares", spec := "fnLeastSquares", unfollowed := true, recurses := true, apart := false, narrowed := true }
def FnLeastSquaresUptoSaid : Prop := fnLeastSquaresUptoRow.holds Try.pinned (OpenSpec.upto fnLeastSquaresSpec)

/-- 'laws.FnExactCofactorOf', WHERE WHAT IT READS IS OF BULK AT MOST 1048576: true; the input reads as it did. -/
def fnExactCofactorOfUptoRow : OpenClaim := { program := "ytkafbmanmffliaa", sum := "8dad25c0856eb3a3a683cd96fadf6a6c4f785fa458384d395fa52ee37548161e", func := "loop.example/g01099/laws.FnExactCofactorOf", spec := "fnExactCofactorOf", unfollowed := true, recurses := true, apart := false, narrowed := true }
def FnExactCofactorOfUptoSaid : Prop := fnExactCofactorOfUptoRow.holds Try.pinned (OpenSpec.upto fnExactCofactorOfSpec)

/-- 'laws.FnLoops', WHERE WHAT IT READS IS OF BULK AT MOST 1048576: true; the input reads as it did. -/
def fnLoopsUptoRow : OpenClaim := { program := "ytkafbmanmffliaa", sum := "8dad25c0856eb3a3a683cd96fadf6a6c4f785fa458384d395fa52ee37548161e", func := "loop.example/g01099/laws.FnLoops", spec := "fnLoops", unfollowed := true, recurses := true, apart := false, narrowed := true }
def FnLoopsUptoSaid : Prop := fnLoopsUptoRow.holds Try.pinned (OpenSpec.upto fnLoopsSpec)

/-- 'laws.FnExactRiseBetween', WHERE WHAT IT READS IS OF BULK AT MOST 1048576: true; the input reads as it did. -/
def fnExactRiseBetweenUptoRow : OpenClaim := { program := "ytkafbmanmffliaa", sum := "8dad25c0856eb3a3a683cd96fadf6a6c4f785fa458384d395fa52ee37548161e", func := "loop.example/g01099/laws.FnExactRiseBetween", spec := "fnExactRiseBetween", unfollowed := true, recurses := true, apart := false, narrowed := true }
def FnExactRiseBetweenUptoSaid : Prop := fnExactRiseBetweenUptoRow.holds Try.pinned (OpenSpec.upto fnExactRiseBetweenSpec)

/-- 'laws.FnRedundant', WHERE WHAT IT READS IS OF BULK AT MOST 1048576: true; the input reads as it did. -/
def fnRedundantUptoRow : OpenClaim := { program := "ytkafbmanmffliaa", sum := "8dad25c0856eb3a3a683cd96fadf6a6c4f785fa458384d395fa52ee37548161e", func := "loop.example/g01099/laws.FnRedundant", spec := "fnRedundant", unfollowed := true, recurses := true, apart := false, narrowed := true }
def FnRedundantUptoSaid : Prop := fnRedundantUptoRow.holds Try.pinned (OpenSpec.upto fnRedundantSpec)

/-- 'laws.FnExactSquareSumOf', WHERE WHAT IT READS IS OF BULK AT MOST 1048576: true; the input reads as it did. -/
def fnExactSquareSumOfUptoRow : OpenClaim := { program := "ytkafbmanmffliaa", sum := "8dad25c0856eb3a3a683cd96fadf6a6c4f785fa458384d395fa52ee37548161e", func := "loop.example/g01099/laws.FnExactSquareSumOf", spec := "fnExactSquareSumOf", unfollowed := true, recurses := true, apart := false, narrowed := true }
def FnExactSquareSumOfUptoSaid : Prop := fnExactSquareSumOfUptoRow.holds Try.pinned (OpenSpec.upto fnExactSquareSumOfSpec)

/-- 'laws.FnExactAdjustSurvey', WHERE WHAT IT READS IS OF BULK AT MOST 1048576: true; the input reads as it did. -/
def fnExactAdjustSurveyUptoRow : OpenClaim := { program := "ytkafbmanmffliaa", sum := "8dad25c0856eb3a3a683cd96fadf6a6c4f785fa458384d395fa52ee37548161e", func := "loop.example/g01099/laws.FnExactAdjustSurvey", spec := "fnExactAdjustSurvey", unfollowed := true, recurses := true, apart := false, narrowed := true }
def FnExactAdjustSurveyUptoSaid : Prop := fnExactAdjustSurveyUptoRow.holds Try.pinned (OpenSpec.upto fnExactAdjustSurveySpec)

/-- 'laws.FnExactBlunderIn', WHERE WHAT IT READS IS OF BULK AT MOST 1048576: true; the input reads as it did. -/
def fnExactBlunderInUptoRow : OpenClaim := { program := "ytkafbmanmffliaa", sum := "8dad25c0856eb3a3a683cd96fadf6a6c4f785fa458384d395fa52ee37548161e", func := "loop.example/g01099/laws.FnExactBlunderIn", spec := "fnExactBlunderIn", unfollowed := true, recurses := true, apart := false, narrowed := true }
def FnExactBlunderInUptoSaid : Prop := fnExactBlunderInUptoRow.holds Try.pinned (OpenSpec.upto fnExactBlunderInSpec)

/-- 'laws.FnExactResidualsOf', WHERE WHAT IT READS IS OF BULK AT MOST 1048576: true; the input reads as it did. -/
def fnExactResidualsOfUptoRow : OpenClaim := { program := "ytkafbmanmffliaa", sum := "8dad25c0856eb3a3a683cd96fadf6a6c4f785fa458384d395fa52ee37548161e", func := "loop.example/g01099/laws.FnExactResidualsOf", spec := "fnExactResidualsOf", unfollowed := true, recurses := true, apart := false, narrowed := true }
def FnExactResidualsOfUptoSaid : Prop := fnExactResidualsOfUptoRow.holds Try.pinned (OpenSpec.upto fnExactResidualsOfSpec)

/-- 'laws.FnExactRedundanciesOf', WHERE WHAT IT READS IS OF BULK AT MOST 1048576: true; the input reads as it did. -/
def fnExactRedundanciesOfUptoRow : OpenClaim := { program := "ytkafbmanmffliaa", sum := "8dad25c0856eb3a3a683cd96fadf6a6c4f785fa458384d395fa52ee37548161e", func := "loop.example/g01099/laws.FnExactRedundanciesOf", spec := "fnExactRedundanciesOf", unfollowed := true, recurses := true, apart := false, narrowed := true }
def FnExactRedundanciesOfUptoSaid : Prop := fnExactRedundanciesOfUptoRow.holds Try.pinned (OpenSpec.upto fnExactRedundanciesOfSpec)

/-- 'laws.FnBlunder', WHERE WHAT IT READS IS OF BULK AT MOST 1048576: true; the input reads as it did. -/
def fnBlunderUptoRow : OpenClaim := { program := "ytkafbmanmffliaa", sum := "8dad25c0856eb3a3a683cd96fadf6a6c4f785fa458384d395fa52ee37548161e", func := "loop.example/g01099/laws.FnBlunder", spec := "fnBlunder", unfollowed := true, recurses := true, apart := false, narrowed := true }
def FnBlunderUptoSaid : Prop := fnBlunderUptoRow.holds Try.pinned (OpenSpec.upto fnBlunderSpec)

/-- 'laws.FnExactSuspectOf', WHERE WHAT IT READS IS OF BULK AT MOST 1048576: true; the input reads as it did. -/
def fnExactSuspectOfUptoRow : OpenClaim := { program := "ytkafbmanmffliaa", sum := "8dad25c0856eb3a3a683cd96fadf6a6c4f785fa458384d395fa52ee37548161e", func := "loop.example/g01099/laws.FnExactSuspectOf", spec := "fnExactSuspectOf", unfollowed := true, recurses := true, apart := false, narrowed := true }
def FnExactSuspectOfUptoSaid : Prop := fnExactSuspectOfUptoRow.holds Try.pinned (OpenSpec.upto fnExactSuspectOfSpec)

end Rows
end Go.Proofs.Ytkafbmanmffliaa
