/-
  No cell of these rows narrows 'for every input' (looked for: loops, veiled, ifaces, maps, wideKeys, modest, calm, conditions, laid).
  DERIVED. THE GIVEN ROWS OF THIS SEAT. 7 by the template 'for every input the law returns true; each argument reads behind the call as it read before'; 0 by the template 'total and deterministic' (their statements: YtibaiaenfeppcaaTotals.lean).
  GIVEN WITH THE SEED: the statements are not yours to turn. If you find one false, say at which input.
  Laid BY PROGRAM, IN A SANDBOX (cutbox-rows.mjs): the forced cells as the released guide's own fill.sh prints them over the translation 05b84fcbbc997bee… (all of the seat's roots in one cut). By AI agents, Wed Nov 11 2026. No macro, syntax, notation, axiom, sorry.
-/
import Derived.Test.YtibaiaenfeppcaaChecked
import GoSem.Claim
import GoSem.ClaimJoined
import GoSem.ClaimMapViews
import Derived.JoinedTies
import Derived.KernelRfl
namespace Go.Proofs.Ytibaiaenfeppcaa
/- THE CELL 'sum', in the pinned program and in every row, IS THE sha256 OF THE DUMP (.gsa) THAT YtibaiaenfeppcaaProg.lean LOADS. Nothing in Lean hashes anything: it is a label: what it is worth is what the hold of that sum in a sandbox is worth. -/
noncomputable def Try.pinned : Pinned := { name := "ytibaiaenfeppcaa", sum := "05b84fcbbc997beec58b925958b7825892ffbe80da40eccc097e337032cff8ee", checked := Try.checked }
namespace Rows
def none {H : Type} : Left H := { results := [], args := [] }

/-- 'laws.FnExactValidYard': WHATEVER THE INPUT: true; the input reads as it did. -/
def fnExactValidYardSpec : ChangeSpec := { name := "fnExactValidYard", fn := fun _ => fun
  | [d] => { results := [.lit (.bool true)], args := [d] }
  | _ => none }
def fnExactValidYardRow : OpenClaim := { program := "ytibaiaenfeppcaa", sum := "05b84fcbbc997beec58b925958b7825892ffbe80da40eccc097e337032cff8ee", func := "loop.example/g01099/laws.FnExactValidYard", spec := "fnExactValidYard", unfollowed := true, recurses := true, apart := false }
def FnExactValidYardSaid : Prop := fnExactValidYardRow.holds Try.pinned (OpenSpec.ofChange fnExactValidYardSpec)

/-- ITS FALSE NEIGHBOUR: 'it returns false'. Refute it at one input. -/
def fnExactValidYardWrong : ChangeSpec := { name := "fnExactValidYard", fn := fun _ => fun
  | [d] => { results := [.lit (.bool false)], args := [d] }
  | _ => none }
def FnExactValidYardWrongFalsely : Prop := fnExactValidYardRow.holds Try.pinned (OpenSpec.ofChange fnExactValidYardWrong)

/-- 'laws.FnExactTopsOf': WHATEVER THE INPUT: true; the input reads as it did. -/
def fnExactTopsOfSpec : ChangeSpec := { name := "fnExactTopsOf", fn := fun _ => fun
  | [d] => { results := [.lit (.bool true)], args := [d] }
  | _ => none }
def fnExactTopsOfRow : OpenClaim := { program := "ytibaiaenfeppcaa", sum := "05b84fcbbc997beec58b925958b7825892ffbe80da40eccc097e337032cff8ee", func := "loop.example/g01099/laws.FnExactTopsOf", spec := "fnExactTopsOf", unfollowed := true, recurses := true, apart := false }
def FnExactTopsOfSaid : Prop := fnExactTopsOfRow.holds Try.pinned (OpenSpec.ofChange fnExactTopsOfSpec)

/-- ITS FALSE NEIGHBOUR: 'it returns false'. Refute it at one input. -/
def fnExactTopsOfWrong : ChangeSpec := { name := "fnExactTopsOf", fn := fun _ => fun
  | [d] => { results := [.lit (.bool false)], args := [d] }
  | _ => none }
def FnExactTopsOfWrongFalsely : Prop := fnExactTopsOfRow.holds Try.pinned (OpenSpec.ofChange fnExactTopsOfWrong)

/-- 'laws.FnTaken': WHATEVER THE INPUT: true; the input reads as it did. -/
def fnTakenSpec : ChangeSpec := { name := "fnTaken", fn := fun _ => fun
  | [d1, d2] => { results := [.lit (.bool true)], args := [d1, d2] }
  | _ => none }
def fnTakenRow : OpenClaim := { program := "ytibaiaenfeppcaa", sum := "05b84fcbbc997beec58b925958b7825892ffbe80da40eccc097e337032cff8ee", func := "loop.example/g01099/laws.FnTaken", spec := "fnTaken", unfollowed := true, recurses := true, apart := false }
def FnTakenSaid : Prop := fnTakenRow.holds Try.pinned (OpenSpec.ofChange fnTakenSpec)

/-- ITS FALSE NEIGHBOUR: 'it returns false'. Refute it at one input. -/
def fnTakenWrong : ChangeSpec := { name := "fnTaken", fn := fun _ => fun
  | [d1, d2] => { results := [.lit (.bool false)], args := [d1, d2] }
  | _ => none }
def FnTakenWrongFalsely : Prop := fnTakenRow.holds Try.pinned (OpenSpec.ofChange fnTakenWrong)

/-- 'laws.FnExactBlockersOf': WHATEVER THE INPUT: true; the input reads as it did. -/
def fnExactBlockersOfSpec : ChangeSpec := { name := "fnExactBlockersOf", fn := fun _ => fun
  | [d] => { results := [.lit (.bool true)], args := [d] }
  | _ => none }
def fnExactBlockersOfRow : OpenClaim := { program := "ytibaiaenfeppcaa", sum := "05b84fcbbc997beec58b925958b7825892ffbe80da40eccc097e337032cff8ee", func := "loop.example/g01099/laws.FnExactBlockersOf", spec := "fnExactBlockersOf", unfollowed := true, recurses := true, apart := false }
def FnExactBlockersOfSaid : Prop := fnExactBlockersOfRow.holds Try.pinned (OpenSpec.ofChange fnExactBlockersOfSpec)

/-- ITS FALSE NEIGHBOUR: 'it returns false'. Refute it at one input. -/
def fnExactBlockersOfWrong : ChangeSpec := { name := "fnExactBlockersOf", fn := fun _ => fun
  | [d] => { results := [.lit (.bool false)], args := [d] }
  | _ => none }
def FnExactBlockersOfWrongFalsely : Prop := fnExactBlockersOfRow.holds Try.pinned (OpenSpec.ofChange fnExactBlockersOfWrong)

/-- 'laws.FnExactMoveTop': WHATEVER THE INPUT: true; the input reads as it did. -/
def fnExactMoveTopSpec : ChangeSpec := { name := "fnExactMoveTop", fn := fun _ => fun
  | [d1, d2, d3] => { results := [.lit (.bool true)], args := [d1, d2, d3] }
  | _ => none }
def fnExactMoveTopRow : OpenClaim := { program := "ytibaiaenfeppcaa", sum := "05b84fcbbc997beec58b925958b7825892ffbe80da40eccc097e337032cff8ee", func := "loop.example/g01099/laws.FnExactMoveTop", spec := "fnExactMoveTop", unfollowed := true, recurses := true, apart := false }
def FnExactMoveTopSaid : Prop := fnExactMoveTopRow.holds Try.pinned (OpenSpec.ofChange fnExactMoveTopSpec)

/-- ITS FALSE NEIGHBOUR: 'it returns false'. Refute it at one input. -/
def fnExactMoveTopWrong : ChangeSpec := { name := "fnExactMoveTop", fn := fun _ => fun
  | [d1, d2, d3] => { results := [.lit (.bool false)], args := [d1, d2, d3] }
  | _ => none }
def FnExactMoveTopWrongFalsely : Prop := fnExactMoveTopRow.holds Try.pinned (OpenSpec.ofChange fnExactMoveTopWrong)

/-- 'laws.FnExactTakeNext': WHATEVER THE INPUT: true; the input reads as it did. -/
def fnExactTakeNextSpec : ChangeSpec := { name := "fnExactTakeNext", fn := fun _ => fun
  | [d] => { results := [.lit (.bool true)], args := [d] }
  | _ => none }
def fnExactTakeNextRow : OpenClaim := { program := "ytibaiaenfeppcaa", sum := "05b84fcbbc997beec58b925958b7825892ffbe80da40eccc097e337032cff8ee", func := "loop.example/g01099/laws.FnExactTakeNext", spec := "fnExactTakeNext", unfollowed := true, recurses := true, apart := false }
def FnExactTakeNextSaid : Prop := fnExactTakeNextRow.holds Try.pinned (OpenSpec.ofChange fnExactTakeNextSpec)

/-- ITS FALSE NEIGHBOUR: 'it returns false'. Refute it at one input. -/
def fnExactTakeNextWrong : ChangeSpec := { name := "fnExactTakeNext", fn := fun _ => fun
  | [d] => { results := [.lit (.bool false)], args := [d] }
  | _ => none }
def FnExactTakeNextWrongFalsely : Prop := fnExactTakeNextRow.holds Try.pinned (OpenSpec.ofChange fnExactTakeNextWrong)

/-- 'laws.FnExactRunMoves': WHATEVER THE INPUT: true; the input reads as it did. -/
def fnExactRunMovesSpec : ChangeSpec := { name := "fnExactRunMoves", fn := fun _ => fun
  | [d1, d2] => { results := [.lit (.bool true)], args := [d1, d2] }
  | _ => none }
def fnExactRunMovesRow : OpenClaim := { program := "ytibaiaenfeppcaa", sum := "05b84fcbbc997beec58b925958b7825892ffbe80da40eccc097e337032cff8ee", func := "loop.example/g01099/laws.FnExactRunMoves", spec := "fnExactRunMoves", unfollowed := true, recurses := true, apart := false }
def FnExactRunMovesSaid : Prop := fnExactRunMovesRow.holds Try.pinned (OpenSpec.ofChange fnExactRunMovesSpec)

/-- ITS FALSE NEIGHBOUR: 'it returns false'. Refute it at one input. -/
def fnExactRunMovesWrong : ChangeSpec := { name := "fnExactRunMoves", fn := fun _ => fun
  | [d1, d2] => { results := [.lit (.bool false)], args := [d1, d2] }
  | _ => none }
def FnExactRunMovesWrongFalsely : Prop := fnExactRunMovesRow.holds Try.pinned (OpenSpec.ofChange fnExactRunMovesWrong)

/- THE SECOND FORM. 'bulk': how many values and letters a reading holds, each counted each time it is reached (what is shared counts as often as it is met; a slice's spare places count too). A statement '..UptoSaid' is the law's where the arguments, and the package variables that the reading takes, are together of bulk at most 1048576: NARROWER than '..Said'. Prove '..Said' where nothing that the law and all that it calls make is longer than what came in: it says more and counts as full. Else prove '..UptoSaid'. A law counts once. -/
mutual
def uptoBulk {H : Type} : DataW H → Nat
  | .lit (.string bytes) => bytes.length + 1
  | .lit _ => 1
  | .nil => 1
  | .ptr d => uptoBulk d + 1
  | .slice elems spare => uptoBulkAll elems + uptoBulkAll spare + 1
  | .agg parts => uptoBulkAll parts + 1
  | .iface _ d => uptoBulk d + 1
  | .map entries => uptoBulkEntries entries + 1
  | .held _ => 1
def uptoBulkAll {H : Type} : List (DataW H) → Nat
  | [] => 0
  | d :: r => uptoBulk d + uptoBulkAll r
def uptoBulkEntries {H : Type} : List (Lit × DataW H) → Nat
  | [] => 0
  | x :: r => uptoBulkEntry x + uptoBulkEntries r
def uptoBulkEntry {H : Type} : Lit × DataW H → Nat
  | (.string bytes, d) => bytes.length + uptoBulk d + 1
  | (_, d) => uptoBulk d + 1
 end
def uptoSmall : (H : Type) → List (DataW H) → Bool := fun _ ds => decide (uptoBulkAll ds ≤ 1048576)
def OpenSpec.upto (s : _root_.Go.ChangeSpec) : _root_.Go.OpenSpec := { _root_.Go.OpenSpec.ofChange s with cond := some uptoSmall }

/-- 'laws.FnExactValidYard', WHERE WHAT IT READS IS OF BULK AT MOST 1048576: true; the input reads as it did. -/
def fnExactValidYardUptoRow : OpenClaim := { program := "ytibaiaenfeppcaa", sum := "05b84fcbbc997beec58b925958b7825892ffbe80da40eccc097e337032cff8ee", func := "loop.example/g01099/laws.FnExactValidYard", spec := "fnExactValidYard", unfollowed := true, recurses := true, apart := false, narrowed := true }
def FnExactValidYardUptoSaid : Prop := fnExactValidYardUptoRow.holds Try.pinned (OpenSpec.upto fnExactValidYardSpec)

/-- 'laws.FnExactTopsOf', WHERE WHAT IT READS IS OF BULK AT MOST 1048576: true; the input reads as it did. -/
def fnExactTopsOfUptoRow : OpenClaim := { program := "ytibaiaenfeppcaa", sum := "05b84fcbbc997beec58b925958b7825892ffbe80da40eccc097e337032cff8ee", func := "loop.example/g01099/laws.FnExactTopsOf", spec := "fnExactTopsOf", unfollowed := true, recurses := true, apart := false, narrowed := true }
def FnExactTopsOfUptoSaid : Prop := fnExactTopsOfUptoRow.holds Try.pinned (OpenSpec.upto fnExactTopsOfSpec)

/-- 'laws.FnTaken', WHERE WHAT IT READS IS OF BULK AT MOST 1048576: true; the input reads as it did. -/
def fnTakenUptoRow : OpenClaim := { program := "ytibaiaenfeppcaa", sum := "05b84fcbbc997beec58b925958b7825892ffbe80da40eccc097e337032cff8ee", func := "loop.example/g01099/laws.FnTaken", spec := "fnTaken", unfollowed := true, recurses := true, apart := false, narrowed := true }
def FnTakenUptoSaid : Prop := fnTakenUptoRow.holds Try.pinned (OpenSpec.upto fnTakenSpec)

/-- 'laws.FnExactBlockersOf', WHERE WHAT IT READS IS OF BULK AT MOST 1048576: true; the input reads as it did. -/
def fnExactBlockersOfUptoRow : OpenClaim := { program := "ytibaiaenfeppcaa", sum := "05b84fcbbc997beec58b925958b7825892ffbe80da40eccc097e337032cff8ee", func := "loop.example/g01099/laws.FnExactBlockersOf", spec := "fnExactBlockersOf", unfollowed := true, recurses := true, apart := false, narrowed := true }
def FnExactBlockersOfUptoSaid : Prop := fnExactBlockersOfUptoRow.holds Try.pinned (OpenSpec.upto fnExactBlockersOfSpec)

/-- 'laws.FnExactMoveTop', WHERE WHAT IT READS IS OF BULK AT MOST 1048576: true; the input reads as it did. -/
def fnExactMoveTopUptoRow : OpenClaim := { program := "ytibaiaenfeppcaa", sum := "05b84fcbbc997beec58b925958b7825892ffbe80da40eccc097e337032cff8ee", func := "loop.example/g01099/laws.FnExactMoveTop", spec := "fnExactMoveTop", unfollowed := true, recurses := true, apart := false, narrowed := true }
def FnExactMoveTopUptoSaid : Prop := fnExactMoveTopUptoRow.holds Try.pinned (OpenSpec.upto fnExactMoveTopSpec)

/-- 'laws.FnExactTakeNext', WHERE WHAT IT READS IS OF BULK AT MOST 1048576: true; the input reads as it did. -/
def fnExactTakeNextUptoRow : OpenClaim := { program := "ytibaiaenfeppcaa", sum := "05b84fcbbc997beec58b925958b7825892ffbe80da40eccc097e337032cff8ee", func := "loop.example/g01099/laws.FnExactTakeNext", spec := "fnExactTakeNext", unfollowed := true, recurses := true, apart := false, narrowed := true }
def FnExactTakeNextUptoSaid : Prop := fnExactTakeNextUptoRow.holds Try.pinned (OpenSpec.upto fnExactTakeNextSpec)

/-- 'laws.FnExactRunMoves', WHERE WHAT IT READS IS OF BULK AT MOST 1048576: true; the input reads as it did. -/
def fnExactRunMovesUptoRow : OpenClaim := { program := "ytibaiaenfeppcaa", sum := "05b84fcbbc997beec58b925958b7825892ffbe80da40eccc097e337032cff8ee", func := "loop.example/g01099/laws.FnExactRunMoves", spec := "fnExactRunMoves", unfollowed := true, recurses := true, apart := false, narrowed := true }
def FnExactRunMovesUptoSaid : Prop := fnExactRunMovesUptoRow.holds Try.pinned (OpenSpec.upto fnExactRunMovesSpec)

end Rows
end Go.Proofs.Ytibaiaenfeppcaa
