/-
  DERIVED. GIVEN WITH THE SEED: THE CARDS: each row of YtibaiaenfeppcaaGreatDoorRows.lean that lists a variable, with what it lists TIED to the program's text (the seventh form; the later family's looks); each row that meets fmt, with fmt's text TOLD by the authors' own Lean function (tested against real Go, not proved from fmt's source: count such statements apart). THE CARD IS WHAT COUNTS. Prove the row's statement (the work); the ties are given (YtibaiaenfeppcaaGreatDoorTie.lean); close each card by the builder's one call (the guide's Derived/Test/ToyasCard.lean, 'card_holds'). Laid BY PROGRAM, IN A SANDBOX (cutbox-door.mjs). By AI agents, Wed Nov 11 2026. No macro, syntax, notation, axiom, sorry.
-/
import Derived.Test.YtibaiaenfeppcaaGreatDoorRows
import GoSem.ClaimSeven
namespace Go.Proofs.YtibaiaenfeppcaaGreatDoor
namespace Rows

/-- THE TIED CARD OF 'laws.FnExactReadYard'. -/
def fnExactReadYardCard : Claim7 := { stood := { row := fnExactReadYardRow, standIns := [], harness := (true, "dff22af147eb666c04938722b5c22f14eb814f592f332d63d533c696c9efc153"), looks := true }, kinds := [], alts := [], laidByText := true, laidKinds := [.data, .data, .data, .data, .sentinel, .sentinel, .pinned], laidTests := true, laidLooks := .later }
def FnExactReadYardCardSaid : Prop := Claim7.holds Tryz.pinned (.plain (OpenSpec.ofChange fnExactReadYardSpec)) fnExactReadYardCard

/-- THE TIED CARD OF 'laws.FnStacked'. -/
def fnStackedCard : Claim7 := { stood := { row := fnStackedRow, standIns := [], harness := (true, "dff22af147eb666c04938722b5c22f14eb814f592f332d63d533c696c9efc153"), looks := true }, kinds := [], alts := [], laidByText := true, laidKinds := [.data, .data, .data, .data, .sentinel, .sentinel, .pinned], laidTests := true, laidLooks := .later }
def FnStackedCardSaid : Prop := Claim7.holds Tryz.pinned (.plain (OpenSpec.ofChange fnStackedSpec)) fnStackedCard

/-- THE SECOND FORM's CARD OF 'laws.FnExactReadYard'. -/
def fnExactReadYardUptoCard : Claim7 := { stood := { row := fnExactReadYardUptoRow, standIns := [], harness := (true, "dff22af147eb666c04938722b5c22f14eb814f592f332d63d533c696c9efc153"), looks := true }, kinds := [], alts := [], laidByText := true, laidKinds := [.data, .data, .data, .data, .sentinel, .sentinel, .pinned], laidTests := true, laidLooks := .later }
def FnExactReadYardUptoCardSaid : Prop := Claim7.holds Tryz.pinned (.plain (OpenSpec.upto fnExactReadYardSpec)) fnExactReadYardUptoCard

/-- THE SECOND FORM's CARD OF 'laws.FnStacked'. -/
def fnStackedUptoCard : Claim7 := { stood := { row := fnStackedUptoRow, standIns := [], harness := (true, "dff22af147eb666c04938722b5c22f14eb814f592f332d63d533c696c9efc153"), looks := true }, kinds := [], alts := [], laidByText := true, laidKinds := [.data, .data, .data, .data, .sentinel, .sentinel, .pinned], laidTests := true, laidLooks := .later }
def FnStackedUptoCardSaid : Prop := Claim7.holds Tryz.pinned (.plain (OpenSpec.upto fnStackedSpec)) fnStackedUptoCard
end Rows
end Go.Proofs.YtibaiaenfeppcaaGreatDoor
