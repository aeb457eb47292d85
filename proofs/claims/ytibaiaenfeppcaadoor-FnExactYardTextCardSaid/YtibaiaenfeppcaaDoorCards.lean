/-
  DERIVED. GIVEN WITH THE SEED: THE CARDS: each row of YtibaiaenfeppcaaDoorRows.lean that lists a variable, with what it lists TIED to the program's text (the seventh form; the later family's looks); each row that meets fmt, with fmt's text TOLD by the authors' own Lean function (tested against real Go, not proved from fmt's source: count such statements apart). THE CARD IS WHAT COUNTS. Prove the row's statement (the work); the ties are given (YtibaiaenfeppcaaDoorTie.lean); close each card by the builder's one call (the guide's Derived/Test/ToyasCard.lean, 'card_holds'). Laid BY PROGRAM, IN A SANDBOX (cutbox-door.mjs). By AI agents, Wed Nov 11 2026. No macro, syntax, notation, axiom, sorry.
-/
import Derived.Test.YtibaiaenfeppcaaDoorRows
import GoSem.ClaimSeven
namespace Go.Proofs.YtibaiaenfeppcaaDoor
namespace Rows

/-- THE TIED CARD OF 'laws.FnFewest'. -/
def fnFewestCard : Claim7 := { stood := { row := fnFewestRow, standIns := [], harness := (true, "981d56af8c3fa361d761acf9451b1f469cf97d5d8ff51f4672926bf512548ee6"), looks := false }, kinds := [], alts := [], laidByText := true, laidKinds := [.data, .data, .data], laidTests := true, laidLooks := .later }
def FnFewestCardSaid : Prop := Claim7.holds Tryd.pinned (.plain (OpenSpec.ofChange fnFewestSpec)) fnFewestCard

/-- THE TIED CARD OF 'laws.FnExactYardText'. -/
def fnExactYardTextCard : Claim7 := { stood := { row := fnExactYardTextRow, standIns := [], harness := (true, "981d56af8c3fa361d761acf9451b1f469cf97d5d8ff51f4672926bf512548ee6"), looks := false }, kinds := [], alts := [], laidByText := true, laidKinds := [.data, .data, .data], laidTests := true, laidLooks := .later }
def FnExactYardTextCardSaid : Prop := Claim7.holds Tryd.pinned (.plain (OpenSpec.ofChange fnExactYardTextSpec)) fnExactYardTextCard

/-- THE TIED CARD OF 'laws.FnExactFewestMoves'. -/
def fnExactFewestMovesCard : Claim7 := { stood := { row := fnExactFewestMovesRow, standIns := [], harness := (true, "981d56af8c3fa361d761acf9451b1f469cf97d5d8ff51f4672926bf512548ee6"), looks := false }, kinds := [], alts := [], laidByText := true, laidKinds := [.data, .data, .data], laidTests := true, laidLooks := .later }
def FnExactFewestMovesCardSaid : Prop := Claim7.holds Tryd.pinned (.plain (OpenSpec.ofChange fnExactFewestMovesSpec)) fnExactFewestMovesCard

/-- THE SECOND FORM's CARD OF 'laws.FnFewest'. -/
def fnFewestUptoCard : Claim7 := { stood := { row := fnFewestUptoRow, standIns := [], harness := (true, "981d56af8c3fa361d761acf9451b1f469cf97d5d8ff51f4672926bf512548ee6"), looks := false }, kinds := [], alts := [], laidByText := true, laidKinds := [.data, .data, .data], laidTests := true, laidLooks := .later }
def FnFewestUptoCardSaid : Prop := Claim7.holds Tryd.pinned (.plain (OpenSpec.upto fnFewestSpec)) fnFewestUptoCard

/-- THE SECOND FORM's CARD OF 'laws.FnExactYardText'. -/
def fnExactYardTextUptoCard : Claim7 := { stood := { row := fnExactYardTextUptoRow, standIns := [], harness := (true, "981d56af8c3fa361d761acf9451b1f469cf97d5d8ff51f4672926bf512548ee6"), looks := false }, kinds := [], alts := [], laidByText := true, laidKinds := [.data, .data, .data], laidTests := true, laidLooks := .later }
def FnExactYardTextUptoCardSaid : Prop := Claim7.holds Tryd.pinned (.plain (OpenSpec.upto fnExactYardTextSpec)) fnExactYardTextUptoCard

/-- THE SECOND FORM's CARD OF 'laws.FnExactFewestMoves'. -/
def fnExactFewestMovesUptoCard : Claim7 := { stood := { row := fnExactFewestMovesUptoRow, standIns := [], harness := (true, "981d56af8c3fa361d761acf9451b1f469cf97d5d8ff51f4672926bf512548ee6"), looks := false }, kinds := [], alts := [], laidByText := true, laidKinds := [.data, .data, .data], laidTests := true, laidLooks := .later }
def FnExactFewestMovesUptoCardSaid : Prop := Claim7.holds Tryd.pinned (.plain (OpenSpec.upto fnExactFewestMovesSpec)) fnExactFewestMovesUptoCard
end Rows
end Go.Proofs.YtibaiaenfeppcaaDoor
