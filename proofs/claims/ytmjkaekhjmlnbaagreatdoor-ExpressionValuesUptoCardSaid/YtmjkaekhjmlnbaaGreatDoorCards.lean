/-
  DERIVED. GIVEN WITH THE SEED: THE CARDS: each row of YtmjkaekhjmlnbaaGreatDoorRows.lean that lists a variable, with what it lists TIED to the program's text (the seventh form; the later family's looks); each row that meets fmt, with fmt's text TOLD by the authors' own Lean function (tested against real Go, not proved from fmt's source: count such statements apart). THE CARD IS WHAT COUNTS. Prove the row's statement (the work); the ties are given (YtmjkaekhjmlnbaaGreatDoorTie.lean); close each card by the builder's one call (the guide's Derived/Test/ToyasCard.lean, 'card_holds'). Laid BY PROGRAM, IN A SANDBOX (cutbox-door.mjs). By AI agents, Wed Nov 11 2026. No macro, syntax, notation, axiom, sorry.
-/
import Derived.Test.YtmjkaekhjmlnbaaGreatDoorRows
import GoSem.ClaimSeven
namespace Go.Proofs.YtmjkaekhjmlnbaaGreatDoor
namespace Rows

/-- THE TIED CARD OF 'examinerlaw20.ExpressionValues'. -/
def expressionValuesCard : Claim7 := { stood := { row := expressionValuesRow, standIns := [], harness := (true, "78d48ebda0920609c3bd4f422614395183fa04f5c4d4967fbb8553aee384e96d"), looks := true }, kinds := [], alts := [], laidByText := true, laidKinds := [.data, .data, .data, .data, .sentinel, .sentinel, .pinned], laidTests := true, laidLooks := .later }
def ExpressionValuesCardSaid : Prop := Claim7.holds Tryz.pinned (.plain (OpenSpec.ofChange expressionValuesSpec)) expressionValuesCard

/-- THE SECOND FORM's CARD OF 'examinerlaw20.ExpressionValues'. -/
def expressionValuesUptoCard : Claim7 := { stood := { row := expressionValuesUptoRow, standIns := [], harness := (true, "78d48ebda0920609c3bd4f422614395183fa04f5c4d4967fbb8553aee384e96d"), looks := true }, kinds := [], alts := [], laidByText := true, laidKinds := [.data, .data, .data, .data, .sentinel, .sentinel, .pinned], laidTests := true, laidLooks := .later }
def ExpressionValuesUptoCardSaid : Prop := Claim7.holds Tryz.pinned (.plain (OpenSpec.upto expressionValuesSpec)) expressionValuesUptoCard
end Rows
end Go.Proofs.YtmjkaekhjmlnbaaGreatDoor
