/-
  DERIVED. GIVEN WITH THE SEED: THE CARDS: each row of YtjmglhioohndhaaGreatDoorRows.lean that lists a variable, with what it lists TIED to the program's text (the seventh form; the later family's looks); each row that meets fmt, with fmt's text TOLD by the authors' own Lean function (tested against real Go, not proved from fmt's source: count such statements apart). THE CARD IS WHAT COUNTS. Prove the row's statement (the work); the ties are given (YtjmglhioohndhaaGreatDoorTie.lean); close each card by the builder's one call (the guide's Derived/Test/ToyasCard.lean, 'card_holds'). Laid BY PROGRAM, IN A SANDBOX (cutbox-door.mjs). By AI agents, Wed Nov 11 2026. No macro, syntax, notation, axiom, sorry.
-/
import Derived.Test.YtjmglhioohndhaaGreatDoorRows
import GoSem.ClaimSeven
namespace Go.Proofs.YtjmglhioohndhaaGreatDoor
namespace Rows

/-- THE TIED CARD OF 'examinerlaw20.ExpressionWrites'. -/
def expressionWritesCard : Claim7 := { stood := { row := expressionWritesRow, standIns := [], harness := (true, "d586105c6a814d686c9a12cb8178c662948b79f0d4c2bad196826b661d82a0c0"), looks := true }, kinds := [], alts := [], laidByText := true, laidKinds := [.data, .data, .data, .data, .sentinel, .sentinel, .pinned], laidTests := true, laidLooks := .later }
def ExpressionWritesCardSaid : Prop := Claim7.holds Tryz.pinned (.plain (OpenSpec.ofChange expressionWritesSpec)) expressionWritesCard

/-- THE SECOND FORM's CARD OF 'examinerlaw20.ExpressionWrites'. -/
def expressionWritesUptoCard : Claim7 := { stood := { row := expressionWritesUptoRow, standIns := [], harness := (true, "d586105c6a814d686c9a12cb8178c662948b79f0d4c2bad196826b661d82a0c0"), looks := true }, kinds := [], alts := [], laidByText := true, laidKinds := [.data, .data, .data, .data, .sentinel, .sentinel, .pinned], laidTests := true, laidLooks := .later }
def ExpressionWritesUptoCardSaid : Prop := Claim7.holds Tryz.pinned (.plain (OpenSpec.upto expressionWritesSpec)) expressionWritesUptoCard
end Rows
end Go.Proofs.YtjmglhioohndhaaGreatDoor
