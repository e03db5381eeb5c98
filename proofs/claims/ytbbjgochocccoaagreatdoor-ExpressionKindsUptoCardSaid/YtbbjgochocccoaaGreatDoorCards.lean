/-
  DERIVED. GIVEN WITH THE SEED: THE CARDS: each row of YtbbjgochocccoaaGreatDoorRows.lean that lists a variable, with what it lists TIED to the program's text (the seventh form; the later family's looks); each row that meets fmt, with fmt's text TOLD by the authors' own Lean function (tested against real Go, not proved from fmt's source: count such statements apart). THE CARD IS WHAT COUNTS. Prove the row's statement (the work); the ties are given (YtbbjgochocccoaaGreatDoorTie.lean); close each card by the builder's one call (the guide's Derived/Test/ToyasCard.lean, 'card_holds'). Laid BY PROGRAM, IN A SANDBOX (cutbox-door.mjs). By AI agents, Wed Nov 11 2026. No macro, syntax, notation, axiom, sorry.
-/
import Derived.Test.YtbbjgochocccoaaGreatDoorRows
import GoSem.ClaimSeven
namespace Go.Proofs.YtbbjgochocccoaaGreatDoor
namespace Rows

/-- THE TIED CARD OF 'examinerlaw20.ExpressionKinds'. -/
def expressionKindsCard : Claim7 := { stood := { row := expressionKindsRow, standIns := [], harness := (true, "9364bacd886776ca993b2aa10de21acabcbbcd57c5d647b3b9bcf3e82625e644"), looks := true }, kinds := [], alts := [], laidByText := true, laidKinds := [.data, .data, .data, .data, .sentinel, .sentinel, .pinned], laidTests := true, laidLooks := .later }
def ExpressionKindsCardSaid : Prop := Claim7.holds Tryz.pinned (.plain (OpenSpec.ofChange expressionKindsSpec)) expressionKindsCard

/-- THE SECOND FORM's CARD OF 'examinerlaw20.ExpressionKinds'. -/
def expressionKindsUptoCard : Claim7 := { stood := { row := expressionKindsUptoRow, standIns := [], harness := (true, "9364bacd886776ca993b2aa10de21acabcbbcd57c5d647b3b9bcf3e82625e644"), looks := true }, kinds := [], alts := [], laidByText := true, laidKinds := [.data, .data, .data, .data, .sentinel, .sentinel, .pinned], laidTests := true, laidLooks := .later }
def ExpressionKindsUptoCardSaid : Prop := Claim7.holds Tryz.pinned (.plain (OpenSpec.upto expressionKindsSpec)) expressionKindsUptoCard
end Rows
end Go.Proofs.YtbbjgochocccoaaGreatDoor
