/-
  DERIVED. GIVEN WITH THE SEED: THE CARDS: each row of YtifbgpkjbciblaaDoorRows.lean that lists a variable, with what it lists TIED to the program's text (the seventh form; the later family's looks); each row that meets fmt, with fmt's text TOLD by the authors' own Lean function (tested against real Go, not proved from fmt's source: count such statements apart). THE CARD IS WHAT COUNTS. Prove the row's statement (the work); the ties are given (YtifbgpkjbciblaaDoorTie.lean); close each card by the builder's one call (the guide's Derived/Test/ToyasCard.lean, 'card_holds'). Laid BY PROGRAM, IN A SANDBOX (cutbox-door.mjs). By AI agents, Wed Nov 11 2026. No macro, syntax, notation, axiom, sorry.
-/
import Derived.Test.YtifbgpkjbciblaaDoorRows
import GoSem.ClaimSeven
namespace Go.Proofs.YtifbgpkjbciblaaDoor
namespace Rows

/-- THE TIED CARD OF 'salesroomlaw10.WeightsOf'. -/
def weightsOfCard : Claim7 := { stood := { row := weightsOfRow, standIns := [], harness := (true, "9f77d01776f329860e3ec1b0d6d35ed555c5a9d2cdf260cd6e5eaba58e9ed7b4"), looks := false }, kinds := [], alts := [], laidByText := true, laidKinds := [.data, .data, .data], laidTests := true, laidLooks := .later }
def WeightsOfCardSaid : Prop := Claim7.holds Tryd.pinned (.plain (OpenSpec.ofChange weightsOfSpec)) weightsOfCard

/-- THE SECOND FORM's CARD OF 'salesroomlaw10.WeightsOf'. -/
def weightsOfUptoCard : Claim7 := { stood := { row := weightsOfUptoRow, standIns := [], harness := (true, "9f77d01776f329860e3ec1b0d6d35ed555c5a9d2cdf260cd6e5eaba58e9ed7b4"), looks := false }, kinds := [], alts := [], laidByText := true, laidKinds := [.data, .data, .data], laidTests := true, laidLooks := .later }
def WeightsOfUptoCardSaid : Prop := Claim7.holds Tryd.pinned (.plain (OpenSpec.upto weightsOfSpec)) weightsOfUptoCard
end Rows
end Go.Proofs.YtifbgpkjbciblaaDoor
