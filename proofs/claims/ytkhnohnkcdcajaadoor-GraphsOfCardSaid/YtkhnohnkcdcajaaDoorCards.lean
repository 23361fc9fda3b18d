/-
  DERIVED. GIVEN WITH THE SEED: THE CARDS: each row of YtkhnohnkcdcajaaDoorRows.lean that lists a variable, with what it lists TIED to the program's text (the seventh form; the later family's looks); each row that meets fmt, with fmt's text TOLD by the authors' own Lean function (tested against real Go, not proved from fmt's source: count such statements apart). THE CARD IS WHAT COUNTS. Prove the row's statement (the work); the ties are given (YtkhnohnkcdcajaaDoorTie.lean); close each card by the builder's one call (the guide's Derived/Test/ToyasCard.lean, 'card_holds'). Laid BY PROGRAM, IN A SANDBOX (cutbox-door.mjs). By AI agents, Wed Nov 11 2026. No macro, syntax, notation, axiom, sorry.
-/
import Derived.Test.YtkhnohnkcdcajaaDoorRows
import GoSem.ClaimSeven
namespace Go.Proofs.YtkhnohnkcdcajaaDoor
namespace Rows

/-- THE TIED CARD OF 'salesroomlaw06.GraphsOf'. -/
def graphsOfCard : Claim7 := { stood := { row := graphsOfRow, standIns := [], harness := (true, "ab12ff705f0cb3fa18220a2e99196823b6fdede045695a678f40aa239c7c81c9"), looks := false }, kinds := [], alts := [], laidByText := true, laidKinds := [.data, .data, .data], laidTests := true, laidLooks := .later }
def GraphsOfCardSaid : Prop := Claim7.holds Tryd.pinned (.plain (OpenSpec.ofChange graphsOfSpec)) graphsOfCard

/-- THE SECOND FORM's CARD OF 'salesroomlaw06.GraphsOf'. -/
def graphsOfUptoCard : Claim7 := { stood := { row := graphsOfUptoRow, standIns := [], harness := (true, "ab12ff705f0cb3fa18220a2e99196823b6fdede045695a678f40aa239c7c81c9"), looks := false }, kinds := [], alts := [], laidByText := true, laidKinds := [.data, .data, .data], laidTests := true, laidLooks := .later }
def GraphsOfUptoCardSaid : Prop := Claim7.holds Tryd.pinned (.plain (OpenSpec.upto graphsOfSpec)) graphsOfUptoCard
end Rows
end Go.Proofs.YtkhnohnkcdcajaaDoor
