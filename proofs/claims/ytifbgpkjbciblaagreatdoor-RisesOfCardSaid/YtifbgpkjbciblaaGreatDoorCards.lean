/-
  DERIVED. GIVEN WITH THE SEED: THE CARDS: each row of YtifbgpkjbciblaaGreatDoorRows.lean that lists a variable, with what it lists TIED to the program's text (the seventh form; the later family's looks); each row that meets fmt, with fmt's text TOLD by the authors' own Lean function (tested against real Go, not proved from fmt's source: count such statements apart). THE CARD IS WHAT COUNTS. Prove the row's statement (the work); the ties are given (YtifbgpkjbciblaaGreatDoorTie.lean); close each card by the builder's one call (the guide's Derived/Test/ToyasCard.lean, 'card_holds'). Laid BY PROGRAM, IN A SANDBOX (cutbox-door.mjs). By AI agents, Wed Nov 11 2026. No macro, syntax, notation, axiom, sorry.
-/
import Derived.Test.YtifbgpkjbciblaaGreatDoorRows
import GoSem.ClaimSeven
namespace Go.Proofs.YtifbgpkjbciblaaGreatDoor
namespace Rows

/-- THE TIED CARD OF 'salesroomlaw08.MatchingsOf'. -/
def matchingsOfCard : Claim7 := { stood := { row := matchingsOfRow, standIns := [], harness := (true, "59e0815a8d33889e6101ad9c6df433dae13d7f031f880ce89b0b330e287a1561"), looks := false }, kinds := [], alts := [], laidByText := true, laidKinds := [.data, .data, .data], laidTests := true, laidLooks := .later }
def MatchingsOfCardSaid : Prop := Claim7.holds Tryz.pinned (.plain (OpenSpec.ofChange matchingsOfSpec)) matchingsOfCard

/-- THE TIED CARD OF 'salesroomlaw09.HallsOf'. -/
def hallsOfCard : Claim7 := { stood := { row := hallsOfRow, standIns := [], harness := (true, "59e0815a8d33889e6101ad9c6df433dae13d7f031f880ce89b0b330e287a1561"), looks := false }, kinds := [], alts := [], laidByText := true, laidKinds := [.data, .data, .data], laidTests := true, laidLooks := .later }
def HallsOfCardSaid : Prop := Claim7.holds Tryz.pinned (.plain (OpenSpec.ofChange hallsOfSpec)) hallsOfCard

/-- THE TIED CARD OF 'salesroomlaw13.RisesOf'. -/
def risesOfCard : Claim7 := { stood := { row := risesOfRow, standIns := [], harness := (true, "59e0815a8d33889e6101ad9c6df433dae13d7f031f880ce89b0b330e287a1561"), looks := false }, kinds := [], alts := [], laidByText := true, laidKinds := [.data, .data, .data], laidTests := true, laidLooks := .later }
def RisesOfCardSaid : Prop := Claim7.holds Tryz.pinned (.plain (OpenSpec.ofChange risesOfSpec)) risesOfCard

/-- THE SECOND FORM's CARD OF 'salesroomlaw08.MatchingsOf'. -/
def matchingsOfUptoCard : Claim7 := { stood := { row := matchingsOfUptoRow, standIns := [], harness := (true, "59e0815a8d33889e6101ad9c6df433dae13d7f031f880ce89b0b330e287a1561"), looks := false }, kinds := [], alts := [], laidByText := true, laidKinds := [.data, .data, .data], laidTests := true, laidLooks := .later }
def MatchingsOfUptoCardSaid : Prop := Claim7.holds Tryz.pinned (.plain (OpenSpec.upto matchingsOfSpec)) matchingsOfUptoCard

/-- THE SECOND FORM's CARD OF 'salesroomlaw09.HallsOf'. -/
def hallsOfUptoCard : Claim7 := { stood := { row := hallsOfUptoRow, standIns := [], harness := (true, "59e0815a8d33889e6101ad9c6df433dae13d7f031f880ce89b0b330e287a1561"), looks := false }, kinds := [], alts := [], laidByText := true, laidKinds := [.data, .data, .data], laidTests := true, laidLooks := .later }
def HallsOfUptoCardSaid : Prop := Claim7.holds Tryz.pinned (.plain (OpenSpec.upto hallsOfSpec)) hallsOfUptoCard

/-- THE SECOND FORM's CARD OF 'salesroomlaw13.RisesOf'. -/
def risesOfUptoCard : Claim7 := { stood := { row := risesOfUptoRow, standIns := [], harness := (true, "59e0815a8d33889e6101ad9c6df433dae13d7f031f880ce89b0b330e287a1561"), looks := false }, kinds := [], alts := [], laidByText := true, laidKinds := [.data, .data, .data], laidTests := true, laidLooks := .later }
def RisesOfUptoCardSaid : Prop := Claim7.holds Tryz.pinned (.plain (OpenSpec.upto risesOfSpec)) risesOfUptoCard
end Rows
end Go.Proofs.YtifbgpkjbciblaaGreatDoor
