/- Plain: the matching of as many as can be: how many it has (Hall, Ore), and who. -/
import Derived.Test.YtkhnohnkcdcajaaDoorGM1
set_option maxRecDepth 100000
namespace Go.Proofs.YtkhnohnkcdcajaaDoor.Sal
set_option linter.all false

def mat (has : List Int) (i : Nat) : Bool := decide (has.getD i (-1) ≠ -1)
section rank
variable {R : Nat → Nat → Bool} {m n : Nat}
end rank

section most
variable {R : Nat → Nat → Bool} {m n : Nat}
end most
end Go.Proofs.YtkhnohnkcdcajaaDoor.Sal
