/- Core12: a region whose order Go leaves open, where at one point two operations that make memory are ready: both orders. -/
import Derived.Test.YtkhnohnkcdcajaaDoorCore10
set_option maxRecDepth 100000
namespace Go.Proofs.YtkhnohnkcdcajaaDoor.Sal
set_option linter.all false
open Go.RowKit
section fork
variable {r : Option Nat} {P : Program} {ops : Array Oper} {J : World → Prop} {Q : Exit → Act → World → Prop} {z : Nat}
end fork
end Go.Proofs.YtkhnohnkcdcajaaDoor.Sal
