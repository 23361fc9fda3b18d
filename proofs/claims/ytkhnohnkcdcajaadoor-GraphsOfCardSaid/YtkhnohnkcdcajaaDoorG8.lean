/- salesroomlaw06.alive. -/
import Derived.Test.YtkhnohnkcdcajaaDoorG7
set_option maxRecDepth 100000
namespace Go.Proofs.YtkhnohnkcdcajaaDoor.Sal
open Go.RowKit
attribute [local irreducible] Go.Code.wpIn Go.wpListIn Ct Ints Rows Sl At Rw WJ
set_option linter.all false
theorem At.two {w : World} {b : Nat} {E : TypeId} {p q : Int} (h : At w b E [.int .i64 p, .int .i64 q]) : Ints w (sv b 2 2) [p, q] := At.ints (l := [p, q]) (c := 2) h (by simp) (by simp)
end Go.Proofs.YtkhnohnkcdcajaaDoor.Sal
