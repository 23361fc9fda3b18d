/- Core7: bits, remainders, conversions of numbers that are 0 at least. -/
import Derived.Test.YtkhnohnkcdcajaaDoorCore6
set_option maxRecDepth 100000
namespace Go.Proofs.YtkhnohnkcdcajaaDoor.Sal
set_option linter.all false
open Go.RowKit

/-- The greatest number of a kind, and the least. -/
def top : IntKind → Nat
  | .i8 => 127 | .i16 => 32767 | .i32 => 2147483647 | .i64 => 9223372036854775807
  | .u8 => 255 | .u16 => 65535 | .u32 => 4294967295 | .u64 => 18446744073709551615
section runs
variable {P : Program} {w : World} {t : TypeId} {k k' : IntKind} {m n : Nat}
end runs
section ops
variable {r : Option Nat} {P : Program} {ops : Array Oper} {Q : Exit → Act → World → Prop} {N : Nat} {σ : Nat → Value} {ds : List Deferred} {w : World} {rest : List Oper}
variable {gd : Option (Nat × Bool)} {d : Nat} {ty : TypeId} {pos : String} {after : Array Edge} {t t' : TypeId} {x y : Operand} {k k' : IntKind} {m n : Nat} {J : World → Prop} {z i : Nat} {π : List (Nat × Bool)}
end ops
end Go.Proofs.YtkhnohnkcdcajaaDoor.Sal
