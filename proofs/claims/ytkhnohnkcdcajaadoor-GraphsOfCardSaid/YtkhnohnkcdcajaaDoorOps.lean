/- The types of this translation, and the functions' numbers. -/
import Derived.Test.YtkhnohnkcdcajaaDoorCore7
import Derived.Test.YtkhnohnkcdcajaaDoorRows
set_option maxRecDepth 100000
namespace Go.Proofs.YtkhnohnkcdcajaaDoor.Sal
set_option linter.all false
open Go.RowKit
theorem inf_int : (Tryd.prog.info? 3).map (fun i => (i.zero, i.size, i.bytes)) = some (some (.int .i64 0), 1, 8) := by kernel_rfl
theorem inf_ints : (Tryd.prog.info? 25).map (fun i => (i.zero, i.size, i.bytes)) = some (some (.slice none 0 0), 1, 24) := by kernel_rfl
theorem ty_int : Ty1 Tryd.prog 3 := ⟨let ⟨i, h, _, hs, _⟩ := info_parts inf_int; ⟨i, h, hs⟩, _, Tryd.underlying3, rfl⟩
theorem ty_ints : Ty1 Tryd.prog 25 := ⟨let ⟨i, h, _, hs, _⟩ := info_parts inf_ints; ⟨i, h, hs⟩, _, Tryd.underlying25, rfl⟩
theorem in_int : InfoOf Tryd.prog 3 (.int .i64 0) := ⟨let ⟨i, h, hz, hs, hb⟩ := info_parts inf_int; ⟨i, h, hz, hs, by omega⟩, rfl⟩
theorem in_ints : InfoOf Tryd.prog 25 (.slice none 0 0) := ⟨let ⟨i, h, hz, hs, hb⟩ := info_parts inf_ints; ⟨i, h, hz, hs, by omega⟩, rfl⟩
theorem sl_ints : SlT Tryd.prog 25 3 := Tryd.underlying25
theorem sl_rows : SlT Tryd.prog 22 25 := Tryd.underlying22
theorem u_bool : Tryd.prog.underlying 4 = some .bool := Tryd.underlying4
theorem mixed : Tryd.prog.follows .mixedOrders = true := by kernel_rfl
end Go.Proofs.YtkhnohnkcdcajaaDoor.Sal
