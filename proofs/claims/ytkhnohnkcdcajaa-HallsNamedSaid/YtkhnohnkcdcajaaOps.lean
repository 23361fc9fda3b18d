/- The types of this translation, and the functions' numbers. -/
import Derived.Test.YtkhnohnkcdcajaaCore7
import Derived.Test.YtkhnohnkcdcajaaRows
namespace Go.Proofs.Ytkhnohnkcdcajaa.Sal
set_option linter.all false
open Go.RowKit
theorem inf_int : (Try.prog.info? 3).map (fun i => (i.zero, i.size, i.bytes)) = some (some (.int .i64 0), 1, 8) := by kernel_rfl
theorem inf_ints : (Try.prog.info? 33).map (fun i => (i.zero, i.size, i.bytes)) = some (some (.slice none 0 0), 1, 24) := by kernel_rfl
theorem ty_int : Ty1 Try.prog 3 := ⟨let ⟨i, h, _, hs, _⟩ := info_parts inf_int; ⟨i, h, hs⟩, _, Try.underlying3, rfl⟩
theorem ty_ints : Ty1 Try.prog 33 := ⟨let ⟨i, h, _, hs, _⟩ := info_parts inf_ints; ⟨i, h, hs⟩, _, Try.underlying33, rfl⟩
theorem in_int : InfoOf Try.prog 3 (.int .i64 0) := ⟨let ⟨i, h, hz, hs, hb⟩ := info_parts inf_int; ⟨i, h, hz, hs, by omega⟩, rfl⟩
theorem in_ints : InfoOf Try.prog 33 (.slice none 0 0) := ⟨let ⟨i, h, hz, hs, hb⟩ := info_parts inf_ints; ⟨i, h, hz, hs, by omega⟩, rfl⟩
theorem sl_ints : SlT Try.prog 33 3 := Try.underlying33
theorem sl_rows : SlT Try.prog 22 33 := Try.underlying22
theorem u_bool : Try.prog.underlying 4 = some .bool := Try.underlying4
theorem mixed : Try.prog.follows .mixedOrders = true := by kernel_rfl
end Go.Proofs.Ytkhnohnkcdcajaa.Sal
