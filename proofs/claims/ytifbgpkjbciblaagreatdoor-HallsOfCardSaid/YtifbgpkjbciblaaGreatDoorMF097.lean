/- Texts that YtifbgpkjbciblaaGreatDoorF09 leans on, laid together: BK6 TW2 GW BO1 FW H4 RM9. -/
import Derived.Test.YtifbgpkjbciblaaGreatDoorMF096
import Derived.Test.YtifbgpkjbciblaaGreatDoorMF093
import Derived.Test.YtifbgpkjbciblaaGreatDoorMF095
import Derived.Test.YtifbgpkjbciblaaGreatDoorMF094
/- The Book of salesroomlaw01: the kinds that lie empty; Apart. -/
set_option maxRecDepth 100000
namespace Go.Proofs.YtifbgpkjbciblaaGreatDoor.Sal
open Go.RowKit
attribute [local irreducible] Go.Code.wpIn Go.wpListIn Ct Ints Rows Sl At Rw WJ
attribute [local irreducible] Wd
set_option linter.all false
theorem ty_eByte : Ty1 Tryz.prog 36 := ⟨let ⟨i, h, _, hs, _⟩ := info_parts (show (Tryz.prog.info? 36).map (fun i => (i.zero, i.size, i.bytes)) = some (some (.slice none 0 0), 1, 24) by kernel_rfl); ⟨i, h, hs⟩, _, Tryz.underlying36, rfl⟩
theorem sl_eByte : SlT Tryz.prog 36 110 := Tryz.underlying36
theorem ok_fillByte : CallOK Tryz.prog 44 := callOK Tryz.func44 (by kernel_rfl) rfl
theorem fillByte_ct (bk M : Nat) (vi vl : Value) (w : World) (hA : At w bk 46 (bkc M vi vl)) : Ct Tryz.prog 44 #[.pointer (some ⟨bk, 0, none⟩)] w fun u w' => u = .tuple #[] ∧ Ex w w' := by
  refine enter (N := 35) (vs := [.pointer (some ⟨bk, 0, none⟩)]) Tryz.func44 rfl rfl rfl ?_
  repeat (first | (refine isO ?_; refine s_assign ?_) | (refine isC ?_; first | refine c_sr ?_ | refine c_block ?_) | (refine l_th ?_))
  refine c_loop (γ := Unit) 34359738364 (fun _ => [(2, .int .i64 0)]) (fun _ W => Ex w W) (fun _ => 0) () ⟨rfl, trivial⟩ (Ex.refl _) ?_
  rintro _ ρ W hx
  repeat (first | (refine isO ?_; refine s_move ?_) | (refine isC ?_; first | refine c_sr ?_ | refine c_seq ?_))
  refine s_nil rfl ?_
  refine s_faN Tryz.underlying46 rfl ty_eByte.n rfl ?_
  refine s_ldA ty_eByte rfl (hA.ex hx) rfl ?_
  refine s_len (n := 0) (a := none) (c := 0) sl_eByte rfl ?_
  refine s_lssF rfl rfl (by omega) ?_
  repeat (first | (refine isC ?_; first | refine c_iff rfl ?_ | refine c_exit ?_) | (first | refine l_th ?_ | refine ib_exit ?_ | refine th_exit ?_))
  exact end0 rfl ⟨rfl, hx⟩
theorem ok_growByte : CallOK Tryz.prog 53 := callOK Tryz.func53 (by kernel_rfl) rfl
theorem growByte_ct (bk M : Nat) (vi vl : Value) (w : World) (hA : At w bk 46 (bkc M vi vl)) : Ct Tryz.prog 53 #[.pointer (some ⟨bk, 0, none⟩)] w fun u w' => u = .tuple #[] ∧ Ex w w' := by
  refine enter (N := 42) (vs := [.pointer (some ⟨bk, 0, none⟩)]) Tryz.func53 rfl rfl rfl ?_
  repeat (first | (refine isO ?_; refine s_assign ?_) | (refine isC ?_; first | refine c_sr ?_ | refine c_block ?_) | (refine l_th ?_))
  refine c_loop (γ := Unit) 4398046511100 (fun _ => [(2, .int .i64 0)]) (fun _ W => Ex w W) (fun _ => 0) () ⟨rfl, trivial⟩ (Ex.refl _) ?_
  rintro _ ρ W hx
  repeat (first | (refine isO ?_; refine s_move ?_) | (refine isC ?_; first | refine c_sr ?_ | refine c_seq ?_))
  refine s_nil rfl ?_
  refine s_faN Tryz.underlying46 rfl ty_eByte.n rfl ?_
  refine s_ldA ty_eByte rfl (hA.ex hx) rfl ?_
  refine s_len (n := 0) (a := none) (c := 0) sl_eByte rfl ?_
  refine s_lssF rfl rfl (by omega) ?_
  repeat (first | (refine isC ?_; first | refine c_iff rfl ?_ | refine c_exit ?_) | (first | refine l_th ?_ | refine ib_exit ?_ | refine th_exit ?_))
  exact end0 rfl ⟨rfl, hx⟩
theorem ok_lookByte : CallOK Tryz.prog 62 := callOK Tryz.func62 (by kernel_rfl) rfl
theorem lookByte_ct (bk M : Nat) (vi vl : Value) (w : World) (hA : At w bk 46 (bkc M vi vl)) : Ct Tryz.prog 62 #[.pointer (some ⟨bk, 0, none⟩)] w fun u w' => u = .bool true ∧ Ex w w' := by
  refine enter (N := 64) (vs := [.pointer (some ⟨bk, 0, none⟩)]) Tryz.func62 rfl rfl rfl ?_
  repeat (first | (refine isO ?_; refine s_assign ?_) | (refine isC ?_; first | refine c_sr ?_ | refine c_seq ?_ | refine c_block ?_) | (refine l_th ?_))
  refine c_loop (γ := Unit) 18446744073709551612 (fun _ => [(3, .int .i64 0)]) (fun _ W => Ex w W) (fun _ => 0) () ⟨rfl, trivial⟩ (Ex.refl _) ?_
  rintro _ ρ W hx
  repeat (first | (refine isO ?_; refine s_move ?_) | (refine isC ?_; first | refine c_sr ?_ | refine c_seq ?_))
  refine s_nil rfl ?_
  refine s_faN Tryz.underlying46 rfl ty_eByte.n rfl ?_
  refine s_ldA ty_eByte rfl (hA.ex hx) rfl ?_
  refine s_len (n := 0) (a := none) (c := 0) sl_eByte rfl ?_
  refine s_lssF rfl rfl (by omega) ?_
  repeat (first | (refine isO ?_; refine s_assign ?_) | (refine isC ?_; first | refine c_sr ?_ | refine c_iff rfl ?_ | refine c_ret ?_ | refine c_exit ?_) | (refine l_th ?_))
  exact ret1 rfl rfl ⟨rfl, hx⟩
theorem ty_eText : Ty1 Tryz.prog 38 := ⟨let ⟨i, h, _, hs, _⟩ := info_parts (show (Tryz.prog.info? 38).map (fun i => (i.zero, i.size, i.bytes)) = some (some (.slice none 0 0), 1, 24) by kernel_rfl); ⟨i, h, hs⟩, _, Tryz.underlying38, rfl⟩
theorem sl_eText : SlT Tryz.prog 38 115 := Tryz.underlying38
theorem ok_fillText : CallOK Tryz.prog 46 := callOK Tryz.func46 (by kernel_rfl) rfl
theorem fillText_ct (bk M : Nat) (vi vl : Value) (w : World) (hA : At w bk 46 (bkc M vi vl)) : Ct Tryz.prog 46 #[.pointer (some ⟨bk, 0, none⟩)] w fun u w' => u = .tuple #[] ∧ Ex w w' := by
  refine enter (N := 35) (vs := [.pointer (some ⟨bk, 0, none⟩)]) Tryz.func46 rfl rfl rfl ?_
  repeat (first | (refine isO ?_; refine s_assign ?_) | (refine isC ?_; first | refine c_sr ?_ | refine c_block ?_) | (refine l_th ?_))
  refine c_loop (γ := Unit) 34359738364 (fun _ => [(2, .int .i64 0)]) (fun _ W => Ex w W) (fun _ => 0) () ⟨rfl, trivial⟩ (Ex.refl _) ?_
  rintro _ ρ W hx
  repeat (first | (refine isO ?_; refine s_move ?_) | (refine isC ?_; first | refine c_sr ?_ | refine c_seq ?_))
  refine s_nil rfl ?_
  refine s_faN Tryz.underlying46 rfl ty_eText.n rfl ?_
  refine s_ldA ty_eText rfl (hA.ex hx) rfl ?_
  refine s_len (n := 0) (a := none) (c := 0) sl_eText rfl ?_
  refine s_lssF rfl rfl (by omega) ?_
  repeat (first | (refine isC ?_; first | refine c_iff rfl ?_ | refine c_exit ?_) | (first | refine l_th ?_ | refine ib_exit ?_ | refine th_exit ?_))
  exact end0 rfl ⟨rfl, hx⟩
theorem ok_growText : CallOK Tryz.prog 55 := callOK Tryz.func55 (by kernel_rfl) rfl
theorem growText_ct (bk M : Nat) (vi vl : Value) (w : World) (hA : At w bk 46 (bkc M vi vl)) : Ct Tryz.prog 55 #[.pointer (some ⟨bk, 0, none⟩)] w fun u w' => u = .tuple #[] ∧ Ex w w' := by
  refine enter (N := 42) (vs := [.pointer (some ⟨bk, 0, none⟩)]) Tryz.func55 rfl rfl rfl ?_
  repeat (first | (refine isO ?_; refine s_assign ?_) | (refine isC ?_; first | refine c_sr ?_ | refine c_block ?_) | (refine l_th ?_))
  refine c_loop (γ := Unit) 4398046511100 (fun _ => [(2, .int .i64 0)]) (fun _ W => Ex w W) (fun _ => 0) () ⟨rfl, trivial⟩ (Ex.refl _) ?_
  rintro _ ρ W hx
  repeat (first | (refine isO ?_; refine s_move ?_) | (refine isC ?_; first | refine c_sr ?_ | refine c_seq ?_))
  refine s_nil rfl ?_
  refine s_faN Tryz.underlying46 rfl ty_eText.n rfl ?_
  refine s_ldA ty_eText rfl (hA.ex hx) rfl ?_
  refine s_len (n := 0) (a := none) (c := 0) sl_eText rfl ?_
  refine s_lssF rfl rfl (by omega) ?_
  repeat (first | (refine isC ?_; first | refine c_iff rfl ?_ | refine c_exit ?_) | (first | refine l_th ?_ | refine ib_exit ?_ | refine th_exit ?_))
  exact end0 rfl ⟨rfl, hx⟩
theorem ok_lookText : CallOK Tryz.prog 64 := callOK Tryz.func64 (by kernel_rfl) rfl
theorem lookText_ct (bk M : Nat) (vi vl : Value) (w : World) (hA : At w bk 46 (bkc M vi vl)) : Ct Tryz.prog 64 #[.pointer (some ⟨bk, 0, none⟩)] w fun u w' => u = .bool true ∧ Ex w w' := by
  refine enter (N := 64) (vs := [.pointer (some ⟨bk, 0, none⟩)]) Tryz.func64 rfl rfl rfl ?_
  repeat (first | (refine isO ?_; refine s_assign ?_) | (refine isC ?_; first | refine c_sr ?_ | refine c_seq ?_ | refine c_block ?_) | (refine l_th ?_))
  refine c_loop (γ := Unit) 18446744073709551612 (fun _ => [(3, .int .i64 0)]) (fun _ W => Ex w W) (fun _ => 0) () ⟨rfl, trivial⟩ (Ex.refl _) ?_
  rintro _ ρ W hx
  repeat (first | (refine isO ?_; refine s_move ?_) | (refine isC ?_; first | refine c_sr ?_ | refine c_seq ?_))
  refine s_nil rfl ?_
  refine s_faN Tryz.underlying46 rfl ty_eText.n rfl ?_
  refine s_ldA ty_eText rfl (hA.ex hx) rfl ?_
  refine s_len (n := 0) (a := none) (c := 0) sl_eText rfl ?_
  refine s_lssF rfl rfl (by omega) ?_
  repeat (first | (refine isO ?_; refine s_assign ?_) | (refine isC ?_; first | refine c_sr ?_ | refine c_iff rfl ?_ | refine c_ret ?_ | refine c_exit ?_) | (refine l_th ?_))
  exact ret1 rfl rfl ⟨rfl, hx⟩
theorem ty_eByteList : Ty1 Tryz.prog 40 := ⟨let ⟨i, h, _, hs, _⟩ := info_parts (show (Tryz.prog.info? 40).map (fun i => (i.zero, i.size, i.bytes)) = some (some (.slice none 0 0), 1, 24) by kernel_rfl); ⟨i, h, hs⟩, _, Tryz.underlying40, rfl⟩
theorem sl_eByteList : SlT Tryz.prog 40 120 := Tryz.underlying40
theorem ok_fillByteList : CallOK Tryz.prog 48 := callOK Tryz.func48 (by kernel_rfl) rfl
theorem fillByteList_ct (bk M : Nat) (vi vl : Value) (w : World) (hA : At w bk 46 (bkc M vi vl)) : Ct Tryz.prog 48 #[.pointer (some ⟨bk, 0, none⟩)] w fun u w' => u = .tuple #[] ∧ Ex w w' := by
  refine enter (N := 35) (vs := [.pointer (some ⟨bk, 0, none⟩)]) Tryz.func48 rfl rfl rfl ?_
  repeat (first | (refine isO ?_; refine s_assign ?_) | (refine isC ?_; first | refine c_sr ?_ | refine c_block ?_) | (refine l_th ?_))
  refine c_loop (γ := Unit) 34359738364 (fun _ => [(2, .int .i64 0)]) (fun _ W => Ex w W) (fun _ => 0) () ⟨rfl, trivial⟩ (Ex.refl _) ?_
  rintro _ ρ W hx
  repeat (first | (refine isO ?_; refine s_move ?_) | (refine isC ?_; first | refine c_sr ?_ | refine c_seq ?_))
  refine s_nil rfl ?_
  refine s_faN Tryz.underlying46 rfl ty_eByteList.n rfl ?_
  refine s_ldA ty_eByteList rfl (hA.ex hx) rfl ?_
  refine s_len (n := 0) (a := none) (c := 0) sl_eByteList rfl ?_
  refine s_lssF rfl rfl (by omega) ?_
  repeat (first | (refine isC ?_; first | refine c_iff rfl ?_ | refine c_exit ?_) | (first | refine l_th ?_ | refine ib_exit ?_ | refine th_exit ?_))
  exact end0 rfl ⟨rfl, hx⟩
theorem ok_growByteList : CallOK Tryz.prog 57 := callOK Tryz.func57 (by kernel_rfl) rfl
theorem growByteList_ct (bk M : Nat) (vi vl : Value) (w : World) (hA : At w bk 46 (bkc M vi vl)) : Ct Tryz.prog 57 #[.pointer (some ⟨bk, 0, none⟩)] w fun u w' => u = .tuple #[] ∧ Ex w w' := by
  refine enter (N := 42) (vs := [.pointer (some ⟨bk, 0, none⟩)]) Tryz.func57 rfl rfl rfl ?_
  repeat (first | (refine isO ?_; refine s_assign ?_) | (refine isC ?_; first | refine c_sr ?_ | refine c_block ?_) | (refine l_th ?_))
  refine c_loop (γ := Unit) 4398046511100 (fun _ => [(2, .int .i64 0)]) (fun _ W => Ex w W) (fun _ => 0) () ⟨rfl, trivial⟩ (Ex.refl _) ?_
  rintro _ ρ W hx
  repeat (first | (refine isO ?_; refine s_move ?_) | (refine isC ?_; first | refine c_sr ?_ | refine c_seq ?_))
  refine s_nil rfl ?_
  refine s_faN Tryz.underlying46 rfl ty_eByteList.n rfl ?_
  refine s_ldA ty_eByteList rfl (hA.ex hx) rfl ?_
  refine s_len (n := 0) (a := none) (c := 0) sl_eByteList rfl ?_
  refine s_lssF rfl rfl (by omega) ?_
  repeat (first | (refine isC ?_; first | refine c_iff rfl ?_ | refine c_exit ?_) | (first | refine l_th ?_ | refine ib_exit ?_ | refine th_exit ?_))
  exact end0 rfl ⟨rfl, hx⟩
theorem ok_lookByteList : CallOK Tryz.prog 66 := callOK Tryz.func66 (by kernel_rfl) rfl
theorem lookByteList_ct (bk M : Nat) (vi vl : Value) (w : World) (hA : At w bk 46 (bkc M vi vl)) : Ct Tryz.prog 66 #[.pointer (some ⟨bk, 0, none⟩)] w fun u w' => u = .bool true ∧ Ex w w' := by
  refine enter (N := 64) (vs := [.pointer (some ⟨bk, 0, none⟩)]) Tryz.func66 rfl rfl rfl ?_
  repeat (first | (refine isO ?_; refine s_assign ?_) | (refine isC ?_; first | refine c_sr ?_ | refine c_seq ?_ | refine c_block ?_) | (refine l_th ?_))
  refine c_loop (γ := Unit) 18446744073709551612 (fun _ => [(3, .int .i64 0)]) (fun _ W => Ex w W) (fun _ => 0) () ⟨rfl, trivial⟩ (Ex.refl _) ?_
  rintro _ ρ W hx
  repeat (first | (refine isO ?_; refine s_move ?_) | (refine isC ?_; first | refine c_sr ?_ | refine c_seq ?_))
  refine s_nil rfl ?_
  refine s_faN Tryz.underlying46 rfl ty_eByteList.n rfl ?_
  refine s_ldA ty_eByteList rfl (hA.ex hx) rfl ?_
  refine s_len (n := 0) (a := none) (c := 0) sl_eByteList rfl ?_
  refine s_lssF rfl rfl (by omega) ?_
  repeat (first | (refine isO ?_; refine s_assign ?_) | (refine isC ?_; first | refine c_sr ?_ | refine c_iff rfl ?_ | refine c_ret ?_ | refine c_exit ?_) | (refine l_th ?_))
  exact ret1 rfl rfl ⟨rfl, hx⟩
theorem ty_eWhy : Ty1 Tryz.prog 41 := ⟨let ⟨i, h, _, hs, _⟩ := info_parts (show (Tryz.prog.info? 41).map (fun i => (i.zero, i.size, i.bytes)) = some (some (.slice none 0 0), 1, 24) by kernel_rfl); ⟨i, h, hs⟩, _, Tryz.underlying41, rfl⟩
theorem sl_eWhy : SlT Tryz.prog 41 124 := Tryz.underlying41
theorem ok_fillWhy : CallOK Tryz.prog 49 := callOK Tryz.func49 (by kernel_rfl) rfl
theorem fillWhy_ct (bk M : Nat) (vi vl : Value) (w : World) (hA : At w bk 46 (bkc M vi vl)) : Ct Tryz.prog 49 #[.pointer (some ⟨bk, 0, none⟩)] w fun u w' => u = .tuple #[] ∧ Ex w w' := by
  refine enter (N := 35) (vs := [.pointer (some ⟨bk, 0, none⟩)]) Tryz.func49 rfl rfl rfl ?_
  repeat (first | (refine isO ?_; refine s_assign ?_) | (refine isC ?_; first | refine c_sr ?_ | refine c_block ?_) | (refine l_th ?_))
  refine c_loop (γ := Unit) 34359738364 (fun _ => [(2, .int .i64 0)]) (fun _ W => Ex w W) (fun _ => 0) () ⟨rfl, trivial⟩ (Ex.refl _) ?_
  rintro _ ρ W hx
  repeat (first | (refine isO ?_; refine s_move ?_) | (refine isC ?_; first | refine c_sr ?_ | refine c_seq ?_))
  refine s_nil rfl ?_
  refine s_faN Tryz.underlying46 rfl ty_eWhy.n rfl ?_
  refine s_ldA ty_eWhy rfl (hA.ex hx) rfl ?_
  refine s_len (n := 0) (a := none) (c := 0) sl_eWhy rfl ?_
  refine s_lssF rfl rfl (by omega) ?_
  repeat (first | (refine isC ?_; first | refine c_iff rfl ?_ | refine c_exit ?_) | (first | refine l_th ?_ | refine ib_exit ?_ | refine th_exit ?_))
  exact end0 rfl ⟨rfl, hx⟩
theorem ok_growWhy : CallOK Tryz.prog 58 := callOK Tryz.func58 (by kernel_rfl) rfl
theorem growWhy_ct (bk M : Nat) (vi vl : Value) (w : World) (hA : At w bk 46 (bkc M vi vl)) : Ct Tryz.prog 58 #[.pointer (some ⟨bk, 0, none⟩)] w fun u w' => u = .tuple #[] ∧ Ex w w' := by
  refine enter (N := 42) (vs := [.pointer (some ⟨bk, 0, none⟩)]) Tryz.func58 rfl rfl rfl ?_
  repeat (first | (refine isO ?_; refine s_assign ?_) | (refine isC ?_; first | refine c_sr ?_ | refine c_block ?_) | (refine l_th ?_))
  refine c_loop (γ := Unit) 4398046511100 (fun _ => [(2, .int .i64 0)]) (fun _ W => Ex w W) (fun _ => 0) () ⟨rfl, trivial⟩ (Ex.refl _) ?_
  rintro _ ρ W hx
  repeat (first | (refine isO ?_; refine s_move ?_) | (refine isC ?_; first | refine c_sr ?_ | refine c_seq ?_))
  refine s_nil rfl ?_
  refine s_faN Tryz.underlying46 rfl ty_eWhy.n rfl ?_
  refine s_ldA ty_eWhy rfl (hA.ex hx) rfl ?_
  refine s_len (n := 0) (a := none) (c := 0) sl_eWhy rfl ?_
  refine s_lssF rfl rfl (by omega) ?_
  repeat (first | (refine isC ?_; first | refine c_iff rfl ?_ | refine c_exit ?_) | (first | refine l_th ?_ | refine ib_exit ?_ | refine th_exit ?_))
  exact end0 rfl ⟨rfl, hx⟩
theorem ok_lookWhy : CallOK Tryz.prog 67 := callOK Tryz.func67 (by kernel_rfl) rfl
theorem lookWhy_ct (bk M : Nat) (vi vl : Value) (w : World) (hA : At w bk 46 (bkc M vi vl)) : Ct Tryz.prog 67 #[.pointer (some ⟨bk, 0, none⟩)] w fun u w' => u = .bool true ∧ Ex w w' := by
  refine enter (N := 64) (vs := [.pointer (some ⟨bk, 0, none⟩)]) Tryz.func67 rfl rfl rfl ?_
  repeat (first | (refine isO ?_; refine s_assign ?_) | (refine isC ?_; first | refine c_sr ?_ | refine c_seq ?_ | refine c_block ?_) | (refine l_th ?_))
  refine c_loop (γ := Unit) 18446744073709551612 (fun _ => [(3, .int .i64 0)]) (fun _ W => Ex w W) (fun _ => 0) () ⟨rfl, trivial⟩ (Ex.refl _) ?_
  rintro _ ρ W hx
  repeat (first | (refine isO ?_; refine s_move ?_) | (refine isC ?_; first | refine c_sr ?_ | refine c_seq ?_))
  refine s_nil rfl ?_
  refine s_faN Tryz.underlying46 rfl ty_eWhy.n rfl ?_
  refine s_ldA ty_eWhy rfl (hA.ex hx) rfl ?_
  refine s_len (n := 0) (a := none) (c := 0) sl_eWhy rfl ?_
  refine s_lssF rfl rfl (by omega) ?_
  repeat (first | (refine isO ?_; refine s_assign ?_) | (refine isC ?_; first | refine c_sr ?_ | refine c_iff rfl ?_ | refine c_ret ?_ | refine c_exit ?_) | (refine l_th ?_))
  exact ret1 rfl rfl ⟨rfl, hx⟩
theorem ty_eFrame : Ty1 Tryz.prog 42 := ⟨let ⟨i, h, _, hs, _⟩ := info_parts (show (Tryz.prog.info? 42).map (fun i => (i.zero, i.size, i.bytes)) = some (some (.slice none 0 0), 1, 24) by kernel_rfl); ⟨i, h, hs⟩, _, Tryz.underlying42, rfl⟩
theorem sl_eFrame : SlT Tryz.prog 42 130 := Tryz.underlying42
theorem ok_fillFrame : CallOK Tryz.prog 50 := callOK Tryz.func50 (by kernel_rfl) rfl
theorem fillFrame_ct (bk M : Nat) (vi vl : Value) (w : World) (hA : At w bk 46 (bkc M vi vl)) : Ct Tryz.prog 50 #[.pointer (some ⟨bk, 0, none⟩)] w fun u w' => u = .tuple #[] ∧ Ex w w' := by
  refine enter (N := 35) (vs := [.pointer (some ⟨bk, 0, none⟩)]) Tryz.func50 rfl rfl rfl ?_
  repeat (first | (refine isO ?_; refine s_assign ?_) | (refine isC ?_; first | refine c_sr ?_ | refine c_block ?_) | (refine l_th ?_))
  refine c_loop (γ := Unit) 34359738364 (fun _ => [(2, .int .i64 0)]) (fun _ W => Ex w W) (fun _ => 0) () ⟨rfl, trivial⟩ (Ex.refl _) ?_
  rintro _ ρ W hx
  repeat (first | (refine isO ?_; refine s_move ?_) | (refine isC ?_; first | refine c_sr ?_ | refine c_seq ?_))
  refine s_nil rfl ?_
  refine s_faN Tryz.underlying46 rfl ty_eFrame.n rfl ?_
  refine s_ldA ty_eFrame rfl (hA.ex hx) rfl ?_
  refine s_len (n := 0) (a := none) (c := 0) sl_eFrame rfl ?_
  refine s_lssF rfl rfl (by omega) ?_
  repeat (first | (refine isC ?_; first | refine c_iff rfl ?_ | refine c_exit ?_) | (first | refine l_th ?_ | refine ib_exit ?_ | refine th_exit ?_))
  exact end0 rfl ⟨rfl, hx⟩
theorem ok_growFrame : CallOK Tryz.prog 59 := callOK Tryz.func59 (by kernel_rfl) rfl
theorem growFrame_ct (bk M : Nat) (vi vl : Value) (w : World) (hA : At w bk 46 (bkc M vi vl)) : Ct Tryz.prog 59 #[.pointer (some ⟨bk, 0, none⟩)] w fun u w' => u = .tuple #[] ∧ Ex w w' := by
  refine enter (N := 42) (vs := [.pointer (some ⟨bk, 0, none⟩)]) Tryz.func59 rfl rfl rfl ?_
  repeat (first | (refine isO ?_; refine s_assign ?_) | (refine isC ?_; first | refine c_sr ?_ | refine c_block ?_) | (refine l_th ?_))
  refine c_loop (γ := Unit) 4398046511100 (fun _ => [(2, .int .i64 0)]) (fun _ W => Ex w W) (fun _ => 0) () ⟨rfl, trivial⟩ (Ex.refl _) ?_
  rintro _ ρ W hx
  repeat (first | (refine isO ?_; refine s_move ?_) | (refine isC ?_; first | refine c_sr ?_ | refine c_seq ?_))
  refine s_nil rfl ?_
  refine s_faN Tryz.underlying46 rfl ty_eFrame.n rfl ?_
  refine s_ldA ty_eFrame rfl (hA.ex hx) rfl ?_
  refine s_len (n := 0) (a := none) (c := 0) sl_eFrame rfl ?_
  refine s_lssF rfl rfl (by omega) ?_
  repeat (first | (refine isC ?_; first | refine c_iff rfl ?_ | refine c_exit ?_) | (first | refine l_th ?_ | refine ib_exit ?_ | refine th_exit ?_))
  exact end0 rfl ⟨rfl, hx⟩
theorem ok_lookFrame : CallOK Tryz.prog 68 := callOK Tryz.func68 (by kernel_rfl) rfl
theorem lookFrame_ct (bk M : Nat) (vi vl : Value) (w : World) (hA : At w bk 46 (bkc M vi vl)) : Ct Tryz.prog 68 #[.pointer (some ⟨bk, 0, none⟩)] w fun u w' => u = .bool true ∧ Ex w w' := by
  refine enter (N := 64) (vs := [.pointer (some ⟨bk, 0, none⟩)]) Tryz.func68 rfl rfl rfl ?_
  repeat (first | (refine isO ?_; refine s_assign ?_) | (refine isC ?_; first | refine c_sr ?_ | refine c_seq ?_ | refine c_block ?_) | (refine l_th ?_))
  refine c_loop (γ := Unit) 18446744073709551612 (fun _ => [(3, .int .i64 0)]) (fun _ W => Ex w W) (fun _ => 0) () ⟨rfl, trivial⟩ (Ex.refl _) ?_
  rintro _ ρ W hx
  repeat (first | (refine isO ?_; refine s_move ?_) | (refine isC ?_; first | refine c_sr ?_ | refine c_seq ?_))
  refine s_nil rfl ?_
  refine s_faN Tryz.underlying46 rfl ty_eFrame.n rfl ?_
  refine s_ldA ty_eFrame rfl (hA.ex hx) rfl ?_
  refine s_len (n := 0) (a := none) (c := 0) sl_eFrame rfl ?_
  refine s_lssF rfl rfl (by omega) ?_
  repeat (first | (refine isO ?_; refine s_assign ?_) | (refine isC ?_; first | refine c_sr ?_ | refine c_iff rfl ?_ | refine c_ret ?_ | refine c_exit ?_) | (refine l_th ?_))
  exact ret1 rfl rfl ⟨rfl, hx⟩
theorem ty_eReply : Ty1 Tryz.prog 43 := ⟨let ⟨i, h, _, hs, _⟩ := info_parts (show (Tryz.prog.info? 43).map (fun i => (i.zero, i.size, i.bytes)) = some (some (.slice none 0 0), 1, 24) by kernel_rfl); ⟨i, h, hs⟩, _, Tryz.underlying43, rfl⟩
theorem sl_eReply : SlT Tryz.prog 43 139 := Tryz.underlying43
theorem ok_fillReply : CallOK Tryz.prog 51 := callOK Tryz.func51 (by kernel_rfl) rfl
theorem fillReply_ct (bk M : Nat) (vi vl : Value) (w : World) (hA : At w bk 46 (bkc M vi vl)) : Ct Tryz.prog 51 #[.pointer (some ⟨bk, 0, none⟩)] w fun u w' => u = .tuple #[] ∧ Ex w w' := by
  refine enter (N := 35) (vs := [.pointer (some ⟨bk, 0, none⟩)]) Tryz.func51 rfl rfl rfl ?_
  repeat (first | (refine isO ?_; refine s_assign ?_) | (refine isC ?_; first | refine c_sr ?_ | refine c_block ?_) | (refine l_th ?_))
  refine c_loop (γ := Unit) 34359738364 (fun _ => [(2, .int .i64 0)]) (fun _ W => Ex w W) (fun _ => 0) () ⟨rfl, trivial⟩ (Ex.refl _) ?_
  rintro _ ρ W hx
  repeat (first | (refine isO ?_; refine s_move ?_) | (refine isC ?_; first | refine c_sr ?_ | refine c_seq ?_))
  refine s_nil rfl ?_
  refine s_faN Tryz.underlying46 rfl ty_eReply.n rfl ?_
  refine s_ldA ty_eReply rfl (hA.ex hx) rfl ?_
  refine s_len (n := 0) (a := none) (c := 0) sl_eReply rfl ?_
  refine s_lssF rfl rfl (by omega) ?_
  repeat (first | (refine isC ?_; first | refine c_iff rfl ?_ | refine c_exit ?_) | (first | refine l_th ?_ | refine ib_exit ?_ | refine th_exit ?_))
  exact end0 rfl ⟨rfl, hx⟩
theorem ok_growReply : CallOK Tryz.prog 60 := callOK Tryz.func60 (by kernel_rfl) rfl
theorem growReply_ct (bk M : Nat) (vi vl : Value) (w : World) (hA : At w bk 46 (bkc M vi vl)) : Ct Tryz.prog 60 #[.pointer (some ⟨bk, 0, none⟩)] w fun u w' => u = .tuple #[] ∧ Ex w w' := by
  refine enter (N := 42) (vs := [.pointer (some ⟨bk, 0, none⟩)]) Tryz.func60 rfl rfl rfl ?_
  repeat (first | (refine isO ?_; refine s_assign ?_) | (refine isC ?_; first | refine c_sr ?_ | refine c_block ?_) | (refine l_th ?_))
  refine c_loop (γ := Unit) 4398046511100 (fun _ => [(2, .int .i64 0)]) (fun _ W => Ex w W) (fun _ => 0) () ⟨rfl, trivial⟩ (Ex.refl _) ?_
  rintro _ ρ W hx
  repeat (first | (refine isO ?_; refine s_move ?_) | (refine isC ?_; first | refine c_sr ?_ | refine c_seq ?_))
  refine s_nil rfl ?_
  refine s_faN Tryz.underlying46 rfl ty_eReply.n rfl ?_
  refine s_ldA ty_eReply rfl (hA.ex hx) rfl ?_
  refine s_len (n := 0) (a := none) (c := 0) sl_eReply rfl ?_
  refine s_lssF rfl rfl (by omega) ?_
  repeat (first | (refine isC ?_; first | refine c_iff rfl ?_ | refine c_exit ?_) | (first | refine l_th ?_ | refine ib_exit ?_ | refine th_exit ?_))
  exact end0 rfl ⟨rfl, hx⟩
theorem ok_lookReply : CallOK Tryz.prog 69 := callOK Tryz.func69 (by kernel_rfl) rfl
theorem lookReply_ct (bk M : Nat) (vi vl : Value) (w : World) (hA : At w bk 46 (bkc M vi vl)) : Ct Tryz.prog 69 #[.pointer (some ⟨bk, 0, none⟩)] w fun u w' => u = .bool true ∧ Ex w w' := by
  refine enter (N := 64) (vs := [.pointer (some ⟨bk, 0, none⟩)]) Tryz.func69 rfl rfl rfl ?_
  repeat (first | (refine isO ?_; refine s_assign ?_) | (refine isC ?_; first | refine c_sr ?_ | refine c_seq ?_ | refine c_block ?_) | (refine l_th ?_))
  refine c_loop (γ := Unit) 18446744073709551612 (fun _ => [(3, .int .i64 0)]) (fun _ W => Ex w W) (fun _ => 0) () ⟨rfl, trivial⟩ (Ex.refl _) ?_
  rintro _ ρ W hx
  repeat (first | (refine isO ?_; refine s_move ?_) | (refine isC ?_; first | refine c_sr ?_ | refine c_seq ?_))
  refine s_nil rfl ?_
  refine s_faN Tryz.underlying46 rfl ty_eReply.n rfl ?_
  refine s_ldA ty_eReply rfl (hA.ex hx) rfl ?_
  refine s_len (n := 0) (a := none) (c := 0) sl_eReply rfl ?_
  refine s_lssF rfl rfl (by omega) ?_
  repeat (first | (refine isO ?_; refine s_assign ?_) | (refine isC ?_; first | refine c_sr ?_ | refine c_iff rfl ?_ | refine c_ret ?_ | refine c_exit ?_) | (refine l_th ?_))
  exact ret1 rfl rfl ⟨rfl, hx⟩
theorem ty_eRecord : Ty1 Tryz.prog 44 := ⟨let ⟨i, h, _, hs, _⟩ := info_parts (show (Tryz.prog.info? 44).map (fun i => (i.zero, i.size, i.bytes)) = some (some (.slice none 0 0), 1, 24) by kernel_rfl); ⟨i, h, hs⟩, _, Tryz.underlying44, rfl⟩
theorem sl_eRecord : SlT Tryz.prog 44 146 := Tryz.underlying44
theorem ok_fillRecord : CallOK Tryz.prog 52 := callOK Tryz.func52 (by kernel_rfl) rfl
theorem fillRecord_ct (bk M : Nat) (vi vl : Value) (w : World) (hA : At w bk 46 (bkc M vi vl)) : Ct Tryz.prog 52 #[.pointer (some ⟨bk, 0, none⟩)] w fun u w' => u = .tuple #[] ∧ Ex w w' := by
  refine enter (N := 35) (vs := [.pointer (some ⟨bk, 0, none⟩)]) Tryz.func52 rfl rfl rfl ?_
  repeat (first | (refine isO ?_; refine s_assign ?_) | (refine isC ?_; first | refine c_sr ?_ | refine c_block ?_) | (refine l_th ?_))
  refine c_loop (γ := Unit) 34359738364 (fun _ => [(2, .int .i64 0)]) (fun _ W => Ex w W) (fun _ => 0) () ⟨rfl, trivial⟩ (Ex.refl _) ?_
  rintro _ ρ W hx
  repeat (first | (refine isO ?_; refine s_move ?_) | (refine isC ?_; first | refine c_sr ?_ | refine c_seq ?_))
  refine s_nil rfl ?_
  refine s_faN Tryz.underlying46 rfl ty_eRecord.n rfl ?_
  refine s_ldA ty_eRecord rfl (hA.ex hx) rfl ?_
  refine s_len (n := 0) (a := none) (c := 0) sl_eRecord rfl ?_
  refine s_lssF rfl rfl (by omega) ?_
  repeat (first | (refine isC ?_; first | refine c_iff rfl ?_ | refine c_exit ?_) | (first | refine l_th ?_ | refine ib_exit ?_ | refine th_exit ?_))
  exact end0 rfl ⟨rfl, hx⟩
theorem ok_growRecord : CallOK Tryz.prog 61 := callOK Tryz.func61 (by kernel_rfl) rfl
theorem growRecord_ct (bk M : Nat) (vi vl : Value) (w : World) (hA : At w bk 46 (bkc M vi vl)) : Ct Tryz.prog 61 #[.pointer (some ⟨bk, 0, none⟩)] w fun u w' => u = .tuple #[] ∧ Ex w w' := by
  refine enter (N := 42) (vs := [.pointer (some ⟨bk, 0, none⟩)]) Tryz.func61 rfl rfl rfl ?_
  repeat (first | (refine isO ?_; refine s_assign ?_) | (refine isC ?_; first | refine c_sr ?_ | refine c_block ?_) | (refine l_th ?_))
  refine c_loop (γ := Unit) 4398046511100 (fun _ => [(2, .int .i64 0)]) (fun _ W => Ex w W) (fun _ => 0) () ⟨rfl, trivial⟩ (Ex.refl _) ?_
  rintro _ ρ W hx
  repeat (first | (refine isO ?_; refine s_move ?_) | (refine isC ?_; first | refine c_sr ?_ | refine c_seq ?_))
  refine s_nil rfl ?_
  refine s_faN Tryz.underlying46 rfl ty_eRecord.n rfl ?_
  refine s_ldA ty_eRecord rfl (hA.ex hx) rfl ?_
  refine s_len (n := 0) (a := none) (c := 0) sl_eRecord rfl ?_
  refine s_lssF rfl rfl (by omega) ?_
  repeat (first | (refine isC ?_; first | refine c_iff rfl ?_ | refine c_exit ?_) | (first | refine l_th ?_ | refine ib_exit ?_ | refine th_exit ?_))
  exact end0 rfl ⟨rfl, hx⟩
theorem ok_lookRecord : CallOK Tryz.prog 70 := callOK Tryz.func70 (by kernel_rfl) rfl
theorem lookRecord_ct (bk M : Nat) (vi vl : Value) (w : World) (hA : At w bk 46 (bkc M vi vl)) : Ct Tryz.prog 70 #[.pointer (some ⟨bk, 0, none⟩)] w fun u w' => u = .bool true ∧ Ex w w' := by
  refine enter (N := 64) (vs := [.pointer (some ⟨bk, 0, none⟩)]) Tryz.func70 rfl rfl rfl ?_
  repeat (first | (refine isO ?_; refine s_assign ?_) | (refine isC ?_; first | refine c_sr ?_ | refine c_seq ?_ | refine c_block ?_) | (refine l_th ?_))
  refine c_loop (γ := Unit) 18446744073709551612 (fun _ => [(3, .int .i64 0)]) (fun _ W => Ex w W) (fun _ => 0) () ⟨rfl, trivial⟩ (Ex.refl _) ?_
  rintro _ ρ W hx
  repeat (first | (refine isO ?_; refine s_move ?_) | (refine isC ?_; first | refine c_sr ?_ | refine c_seq ?_))
  refine s_nil rfl ?_
  refine s_faN Tryz.underlying46 rfl ty_eRecord.n rfl ?_
  refine s_ldA ty_eRecord rfl (hA.ex hx) rfl ?_
  refine s_len (n := 0) (a := none) (c := 0) sl_eRecord rfl ?_
  refine s_lssF rfl rfl (by omega) ?_
  repeat (first | (refine isO ?_; refine s_assign ?_) | (refine isC ?_; first | refine c_sr ?_ | refine c_iff rfl ?_ | refine c_ret ?_ | refine c_exit ?_) | (refine l_th ?_))
  exact ret1 rfl rfl ⟨rfl, hx⟩
theorem ok_Apart : CallOK Tryz.prog 18 := callOK Tryz.func18 (by kernel_rfl) rfl
set_option maxHeartbeats 4000000 in
theorem Apart_ct (wB : World) (bk M : Nat) (ns nl : List Nat) (L : Nat → Value) (ln : Nat → Nat) (vi vl : Value) (w : World) (hB : Bk wB w bk M ns nl L vi vl) (hI : ∀ q ∈ ns, ∃ xs, Wd w 3 1 (L q) (ln q) xs) (hJ : ∀ q ∈ nl, ∃ xs, Wd w 25 1 (L q) (ln q) xs)
    (hN : ns.length ≤ 100000) (hN2 : nl.length ≤ 100000) (hq : ∀ q ∈ ns ++ nl, q ≤ 200000) (hln : ∀ q ∈ ns ++ nl, ln q ≤ 100000) (hnd : (ns ++ nl).Nodup) (hd : ∀ p ∈ ns ++ nl, ∀ q ∈ ns ++ nl, p ≠ q → ∀ b, (L p).ownBlock = some b → (L q).ownBlock ≠ some b) (hlow : ∀ q ∈ ns ++ nl, ∀ b, (L q).ownBlock = some b → b < wB.heap.size) :
    Ct Tryz.prog 18 #[.pointer (some ⟨bk, 0, none⟩)] w fun u w' => u = .bool true ∧ KtS (fun b => (∃ q ∈ ns ++ nl, (L q).ownBlock = some b) ∨ wB.heap.size ≤ b) w w' := by
  have hin : ∀ q ∈ ns, q ∈ ns ++ nl := fun q h => List.mem_append_left _ h
  have hil : ∀ q ∈ nl, q ∈ ns ++ nl := fun q h => List.mem_append_right _ h
  have hnd1 : ns.Nodup := (List.nodup_append.1 hnd).1
  have hnd2 : nl.Nodup := (List.nodup_append.1 hnd).2.1
  have hnd3 : ∀ p ∈ ns, ∀ q ∈ nl, p ≠ q := (List.nodup_append.1 hnd).2.2
  have hbkl := hB.lo
  have hvi : ∀ q ∈ ns ++ nl, ∀ b, (L q).ownBlock = some b → b ≠ bk ∧ vi.ownBlock ≠ some b ∧ vl.ownBlock ≠ some b := fun q h1 b h2 => by
    have h3 := hlow q h1 b h2
    refine ⟨by omega, fun e => ?_, fun e => ?_⟩
    · have := (hB.oi b e).1; omega
    · have := (hB.ol b e).1; omega
  have hzB := hB.ex.size
  -- the functions
  let cs : Nat → List Value := fun q => if h : q ∈ ns then Classical.choose (hI q h) else []
  have hcs : ∀ q ∈ ns, Wd w 3 1 (L q) (ln q) (cs q) := fun q h => by
    have := Classical.choose_spec (hI q h)
    have e : cs q = Classical.choose (hI q h) := dif_pos h
    rw [e]; exact this
  let cl : Nat → List Value := fun q => if h : q ∈ nl then Classical.choose (hJ q h) else []
  have hcl : ∀ q ∈ nl, Wd w 25 1 (L q) (ln q) (cl q) := fun q h => by
    have := Classical.choose_spec (hJ q h)
    have e : cl q = Classical.choose (hJ q h) := dif_pos h
    rw [e]; exact this
  have hLi : ∀ q ∈ ns, (L q).oneCell' = true := fun q h => (hcs q h).one
  have hLl : ∀ q ∈ nl, (L q).oneCell' = true := fun q h => (hcl q h).one
  clear_value cs cl
  have hdi : ∀ p ∈ ns, ∀ q ∈ ns, p ≠ q → ∀ b, (L p).ownBlock = some b → (L q).ownBlock ≠ some b := fun p h1 q h2 => hd p (hin p h1) q (hin q h2)
  have hdl : ∀ p ∈ nl, ∀ q ∈ nl, p ≠ q → ∀ b, (L p).ownBlock = some b → (L q).ownBlock ≠ some b := fun p h1 q h2 => hd p (hil p h1) q (hil q h2)
  have hG0 : ∀ q : Nat, ((fun _ : Nat => nilV) q).oneCell' = true := fun _ => rfl
  refine enter (N := 73) (vs := [.pointer (some ⟨bk, 0, none⟩)]) Tryz.func18 rfl rfl rfl ?_
  repeat (first | (refine isO ?_; first | refine s_move ?_ | refine s_assign ?_) | (refine isC ?_; refine c_sr ?_) | (refine l_th ?_))
  refine s_call ok_fillByte rfl (fillByte_ct bk M vi vl w hB.hd) ?_
  rintro v w1 ⟨rfl, hx1⟩
  have hB1 := hB.exd hx1
  repeat (first | (refine isO ?_; refine s_move ?_) | (refine isC ?_; refine c_sr ?_) | (refine l_th ?_))
  refine s_call ok_fillInt rfl (fillInt_ct bk M ns L (fun _ => nilV) ln cs vi vl w1 hB1.hd hB1.wi hN (fun q h => hq q (hin q h)) (fun q h => (hcs q h).ex hx1) (fun q h => hln q (hin q h)) hLi (fun q _ => hG0 q) hnd1 hdi (fun q h b hb => ⟨(hvi q (hin q h) b hb).1, (hvi q (hin q h) b hb).2.1⟩)) ?_
  rintro v w2 ⟨rfl, hk2, hf2⟩
  have z1 := hx1.size
  have z2 := hk2.size
  have hd2 := hB1.hd.kt hk2 (fun ⟨q, h1, h2⟩ => (hvi q (hin q h1) bk h2).1 rfl)
  have hwi2 := hB1.wi.kt hk2 (fun b hb ⟨q, h1, h2⟩ => (hvi q (hin q h1) b h2).2.1 hb)
  have hwl2 := hB1.wl.kt hk2 (fun b hb ⟨q, h1, h2⟩ => (hvi q (hin q h1) b h2).2.2 hb)
  have hcl2 : ∀ q ∈ nl, Wd w2 25 1 (L q) (ln q) (cl q) := fun q h => ((hcl q h).ex hx1).kt hk2 (fun b hb ⟨p, h1, h2⟩ => hd p (hin p h1) q (hil q h) (hnd3 p h1 q h) b h2 hb)
  repeat (first | (refine isO ?_; refine s_move ?_) | (refine isC ?_; refine c_sr ?_) | (refine l_th ?_))
  refine s_call ok_fillText rfl (fillText_ct bk M vi vl w2 hd2) ?_
  rintro v w3 ⟨rfl, hx3⟩
  have z3 := hx3.size
  repeat (first | (refine isO ?_; refine s_move ?_) | (refine isC ?_; refine c_sr ?_) | (refine l_th ?_))
  refine s_call ok_fillIntList rfl (fillIntList_ct bk M nl L (fun _ => nilV) ln cl vl vi w3 (hd2.ex hx3) (hwl2.ex hx3) hN2 (fun q h => hq q (hil q h)) (fun q h => (hcl2 q h).ex hx3) (fun q h => hln q (hil q h)) hLl (fun q _ => hG0 q) hnd2 hdl (fun q h b hb => ⟨(hvi q (hil q h) b hb).1, (hvi q (hil q h) b hb).2.2⟩)) ?_
  rintro v w4 ⟨rfl, hk4, hf4⟩
  have z4 := hk4.size
  have hd4 := (hd2.ex hx3).kt hk4 (fun ⟨q, h1, h2⟩ => (hvi q (hil q h1) bk h2).1 rfl)
  have hwi4 := (hwi2.ex hx3).kt hk4 (fun b hb ⟨q, h1, h2⟩ => (hvi q (hil q h1) b h2).2.1 hb)
  have hwl4 := (hwl2.ex hx3).kt hk4 (fun b hb ⟨q, h1, h2⟩ => (hvi q (hil q h1) b h2).2.2 hb)
  have hI4 : ∀ q ∈ ns, ∃ xs, Wd w4 3 1 (L q) (ln q) xs ∧ ∀ u ∈ xs, MKi w3.heap.size w4 q u := fun q h => by
    obtain ⟨xs, h1, h2⟩ := hf2 q h
    exact ⟨xs, (h1.ex hx3).kt hk4 (fun b hb ⟨p, h3, h4⟩ => hd q (hin q h) p (hil p h3) (hnd3 q h p h3) b hb h4), h2⟩
  repeat (first | (refine isO ?_; refine s_move ?_) | (refine isC ?_; refine c_sr ?_) | (refine l_th ?_))
  refine s_call ok_fillByteList rfl (fillByteList_ct bk M vi vl w4 hd4) ?_
  rintro v w5 ⟨rfl, hx5⟩
  repeat (first | (refine isO ?_; refine s_move ?_) | (refine isC ?_; refine c_sr ?_) | (refine l_th ?_))
  refine s_call ok_fillWhy rfl (fillWhy_ct bk M vi vl w5 (hd4.ex hx5)) ?_
  rintro v w6 ⟨rfl, hx6⟩
  have hx46 := hx5.trans hx6
  repeat (first | (refine isO ?_; refine s_move ?_) | (refine isC ?_; refine c_sr ?_) | (refine l_th ?_))
  refine s_call ok_fillFrame rfl (fillFrame_ct bk M vi vl w6 (hd4.ex hx46)) ?_
  rintro v w7 ⟨rfl, hx7⟩
  have hx47 := hx46.trans hx7
  repeat (first | (refine isO ?_; refine s_move ?_) | (refine isC ?_; refine c_sr ?_) | (refine l_th ?_))
  refine s_call ok_fillReply rfl (fillReply_ct bk M vi vl w7 (hd4.ex hx47)) ?_
  rintro v w8 ⟨rfl, hx8⟩
  have hx48 := hx47.trans hx8
  repeat (first | (refine isO ?_; refine s_move ?_) | (refine isC ?_; refine c_sr ?_) | (refine l_th ?_))
  refine s_call ok_fillRecord rfl (fillRecord_ct bk M vi vl w8 (hd4.ex hx48)) ?_
  rintro v w9 ⟨rfl, hx9⟩
  have hx49 := hx48.trans hx9
  repeat (first | (refine isO ?_; refine s_move ?_) | (refine isC ?_; refine c_sr ?_) | (refine l_th ?_))
  refine s_call ok_growByte rfl (growByte_ct bk M vi vl w9 (hd4.ex hx49)) ?_
  rintro v wa ⟨rfl, hxa⟩
  have hx4a := hx49.trans hxa
  have z4a := hx4a.size
  repeat (first | (refine isO ?_; refine s_move ?_) | (refine isC ?_; refine c_sr ?_) | (refine l_th ?_))
  refine s_call ok_growInt rfl (growInt_ct bk M w3.heap.size ns L (fun _ => nilV) ln vi vl wa (hd4.ex hx4a) (hwi4.ex hx4a) hN (fun q h => hq q (hin q h)) (fun q h => let ⟨xs, h1, h2⟩ := hI4 q h; ⟨xs, h1.ex hx4a, h2⟩) (fun q h => hln q (hin q h)) (fun q _ => hG0 q) hnd1 hdi (fun q h b hb => ⟨(hvi q (hin q h) b hb).1, (hvi q (hin q h) b hb).2.1, by have := hlow q (hin q h) b hb; omega⟩) (fun b hb => ⟨(hB.oi b hb).2.1, by have := hB.wi.lt b hb; omega⟩) (by omega)) ?_
  rintro v wb ⟨rfl, hkb, Gi, hwib, hfb⟩
  have zb := hkb.size
  have hdb := (hd4.ex hx4a).kt hkb (fun h => by
    rcases h with ⟨q, h1, h2⟩ | h
    · exact (hvi q (hin q h1) bk h2).1 rfl
    · exact (hB.oi bk h).2.1 rfl)
  have hwlb := (hwl4.ex hx4a).kt hkb (fun b hb h => by
    rcases h with ⟨q, h1, h2⟩ | h
    · exact (hvi q (hin q h1) b h2).2.2 hb
    · exact (hB.oi b h).2.2 hb)
  have hSb : ∀ b, ((∃ q ∈ ns, (L q).ownBlock = some b) ∨ vi.ownBlock = some b) → b < w3.heap.size := fun b h => by
    rcases h with ⟨q, h1, h2⟩ | h
    · have := hlow q (hin q h1) b h2; omega
    · have := hB.wi.lt b h; omega
  have hJb : ∀ q ∈ nl, ∃ xs, Wd wb 25 1 (L q) (ln q) xs ∧ ∀ u ∈ xs, MKl w3.heap.size wb q u := fun q h => by
    obtain ⟨xs, h1, h2⟩ := hf4 q h
    refine ⟨xs, (h1.ex hx4a).kt hkb (fun b hb h9 => ?_), fun u hu => MKl.kt ((h2 u hu).ex hx4a) hkb hSb⟩
    rcases h9 with ⟨p, h3, h4⟩ | h3
    · exact hd p (hin p h3) q (hil q h) (hnd3 p h3 q h) b h4 hb
    · exact (hvi q (hil q h) b hb).2.1 h3
  repeat (first | (refine isO ?_; refine s_move ?_) | (refine isC ?_; refine c_sr ?_) | (refine l_th ?_))
  refine s_call ok_growText rfl (growText_ct bk M vi vl wb hdb) ?_
  rintro v wc ⟨rfl, hxc⟩
  have zc := hxc.size
  repeat (first | (refine isO ?_; refine s_move ?_) | (refine isC ?_; refine c_sr ?_) | (refine l_th ?_))
  refine s_call ok_growIntList rfl (growIntList_ct bk M w3.heap.size nl L (fun _ => nilV) ln vl vi wc (hdb.ex hxc) (hwlb.ex hxc) hN2 (fun q h => hq q (hil q h)) (fun q h => let ⟨xs, h1, h2⟩ := hJb q h; ⟨xs, h1.ex hxc, fun u hu => (h2 u hu).ex hxc⟩) (fun q h => hln q (hil q h)) (fun q _ => hG0 q) hnd2 hdl (fun q h b hb => ⟨(hvi q (hil q h) b hb).1, (hvi q (hil q h) b hb).2.2, by have := hlow q (hil q h) b hb; omega⟩) (fun b hb => ⟨(hB.ol b hb).2, by have := hB.wl.lt b hb; omega⟩) (by omega)) ?_
  rintro v wd ⟨rfl, hkd, Gl, hwld, hfd⟩
  have zd := hkd.size
  have hdd := (hdb.ex hxc).kt hkd (fun h => by
    rcases h with ⟨q, h1, h2⟩ | h
    · exact (hvi q (hil q h1) bk h2).1 rfl
    · exact (hB.ol bk h).2 rfl)
  have hwid := (hwib.ex hxc).kt hkd (fun b hb h => by
    rcases h with ⟨q, h1, h2⟩ | h
    · exact (hvi q (hil q h1) b h2).2.1 hb
    · exact (hB.oi b hb).2.2 h)
  have hSd : ∀ b, ((∃ q ∈ nl, (L q).ownBlock = some b) ∨ vl.ownBlock = some b) → b < w3.heap.size := fun b h => by
    rcases h with ⟨q, h1, h2⟩ | h
    · have := hlow q (hil q h1) b h2; omega
    · have := hB.wl.lt b h; omega
  have hId : ∀ q ∈ ns, (∃ xs, Wd wd 3 1 (L q) (ln q) xs ∧ ∀ u ∈ xs, MKi w3.heap.size wd q u) ∧ ∃ ys, Wd wd 3 1 (Gi q) (ln q + 40) ys ∧ ∀ u ∈ ys, MKi w3.heap.size wd q u := fun q h => by
    obtain ⟨⟨xs, h1, h2⟩, ⟨ys, h3, h4⟩, h5⟩ := hfb q h
    refine ⟨⟨xs, (h1.ex hxc).kt hkd (fun b hb h9 => ?_), h2⟩, ys, (h3.ex hxc).kt hkd (fun b hb h9 => ?_), h4⟩
    · rcases h9 with ⟨p, h6, h7⟩ | h6
      · exact hd q (hin q h) p (hil p h6) (hnd3 q h p h6) b hb h7
      · exact (hvi q (hin q h) b hb).2.2 h6
    · rcases h5 b hb with h8 | h8
      · rcases h9 with ⟨p, h6, h7⟩ | h6
        · exact hd q (hin q h) p (hil p h6) (hnd3 q h p h6) b h8 h7
        · exact (hvi q (hin q h) b h8).2.2 h6
      · have := hSd b h9; omega
  repeat (first | (refine isO ?_; refine s_move ?_) | (refine isC ?_; refine c_sr ?_) | (refine l_th ?_))
  refine s_call ok_growByteList rfl (growByteList_ct bk M vi vl wd hdd) ?_
  rintro v we ⟨rfl, hxe⟩
  repeat (first | (refine isO ?_; refine s_move ?_) | (refine isC ?_; refine c_sr ?_) | (refine l_th ?_))
  refine s_call ok_growWhy rfl (growWhy_ct bk M vi vl we (hdd.ex hxe)) ?_
  rintro v wf ⟨rfl, hxf⟩
  have hxdf := hxe.trans hxf
  repeat (first | (refine isO ?_; refine s_move ?_) | (refine isC ?_; refine c_sr ?_) | (refine l_th ?_))
  refine s_call ok_growFrame rfl (growFrame_ct bk M vi vl wf (hdd.ex hxdf)) ?_
  rintro v wg ⟨rfl, hxg⟩
  have hxdg := hxdf.trans hxg
  repeat (first | (refine isO ?_; refine s_move ?_) | (refine isC ?_; refine c_sr ?_) | (refine l_th ?_))
  refine s_call ok_growReply rfl (growReply_ct bk M vi vl wg (hdd.ex hxdg)) ?_
  rintro v wh ⟨rfl, hxh⟩
  have hxdh := hxdg.trans hxh
  repeat (first | (refine isO ?_; refine s_move ?_) | (refine isC ?_; refine c_sr ?_) | (refine l_th ?_))
  refine s_call ok_growRecord rfl (growRecord_ct bk M vi vl wh (hdd.ex hxdh)) ?_
  rintro v wi ⟨rfl, hxi⟩
  have hxdi := hxdh.trans hxi
  repeat (first | (refine isO ?_; refine s_move ?_) | (refine isC ?_; refine c_sr ?_) | (refine l_th ?_))
  refine s_call ok_lookByte rfl (lookByte_ct bk M vi vl wi (hdd.ex hxdi)) ?_
  rintro v wj ⟨rfl, hxj⟩
  have hxdj := hxdi.trans hxj
  repeat ((refine isO ?_; first | refine s_move ?_ | (refine isG ?_; refine g_yes rfl rfl ?_)))
  refine s_call ok_lookInt rfl (lookInt_ct bk M w3.heap.size ns L Gi ln vi vl wj (hdd.ex hxdj) (hwid.ex hxdj) hN (fun q h => hq q (hin q h)) (fun q h => let ⟨⟨xs, h1, h2⟩, ys, h3, h4⟩ := hId q h; ⟨⟨xs, h1.ex hxdj, h2⟩, ys, h3.ex hxdj, h4⟩) (fun q h => hln q (hin q h))) ?_
  rintro v wk ⟨rfl, hxk⟩
  have hxdk := hxdj.trans hxk
  repeat ((refine isO ?_; first | refine s_move ?_ | (refine isG ?_; refine g_yes rfl rfl ?_) | (refine isPick ?_; refine s_pickt rfl rfl ?_)))
  refine s_call ok_lookText rfl (lookText_ct bk M vi vl wk (hdd.ex hxdk)) ?_
  rintro v wl ⟨rfl, hxl⟩
  have hxdl := hxdk.trans hxl
  repeat ((refine isO ?_; first | refine s_move ?_ | (refine isG ?_; refine g_yes rfl rfl ?_) | (refine isPick ?_; refine s_pickt rfl rfl ?_)))
  refine s_call ok_lookIntList rfl (lookIntList_ct bk M w3.heap.size nl L Gl ln vl vi wl (hdd.ex hxdl) (hwld.ex hxdl) hN2 (fun q h => hq q (hil q h)) (fun q h => let ⟨⟨xs, h1, h2⟩, ⟨ys, h3, h4⟩, _⟩ := hfd q h; ⟨⟨xs, h1.ex hxdl, fun u hu => (h2 u hu).ex hxdl⟩, ys, h3.ex hxdl, fun u hu => (h4 u hu).ex hxdl⟩) (fun q h => hln q (hil q h))) ?_
  rintro v wm ⟨rfl, hxm⟩
  have hxdm := hxdl.trans hxm
  repeat ((refine isO ?_; first | refine s_move ?_ | (refine isG ?_; refine g_yes rfl rfl ?_) | (refine isPick ?_; refine s_pickt rfl rfl ?_)))
  refine s_call ok_lookByteList rfl (lookByteList_ct bk M vi vl wm (hdd.ex hxdm)) ?_
  rintro v wn ⟨rfl, hxn⟩
  have hxdn := hxdm.trans hxn
  repeat ((refine isO ?_; first | refine s_move ?_ | (refine isG ?_; refine g_yes rfl rfl ?_) | (refine isPick ?_; refine s_pickt rfl rfl ?_)))
  refine s_call ok_lookWhy rfl (lookWhy_ct bk M vi vl wn (hdd.ex hxdn)) ?_
  rintro v wo ⟨rfl, hxo⟩
  have hxdo := hxdn.trans hxo
  repeat ((refine isO ?_; first | refine s_move ?_ | (refine isG ?_; refine g_yes rfl rfl ?_) | (refine isPick ?_; refine s_pickt rfl rfl ?_)))
  refine s_call ok_lookFrame rfl (lookFrame_ct bk M vi vl wo (hdd.ex hxdo)) ?_
  rintro v wp ⟨rfl, hxp⟩
  have hxdp := hxdo.trans hxp
  repeat ((refine isO ?_; first | refine s_move ?_ | (refine isG ?_; refine g_yes rfl rfl ?_) | (refine isPick ?_; refine s_pickt rfl rfl ?_)))
  refine s_call ok_lookReply rfl (lookReply_ct bk M vi vl wp (hdd.ex hxdp)) ?_
  rintro v wq ⟨rfl, hxq⟩
  have hxdq := hxdp.trans hxq
  repeat ((refine isO ?_; first | refine s_move ?_ | (refine isG ?_; refine g_yes rfl rfl ?_) | (refine isPick ?_; refine s_pickt rfl rfl ?_)))
  refine s_call ok_lookRecord rfl (lookRecord_ct bk M vi vl wq (hdd.ex hxdq)) ?_
  rintro v wr ⟨rfl, hxr⟩
  have hxdr := hxdq.trans hxr
  repeat (first | (refine isO ?_; first | refine s_assign ?_ | (refine isPick ?_; refine s_pickt rfl rfl ?_)) | (refine isC ?_; refine c_ret ?_) | (refine l_th ?_))
  refine ret1 rfl rfl ⟨rfl, ?_⟩
  have t1 : KtS (fun b => (∃ q ∈ ns ++ nl, (L q).ownBlock = some b) ∨ wB.heap.size ≤ b) w w2 := (KtS.of_ex hx1).trans (hk2.mono (fun b ⟨q, h1, h2⟩ => .inl ⟨q, hin q h1, h2⟩))
  have t2 : KtS (fun b => (∃ q ∈ ns ++ nl, (L q).ownBlock = some b) ∨ wB.heap.size ≤ b) w2 w4 := (KtS.of_ex hx3).trans (hk4.mono (fun b ⟨q, h1, h2⟩ => .inl ⟨q, hil q h1, h2⟩))
  have t3 : KtS (fun b => (∃ q ∈ ns ++ nl, (L q).ownBlock = some b) ∨ wB.heap.size ≤ b) w4 wb := (KtS.of_ex hx4a).trans (hkb.mono (fun b h => by
    rcases h with ⟨q, h1, h2⟩ | h
    · exact .inl ⟨q, hin q h1, h2⟩
    · exact .inr (hB.oi b h).1))
  have t4 : KtS (fun b => (∃ q ∈ ns ++ nl, (L q).ownBlock = some b) ∨ wB.heap.size ≤ b) wb wd := (KtS.of_ex hxc).trans (hkd.mono (fun b h => by
    rcases h with ⟨q, h1, h2⟩ | h
    · exact .inl ⟨q, hil q h1, h2⟩
    · exact .inr (hB.ol b h).1))
  exact (((t1.trans t2).trans t3).trans t4).trans (KtS.of_ex hxdr)
end Go.Proofs.YtifbgpkjbciblaaGreatDoor.Sal
/- TW2: twins, and the room behind them. -/
set_option maxRecDepth 100000
namespace Go.Proofs.YtifbgpkjbciblaaGreatDoor.Sal
open Go.RowKit
set_option linter.all false
theorem Rw.posL {w : World} {E : TypeId} {v : Value} {vs : List Value} (h : Rw w E v vs) (hn : 0 < vs.length) : ∃ b c sp, v = sv b vs.length c ∧ At w b E (vs ++ sp) ∧ vs.length ≤ c ∧ c = vs.length + sp.length ∧ c ≤ 9223372036854775807 := by
  obtain ⟨h1, h2⟩ := h
  rcases h2 with ⟨hv, h0⟩ | ⟨g, cap, cur, hv, _, hh, hc, hm, hcs, ht⟩
  · omega
  · rw [Nat.mul_one] at ht hcs
    have e : vs ++ cur.toList.drop vs.length = cur.toList := by
      conv => lhs; lhs; rw [← ht]
      exact List.take_append_drop _ _
    refine ⟨g, cap, cur.toList.drop vs.length, hv, ?_, hc, ?_, by simpa [maxLen] using hm⟩
    · unfold At; rw [hh, e]
    · have h3 : (vs ++ cur.toList.drop vs.length).length = cur.toList.length := congrArg List.length e
      rw [List.length_append] at h3
      have h4 : cur.toList.length = cur.size := Array.length_toList
      omega
/-- A twin: one number more stands behind it, in its room. -/
def TwI (w : World) (b c : Nat) (l : List Int) : Prop := ∃ sp, At w b 3 (l.map (Value.int .i64) ++ .int .i64 77 :: sp) ∧ l.length < c ∧ c = l.length + 1 + sp.length ∧ c ≤ 9223372036854775807 ∧ l.length ≤ 10000
theorem TwI.ex {w w' : World} {b c : Nat} {l : List Int} (h : TwI w b c l) (hx : Ex w w') : TwI w' b c l := let ⟨sp, h1, h2⟩ := h; ⟨sp, h1.ex hx, h2⟩
theorem TwI.grown {w w' : World} {b c : Nat} {l : List Int} {o : Option Nat} (h : TwI w b c l) (hg : w.grownBy w' o) (hne : o ≠ some b) : TwI w' b c l := let ⟨sp, h1, h2⟩ := h; ⟨sp, h1.grown hg hne, h2⟩
theorem TwI.lt {w : World} {b c : Nat} {l : List Int} (h : TwI w b c l) : b < w.heap.size := let ⟨sp, h1, h2⟩ := h; h1.lt
theorem TwI.ints {w : World} {b c : Nat} {l : List Int} (h : TwI w b c l) : Ints w (sv b l.length c) l := by
  obtain ⟨sp, hA, hc, _, _, hm⟩ := h
  have := hA.sl (n := l.length) (c := c) (by simp) (by omega) (by omega)
  rwa [List.take_left' (by simp)] at this
theorem TwI.wd {w : World} {b c : Nat} {l : List Int} (h : TwI w b c l) : Wd w 3 1 (sv b l.length c) l.length (l.map (Value.int .i64)) := by
  obtain ⟨sp, hA, hc, he, h63, hm⟩ := h
  exact ⟨by simp, .inr ⟨b, c, .int .i64 77 :: sp, rfl, hA, by omega, h63, by simp; omega⟩⟩
/-- A twin of lists. -/
def TwL (w : World) (b c : Nat) (rb rc : Nat → Nat) (g : List (List Int)) : Prop :=
  (∃ eb sp, At w b 25 ((List.range g.length).map (fun i => sv (rb i) (g.getD i []).length (rc i)) ++ sv eb 1 1 :: sp) ∧ At w eb 3 [.int .i64 77] ∧ c = g.length + 1 + sp.length) ∧ g.length < c ∧ c ≤ 9223372036854775807 ∧ g.length ≤ 10000 ∧ (∀ i, i < g.length → TwI w (rb i) (rc i) (g.getD i []) ∧ rb i ≠ b) ∧ ∀ i j, i < j → j < g.length → rb i < rb j
theorem TwL.ex {w w' : World} {b c : Nat} {rb rc : Nat → Nat} {g : List (List Int)} (h : TwL w b c rb rc g) (hx : Ex w w') : TwL w' b c rb rc g := by
  obtain ⟨⟨eb, sp, h1, h2, h3⟩, h4, h5, h6, h7, h8⟩ := h
  exact ⟨⟨eb, sp, h1.ex hx, h2.ex hx, h3⟩, h4, h5, h6, fun i hi => ⟨(h7 i hi).1.ex hx, (h7 i hi).2⟩, h8⟩
theorem TwL.sl {w : World} {b c : Nat} {rb rc : Nat → Nat} {g : List (List Int)} (h : TwL w b c rb rc g) : Sl w (sv b g.length c) ((List.range g.length).map (fun i => sv (rb i) (g.getD i []).length (rc i))) := by
  obtain ⟨⟨eb, sp, h1, _⟩, h2, _, h3, _⟩ := h
  have := h1.sl (n := g.length) (c := c) (by simp) (by omega) (by omega)
  rwa [List.take_left' (by simp)] at this
theorem TwL.wd {w : World} {b c : Nat} {rb rc : Nat → Nat} {g : List (List Int)} (h : TwL w b c rb rc g) : Wd w 25 1 (sv b g.length c) g.length ((List.range g.length).map (fun i => sv (rb i) (g.getD i []).length (rc i))) := by
  obtain ⟨⟨eb, sp, h1, _, h2⟩, h3, h4, _⟩ := h
  exact ⟨by simp, .inr ⟨b, c, sv eb 1 1 :: sp, rfl, h1, by omega, h4, by simp; omega⟩⟩
theorem TwL.rows {w : World} {b c : Nat} {rb rc : Nat → Nat} {g : List (List Int)} (h : TwL w b c rb rc g) : Rows w (sv b g.length c) g := by
  refine ⟨_, h.sl, by simp, fun i u l hu hl => ?_⟩
  have hi := (List.getElem?_eq_some_iff.1 hl).1
  obtain ⟨_, _, _, _, h7, _⟩ := h
  have e1 : u = sv (rb i) (g.getD i []).length (rc i) := by simp [hi] at hu; simp [hi, hu]
  have e2 : g.getD i [] = l := by simp [List.getD_eq_getElem?_getD, hl]
  rw [e1]
  have := (h7 i hi).1.ints
  rwa [e2] at this ⊢
attribute [local irreducible] Go.Code.wpIn Go.wpListIn Ct Ints Rows Sl At Rw WJ
attribute [local irreducible] Wd
theorem TwinIntsW_ct (u : Value) (l : List Int) (w : World) (hl : Ints w u l) (hm : l.length ≤ 10000) :
    Ct Tryz.prog 8 #[u] w fun x w' => ∃ b c, x = sv b l.length c ∧ w.heap.size ≤ b ∧ TwI w' b c l ∧ Ex w w' := by
  obtain ⟨ti, hi1, hi2, hi3, hi4⟩ := in_int'
  refine enter (N := 28) (vs := [u]) Tryz.func8 rfl rfl rfl ?_
  repeat (first | (refine isO ?_; first | refine s_move ?_ | refine s_assign ?_ | (refine isBin ?_; refine s_inc rfl (by omega) ?_) | (refine isCall ?_; refine s_lenI sl_ints rfl (by assumption) ?_)) | (refine isC ?_; refine c_sr ?_) | (refine l_th ?_))
  refine s_mk0 (n := l.length + 1) sl_ints hi1 hi2 hi3 rfl hi4 rfl rfl (by omega) ?_
  intro b0 w1 hb0 hR hx1 hs1
  repeat (first | (refine isO ?_; refine s_assign ?_) | (refine isC ?_; first | refine c_sr ?_ | refine c_seq ?_ | refine c_block ?_) | (refine l_th ?_))
  refine c_loop (γ := Nat × Value) 4193816 (fun x => [(4, .int .i64 (x.1 : Int)), (3, x.2)])
    (fun x w' => x.1 ≤ l.length ∧ Rw w' 3 x.2 ((l.take x.1).map (Value.int .i64)) ∧ Ex w w' ∧ ∀ b, x.2.ownBlock = some b → w.heap.size ≤ b) (fun x => l.length - x.1) (0, sv b0 0 (l.length + 1)) ⟨rfl, rfl, trivial⟩
    ⟨Nat.zero_le _, hR, hx1, fun b h => by have h : b0 = b := Option.some.inj h; omega⟩ ?_
  rintro ⟨k, v⟩ ρ w2 ⟨hk, hv, hx, hb⟩
  dsimp only at hk hv hx hb ⊢
  have hl2 := hl.ex hx
  repeat (first | (refine isO ?_; first | refine s_move ?_ | (refine isBin ?_; refine s_lss rfl rfl ?_) | (refine isCall ?_; refine s_lenI sl_ints rfl (by assumption) ?_)) | (refine isC ?_; first | refine c_sr ?_ | refine c_seq ?_) | (refine l_th ?_))
  refine c_ifd rfl (fun h => ?_) (fun h => ?_)
  · have hk' : k < l.length := by omega
    repeat (first | (refine isO ?_; first | refine s_move ?_ | (refine isIA ?_; refine s_ixI sl_ints ty_int rfl rfl rfl (by assumption) (by omega) ?_; intro _)) | (refine isC ?_; first | refine c_th ?_ | refine c_seq ?_ | refine c_region ?_ | refine c_block ?_))
    refine s_bs1 (u := .int .i64 (l.getD k 0)) sl_ints in_int rfl rfl ?_
    intro b1 w3 hb1 hA hx3 hs3
    refine s_app (news := [.int .i64 (l.getD k 0)]) sl_ints in_int (hv.ex hx3) (hA.sl (Nat.le_refl _) (by simp) (by simp)) rfl rfl (one_int _) (by simp; omega) ?_
    intro v' w4 hv' hg hown
    repeat (first | (refine isO ?_; first | refine s_move ?_ | refine s_assign ?_ | (refine isBin ?_; refine s_inc rfl (by omega) ?_)) | (refine isC ?_; refine c_region ?_) | (first | refine l_th ?_ | refine l_nil ?_))
    refine loop_end (k + 1, v') (by (repeat (first | exact agree_refl _ _ | refine agree_upd rfl ?_ | refine agree_ext rfl ?_ | refine agree_mask rfl ?_))) ⟨rfl, rfl, trivial⟩ ⟨hk', ?_, (hx.trans hx3).storeo hg hb, ?_⟩ (by dsimp only; omega)
    · dsimp only; rw [take_map_succ hk']; exact hv'
    · intro b hb'
      rcases hown with h1 | h1
      · exact hb b (h1.symm.trans hb')
      · have := h1 b hb'; have := hx.size; have := hx3.size; omega
  · have hkn : k = l.length := by omega
    subst hkn
    rw [List.take_length] at hv
    repeat (first | (refine isO ?_; refine s_move ?_) | (refine isC ?_; first | refine c_sr ?_ | refine c_exit ?_))
    refine s_bs1 (u := .int .i64 77) sl_ints in_int rfl rfl ?_
    intro b1 w3 hb1 hA hx3 hs3
    refine s_app (news := [.int .i64 77]) sl_ints in_int (hv.ex hx3) (hA.sl (Nat.le_refl _) (by simp) (by simp)) rfl rfl (one_int _) (by simp; omega) ?_
    intro v' w4 hv' hg hown
    obtain ⟨b2, c2, sp, rfl, hA4, hc, hcl, hcm⟩ := hv'.posL (by simp)
    have hfr : w.heap.size ≤ b2 := by
      rcases hown with h1 | h1
      · exact hb b2 h1.symm
      · have := h1 b2 rfl; have := hx.size; have := hx3.size; omega
    simp only [List.length_append, List.length_map, List.length_singleton] at hc hcl
    have hx4 := (hx.trans hx3).storeo hg hb
    have hl4 := hl.ex hx4
    repeat ((refine isO ?_; first | refine s_move ?_ | (refine isCall ?_; refine s_lenI sl_ints rfl (by assumption) ?_)))
    refine s_head (hi := l.length) sl_ints ty_int rfl rfl (by omega) ?_
    repeat (first | (refine isO ?_; refine s_assign ?_) | (refine isC ?_; refine c_ret ?_) | (refine l_th ?_))
    refine ret1 rfl rfl ⟨b2, c2, rfl, hfr, ⟨sp, by rw [List.append_assoc] at hA4; exact hA4, by omega, by omega, hcm, hm⟩, hx4⟩

theorem TwinIntListsW_ct (u : Value) (g : List (List Int)) (w : World) (hg : Rows w u g) (hm : g.length ≤ 10000) (hr : ∀ i, i < g.length → (g.getD i []).length ≤ 10000) :
    Ct Tryz.prog 7 #[u] w fun x w' => ∃ b c rb rc, x = sv b g.length c ∧ w.heap.size ≤ b ∧ (∀ i, i < g.length → w.heap.size ≤ rb i) ∧ TwL w' b c rb rc g ∧ Ex w w' := by
  obtain ⟨ti, hi1, hi2, hi3, hi4⟩ := in_ints.ex
  refine enter (N := 30) (vs := [u]) Tryz.func7 rfl rfl rfl ?_
  repeat (first | (refine isO ?_; first | refine s_move ?_ | refine s_assign ?_ | (refine isBin ?_; refine s_inc rfl (by omega) ?_) | (refine isCall ?_; refine s_lenR sl_rows rfl (by assumption) ?_)) | (refine isC ?_; refine c_sr ?_) | (refine l_th ?_))
  refine s_mk0 (n := g.length + 1) sl_rows hi1 hi2 hi3 rfl hi4 rfl rfl (by omega) ?_
  intro b0 w1 hb0 hR hx1 hs1
  repeat (first | (refine isO ?_; refine s_assign ?_) | (refine isC ?_; first | refine c_sr ?_ | refine c_seq ?_ | refine c_block ?_) | (refine l_th ?_))
  refine c_loop (γ := Nat × Value × (Nat → Nat) × (Nat → Nat)) 8388120 (fun x => [(4, .int .i64 (x.1 : Int)), (3, x.2.1)])
    (fun x w' => x.1 ≤ g.length ∧ Rw w' 25 x.2.1 ((List.range x.1).map (fun i => sv (x.2.2.1 i) (g.getD i []).length (x.2.2.2 i))) ∧ Ex w w' ∧ (∀ b, x.2.1.ownBlock = some b → w.heap.size ≤ b) ∧
      (∀ i, i < x.1 → TwI w' (x.2.2.1 i) (x.2.2.2 i) (g.getD i []) ∧ some (x.2.2.1 i) ≠ x.2.1.ownBlock ∧ w.heap.size ≤ x.2.2.1 i) ∧ ∀ i j, i < j → j < x.1 → x.2.2.1 i < x.2.2.1 j) (fun x => g.length - x.1) (0, sv b0 0 (g.length + 1), fun _ => 0, fun _ => 0) ⟨rfl, rfl, trivial⟩
    ⟨Nat.zero_le _, hR, hx1, fun b h => by have h : b0 = b := Option.some.inj h; omega, fun i h => absurd h (Nat.not_lt_zero _), fun i j _ h => absurd h (Nat.not_lt_zero _)⟩ ?_
  rintro ⟨k, v, rb, rc⟩ ρ w2 ⟨hk, hv, hx, hb, hO, hmon⟩
  dsimp only at hk hv hx hb hO hmon ⊢
  have hg2 := hg.ex hx
  repeat (first | (refine isO ?_; first | refine s_move ?_ | (refine isBin ?_; refine s_lss rfl rfl ?_) | (refine isCall ?_; refine s_lenR sl_rows rfl (by assumption) ?_)) | (refine isC ?_; first | refine c_sr ?_ | refine c_seq ?_) | (refine l_th ?_))
  refine c_ifd rfl (fun h => ?_) (fun h => ?_)
  · have hk' : k < g.length := by omega
    repeat (first | (refine isO ?_; refine s_move ?_) | (refine isC ?_; first | refine c_th ?_ | refine c_seq ?_ | refine c_region ?_ | refine c_block ?_))
    refine s_ixR sl_rows ty_ints rfl rfl rfl hg2 hk' ?_
    intro _ u1 hu1
    refine s_call ok_TwinInts rfl (TwinIntsW_ct u1 _ w2 hu1 (hr k hk')) ?_
    rintro u2 w3 ⟨b1, c1, rfl, hb1, hO1, hx3⟩
    refine s_bs1 (u := sv b1 (g.getD k []).length c1) sl_rows in_ints rfl rfl ?_
    intro b2 w4 hb2 hA hx4 hs4
    refine s_app (news := [sv b1 (g.getD k []).length c1]) sl_rows in_ints (hv.ex (hx3.trans hx4)) (hA.sl (Nat.le_refl _) (by simp) (by simp)) rfl rfl (by intro q hq; simp at hq; subst hq; rfl) (by simp; omega) ?_
    intro v' w5 hv' hgr hown
    repeat (first | (refine isO ?_; first | refine s_move ?_ | refine s_assign ?_ | (refine isBin ?_; refine s_inc rfl (by omega) ?_)) | (refine isC ?_; refine c_region ?_) | (first | refine l_th ?_ | refine l_nil ?_))
    have hv2 : ∀ b, v.ownBlock = some b → b < w2.heap.size := hv.lt
    have hsz3 := hx3.size
    have hsz4 := hx4.size
    have hsz := hx.size
    refine loop_end (k + 1, v', updN rb k b1, updN rc k c1) (by (repeat (first | exact agree_refl _ _ | refine agree_upd rfl ?_ | refine agree_ext rfl ?_ | refine agree_mask rfl ?_))) ⟨rfl, rfl, trivial⟩ ⟨hk', ?_, ((hx.trans hx3).trans hx4).storeo hgr hb, ?_, ?_, ?_⟩ (by dsimp only; omega)
    · dsimp only
      have e : (List.range (k + 1)).map (fun i => sv (updN rb k b1 i) (g.getD i []).length (updN rc k c1 i)) = (List.range k).map (fun i => sv (rb i) (g.getD i []).length (rc i)) ++ [sv b1 (g.getD k []).length c1] := by
        rw [List.range_succ, List.map_append]
        congr 1
        · apply List.map_congr_left
          intro i hi
          have : i ≠ k := by have := List.mem_range.1 hi; omega
          simp [updN, this]
        · simp [updN]
      rw [e]; exact hv'
    · intro b hb'
      rcases hown with h1 | h1
      · exact hb b (h1.symm.trans hb')
      · have := h1 b hb'; omega
    · intro i hi
      dsimp only at hi ⊢
      by_cases hik : i = k
      · subst hik
        have e1 : updN rb i b1 i = b1 := by simp [updN]
        have e2 : updN rc i c1 i = c1 := by simp [updN]
        rw [e1, e2]
        have hb1lt := hO1.lt
        refine ⟨(hO1.ex hx4).grown hgr (fun e => ?_), fun e => ?_, by omega⟩
        · have := hv2 b1 e; omega
        · rcases hown with h1 | h1
          · have := hv2 b1 (h1.symm.trans e.symm); omega
          · have := h1 b1 e.symm; omega
      · have e1 : updN rb k b1 i = rb i := by simp [updN, hik]
        have e2 : updN rc k c1 i = rc i := by simp [updN, hik]
        rw [e1, e2]
        obtain ⟨hOi, hne, hge⟩ := hO i (by omega)
        have hlt := hOi.lt
        refine ⟨((hOi.ex hx3).ex hx4).grown hgr (fun e => hne e.symm), fun e => ?_, hge⟩
        rcases hown with h1 | h1
        · exact hne (e.trans h1)
        · have := h1 (rb i) e.symm; omega
    · intro i j hij hj
      dsimp only at hj ⊢
      by_cases hjk : j = k
      · subst hjk
        have e1 : updN rb j b1 j = b1 := by simp [updN]
        have hij' : i ≠ j := by omega
        have e2 : updN rb j b1 i = rb i := by simp [updN, hij']
        rw [e1, e2]
        have := (hO i (by omega)).1.lt; omega
      · have hik : i ≠ k := by omega
        have e1 : updN rb k b1 j = rb j := by simp [updN, hjk]
        have e2 : updN rb k b1 i = rb i := by simp [updN, hik]
        rw [e1, e2]
        exact hmon i j hij (by omega)
  · have hkn : k = g.length := by omega
    subst hkn
    repeat (first | (refine isO ?_; refine s_move ?_) | (refine isC ?_; first | refine c_sr ?_ | refine c_exit ?_))
    refine s_bs1 (u := .int .i64 77) sl_ints in_int rfl rfl ?_
    intro b1 w3 hb1 hA hx3 hs3
    refine s_bs1 (u := sv b1 1 1) sl_rows in_ints rfl rfl ?_
    intro b2 w4 hb2 hA2 hx4 hs4
    refine s_app (news := [sv b1 1 1]) sl_rows in_ints (hv.ex (hx3.trans hx4)) (hA2.sl (Nat.le_refl _) (by simp) (by simp)) rfl rfl (by intro q hq; simp at hq; subst hq; rfl) (by simp; omega) ?_
    intro v' w5 hv' hgr hown
    obtain ⟨b3, c3, sp, rfl, hA5, hc, hcl, hcm⟩ := hv'.posL (by simp)
    have hsz3 := hx3.size
    have hsz4 := hx4.size
    have hsz := hx.size
    have hfr : w.heap.size ≤ b3 := by
      rcases hown with h1 | h1
      · exact hb b3 h1.symm
      · have := h1 b3 rfl; omega
    simp only [List.length_append, List.length_map, List.length_range, List.length_singleton] at hc hcl
    have hb13 : b1 ≠ b3 := fun e => by
      have hl1 := hA.lt
      rcases hown with h1 | h1
      · have := hv.lt b3 h1.symm; omega
      · have := h1 b3 rfl; have := hA2.lt; omega
    have hA15 := (hA.ex hx4).grown hgr (fun e => by have := hv.lt b1 e; omega)
    have hx5 := ((hx.trans hx3).trans hx4).storeo hgr hb
    have hg5 := hg.ex hx5
    repeat ((refine isO ?_; first | refine s_move ?_ | (refine isCall ?_; refine s_lenR sl_rows rfl (by assumption) ?_)))
    refine s_head (hi := g.length) sl_rows ty_ints rfl rfl (by omega) ?_
    repeat (first | (refine isO ?_; refine s_assign ?_) | (refine isC ?_; refine c_ret ?_) | (refine l_th ?_))
    refine ret1 rfl rfl ⟨b3, c3, rb, rc, rfl, hfr, fun i hi => (hO i hi).2.2, ⟨⟨b1, sp, by rw [List.append_assoc] at hA5; exact hA5, hA15, by omega⟩, by omega, hcm, by omega, fun i hi => ?_, hmon⟩, hx5⟩
    obtain ⟨hOi, hne, hge⟩ := hO i hi
    have hlt := hOi.lt
    refine ⟨((hOi.ex hx3).ex hx4).grown hgr (fun e => hne e.symm), fun e => ?_⟩
    rcases hown with h1 | h1
    · exact hne (by rw [e]; exact h1)
    · have := h1 b3 rfl; omega
theorem ok_LeftInts : CallOK Tryz.prog 15 := callOK Tryz.func15 (by kernel_rfl) rfl
theorem ok_LeftIntLists : CallOK Tryz.prog 14 := callOK Tryz.func14 (by kernel_rfl) rfl
theorem LeftInts_ct (b c : Nat) (l : List Int) (y : Value) (w : World) (hT : TwI w b c l) (hy : Ints w y l) :
    Ct Tryz.prog 15 #[sv b l.length c, y] w fun x w' => x = .bool true ∧ Ex w w' := by
  have hI := hT.ints
  obtain ⟨sp, hA, hc, he, h63, hm⟩ := hT
  have hS : Sl w (sv b (l.length + 1) c) (l.map (Value.int .i64) ++ [.int .i64 77]) := by
    have := hA.sl (n := l.length + 1) (c := c) (by simp) (by omega) (by omega)
    have e : (l.map (Value.int .i64) ++ .int .i64 77 :: sp).take (l.length + 1) = l.map (Value.int .i64) ++ [.int .i64 77] := by
      rw [List.take_append, List.take_of_length_le (by simp)]; simp
    rwa [e] at this
  refine enter (N := 45) (vs := [sv b l.length c, y]) Tryz.func15 rfl rfl rfl ?_
  repeat (first | (refine isO ?_; first | refine s_move ?_ | refine s_assign ?_ | (refine isG ?_; refine g_yes rfl rfl ?_) | (refine isBin ?_; refine s_neqF rfl rfl (by omega) ?_) | (refine isCall ?_; refine s_lenI sl_ints rfl (by assumption) ?_)) | (refine isC ?_; first | refine c_sr ?_ | refine c_seq ?_) | (refine l_th ?_))
  refine s_cap (a := some ⟨b, 0, none⟩) (n := l.length) (c := c) sl_ints rfl ?_
  repeat (first | (refine isO ?_; first | refine s_move ?_ | refine s_assign ?_ | (refine isG ?_; refine g_yes rfl rfl ?_) | (refine isBin ?_; refine s_leqF rfl rfl (by omega) ?_) | (refine isCall ?_; refine s_lenI sl_ints rfl (by assumption) ?_) | (refine isPick ?_; refine s_pickf rfl rfl ?_)) | (refine isC ?_; first | refine c_sr ?_ | refine c_th ?_ | refine c_seq ?_ | refine c_iff rfl ?_ | refine c_block ?_) | (refine l_th ?_))
  refine c_loop (γ := Nat) 17179344944 (fun k => [(5, .int .i64 (k : Int))]) (fun k W => k ≤ l.length ∧ Ex w W) (fun k => l.length - k) 0 ⟨rfl, trivial⟩ ⟨Nat.zero_le _, Ex.refl _⟩ ?_
  rintro k ρ W ⟨hk, hx⟩
  have hyW := hy.ex hx
  repeat (first | (refine isO ?_; first | refine s_move ?_ | (refine isBin ?_; refine s_lss rfl rfl ?_) | (refine isCall ?_; refine s_lenI sl_ints rfl (by assumption) ?_)) | (refine isC ?_; first | refine c_sr ?_ | refine c_seq ?_) | (refine l_th ?_))
  refine c_ifd rfl (fun h => ?_) (fun h => ?_)
  · have hk' : k < l.length := by omega
    repeat ((refine isC ?_; first | refine c_th ?_ | refine c_seq ?_ | refine c_block ?_))
    refine c_drawO hx 9 8 [(0, true), (1, true), (2, true), (3, true), (4, true), (5, true), (6, true), (7, true), (8, true)] mixed (by kernel_rfl) ?_
    refine d_move rfl ?_
    refine d_move rfl ?_
    refine d_iaI (n := k) rfl sl_ints ty_int rfl rfl hI hk' ?_
    intro ad1 hc1
    refine d_ld rfl ty_int rfl hc1 ?_
    refine d_move rfl ?_
    refine d_move rfl ?_
    refine d_iaI (n := k) rfl sl_ints ty_int rfl rfl hy hk' ?_
    intro ad2 hc2
    refine d_ld rfl ty_int rfl hc2 ?_
    refine d_neq rfl rfl rfl ?_
    refine d_re (v' := .bool false) (vbool (by simp)) ?_
    refine d_nil ?_
    repeat (first | (refine isO ?_; first | refine s_move ?_ | refine s_assign ?_ | (refine isBin ?_; refine s_inc rfl (by omega) ?_)) | (refine isC ?_; first | refine c_region ?_ | refine c_iff rfl ?_ | refine c_skip ?_) | (refine l_th ?_))
    exact loop_end (k + 1) (by (repeat (first | exact agree_refl _ _ | refine agree_upd rfl ?_ | refine agree_ext rfl ?_ | refine agree_mask rfl ?_))) ⟨rfl, trivial⟩ ⟨hk', hx.trans (Ex.drew W)⟩ (by omega)
  · have hSW := hS.ex hx
    repeat (first | (refine isO ?_; first | refine s_move ?_ | (refine isBin ?_; refine s_inc rfl (by omega) ?_) | (refine isCall ?_; refine s_lenI sl_ints rfl (by assumption) ?_)) | (refine isC ?_; first | refine c_sr ?_ | refine c_exit ?_))
    refine s_head (hi := l.length + 1) sl_ints ty_int rfl (vint (by omega)) (by omega) ?_
    repeat ((refine isO ?_; first | refine s_move ?_ | (refine isCall ?_; refine s_lenI sl_ints rfl (by assumption) ?_)))
    refine s_ix (n := l.length) (u := .int .i64 77) sl_ints ty_int rfl rfl rfl hSW (by rw [List.getElem?_append_right (by simp)]; simp) ?_
    intro _
    repeat (first | (refine isO ?_; first | refine s_move ?_ | refine s_assign ?_ | (refine isBin ?_; refine s_eqlT rfl rfl (by omega) ?_)) | (refine isC ?_; first | refine c_sr ?_ | refine c_ret ?_) | (refine l_th ?_))
    exact ret1 rfl rfl ⟨rfl, hx⟩
theorem LeftIntLists_ct (b c : Nat) (rb rc : Nat → Nat) (g : List (List Int)) (y : Value) (w : World) (hT : TwL w b c rb rc g) (hy : Rows w y g) :
    Ct Tryz.prog 14 #[sv b g.length c, y] w fun x w' => x = .bool true ∧ Ex w w' := by
  have hsl := hT.sl
  obtain ⟨⟨eb, sp, hA, hE, he⟩, hc, h63, hm, hR, _⟩ := hT
  have hS : Sl w (sv b (g.length + 1) c) ((List.range g.length).map (fun i => sv (rb i) (g.getD i []).length (rc i)) ++ [sv eb 1 1]) := by
    have := hA.sl (n := g.length + 1) (c := c) (by simp) (by omega) (by omega)
    have e : ((List.range g.length).map (fun i => sv (rb i) (g.getD i []).length (rc i)) ++ sv eb 1 1 :: sp).take (g.length + 1) = (List.range g.length).map (fun i => sv (rb i) (g.getD i []).length (rc i)) ++ [sv eb 1 1] := by
      rw [List.take_append, List.take_of_length_le (by simp)]; simp
    rwa [e] at this
  have hIE : Ints w (sv eb 1 1) [77] := hE.one
  refine enter (N := 53) (vs := [sv b g.length c, y]) Tryz.func14 rfl rfl rfl ?_
  repeat (first | (refine isO ?_; first | refine s_move ?_ | refine s_assign ?_ | (refine isG ?_; refine g_yes rfl rfl ?_) | (refine isBin ?_; refine s_neqF rfl rfl (by omega) ?_) | (refine isCall ?_; first | refine s_lenR sl_rows rfl (by assumption) ?_ | refine s_len sl_rows rfl ?_)) | (refine isC ?_; first | refine c_sr ?_ | refine c_seq ?_) | (refine l_th ?_))
  refine s_cap (a := some ⟨b, 0, none⟩) (n := g.length) (c := c) sl_rows rfl ?_
  repeat (first | (refine isO ?_; first | refine s_move ?_ | refine s_assign ?_ | (refine isG ?_; refine g_yes rfl rfl ?_) | (refine isBin ?_; refine s_leqF rfl rfl (by omega) ?_) | (refine isCall ?_; refine s_lenR sl_rows rfl (by assumption) ?_) | (refine isPick ?_; refine s_pickf rfl rfl ?_)) | (refine isC ?_; first | refine c_sr ?_ | refine c_th ?_ | refine c_seq ?_ | refine c_iff rfl ?_ | refine c_block ?_) | (refine l_th ?_))
  refine c_loop (γ := Nat) 34359214128 (fun k => [(5, .int .i64 (k : Int))]) (fun k W => k ≤ g.length ∧ Ex w W) (fun k => g.length - k) 0 ⟨rfl, trivial⟩ ⟨Nat.zero_le _, Ex.refl _⟩ ?_
  rintro k ρ W ⟨hk, hx⟩
  have hyW := hy.ex hx
  repeat (first | (refine isO ?_; first | refine s_move ?_ | (refine isBin ?_; refine s_lss rfl rfl ?_) | (refine isCall ?_; refine s_lenR sl_rows rfl (by assumption) ?_)) | (refine isC ?_; first | refine c_sr ?_ | refine c_seq ?_) | (refine l_th ?_))
  refine c_ifd rfl (fun h => ?_) (fun h => ?_)
  · have hk' : k < g.length := by omega
    repeat ((refine isC ?_; first | refine c_th ?_ | refine c_seq ?_ | refine c_block ?_))
    refine c_drawO hx 10 8 [(0, true), (1, true), (2, true), (3, true), (4, true), (5, true), (6, true), (7, true), (8, false), (9, true)] mixed (by kernel_rfl) ?_
    refine d_move rfl ?_
    refine d_move rfl ?_
    refine d_ia (n := k) (u := sv (rb k) (g.getD k []).length (rc k)) rfl sl_rows ty_ints rfl rfl hsl (by simp [hk']) ?_
    intro ad1 hc1
    refine d_ld rfl ty_ints rfl hc1 ?_
    refine d_move rfl ?_
    refine d_move rfl ?_
    refine d_iaR (n := k) rfl sl_rows ty_ints rfl rfl hy hk' ?_
    intro ad2 r2 hc2 hr2
    refine d_ld rfl ty_ints rfl hc2 ?_
    have hxd := hx.trans (Ex.drew W)
    refine d_ch rfl ?_
    refine s_call ok_LeftInts rfl (LeftInts_ct (rb k) (rc k) (g.getD k []) r2 W.drew ((hR k hk').1.ex hxd) (hr2.ex hxd)) ?_
    rintro v w1 ⟨rfl, hx1⟩
    refine l_nil ⟨rfl, .inr (hxd.trans hx1), ?_⟩
    refine d_not rfl rfl ?_
    refine d_nil ?_
    repeat (first | (refine isO ?_; first | refine s_move ?_ | refine s_assign ?_ | (refine isBin ?_; refine s_inc rfl (by omega) ?_)) | (refine isC ?_; first | refine c_region ?_ | refine c_iff rfl ?_ | refine c_skip ?_) | (refine l_th ?_))
    exact loop_end (k + 1) (by (repeat (first | exact agree_refl _ _ | refine agree_upd rfl ?_ | refine agree_ext rfl ?_ | refine agree_mask rfl ?_))) ⟨rfl, trivial⟩ ⟨hk', hxd.trans hx1⟩ (by omega)
  · have hSW := hS.ex hx
    have hIW := hIE.ex hx
    repeat (first | (refine isO ?_; first | refine s_move ?_ | (refine isBin ?_; refine s_inc rfl (by omega) ?_) | (refine isCall ?_; refine s_lenR sl_rows rfl (by assumption) ?_)) | (refine isC ?_; first | refine c_sr ?_ | refine c_exit ?_))
    refine s_head (hi := g.length + 1) sl_rows ty_ints rfl (vint (by omega)) (by omega) ?_
    repeat ((refine isO ?_; first | refine s_move ?_ | (refine isCall ?_; refine s_lenR sl_rows rfl (by assumption) ?_)))
    refine s_ix (n := g.length) (u := sv eb 1 1) sl_rows ty_ints rfl rfl rfl hSW (by rw [List.getElem?_append_right (by simp)]; simp) ?_
    intro _
    repeat (first | (refine isO ?_; first | refine s_move ?_ | refine s_assign ?_ | (refine isG ?_; refine g_yes rfl rfl ?_) | (refine isBin ?_; refine s_eql rfl rfl ?_) | (refine isCall ?_; refine s_lenI sl_ints rfl (by assumption) ?_)) | (refine isC ?_; refine c_sr ?_) | (refine l_th ?_))
    refine s_iaI (n := 0) sl_ints ty_int rfl rfl hIW (by simp) ?_
    intro ad hc1
    refine g_yes rfl rfl ?_
    have hc2 : W.cell? ad = some (.int .i64 77) := hc1
    refine s_ld ty_int rfl hc2 ?_
    repeat (first | (refine isO ?_; first | refine s_assign ?_ | (refine isG ?_; refine g_yes rfl rfl ?_) | (refine isBin ?_; refine s_eqlT rfl rfl (by omega) ?_) | (refine isPick ?_; refine s_pickt rfl rfl ?_)) | (refine isC ?_; refine c_ret ?_) | (refine l_th ?_))
    exact ret1 rfl rfl ⟨rfl, hx⟩
end Go.Proofs.YtifbgpkjbciblaaGreatDoor.Sal
/- GW: what is near, and what is turned, lie in memory of their own. -/
set_option maxRecDepth 100000
namespace Go.Proofs.YtifbgpkjbciblaaGreatDoor.Sal
open Go.RowKit
set_option linter.all false
theorem Rw.wdI {w : World} {E : TypeId} {v : Value} {l : List Int} (h : Rw w E v (l.map (Value.int .i64))) : Wd w E 1 v l.length (l.map (Value.int .i64)) := by
  refine ⟨by simp, ?_⟩
  by_cases h0 : l = []
  · subst h0
    rcases h.form with ⟨hv, _⟩ | _
    · exact .inl ⟨hv, rfl⟩
    · obtain ⟨_, h2⟩ := h
      rcases h2 with ⟨hv, _⟩ | ⟨g, cap, cur, hv, _, hh, hc, hm, hcs, _⟩
      · exact .inl ⟨hv, rfl⟩
      · exact .inr ⟨g, cap, cur.toList, hv, by unfold At; simpa using hh, hc, by simpa [maxLen] using hm, by simp; omega⟩
  · obtain ⟨b, c, sp, hv, hA, hc, he, hm⟩ := h.posL (by simp; exact List.length_pos_iff.2 h0)
    simp only [List.length_map] at hv hc he
    exact .inr ⟨b, c, sp, hv, hA, hc, hm, by simp; omega⟩
theorem Wd.clip {w : World} {E : TypeId} {n c : Nat} {a : Option Addr} {xs : List Value} (h : Wd w E 1 (.slice a n c) n xs) : Wd w E 1 (.slice a n n) n xs := by
  obtain ⟨h1, h2⟩ := h
  refine ⟨h1, ?_⟩
  rcases h2 with ⟨h3, h4⟩ | ⟨b, c', sp, h3, hA, h4, h5, h6⟩
  · cases h3; exact .inl ⟨rfl, rfl⟩
  · cases h3; exact .inr ⟨b, n, sp, rfl, hA, Nat.le_refl _, by omega, by omega⟩
attribute [local irreducible] Go.Code.wpIn Go.wpListIn Ct Ints Rows Sl At Rw WJ
attribute [local irreducible] Wd
end Go.Proofs.YtifbgpkjbciblaaGreatDoor.Sal
/- What the laws that ask the document's answer have in common: sizes, memory of one's own. -/
set_option maxRecDepth 100000
namespace Go.Proofs.YtifbgpkjbciblaaGreatDoor.Sal
open Go.RowKit
set_option linter.all false
/-- A list, lists, that lie in memory that was laid since some world. -/
def OwI (w0 w : World) (v : Value) (l : List Int) : Prop := Wd w 3 1 v l.length (l.map (Value.int .i64)) ∧ ∀ b, v.ownBlock = some b → w0.heap.size ≤ b
structure OwL (w0 w : World) (v : Value) (us : List Value) (A : List (List Int)) : Prop where
  len : us.length = A.length
  out : Wd w 25 1 v A.length us
  row : ∀ (j : Nat) (u : Value), us[j]? = some u → Wd w 3 1 u (A.getD j []).length ((A.getD j []).map (Value.int .i64)) ∧ (∃ a k c, u = .slice a k c)
  low : ∀ (j : Nat) (u : Value) (b : Nat), us[j]? = some u → u.ownBlock = some b → w0.heap.size ≤ b ∧ v.ownBlock ≠ some b
  dis : ∀ (i j : Nat) (u x : Value) (b : Nat), us[i]? = some u → us[j]? = some x → i ≠ j → u.ownBlock = some b → x.ownBlock ≠ some b
  lov : ∀ b, v.ownBlock = some b → w0.heap.size ≤ b
theorem OwI.ex {w0 w w' : World} {v : Value} {l : List Int} (h : OwI w0 w v l) (hx : Ex w w') : OwI w0 w' v l := ⟨h.1.ex hx, h.2⟩
theorem OwL.ex {w0 w w' : World} {v : Value} {us : List Value} {A : List (List Int)} (h : OwL w0 w v us A) (hx : Ex w w') : OwL w0 w' v us A := ⟨h.len, h.out.ex hx, fun j u hu => ⟨(h.row j u hu).1.ex hx, (h.row j u hu).2⟩, h.low, h.dis, h.lov⟩
theorem OwI.nil (w0 w : World) : OwI w0 w (.slice none 0 0) [] := ⟨Wd.nil _ _ _, fun b h => by cases h⟩
theorem OwL.nil (w0 w : World) : OwL w0 w (.slice none 0 0) [] [] := ⟨rfl, Wd.nil _ _ _, fun j u h => by simp at h, fun j u b h => by simp at h, fun i j u x b h => by simp at h, fun b h => by cases h⟩
theorem TwI.ow {w0 w : World} {b c : Nat} {l : List Int} (h : TwI w b c l) (hb : w0.heap.size ≤ b) : OwI w0 w (sv b l.length c) l := ⟨h.wd, fun b' e => by cases e; exact hb⟩
theorem TwL.ow {w0 w : World} {b c : Nat} {rb rc : Nat → Nat} {g : List (List Int)} (h : TwL w b c rb rc g) (hb : w0.heap.size ≤ b) (hr : ∀ i, i < g.length → w0.heap.size ≤ rb i) : OwL w0 w (sv b g.length c) ((List.range g.length).map (fun i => sv (rb i) (g.getD i []).length (rc i))) g := by
  have hw := h.wd
  obtain ⟨_, _, _, _, h7, h8⟩ := h
  have key : ∀ j u, ((List.range g.length).map (fun i => sv (rb i) (g.getD i []).length (rc i)))[j]? = some u → j < g.length ∧ u = sv (rb j) (g.getD j []).length (rc j) := fun j u hu => by
    have hj := (List.getElem?_eq_some_iff.1 hu).1
    simp only [List.length_map, List.length_range] at hj
    simp only [List.getElem?_map, List.getElem?_range hj, Option.map_some, Option.some.injEq] at hu
    exact ⟨hj, hu.symm⟩
  refine ⟨by simp, hw, fun j u hu => ?_, fun j u b' hu e => ?_, fun i j u x b' hu hx hij e e2 => ?_, fun b' e => by cases e; exact hb⟩
  · obtain ⟨hj, rfl⟩ := key j u hu
    exact ⟨(h7 j hj).1.wd, _, _, _, rfl⟩
  · obtain ⟨hj, rfl⟩ := key j u hu
    cases e
    exact ⟨hr j hj, fun e => (h7 j hj).2 (by cases e; rfl)⟩
  · obtain ⟨hi, rfl⟩ := key i u hu
    obtain ⟨hj, rfl⟩ := key j x hx
    have e3 : rb i = b' := by cases e; rfl
    have e4 : rb j = b' := by cases e2; rfl
    rcases Nat.lt_or_ge i j with h9 | h9
    · have := h8 i j h9 hj; omega
    · have := h8 j i (by omega) hi; omega
attribute [local irreducible] Go.Code.wpIn Go.wpListIn Ct Ints Rows Sl At Rw WJ
attribute [local irreducible] Wd
theorem IntListsSizeW_ct (v : Value) (g : List (List Int)) (w : World) (hg : Rows w v g) : Ct Tryz.prog 6 #[v] w fun u w' => (∃ n : Int, u = .int .i64 n ∧ (n ≤ 3000 → g.length ≤ 3000 ∧ ∀ i, i < g.length → (g.getD i []).length ≤ 3000)) ∧ Ex w w' := by
  have hlen := hg.len
  refine enter (N := 25) (vs := [v]) Tryz.func6 rfl rfl rfl ?_
  repeat (first | (refine isO ?_; first | refine s_move ?_ | refine s_assign ?_ | (refine isCall ?_; refine s_lenR sl_rows rfl (by assumption) ?_)) | (refine isC ?_; first | refine c_sr ?_ | refine c_seq ?_ | refine c_block ?_) | (refine l_th ?_))
  refine c_loop2 16777112 (fun (i : Nat) (q : Int) => [(4, .int .i64 (i : Int)), (3, .int .i64 q)]) (fun i q w' => i ≤ g.length ∧ (0 ≤ q ∧ q ≤ 300000000000000 ∧ (g.length : Int) ≤ q ∧ ∀ j, j < i → ((g.getD j []).length : Int) ≤ q) ∧ Ex w w') (fun i _ => g.length - i) 0 (g.length : Int) ⟨rfl, rfl, trivial⟩ ⟨Nat.zero_le _, ⟨by omega, by omega, Int.le_refl _, fun j h => by omega⟩, Ex.refl _⟩ ?_
  rintro i q ρ w1 ⟨hi, ⟨hq1, hq2, hq3, hq4⟩, hx1⟩
  have hg1 := hg.ex hx1
  by_cases h1 : (i : Int) < (g.length : Int)
  · by_cases h2 : q ≤ 1048576
    · have hi' : i < g.length := by omega
      have hrl := hg.rowlen i
      repeat (first | (refine isO ?_; first | refine s_move ?_ | (refine isG ?_; refine g_yes rfl rfl ?_) | (refine isBin ?_; first | refine s_lssT rfl rfl (by omega) ?_ | refine s_leqT rfl rfl (by omega) ?_) | (refine isCall ?_; refine s_lenR sl_rows rfl (by assumption) ?_) | (refine isPick ?_; refine s_pickt rfl rfl ?_)) | (refine isC ?_; first | refine c_sr ?_ | refine c_th ?_ | refine c_seq ?_ | refine c_region ?_ | refine c_ift rfl ?_ | refine c_block ?_) | (refine l_th ?_))
      refine s_ixR sl_rows ty_ints rfl rfl rfl hg1 hi' ?_
      intro _ u hu
      refine s_call ok_IntsSize rfl (IntsSize_ct u _ w1 hu) ?_
      rintro x w2 ⟨rfl, hx2⟩
      repeat (first | (refine isO ?_; first | refine s_move ?_ | refine s_assign ?_ | (refine isBin ?_; first | refine s_inc rfl (by omega) ?_ | refine s_add rfl rfl ⟨by omega, by omega⟩ ?_)) | (refine isC ?_; refine c_region ?_) | (first | refine l_th ?_ | refine l_nil ?_))
      refine loop_end2 (i + 1) _ (by (repeat (first | exact agree_refl _ _ | refine agree_upd rfl ?_ | refine agree_ext rfl ?_ | refine agree_mask rfl ?_))) ⟨rfl, rfl, trivial⟩ ⟨hi', ⟨by omega, by omega, by omega, fun j hj => ?_⟩, hx1.trans hx2⟩ (by omega)
      by_cases e : j = i
      · subst e; omega
      · have := hq4 j (by omega); omega
    · repeat (first | (refine isO ?_; first | refine s_move ?_ | refine s_assign ?_ | (refine isG ?_; refine g_yes rfl rfl ?_) | (refine isBin ?_; first | refine s_lssT rfl rfl (by omega) ?_ | refine s_leqF rfl rfl (by omega) ?_) | (refine isCall ?_; refine s_lenR sl_rows rfl (by assumption) ?_) | (refine isPick ?_; refine s_pickt rfl rfl ?_)) | (refine isC ?_; first | refine c_sr ?_ | refine c_seq ?_ | refine c_iff rfl ?_ | refine c_ret ?_ | refine c_exit ?_) | (refine l_th ?_))
      exact ret1 rfl rfl ⟨⟨_, rfl, fun h => by omega⟩, hx1⟩
  · repeat (first | (refine isO ?_; first | refine s_move ?_ | refine s_assign ?_ | (refine isG ?_; refine g_no rfl rfl rfl ?_) | (refine isBin ?_; refine s_lssF rfl rfl (by omega) ?_) | (refine isCall ?_; refine s_lenR sl_rows rfl (by assumption) ?_) | (refine isPick ?_; refine s_pickf rfl rfl ?_)) | (refine isC ?_; first | refine c_sr ?_ | refine c_seq ?_ | refine c_iff rfl ?_ | refine c_ret ?_ | refine c_exit ?_) | (refine l_th ?_))
    refine ret1 rfl rfl ⟨⟨_, rfl, fun h => ⟨by omega, fun j hj => ?_⟩⟩, hx1⟩
    have := hq4 j (by omega); omega
end Go.Proofs.YtifbgpkjbciblaaGreatDoor.Sal
/- halls.Few: the answer lies in memory of its own. -/
set_option maxRecDepth 100000
namespace Go.Proofs.YtifbgpkjbciblaaGreatDoor.Sal
open Go.RowKit
set_option linter.all false
theorem Wd.kc {w w' : World} {E : TypeId} {s n : Nat} {v : Value} {xs : List Value} (h : Wd w E s v n xs) (hk : KC w w') : Wd w' E s v n xs := by
  obtain ⟨h1, h2⟩ := h
  rcases h2 with h2 | ⟨b, c, sp, hv, hA, h3⟩
  · exact ⟨h1, .inl h2⟩
  · exact ⟨h1, .inr ⟨b, c, sp, hv, hk.at hA, h3⟩⟩
attribute [local irreducible] Go.Code.wpIn Go.wpListIn Ct Ints Rows Sl At Rw WJ
attribute [local irreducible] Wd
/-- What lies in memory where the search has found some. -/
def FJW (w W0 Wr W' : World) (L : List (List Int)) (p : List Int → Bool) (b6 b7 b8 i : Nat) : Prop :=
  (∃ x v a, L[i]? = some x ∧ p x = true ∧ At W' b6 25 [v] ∧ At W' b7 4 [.bool true] ∧ At W' b8 29 [.int .i64 0] ∧ (v = .slice a x.length x.length ∧ Wd W' 3 1 v x.length (x.map (Value.int .i64))) ∧ (∀ b, v.ownBlock = some b → w.heap.size ≤ b) ∧ Ints W' v x ∧ Ex w W') ∧ Kb W0.heap.size Wr W'
theorem FJW.go {w W0 Wr W W' : World} {L : List (List Int)} {p : List Int → Bool} {b6 b7 b8 i : Nat} (h : FJW w W0 Wr W L p b6 b7 b8 i) (hb : Below Wr.heap.size W W') (hk : KC W W') (h6 : b6 < Wr.heap.size) (h7 : b7 < Wr.heap.size) (h8 : b8 < Wr.heap.size) (hw : w.heap.size ≤ Wr.heap.size) : FJW w W0 Wr W' L p b6 b7 b8 i := by
  obtain ⟨⟨x, v, a, h1, h2, h3, h4, h5, h9, h10, h11, h12⟩, h13⟩ := h
  exact ⟨⟨x, v, a, h1, h2, h3.below hb h6, h4.below hb h7, h5.below hb h8, ⟨h9.1, h9.2.kc hk⟩, h10, hk.ints h11, Below.trans h12 (Below.mono hb hw)⟩, Kb.below h13 hb⟩
set_option maxHeartbeats 4000000 in
theorem Few_okW {R : Nat → Nat → Bool} {m nn : Nat} (hm : m ≤ 8) (hn : nn ≤ 8) (gv : Value) (sv' : Value) (sl : List Int) (w : World) (hg : Rows w gv (gL R m nn)) (hs : Ints w sv' sl) (hris : risB (-1) sl (m : Int) = true) :
    Ct Tryz.prog 19 #[gv, .int .i64 (nn : Int), sv'] w fun u w' => Ex w w' ∧ ((fewR R m nn sl = none ∧ u = .tuple #[.slice none 0 0, .bool false, .int .i64 0]) ∨
      ∃ l v, fewR R m nn sl = some l ∧ u = .tuple #[v, .bool true, .int .i64 0] ∧ OwI w w' v l ∧ Ints w' v l) := by
  have hgl := gL_len R m nn
  refine Exists.elim hg.form fun ga hga => Exists.elim hga fun gc hgc => ?_
  subst hgc
  refine Exists.elim hs.form fun sa hsa => Exists.elim hsa fun sc hsc => ?_
  subst hsc
  refine Exists.elim in_int' fun ti1 hti1 => ?_
  refine Exists.elim in_ints' fun ti hti => ?_
  refine Exists.elim in_bl fun tb htb => ?_
  refine Exists.elim in_err fun te hte => ?_
  refine Exists.elim in_fn36 fun tf36 htf => ?_
  refine enter (N := 46) (vs := [.slice ga (gL R m nn).length gc, .int .i64 (nn : Int), .slice sa sl.length sc]) Tryz.func19 rfl rfl rfl ?_
  refine c_sr ?_
  refine s_box (cs := [.slice ga (gL R m nn).length gc]) rfl rfl ?_
  intro b3 w3 hb3 hA3 hx3 hs3
  refine s_box (cs := [.int .i64 (nn : Int)]) rfl rfl ?_
  intro b4 w4 hb4 hA4 hx4 hs4
  refine s_box (cs := [.slice sa sl.length sc]) rfl rfl ?_
  intro b5 w5 hb5 hA5 hx5 hs5
  refine s_alloc (cs := [.slice none 0 0]) hti.1 hti.2.1 rfl ?_
  intro b6 w6 hb6 hA6 hx6 hs6
  refine s_alloc (cs := [.bool false]) htb.1 htb.2 rfl ?_
  intro b7 w7 hb7 hA7 hx7 hs7
  refine s_alloc (cs := [.int .i64 0]) hte.1 hte.2 rfl ?_
  intro b8 w8 hb8 hA8 hx8 hs8
  have hx48 := hx5.trans (hx6.trans (hx7.trans hx8))
  have hx08 := hx3.trans (hx4.trans hx48)
  have hA38 := hA3.ex (hx4.trans hx48)
  have hA48 := hA4.ex hx48
  have hA58 := hA5.ex (hx6.trans (hx7.trans hx8))
  have z3 := hx3.size
  have z48 := hx48.size
  repeat (first | (refine isC ?_; refine c_sr ?_) | (refine l_th ?_))
  refine s_ldA ty_rows rfl hA38 rfl ?_
  repeat ((refine isO ?_; (refine isLD ?_; first | refine s_ldA ty_int rfl (by assumption) rfl ?_ | refine s_ldA ty_ints rfl (by assumption) rfl ?_)))
  refine s_call ok_All rfl (All_ok hm hn _ _ sl w8 (hg.ex hx08) (hs.ex hx08) hris) ?_
  rintro u w9 ⟨rfl, hx9⟩
  have hA69 := hA6.ex (hx7.trans (hx8.trans hx9))
  have hA79 := hA7.ex (hx8.trans hx9)
  have hA89 := hA8.ex hx9
  have hx09 := hx08.trans hx9
  have z9 := hx9.size
  by_cases hall : rkm (Rsome sl R) m nn = sl.length
  · have hfr : fewR R m nn sl = none := by unfold fewR; rw [if_pos hall]
    refine s_re (v' := .tuple #[.bool true, .int .i64 0]) (congrArg (fun z : Bool => Value.tuple #[.bool z, .int .i64 0]) (decide_eq_true hall)) ?_
    repeat (first | (refine isO ?_; first | refine s_move ?_ | refine s_assign ?_ | (refine isG ?_; refine g_yes rfl rfl ?_) | (refine isBin ?_; refine s_neqF rfl rfl (by omega) ?_) | (refine isPick ?_; refine s_pickf rfl rfl ?_) | refine s_extract rfl rfl ?_) | (refine isC ?_; first | refine c_sr ?_ | refine c_seq ?_ | refine c_ift rfl ?_) | (refine l_th ?_))
    refine s_stA (n := 0) (u := .slice none 0 0) ty_ints rfl rfl rfl hA69 (by simp) ?_
    intro wa hAa hga
    refine s_stA (n := 0) (u := .bool false) ty_bl rfl rfl rfl (hA79.grown hga (fun e => by have := Option.some.inj e; omega)) (by simp) ?_
    intro wb hAb hgb
    refine s_stA (n := 0) (u := .int .i64 0) ty_err rfl rfl rfl ((hA89.grown hga (fun e => by have := Option.some.inj e; omega)).grown hgb (fun e => by have := Option.some.inj e; omega)) (by simp) ?_
    intro wc hAc hgc
    have hA6c := (hAa.grown hgb (fun e => by have := Option.some.inj e; omega)).grown hgc (fun e => by have := Option.some.inj e; omega)
    have hA7c := hAb.grown hgc (fun e => by have := Option.some.inj e; omega)
    repeat (first | (refine isC ?_; refine c_ret ?_) | (first | refine l_th ?_ | refine th_ret ?_))
    exact ret3d (Ds := []) (va := .slice none 0 0) (vb := .bool false) (vc := .int .i64 0) rfl rfl rfl rfl ty_ints ty_bl ty_err (by rw [hA6c.cell]; rfl) (by rw [hA7c.cell]; rfl) (by rw [hAc.cell]; rfl) List.nodup_nil (fun D hD => by simp at hD) (fun w' hp => ⟨PD.ex (((hx09.store hga (by omega)).store hgb (by omega)).store hgc (by omega)) hp (fun D hD => by simp at hD), .inl ⟨hfr, rfl⟩⟩)
  · have hfr : fewR R m nn sl = fewTo R nn sl (nn + 1) := by unfold fewR; rw [if_neg hall]
    refine s_re (v' := .tuple #[.bool false, .int .i64 0]) (congrArg (fun z : Bool => Value.tuple #[.bool z, .int .i64 0]) (decide_eq_false hall)) ?_
    repeat (first | (refine isO ?_; first | refine s_move ?_ | refine s_assign ?_ | (refine isG ?_; refine g_yes rfl rfl ?_) | (refine isBin ?_; refine s_neqF rfl rfl (by omega) ?_) | (refine isPick ?_; refine s_pickf rfl rfl ?_) | refine s_extract rfl rfl ?_) | (refine isC ?_; first | refine c_sr ?_ | refine c_th ?_ | refine c_seq ?_ | refine c_iff rfl ?_) | (refine l_th ?_))
    refine s_mkfn (vs := [.pointer (some ⟨b5, 0, none⟩), .pointer (some ⟨b3, 0, none⟩), .pointer (some ⟨b4, 0, none⟩)]) rfl ?_
    refine s_alloc (cs := [.nilFunc]) htf.1 htf.2 rfl ?_
    intro b11 wa hb11 hAa hxa hsa
    refine s_stA (n := 0) (u := .func (.func 71) #[] [.pointer (some ⟨b5, 0, none⟩), .pointer (some ⟨b3, 0, none⟩), .pointer (some ⟨b4, 0, none⟩)].toArray) ty_fn36 rfl rfl rfl hAa (by simp) ?_
    intro W0 hA11 hgW0
    have hx9W : Ex w9 W0 := hxa.store hgW0 (by omega)
    have hxW0 := hx09.trans hx9W
    have hxS := hx9.trans hx9W
    have hC0 : FC W0 b5 b3 b4 R m nn _ _ sl := ⟨hA58.ex hxS, hA38.ex hxS, hA48.ex hxS, hg.ex hxW0, hs.ex hxW0⟩
    have hA40 := hA48.ex hxS
    have hA60 := hA69.ex hx9W
    have hA70 := hA79.ex hx9W
    have hA80 := hA89.ex hx9W
    have hl6 := hA60.lt
    have hl7 := hA70.lt
    have hl8 := hA80.lt
    have zW0 := hxW0.size
    repeat (first | (refine isO ?_; first | refine s_move ?_ | (refine isBin ?_; refine s_inc rfl (by omega) ?_) | (refine isLD ?_; refine s_ldA ty_int rfl (by assumption) rfl ?_)) | (refine isC ?_; first | refine c_sr ?_ | refine c_seq ?_ | refine c_block ?_) | (refine l_th ?_))
    refine c_loopD 70367670448128 (fun many => [(30, .int .i64 (many : Int))]) (fun many Ds W => many ≤ nn + 1 ∧ Ex W0 W ∧ fewTo R nn sl many = none ∧ Marks Ds W ∧ Ds.Nodup ∧ ∀ D ∈ Ds, W0.heap.size ≤ D ∧ D < W.heap.size) (fun many => nn + 1 - many) 0 ⟨rfl, trivial⟩
      ⟨Nat.zero_le _, Ex.refl _, rfl, fun D hD => by simp at hD, List.nodup_nil, fun D hD => by simp at hD⟩ ?_
    rintro many Ds ρ W ⟨hmany, hxW, hft, hmk, hnd, hDs⟩
    have hA4W := hA40.ex hxW
    have hA6W := hA60.ex hxW
    have hA7W := hA70.ex hxW
    have hA8W := hA80.ex hxW
    have hx0W := hxW0.trans hxW
    have zW := hxW.size
    repeat (first | (refine isO ?_; (refine isBin ?_; refine s_lss rfl rfl ?_)) | (refine isC ?_; first | refine c_sr ?_ | refine c_seq ?_) | (refine l_th ?_))
    refine c_ifd rfl (fun h => ?_) (fun h => ?_)
    · have hmany' : many < nn + 1 := by omega
      repeat (first | (refine isO ?_; refine s_move ?_) | (refine isC ?_; first | refine c_sr ?_ | refine c_th ?_ | refine c_seq ?_ | refine c_block ?_))
      refine s_alloc (cs := [.int .i64 0]) hti1.1 hti1.2.1 rfl ?_
      intro b12 W1 hb12 hA12 hxW1 hsW1
      refine s_stA (n := 0) (u := .int .i64 (many : Int)) ty_int rfl rfl rfl hA12 (by simp) ?_
      intro W2 hA122 hgW2
      have hxW2 : Ex W W2 := hxW1.store hgW2 (by omega)
      have hA42 := hA4W.ex hxW2
      have hA122' : At W2 b12 3 [.int .i64 (many : Int)] := hA122
      repeat (first | (refine isO ?_; (refine isLD ?_; refine s_ldA ty_int rfl (by assumption) rfl ?_)) | (refine isC ?_; refine c_sr ?_) | (refine l_th ?_))
      refine s_call (vs := [.slice none 0 0, .int .i64 ((0 : Nat) : Int), .int .i64 (nn : Int), .int .i64 (many : Int)]) ok_sets rfl (sets_ct _ [] 0 nn many W2 (Ints.nil W2)) ?_
      rintro u Wr ⟨c1, c2, c3, c4, rfl, hCr, hxr⟩
      have hit := sets_iter many [] 0 nn c1 c2 c3 c4 _ Wr hn (by omega) (by simp; omega) hCr
      have hxWr := hxW2.trans hxr
      have hx0r := hxW.trans hxWr
      have hxwr := hxW0.trans hx0r
      have zr := hx0r.size
      have hA12r := hA122'.ex hxr
      have hA11r := hA11.ex hx0r
      have hCFr := hC0.ex hx0r
      have hA6r := hA60.ex hx0r
      have hA7r := hA70.ex hx0r
      have hA8r := hA80.ex hx0r
      repeat (first | (refine isC ?_; refine c_block ?_) | (refine l_th ?_))
      refine c_rangeX (gf := 117) (lb := capsL c1 c2 c3 c4) (L := setsR many [] 0 nn) (w0 := Wr) rfl ok_sets1 hit (Ex.refl Wr) rfl (fun i => ∀ y, (setsR many [] 0 nn)[i]? = some y → fewB R nn sl y = false) (fun i W' => FJW w W0 Wr W' (setsR many [] 0 nn) (fewB R nn sl) b6 b7 b8 i)
        (fun i W' W'' hJ hb hkc => hJ.go hb hkc (by omega) (by omega) (by omega) (by omega)) (fun v σ => upd (updl [(36, v)] σ) 13 v) ?_ ?_ ?_ ?_
      · intro l' v W' K hK
        repeat (first | (refine isO ?_; refine s_assign ?_) | (refine isC ?_; refine c_region ?_) | (refine l_th ?_))
        exact hK
      · intro l' i x v W' hx hxW' hI'
        have hxl : x.length = many := by have := setsR_len many [] 0 nn x (List.mem_of_getElem? hx); simpa using this
        have hA11' := hA11r.ex hxW'
        have hA12' := hA12r.ex hxW'
        have hCF' := hCFr.ex hxW'
        repeat ((refine isC ?_; first | refine c_seq ?_ | refine c_block ?_))
        refine c_drawO (Ex.refl W') 5 5 [(0, true), (1, true), (3, true), (2, false), (4, true)] mixed (by kernel_rfl) ?_
        have hxd := Ex.drew W'
        refine d_ldA rfl ty_fn36 rfl hA11' rfl ?_
        refine d_move rfl ?_
        refine d_ldA rfl ty_int rfl hA12' rfl ?_
        refine d_ch rfl ?_
        refine s_callv (by intro f e; cases e) rfl ok_Few1 rfl (Few1_ct hm hn (hCF'.ex hxd) hris (hI'.ex hxd)) ?_
        rintro u W3 ⟨rfl, hx3⟩
        have hxd3 := hxd.trans hx3
        refine l_nil ⟨rfl, .inr hxd3, ?_⟩
        refine d_gtr rfl rfl rfl ?_
        have hfe : decide ((many : Int) < (withN R nn sl x : Int)) = fewB R nn sl x := by unfold fewB; rw [hxl, Bool.eq_iff_iff, decide_eq_true_eq, decide_eq_true_eq]; omega
        refine Or.elim (tf8 (fewB R nn sl x)) (fun hb => ?_) (fun hb => ?_)
        · refine d_re (v' := .bool true) (vbool (hfe.trans hb)) ?_
          refine d_nil ?_
          have hI3 := hI'.ex hxd3
          repeat (first | (refine isO ?_; refine s_move ?_) | (refine isC ?_; first | refine c_sr ?_ | refine c_ift rfl ?_))
          refine s_call ok_Clone rfl (Clone_ct v x W3 hI3 (by omega)) ?_
          rintro v4 W4 ⟨hL4, hx4⟩
          refine s_call ok_Clip rfl (Clip_ct v4 x W4 (hL4.ints (by omega))) ?_
          rintro v5 W5 ⟨⟨a5, c5, hv4, rfl⟩, hI5, hx5⟩
          have hxW5 := hxd3.trans (hx4.trans hx5)
          have hW5 : Wd W5 3 1 (.slice a5 x.length x.length) x.length (x.map (Value.int .i64)) := by
            have h9 := hL4.1.wdI.ex hx5
            rw [hv4] at h9
            exact h9.clip
          have hxr5 := hxW'.trans hxW5
          have hA65 := hA6r.ex hxr5
          have hA75 := hA7r.ex hxr5
          have hA85 := hA8r.ex hxr5
          have hxw5 := hxwr.trans hxr5
          have zr5 := hxr5.size
          have zrW' := hxW'.size
          have zr3 := (hxW'.trans hxd3).size
          have hown : ∀ b, (Value.slice a5 x.length x.length).ownBlock = some b → W3.heap.size ≤ b := fun b e => hL4.2 b (by rw [hv4]; cases a5 <;> exact e)
          refine s_stA (n := 0) (u := .slice a5 x.length x.length) ty_ints rfl rfl rfl hA65 (by simp) ?_
          intro W6 hA66 hg6
          refine s_stA (n := 0) (u := .bool true) ty_bl rfl rfl rfl (hA75.grown hg6 (fun e => by have := Option.some.inj e; omega)) (by simp) ?_
          intro W7 hA77 hg7
          refine s_stA (n := 0) (u := .int .i64 0) ty_err rfl rfl rfl ((hA85.grown hg6 (fun e => by have := Option.some.inj e; omega)).grown hg7 (fun e => by have := Option.some.inj e; omega)) (by simp) ?_
          intro W8 hA88 hg8
          have hA68 := (hA66.grown hg7 (fun e => by have := Option.some.inj e; omega)).grown hg8 (fun e => by have := Option.some.inj e; omega)
          have hA78 := hA77.grown hg8 (fun e => by have := Option.some.inj e; omega)
          have hI8 : Ints W8 (.slice a5 x.length x.length) x := ((hI5.kept hg6 (.inr fun e => by have := hown _ e; omega)).kept hg7 (.inr fun e => by have := hown _ e; omega)).kept hg8 (.inr fun e => by have := hown _ e; omega)
          have hW8 : Wd W8 3 1 (.slice a5 x.length x.length) x.length (x.map (Value.int .i64)) := ((hW5.grown hg6 (fun b e e2 => by have := hown b e; have := Option.some.inj e2; omega)).grown hg7 (fun b e e2 => by have := hown b e; have := Option.some.inj e2; omega)).grown hg8 (fun b e e2 => by have := hown b e; have := Option.some.inj e2; omega)
          have hxw8 : Ex w W8 := ((hxw5.store hg6 (by omega)).store hg7 (by omega)).store hg8 (by omega)
          repeat (first | (refine isC ?_; refine c_ret ?_) | (first | refine l_th ?_ | refine ib_ret ?_))
          refine ⟨⟨⟨x, _, a5, hx, hb, hA68, hA78, hA88, ⟨rfl, hW8⟩, fun b e => by have := hown b e; omega, hI8, hxw8⟩, ?_⟩, ?_⟩
          · exact ((Kb.ex hxr5).trans (Kb.store hg6 (by omega))).trans ((Kb.store hg7 (by omega)).trans (Kb.store hg8 (by omega)))
          · exact ((Kb.ex hxW5).trans (Kb.store hg6 (by omega))).trans ((Kb.store hg7 (by omega)).trans (Kb.store hg8 (by omega)))
        · refine d_re (v' := .bool false) (vbool (hfe.trans hb)) ?_
          refine d_nil ?_
          repeat (first | (refine isC ?_; first | refine c_iff rfl ?_ | refine c_skip ?_) | (refine ib_norm ?_))
          exact ⟨hxd3, fun y hy => by rw [hx] at hy; cases hy; exact hb⟩
      · intro D W6 hD hx6 hG6 hK6
        have hmk6 : Marks (D :: Ds) W6 := fun E hE => by
          rcases List.mem_cons.1 hE with rfl | hE
          · exact hK6
          · exact (hmk.ex (hxWr.trans hx6)) E hE
        have z5 := hxWr.size
        have z6 := hx6.size
        have hlt6 := (Array.getElem?_eq_some_iff.1 hK6).1
        have hfu : fewUp R nn sl many = none := find_none hG6
        have hft' := fewTo_none hft hfu
        repeat (first | (refine isO ?_; first | refine s_move ?_ | (refine isBin ?_; refine s_inc rfl (by omega) ?_)) | (refine isC ?_; refine c_region ?_) | (refine l_th ?_))
        refine loop_endD (many + 1) (D :: Ds) (by (repeat (first | exact agree_refl _ _ | refine agree_upd rfl ?_ | refine agree_ext rfl ?_ | refine agree_mask rfl ?_))) ⟨rfl, trivial⟩ ⟨hmany', hx0r.trans hx6, hft', hmk6, List.nodup_cons.2 ⟨fun hmm => by have := (hDs D hmm).2; omega, hnd⟩, fun E hE => ?_⟩ (by omega)
        rcases List.mem_cons.1 hE with rfl | hE
        · omega
        · have := hDs E hE; omega
      · intro D i W6 hD hi hG6 hJ6 hKb hK6
        have hlt6 := (Array.getElem?_eq_some_iff.1 hK6).1
        have z5 := hxWr.size
        have hmk6 : Marks (D :: Ds) W6 := fun E hE => by
          rcases List.mem_cons.1 hE with rfl | hE
          · exact hK6
          · have h9 := hDs E hE
            exact (hJ6.2.2 E h9.1 (by omega)).trans ((hmk.ex hxWr) E hE)
        have hB6 : ∀ E ∈ D :: Ds, w.heap.size ≤ E := fun E hE => by
          rcases List.mem_cons.1 hE with rfl | hE
          · omega
          · have := (hDs E hE).1; omega
        refine Exists.elim hJ6.1 fun x hJ => Exists.elim hJ fun v hJ => Exists.elim hJ fun a hJ => ?_
        have j1 := hJ.1
        have j2 := hJ.2.1
        have j3 := hJ.2.2.1
        have j4 := hJ.2.2.2.1
        have j5 := hJ.2.2.2.2.1
        have j6 := hJ.2.2.2.2.2.1
        have j7 := hJ.2.2.2.2.2.2.1
        have j8 := hJ.2.2.2.2.2.2.2.1
        have j9 := hJ.2.2.2.2.2.2.2.2
        have hfu : fewUp R nn sl many = some x := find_at j1 j2 hG6
        have hfin := fewTo_some hft hfu (nn + 1) hmany'
        repeat (first | refine th_ret ?_ | refine ib_ret ?_)
        exact ret3d (Ds := D :: Ds) (va := v) (vb := .bool true) (vc := .int .i64 0) rfl rfl rfl rfl ty_ints ty_bl ty_err (by rw [j3.cell]; rfl) (by rw [j4.cell]; rfl) (by rw [j5.cell]; rfl) (List.nodup_cons.2 ⟨fun hmm => by have := (hDs D hmm).2; omega, hnd⟩) hmk6
          (fun w' hp => ⟨PD.ex j9 hp hB6, .inr ⟨x, v, hfr.trans hfin, rfl, ⟨j6.2.kc hp.2.2.2.2.2, j7⟩, hp.2.2.2.2.2.ints j8⟩⟩)
    · have hme : many = nn + 1 := by omega
      rw [hme] at hft
      repeat ((refine isC ?_; first | refine c_sr ?_ | refine c_exit ?_))
      refine s_stA (n := 0) (u := .slice none 0 0) ty_ints rfl rfl rfl hA6W (by simp) ?_
      intro wa hAa hga
      refine s_stA (n := 0) (u := .bool false) ty_bl rfl rfl rfl (hA7W.grown hga (fun e => by have := Option.some.inj e; omega)) (by simp) ?_
      intro wb hAb hgb
      refine s_stA (n := 0) (u := .int .i64 0) ty_err rfl rfl rfl ((hA8W.grown hga (fun e => by have := Option.some.inj e; omega)).grown hgb (fun e => by have := Option.some.inj e; omega)) (by simp) ?_
      intro wc hAc hgc
      have hA6c := (hAa.grown hgb (fun e => by have := Option.some.inj e; omega)).grown hgc (fun e => by have := Option.some.inj e; omega)
      have hA7c := hAb.grown hgc (fun e => by have := Option.some.inj e; omega)
      have hmkc : Marks Ds wc := fun E hE => by
        have h9 := hDs E hE
        exact mark_gr (mark_gr (mark_gr (hmk E hE) hA6W hga) (hA7W.grown hga (fun e => by have := Option.some.inj e; omega)) hgb) ((hA8W.grown hga (fun e => by have := Option.some.inj e; omega)).grown hgb (fun e => by have := Option.some.inj e; omega)) hgc
      repeat (first | (refine isC ?_; refine c_ret ?_) | (refine l_th ?_))
      exact ret3d (Ds := Ds) (va := .slice none 0 0) (vb := .bool false) (vc := .int .i64 0) rfl rfl rfl rfl ty_ints ty_bl ty_err (by rw [hA6c.cell]; rfl) (by rw [hA7c.cell]; rfl) (by rw [hAc.cell]; rfl) hnd hmkc (fun w' hp => ⟨PD.ex (((hx0W.store hga (by omega)).store hgb (by omega)).store hgc (by omega)) hp (fun D hD => by have := (hDs D hD).1; omega), .inl ⟨hfr.trans hft, rfl⟩⟩)
end Go.Proofs.YtifbgpkjbciblaaGreatDoor.Sal
/- salesroomlaw09.has, within, alive. -/
set_option maxRecDepth 100000
namespace Go.Proofs.YtifbgpkjbciblaaGreatDoor.Sal
open Go.RowKit
def wJ (R : Nat → Nat → Bool) (nn : Nat) (l : List Int) (p j : Nat) : Bool := !(((rowL nn (R p)).take j).any fun k => !l.contains k)
theorem wJ_succ {R : Nat → Nat → Bool} {nn : Nat} {l : List Int} {p j : Nat} (h : j < (rowL nn (R p)).length) : wJ R nn l p (j + 1) = (wJ R nn l p j && l.contains ((rowL nn (R p)).getD j 0)) := by
  unfold wJ
  rw [any_take_succ _ _ j 0 h]
  cases ((rowL nn (R p)).take j).any fun k => !l.contains k <;> simp
theorem wJ_all {R : Nat → Nat → Bool} {nn : Nat} {l : List Int} {p j : Nat} (h : ¬ j < (rowL nn (R p)).length) : wJ R nn l p j = wantB R nn l p := by
  unfold wJ wantB
  rw [List.take_of_length_le (by omega)]
attribute [local irreducible] Go.Code.wpIn Go.wpListIn Ct Ints Rows Sl At Rw WJ
set_option linter.all false
end Go.Proofs.YtifbgpkjbciblaaGreatDoor.Sal
/- Plain: the best of all sets of items, one behind the other, is the first that is too few. -/
set_option maxRecDepth 100000
namespace Go.Proofs.YtifbgpkjbciblaaGreatDoor.Sal
set_option linter.all false
theorem lexB_trans : ∀ (a b c : List Int), lexB a b = true → lexB b c = true → lexB a c = true
  | [], _, _, h, _ => by simp [lexB] at h
  | _ :: _, [], _, h, _ => by simp [lexB] at h
  | _ :: _, _ :: _, [], _, h => by simp [lexB] at h
  | a :: x, b :: y, c :: z, h1, h2 => by
    simp only [lexB] at h1 h2 ⊢
    by_cases e1 : a = b
    · subst e1
      rw [if_pos rfl] at h1
      by_cases e2 : a = c
      · subst e2
        rw [if_pos rfl] at h2 ⊢
        exact lexB_trans x y z h1 h2
      · rw [if_neg e2] at h2 ⊢
        exact h2
    · rw [if_neg e1] at h1
      have h1' := of_decide_eq_true h1
      by_cases e2 : b = c
      · subst e2
        rw [if_neg e1]; exact h1
      · rw [if_neg e2] at h2
        have h2' := of_decide_eq_true h2
        rw [if_neg (by omega)]
        exact decide_eq_true (by omega)
theorem lexB_total : ∀ (a b : List Int), a.length = b.length → lexB a b = false → lexB b a = false → a = b
  | [], [], _, _, _ => rfl
  | [], _ :: _, h, _, _ => by simp at h
  | _ :: _, [], h, _, _ => by simp at h
  | a :: x, b :: y, h, h1, h2 => by
    simp only [lexB] at h1 h2
    by_cases e : a = b
    · subst e
      rw [if_pos rfl] at h1 h2
      rw [lexB_total x y (by simpa using h) h1 h2]
    · rw [if_neg e] at h1
      rw [if_neg (fun e2 => e e2.symm)] at h2
      have h1' := of_decide_eq_false h1
      have h2' := of_decide_eq_false h2
      omega
/-- Does one set stand ahead of another: fewer, or as many and first? -/
def lt9 (a b : List Int) : Prop := a.length < b.length ∨ (a.length = b.length ∧ lexB a b = true)
theorem lt9_trans {a b c : List Int} (h1 : lt9 a b) (h2 : lt9 b c) : lt9 a c := by
  rcases h1 with h1 | ⟨h1, l1⟩ <;> rcases h2 with h2 | ⟨h2, l2⟩
  · exact .inl (by omega)
  · exact .inl (by omega)
  · exact .inl (by omega)
  · exact .inr ⟨by omega, lexB_trans _ _ _ l1 l2⟩
theorem lt9_self (a : List Int) : ¬ lt9 a a := fun h => by
  rcases h with h | ⟨_, h⟩
  · omega
  · rw [lexB_self] at h; cases h
def setN9 (nn x : Nat) : List Int := rowL nn (fun i => x.testBit i)
/-- The best of the first sets: none, or one that is too few and has none ahead of it among them. -/
def Best9 (R : Nat → Nat → Bool) (nn : Nat) (sl : List Int) (x : Nat) : Option (List Int) → Prop
  | none => ∀ y, y < x → fewB R nn sl (setN9 nn y) = false
  | some b => (∃ y, y < x ∧ b = setN9 nn y) ∧ fewB R nn sl b = true ∧ ∀ y, y < x → fewB R nn sl (setN9 nn y) = true → ¬ lt9 (setN9 nn y) b
section
variable {R : Nat → Nat → Bool} {m nn : Nat} {sl : List Int} {x : Nat}
theorem Best9.zero : Best9 R nn sl 0 none := fun y h => by omega
theorem Best9.no {o : Option (List Int)} (h : Best9 R nn sl x o) (hb : fewB R nn sl (setN9 nn x) = false) : Best9 R nn sl (x + 1) o := by
  cases o with
  | none =>
    intro y hy
    by_cases e : y = x
    · subst e; exact hb
    · exact h y (by omega)
  | some b =>
    obtain ⟨⟨y, hy, he⟩, h2, h3⟩ := h
    refine ⟨⟨y, by omega, he⟩, h2, fun z hz hf => ?_⟩
    by_cases e : z = x
    · subst e; rw [hb] at hf; cases hf
    · exact h3 z (by omega) hf
theorem Best9.first (h : Best9 R nn sl x none) (hb : fewB R nn sl (setN9 nn x) = true) : Best9 R nn sl (x + 1) (some (setN9 nn x)) := by
  refine ⟨⟨x, by omega, rfl⟩, hb, fun z hz hf => ?_⟩
  by_cases e : z = x
  · subst e; exact lt9_self _
  · rw [h z (by omega)] at hf; cases hf
theorem Best9.more {b : List Int} (h : Best9 R nn sl x (some b)) (hb : fewB R nn sl (setN9 nn x) = true) (hl : lt9 (setN9 nn x) b) : Best9 R nn sl (x + 1) (some (setN9 nn x)) := by
  obtain ⟨_, _, h3⟩ := h
  refine ⟨⟨x, by omega, rfl⟩, hb, fun z hz hf hlt => ?_⟩
  by_cases e : z = x
  · subst e; exact lt9_self _ hlt
  · exact h3 z (by omega) hf (lt9_trans hlt hl)
theorem Best9.keep {b : List Int} (h : Best9 R nn sl x (some b)) (hl : ¬ lt9 (setN9 nn x) b) : Best9 R nn sl (x + 1) (some b) := by
  obtain ⟨⟨y, hy, he⟩, h2, h3⟩ := h
  refine ⟨⟨y, by omega, he⟩, h2, fun z hz hf => ?_⟩
  by_cases e : z = x
  · subst e; exact hl
  · exact h3 z (by omega) hf
theorem set_of {l : List Int} (h : risB (-1) l (nn : Int) = true) : ∃ x, x < 2 ^ nn ∧ l = setN9 nn x := by
  obtain ⟨x, hx, hb⟩ := bits_ex nn (fun k => l.contains (k : Int))
  refine ⟨x, hx, ?_⟩
  rw [ris_rowL h]
  unfold setN9 rowL rowN
  congr 1
  apply List.filter_congr
  intro k hk
  rw [hb k (List.mem_range.1 hk)]
theorem set_ris (hn : nn ≤ 8) (x : Nat) : risB (-1) (setN9 nn x) (nn : Int) = true := ris_of hn _
theorem best9_few (hn : nn ≤ 8) (hs : risB (-1) sl (m : Int) = true) {o : Option (List Int)} (h : Best9 R nn sl (2 ^ nn) o) : fewR R m nn sl = o := by
  rw [fewR_eq hn hs]
  cases hf : fewTo R nn sl (nn + 1) with
  | none =>
    cases o with
    | none => rfl
    | some b =>
      obtain ⟨⟨y, hy, he⟩, h2, _⟩ := h
      have := few_all hf (x := b) (by rw [he]; exact set_ris hn y)
      rw [h2] at this; cases this
  | some l =>
    obtain ⟨l1, l2, l3, l4⟩ := fewTo_first hf
    obtain ⟨z, hz, hlz⟩ := set_of l1
    cases o with
    | none =>
      have := h z hz
      rw [← hlz, l2] at this; cases this
    | some b =>
      obtain ⟨⟨y, hy, he⟩, h2, h3⟩ := h
      have hrb : risB (-1) b (nn : Int) = true := by rw [he]; exact set_ris hn y
      have h4 := h3 z hz (by rw [← hlz]; exact l2)
      rw [← hlz] at h4
      have h5 : ¬ lt9 b l := fun hh => by
        rcases hh with hh | ⟨hh, hl⟩
        · rw [l3 b hrb hh] at h2; cases h2
        · rw [l4 b hrb hh hl] at h2; cases h2
      have hlen : l.length = b.length := by
        unfold lt9 at h4 h5; omega
      have e1 : lexB l b = false := by
        cases hh : lexB l b with
        | false => rfl
        | true => exact absurd (.inr ⟨hlen, hh⟩) h4
      have e2 : lexB b l = false := by
        cases hh : lexB b l with
        | false => rfl
        | true => exact absurd (.inr ⟨hlen.symm, hh⟩) h5
      rw [lexB_total l b hlen e1 e2]
end
/-- Of two lists from some place on. -/
theorem lex_drop {a b : List Int} {i : Nat} (ha : i < a.length) (hb : i < b.length) : lexB (a.drop i) (b.drop i) = if a.getD i 0 = b.getD i 0 then lexB (a.drop (i + 1)) (b.drop (i + 1)) else decide (a.getD i 0 < b.getD i 0) := by
  rw [List.drop_eq_getElem_cons ha, List.drop_eq_getElem_cons hb]
  simp only [lexB]
  simp [List.getD_eq_getElem?_getD, ha, hb]
theorem setN9_len (nn x : Nat) : (setN9 nn x).length ≤ nn := by
  unfold setN9; rw [rowL_len]; exact rowN_le _ _
end Go.Proofs.YtifbgpkjbciblaaGreatDoor.Sal
