/- Texts that YtifbgpkjbciblaaDoorFWO leans on, laid together: BK6 GM1 G3 TW2 G4 G6 G7 G8 G9 BO1 M10 BO2. -/
import Derived.Test.YtifbgpkjbciblaaDoorMFWO5
import Derived.Test.YtifbgpkjbciblaaDoorMFWO3
import Derived.Test.YtifbgpkjbciblaaDoorMFWO2
import Derived.Test.YtifbgpkjbciblaaDoorMFWO4
section
/- The Book of salesroomlaw01: the kinds that lie empty; Apart. -/
set_option maxRecDepth 100000
namespace Go.Proofs.YtifbgpkjbciblaaDoor.Sal
open Go.RowKit
attribute [local irreducible] Go.Code.wpIn Go.wpListIn Ct Ints Rows Sl At Rw WJ
attribute [local irreducible] Wd
set_option linter.all false
theorem ty_eByte : Ty1 Tryd.prog 35 := ⟨let ⟨i, h, _, hs, _⟩ := info_parts (show (Tryd.prog.info? 35).map (fun i => (i.zero, i.size, i.bytes)) = some (some (.slice none 0 0), 1, 24) by kernel_rfl); ⟨i, h, hs⟩, _, Tryd.underlying35, rfl⟩
theorem sl_eByte : SlT Tryd.prog 35 70 := Tryd.underlying35
theorem ok_fillByte : CallOK Tryd.prog 26 := callOK Tryd.func26 (by kernel_rfl) rfl
theorem fillByte_ct (bk M : Nat) (vi vl : Value) (w : World) (hA : At w bk 45 (bkc M vi vl)) : Ct Tryd.prog 26 #[.pointer (some ⟨bk, 0, none⟩)] w fun u w' => u = .tuple #[] ∧ Ex w w' := by
  refine enter (N := 35) (vs := [.pointer (some ⟨bk, 0, none⟩)]) Tryd.func26 rfl rfl rfl ?_
  repeat (first | (refine isO ?_; refine s_assign ?_) | (refine isC ?_; first | refine c_sr ?_ | refine c_block ?_) | (refine l_th ?_))
  refine c_loop (γ := Unit) 34359738364 (fun _ => [(2, .int .i64 0)]) (fun _ W => Ex w W) (fun _ => 0) () ⟨rfl, trivial⟩ (Ex.refl _) ?_
  rintro _ ρ W hx
  repeat (first | (refine isO ?_; refine s_move ?_) | (refine isC ?_; first | refine c_sr ?_ | refine c_seq ?_))
  refine s_nil rfl ?_
  refine s_faN Tryd.underlying45 rfl ty_eByte.n rfl ?_
  refine s_ldA ty_eByte rfl (hA.ex hx) rfl ?_
  refine s_len (n := 0) (a := none) (c := 0) sl_eByte rfl ?_
  refine s_lssF rfl rfl (by omega) ?_
  repeat (first | (refine isC ?_; first | refine c_iff rfl ?_ | refine c_exit ?_) | (first | refine l_th ?_ | refine ib_exit ?_ | refine th_exit ?_))
  exact end0 rfl ⟨rfl, hx⟩
theorem ok_growByte : CallOK Tryd.prog 35 := callOK Tryd.func35 (by kernel_rfl) rfl
theorem growByte_ct (bk M : Nat) (vi vl : Value) (w : World) (hA : At w bk 45 (bkc M vi vl)) : Ct Tryd.prog 35 #[.pointer (some ⟨bk, 0, none⟩)] w fun u w' => u = .tuple #[] ∧ Ex w w' := by
  refine enter (N := 42) (vs := [.pointer (some ⟨bk, 0, none⟩)]) Tryd.func35 rfl rfl rfl ?_
  repeat (first | (refine isO ?_; refine s_assign ?_) | (refine isC ?_; first | refine c_sr ?_ | refine c_block ?_) | (refine l_th ?_))
  refine c_loop (γ := Unit) 4398046511100 (fun _ => [(2, .int .i64 0)]) (fun _ W => Ex w W) (fun _ => 0) () ⟨rfl, trivial⟩ (Ex.refl _) ?_
  rintro _ ρ W hx
  repeat (first | (refine isO ?_; refine s_move ?_) | (refine isC ?_; first | refine c_sr ?_ | refine c_seq ?_))
  refine s_nil rfl ?_
  refine s_faN Tryd.underlying45 rfl ty_eByte.n rfl ?_
  refine s_ldA ty_eByte rfl (hA.ex hx) rfl ?_
  refine s_len (n := 0) (a := none) (c := 0) sl_eByte rfl ?_
  refine s_lssF rfl rfl (by omega) ?_
  repeat (first | (refine isC ?_; first | refine c_iff rfl ?_ | refine c_exit ?_) | (first | refine l_th ?_ | refine ib_exit ?_ | refine th_exit ?_))
  exact end0 rfl ⟨rfl, hx⟩
theorem ok_lookByte : CallOK Tryd.prog 44 := callOK Tryd.func44 (by kernel_rfl) rfl
theorem lookByte_ct (bk M : Nat) (vi vl : Value) (w : World) (hA : At w bk 45 (bkc M vi vl)) : Ct Tryd.prog 44 #[.pointer (some ⟨bk, 0, none⟩)] w fun u w' => u = .bool true ∧ Ex w w' := by
  refine enter (N := 64) (vs := [.pointer (some ⟨bk, 0, none⟩)]) Tryd.func44 rfl rfl rfl ?_
  repeat (first | (refine isO ?_; refine s_assign ?_) | (refine isC ?_; first | refine c_sr ?_ | refine c_seq ?_ | refine c_block ?_) | (refine l_th ?_))
  refine c_loop (γ := Unit) 18446744073709551612 (fun _ => [(3, .int .i64 0)]) (fun _ W => Ex w W) (fun _ => 0) () ⟨rfl, trivial⟩ (Ex.refl _) ?_
  rintro _ ρ W hx
  repeat (first | (refine isO ?_; refine s_move ?_) | (refine isC ?_; first | refine c_sr ?_ | refine c_seq ?_))
  refine s_nil rfl ?_
  refine s_faN Tryd.underlying45 rfl ty_eByte.n rfl ?_
  refine s_ldA ty_eByte rfl (hA.ex hx) rfl ?_
  refine s_len (n := 0) (a := none) (c := 0) sl_eByte rfl ?_
  refine s_lssF rfl rfl (by omega) ?_
  repeat (first | (refine isO ?_; refine s_assign ?_) | (refine isC ?_; first | refine c_sr ?_ | refine c_iff rfl ?_ | refine c_ret ?_ | refine c_exit ?_) | (refine l_th ?_))
  exact ret1 rfl rfl ⟨rfl, hx⟩
theorem ty_eText : Ty1 Tryd.prog 37 := ⟨let ⟨i, h, _, hs, _⟩ := info_parts (show (Tryd.prog.info? 37).map (fun i => (i.zero, i.size, i.bytes)) = some (some (.slice none 0 0), 1, 24) by kernel_rfl); ⟨i, h, hs⟩, _, Tryd.underlying37, rfl⟩
theorem sl_eText : SlT Tryd.prog 37 75 := Tryd.underlying37
theorem ok_fillText : CallOK Tryd.prog 28 := callOK Tryd.func28 (by kernel_rfl) rfl
theorem fillText_ct (bk M : Nat) (vi vl : Value) (w : World) (hA : At w bk 45 (bkc M vi vl)) : Ct Tryd.prog 28 #[.pointer (some ⟨bk, 0, none⟩)] w fun u w' => u = .tuple #[] ∧ Ex w w' := by
  refine enter (N := 35) (vs := [.pointer (some ⟨bk, 0, none⟩)]) Tryd.func28 rfl rfl rfl ?_
  repeat (first | (refine isO ?_; refine s_assign ?_) | (refine isC ?_; first | refine c_sr ?_ | refine c_block ?_) | (refine l_th ?_))
  refine c_loop (γ := Unit) 34359738364 (fun _ => [(2, .int .i64 0)]) (fun _ W => Ex w W) (fun _ => 0) () ⟨rfl, trivial⟩ (Ex.refl _) ?_
  rintro _ ρ W hx
  repeat (first | (refine isO ?_; refine s_move ?_) | (refine isC ?_; first | refine c_sr ?_ | refine c_seq ?_))
  refine s_nil rfl ?_
  refine s_faN Tryd.underlying45 rfl ty_eText.n rfl ?_
  refine s_ldA ty_eText rfl (hA.ex hx) rfl ?_
  refine s_len (n := 0) (a := none) (c := 0) sl_eText rfl ?_
  refine s_lssF rfl rfl (by omega) ?_
  repeat (first | (refine isC ?_; first | refine c_iff rfl ?_ | refine c_exit ?_) | (first | refine l_th ?_ | refine ib_exit ?_ | refine th_exit ?_))
  exact end0 rfl ⟨rfl, hx⟩
theorem ok_growText : CallOK Tryd.prog 37 := callOK Tryd.func37 (by kernel_rfl) rfl
theorem growText_ct (bk M : Nat) (vi vl : Value) (w : World) (hA : At w bk 45 (bkc M vi vl)) : Ct Tryd.prog 37 #[.pointer (some ⟨bk, 0, none⟩)] w fun u w' => u = .tuple #[] ∧ Ex w w' := by
  refine enter (N := 42) (vs := [.pointer (some ⟨bk, 0, none⟩)]) Tryd.func37 rfl rfl rfl ?_
  repeat (first | (refine isO ?_; refine s_assign ?_) | (refine isC ?_; first | refine c_sr ?_ | refine c_block ?_) | (refine l_th ?_))
  refine c_loop (γ := Unit) 4398046511100 (fun _ => [(2, .int .i64 0)]) (fun _ W => Ex w W) (fun _ => 0) () ⟨rfl, trivial⟩ (Ex.refl _) ?_
  rintro _ ρ W hx
  repeat (first | (refine isO ?_; refine s_move ?_) | (refine isC ?_; first | refine c_sr ?_ | refine c_seq ?_))
  refine s_nil rfl ?_
  refine s_faN Tryd.underlying45 rfl ty_eText.n rfl ?_
  refine s_ldA ty_eText rfl (hA.ex hx) rfl ?_
  refine s_len (n := 0) (a := none) (c := 0) sl_eText rfl ?_
  refine s_lssF rfl rfl (by omega) ?_
  repeat (first | (refine isC ?_; first | refine c_iff rfl ?_ | refine c_exit ?_) | (first | refine l_th ?_ | refine ib_exit ?_ | refine th_exit ?_))
  exact end0 rfl ⟨rfl, hx⟩
theorem ok_lookText : CallOK Tryd.prog 46 := callOK Tryd.func46 (by kernel_rfl) rfl
theorem lookText_ct (bk M : Nat) (vi vl : Value) (w : World) (hA : At w bk 45 (bkc M vi vl)) : Ct Tryd.prog 46 #[.pointer (some ⟨bk, 0, none⟩)] w fun u w' => u = .bool true ∧ Ex w w' := by
  refine enter (N := 64) (vs := [.pointer (some ⟨bk, 0, none⟩)]) Tryd.func46 rfl rfl rfl ?_
  repeat (first | (refine isO ?_; refine s_assign ?_) | (refine isC ?_; first | refine c_sr ?_ | refine c_seq ?_ | refine c_block ?_) | (refine l_th ?_))
  refine c_loop (γ := Unit) 18446744073709551612 (fun _ => [(3, .int .i64 0)]) (fun _ W => Ex w W) (fun _ => 0) () ⟨rfl, trivial⟩ (Ex.refl _) ?_
  rintro _ ρ W hx
  repeat (first | (refine isO ?_; refine s_move ?_) | (refine isC ?_; first | refine c_sr ?_ | refine c_seq ?_))
  refine s_nil rfl ?_
  refine s_faN Tryd.underlying45 rfl ty_eText.n rfl ?_
  refine s_ldA ty_eText rfl (hA.ex hx) rfl ?_
  refine s_len (n := 0) (a := none) (c := 0) sl_eText rfl ?_
  refine s_lssF rfl rfl (by omega) ?_
  repeat (first | (refine isO ?_; refine s_assign ?_) | (refine isC ?_; first | refine c_sr ?_ | refine c_iff rfl ?_ | refine c_ret ?_ | refine c_exit ?_) | (refine l_th ?_))
  exact ret1 rfl rfl ⟨rfl, hx⟩
theorem ty_eByteList : Ty1 Tryd.prog 39 := ⟨let ⟨i, h, _, hs, _⟩ := info_parts (show (Tryd.prog.info? 39).map (fun i => (i.zero, i.size, i.bytes)) = some (some (.slice none 0 0), 1, 24) by kernel_rfl); ⟨i, h, hs⟩, _, Tryd.underlying39, rfl⟩
theorem sl_eByteList : SlT Tryd.prog 39 80 := Tryd.underlying39
theorem ok_fillByteList : CallOK Tryd.prog 30 := callOK Tryd.func30 (by kernel_rfl) rfl
theorem fillByteList_ct (bk M : Nat) (vi vl : Value) (w : World) (hA : At w bk 45 (bkc M vi vl)) : Ct Tryd.prog 30 #[.pointer (some ⟨bk, 0, none⟩)] w fun u w' => u = .tuple #[] ∧ Ex w w' := by
  refine enter (N := 35) (vs := [.pointer (some ⟨bk, 0, none⟩)]) Tryd.func30 rfl rfl rfl ?_
  repeat (first | (refine isO ?_; refine s_assign ?_) | (refine isC ?_; first | refine c_sr ?_ | refine c_block ?_) | (refine l_th ?_))
  refine c_loop (γ := Unit) 34359738364 (fun _ => [(2, .int .i64 0)]) (fun _ W => Ex w W) (fun _ => 0) () ⟨rfl, trivial⟩ (Ex.refl _) ?_
  rintro _ ρ W hx
  repeat (first | (refine isO ?_; refine s_move ?_) | (refine isC ?_; first | refine c_sr ?_ | refine c_seq ?_))
  refine s_nil rfl ?_
  refine s_faN Tryd.underlying45 rfl ty_eByteList.n rfl ?_
  refine s_ldA ty_eByteList rfl (hA.ex hx) rfl ?_
  refine s_len (n := 0) (a := none) (c := 0) sl_eByteList rfl ?_
  refine s_lssF rfl rfl (by omega) ?_
  repeat (first | (refine isC ?_; first | refine c_iff rfl ?_ | refine c_exit ?_) | (first | refine l_th ?_ | refine ib_exit ?_ | refine th_exit ?_))
  exact end0 rfl ⟨rfl, hx⟩
theorem ok_growByteList : CallOK Tryd.prog 39 := callOK Tryd.func39 (by kernel_rfl) rfl
theorem growByteList_ct (bk M : Nat) (vi vl : Value) (w : World) (hA : At w bk 45 (bkc M vi vl)) : Ct Tryd.prog 39 #[.pointer (some ⟨bk, 0, none⟩)] w fun u w' => u = .tuple #[] ∧ Ex w w' := by
  refine enter (N := 42) (vs := [.pointer (some ⟨bk, 0, none⟩)]) Tryd.func39 rfl rfl rfl ?_
  repeat (first | (refine isO ?_; refine s_assign ?_) | (refine isC ?_; first | refine c_sr ?_ | refine c_block ?_) | (refine l_th ?_))
  refine c_loop (γ := Unit) 4398046511100 (fun _ => [(2, .int .i64 0)]) (fun _ W => Ex w W) (fun _ => 0) () ⟨rfl, trivial⟩ (Ex.refl _) ?_
  rintro _ ρ W hx
  repeat (first | (refine isO ?_; refine s_move ?_) | (refine isC ?_; first | refine c_sr ?_ | refine c_seq ?_))
  refine s_nil rfl ?_
  refine s_faN Tryd.underlying45 rfl ty_eByteList.n rfl ?_
  refine s_ldA ty_eByteList rfl (hA.ex hx) rfl ?_
  refine s_len (n := 0) (a := none) (c := 0) sl_eByteList rfl ?_
  refine s_lssF rfl rfl (by omega) ?_
  repeat (first | (refine isC ?_; first | refine c_iff rfl ?_ | refine c_exit ?_) | (first | refine l_th ?_ | refine ib_exit ?_ | refine th_exit ?_))
  exact end0 rfl ⟨rfl, hx⟩
theorem ok_lookByteList : CallOK Tryd.prog 48 := callOK Tryd.func48 (by kernel_rfl) rfl
theorem lookByteList_ct (bk M : Nat) (vi vl : Value) (w : World) (hA : At w bk 45 (bkc M vi vl)) : Ct Tryd.prog 48 #[.pointer (some ⟨bk, 0, none⟩)] w fun u w' => u = .bool true ∧ Ex w w' := by
  refine enter (N := 64) (vs := [.pointer (some ⟨bk, 0, none⟩)]) Tryd.func48 rfl rfl rfl ?_
  repeat (first | (refine isO ?_; refine s_assign ?_) | (refine isC ?_; first | refine c_sr ?_ | refine c_seq ?_ | refine c_block ?_) | (refine l_th ?_))
  refine c_loop (γ := Unit) 18446744073709551612 (fun _ => [(3, .int .i64 0)]) (fun _ W => Ex w W) (fun _ => 0) () ⟨rfl, trivial⟩ (Ex.refl _) ?_
  rintro _ ρ W hx
  repeat (first | (refine isO ?_; refine s_move ?_) | (refine isC ?_; first | refine c_sr ?_ | refine c_seq ?_))
  refine s_nil rfl ?_
  refine s_faN Tryd.underlying45 rfl ty_eByteList.n rfl ?_
  refine s_ldA ty_eByteList rfl (hA.ex hx) rfl ?_
  refine s_len (n := 0) (a := none) (c := 0) sl_eByteList rfl ?_
  refine s_lssF rfl rfl (by omega) ?_
  repeat (first | (refine isO ?_; refine s_assign ?_) | (refine isC ?_; first | refine c_sr ?_ | refine c_iff rfl ?_ | refine c_ret ?_ | refine c_exit ?_) | (refine l_th ?_))
  exact ret1 rfl rfl ⟨rfl, hx⟩
theorem ty_eWhy : Ty1 Tryd.prog 40 := ⟨let ⟨i, h, _, hs, _⟩ := info_parts (show (Tryd.prog.info? 40).map (fun i => (i.zero, i.size, i.bytes)) = some (some (.slice none 0 0), 1, 24) by kernel_rfl); ⟨i, h, hs⟩, _, Tryd.underlying40, rfl⟩
theorem sl_eWhy : SlT Tryd.prog 40 84 := Tryd.underlying40
theorem ok_fillWhy : CallOK Tryd.prog 31 := callOK Tryd.func31 (by kernel_rfl) rfl
theorem fillWhy_ct (bk M : Nat) (vi vl : Value) (w : World) (hA : At w bk 45 (bkc M vi vl)) : Ct Tryd.prog 31 #[.pointer (some ⟨bk, 0, none⟩)] w fun u w' => u = .tuple #[] ∧ Ex w w' := by
  refine enter (N := 35) (vs := [.pointer (some ⟨bk, 0, none⟩)]) Tryd.func31 rfl rfl rfl ?_
  repeat (first | (refine isO ?_; refine s_assign ?_) | (refine isC ?_; first | refine c_sr ?_ | refine c_block ?_) | (refine l_th ?_))
  refine c_loop (γ := Unit) 34359738364 (fun _ => [(2, .int .i64 0)]) (fun _ W => Ex w W) (fun _ => 0) () ⟨rfl, trivial⟩ (Ex.refl _) ?_
  rintro _ ρ W hx
  repeat (first | (refine isO ?_; refine s_move ?_) | (refine isC ?_; first | refine c_sr ?_ | refine c_seq ?_))
  refine s_nil rfl ?_
  refine s_faN Tryd.underlying45 rfl ty_eWhy.n rfl ?_
  refine s_ldA ty_eWhy rfl (hA.ex hx) rfl ?_
  refine s_len (n := 0) (a := none) (c := 0) sl_eWhy rfl ?_
  refine s_lssF rfl rfl (by omega) ?_
  repeat (first | (refine isC ?_; first | refine c_iff rfl ?_ | refine c_exit ?_) | (first | refine l_th ?_ | refine ib_exit ?_ | refine th_exit ?_))
  exact end0 rfl ⟨rfl, hx⟩
theorem ok_growWhy : CallOK Tryd.prog 40 := callOK Tryd.func40 (by kernel_rfl) rfl
theorem growWhy_ct (bk M : Nat) (vi vl : Value) (w : World) (hA : At w bk 45 (bkc M vi vl)) : Ct Tryd.prog 40 #[.pointer (some ⟨bk, 0, none⟩)] w fun u w' => u = .tuple #[] ∧ Ex w w' := by
  refine enter (N := 42) (vs := [.pointer (some ⟨bk, 0, none⟩)]) Tryd.func40 rfl rfl rfl ?_
  repeat (first | (refine isO ?_; refine s_assign ?_) | (refine isC ?_; first | refine c_sr ?_ | refine c_block ?_) | (refine l_th ?_))
  refine c_loop (γ := Unit) 4398046511100 (fun _ => [(2, .int .i64 0)]) (fun _ W => Ex w W) (fun _ => 0) () ⟨rfl, trivial⟩ (Ex.refl _) ?_
  rintro _ ρ W hx
  repeat (first | (refine isO ?_; refine s_move ?_) | (refine isC ?_; first | refine c_sr ?_ | refine c_seq ?_))
  refine s_nil rfl ?_
  refine s_faN Tryd.underlying45 rfl ty_eWhy.n rfl ?_
  refine s_ldA ty_eWhy rfl (hA.ex hx) rfl ?_
  refine s_len (n := 0) (a := none) (c := 0) sl_eWhy rfl ?_
  refine s_lssF rfl rfl (by omega) ?_
  repeat (first | (refine isC ?_; first | refine c_iff rfl ?_ | refine c_exit ?_) | (first | refine l_th ?_ | refine ib_exit ?_ | refine th_exit ?_))
  exact end0 rfl ⟨rfl, hx⟩
theorem ok_lookWhy : CallOK Tryd.prog 49 := callOK Tryd.func49 (by kernel_rfl) rfl
theorem lookWhy_ct (bk M : Nat) (vi vl : Value) (w : World) (hA : At w bk 45 (bkc M vi vl)) : Ct Tryd.prog 49 #[.pointer (some ⟨bk, 0, none⟩)] w fun u w' => u = .bool true ∧ Ex w w' := by
  refine enter (N := 64) (vs := [.pointer (some ⟨bk, 0, none⟩)]) Tryd.func49 rfl rfl rfl ?_
  repeat (first | (refine isO ?_; refine s_assign ?_) | (refine isC ?_; first | refine c_sr ?_ | refine c_seq ?_ | refine c_block ?_) | (refine l_th ?_))
  refine c_loop (γ := Unit) 18446744073709551612 (fun _ => [(3, .int .i64 0)]) (fun _ W => Ex w W) (fun _ => 0) () ⟨rfl, trivial⟩ (Ex.refl _) ?_
  rintro _ ρ W hx
  repeat (first | (refine isO ?_; refine s_move ?_) | (refine isC ?_; first | refine c_sr ?_ | refine c_seq ?_))
  refine s_nil rfl ?_
  refine s_faN Tryd.underlying45 rfl ty_eWhy.n rfl ?_
  refine s_ldA ty_eWhy rfl (hA.ex hx) rfl ?_
  refine s_len (n := 0) (a := none) (c := 0) sl_eWhy rfl ?_
  refine s_lssF rfl rfl (by omega) ?_
  repeat (first | (refine isO ?_; refine s_assign ?_) | (refine isC ?_; first | refine c_sr ?_ | refine c_iff rfl ?_ | refine c_ret ?_ | refine c_exit ?_) | (refine l_th ?_))
  exact ret1 rfl rfl ⟨rfl, hx⟩
theorem ty_eFrame : Ty1 Tryd.prog 41 := ⟨let ⟨i, h, _, hs, _⟩ := info_parts (show (Tryd.prog.info? 41).map (fun i => (i.zero, i.size, i.bytes)) = some (some (.slice none 0 0), 1, 24) by kernel_rfl); ⟨i, h, hs⟩, _, Tryd.underlying41, rfl⟩
theorem sl_eFrame : SlT Tryd.prog 41 90 := Tryd.underlying41
theorem ok_fillFrame : CallOK Tryd.prog 32 := callOK Tryd.func32 (by kernel_rfl) rfl
theorem fillFrame_ct (bk M : Nat) (vi vl : Value) (w : World) (hA : At w bk 45 (bkc M vi vl)) : Ct Tryd.prog 32 #[.pointer (some ⟨bk, 0, none⟩)] w fun u w' => u = .tuple #[] ∧ Ex w w' := by
  refine enter (N := 35) (vs := [.pointer (some ⟨bk, 0, none⟩)]) Tryd.func32 rfl rfl rfl ?_
  repeat (first | (refine isO ?_; refine s_assign ?_) | (refine isC ?_; first | refine c_sr ?_ | refine c_block ?_) | (refine l_th ?_))
  refine c_loop (γ := Unit) 34359738364 (fun _ => [(2, .int .i64 0)]) (fun _ W => Ex w W) (fun _ => 0) () ⟨rfl, trivial⟩ (Ex.refl _) ?_
  rintro _ ρ W hx
  repeat (first | (refine isO ?_; refine s_move ?_) | (refine isC ?_; first | refine c_sr ?_ | refine c_seq ?_))
  refine s_nil rfl ?_
  refine s_faN Tryd.underlying45 rfl ty_eFrame.n rfl ?_
  refine s_ldA ty_eFrame rfl (hA.ex hx) rfl ?_
  refine s_len (n := 0) (a := none) (c := 0) sl_eFrame rfl ?_
  refine s_lssF rfl rfl (by omega) ?_
  repeat (first | (refine isC ?_; first | refine c_iff rfl ?_ | refine c_exit ?_) | (first | refine l_th ?_ | refine ib_exit ?_ | refine th_exit ?_))
  exact end0 rfl ⟨rfl, hx⟩
theorem ok_growFrame : CallOK Tryd.prog 41 := callOK Tryd.func41 (by kernel_rfl) rfl
theorem growFrame_ct (bk M : Nat) (vi vl : Value) (w : World) (hA : At w bk 45 (bkc M vi vl)) : Ct Tryd.prog 41 #[.pointer (some ⟨bk, 0, none⟩)] w fun u w' => u = .tuple #[] ∧ Ex w w' := by
  refine enter (N := 42) (vs := [.pointer (some ⟨bk, 0, none⟩)]) Tryd.func41 rfl rfl rfl ?_
  repeat (first | (refine isO ?_; refine s_assign ?_) | (refine isC ?_; first | refine c_sr ?_ | refine c_block ?_) | (refine l_th ?_))
  refine c_loop (γ := Unit) 4398046511100 (fun _ => [(2, .int .i64 0)]) (fun _ W => Ex w W) (fun _ => 0) () ⟨rfl, trivial⟩ (Ex.refl _) ?_
  rintro _ ρ W hx
  repeat (first | (refine isO ?_; refine s_move ?_) | (refine isC ?_; first | refine c_sr ?_ | refine c_seq ?_))
  refine s_nil rfl ?_
  refine s_faN Tryd.underlying45 rfl ty_eFrame.n rfl ?_
  refine s_ldA ty_eFrame rfl (hA.ex hx) rfl ?_
  refine s_len (n := 0) (a := none) (c := 0) sl_eFrame rfl ?_
  refine s_lssF rfl rfl (by omega) ?_
  repeat (first | (refine isC ?_; first | refine c_iff rfl ?_ | refine c_exit ?_) | (first | refine l_th ?_ | refine ib_exit ?_ | refine th_exit ?_))
  exact end0 rfl ⟨rfl, hx⟩
theorem ok_lookFrame : CallOK Tryd.prog 50 := callOK Tryd.func50 (by kernel_rfl) rfl
theorem lookFrame_ct (bk M : Nat) (vi vl : Value) (w : World) (hA : At w bk 45 (bkc M vi vl)) : Ct Tryd.prog 50 #[.pointer (some ⟨bk, 0, none⟩)] w fun u w' => u = .bool true ∧ Ex w w' := by
  refine enter (N := 64) (vs := [.pointer (some ⟨bk, 0, none⟩)]) Tryd.func50 rfl rfl rfl ?_
  repeat (first | (refine isO ?_; refine s_assign ?_) | (refine isC ?_; first | refine c_sr ?_ | refine c_seq ?_ | refine c_block ?_) | (refine l_th ?_))
  refine c_loop (γ := Unit) 18446744073709551612 (fun _ => [(3, .int .i64 0)]) (fun _ W => Ex w W) (fun _ => 0) () ⟨rfl, trivial⟩ (Ex.refl _) ?_
  rintro _ ρ W hx
  repeat (first | (refine isO ?_; refine s_move ?_) | (refine isC ?_; first | refine c_sr ?_ | refine c_seq ?_))
  refine s_nil rfl ?_
  refine s_faN Tryd.underlying45 rfl ty_eFrame.n rfl ?_
  refine s_ldA ty_eFrame rfl (hA.ex hx) rfl ?_
  refine s_len (n := 0) (a := none) (c := 0) sl_eFrame rfl ?_
  refine s_lssF rfl rfl (by omega) ?_
  repeat (first | (refine isO ?_; refine s_assign ?_) | (refine isC ?_; first | refine c_sr ?_ | refine c_iff rfl ?_ | refine c_ret ?_ | refine c_exit ?_) | (refine l_th ?_))
  exact ret1 rfl rfl ⟨rfl, hx⟩
theorem ty_eReply : Ty1 Tryd.prog 42 := ⟨let ⟨i, h, _, hs, _⟩ := info_parts (show (Tryd.prog.info? 42).map (fun i => (i.zero, i.size, i.bytes)) = some (some (.slice none 0 0), 1, 24) by kernel_rfl); ⟨i, h, hs⟩, _, Tryd.underlying42, rfl⟩
theorem sl_eReply : SlT Tryd.prog 42 99 := Tryd.underlying42
theorem ok_fillReply : CallOK Tryd.prog 33 := callOK Tryd.func33 (by kernel_rfl) rfl
theorem fillReply_ct (bk M : Nat) (vi vl : Value) (w : World) (hA : At w bk 45 (bkc M vi vl)) : Ct Tryd.prog 33 #[.pointer (some ⟨bk, 0, none⟩)] w fun u w' => u = .tuple #[] ∧ Ex w w' := by
  refine enter (N := 35) (vs := [.pointer (some ⟨bk, 0, none⟩)]) Tryd.func33 rfl rfl rfl ?_
  repeat (first | (refine isO ?_; refine s_assign ?_) | (refine isC ?_; first | refine c_sr ?_ | refine c_block ?_) | (refine l_th ?_))
  refine c_loop (γ := Unit) 34359738364 (fun _ => [(2, .int .i64 0)]) (fun _ W => Ex w W) (fun _ => 0) () ⟨rfl, trivial⟩ (Ex.refl _) ?_
  rintro _ ρ W hx
  repeat (first | (refine isO ?_; refine s_move ?_) | (refine isC ?_; first | refine c_sr ?_ | refine c_seq ?_))
  refine s_nil rfl ?_
  refine s_faN Tryd.underlying45 rfl ty_eReply.n rfl ?_
  refine s_ldA ty_eReply rfl (hA.ex hx) rfl ?_
  refine s_len (n := 0) (a := none) (c := 0) sl_eReply rfl ?_
  refine s_lssF rfl rfl (by omega) ?_
  repeat (first | (refine isC ?_; first | refine c_iff rfl ?_ | refine c_exit ?_) | (first | refine l_th ?_ | refine ib_exit ?_ | refine th_exit ?_))
  exact end0 rfl ⟨rfl, hx⟩
theorem ok_growReply : CallOK Tryd.prog 42 := callOK Tryd.func42 (by kernel_rfl) rfl
theorem growReply_ct (bk M : Nat) (vi vl : Value) (w : World) (hA : At w bk 45 (bkc M vi vl)) : Ct Tryd.prog 42 #[.pointer (some ⟨bk, 0, none⟩)] w fun u w' => u = .tuple #[] ∧ Ex w w' := by
  refine enter (N := 42) (vs := [.pointer (some ⟨bk, 0, none⟩)]) Tryd.func42 rfl rfl rfl ?_
  repeat (first | (refine isO ?_; refine s_assign ?_) | (refine isC ?_; first | refine c_sr ?_ | refine c_block ?_) | (refine l_th ?_))
  refine c_loop (γ := Unit) 4398046511100 (fun _ => [(2, .int .i64 0)]) (fun _ W => Ex w W) (fun _ => 0) () ⟨rfl, trivial⟩ (Ex.refl _) ?_
  rintro _ ρ W hx
  repeat (first | (refine isO ?_; refine s_move ?_) | (refine isC ?_; first | refine c_sr ?_ | refine c_seq ?_))
  refine s_nil rfl ?_
  refine s_faN Tryd.underlying45 rfl ty_eReply.n rfl ?_
  refine s_ldA ty_eReply rfl (hA.ex hx) rfl ?_
  refine s_len (n := 0) (a := none) (c := 0) sl_eReply rfl ?_
  refine s_lssF rfl rfl (by omega) ?_
  repeat (first | (refine isC ?_; first | refine c_iff rfl ?_ | refine c_exit ?_) | (first | refine l_th ?_ | refine ib_exit ?_ | refine th_exit ?_))
  exact end0 rfl ⟨rfl, hx⟩
theorem ok_lookReply : CallOK Tryd.prog 51 := callOK Tryd.func51 (by kernel_rfl) rfl
theorem lookReply_ct (bk M : Nat) (vi vl : Value) (w : World) (hA : At w bk 45 (bkc M vi vl)) : Ct Tryd.prog 51 #[.pointer (some ⟨bk, 0, none⟩)] w fun u w' => u = .bool true ∧ Ex w w' := by
  refine enter (N := 64) (vs := [.pointer (some ⟨bk, 0, none⟩)]) Tryd.func51 rfl rfl rfl ?_
  repeat (first | (refine isO ?_; refine s_assign ?_) | (refine isC ?_; first | refine c_sr ?_ | refine c_seq ?_ | refine c_block ?_) | (refine l_th ?_))
  refine c_loop (γ := Unit) 18446744073709551612 (fun _ => [(3, .int .i64 0)]) (fun _ W => Ex w W) (fun _ => 0) () ⟨rfl, trivial⟩ (Ex.refl _) ?_
  rintro _ ρ W hx
  repeat (first | (refine isO ?_; refine s_move ?_) | (refine isC ?_; first | refine c_sr ?_ | refine c_seq ?_))
  refine s_nil rfl ?_
  refine s_faN Tryd.underlying45 rfl ty_eReply.n rfl ?_
  refine s_ldA ty_eReply rfl (hA.ex hx) rfl ?_
  refine s_len (n := 0) (a := none) (c := 0) sl_eReply rfl ?_
  refine s_lssF rfl rfl (by omega) ?_
  repeat (first | (refine isO ?_; refine s_assign ?_) | (refine isC ?_; first | refine c_sr ?_ | refine c_iff rfl ?_ | refine c_ret ?_ | refine c_exit ?_) | (refine l_th ?_))
  exact ret1 rfl rfl ⟨rfl, hx⟩
theorem ty_eRecord : Ty1 Tryd.prog 43 := ⟨let ⟨i, h, _, hs, _⟩ := info_parts (show (Tryd.prog.info? 43).map (fun i => (i.zero, i.size, i.bytes)) = some (some (.slice none 0 0), 1, 24) by kernel_rfl); ⟨i, h, hs⟩, _, Tryd.underlying43, rfl⟩
theorem sl_eRecord : SlT Tryd.prog 43 106 := Tryd.underlying43
theorem ok_fillRecord : CallOK Tryd.prog 34 := callOK Tryd.func34 (by kernel_rfl) rfl
theorem fillRecord_ct (bk M : Nat) (vi vl : Value) (w : World) (hA : At w bk 45 (bkc M vi vl)) : Ct Tryd.prog 34 #[.pointer (some ⟨bk, 0, none⟩)] w fun u w' => u = .tuple #[] ∧ Ex w w' := by
  refine enter (N := 35) (vs := [.pointer (some ⟨bk, 0, none⟩)]) Tryd.func34 rfl rfl rfl ?_
  repeat (first | (refine isO ?_; refine s_assign ?_) | (refine isC ?_; first | refine c_sr ?_ | refine c_block ?_) | (refine l_th ?_))
  refine c_loop (γ := Unit) 34359738364 (fun _ => [(2, .int .i64 0)]) (fun _ W => Ex w W) (fun _ => 0) () ⟨rfl, trivial⟩ (Ex.refl _) ?_
  rintro _ ρ W hx
  repeat (first | (refine isO ?_; refine s_move ?_) | (refine isC ?_; first | refine c_sr ?_ | refine c_seq ?_))
  refine s_nil rfl ?_
  refine s_faN Tryd.underlying45 rfl ty_eRecord.n rfl ?_
  refine s_ldA ty_eRecord rfl (hA.ex hx) rfl ?_
  refine s_len (n := 0) (a := none) (c := 0) sl_eRecord rfl ?_
  refine s_lssF rfl rfl (by omega) ?_
  repeat (first | (refine isC ?_; first | refine c_iff rfl ?_ | refine c_exit ?_) | (first | refine l_th ?_ | refine ib_exit ?_ | refine th_exit ?_))
  exact end0 rfl ⟨rfl, hx⟩
theorem ok_growRecord : CallOK Tryd.prog 43 := callOK Tryd.func43 (by kernel_rfl) rfl
theorem growRecord_ct (bk M : Nat) (vi vl : Value) (w : World) (hA : At w bk 45 (bkc M vi vl)) : Ct Tryd.prog 43 #[.pointer (some ⟨bk, 0, none⟩)] w fun u w' => u = .tuple #[] ∧ Ex w w' := by
  refine enter (N := 42) (vs := [.pointer (some ⟨bk, 0, none⟩)]) Tryd.func43 rfl rfl rfl ?_
  repeat (first | (refine isO ?_; refine s_assign ?_) | (refine isC ?_; first | refine c_sr ?_ | refine c_block ?_) | (refine l_th ?_))
  refine c_loop (γ := Unit) 4398046511100 (fun _ => [(2, .int .i64 0)]) (fun _ W => Ex w W) (fun _ => 0) () ⟨rfl, trivial⟩ (Ex.refl _) ?_
  rintro _ ρ W hx
  repeat (first | (refine isO ?_; refine s_move ?_) | (refine isC ?_; first | refine c_sr ?_ | refine c_seq ?_))
  refine s_nil rfl ?_
  refine s_faN Tryd.underlying45 rfl ty_eRecord.n rfl ?_
  refine s_ldA ty_eRecord rfl (hA.ex hx) rfl ?_
  refine s_len (n := 0) (a := none) (c := 0) sl_eRecord rfl ?_
  refine s_lssF rfl rfl (by omega) ?_
  repeat (first | (refine isC ?_; first | refine c_iff rfl ?_ | refine c_exit ?_) | (first | refine l_th ?_ | refine ib_exit ?_ | refine th_exit ?_))
  exact end0 rfl ⟨rfl, hx⟩
theorem ok_lookRecord : CallOK Tryd.prog 52 := callOK Tryd.func52 (by kernel_rfl) rfl
theorem lookRecord_ct (bk M : Nat) (vi vl : Value) (w : World) (hA : At w bk 45 (bkc M vi vl)) : Ct Tryd.prog 52 #[.pointer (some ⟨bk, 0, none⟩)] w fun u w' => u = .bool true ∧ Ex w w' := by
  refine enter (N := 64) (vs := [.pointer (some ⟨bk, 0, none⟩)]) Tryd.func52 rfl rfl rfl ?_
  repeat (first | (refine isO ?_; refine s_assign ?_) | (refine isC ?_; first | refine c_sr ?_ | refine c_seq ?_ | refine c_block ?_) | (refine l_th ?_))
  refine c_loop (γ := Unit) 18446744073709551612 (fun _ => [(3, .int .i64 0)]) (fun _ W => Ex w W) (fun _ => 0) () ⟨rfl, trivial⟩ (Ex.refl _) ?_
  rintro _ ρ W hx
  repeat (first | (refine isO ?_; refine s_move ?_) | (refine isC ?_; first | refine c_sr ?_ | refine c_seq ?_))
  refine s_nil rfl ?_
  refine s_faN Tryd.underlying45 rfl ty_eRecord.n rfl ?_
  refine s_ldA ty_eRecord rfl (hA.ex hx) rfl ?_
  refine s_len (n := 0) (a := none) (c := 0) sl_eRecord rfl ?_
  refine s_lssF rfl rfl (by omega) ?_
  repeat (first | (refine isO ?_; refine s_assign ?_) | (refine isC ?_; first | refine c_sr ?_ | refine c_iff rfl ?_ | refine c_ret ?_ | refine c_exit ?_) | (refine l_th ?_))
  exact ret1 rfl rfl ⟨rfl, hx⟩
theorem ok_Apart : CallOK Tryd.prog 14 := callOK Tryd.func14 (by kernel_rfl) rfl
set_option maxHeartbeats 4000000 in
theorem Apart_ct (wB : World) (bk M : Nat) (ns nl : List Nat) (L : Nat → Value) (ln : Nat → Nat) (vi vl : Value) (w : World) (hB : Bk wB w bk M ns nl L vi vl) (hI : ∀ q ∈ ns, ∃ xs, Wd w 3 1 (L q) (ln q) xs) (hJ : ∀ q ∈ nl, ∃ xs, Wd w 30 1 (L q) (ln q) xs)
    (hN : ns.length ≤ 100000) (hN2 : nl.length ≤ 100000) (hq : ∀ q ∈ ns ++ nl, q ≤ 200000) (hln : ∀ q ∈ ns ++ nl, ln q ≤ 100000) (hnd : (ns ++ nl).Nodup) (hd : ∀ p ∈ ns ++ nl, ∀ q ∈ ns ++ nl, p ≠ q → ∀ b, (L p).ownBlock = some b → (L q).ownBlock ≠ some b) (hlow : ∀ q ∈ ns ++ nl, ∀ b, (L q).ownBlock = some b → b < wB.heap.size) :
    Ct Tryd.prog 14 #[.pointer (some ⟨bk, 0, none⟩)] w fun u w' => u = .bool true ∧ KtS (fun b => (∃ q ∈ ns ++ nl, (L q).ownBlock = some b) ∨ wB.heap.size ≤ b) w w' := by
  have hin : ∀ q ∈ ns, q ∈ ns ++ nl := fun q h => List.mem_append_left _ h
  have hil : ∀ q ∈ nl, q ∈ ns ++ nl := fun q h => List.mem_append_right _ h
  have hnd1 : ns.Nodup := (List.nodup_append.1 hnd).1
  have hnd2 : nl.Nodup := (List.nodup_append.1 hnd).2.1
  have hnd3 : ∀ p ∈ ns, ∀ q ∈ nl, p ≠ q := (List.nodup_append.1 hnd).2.2
  have hbkl := hB.lo
  have hvi : ∀ q ∈ ns ++ nl, ∀ b, (L q).ownBlock = some b → b ≠ bk ∧ vi.ownBlock ≠ some b ∧ vl.ownBlock ≠ some b := fun q h1 b h2 => by
    have h3 := hlow q h1 b h2
    refine ⟨by omega, fun e => ?_, fun e => ?_⟩
    · have := (hB.oi b e).1; omega
    · have := (hB.ol b e).1; omega
  have hzB := hB.ex.size
  -- the functions
  let cs : Nat → List Value := fun q => if h : q ∈ ns then Classical.choose (hI q h) else []
  have hcs : ∀ q ∈ ns, Wd w 3 1 (L q) (ln q) (cs q) := fun q h => by
    have := Classical.choose_spec (hI q h)
    have e : cs q = Classical.choose (hI q h) := dif_pos h
    rw [e]; exact this
  let cl : Nat → List Value := fun q => if h : q ∈ nl then Classical.choose (hJ q h) else []
  have hcl : ∀ q ∈ nl, Wd w 30 1 (L q) (ln q) (cl q) := fun q h => by
    have := Classical.choose_spec (hJ q h)
    have e : cl q = Classical.choose (hJ q h) := dif_pos h
    rw [e]; exact this
  have hLi : ∀ q ∈ ns, (L q).oneCell' = true := fun q h => (hcs q h).one
  have hLl : ∀ q ∈ nl, (L q).oneCell' = true := fun q h => (hcl q h).one
  clear_value cs cl
  have hdi : ∀ p ∈ ns, ∀ q ∈ ns, p ≠ q → ∀ b, (L p).ownBlock = some b → (L q).ownBlock ≠ some b := fun p h1 q h2 => hd p (hin p h1) q (hin q h2)
  have hdl : ∀ p ∈ nl, ∀ q ∈ nl, p ≠ q → ∀ b, (L p).ownBlock = some b → (L q).ownBlock ≠ some b := fun p h1 q h2 => hd p (hil p h1) q (hil q h2)
  have hG0 : ∀ q : Nat, ((fun _ : Nat => nilV) q).oneCell' = true := fun _ => rfl
  refine enter (N := 73) (vs := [.pointer (some ⟨bk, 0, none⟩)]) Tryd.func14 rfl rfl rfl ?_
  repeat (first | (refine isO ?_; first | refine s_move ?_ | refine s_assign ?_) | (refine isC ?_; refine c_sr ?_) | (refine l_th ?_))
  refine s_call ok_fillByte rfl (fillByte_ct bk M vi vl w hB.hd) ?_
  rintro v w1 ⟨rfl, hx1⟩
  have hB1 := hB.exd hx1
  repeat (first | (refine isO ?_; refine s_move ?_) | (refine isC ?_; refine c_sr ?_) | (refine l_th ?_))
  refine s_call ok_fillInt rfl (fillInt_ct bk M ns L (fun _ => nilV) ln cs vi vl w1 hB1.hd hB1.wi hN (fun q h => hq q (hin q h)) (fun q h => (hcs q h).ex hx1) (fun q h => hln q (hin q h)) hLi (fun q _ => hG0 q) hnd1 hdi (fun q h b hb => ⟨(hvi q (hin q h) b hb).1, (hvi q (hin q h) b hb).2.1⟩)) ?_
  rintro v w2 ⟨rfl, hk2, hf2⟩
  have z1 := hx1.size
  have z2 := hk2.size
  have hd2 := hB1.hd.kt hk2 (fun ⟨q, h1, h2⟩ => (hvi q (hin q h1) bk h2).1 rfl)
  have hwi2 := hB1.wi.kt hk2 (fun b hb ⟨q, h1, h2⟩ => (hvi q (hin q h1) b h2).2.1 hb)
  have hwl2 := hB1.wl.kt hk2 (fun b hb ⟨q, h1, h2⟩ => (hvi q (hin q h1) b h2).2.2 hb)
  have hcl2 : ∀ q ∈ nl, Wd w2 30 1 (L q) (ln q) (cl q) := fun q h => ((hcl q h).ex hx1).kt hk2 (fun b hb ⟨p, h1, h2⟩ => hd p (hin p h1) q (hil q h) (hnd3 p h1 q h) b h2 hb)
  repeat (first | (refine isO ?_; refine s_move ?_) | (refine isC ?_; refine c_sr ?_) | (refine l_th ?_))
  refine s_call ok_fillText rfl (fillText_ct bk M vi vl w2 hd2) ?_
  rintro v w3 ⟨rfl, hx3⟩
  have z3 := hx3.size
  repeat (first | (refine isO ?_; refine s_move ?_) | (refine isC ?_; refine c_sr ?_) | (refine l_th ?_))
  refine s_call ok_fillIntList rfl (fillIntList_ct bk M nl L (fun _ => nilV) ln cl vl vi w3 (hd2.ex hx3) (hwl2.ex hx3) hN2 (fun q h => hq q (hil q h)) (fun q h => (hcl2 q h).ex hx3) (fun q h => hln q (hil q h)) hLl (fun q _ => hG0 q) hnd2 hdl (fun q h b hb => ⟨(hvi q (hil q h) b hb).1, (hvi q (hil q h) b hb).2.2⟩)) ?_
  rintro v w4 ⟨rfl, hk4, hf4⟩
  have z4 := hk4.size
  have hd4 := (hd2.ex hx3).kt hk4 (fun ⟨q, h1, h2⟩ => (hvi q (hil q h1) bk h2).1 rfl)
  have hwi4 := (hwi2.ex hx3).kt hk4 (fun b hb ⟨q, h1, h2⟩ => (hvi q (hil q h1) b h2).2.1 hb)
  have hwl4 := (hwl2.ex hx3).kt hk4 (fun b hb ⟨q, h1, h2⟩ => (hvi q (hil q h1) b h2).2.2 hb)
  have hI4 : ∀ q ∈ ns, ∃ xs, Wd w4 3 1 (L q) (ln q) xs ∧ ∀ u ∈ xs, MKi w3.heap.size w4 q u := fun q h => by
    obtain ⟨xs, h1, h2⟩ := hf2 q h
    exact ⟨xs, (h1.ex hx3).kt hk4 (fun b hb ⟨p, h3, h4⟩ => hd q (hin q h) p (hil p h3) (hnd3 q h p h3) b hb h4), h2⟩
  repeat (first | (refine isO ?_; refine s_move ?_) | (refine isC ?_; refine c_sr ?_) | (refine l_th ?_))
  refine s_call ok_fillByteList rfl (fillByteList_ct bk M vi vl w4 hd4) ?_
  rintro v w5 ⟨rfl, hx5⟩
  repeat (first | (refine isO ?_; refine s_move ?_) | (refine isC ?_; refine c_sr ?_) | (refine l_th ?_))
  refine s_call ok_fillWhy rfl (fillWhy_ct bk M vi vl w5 (hd4.ex hx5)) ?_
  rintro v w6 ⟨rfl, hx6⟩
  have hx46 := hx5.trans hx6
  repeat (first | (refine isO ?_; refine s_move ?_) | (refine isC ?_; refine c_sr ?_) | (refine l_th ?_))
  refine s_call ok_fillFrame rfl (fillFrame_ct bk M vi vl w6 (hd4.ex hx46)) ?_
  rintro v w7 ⟨rfl, hx7⟩
  have hx47 := hx46.trans hx7
  repeat (first | (refine isO ?_; refine s_move ?_) | (refine isC ?_; refine c_sr ?_) | (refine l_th ?_))
  refine s_call ok_fillReply rfl (fillReply_ct bk M vi vl w7 (hd4.ex hx47)) ?_
  rintro v w8 ⟨rfl, hx8⟩
  have hx48 := hx47.trans hx8
  repeat (first | (refine isO ?_; refine s_move ?_) | (refine isC ?_; refine c_sr ?_) | (refine l_th ?_))
  refine s_call ok_fillRecord rfl (fillRecord_ct bk M vi vl w8 (hd4.ex hx48)) ?_
  rintro v w9 ⟨rfl, hx9⟩
  have hx49 := hx48.trans hx9
  repeat (first | (refine isO ?_; refine s_move ?_) | (refine isC ?_; refine c_sr ?_) | (refine l_th ?_))
  refine s_call ok_growByte rfl (growByte_ct bk M vi vl w9 (hd4.ex hx49)) ?_
  rintro v wa ⟨rfl, hxa⟩
  have hx4a := hx49.trans hxa
  have z4a := hx4a.size
  repeat (first | (refine isO ?_; refine s_move ?_) | (refine isC ?_; refine c_sr ?_) | (refine l_th ?_))
  refine s_call ok_growInt rfl (growInt_ct bk M w3.heap.size ns L (fun _ => nilV) ln vi vl wa (hd4.ex hx4a) (hwi4.ex hx4a) hN (fun q h => hq q (hin q h)) (fun q h => let ⟨xs, h1, h2⟩ := hI4 q h; ⟨xs, h1.ex hx4a, h2⟩) (fun q h => hln q (hin q h)) (fun q _ => hG0 q) hnd1 hdi (fun q h b hb => ⟨(hvi q (hin q h) b hb).1, (hvi q (hin q h) b hb).2.1, by have := hlow q (hin q h) b hb; omega⟩) (fun b hb => ⟨(hB.oi b hb).2.1, by have := hB.wi.lt b hb; omega⟩) (by omega)) ?_
  rintro v wb ⟨rfl, hkb, Gi, hwib, hfb⟩
  have zb := hkb.size
  have hdb := (hd4.ex hx4a).kt hkb (fun h => by
    rcases h with ⟨q, h1, h2⟩ | h
    · exact (hvi q (hin q h1) bk h2).1 rfl
    · exact (hB.oi bk h).2.1 rfl)
  have hwlb := (hwl4.ex hx4a).kt hkb (fun b hb h => by
    rcases h with ⟨q, h1, h2⟩ | h
    · exact (hvi q (hin q h1) b h2).2.2 hb
    · exact (hB.oi b h).2.2 hb)
  have hSb : ∀ b, ((∃ q ∈ ns, (L q).ownBlock = some b) ∨ vi.ownBlock = some b) → b < w3.heap.size := fun b h => by
    rcases h with ⟨q, h1, h2⟩ | h
    · have := hlow q (hin q h1) b h2; omega
    · have := hB.wi.lt b h; omega
  have hJb : ∀ q ∈ nl, ∃ xs, Wd wb 30 1 (L q) (ln q) xs ∧ ∀ u ∈ xs, MKl w3.heap.size wb q u := fun q h => by
    obtain ⟨xs, h1, h2⟩ := hf4 q h
    refine ⟨xs, (h1.ex hx4a).kt hkb (fun b hb h9 => ?_), fun u hu => MKl.kt ((h2 u hu).ex hx4a) hkb hSb⟩
    rcases h9 with ⟨p, h3, h4⟩ | h3
    · exact hd p (hin p h3) q (hil q h) (hnd3 p h3 q h) b h4 hb
    · exact (hvi q (hil q h) b hb).2.1 h3
  repeat (first | (refine isO ?_; refine s_move ?_) | (refine isC ?_; refine c_sr ?_) | (refine l_th ?_))
  refine s_call ok_growText rfl (growText_ct bk M vi vl wb hdb) ?_
  rintro v wc ⟨rfl, hxc⟩
  have zc := hxc.size
  repeat (first | (refine isO ?_; refine s_move ?_) | (refine isC ?_; refine c_sr ?_) | (refine l_th ?_))
  refine s_call ok_growIntList rfl (growIntList_ct bk M w3.heap.size nl L (fun _ => nilV) ln vl vi wc (hdb.ex hxc) (hwlb.ex hxc) hN2 (fun q h => hq q (hil q h)) (fun q h => let ⟨xs, h1, h2⟩ := hJb q h; ⟨xs, h1.ex hxc, fun u hu => (h2 u hu).ex hxc⟩) (fun q h => hln q (hil q h)) (fun q _ => hG0 q) hnd2 hdl (fun q h b hb => ⟨(hvi q (hil q h) b hb).1, (hvi q (hil q h) b hb).2.2, by have := hlow q (hil q h) b hb; omega⟩) (fun b hb => ⟨(hB.ol b hb).2, by have := hB.wl.lt b hb; omega⟩) (by omega)) ?_
  rintro v wd ⟨rfl, hkd, Gl, hwld, hfd⟩
  have zd := hkd.size
  have hdd := (hdb.ex hxc).kt hkd (fun h => by
    rcases h with ⟨q, h1, h2⟩ | h
    · exact (hvi q (hil q h1) bk h2).1 rfl
    · exact (hB.ol bk h).2 rfl)
  have hwid := (hwib.ex hxc).kt hkd (fun b hb h => by
    rcases h with ⟨q, h1, h2⟩ | h
    · exact (hvi q (hil q h1) b h2).2.1 hb
    · exact (hB.oi b hb).2.2 h)
  have hSd : ∀ b, ((∃ q ∈ nl, (L q).ownBlock = some b) ∨ vl.ownBlock = some b) → b < w3.heap.size := fun b h => by
    rcases h with ⟨q, h1, h2⟩ | h
    · have := hlow q (hil q h1) b h2; omega
    · have := hB.wl.lt b h; omega
  have hId : ∀ q ∈ ns, (∃ xs, Wd wd 3 1 (L q) (ln q) xs ∧ ∀ u ∈ xs, MKi w3.heap.size wd q u) ∧ ∃ ys, Wd wd 3 1 (Gi q) (ln q + 40) ys ∧ ∀ u ∈ ys, MKi w3.heap.size wd q u := fun q h => by
    obtain ⟨⟨xs, h1, h2⟩, ⟨ys, h3, h4⟩, h5⟩ := hfb q h
    refine ⟨⟨xs, (h1.ex hxc).kt hkd (fun b hb h9 => ?_), h2⟩, ys, (h3.ex hxc).kt hkd (fun b hb h9 => ?_), h4⟩
    · rcases h9 with ⟨p, h6, h7⟩ | h6
      · exact hd q (hin q h) p (hil p h6) (hnd3 q h p h6) b hb h7
      · exact (hvi q (hin q h) b hb).2.2 h6
    · rcases h5 b hb with h8 | h8
      · rcases h9 with ⟨p, h6, h7⟩ | h6
        · exact hd q (hin q h) p (hil p h6) (hnd3 q h p h6) b h8 h7
        · exact (hvi q (hin q h) b h8).2.2 h6
      · have := hSd b h9; omega
  repeat (first | (refine isO ?_; refine s_move ?_) | (refine isC ?_; refine c_sr ?_) | (refine l_th ?_))
  refine s_call ok_growByteList rfl (growByteList_ct bk M vi vl wd hdd) ?_
  rintro v we ⟨rfl, hxe⟩
  repeat (first | (refine isO ?_; refine s_move ?_) | (refine isC ?_; refine c_sr ?_) | (refine l_th ?_))
  refine s_call ok_growWhy rfl (growWhy_ct bk M vi vl we (hdd.ex hxe)) ?_
  rintro v wf ⟨rfl, hxf⟩
  have hxdf := hxe.trans hxf
  repeat (first | (refine isO ?_; refine s_move ?_) | (refine isC ?_; refine c_sr ?_) | (refine l_th ?_))
  refine s_call ok_growFrame rfl (growFrame_ct bk M vi vl wf (hdd.ex hxdf)) ?_
  rintro v wg ⟨rfl, hxg⟩
  have hxdg := hxdf.trans hxg
  repeat (first | (refine isO ?_; refine s_move ?_) | (refine isC ?_; refine c_sr ?_) | (refine l_th ?_))
  refine s_call ok_growReply rfl (growReply_ct bk M vi vl wg (hdd.ex hxdg)) ?_
  rintro v wh ⟨rfl, hxh⟩
  have hxdh := hxdg.trans hxh
  repeat (first | (refine isO ?_; refine s_move ?_) | (refine isC ?_; refine c_sr ?_) | (refine l_th ?_))
  refine s_call ok_growRecord rfl (growRecord_ct bk M vi vl wh (hdd.ex hxdh)) ?_
  rintro v wi ⟨rfl, hxi⟩
  have hxdi := hxdh.trans hxi
  repeat (first | (refine isO ?_; refine s_move ?_) | (refine isC ?_; refine c_sr ?_) | (refine l_th ?_))
  refine s_call ok_lookByte rfl (lookByte_ct bk M vi vl wi (hdd.ex hxdi)) ?_
  rintro v wj ⟨rfl, hxj⟩
  have hxdj := hxdi.trans hxj
  repeat ((refine isO ?_; first | refine s_move ?_ | (refine isG ?_; refine g_yes rfl rfl ?_)))
  refine s_call ok_lookInt rfl (lookInt_ct bk M w3.heap.size ns L Gi ln vi vl wj (hdd.ex hxdj) (hwid.ex hxdj) hN (fun q h => hq q (hin q h)) (fun q h => let ⟨⟨xs, h1, h2⟩, ys, h3, h4⟩ := hId q h; ⟨⟨xs, h1.ex hxdj, h2⟩, ys, h3.ex hxdj, h4⟩) (fun q h => hln q (hin q h))) ?_
  rintro v wk ⟨rfl, hxk⟩
  have hxdk := hxdj.trans hxk
  repeat ((refine isO ?_; first | refine s_move ?_ | (refine isG ?_; refine g_yes rfl rfl ?_) | (refine isPick ?_; refine s_pickt rfl rfl ?_)))
  refine s_call ok_lookText rfl (lookText_ct bk M vi vl wk (hdd.ex hxdk)) ?_
  rintro v wl ⟨rfl, hxl⟩
  have hxdl := hxdk.trans hxl
  repeat ((refine isO ?_; first | refine s_move ?_ | (refine isG ?_; refine g_yes rfl rfl ?_) | (refine isPick ?_; refine s_pickt rfl rfl ?_)))
  refine s_call ok_lookIntList rfl (lookIntList_ct bk M w3.heap.size nl L Gl ln vl vi wl (hdd.ex hxdl) (hwld.ex hxdl) hN2 (fun q h => hq q (hil q h)) (fun q h => let ⟨⟨xs, h1, h2⟩, ⟨ys, h3, h4⟩, _⟩ := hfd q h; ⟨⟨xs, h1.ex hxdl, fun u hu => (h2 u hu).ex hxdl⟩, ys, h3.ex hxdl, fun u hu => (h4 u hu).ex hxdl⟩) (fun q h => hln q (hil q h))) ?_
  rintro v wm ⟨rfl, hxm⟩
  have hxdm := hxdl.trans hxm
  repeat ((refine isO ?_; first | refine s_move ?_ | (refine isG ?_; refine g_yes rfl rfl ?_) | (refine isPick ?_; refine s_pickt rfl rfl ?_)))
  refine s_call ok_lookByteList rfl (lookByteList_ct bk M vi vl wm (hdd.ex hxdm)) ?_
  rintro v wn ⟨rfl, hxn⟩
  have hxdn := hxdm.trans hxn
  repeat ((refine isO ?_; first | refine s_move ?_ | (refine isG ?_; refine g_yes rfl rfl ?_) | (refine isPick ?_; refine s_pickt rfl rfl ?_)))
  refine s_call ok_lookWhy rfl (lookWhy_ct bk M vi vl wn (hdd.ex hxdn)) ?_
  rintro v wo ⟨rfl, hxo⟩
  have hxdo := hxdn.trans hxo
  repeat ((refine isO ?_; first | refine s_move ?_ | (refine isG ?_; refine g_yes rfl rfl ?_) | (refine isPick ?_; refine s_pickt rfl rfl ?_)))
  refine s_call ok_lookFrame rfl (lookFrame_ct bk M vi vl wo (hdd.ex hxdo)) ?_
  rintro v wp ⟨rfl, hxp⟩
  have hxdp := hxdo.trans hxp
  repeat ((refine isO ?_; first | refine s_move ?_ | (refine isG ?_; refine g_yes rfl rfl ?_) | (refine isPick ?_; refine s_pickt rfl rfl ?_)))
  refine s_call ok_lookReply rfl (lookReply_ct bk M vi vl wp (hdd.ex hxdp)) ?_
  rintro v wq ⟨rfl, hxq⟩
  have hxdq := hxdp.trans hxq
  repeat ((refine isO ?_; first | refine s_move ?_ | (refine isG ?_; refine g_yes rfl rfl ?_) | (refine isPick ?_; refine s_pickt rfl rfl ?_)))
  refine s_call ok_lookRecord rfl (lookRecord_ct bk M vi vl wq (hdd.ex hxdq)) ?_
  rintro v wr ⟨rfl, hxr⟩
  have hxdr := hxdq.trans hxr
  repeat (first | (refine isO ?_; first | refine s_assign ?_ | (refine isPick ?_; refine s_pickt rfl rfl ?_)) | (refine isC ?_; refine c_ret ?_) | (refine l_th ?_))
  refine ret1 rfl rfl ⟨rfl, ?_⟩
  have t1 : KtS (fun b => (∃ q ∈ ns ++ nl, (L q).ownBlock = some b) ∨ wB.heap.size ≤ b) w w2 := (KtS.of_ex hx1).trans (hk2.mono (fun b ⟨q, h1, h2⟩ => .inl ⟨q, hin q h1, h2⟩))
  have t2 : KtS (fun b => (∃ q ∈ ns ++ nl, (L q).ownBlock = some b) ∨ wB.heap.size ≤ b) w2 w4 := (KtS.of_ex hx3).trans (hk4.mono (fun b ⟨q, h1, h2⟩ => .inl ⟨q, hil q h1, h2⟩))
  have t3 : KtS (fun b => (∃ q ∈ ns ++ nl, (L q).ownBlock = some b) ∨ wB.heap.size ≤ b) w4 wb := (KtS.of_ex hx4a).trans (hkb.mono (fun b h => by
    rcases h with ⟨q, h1, h2⟩ | h
    · exact .inl ⟨q, hin q h1, h2⟩
    · exact .inr (hB.oi b h).1))
  have t4 : KtS (fun b => (∃ q ∈ ns ++ nl, (L q).ownBlock = some b) ∨ wB.heap.size ≤ b) wb wd := (KtS.of_ex hxc).trans (hkd.mono (fun b h => by
    rcases h with ⟨q, h1, h2⟩ | h
    · exact .inl ⟨q, hil q h1, h2⟩
    · exact .inr (hB.ol b h).1))
  exact (((t1.trans t2).trans t3).trans t4).trans (KtS.of_ex hxdr)
end Go.Proofs.YtifbgpkjbciblaaDoor.Sal
end
section
/- Plain: the search of a way to one more: what it finds, and what it shows where it finds none. -/
set_option maxRecDepth 100000
namespace Go.Proofs.YtifbgpkjbciblaaDoor.Sal
set_option linter.all false

/-! ### The search -/
def fset {α : Type} (f : Nat → α) (k : Nat) (x : α) : Nat → α := fun j => if j = k then x else f j
theorem fset_same {α : Type} (f : Nat → α) (k : Nat) (x : α) : fset f k x k = x := by simp [fset]
theorem fset_other {α : Type} {f : Nat → α} {k j : Nat} {x : α} (h : j ≠ k) : fset f k x j = f j := by simp [fset, h]
/-- One more than who has an item; 0: nobody. -/
def holdN (has : List Int) : Nat → Nat → Nat
  | 0, _ => 0
  | j + 1, k => if has.getD j (-1) = (k : Int) then j + 1 else holdN has j k
/-! ### Matchings -/
structure FitR (R : Nat → Nat → Bool) (m n : Nat) (has : List Int) : Prop where
  len : has.length = m
  ok : ∀ i, i < m → has.getD i (-1) = -1 ∨ ∃ k : Nat, k < n ∧ has.getD i (-1) = (k : Int) ∧ R i k = true
  inj : ∀ i j, i < m → j < m → has.getD i (-1) = has.getD j (-1) → has.getD i (-1) ≠ -1 → i = j
theorem holdN_pos {has : List Int} {k : Nat} : ∀ {j : Nat}, 0 < holdN has j k → holdN has j k - 1 < j ∧ has.getD (holdN has j k - 1) (-1) = (k : Int)
  | j + 1, h => by
    unfold holdN at h ⊢
    by_cases he : has.getD j (-1) = (k : Int)
    · rw [if_pos he] at h ⊢
      exact ⟨by omega, by simpa using he⟩
    · rw [if_neg he] at h ⊢
      have := holdN_pos h
      exact ⟨by omega, this.2⟩
/-- What holds all through the search. -/
structure BI (R : Nat → Nat → Bool) (m n : Nat) (has : List Int) (a : Nat) (w : Nat → Nat) (ws : List Nat) : Prop where
  head : ws[0]? = some a
  bnd : ∀ b ∈ ws, b < m
  nodup : ∀ (i j b : Nat), ws[i]? = some b → ws[j]? = some b → i = j
  came : ∀ (j b : Nat), ws[j]? = some b → 0 < j → ∃ k j' : Nat, k < n ∧ has.getD b (-1) = (k : Int) ∧ 0 < w k ∧ j' < j ∧ ws[j']? = some (w k - 1)
  byok : ∀ k, 0 < w k → k < n ∧ (w k - 1) ∈ ws ∧ R (w k - 1) k = true
  full : ws.length ≤ 1 + cnt (fun k => decide (0 < w k)) n
  held : ∀ k, 0 < w k → 0 < holdN has has.length k → holdN has has.length k - 1 ∈ ws
theorem BI.len {R : Nat → Nat → Bool} {m n : Nat} {has : List Int} {a : Nat} {w : Nat → Nat} {ws : List Nat} (h : BI R m n has a w ws) : ws.length ≤ 1 + n :=
  Nat.le_trans h.full (by have := cnt_bound (fun k => decide (0 < w k)) n; omega)
theorem cnt_fset {w : Nat → Nat} {n k x : Nat} (hk : k < n) (h0 : ¬ 0 < w k) (hx : 0 < x) : cnt (fun j => decide (0 < w j)) n + 1 = cnt (fun j => decide (0 < fset w k x j)) n := by
  have h1 : (fun j => decide (0 < fset w k x j)) k = true := by simp [fset_same, hx]
  have h2 := cnt_drop (s := fun j => decide (0 < fset w k x j)) hk h1
  rw [← h2]
  congr 1
  apply cnt_congr
  intro j hj
  by_cases e : j = k
  · subst e; simp [fset_same, h0]
  · simp [fset_other e, e]
theorem get_app {ws : List Nat} {x j b : Nat} (h : (ws ++ [x])[j]? = some b) : (j < ws.length ∧ ws[j]? = some b) ∨ (j = ws.length ∧ b = x) := by
  by_cases hj : j < ws.length
  · exact .inl ⟨hj, by rwa [List.getElem?_append_left hj] at h⟩
  · have h1 := (List.getElem?_eq_some_iff.1 h).1
    simp at h1
    have : j = ws.length := by omega
    subst this
    simp at h
    exact .inr ⟨rfl, h.symm⟩
theorem get_app_old {ws : List Nat} {x j b : Nat} (h : ws[j]? = some b) : (ws ++ [x])[j]? = some b := by
  have h1 := (List.getElem?_eq_some_iff.1 h).1
  rw [List.getElem?_append_left h1]; exact h
theorem idx_of {ws : List Nat} {b : Nat} (h : b ∈ ws) : ∃ j : Nat, ws[j]? = some b := List.mem_iff_getElem?.1 h

section search
variable {R : Nat → Nat → Bool} {m n : Nat} {has : List Int} {a : Nat}
/-- An item is come to that somebody has. -/
theorem BI.take {w : Nat → Nat} {ws : List Nat} {b k jb : Nat} (hF : FitR R m n has) (h : BI R m n has a w ws) (ha : has.getD a (-1) = -1) (hb : ws[jb]? = some b) (hk : k < n) (hR : R b k = true) (h0 : ¬ 0 < w k) (hh : 0 < holdN has has.length k) :
    BI R m n has a (fset w k (b + 1)) (ws ++ [holdN has has.length k - 1]) := by
  have hp := holdN_pos hh
  rw [hF.len] at hp
  obtain ⟨hc, hcv⟩ := hp
  rw [← hF.len] at hc hcv
  obtain ⟨c, hce⟩ : ∃ c, c = holdN has has.length k - 1 := ⟨_, rfl⟩
  rw [hF.len] at hce
  have hF' := hF.len
  rw [hF.len, ← hce] at hc hcv
  rw [hF.len, ← hce]
  have hnew : c ∉ ws := fun hm => by
    obtain ⟨j, hj⟩ := idx_of hm
    by_cases hj0 : j = 0
    · subst hj0
      rw [h.head] at hj
      cases hj
      rw [ha] at hcv; omega
    · obtain ⟨k', j', hk', hv, hw, _, _⟩ := h.came j c hj (by omega)
      rw [hcv] at hv
      have : k = k' := by omega
      subst this
      exact h0 hw
  refine ⟨get_app_old h.head, ?_, ?_, ?_, ?_, ?_, ?_⟩
  · intro x hx
    rcases List.mem_append.1 hx with hx | hx
    · exact h.bnd x hx
    · simp at hx; subst hx; exact hc
  · intro i j x hi hj
    rcases get_app hi with ⟨h1, h2⟩ | ⟨h1, h2⟩ <;> rcases get_app hj with ⟨h3, h4⟩ | ⟨h3, h4⟩
    · exact h.nodup i j x h2 h4
    · subst h4; exact absurd (List.mem_iff_getElem?.2 ⟨i, h2⟩) hnew
    · subst h2; exact absurd (List.mem_iff_getElem?.2 ⟨j, h4⟩) hnew
    · omega
  · intro j x hj hj0
    rcases get_app hj with ⟨h1, h2⟩ | ⟨h1, h2⟩
    · obtain ⟨k', j', hk', hv, hw, hlt, hj'⟩ := h.came j x h2 hj0
      have hne : k' ≠ k := fun e => by subst e; exact h0 hw
      exact ⟨k', j', hk', hv, by rw [fset_other hne]; exact hw, hlt, by rw [fset_other hne]; exact get_app_old hj'⟩
    · subst h2
      refine ⟨k, jb, hk, hcv, by rw [fset_same]; omega, ?_, by rw [fset_same]; simpa using get_app_old hb⟩
      have := (List.getElem?_eq_some_iff.1 hb).1
      omega
  · intro k' hw
    by_cases e : k' = k
    · subst e
      rw [fset_same]
      exact ⟨hk, List.mem_append_left _ (by simpa using List.mem_iff_getElem?.2 ⟨jb, hb⟩), by simpa using hR⟩
    · rw [fset_other e] at hw ⊢
      obtain ⟨h1, h2, h3⟩ := h.byok k' hw
      exact ⟨h1, List.mem_append_left _ h2, h3⟩
  · have := cnt_fset (x := b + 1) hk h0 (by omega)
    rw [← this]
    have := h.full
    simp; omega
  · intro k' hw hh'
    by_cases e : k' = k
    · subst e
      rw [hF.len, ← hce]
      simp
    · rw [fset_other e] at hw
      exact List.mem_append_left _ (h.held k' hw hh')
end search
end Go.Proofs.YtifbgpkjbciblaaDoor.Sal
end
section
/- graphs.edges as an iterator; SameIntLists, has, Fits. -/
set_option maxRecDepth 100000
namespace Go.Proofs.YtifbgpkjbciblaaDoor.Sal
open Go.RowKit
attribute [local irreducible] Go.Code.wpIn Go.wpListIn Ct Ints Rows Sl At Rw WJ
set_option linter.all false
/-! ### edges -/
abbrev PK (n : Nat) := { x : Nat × Nat // x.2 < n }
/-- What the iterator reads. -/
def ESrc (c : Nat) (gv : Value) (g : List (List Int)) (W : World) : Prop := W.cell? ⟨c, 0, none⟩ = some gv ∧ Rows W gv g
theorem ESrc.kc {c : Nat} {gv : Value} {g : List (List Int)} {w w' : World} (h : ESrc c gv g w) (hk : KC w w') : ESrc c gv g w' := ⟨hk.1 _ _ h.1, hk.rows h.2⟩
end Go.Proofs.YtifbgpkjbciblaaDoor.Sal
end
section
/- TW2: twins, and the room behind them. -/
set_option maxRecDepth 100000
namespace Go.Proofs.YtifbgpkjbciblaaDoor.Sal
open Go.RowKit
set_option linter.all false
theorem Rw.posL {w : World} {E : TypeId} {v : Value} {vs : List Value} (h : Rw w E v vs) (hn : 0 < vs.length) : ∃ b c sp, v = sv b vs.length c ∧ At w b E (vs ++ sp) ∧ vs.length ≤ c ∧ c = vs.length + sp.length ∧ c ≤ 9223372036854775807 := by
  obtain ⟨h1, h2⟩ := h
  rcases h2 with ⟨hv, h0⟩ | ⟨g, cap, cur, hv, _, hh, hc, hm, hcs, ht⟩
  · omega
  · rw [Nat.mul_one] at ht hcs
    have e : vs ++ cur.toList.drop vs.length = cur.toList := by
      conv => lhs; lhs; rw [← ht]
      exact List.take_append_drop _ _
    refine ⟨g, cap, cur.toList.drop vs.length, hv, ?_, hc, ?_, by simpa [maxLen] using hm⟩
    · unfold At; rw [hh, e]
    · have h3 : (vs ++ cur.toList.drop vs.length).length = cur.toList.length := congrArg List.length e
      rw [List.length_append] at h3
      have h4 : cur.toList.length = cur.size := Array.length_toList
      omega
/-- A twin: one number more stands behind it, in its room. -/
def TwI (w : World) (b c : Nat) (l : List Int) : Prop := ∃ sp, At w b 3 (l.map (Value.int .i64) ++ .int .i64 77 :: sp) ∧ l.length < c ∧ c = l.length + 1 + sp.length ∧ c ≤ 9223372036854775807 ∧ l.length ≤ 10000
theorem TwI.ex {w w' : World} {b c : Nat} {l : List Int} (h : TwI w b c l) (hx : Ex w w') : TwI w' b c l := let ⟨sp, h1, h2⟩ := h; ⟨sp, h1.ex hx, h2⟩
theorem TwI.grown {w w' : World} {b c : Nat} {l : List Int} {o : Option Nat} (h : TwI w b c l) (hg : w.grownBy w' o) (hne : o ≠ some b) : TwI w' b c l := let ⟨sp, h1, h2⟩ := h; ⟨sp, h1.grown hg hne, h2⟩
theorem TwI.lt {w : World} {b c : Nat} {l : List Int} (h : TwI w b c l) : b < w.heap.size := let ⟨sp, h1, h2⟩ := h; h1.lt
theorem TwI.ints {w : World} {b c : Nat} {l : List Int} (h : TwI w b c l) : Ints w (sv b l.length c) l := by
  obtain ⟨sp, hA, hc, _, _, hm⟩ := h
  have := hA.sl (n := l.length) (c := c) (by simp) (by omega) (by omega)
  rwa [List.take_left' (by simp)] at this
theorem TwI.wd {w : World} {b c : Nat} {l : List Int} (h : TwI w b c l) : Wd w 3 1 (sv b l.length c) l.length (l.map (Value.int .i64)) := by
  obtain ⟨sp, hA, hc, he, h63, hm⟩ := h
  exact ⟨by simp, .inr ⟨b, c, .int .i64 77 :: sp, rfl, hA, by omega, h63, by simp; omega⟩⟩
/-- A twin of lists. -/
def TwL (w : World) (b c : Nat) (rb rc : Nat → Nat) (g : List (List Int)) : Prop :=
  (∃ eb sp, At w b 30 ((List.range g.length).map (fun i => sv (rb i) (g.getD i []).length (rc i)) ++ sv eb 1 1 :: sp) ∧ At w eb 3 [.int .i64 77] ∧ c = g.length + 1 + sp.length) ∧ g.length < c ∧ c ≤ 9223372036854775807 ∧ g.length ≤ 10000 ∧ (∀ i, i < g.length → TwI w (rb i) (rc i) (g.getD i []) ∧ rb i ≠ b) ∧ ∀ i j, i < j → j < g.length → rb i < rb j
theorem TwL.ex {w w' : World} {b c : Nat} {rb rc : Nat → Nat} {g : List (List Int)} (h : TwL w b c rb rc g) (hx : Ex w w') : TwL w' b c rb rc g := by
  obtain ⟨⟨eb, sp, h1, h2, h3⟩, h4, h5, h6, h7, h8⟩ := h
  exact ⟨⟨eb, sp, h1.ex hx, h2.ex hx, h3⟩, h4, h5, h6, fun i hi => ⟨(h7 i hi).1.ex hx, (h7 i hi).2⟩, h8⟩
theorem TwL.sl {w : World} {b c : Nat} {rb rc : Nat → Nat} {g : List (List Int)} (h : TwL w b c rb rc g) : Sl w (sv b g.length c) ((List.range g.length).map (fun i => sv (rb i) (g.getD i []).length (rc i))) := by
  obtain ⟨⟨eb, sp, h1, _⟩, h2, _, h3, _⟩ := h
  have := h1.sl (n := g.length) (c := c) (by simp) (by omega) (by omega)
  rwa [List.take_left' (by simp)] at this
theorem TwL.wd {w : World} {b c : Nat} {rb rc : Nat → Nat} {g : List (List Int)} (h : TwL w b c rb rc g) : Wd w 30 1 (sv b g.length c) g.length ((List.range g.length).map (fun i => sv (rb i) (g.getD i []).length (rc i))) := by
  obtain ⟨⟨eb, sp, h1, _, h2⟩, h3, h4, _⟩ := h
  exact ⟨by simp, .inr ⟨b, c, sv eb 1 1 :: sp, rfl, h1, by omega, h4, by simp; omega⟩⟩
theorem TwL.rows {w : World} {b c : Nat} {rb rc : Nat → Nat} {g : List (List Int)} (h : TwL w b c rb rc g) : Rows w (sv b g.length c) g := by
  refine ⟨_, h.sl, by simp, fun i u l hu hl => ?_⟩
  have hi := (List.getElem?_eq_some_iff.1 hl).1
  obtain ⟨_, _, _, _, h7, _⟩ := h
  have e1 : u = sv (rb i) (g.getD i []).length (rc i) := by simp [hi] at hu; simp [hi, hu]
  have e2 : g.getD i [] = l := by simp [List.getD_eq_getElem?_getD, hl]
  rw [e1]
  have := (h7 i hi).1.ints
  rwa [e2] at this ⊢
attribute [local irreducible] Go.Code.wpIn Go.wpListIn Ct Ints Rows Sl At Rw WJ
attribute [local irreducible] Wd
theorem TwinIntsW_ct (u : Value) (l : List Int) (w : World) (hl : Ints w u l) (hm : l.length ≤ 10000) :
    Ct Tryd.prog 16 #[u] w fun x w' => ∃ b c, x = sv b l.length c ∧ w.heap.size ≤ b ∧ TwI w' b c l ∧ Ex w w' := by
  obtain ⟨ti, hi1, hi2, hi3, hi4⟩ := in_int'
  refine enter (N := 28) (vs := [u]) Tryd.func16 rfl rfl rfl ?_
  repeat (first | (refine isO ?_; first | refine s_move ?_ | refine s_assign ?_ | (refine isBin ?_; refine s_inc rfl (by omega) ?_) | (refine isCall ?_; refine s_lenI sl_ints rfl (by assumption) ?_)) | (refine isC ?_; refine c_sr ?_) | (refine l_th ?_))
  refine s_mk0 (n := l.length + 1) sl_ints hi1 hi2 hi3 rfl hi4 rfl rfl (by omega) ?_
  intro b0 w1 hb0 hR hx1 hs1
  repeat (first | (refine isO ?_; refine s_assign ?_) | (refine isC ?_; first | refine c_sr ?_ | refine c_seq ?_ | refine c_block ?_) | (refine l_th ?_))
  refine c_loop (γ := Nat × Value) 4193816 (fun x => [(4, .int .i64 (x.1 : Int)), (3, x.2)])
    (fun x w' => x.1 ≤ l.length ∧ Rw w' 3 x.2 ((l.take x.1).map (Value.int .i64)) ∧ Ex w w' ∧ ∀ b, x.2.ownBlock = some b → w.heap.size ≤ b) (fun x => l.length - x.1) (0, sv b0 0 (l.length + 1)) ⟨rfl, rfl, trivial⟩
    ⟨Nat.zero_le _, hR, hx1, fun b h => by have h : b0 = b := Option.some.inj h; omega⟩ ?_
  rintro ⟨k, v⟩ ρ w2 ⟨hk, hv, hx, hb⟩
  dsimp only at hk hv hx hb ⊢
  have hl2 := hl.ex hx
  repeat (first | (refine isO ?_; first | refine s_move ?_ | (refine isBin ?_; refine s_lss rfl rfl ?_) | (refine isCall ?_; refine s_lenI sl_ints rfl (by assumption) ?_)) | (refine isC ?_; first | refine c_sr ?_ | refine c_seq ?_) | (refine l_th ?_))
  refine c_ifd rfl (fun h => ?_) (fun h => ?_)
  · have hk' : k < l.length := by omega
    repeat (first | (refine isO ?_; first | refine s_move ?_ | (refine isIA ?_; refine s_ixI sl_ints ty_int rfl rfl rfl (by assumption) (by omega) ?_; intro _)) | (refine isC ?_; first | refine c_th ?_ | refine c_seq ?_ | refine c_region ?_ | refine c_block ?_))
    refine s_bs1 (u := .int .i64 (l.getD k 0)) sl_ints in_int rfl rfl ?_
    intro b1 w3 hb1 hA hx3 hs3
    refine s_app (news := [.int .i64 (l.getD k 0)]) sl_ints in_int (hv.ex hx3) (hA.sl (Nat.le_refl _) (by simp) (by simp)) rfl rfl (one_int _) (by simp; omega) ?_
    intro v' w4 hv' hg hown
    repeat (first | (refine isO ?_; first | refine s_move ?_ | refine s_assign ?_ | (refine isBin ?_; refine s_inc rfl (by omega) ?_)) | (refine isC ?_; refine c_region ?_) | (first | refine l_th ?_ | refine l_nil ?_))
    refine loop_end (k + 1, v') (by (repeat (first | exact agree_refl _ _ | refine agree_upd rfl ?_ | refine agree_ext rfl ?_ | refine agree_mask rfl ?_))) ⟨rfl, rfl, trivial⟩ ⟨hk', ?_, (hx.trans hx3).storeo hg hb, ?_⟩ (by dsimp only; omega)
    · dsimp only; rw [take_map_succ hk']; exact hv'
    · intro b hb'
      rcases hown with h1 | h1
      · exact hb b (h1.symm.trans hb')
      · have := h1 b hb'; have := hx.size; have := hx3.size; omega
  · have hkn : k = l.length := by omega
    subst hkn
    rw [List.take_length] at hv
    repeat (first | (refine isO ?_; refine s_move ?_) | (refine isC ?_; first | refine c_sr ?_ | refine c_exit ?_))
    refine s_bs1 (u := .int .i64 77) sl_ints in_int rfl rfl ?_
    intro b1 w3 hb1 hA hx3 hs3
    refine s_app (news := [.int .i64 77]) sl_ints in_int (hv.ex hx3) (hA.sl (Nat.le_refl _) (by simp) (by simp)) rfl rfl (one_int _) (by simp; omega) ?_
    intro v' w4 hv' hg hown
    obtain ⟨b2, c2, sp, rfl, hA4, hc, hcl, hcm⟩ := hv'.posL (by simp)
    have hfr : w.heap.size ≤ b2 := by
      rcases hown with h1 | h1
      · exact hb b2 h1.symm
      · have := h1 b2 rfl; have := hx.size; have := hx3.size; omega
    simp only [List.length_append, List.length_map, List.length_singleton] at hc hcl
    have hx4 := (hx.trans hx3).storeo hg hb
    have hl4 := hl.ex hx4
    repeat ((refine isO ?_; first | refine s_move ?_ | (refine isCall ?_; refine s_lenI sl_ints rfl (by assumption) ?_)))
    refine s_head (hi := l.length) sl_ints ty_int rfl rfl (by omega) ?_
    repeat (first | (refine isO ?_; refine s_assign ?_) | (refine isC ?_; refine c_ret ?_) | (refine l_th ?_))
    refine ret1 rfl rfl ⟨b2, c2, rfl, hfr, ⟨sp, by rw [List.append_assoc] at hA4; exact hA4, by omega, by omega, hcm, hm⟩, hx4⟩

theorem TwinIntListsW_ct (u : Value) (g : List (List Int)) (w : World) (hg : Rows w u g) (hm : g.length ≤ 10000) (hr : ∀ i, i < g.length → (g.getD i []).length ≤ 10000) :
    Ct Tryd.prog 5 #[u] w fun x w' => ∃ b c rb rc, x = sv b g.length c ∧ w.heap.size ≤ b ∧ (∀ i, i < g.length → w.heap.size ≤ rb i) ∧ TwL w' b c rb rc g ∧ Ex w w' := by
  obtain ⟨ti, hi1, hi2, hi3, hi4⟩ := in_ints.ex
  refine enter (N := 30) (vs := [u]) Tryd.func5 rfl rfl rfl ?_
  repeat (first | (refine isO ?_; first | refine s_move ?_ | refine s_assign ?_ | (refine isBin ?_; refine s_inc rfl (by omega) ?_) | (refine isCall ?_; refine s_lenR sl_rows rfl (by assumption) ?_)) | (refine isC ?_; refine c_sr ?_) | (refine l_th ?_))
  refine s_mk0 (n := g.length + 1) sl_rows hi1 hi2 hi3 rfl hi4 rfl rfl (by omega) ?_
  intro b0 w1 hb0 hR hx1 hs1
  repeat (first | (refine isO ?_; refine s_assign ?_) | (refine isC ?_; first | refine c_sr ?_ | refine c_seq ?_ | refine c_block ?_) | (refine l_th ?_))
  refine c_loop (γ := Nat × Value × (Nat → Nat) × (Nat → Nat)) 8388120 (fun x => [(4, .int .i64 (x.1 : Int)), (3, x.2.1)])
    (fun x w' => x.1 ≤ g.length ∧ Rw w' 30 x.2.1 ((List.range x.1).map (fun i => sv (x.2.2.1 i) (g.getD i []).length (x.2.2.2 i))) ∧ Ex w w' ∧ (∀ b, x.2.1.ownBlock = some b → w.heap.size ≤ b) ∧
      (∀ i, i < x.1 → TwI w' (x.2.2.1 i) (x.2.2.2 i) (g.getD i []) ∧ some (x.2.2.1 i) ≠ x.2.1.ownBlock ∧ w.heap.size ≤ x.2.2.1 i) ∧ ∀ i j, i < j → j < x.1 → x.2.2.1 i < x.2.2.1 j) (fun x => g.length - x.1) (0, sv b0 0 (g.length + 1), fun _ => 0, fun _ => 0) ⟨rfl, rfl, trivial⟩
    ⟨Nat.zero_le _, hR, hx1, fun b h => by have h : b0 = b := Option.some.inj h; omega, fun i h => absurd h (Nat.not_lt_zero _), fun i j _ h => absurd h (Nat.not_lt_zero _)⟩ ?_
  rintro ⟨k, v, rb, rc⟩ ρ w2 ⟨hk, hv, hx, hb, hO, hmon⟩
  dsimp only at hk hv hx hb hO hmon ⊢
  have hg2 := hg.ex hx
  repeat (first | (refine isO ?_; first | refine s_move ?_ | (refine isBin ?_; refine s_lss rfl rfl ?_) | (refine isCall ?_; refine s_lenR sl_rows rfl (by assumption) ?_)) | (refine isC ?_; first | refine c_sr ?_ | refine c_seq ?_) | (refine l_th ?_))
  refine c_ifd rfl (fun h => ?_) (fun h => ?_)
  · have hk' : k < g.length := by omega
    repeat (first | (refine isO ?_; refine s_move ?_) | (refine isC ?_; first | refine c_th ?_ | refine c_seq ?_ | refine c_region ?_ | refine c_block ?_))
    refine s_ixR sl_rows ty_ints rfl rfl rfl hg2 hk' ?_
    intro _ u1 hu1
    refine s_call ok_TwinInts rfl (TwinIntsW_ct u1 _ w2 hu1 (hr k hk')) ?_
    rintro u2 w3 ⟨b1, c1, rfl, hb1, hO1, hx3⟩
    refine s_bs1 (u := sv b1 (g.getD k []).length c1) sl_rows in_ints rfl rfl ?_
    intro b2 w4 hb2 hA hx4 hs4
    refine s_app (news := [sv b1 (g.getD k []).length c1]) sl_rows in_ints (hv.ex (hx3.trans hx4)) (hA.sl (Nat.le_refl _) (by simp) (by simp)) rfl rfl (by intro q hq; simp at hq; subst hq; rfl) (by simp; omega) ?_
    intro v' w5 hv' hgr hown
    repeat (first | (refine isO ?_; first | refine s_move ?_ | refine s_assign ?_ | (refine isBin ?_; refine s_inc rfl (by omega) ?_)) | (refine isC ?_; refine c_region ?_) | (first | refine l_th ?_ | refine l_nil ?_))
    have hv2 : ∀ b, v.ownBlock = some b → b < w2.heap.size := hv.lt
    have hsz3 := hx3.size
    have hsz4 := hx4.size
    have hsz := hx.size
    refine loop_end (k + 1, v', updN rb k b1, updN rc k c1) (by (repeat (first | exact agree_refl _ _ | refine agree_upd rfl ?_ | refine agree_ext rfl ?_ | refine agree_mask rfl ?_))) ⟨rfl, rfl, trivial⟩ ⟨hk', ?_, ((hx.trans hx3).trans hx4).storeo hgr hb, ?_, ?_, ?_⟩ (by dsimp only; omega)
    · dsimp only
      have e : (List.range (k + 1)).map (fun i => sv (updN rb k b1 i) (g.getD i []).length (updN rc k c1 i)) = (List.range k).map (fun i => sv (rb i) (g.getD i []).length (rc i)) ++ [sv b1 (g.getD k []).length c1] := by
        rw [List.range_succ, List.map_append]
        congr 1
        · apply List.map_congr_left
          intro i hi
          have : i ≠ k := by have := List.mem_range.1 hi; omega
          simp [updN, this]
        · simp [updN]
      rw [e]; exact hv'
    · intro b hb'
      rcases hown with h1 | h1
      · exact hb b (h1.symm.trans hb')
      · have := h1 b hb'; omega
    · intro i hi
      dsimp only at hi ⊢
      by_cases hik : i = k
      · subst hik
        have e1 : updN rb i b1 i = b1 := by simp [updN]
        have e2 : updN rc i c1 i = c1 := by simp [updN]
        rw [e1, e2]
        have hb1lt := hO1.lt
        refine ⟨(hO1.ex hx4).grown hgr (fun e => ?_), fun e => ?_, by omega⟩
        · have := hv2 b1 e; omega
        · rcases hown with h1 | h1
          · have := hv2 b1 (h1.symm.trans e.symm); omega
          · have := h1 b1 e.symm; omega
      · have e1 : updN rb k b1 i = rb i := by simp [updN, hik]
        have e2 : updN rc k c1 i = rc i := by simp [updN, hik]
        rw [e1, e2]
        obtain ⟨hOi, hne, hge⟩ := hO i (by omega)
        have hlt := hOi.lt
        refine ⟨((hOi.ex hx3).ex hx4).grown hgr (fun e => hne e.symm), fun e => ?_, hge⟩
        rcases hown with h1 | h1
        · exact hne (e.trans h1)
        · have := h1 (rb i) e.symm; omega
    · intro i j hij hj
      dsimp only at hj ⊢
      by_cases hjk : j = k
      · subst hjk
        have e1 : updN rb j b1 j = b1 := by simp [updN]
        have hij' : i ≠ j := by omega
        have e2 : updN rb j b1 i = rb i := by simp [updN, hij']
        rw [e1, e2]
        have := (hO i (by omega)).1.lt; omega
      · have hik : i ≠ k := by omega
        have e1 : updN rb k b1 j = rb j := by simp [updN, hjk]
        have e2 : updN rb k b1 i = rb i := by simp [updN, hik]
        rw [e1, e2]
        exact hmon i j hij (by omega)
  · have hkn : k = g.length := by omega
    subst hkn
    repeat (first | (refine isO ?_; refine s_move ?_) | (refine isC ?_; first | refine c_sr ?_ | refine c_exit ?_))
    refine s_bs1 (u := .int .i64 77) sl_ints in_int rfl rfl ?_
    intro b1 w3 hb1 hA hx3 hs3
    refine s_bs1 (u := sv b1 1 1) sl_rows in_ints rfl rfl ?_
    intro b2 w4 hb2 hA2 hx4 hs4
    refine s_app (news := [sv b1 1 1]) sl_rows in_ints (hv.ex (hx3.trans hx4)) (hA2.sl (Nat.le_refl _) (by simp) (by simp)) rfl rfl (by intro q hq; simp at hq; subst hq; rfl) (by simp; omega) ?_
    intro v' w5 hv' hgr hown
    obtain ⟨b3, c3, sp, rfl, hA5, hc, hcl, hcm⟩ := hv'.posL (by simp)
    have hsz3 := hx3.size
    have hsz4 := hx4.size
    have hsz := hx.size
    have hfr : w.heap.size ≤ b3 := by
      rcases hown with h1 | h1
      · exact hb b3 h1.symm
      · have := h1 b3 rfl; omega
    simp only [List.length_append, List.length_map, List.length_range, List.length_singleton] at hc hcl
    have hb13 : b1 ≠ b3 := fun e => by
      have hl1 := hA.lt
      rcases hown with h1 | h1
      · have := hv.lt b3 h1.symm; omega
      · have := h1 b3 rfl; have := hA2.lt; omega
    have hA15 := (hA.ex hx4).grown hgr (fun e => by have := hv.lt b1 e; omega)
    have hx5 := ((hx.trans hx3).trans hx4).storeo hgr hb
    have hg5 := hg.ex hx5
    repeat ((refine isO ?_; first | refine s_move ?_ | (refine isCall ?_; refine s_lenR sl_rows rfl (by assumption) ?_)))
    refine s_head (hi := g.length) sl_rows ty_ints rfl rfl (by omega) ?_
    repeat (first | (refine isO ?_; refine s_assign ?_) | (refine isC ?_; refine c_ret ?_) | (refine l_th ?_))
    refine ret1 rfl rfl ⟨b3, c3, rb, rc, rfl, hfr, fun i hi => (hO i hi).2.2, ⟨⟨b1, sp, by rw [List.append_assoc] at hA5; exact hA5, hA15, by omega⟩, by omega, hcm, by omega, fun i hi => ?_, hmon⟩, hx5⟩
    obtain ⟨hOi, hne, hge⟩ := hO i hi
    have hlt := hOi.lt
    refine ⟨((hOi.ex hx3).ex hx4).grown hgr (fun e => hne e.symm), fun e => ?_⟩
    rcases hown with h1 | h1
    · exact hne (by rw [e]; exact h1)
    · have := h1 b3 rfl; omega
theorem ok_LeftInts : CallOK Tryd.prog 23 := callOK Tryd.func23 (by kernel_rfl) rfl
theorem ok_LeftIntLists : CallOK Tryd.prog 11 := callOK Tryd.func11 (by kernel_rfl) rfl
theorem LeftInts_ct (b c : Nat) (l : List Int) (y : Value) (w : World) (hT : TwI w b c l) (hy : Ints w y l) :
    Ct Tryd.prog 23 #[sv b l.length c, y] w fun x w' => x = .bool true ∧ Ex w w' := by
  have hI := hT.ints
  obtain ⟨sp, hA, hc, he, h63, hm⟩ := hT
  have hS : Sl w (sv b (l.length + 1) c) (l.map (Value.int .i64) ++ [.int .i64 77]) := by
    have := hA.sl (n := l.length + 1) (c := c) (by simp) (by omega) (by omega)
    have e : (l.map (Value.int .i64) ++ .int .i64 77 :: sp).take (l.length + 1) = l.map (Value.int .i64) ++ [.int .i64 77] := by
      rw [List.take_append, List.take_of_length_le (by simp)]; simp
    rwa [e] at this
  refine enter (N := 45) (vs := [sv b l.length c, y]) Tryd.func23 rfl rfl rfl ?_
  repeat (first | (refine isO ?_; first | refine s_move ?_ | refine s_assign ?_ | (refine isG ?_; refine g_yes rfl rfl ?_) | (refine isBin ?_; refine s_neqF rfl rfl (by omega) ?_) | (refine isCall ?_; refine s_lenI sl_ints rfl (by assumption) ?_)) | (refine isC ?_; first | refine c_sr ?_ | refine c_seq ?_) | (refine l_th ?_))
  refine s_cap (a := some ⟨b, 0, none⟩) (n := l.length) (c := c) sl_ints rfl ?_
  repeat (first | (refine isO ?_; first | refine s_move ?_ | refine s_assign ?_ | (refine isG ?_; refine g_yes rfl rfl ?_) | (refine isBin ?_; refine s_leqF rfl rfl (by omega) ?_) | (refine isCall ?_; refine s_lenI sl_ints rfl (by assumption) ?_) | (refine isPick ?_; refine s_pickf rfl rfl ?_)) | (refine isC ?_; first | refine c_sr ?_ | refine c_th ?_ | refine c_seq ?_ | refine c_iff rfl ?_ | refine c_block ?_) | (refine l_th ?_))
  refine c_loop (γ := Nat) 17179344944 (fun k => [(5, .int .i64 (k : Int))]) (fun k W => k ≤ l.length ∧ Ex w W) (fun k => l.length - k) 0 ⟨rfl, trivial⟩ ⟨Nat.zero_le _, Ex.refl _⟩ ?_
  rintro k ρ W ⟨hk, hx⟩
  have hyW := hy.ex hx
  repeat (first | (refine isO ?_; first | refine s_move ?_ | (refine isBin ?_; refine s_lss rfl rfl ?_) | (refine isCall ?_; refine s_lenI sl_ints rfl (by assumption) ?_)) | (refine isC ?_; first | refine c_sr ?_ | refine c_seq ?_) | (refine l_th ?_))
  refine c_ifd rfl (fun h => ?_) (fun h => ?_)
  · have hk' : k < l.length := by omega
    repeat ((refine isC ?_; first | refine c_th ?_ | refine c_seq ?_ | refine c_block ?_))
    refine c_drawO hx 9 8 [(0, true), (1, true), (2, true), (3, true), (4, true), (5, true), (6, true), (7, true), (8, true)] mixed (by kernel_rfl) ?_
    refine d_move rfl ?_
    refine d_move rfl ?_
    refine d_iaI (n := k) rfl sl_ints ty_int rfl rfl hI hk' ?_
    intro ad1 hc1
    refine d_ld rfl ty_int rfl hc1 ?_
    refine d_move rfl ?_
    refine d_move rfl ?_
    refine d_iaI (n := k) rfl sl_ints ty_int rfl rfl hy hk' ?_
    intro ad2 hc2
    refine d_ld rfl ty_int rfl hc2 ?_
    refine d_neq rfl rfl rfl ?_
    refine d_re (v' := .bool false) (vbool (by simp)) ?_
    refine d_nil ?_
    repeat (first | (refine isO ?_; first | refine s_move ?_ | refine s_assign ?_ | (refine isBin ?_; refine s_inc rfl (by omega) ?_)) | (refine isC ?_; first | refine c_region ?_ | refine c_iff rfl ?_ | refine c_skip ?_) | (refine l_th ?_))
    exact loop_end (k + 1) (by (repeat (first | exact agree_refl _ _ | refine agree_upd rfl ?_ | refine agree_ext rfl ?_ | refine agree_mask rfl ?_))) ⟨rfl, trivial⟩ ⟨hk', hx.trans (Ex.drew W)⟩ (by omega)
  · have hSW := hS.ex hx
    repeat (first | (refine isO ?_; first | refine s_move ?_ | (refine isBin ?_; refine s_inc rfl (by omega) ?_) | (refine isCall ?_; refine s_lenI sl_ints rfl (by assumption) ?_)) | (refine isC ?_; first | refine c_sr ?_ | refine c_exit ?_))
    refine s_head (hi := l.length + 1) sl_ints ty_int rfl (vint (by omega)) (by omega) ?_
    repeat ((refine isO ?_; first | refine s_move ?_ | (refine isCall ?_; refine s_lenI sl_ints rfl (by assumption) ?_)))
    refine s_ix (n := l.length) (u := .int .i64 77) sl_ints ty_int rfl rfl rfl hSW (by rw [List.getElem?_append_right (by simp)]; simp) ?_
    intro _
    repeat (first | (refine isO ?_; first | refine s_move ?_ | refine s_assign ?_ | (refine isBin ?_; refine s_eqlT rfl rfl (by omega) ?_)) | (refine isC ?_; first | refine c_sr ?_ | refine c_ret ?_) | (refine l_th ?_))
    exact ret1 rfl rfl ⟨rfl, hx⟩
theorem LeftIntLists_ct (b c : Nat) (rb rc : Nat → Nat) (g : List (List Int)) (y : Value) (w : World) (hT : TwL w b c rb rc g) (hy : Rows w y g) :
    Ct Tryd.prog 11 #[sv b g.length c, y] w fun x w' => x = .bool true ∧ Ex w w' := by
  have hsl := hT.sl
  obtain ⟨⟨eb, sp, hA, hE, he⟩, hc, h63, hm, hR, _⟩ := hT
  have hS : Sl w (sv b (g.length + 1) c) ((List.range g.length).map (fun i => sv (rb i) (g.getD i []).length (rc i)) ++ [sv eb 1 1]) := by
    have := hA.sl (n := g.length + 1) (c := c) (by simp) (by omega) (by omega)
    have e : ((List.range g.length).map (fun i => sv (rb i) (g.getD i []).length (rc i)) ++ sv eb 1 1 :: sp).take (g.length + 1) = (List.range g.length).map (fun i => sv (rb i) (g.getD i []).length (rc i)) ++ [sv eb 1 1] := by
      rw [List.take_append, List.take_of_length_le (by simp)]; simp
    rwa [e] at this
  have hIE : Ints w (sv eb 1 1) [77] := hE.one
  refine enter (N := 53) (vs := [sv b g.length c, y]) Tryd.func11 rfl rfl rfl ?_
  repeat (first | (refine isO ?_; first | refine s_move ?_ | refine s_assign ?_ | (refine isG ?_; refine g_yes rfl rfl ?_) | (refine isBin ?_; refine s_neqF rfl rfl (by omega) ?_) | (refine isCall ?_; first | refine s_lenR sl_rows rfl (by assumption) ?_ | refine s_len sl_rows rfl ?_)) | (refine isC ?_; first | refine c_sr ?_ | refine c_seq ?_) | (refine l_th ?_))
  refine s_cap (a := some ⟨b, 0, none⟩) (n := g.length) (c := c) sl_rows rfl ?_
  repeat (first | (refine isO ?_; first | refine s_move ?_ | refine s_assign ?_ | (refine isG ?_; refine g_yes rfl rfl ?_) | (refine isBin ?_; refine s_leqF rfl rfl (by omega) ?_) | (refine isCall ?_; refine s_lenR sl_rows rfl (by assumption) ?_) | (refine isPick ?_; refine s_pickf rfl rfl ?_)) | (refine isC ?_; first | refine c_sr ?_ | refine c_th ?_ | refine c_seq ?_ | refine c_iff rfl ?_ | refine c_block ?_) | (refine l_th ?_))
  refine c_loop (γ := Nat) 34359214128 (fun k => [(5, .int .i64 (k : Int))]) (fun k W => k ≤ g.length ∧ Ex w W) (fun k => g.length - k) 0 ⟨rfl, trivial⟩ ⟨Nat.zero_le _, Ex.refl _⟩ ?_
  rintro k ρ W ⟨hk, hx⟩
  have hyW := hy.ex hx
  repeat (first | (refine isO ?_; first | refine s_move ?_ | (refine isBin ?_; refine s_lss rfl rfl ?_) | (refine isCall ?_; refine s_lenR sl_rows rfl (by assumption) ?_)) | (refine isC ?_; first | refine c_sr ?_ | refine c_seq ?_) | (refine l_th ?_))
  refine c_ifd rfl (fun h => ?_) (fun h => ?_)
  · have hk' : k < g.length := by omega
    repeat ((refine isC ?_; first | refine c_th ?_ | refine c_seq ?_ | refine c_block ?_))
    refine c_drawO hx 10 8 [(0, true), (1, true), (2, true), (3, true), (4, true), (5, true), (6, true), (7, true), (8, false), (9, true)] mixed (by kernel_rfl) ?_
    refine d_move rfl ?_
    refine d_move rfl ?_
    refine d_ia (n := k) (u := sv (rb k) (g.getD k []).length (rc k)) rfl sl_rows ty_ints rfl rfl hsl (by simp [hk']) ?_
    intro ad1 hc1
    refine d_ld rfl ty_ints rfl hc1 ?_
    refine d_move rfl ?_
    refine d_move rfl ?_
    refine d_iaR (n := k) rfl sl_rows ty_ints rfl rfl hy hk' ?_
    intro ad2 r2 hc2 hr2
    refine d_ld rfl ty_ints rfl hc2 ?_
    have hxd := hx.trans (Ex.drew W)
    refine d_ch rfl ?_
    refine s_call ok_LeftInts rfl (LeftInts_ct (rb k) (rc k) (g.getD k []) r2 W.drew ((hR k hk').1.ex hxd) (hr2.ex hxd)) ?_
    rintro v w1 ⟨rfl, hx1⟩
    refine l_nil ⟨rfl, .inr (hxd.trans hx1), ?_⟩
    refine d_not rfl rfl ?_
    refine d_nil ?_
    repeat (first | (refine isO ?_; first | refine s_move ?_ | refine s_assign ?_ | (refine isBin ?_; refine s_inc rfl (by omega) ?_)) | (refine isC ?_; first | refine c_region ?_ | refine c_iff rfl ?_ | refine c_skip ?_) | (refine l_th ?_))
    exact loop_end (k + 1) (by (repeat (first | exact agree_refl _ _ | refine agree_upd rfl ?_ | refine agree_ext rfl ?_ | refine agree_mask rfl ?_))) ⟨rfl, trivial⟩ ⟨hk', hxd.trans hx1⟩ (by omega)
  · have hSW := hS.ex hx
    have hIW := hIE.ex hx
    repeat (first | (refine isO ?_; first | refine s_move ?_ | (refine isBin ?_; refine s_inc rfl (by omega) ?_) | (refine isCall ?_; refine s_lenR sl_rows rfl (by assumption) ?_)) | (refine isC ?_; first | refine c_sr ?_ | refine c_exit ?_))
    refine s_head (hi := g.length + 1) sl_rows ty_ints rfl (vint (by omega)) (by omega) ?_
    repeat ((refine isO ?_; first | refine s_move ?_ | (refine isCall ?_; refine s_lenR sl_rows rfl (by assumption) ?_)))
    refine s_ix (n := g.length) (u := sv eb 1 1) sl_rows ty_ints rfl rfl rfl hSW (by rw [List.getElem?_append_right (by simp)]; simp) ?_
    intro _
    repeat (first | (refine isO ?_; first | refine s_move ?_ | refine s_assign ?_ | (refine isG ?_; refine g_yes rfl rfl ?_) | (refine isBin ?_; refine s_eql rfl rfl ?_) | (refine isCall ?_; refine s_lenI sl_ints rfl (by assumption) ?_)) | (refine isC ?_; refine c_sr ?_) | (refine l_th ?_))
    refine s_iaI (n := 0) sl_ints ty_int rfl rfl hIW (by simp) ?_
    intro ad hc1
    refine g_yes rfl rfl ?_
    have hc2 : W.cell? ad = some (.int .i64 77) := hc1
    refine s_ld ty_int rfl hc2 ?_
    repeat (first | (refine isO ?_; first | refine s_assign ?_ | (refine isG ?_; refine g_yes rfl rfl ?_) | (refine isBin ?_; refine s_eqlT rfl rfl (by omega) ?_) | (refine isPick ?_; refine s_pickt rfl rfl ?_)) | (refine isC ?_; refine c_ret ?_) | (refine l_th ?_))
    exact ret1 rfl rfl ⟨rfl, hx⟩
end Go.Proofs.YtifbgpkjbciblaaDoor.Sal
end
section
/- graphs.edges$1: what it hands to yield. -/
set_option maxRecDepth 100000
namespace Go.Proofs.YtifbgpkjbciblaaDoor.Sal
open Go.RowKit
attribute [local irreducible] Go.Code.wpIn Go.wpListIn Ct Ints Rows Sl At Rw WJ
set_option linter.all false
/-- What the iterator reads, the values of the rows told. -/
def ES (c : Nat) (gv : Value) (vs : List Value) (g : List (List Int)) (W : World) : Prop :=
  W.cell? ⟨c, 0, none⟩ = some gv ∧ Sl W gv vs ∧ vs.length = g.length ∧ ∀ (i : Nat) (u : Value) (l : List Int), vs[i]? = some u → g[i]? = some l → Ints W u l
theorem ES.kc {c : Nat} {gv : Value} {vs : List Value} {g : List (List Int)} {w w' : World} (h : ES c gv vs g w) (hk : KC w w') : ES c gv vs g w' :=
  ⟨hk.1 _ _ h.1, hk.sl h.2.1, h.2.2.1, fun i u l hu hl => hk.ints (h.2.2.2 i u l hu hl)⟩
theorem ES.of {c : Nat} {gv : Value} {vs : List Value} {g : List (List Int)} {w W : World} (hc : W.cell? ⟨c, 0, none⟩ = some gv) (hv : Sl w gv vs ∧ vs.length = g.length ∧ ∀ (i : Nat) (u : Value) (l : List Int), vs[i]? = some u → g[i]? = some l → Ints w u l) (hx : Ex w W) : ES c gv vs g W :=
  ⟨hc, hv.1.ex hx, hv.2.1, fun i u l hu hl => (hv.2.2 i u l hu hl).ex hx⟩
end Go.Proofs.YtifbgpkjbciblaaDoor.Sal
end
section
/- graphs.Fits. -/
set_option maxRecDepth 100000
namespace Go.Proofs.YtifbgpkjbciblaaDoor.Sal
open Go.RowKit
attribute [local irreducible] Go.Code.wpIn Go.wpListIn Ct Ints Rows Sl At Rw WJ
set_option linter.all false
structure PreF (R : Nat → Nat → Bool) (n : Nat) (has : List Int) (k : Nat) : Prop where
  ok : ∀ i, i < k → has.getD i (-1) = -1 ∨ ∃ q : Nat, q < n ∧ has.getD i (-1) = (q : Int) ∧ R i q = true
  inj : ∀ i j, i < k → j < k → has.getD i (-1) = has.getD j (-1) → has.getD i (-1) ≠ -1 → i = j
theorem getD_m1 {has : List Int} {k : Nat} (hk : k < has.length) : has.getD k (-1) = has.getD k 0 := by simp [List.getD_eq_getElem?_getD, hk]
theorem PreF.all {R : Nat → Nat → Bool} {m n : Nat} {has : List Int} (h : FitR R m n has) {k : Nat} (hk : k ≤ m) : PreF R n has k :=
  ⟨fun i hi => h.ok i (by omega), fun i j hi hj => h.inj i j (by omega) (by omega)⟩
theorem PreF.none {R : Nat → Nat → Bool} {n : Nat} {has : List Int} {k : Nat} (h : PreF R n has k) (hk : k < has.length) (h1 : has.getD k 0 = -1) : PreF R n has (k + 1) := by
  have e := getD_m1 hk
  refine ⟨fun i hi => ?_, fun i j hi hj he hne => ?_⟩
  · by_cases hik : i = k
    · subst hik; exact .inl (by omega)
    · exact h.ok i (by omega)
  · by_cases hik : i = k
    · subst hik; omega
    · by_cases hjk : j = k
      · subst hjk; omega
      · exact h.inj i j (by omega) (by omega) he hne
theorem PreF.some {R : Nat → Nat → Bool} {n : Nat} {has : List Int} {k q : Nat} (h : PreF R n has k) (hk : k < has.length) (hq : q < n) (h1 : has.getD k 0 = (q : Int)) (hR : R k q = true) (hno : (has.take k).contains (q : Int) = false) : PreF R n has (k + 1) := by
  have e := getD_m1 hk
  have hnot : ∀ i, i < k → has.getD i (-1) ≠ (q : Int) := fun i hi hv => by
    have hil : i < has.length := by omega
    have : (has.take k).contains (q : Int) = true := by
      rw [List.contains_iff_mem, ← hv, List.getD_eq_getElem?_getD, List.getElem?_eq_getElem hil]
      refine List.mem_iff_getElem?.2 ⟨i, ?_⟩
      rw [List.getElem?_take, if_pos hi, List.getElem?_eq_getElem hil]; rfl
    rw [this] at hno; cases hno
  refine ⟨fun i hi => ?_, fun i j hi hj he hne => ?_⟩
  · by_cases hik : i = k
    · subst hik; exact .inr ⟨q, hq, by omega, hR⟩
    · exact h.ok i (by omega)
  · by_cases hik : i = k
    · by_cases hjk : j = k
      · omega
      · subst hik
        exact absurd (by omega) (hnot j (by omega))
    · by_cases hjk : j = k
      · subst hjk
        exact absurd (by omega) (hnot i (by omega))
      · exact h.inj i j (by omega) (by omega) he hne
end Go.Proofs.YtifbgpkjbciblaaDoor.Sal
end
section
/- graphs.Turned. -/
set_option maxRecDepth 100000
namespace Go.Proofs.YtifbgpkjbciblaaDoor.Sal
open Go.RowKit
attribute [local irreducible] Go.Code.wpIn Go.wpListIn Ct Ints Rows Sl At Rw WJ
set_option linter.all false
theorem Rw.one {w : World} {E : TypeId} {v : Value} {vs : List Value} (h : Rw w E v vs) : v.oneCell' = true := by
  obtain ⟨a, c, rfl⟩ := h.slen; rfl
end Go.Proofs.YtifbgpkjbciblaaDoor.Sal
end
section
/- salesroomlaw06.alive. -/
set_option maxRecDepth 100000
namespace Go.Proofs.YtifbgpkjbciblaaDoor.Sal
open Go.RowKit
attribute [local irreducible] Go.Code.wpIn Go.wpListIn Ct Ints Rows Sl At Rw WJ
set_option linter.all false
theorem At.two {w : World} {b : Nat} {E : TypeId} {p q : Int} (h : At w b E [.int .i64 p, .int .i64 q]) : Ints w (sv b 2 2) [p, q] := At.ints (l := [p, q]) (c := 2) h (by simp) (by simp)
end Go.Proofs.YtifbgpkjbciblaaDoor.Sal
end
section
/- What the laws of the graphs have in common. -/
set_option maxRecDepth 100000
namespace Go.Proofs.YtifbgpkjbciblaaDoor.Sal
open Go.RowKit
attribute [local irreducible] Go.Code.wpIn Go.wpListIn Ct Ints Rows Sl At Rw WJ
set_option linter.all false
theorem ok_IntsSize : CallOK Tryd.prog 15 := callOK Tryd.func15 (by kernel_rfl) rfl
theorem IntsSize_ct (v : Value) (l : List Int) (w : World) (hl : Ints w v l) : Ct Tryd.prog 15 #[v] w fun u w' => u = .int .i64 (l.length : Int) ∧ Ex w w' := by
  have hlen := hl.len
  refine enter (N := 5) (vs := [v]) Tryd.func15 rfl rfl rfl ?_
  repeat (first | (refine isO ?_; first | refine s_move ?_ | refine s_assign ?_ | (refine isCall ?_; refine s_lenI sl_ints rfl (by assumption) ?_)) | (refine isC ?_; first | refine c_sr ?_ | refine c_ret ?_) | (refine l_th ?_))
  exact ret1 rfl rfl ⟨rfl, Ex.refl _⟩
section
variable {r : Option Nat} {P : Program} {J : World → Prop} {z : Nat} {Q : Exit → Act → World → Prop} {N : Nat} {σ : Nat → Value} {ds : List Deferred} {w : World}
variable {gd : Option (Nat × Bool)} {ops : Array Oper} {i d : Nat} {π : List (Nat × Bool)} {ty : TypeId} {pos : String} {after : Array Edge} {t t' : TypeId} {x y : Operand}
end
end Go.Proofs.YtifbgpkjbciblaaDoor.Sal
end
section
/- What the laws that ask the document's answer have in common: sizes, memory of one's own. -/
set_option maxRecDepth 100000
namespace Go.Proofs.YtifbgpkjbciblaaDoor.Sal
open Go.RowKit
set_option linter.all false
/-- A list, lists, that lie in memory that was laid since some world. -/
def OwI (w0 w : World) (v : Value) (l : List Int) : Prop := Wd w 3 1 v l.length (l.map (Value.int .i64)) ∧ ∀ b, v.ownBlock = some b → w0.heap.size ≤ b
structure OwL (w0 w : World) (v : Value) (us : List Value) (A : List (List Int)) : Prop where
  len : us.length = A.length
  out : Wd w 30 1 v A.length us
  row : ∀ (j : Nat) (u : Value), us[j]? = some u → Wd w 3 1 u (A.getD j []).length ((A.getD j []).map (Value.int .i64)) ∧ (∃ a k c, u = .slice a k c)
  low : ∀ (j : Nat) (u : Value) (b : Nat), us[j]? = some u → u.ownBlock = some b → w0.heap.size ≤ b ∧ v.ownBlock ≠ some b
  dis : ∀ (i j : Nat) (u x : Value) (b : Nat), us[i]? = some u → us[j]? = some x → i ≠ j → u.ownBlock = some b → x.ownBlock ≠ some b
  lov : ∀ b, v.ownBlock = some b → w0.heap.size ≤ b
theorem OwI.ex {w0 w w' : World} {v : Value} {l : List Int} (h : OwI w0 w v l) (hx : Ex w w') : OwI w0 w' v l := ⟨h.1.ex hx, h.2⟩
theorem OwL.ex {w0 w w' : World} {v : Value} {us : List Value} {A : List (List Int)} (h : OwL w0 w v us A) (hx : Ex w w') : OwL w0 w' v us A := ⟨h.len, h.out.ex hx, fun j u hu => ⟨(h.row j u hu).1.ex hx, (h.row j u hu).2⟩, h.low, h.dis, h.lov⟩
theorem OwI.nil (w0 w : World) : OwI w0 w (.slice none 0 0) [] := ⟨Wd.nil _ _ _, fun b h => by cases h⟩
theorem OwL.nil (w0 w : World) : OwL w0 w (.slice none 0 0) [] [] := ⟨rfl, Wd.nil _ _ _, fun j u h => by simp at h, fun j u b h => by simp at h, fun i j u x b h => by simp at h, fun b h => by cases h⟩
theorem TwI.ow {w0 w : World} {b c : Nat} {l : List Int} (h : TwI w b c l) (hb : w0.heap.size ≤ b) : OwI w0 w (sv b l.length c) l := ⟨h.wd, fun b' e => by cases e; exact hb⟩
theorem TwL.ow {w0 w : World} {b c : Nat} {rb rc : Nat → Nat} {g : List (List Int)} (h : TwL w b c rb rc g) (hb : w0.heap.size ≤ b) (hr : ∀ i, i < g.length → w0.heap.size ≤ rb i) : OwL w0 w (sv b g.length c) ((List.range g.length).map (fun i => sv (rb i) (g.getD i []).length (rc i))) g := by
  have hw := h.wd
  obtain ⟨_, _, _, _, h7, h8⟩ := h
  have key : ∀ j u, ((List.range g.length).map (fun i => sv (rb i) (g.getD i []).length (rc i)))[j]? = some u → j < g.length ∧ u = sv (rb j) (g.getD j []).length (rc j) := fun j u hu => by
    have hj := (List.getElem?_eq_some_iff.1 hu).1
    simp only [List.length_map, List.length_range] at hj
    simp only [List.getElem?_map, List.getElem?_range hj, Option.map_some, Option.some.injEq] at hu
    exact ⟨hj, hu.symm⟩
  refine ⟨by simp, hw, fun j u hu => ?_, fun j u b' hu e => ?_, fun i j u x b' hu hx hij e e2 => ?_, fun b' e => by cases e; exact hb⟩
  · obtain ⟨hj, rfl⟩ := key j u hu
    exact ⟨(h7 j hj).1.wd, _, _, _, rfl⟩
  · obtain ⟨hj, rfl⟩ := key j u hu
    cases e
    exact ⟨hr j hj, fun e => (h7 j hj).2 (by cases e; rfl)⟩
  · obtain ⟨hi, rfl⟩ := key i u hu
    obtain ⟨hj, rfl⟩ := key j x hx
    have e3 : rb i = b' := by cases e; rfl
    have e4 : rb j = b' := by cases e2; rfl
    rcases Nat.lt_or_ge i j with h9 | h9
    · have := h8 i j h9 hj; omega
    · have := h8 j i (by omega) hi; omega
theorem wd_lit {w : World} {E : TypeId} {b n : Nat} {cs : List Value} (hl : cs.length = n) (h : At w b E cs) (hn : n ≤ 100000) : Wd w E 1 (sv b n n) n cs := ⟨by omega, .inr ⟨b, n, [], rfl, by simpa using h, Nat.le_refl _, by omega, by simp; omega⟩⟩
attribute [local irreducible] Go.Code.wpIn Go.wpListIn Ct Ints Rows Sl At Rw WJ
attribute [local irreducible] Wd
theorem IntListsSizeW_ct (v : Value) (g : List (List Int)) (w : World) (hg : Rows w v g) : Ct Tryd.prog 4 #[v] w fun u w' => (∃ n : Int, u = .int .i64 n ∧ (n ≤ 3000 → g.length ≤ 3000 ∧ ∀ i, i < g.length → (g.getD i []).length ≤ 3000)) ∧ Ex w w' := by
  have hlen := hg.len
  refine enter (N := 25) (vs := [v]) Tryd.func4 rfl rfl rfl ?_
  repeat (first | (refine isO ?_; first | refine s_move ?_ | refine s_assign ?_ | (refine isCall ?_; refine s_lenR sl_rows rfl (by assumption) ?_)) | (refine isC ?_; first | refine c_sr ?_ | refine c_seq ?_ | refine c_block ?_) | (refine l_th ?_))
  refine c_loop2 16777112 (fun (i : Nat) (q : Int) => [(4, .int .i64 (i : Int)), (3, .int .i64 q)]) (fun i q w' => i ≤ g.length ∧ (0 ≤ q ∧ q ≤ 300000000000000 ∧ (g.length : Int) ≤ q ∧ ∀ j, j < i → ((g.getD j []).length : Int) ≤ q) ∧ Ex w w') (fun i _ => g.length - i) 0 (g.length : Int) ⟨rfl, rfl, trivial⟩ ⟨Nat.zero_le _, ⟨by omega, by omega, Int.le_refl _, fun j h => by omega⟩, Ex.refl _⟩ ?_
  rintro i q ρ w1 ⟨hi, ⟨hq1, hq2, hq3, hq4⟩, hx1⟩
  have hg1 := hg.ex hx1
  by_cases h1 : (i : Int) < (g.length : Int)
  · by_cases h2 : q ≤ 1048576
    · have hi' : i < g.length := by omega
      have hrl := hg.rowlen i
      repeat (first | (refine isO ?_; first | refine s_move ?_ | (refine isG ?_; refine g_yes rfl rfl ?_) | (refine isBin ?_; first | refine s_lssT rfl rfl (by omega) ?_ | refine s_leqT rfl rfl (by omega) ?_) | (refine isCall ?_; refine s_lenR sl_rows rfl (by assumption) ?_) | (refine isPick ?_; refine s_pickt rfl rfl ?_)) | (refine isC ?_; first | refine c_sr ?_ | refine c_th ?_ | refine c_seq ?_ | refine c_region ?_ | refine c_ift rfl ?_ | refine c_block ?_) | (refine l_th ?_))
      refine s_ixR sl_rows ty_ints rfl rfl rfl hg1 hi' ?_
      intro _ u hu
      refine s_call ok_IntsSize rfl (IntsSize_ct u _ w1 hu) ?_
      rintro x w2 ⟨rfl, hx2⟩
      repeat (first | (refine isO ?_; first | refine s_move ?_ | refine s_assign ?_ | (refine isBin ?_; first | refine s_inc rfl (by omega) ?_ | refine s_add rfl rfl ⟨by omega, by omega⟩ ?_)) | (refine isC ?_; refine c_region ?_) | (first | refine l_th ?_ | refine l_nil ?_))
      refine loop_end2 (i + 1) _ (by (repeat (first | exact agree_refl _ _ | refine agree_upd rfl ?_ | refine agree_ext rfl ?_ | refine agree_mask rfl ?_))) ⟨rfl, rfl, trivial⟩ ⟨hi', ⟨by omega, by omega, by omega, fun j hj => ?_⟩, hx1.trans hx2⟩ (by omega)
      by_cases e : j = i
      · subst e; omega
      · have := hq4 j (by omega); omega
    · repeat (first | (refine isO ?_; first | refine s_move ?_ | refine s_assign ?_ | (refine isG ?_; refine g_yes rfl rfl ?_) | (refine isBin ?_; first | refine s_lssT rfl rfl (by omega) ?_ | refine s_leqF rfl rfl (by omega) ?_) | (refine isCall ?_; refine s_lenR sl_rows rfl (by assumption) ?_) | (refine isPick ?_; refine s_pickt rfl rfl ?_)) | (refine isC ?_; first | refine c_sr ?_ | refine c_seq ?_ | refine c_iff rfl ?_ | refine c_ret ?_ | refine c_exit ?_) | (refine l_th ?_))
      exact ret1 rfl rfl ⟨⟨_, rfl, fun h => by omega⟩, hx1⟩
  · repeat (first | (refine isO ?_; first | refine s_move ?_ | refine s_assign ?_ | (refine isG ?_; refine g_no rfl rfl rfl ?_) | (refine isBin ?_; refine s_lssF rfl rfl (by omega) ?_) | (refine isCall ?_; refine s_lenR sl_rows rfl (by assumption) ?_) | (refine isPick ?_; refine s_pickf rfl rfl ?_)) | (refine isC ?_; first | refine c_sr ?_ | refine c_seq ?_ | refine c_iff rfl ?_ | refine c_ret ?_ | refine c_exit ?_) | (refine l_th ?_))
    refine ret1 rfl rfl ⟨⟨_, rfl, fun h => ⟨by omega, fun j hj => ?_⟩⟩, hx1⟩
    have := hq4 j (by omega); omega
end Go.Proofs.YtifbgpkjbciblaaDoor.Sal
end
section
/- Weights: the program's answers and the document's are one, whatever comes in. -/
set_option maxRecDepth 100000
namespace Go.Proofs.YtifbgpkjbciblaaDoor.Sal
open Go.RowKit
set_option linter.all false
def bestS (g : List (List Int)) (n : Int) : Int × Int := if checkG g n = true then (VV g n.toNat, 0) else (0, 1)
def provS (g : List (List Int)) (n : Int) : List Int × List Int × Int := if checkG g n = true then (uL g n.toNat, pL g n.toNat, 0) else ([], [], 1)
theorem check_nat {g : List (List Int)} {n : Int} (h : checkG g n = true) : n = (n.toNat : Int) ∧ n.toNat ≤ 8 ∧ g.length ≤ 8 := by
  obtain ⟨m, h1, h2, h3, h4⟩ := check_good h
  subst h1
  exact ⟨rfl, h3, h4.few⟩
theorem own_tabnW {w : World} {b n : Nat} {f : Nat → Int} {l : List Int} (hl : (List.range n).map f = l) (h : At w b 3 (tabn n f)) (hm : n ≤ 1000) : Wd w 3 1 (sv b n n) l.length (l.map (Value.int .i64)) := by
  have hn : l.length = n := by rw [← hl]; simp
  rw [hn]
  refine wd_lit (by simp [hn]) ?_ (by omega)
  rw [← hl, ← tabn_ints]; exact h
attribute [local irreducible] Go.Code.wpIn Go.wpListIn Ct Ints Rows Sl At Rw WJ
attribute [local irreducible] Wd
theorem Best_all (gv : Value) (g : List (List Int)) (n : Int) (w : World) (hg : Rows w gv g) :
    Ct Tryd.prog 6 #[gv, .int .i64 n] w fun u w' => u = .tuple #[.int .i64 (bestS g n).1, .int .i64 (bestS g n).2] ∧ Ex w w' := by
  unfold bestS
  by_cases hc : checkG g n = true
  · rw [if_pos hc]
    have h1 := (check_nat hc).1
    have hct := Best_ok gv g n.toNat w hg (by rw [← h1]; exact hc)
    rw [← h1] at hct
    exact hct
  · rw [if_neg hc]
    exact Best_bad gv g n w hg (by simpa using hc)
theorem Best10_all (gv : Value) (g : List (List Int)) (n : Int) (w : World) (hg : Rows w gv g) :
    Ct Tryd.prog 7 #[gv, .int .i64 n] w fun u w' => u = .tuple #[.int .i64 (bestS g n).1, .int .i64 (bestS g n).2] ∧ Ex w w' := by
  unfold bestS
  by_cases hc : checkG g n = true
  · rw [if_pos hc]
    have h1 := (check_nat hc).1
    have hct := Best10_ok gv g n.toNat w hg (by rw [← h1]; exact hc)
    rw [← h1] at hct
    exact hct
  · rw [if_neg hc]
    exact Best10_bad gv g n w hg (by simpa using hc)
theorem Proved_all (gv : Value) (g : List (List Int)) (n : Int) (w : World) (hg : Rows w gv g) :
    Ct Tryd.prog 8 #[gv, .int .i64 n] w fun u w' => ∃ v8 v9, u = .tuple #[v8, v9, .int .i64 (provS g n).2.2] ∧ OwI w w' v8 (provS g n).1 ∧ OwI w w' v9 (provS g n).2.1 ∧ (∀ b, v8.ownBlock = some b → v9.ownBlock ≠ some b) ∧ (provS g n).1.length ≤ 8 ∧ (provS g n).2.1.length ≤ 8 ∧ Ex w w' := by
  unfold provS
  by_cases hc : checkG g n = true
  · rw [if_pos hc]
    obtain ⟨h1, h2, h3⟩ := check_nat hc
    have hct := Proved_ok gv g n.toNat w hg (by rw [← h1]; exact hc)
    rw [← h1] at hct
    refine hct.mono fun u w' ⟨b1, b2, hu, hb1, hb12, hA1, hA2, hx⟩ => ?_
    refine ⟨_, _, hu, ⟨own_tabnW rfl hA2 (by omega), fun b hb => ?_⟩, ⟨own_tabnW rfl hA1 (by omega), fun b hb => ?_⟩, fun b hb hb' => ?_, by rw [uL_len]; exact h3, by rw [pL_len]; exact h2, hx⟩
    · have e : b2 = b := by cases hb; rfl
      omega
    · have e : b1 = b := by cases hb; rfl
      omega
    · have e : b2 = b := by cases hb; rfl
      have e2 : b1 = b := by cases hb'; rfl
      omega
  · rw [if_neg hc]
    exact (Proved_bad gv g n w hg (by simpa using hc)).mono fun u w' ⟨hu, hx⟩ => ⟨_, _, hu, OwI.nil _ _, OwI.nil _ _, fun b hb => (by cases hb), by simp, by simp, hx⟩
theorem Proved10_all (gv : Value) (g : List (List Int)) (n : Int) (w : World) (hg : Rows w gv g) :
    Ct Tryd.prog 9 #[gv, .int .i64 n] w fun u w' => ∃ v8 v9, u = .tuple #[v8, v9, .int .i64 (provS g n).2.2] ∧ Ints w' v8 (provS g n).1 ∧ Ints w' v9 (provS g n).2.1 ∧ Ex w w' := by
  unfold provS
  by_cases hc : checkG g n = true
  · rw [if_pos hc]
    obtain ⟨h1, h2, h3⟩ := check_nat hc
    have hct := Proved10_ok gv g n.toNat w hg (by rw [← h1]; exact hc)
    rw [← h1] at hct
    exact hct
  · rw [if_neg hc]
    exact (Proved10_bad gv g n w hg (by simpa using hc)).mono fun u w' ⟨hu, hx⟩ => ⟨_, _, hu, Ints.nil _, Ints.nil _, hx⟩
end Go.Proofs.YtifbgpkjbciblaaDoor.Sal
end
section
/- What a Book is told, one by one; that it finds all apart. -/
set_option maxRecDepth 100000
namespace Go.Proofs.YtifbgpkjbciblaaDoor.Sal
open Go.RowKit
set_option linter.all false
def BkQ (lo : Nat) (wB w : World) (bk M top : Nat) : Prop :=
  ∃ (ns nl : List Nat) (L : Nat → Value) (ln : Nat → Nat) (vi vl : Value), Bk wB w bk M ns nl L vi vl ∧ (∀ q ∈ ns, ∃ xs, Wd wB 3 1 (L q) (ln q) xs) ∧ (∀ q ∈ nl, ∃ xs, Wd wB 30 1 (L q) (ln q) xs) ∧ ns.length ≤ M ∧ nl.length ≤ M ∧
    (∀ q, (q ∈ ns ∨ q ∈ nl) → q ≤ M ∧ ln q ≤ 100000 ∧ ∀ b, (L q).ownBlock = some b → lo ≤ b ∧ b < top) ∧ ns.Nodup ∧ nl.Nodup ∧ (∀ p ∈ ns, ∀ q ∈ nl, p ≠ q) ∧
    ∀ p q, (p ∈ ns ∨ p ∈ nl) → (q ∈ ns ∨ q ∈ nl) → p ≠ q → ∀ b, (L p).ownBlock = some b → (L q).ownBlock ≠ some b
theorem Bk.congr {wB w : World} {bk M : Nat} {ns nl : List Nat} {L L' : Nat → Value} {vi vl : Value} (h : Bk wB w bk M ns nl L vi vl) (he : ∀ q, (q ∈ ns ∨ q ∈ nl) → L q = L' q) : Bk wB w bk M ns nl L' vi vl := by
  refine ⟨h.ex, h.lo, h.hd, ?_, ?_, h.oi, h.ol⟩
  · have := h.wi
    rwa [flat3_congr ns (fun q hq => ⟨he q (.inl hq), rfl⟩)] at this
  · have := h.wl
    rwa [flat3_congr nl (fun q hq => ⟨he q (.inr hq), rfl⟩)] at this
theorem BkQ.init {lo : Nat} {wB w : World} {bk top : Nat} (hx : Ex wB w) (hl : wB.heap.size ≤ bk) (hA : At w bk 45 (bkc 0 nilV nilV)) : BkQ lo wB w bk 0 top :=
  ⟨[], [], fun _ => nilV, fun _ => 0, nilV, nilV, ⟨hx, hl, hA, Wd.nil _ _ _, Wd.nil _ _ _, fun b h => (by cases h), fun b h => (by cases h)⟩, fun q h => (by cases h), fun q h => (by cases h), Nat.le_refl _, Nat.le_refl _, fun q h => (by rcases h with h | h <;> cases h), List.nodup_nil, List.nodup_nil, fun p h => (by cases h), fun p q h => (by rcases h with h | h <;> cases h)⟩
theorem BkQ.exd {lo : Nat} {wB w w' : World} {bk M top : Nat} (h : BkQ lo wB w bk M top) (hx : Ex w w') : BkQ lo wB w' bk M top := by
  obtain ⟨ns, nl, L, ln, vi, vl, h1, h2⟩ := h
  exact ⟨ns, nl, L, ln, vi, vl, h1.exd hx, h2⟩
theorem mem_upN {M k q : Nat} : q ∈ upN M k ↔ ∃ j, j < k ∧ q = M + 1 + j := by
  unfold upN
  rw [List.mem_map]
  constructor
  · rintro ⟨j, h1, h2⟩; exact ⟨j, List.mem_range.1 h1, h2.symm⟩
  · rintro ⟨j, h1, h2⟩; exact ⟨j, List.mem_range.2 h1, h2.symm⟩
theorem upN_nodup (M k : Nat) : (upN M k).Nodup := by
  unfold upN
  refine List.pairwise_map.2 (List.pairwise_lt_range.imp fun h => ?_)
  omega
def setL (L : Nat → Value) (M : Nat) (us : List Value) (v : Value) (q : Nat) : Value := if M < q ∧ q ≤ M + us.length then us.getD (q - M - 1) v else if q = M + us.length + 1 then v else L q
def setN (ln : Nat → Nat) (M k : Nat) (f : Nat → Nat) (n : Nat) (q : Nat) : Nat := if M < q ∧ q ≤ M + k then f (q - M - 1) else if q = M + k + 1 then n else ln q
theorem setL_row {L : Nat → Value} {M : Nat} {us : List Value} {v : Value} {j : Nat} {u : Value} (h : us[j]? = some u) : setL L M us v (M + 1 + j) = u := by
  have hj := (List.getElem?_eq_some_iff.1 h).1
  unfold setL
  rw [if_pos ⟨by omega, by omega⟩]
  have e : M + 1 + j - M - 1 = j := by omega
  rw [e, List.getD_eq_getElem?_getD, h]; rfl
theorem setL_out (L : Nat → Value) (M : Nat) (us : List Value) (v : Value) : setL L M us v (M + us.length + 1) = v := by
  unfold setL
  rw [if_neg (by omega), if_pos rfl]
theorem setL_old {L : Nat → Value} {M : Nat} {us : List Value} {v : Value} {q : Nat} (h : q ≤ M) : setL L M us v q = L q := by
  unfold setL
  rw [if_neg (by omega), if_neg (by omega)]
theorem setN_row (ln : Nat → Nat) (M : Nat) {k j : Nat} (f : Nat → Nat) (n : Nat) (h : j < k) : setN ln M k f n (M + 1 + j) = f j := by
  unfold setN
  rw [if_pos ⟨by omega, by omega⟩]
  congr 1; omega
theorem setN_out (ln : Nat → Nat) (M k : Nat) (f : Nat → Nat) (n : Nat) : setN ln M k f n (M + k + 1) = n := by
  unfold setN
  rw [if_neg (by omega), if_pos rfl]
theorem setN_old {ln : Nat → Nat} {M k : Nat} {f : Nat → Nat} {n q : Nat} (h : q ≤ M) : setN ln M k f n q = ln q := by
  unfold setN
  rw [if_neg (by omega), if_neg (by omega)]
attribute [local irreducible] Go.Code.wpIn Go.wpListIn Ct Ints Rows Sl At Rw WJ
attribute [local irreducible] Wd
theorem bqIntLists_ct (lo : Nat) (wk wB w : World) (bk M top top' : Nat) (v : Value) (us : List Value) (A : List (List Int)) (h : BkQ lo wB w bk M top) (hv : OwL wk wB v us A) (ht : top ≤ wk.heap.size) (hlo : lo ≤ wk.heap.size) (htt : top ≤ top') (hr : ∀ (j : Nat) u b, us[j]? = some u → Value.ownBlock u = some b → b < top') (hvt : ∀ b, v.ownBlock = some b → b < top') (hA : A.length ≤ 20000) (hA2 : ∀ j, (A.getD j []).length ≤ 100000) (hM : M ≤ 20000) :
    Ct Tryd.prog 12 #[.pointer (some ⟨bk, 0, none⟩), v] w fun u w' => u = .tuple #[] ∧ BkQ lo wB w' bk (M + us.length + 1) top' := by
  obtain ⟨ns, nl, L, ln, vi, vl, hB, h1, h2, h3, h4, h5, h6, h7, h8, h9⟩ := h
  have hlen := hv.len
  have hB' : Bk wB w bk M ns nl (setL L M us v) vi vl := hB.congr fun q hq => (setL_old (h5 q hq).1).symm
  have hsl : Sl wB v us := hv.out.sl (by omega)
  refine (bIntLists_ct wB bk M ns nl (setL L M us v) vi vl us v w hB' hsl (fun j u hu => ⟨(hv.row j u hu).2, setL_row hu⟩) (setL_out L M us v) (by omega) (by omega) (by omega)).mono fun u w' ⟨hu, vi', vl', hB2⟩ => ?_
  have new : ∀ q, (q ∈ upN M us.length) → ∃ j x, j < us.length ∧ us[j]? = some x ∧ q = M + 1 + j ∧ setL L M us v q = x := fun q hq => by
    obtain ⟨j, hj, rfl⟩ := mem_upN.1 hq
    have hj2 : us[j]? = some us[j] := List.getElem?_eq_getElem hj
    exact ⟨j, us[j], hj, hj2, rfl, setL_row hj2⟩
  have cls : ∀ q, (q ∈ ns ++ upN M us.length ∨ q ∈ nl ++ [M + us.length + 1]) → ((q ∈ ns ∨ q ∈ nl) ∧ setL L M us v q = L q) ∨ (∃ j x, j < us.length ∧ us[j]? = some x ∧ q = M + 1 + j ∧ setL L M us v q = x) ∨ (q = M + us.length + 1 ∧ setL L M us v q = v) := fun q hq => by
    simp only [List.mem_append, List.mem_singleton] at hq
    rcases hq with (hq | hq) | (hq | hq)
    · exact .inl ⟨.inl hq, setL_old (h5 q (.inl hq)).1⟩
    · exact .inr (.inl (new q hq))
    · exact .inl ⟨.inr hq, setL_old (h5 q (.inr hq)).1⟩
    · subst hq; exact .inr (.inr ⟨rfl, setL_out L M us v⟩)
  refine ⟨hu, _, _, setL L M us v, setN ln M us.length (fun j => (A.getD j []).length) A.length, vi', vl', hB2, fun q hq => ?_, fun q hq => ?_, ?_, ?_, fun q hq => ?_, ?_, ?_, fun p hp q hq => ?_, fun p q hp hq hpq b hb => ?_⟩
  · rcases List.mem_append.1 hq with hq | hq
    · have h10 := (h5 q (.inl hq)).1
      rw [setL_old h10, setN_old h10]; exact h1 q hq
    · obtain ⟨j, x, hj, hx, rfl, e⟩ := new q hq
      rw [e, setN_row ln M _ _ hj]
      exact ⟨_, (hv.row j x hx).1⟩
  · rcases List.mem_append.1 hq with hq | hq
    · have h10 := (h5 q (.inr hq)).1
      rw [setL_old h10, setN_old h10]; exact h2 q hq
    · simp at hq; subst hq
      rw [setL_out, setN_out]
      exact ⟨_, hv.out⟩
  · rw [List.length_append, upN_len]; omega
  · rw [List.length_append, List.length_singleton]; omega
  · rcases cls q hq with ⟨hq, e⟩ | ⟨j, x, hj, hx, rfl, e⟩ | ⟨rfl, e⟩
    · have h10 := h5 q hq
      rw [e, setN_old h10.1]
      exact ⟨by omega, h10.2.1, fun b hb => ⟨(h10.2.2 b hb).1, by have := (h10.2.2 b hb).2; omega⟩⟩
    · rw [e, setN_row ln M _ _ hj]
      exact ⟨by omega, hA2 j, fun b hb => ⟨by have := (hv.low j x b hx hb).1; omega, hr j x b hx hb⟩⟩
    · rw [e, setN_out]
      exact ⟨Nat.le_refl _, by omega, fun b hb => ⟨by have := hv.lov b hb; omega, hvt b hb⟩⟩
  · refine List.nodup_append.2 ⟨h6, upN_nodup _ _, fun p hp q hq e => ?_⟩
    subst e
    obtain ⟨j, hj, e⟩ := mem_upN.1 hq
    have := (h5 p (.inl hp)).1; omega
  · refine List.nodup_append.2 ⟨h7, by simp, fun p hp q hq e => ?_⟩
    subst e
    simp at hq
    have := (h5 p (.inr hp)).1; omega
  · intro e
    subst e
    rcases List.mem_append.1 hp with hp | hp <;> rcases List.mem_append.1 hq with hq | hq
    · exact h8 p hp p hq rfl
    · simp at hq; have := (h5 p (.inl hp)).1; omega
    · obtain ⟨j, hj, e⟩ := mem_upN.1 hp
      have := (h5 p (.inr hq)).1; omega
    · simp at hq
      obtain ⟨j, hj, e⟩ := mem_upN.1 hp
      omega
  · intro hb2
    rcases cls p hp with ⟨hp', e⟩ | ⟨j, x, hj, hx, hpe, e⟩ | ⟨hpe, e⟩ <;> rcases cls q hq with ⟨hq', e'⟩ | ⟨j', x', hj', hx', hqe, e'⟩ | ⟨hqe, e'⟩ <;> rw [e] at hb <;> rw [e'] at hb2
    · exact h9 p q hp' hq' hpq b hb hb2
    · have := ((h5 p hp').2.2 b hb).2; have := (hv.low j' x' b hx' hb2).1; omega
    · have := ((h5 p hp').2.2 b hb).2; have := hv.lov b hb2; omega
    · have := ((h5 q hq').2.2 b hb2).2; have := (hv.low j x b hx hb).1; omega
    · exact hv.dis j j' x x' b hx hx' (fun e3 => hpq (by omega)) hb hb2
    · exact (hv.low j x b hx hb).2 hb2
    · have := ((h5 q hq').2.2 b hb2).2; have := hv.lov b hb; omega
    · exact (hv.low j' x' b hx' hb2).2 hb
    · exact hpq (by omega)
theorem bqApart_ct (lo : Nat) (w0 wB w : World) (bk M top : Nat) (h : BkQ lo wB w bk M top) (h0 : Ex w0 wB) (hlo : w0.heap.size ≤ lo) (ht : top ≤ wB.heap.size) (hM : M ≤ 100000) :
    Ct Tryd.prog 14 #[.pointer (some ⟨bk, 0, none⟩)] w fun u w' => u = .bool true ∧ Ex w0 w' := by
  obtain ⟨ns, nl, L, ln, vi, vl, hB, h1, h2, h3, h4, h5, h6, h7, h8, h9⟩ := h
  refine (Apart_ct wB bk M ns nl L ln vi vl w hB (fun q hq => let ⟨xs, hx⟩ := h1 q hq; ⟨xs, hx.ex hB.ex⟩) (fun q hq => let ⟨xs, hx⟩ := h2 q hq; ⟨xs, hx.ex hB.ex⟩) (by omega) (by omega) (fun q hq => by have := (h5 q (List.mem_append.1 hq)).1; omega) (fun q hq => (h5 q (List.mem_append.1 hq)).2.1) (List.nodup_append.2 ⟨h6, h7, h8⟩) (fun p hp q hq => h9 p q (List.mem_append.1 hp) (List.mem_append.1 hq)) (fun q hq b hb => by have := ((h5 q (List.mem_append.1 hq)).2.2 b hb).2; omega)).mono fun u w' ⟨hu, hk⟩ => ⟨hu, KtS.ex (h0.trans hB.ex) hk (fun b hb => ?_)⟩
  have := h0.size
  rcases hb with ⟨q, hq, hb⟩ | hb
  · have := ((h5 q (List.mem_append.1 hq)).2.2 b hb).1; omega
  · omega
end Go.Proofs.YtifbgpkjbciblaaDoor.Sal
end
