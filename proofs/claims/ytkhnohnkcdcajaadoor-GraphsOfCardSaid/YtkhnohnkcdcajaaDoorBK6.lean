/- The Book of salesroomlaw01: the kinds that lie empty; Apart. -/
import Derived.Test.YtkhnohnkcdcajaaDoorBK5
set_option maxRecDepth 100000
namespace Go.Proofs.YtkhnohnkcdcajaaDoor.Sal
open Go.RowKit
attribute [local irreducible] Go.Code.wpIn Go.wpListIn Ct Ints Rows Sl At Rw WJ
attribute [local irreducible] Wd
set_option linter.all false
theorem ty_eByte : Ty1 Tryd.prog 39 := ⟨let ⟨i, h, _, hs, _⟩ := info_parts (show (Tryd.prog.info? 39).map (fun i => (i.zero, i.size, i.bytes)) = some (some (.slice none 0 0), 1, 24) by kernel_rfl); ⟨i, h, hs⟩, _, Tryd.underlying39, rfl⟩
theorem sl_eByte : SlT Tryd.prog 39 71 := Tryd.underlying39
theorem ok_fillByte : CallOK Tryd.prog 35 := callOK Tryd.func35 (by kernel_rfl) rfl
theorem fillByte_ct (bk M : Nat) (vi vl : Value) (w : World) (hA : At w bk 49 (bkc M vi vl)) : Ct Tryd.prog 35 #[.pointer (some ⟨bk, 0, none⟩)] w fun u w' => u = .tuple #[] ∧ Ex w w' := by
  refine enter (N := 35) (vs := [.pointer (some ⟨bk, 0, none⟩)]) Tryd.func35 rfl rfl rfl ?_
  repeat (first | (refine isO ?_; first | refine s_move ?_ | refine s_assign ?_) | (refine isC ?_; first | refine c_sr ?_ | refine c_th ?_ | refine c_seq ?_ | refine c_region ?_ | refine c_ift rfl ?_ | refine c_iff rfl ?_ | refine c_block ?_ | refine c_ret ?_ | refine c_exit ?_ | refine c_skip ?_) | (first | refine l_th ?_ | refine th_norm ?_ | refine ib_norm ?_ | refine l_nil ?_ | refine th_ret ?_ | refine ib_ret ?_ | refine ib_exit ?_ | refine th_exit ?_ | refine ib_pass rfl ?_))
  refine c_loop (γ := Unit) 34359738364 (fun _ => [(2, .int .i64 0)]) (fun _ W => Ex w W) (fun _ => 0) () ⟨rfl, trivial⟩ (Ex.refl _) ?_
  rintro _ ρ W hx
  repeat (first | (refine isO ?_; first | refine s_move ?_ | refine s_assign ?_) | (refine isC ?_; first | refine c_sr ?_ | refine c_th ?_ | refine c_seq ?_ | refine c_region ?_ | refine c_ift rfl ?_ | refine c_iff rfl ?_ | refine c_block ?_ | refine c_ret ?_ | refine c_exit ?_ | refine c_skip ?_) | (first | refine l_th ?_ | refine th_norm ?_ | refine ib_norm ?_ | refine l_nil ?_ | refine th_ret ?_ | refine ib_ret ?_ | refine ib_exit ?_ | refine th_exit ?_ | refine ib_pass rfl ?_))
  refine s_nil rfl ?_
  refine s_faN Tryd.underlying49 rfl ty_eByte.n rfl ?_
  refine s_ldA ty_eByte rfl (hA.ex hx) rfl ?_
  refine s_len (n := 0) (a := none) (c := 0) sl_eByte rfl ?_
  refine s_lssF rfl rfl (by omega) ?_
  repeat (first | (refine isO ?_; first | refine s_move ?_ | refine s_assign ?_) | (refine isC ?_; first | refine c_sr ?_ | refine c_th ?_ | refine c_seq ?_ | refine c_region ?_ | refine c_ift rfl ?_ | refine c_iff rfl ?_ | refine c_block ?_ | refine c_ret ?_ | refine c_exit ?_ | refine c_skip ?_) | (first | refine l_th ?_ | refine th_norm ?_ | refine ib_norm ?_ | refine l_nil ?_ | refine th_ret ?_ | refine ib_ret ?_ | refine ib_exit ?_ | refine th_exit ?_ | refine ib_pass rfl ?_))
  exact end0 rfl ⟨rfl, hx⟩
theorem ok_growByte : CallOK Tryd.prog 44 := callOK Tryd.func44 (by kernel_rfl) rfl
theorem growByte_ct (bk M : Nat) (vi vl : Value) (w : World) (hA : At w bk 49 (bkc M vi vl)) : Ct Tryd.prog 44 #[.pointer (some ⟨bk, 0, none⟩)] w fun u w' => u = .tuple #[] ∧ Ex w w' := by
  refine enter (N := 42) (vs := [.pointer (some ⟨bk, 0, none⟩)]) Tryd.func44 rfl rfl rfl ?_
  repeat (first | (refine isO ?_; first | refine s_move ?_ | refine s_assign ?_) | (refine isC ?_; first | refine c_sr ?_ | refine c_th ?_ | refine c_seq ?_ | refine c_region ?_ | refine c_ift rfl ?_ | refine c_iff rfl ?_ | refine c_block ?_ | refine c_ret ?_ | refine c_exit ?_ | refine c_skip ?_) | (first | refine l_th ?_ | refine th_norm ?_ | refine ib_norm ?_ | refine l_nil ?_ | refine th_ret ?_ | refine ib_ret ?_ | refine ib_exit ?_ | refine th_exit ?_ | refine ib_pass rfl ?_))
  refine c_loop (γ := Unit) 4398046511100 (fun _ => [(2, .int .i64 0)]) (fun _ W => Ex w W) (fun _ => 0) () ⟨rfl, trivial⟩ (Ex.refl _) ?_
  rintro _ ρ W hx
  repeat (first | (refine isO ?_; first | refine s_move ?_ | refine s_assign ?_) | (refine isC ?_; first | refine c_sr ?_ | refine c_th ?_ | refine c_seq ?_ | refine c_region ?_ | refine c_ift rfl ?_ | refine c_iff rfl ?_ | refine c_block ?_ | refine c_ret ?_ | refine c_exit ?_ | refine c_skip ?_) | (first | refine l_th ?_ | refine th_norm ?_ | refine ib_norm ?_ | refine l_nil ?_ | refine th_ret ?_ | refine ib_ret ?_ | refine ib_exit ?_ | refine th_exit ?_ | refine ib_pass rfl ?_))
  refine s_nil rfl ?_
  refine s_faN Tryd.underlying49 rfl ty_eByte.n rfl ?_
  refine s_ldA ty_eByte rfl (hA.ex hx) rfl ?_
  refine s_len (n := 0) (a := none) (c := 0) sl_eByte rfl ?_
  refine s_lssF rfl rfl (by omega) ?_
  repeat (first | (refine isO ?_; first | refine s_move ?_ | refine s_assign ?_) | (refine isC ?_; first | refine c_sr ?_ | refine c_th ?_ | refine c_seq ?_ | refine c_region ?_ | refine c_ift rfl ?_ | refine c_iff rfl ?_ | refine c_block ?_ | refine c_ret ?_ | refine c_exit ?_ | refine c_skip ?_) | (first | refine l_th ?_ | refine th_norm ?_ | refine ib_norm ?_ | refine l_nil ?_ | refine th_ret ?_ | refine ib_ret ?_ | refine ib_exit ?_ | refine th_exit ?_ | refine ib_pass rfl ?_))
  exact end0 rfl ⟨rfl, hx⟩
theorem ok_lookByte : CallOK Tryd.prog 53 := callOK Tryd.func53 (by kernel_rfl) rfl
theorem lookByte_ct (bk M : Nat) (vi vl : Value) (w : World) (hA : At w bk 49 (bkc M vi vl)) : Ct Tryd.prog 53 #[.pointer (some ⟨bk, 0, none⟩)] w fun u w' => u = .bool true ∧ Ex w w' := by
  refine enter (N := 64) (vs := [.pointer (some ⟨bk, 0, none⟩)]) Tryd.func53 rfl rfl rfl ?_
  repeat (first | (refine isO ?_; first | refine s_move ?_ | refine s_assign ?_) | (refine isC ?_; first | refine c_sr ?_ | refine c_th ?_ | refine c_seq ?_ | refine c_region ?_ | refine c_ift rfl ?_ | refine c_iff rfl ?_ | refine c_block ?_ | refine c_ret ?_ | refine c_exit ?_ | refine c_skip ?_) | (first | refine l_th ?_ | refine th_norm ?_ | refine ib_norm ?_ | refine l_nil ?_ | refine th_ret ?_ | refine ib_ret ?_ | refine ib_exit ?_ | refine th_exit ?_ | refine ib_pass rfl ?_))
  refine c_loop (γ := Unit) 18446744073709551612 (fun _ => [(3, .int .i64 0)]) (fun _ W => Ex w W) (fun _ => 0) () ⟨rfl, trivial⟩ (Ex.refl _) ?_
  rintro _ ρ W hx
  repeat (first | (refine isO ?_; first | refine s_move ?_ | refine s_assign ?_) | (refine isC ?_; first | refine c_sr ?_ | refine c_th ?_ | refine c_seq ?_ | refine c_region ?_ | refine c_ift rfl ?_ | refine c_iff rfl ?_ | refine c_block ?_ | refine c_ret ?_ | refine c_exit ?_ | refine c_skip ?_) | (first | refine l_th ?_ | refine th_norm ?_ | refine ib_norm ?_ | refine l_nil ?_ | refine th_ret ?_ | refine ib_ret ?_ | refine ib_exit ?_ | refine th_exit ?_ | refine ib_pass rfl ?_))
  refine s_nil rfl ?_
  refine s_faN Tryd.underlying49 rfl ty_eByte.n rfl ?_
  refine s_ldA ty_eByte rfl (hA.ex hx) rfl ?_
  refine s_len (n := 0) (a := none) (c := 0) sl_eByte rfl ?_
  refine s_lssF rfl rfl (by omega) ?_
  repeat (first | (refine isO ?_; first | refine s_move ?_ | refine s_assign ?_) | (refine isC ?_; first | refine c_sr ?_ | refine c_th ?_ | refine c_seq ?_ | refine c_region ?_ | refine c_ift rfl ?_ | refine c_iff rfl ?_ | refine c_block ?_ | refine c_ret ?_ | refine c_exit ?_ | refine c_skip ?_) | (first | refine l_th ?_ | refine th_norm ?_ | refine ib_norm ?_ | refine l_nil ?_ | refine th_ret ?_ | refine ib_ret ?_ | refine ib_exit ?_ | refine th_exit ?_ | refine ib_pass rfl ?_))
  exact ret1 rfl rfl ⟨rfl, hx⟩
theorem ty_eText : Ty1 Tryd.prog 41 := ⟨let ⟨i, h, _, hs, _⟩ := info_parts (show (Tryd.prog.info? 41).map (fun i => (i.zero, i.size, i.bytes)) = some (some (.slice none 0 0), 1, 24) by kernel_rfl); ⟨i, h, hs⟩, _, Tryd.underlying41, rfl⟩
theorem sl_eText : SlT Tryd.prog 41 76 := Tryd.underlying41
theorem ok_fillText : CallOK Tryd.prog 37 := callOK Tryd.func37 (by kernel_rfl) rfl
theorem fillText_ct (bk M : Nat) (vi vl : Value) (w : World) (hA : At w bk 49 (bkc M vi vl)) : Ct Tryd.prog 37 #[.pointer (some ⟨bk, 0, none⟩)] w fun u w' => u = .tuple #[] ∧ Ex w w' := by
  refine enter (N := 35) (vs := [.pointer (some ⟨bk, 0, none⟩)]) Tryd.func37 rfl rfl rfl ?_
  repeat (first | (refine isO ?_; first | refine s_move ?_ | refine s_assign ?_) | (refine isC ?_; first | refine c_sr ?_ | refine c_th ?_ | refine c_seq ?_ | refine c_region ?_ | refine c_ift rfl ?_ | refine c_iff rfl ?_ | refine c_block ?_ | refine c_ret ?_ | refine c_exit ?_ | refine c_skip ?_) | (first | refine l_th ?_ | refine th_norm ?_ | refine ib_norm ?_ | refine l_nil ?_ | refine th_ret ?_ | refine ib_ret ?_ | refine ib_exit ?_ | refine th_exit ?_ | refine ib_pass rfl ?_))
  refine c_loop (γ := Unit) 34359738364 (fun _ => [(2, .int .i64 0)]) (fun _ W => Ex w W) (fun _ => 0) () ⟨rfl, trivial⟩ (Ex.refl _) ?_
  rintro _ ρ W hx
  repeat (first | (refine isO ?_; first | refine s_move ?_ | refine s_assign ?_) | (refine isC ?_; first | refine c_sr ?_ | refine c_th ?_ | refine c_seq ?_ | refine c_region ?_ | refine c_ift rfl ?_ | refine c_iff rfl ?_ | refine c_block ?_ | refine c_ret ?_ | refine c_exit ?_ | refine c_skip ?_) | (first | refine l_th ?_ | refine th_norm ?_ | refine ib_norm ?_ | refine l_nil ?_ | refine th_ret ?_ | refine ib_ret ?_ | refine ib_exit ?_ | refine th_exit ?_ | refine ib_pass rfl ?_))
  refine s_nil rfl ?_
  refine s_faN Tryd.underlying49 rfl ty_eText.n rfl ?_
  refine s_ldA ty_eText rfl (hA.ex hx) rfl ?_
  refine s_len (n := 0) (a := none) (c := 0) sl_eText rfl ?_
  refine s_lssF rfl rfl (by omega) ?_
  repeat (first | (refine isO ?_; first | refine s_move ?_ | refine s_assign ?_) | (refine isC ?_; first | refine c_sr ?_ | refine c_th ?_ | refine c_seq ?_ | refine c_region ?_ | refine c_ift rfl ?_ | refine c_iff rfl ?_ | refine c_block ?_ | refine c_ret ?_ | refine c_exit ?_ | refine c_skip ?_) | (first | refine l_th ?_ | refine th_norm ?_ | refine ib_norm ?_ | refine l_nil ?_ | refine th_ret ?_ | refine ib_ret ?_ | refine ib_exit ?_ | refine th_exit ?_ | refine ib_pass rfl ?_))
  exact end0 rfl ⟨rfl, hx⟩
theorem ok_growText : CallOK Tryd.prog 46 := callOK Tryd.func46 (by kernel_rfl) rfl
theorem growText_ct (bk M : Nat) (vi vl : Value) (w : World) (hA : At w bk 49 (bkc M vi vl)) : Ct Tryd.prog 46 #[.pointer (some ⟨bk, 0, none⟩)] w fun u w' => u = .tuple #[] ∧ Ex w w' := by
  refine enter (N := 42) (vs := [.pointer (some ⟨bk, 0, none⟩)]) Tryd.func46 rfl rfl rfl ?_
  repeat (first | (refine isO ?_; first | refine s_move ?_ | refine s_assign ?_) | (refine isC ?_; first | refine c_sr ?_ | refine c_th ?_ | refine c_seq ?_ | refine c_region ?_ | refine c_ift rfl ?_ | refine c_iff rfl ?_ | refine c_block ?_ | refine c_ret ?_ | refine c_exit ?_ | refine c_skip ?_) | (first | refine l_th ?_ | refine th_norm ?_ | refine ib_norm ?_ | refine l_nil ?_ | refine th_ret ?_ | refine ib_ret ?_ | refine ib_exit ?_ | refine th_exit ?_ | refine ib_pass rfl ?_))
  refine c_loop (γ := Unit) 4398046511100 (fun _ => [(2, .int .i64 0)]) (fun _ W => Ex w W) (fun _ => 0) () ⟨rfl, trivial⟩ (Ex.refl _) ?_
  rintro _ ρ W hx
  repeat (first | (refine isO ?_; first | refine s_move ?_ | refine s_assign ?_) | (refine isC ?_; first | refine c_sr ?_ | refine c_th ?_ | refine c_seq ?_ | refine c_region ?_ | refine c_ift rfl ?_ | refine c_iff rfl ?_ | refine c_block ?_ | refine c_ret ?_ | refine c_exit ?_ | refine c_skip ?_) | (first | refine l_th ?_ | refine th_norm ?_ | refine ib_norm ?_ | refine l_nil ?_ | refine th_ret ?_ | refine ib_ret ?_ | refine ib_exit ?_ | refine th_exit ?_ | refine ib_pass rfl ?_))
  refine s_nil rfl ?_
  refine s_faN Tryd.underlying49 rfl ty_eText.n rfl ?_
  refine s_ldA ty_eText rfl (hA.ex hx) rfl ?_
  refine s_len (n := 0) (a := none) (c := 0) sl_eText rfl ?_
  refine s_lssF rfl rfl (by omega) ?_
  repeat (first | (refine isO ?_; first | refine s_move ?_ | refine s_assign ?_) | (refine isC ?_; first | refine c_sr ?_ | refine c_th ?_ | refine c_seq ?_ | refine c_region ?_ | refine c_ift rfl ?_ | refine c_iff rfl ?_ | refine c_block ?_ | refine c_ret ?_ | refine c_exit ?_ | refine c_skip ?_) | (first | refine l_th ?_ | refine th_norm ?_ | refine ib_norm ?_ | refine l_nil ?_ | refine th_ret ?_ | refine ib_ret ?_ | refine ib_exit ?_ | refine th_exit ?_ | refine ib_pass rfl ?_))
  exact end0 rfl ⟨rfl, hx⟩
theorem ok_lookText : CallOK Tryd.prog 55 := callOK Tryd.func55 (by kernel_rfl) rfl
theorem lookText_ct (bk M : Nat) (vi vl : Value) (w : World) (hA : At w bk 49 (bkc M vi vl)) : Ct Tryd.prog 55 #[.pointer (some ⟨bk, 0, none⟩)] w fun u w' => u = .bool true ∧ Ex w w' := by
  refine enter (N := 64) (vs := [.pointer (some ⟨bk, 0, none⟩)]) Tryd.func55 rfl rfl rfl ?_
  repeat (first | (refine isO ?_; first | refine s_move ?_ | refine s_assign ?_) | (refine isC ?_; first | refine c_sr ?_ | refine c_th ?_ | refine c_seq ?_ | refine c_region ?_ | refine c_ift rfl ?_ | refine c_iff rfl ?_ | refine c_block ?_ | refine c_ret ?_ | refine c_exit ?_ | refine c_skip ?_) | (first | refine l_th ?_ | refine th_norm ?_ | refine ib_norm ?_ | refine l_nil ?_ | refine th_ret ?_ | refine ib_ret ?_ | refine ib_exit ?_ | refine th_exit ?_ | refine ib_pass rfl ?_))
  refine c_loop (γ := Unit) 18446744073709551612 (fun _ => [(3, .int .i64 0)]) (fun _ W => Ex w W) (fun _ => 0) () ⟨rfl, trivial⟩ (Ex.refl _) ?_
  rintro _ ρ W hx
  repeat (first | (refine isO ?_; first | refine s_move ?_ | refine s_assign ?_) | (refine isC ?_; first | refine c_sr ?_ | refine c_th ?_ | refine c_seq ?_ | refine c_region ?_ | refine c_ift rfl ?_ | refine c_iff rfl ?_ | refine c_block ?_ | refine c_ret ?_ | refine c_exit ?_ | refine c_skip ?_) | (first | refine l_th ?_ | refine th_norm ?_ | refine ib_norm ?_ | refine l_nil ?_ | refine th_ret ?_ | refine ib_ret ?_ | refine ib_exit ?_ | refine th_exit ?_ | refine ib_pass rfl ?_))
  refine s_nil rfl ?_
  refine s_faN Tryd.underlying49 rfl ty_eText.n rfl ?_
  refine s_ldA ty_eText rfl (hA.ex hx) rfl ?_
  refine s_len (n := 0) (a := none) (c := 0) sl_eText rfl ?_
  refine s_lssF rfl rfl (by omega) ?_
  repeat (first | (refine isO ?_; first | refine s_move ?_ | refine s_assign ?_) | (refine isC ?_; first | refine c_sr ?_ | refine c_th ?_ | refine c_seq ?_ | refine c_region ?_ | refine c_ift rfl ?_ | refine c_iff rfl ?_ | refine c_block ?_ | refine c_ret ?_ | refine c_exit ?_ | refine c_skip ?_) | (first | refine l_th ?_ | refine th_norm ?_ | refine ib_norm ?_ | refine l_nil ?_ | refine th_ret ?_ | refine ib_ret ?_ | refine ib_exit ?_ | refine th_exit ?_ | refine ib_pass rfl ?_))
  exact ret1 rfl rfl ⟨rfl, hx⟩
theorem ty_eByteList : Ty1 Tryd.prog 43 := ⟨let ⟨i, h, _, hs, _⟩ := info_parts (show (Tryd.prog.info? 43).map (fun i => (i.zero, i.size, i.bytes)) = some (some (.slice none 0 0), 1, 24) by kernel_rfl); ⟨i, h, hs⟩, _, Tryd.underlying43, rfl⟩
theorem sl_eByteList : SlT Tryd.prog 43 81 := Tryd.underlying43
theorem ok_fillByteList : CallOK Tryd.prog 39 := callOK Tryd.func39 (by kernel_rfl) rfl
theorem fillByteList_ct (bk M : Nat) (vi vl : Value) (w : World) (hA : At w bk 49 (bkc M vi vl)) : Ct Tryd.prog 39 #[.pointer (some ⟨bk, 0, none⟩)] w fun u w' => u = .tuple #[] ∧ Ex w w' := by
  refine enter (N := 35) (vs := [.pointer (some ⟨bk, 0, none⟩)]) Tryd.func39 rfl rfl rfl ?_
  repeat (first | (refine isO ?_; first | refine s_move ?_ | refine s_assign ?_) | (refine isC ?_; first | refine c_sr ?_ | refine c_th ?_ | refine c_seq ?_ | refine c_region ?_ | refine c_ift rfl ?_ | refine c_iff rfl ?_ | refine c_block ?_ | refine c_ret ?_ | refine c_exit ?_ | refine c_skip ?_) | (first | refine l_th ?_ | refine th_norm ?_ | refine ib_norm ?_ | refine l_nil ?_ | refine th_ret ?_ | refine ib_ret ?_ | refine ib_exit ?_ | refine th_exit ?_ | refine ib_pass rfl ?_))
  refine c_loop (γ := Unit) 34359738364 (fun _ => [(2, .int .i64 0)]) (fun _ W => Ex w W) (fun _ => 0) () ⟨rfl, trivial⟩ (Ex.refl _) ?_
  rintro _ ρ W hx
  repeat (first | (refine isO ?_; first | refine s_move ?_ | refine s_assign ?_) | (refine isC ?_; first | refine c_sr ?_ | refine c_th ?_ | refine c_seq ?_ | refine c_region ?_ | refine c_ift rfl ?_ | refine c_iff rfl ?_ | refine c_block ?_ | refine c_ret ?_ | refine c_exit ?_ | refine c_skip ?_) | (first | refine l_th ?_ | refine th_norm ?_ | refine ib_norm ?_ | refine l_nil ?_ | refine th_ret ?_ | refine ib_ret ?_ | refine ib_exit ?_ | refine th_exit ?_ | refine ib_pass rfl ?_))
  refine s_nil rfl ?_
  refine s_faN Tryd.underlying49 rfl ty_eByteList.n rfl ?_
  refine s_ldA ty_eByteList rfl (hA.ex hx) rfl ?_
  refine s_len (n := 0) (a := none) (c := 0) sl_eByteList rfl ?_
  refine s_lssF rfl rfl (by omega) ?_
  repeat (first | (refine isO ?_; first | refine s_move ?_ | refine s_assign ?_) | (refine isC ?_; first | refine c_sr ?_ | refine c_th ?_ | refine c_seq ?_ | refine c_region ?_ | refine c_ift rfl ?_ | refine c_iff rfl ?_ | refine c_block ?_ | refine c_ret ?_ | refine c_exit ?_ | refine c_skip ?_) | (first | refine l_th ?_ | refine th_norm ?_ | refine ib_norm ?_ | refine l_nil ?_ | refine th_ret ?_ | refine ib_ret ?_ | refine ib_exit ?_ | refine th_exit ?_ | refine ib_pass rfl ?_))
  exact end0 rfl ⟨rfl, hx⟩
theorem ok_growByteList : CallOK Tryd.prog 48 := callOK Tryd.func48 (by kernel_rfl) rfl
theorem growByteList_ct (bk M : Nat) (vi vl : Value) (w : World) (hA : At w bk 49 (bkc M vi vl)) : Ct Tryd.prog 48 #[.pointer (some ⟨bk, 0, none⟩)] w fun u w' => u = .tuple #[] ∧ Ex w w' := by
  refine enter (N := 42) (vs := [.pointer (some ⟨bk, 0, none⟩)]) Tryd.func48 rfl rfl rfl ?_
  repeat (first | (refine isO ?_; first | refine s_move ?_ | refine s_assign ?_) | (refine isC ?_; first | refine c_sr ?_ | refine c_th ?_ | refine c_seq ?_ | refine c_region ?_ | refine c_ift rfl ?_ | refine c_iff rfl ?_ | refine c_block ?_ | refine c_ret ?_ | refine c_exit ?_ | refine c_skip ?_) | (first | refine l_th ?_ | refine th_norm ?_ | refine ib_norm ?_ | refine l_nil ?_ | refine th_ret ?_ | refine ib_ret ?_ | refine ib_exit ?_ | refine th_exit ?_ | refine ib_pass rfl ?_))
  refine c_loop (γ := Unit) 4398046511100 (fun _ => [(2, .int .i64 0)]) (fun _ W => Ex w W) (fun _ => 0) () ⟨rfl, trivial⟩ (Ex.refl _) ?_
  rintro _ ρ W hx
  repeat (first | (refine isO ?_; first | refine s_move ?_ | refine s_assign ?_) | (refine isC ?_; first | refine c_sr ?_ | refine c_th ?_ | refine c_seq ?_ | refine c_region ?_ | refine c_ift rfl ?_ | refine c_iff rfl ?_ | refine c_block ?_ | refine c_ret ?_ | refine c_exit ?_ | refine c_skip ?_) | (first | refine l_th ?_ | refine th_norm ?_ | refine ib_norm ?_ | refine l_nil ?_ | refine th_ret ?_ | refine ib_ret ?_ | refine ib_exit ?_ | refine th_exit ?_ | refine ib_pass rfl ?_))
  refine s_nil rfl ?_
  refine s_faN Tryd.underlying49 rfl ty_eByteList.n rfl ?_
  refine s_ldA ty_eByteList rfl (hA.ex hx) rfl ?_
  refine s_len (n := 0) (a := none) (c := 0) sl_eByteList rfl ?_
  refine s_lssF rfl rfl (by omega) ?_
  repeat (first | (refine isO ?_; first | refine s_move ?_ | refine s_assign ?_) | (refine isC ?_; first | refine c_sr ?_ | refine c_th ?_ | refine c_seq ?_ | refine c_region ?_ | refine c_ift rfl ?_ | refine c_iff rfl ?_ | refine c_block ?_ | refine c_ret ?_ | refine c_exit ?_ | refine c_skip ?_) | (first | refine l_th ?_ | refine th_norm ?_ | refine ib_norm ?_ | refine l_nil ?_ | refine th_ret ?_ | refine ib_ret ?_ | refine ib_exit ?_ | refine th_exit ?_ | refine ib_pass rfl ?_))
  exact end0 rfl ⟨rfl, hx⟩
theorem ok_lookByteList : CallOK Tryd.prog 57 := callOK Tryd.func57 (by kernel_rfl) rfl
theorem lookByteList_ct (bk M : Nat) (vi vl : Value) (w : World) (hA : At w bk 49 (bkc M vi vl)) : Ct Tryd.prog 57 #[.pointer (some ⟨bk, 0, none⟩)] w fun u w' => u = .bool true ∧ Ex w w' := by
  refine enter (N := 64) (vs := [.pointer (some ⟨bk, 0, none⟩)]) Tryd.func57 rfl rfl rfl ?_
  repeat (first | (refine isO ?_; first | refine s_move ?_ | refine s_assign ?_) | (refine isC ?_; first | refine c_sr ?_ | refine c_th ?_ | refine c_seq ?_ | refine c_region ?_ | refine c_ift rfl ?_ | refine c_iff rfl ?_ | refine c_block ?_ | refine c_ret ?_ | refine c_exit ?_ | refine c_skip ?_) | (first | refine l_th ?_ | refine th_norm ?_ | refine ib_norm ?_ | refine l_nil ?_ | refine th_ret ?_ | refine ib_ret ?_ | refine ib_exit ?_ | refine th_exit ?_ | refine ib_pass rfl ?_))
  refine c_loop (γ := Unit) 18446744073709551612 (fun _ => [(3, .int .i64 0)]) (fun _ W => Ex w W) (fun _ => 0) () ⟨rfl, trivial⟩ (Ex.refl _) ?_
  rintro _ ρ W hx
  repeat (first | (refine isO ?_; first | refine s_move ?_ | refine s_assign ?_) | (refine isC ?_; first | refine c_sr ?_ | refine c_th ?_ | refine c_seq ?_ | refine c_region ?_ | refine c_ift rfl ?_ | refine c_iff rfl ?_ | refine c_block ?_ | refine c_ret ?_ | refine c_exit ?_ | refine c_skip ?_) | (first | refine l_th ?_ | refine th_norm ?_ | refine ib_norm ?_ | refine l_nil ?_ | refine th_ret ?_ | refine ib_ret ?_ | refine ib_exit ?_ | refine th_exit ?_ | refine ib_pass rfl ?_))
  refine s_nil rfl ?_
  refine s_faN Tryd.underlying49 rfl ty_eByteList.n rfl ?_
  refine s_ldA ty_eByteList rfl (hA.ex hx) rfl ?_
  refine s_len (n := 0) (a := none) (c := 0) sl_eByteList rfl ?_
  refine s_lssF rfl rfl (by omega) ?_
  repeat (first | (refine isO ?_; first | refine s_move ?_ | refine s_assign ?_) | (refine isC ?_; first | refine c_sr ?_ | refine c_th ?_ | refine c_seq ?_ | refine c_region ?_ | refine c_ift rfl ?_ | refine c_iff rfl ?_ | refine c_block ?_ | refine c_ret ?_ | refine c_exit ?_ | refine c_skip ?_) | (first | refine l_th ?_ | refine th_norm ?_ | refine ib_norm ?_ | refine l_nil ?_ | refine th_ret ?_ | refine ib_ret ?_ | refine ib_exit ?_ | refine th_exit ?_ | refine ib_pass rfl ?_))
  exact ret1 rfl rfl ⟨rfl, hx⟩
theorem ty_eWhy : Ty1 Tryd.prog 44 := ⟨let ⟨i, h, _, hs, _⟩ := info_parts (show (Tryd.prog.info? 44).map (fun i => (i.zero, i.size, i.bytes)) = some (some (.slice none 0 0), 1, 24) by kernel_rfl); ⟨i, h, hs⟩, _, Tryd.underlying44, rfl⟩
theorem sl_eWhy : SlT Tryd.prog 44 85 := Tryd.underlying44
theorem ok_fillWhy : CallOK Tryd.prog 40 := callOK Tryd.func40 (by kernel_rfl) rfl
theorem fillWhy_ct (bk M : Nat) (vi vl : Value) (w : World) (hA : At w bk 49 (bkc M vi vl)) : Ct Tryd.prog 40 #[.pointer (some ⟨bk, 0, none⟩)] w fun u w' => u = .tuple #[] ∧ Ex w w' := by
  refine enter (N := 35) (vs := [.pointer (some ⟨bk, 0, none⟩)]) Tryd.func40 rfl rfl rfl ?_
  repeat (first | (refine isO ?_; first | refine s_move ?_ | refine s_assign ?_) | (refine isC ?_; first | refine c_sr ?_ | refine c_th ?_ | refine c_seq ?_ | refine c_region ?_ | refine c_ift rfl ?_ | refine c_iff rfl ?_ | refine c_block ?_ | refine c_ret ?_ | refine c_exit ?_ | refine c_skip ?_) | (first | refine l_th ?_ | refine th_norm ?_ | refine ib_norm ?_ | refine l_nil ?_ | refine th_ret ?_ | refine ib_ret ?_ | refine ib_exit ?_ | refine th_exit ?_ | refine ib_pass rfl ?_))
  refine c_loop (γ := Unit) 34359738364 (fun _ => [(2, .int .i64 0)]) (fun _ W => Ex w W) (fun _ => 0) () ⟨rfl, trivial⟩ (Ex.refl _) ?_
  rintro _ ρ W hx
  repeat (first | (refine isO ?_; first | refine s_move ?_ | refine s_assign ?_) | (refine isC ?_; first | refine c_sr ?_ | refine c_th ?_ | refine c_seq ?_ | refine c_region ?_ | refine c_ift rfl ?_ | refine c_iff rfl ?_ | refine c_block ?_ | refine c_ret ?_ | refine c_exit ?_ | refine c_skip ?_) | (first | refine l_th ?_ | refine th_norm ?_ | refine ib_norm ?_ | refine l_nil ?_ | refine th_ret ?_ | refine ib_ret ?_ | refine ib_exit ?_ | refine th_exit ?_ | refine ib_pass rfl ?_))
  refine s_nil rfl ?_
  refine s_faN Tryd.underlying49 rfl ty_eWhy.n rfl ?_
  refine s_ldA ty_eWhy rfl (hA.ex hx) rfl ?_
  refine s_len (n := 0) (a := none) (c := 0) sl_eWhy rfl ?_
  refine s_lssF rfl rfl (by omega) ?_
  repeat (first | (refine isO ?_; first | refine s_move ?_ | refine s_assign ?_) | (refine isC ?_; first | refine c_sr ?_ | refine c_th ?_ | refine c_seq ?_ | refine c_region ?_ | refine c_ift rfl ?_ | refine c_iff rfl ?_ | refine c_block ?_ | refine c_ret ?_ | refine c_exit ?_ | refine c_skip ?_) | (first | refine l_th ?_ | refine th_norm ?_ | refine ib_norm ?_ | refine l_nil ?_ | refine th_ret ?_ | refine ib_ret ?_ | refine ib_exit ?_ | refine th_exit ?_ | refine ib_pass rfl ?_))
  exact end0 rfl ⟨rfl, hx⟩
theorem ok_growWhy : CallOK Tryd.prog 49 := callOK Tryd.func49 (by kernel_rfl) rfl
theorem growWhy_ct (bk M : Nat) (vi vl : Value) (w : World) (hA : At w bk 49 (bkc M vi vl)) : Ct Tryd.prog 49 #[.pointer (some ⟨bk, 0, none⟩)] w fun u w' => u = .tuple #[] ∧ Ex w w' := by
  refine enter (N := 42) (vs := [.pointer (some ⟨bk, 0, none⟩)]) Tryd.func49 rfl rfl rfl ?_
  repeat (first | (refine isO ?_; first | refine s_move ?_ | refine s_assign ?_) | (refine isC ?_; first | refine c_sr ?_ | refine c_th ?_ | refine c_seq ?_ | refine c_region ?_ | refine c_ift rfl ?_ | refine c_iff rfl ?_ | refine c_block ?_ | refine c_ret ?_ | refine c_exit ?_ | refine c_skip ?_) | (first | refine l_th ?_ | refine th_norm ?_ | refine ib_norm ?_ | refine l_nil ?_ | refine th_ret ?_ | refine ib_ret ?_ | refine ib_exit ?_ | refine th_exit ?_ | refine ib_pass rfl ?_))
  refine c_loop (γ := Unit) 4398046511100 (fun _ => [(2, .int .i64 0)]) (fun _ W => Ex w W) (fun _ => 0) () ⟨rfl, trivial⟩ (Ex.refl _) ?_
  rintro _ ρ W hx
  repeat (first | (refine isO ?_; first | refine s_move ?_ | refine s_assign ?_) | (refine isC ?_; first | refine c_sr ?_ | refine c_th ?_ | refine c_seq ?_ | refine c_region ?_ | refine c_ift rfl ?_ | refine c_iff rfl ?_ | refine c_block ?_ | refine c_ret ?_ | refine c_exit ?_ | refine c_skip ?_) | (first | refine l_th ?_ | refine th_norm ?_ | refine ib_norm ?_ | refine l_nil ?_ | refine th_ret ?_ | refine ib_ret ?_ | refine ib_exit ?_ | refine th_exit ?_ | refine ib_pass rfl ?_))
  refine s_nil rfl ?_
  refine s_faN Tryd.underlying49 rfl ty_eWhy.n rfl ?_
  refine s_ldA ty_eWhy rfl (hA.ex hx) rfl ?_
  refine s_len (n := 0) (a := none) (c := 0) sl_eWhy rfl ?_
  refine s_lssF rfl rfl (by omega) ?_
  repeat (first | (refine isO ?_; first | refine s_move ?_ | refine s_assign ?_) | (refine isC ?_; first | refine c_sr ?_ | refine c_th ?_ | refine c_seq ?_ | refine c_region ?_ | refine c_ift rfl ?_ | refine c_iff rfl ?_ | refine c_block ?_ | refine c_ret ?_ | refine c_exit ?_ | refine c_skip ?_) | (first | refine l_th ?_ | refine th_norm ?_ | refine ib_norm ?_ | refine l_nil ?_ | refine th_ret ?_ | refine ib_ret ?_ | refine ib_exit ?_ | refine th_exit ?_ | refine ib_pass rfl ?_))
  exact end0 rfl ⟨rfl, hx⟩
theorem ok_lookWhy : CallOK Tryd.prog 58 := callOK Tryd.func58 (by kernel_rfl) rfl
theorem lookWhy_ct (bk M : Nat) (vi vl : Value) (w : World) (hA : At w bk 49 (bkc M vi vl)) : Ct Tryd.prog 58 #[.pointer (some ⟨bk, 0, none⟩)] w fun u w' => u = .bool true ∧ Ex w w' := by
  refine enter (N := 64) (vs := [.pointer (some ⟨bk, 0, none⟩)]) Tryd.func58 rfl rfl rfl ?_
  repeat (first | (refine isO ?_; first | refine s_move ?_ | refine s_assign ?_) | (refine isC ?_; first | refine c_sr ?_ | refine c_th ?_ | refine c_seq ?_ | refine c_region ?_ | refine c_ift rfl ?_ | refine c_iff rfl ?_ | refine c_block ?_ | refine c_ret ?_ | refine c_exit ?_ | refine c_skip ?_) | (first | refine l_th ?_ | refine th_norm ?_ | refine ib_norm ?_ | refine l_nil ?_ | refine th_ret ?_ | refine ib_ret ?_ | refine ib_exit ?_ | refine th_exit ?_ | refine ib_pass rfl ?_))
  refine c_loop (γ := Unit) 18446744073709551612 (fun _ => [(3, .int .i64 0)]) (fun _ W => Ex w W) (fun _ => 0) () ⟨rfl, trivial⟩ (Ex.refl _) ?_
  rintro _ ρ W hx
  repeat (first | (refine isO ?_; first | refine s_move ?_ | refine s_assign ?_) | (refine isC ?_; first | refine c_sr ?_ | refine c_th ?_ | refine c_seq ?_ | refine c_region ?_ | refine c_ift rfl ?_ | refine c_iff rfl ?_ | refine c_block ?_ | refine c_ret ?_ | refine c_exit ?_ | refine c_skip ?_) | (first | refine l_th ?_ | refine th_norm ?_ | refine ib_norm ?_ | refine l_nil ?_ | refine th_ret ?_ | refine ib_ret ?_ | refine ib_exit ?_ | refine th_exit ?_ | refine ib_pass rfl ?_))
  refine s_nil rfl ?_
  refine s_faN Tryd.underlying49 rfl ty_eWhy.n rfl ?_
  refine s_ldA ty_eWhy rfl (hA.ex hx) rfl ?_
  refine s_len (n := 0) (a := none) (c := 0) sl_eWhy rfl ?_
  refine s_lssF rfl rfl (by omega) ?_
  repeat (first | (refine isO ?_; first | refine s_move ?_ | refine s_assign ?_) | (refine isC ?_; first | refine c_sr ?_ | refine c_th ?_ | refine c_seq ?_ | refine c_region ?_ | refine c_ift rfl ?_ | refine c_iff rfl ?_ | refine c_block ?_ | refine c_ret ?_ | refine c_exit ?_ | refine c_skip ?_) | (first | refine l_th ?_ | refine th_norm ?_ | refine ib_norm ?_ | refine l_nil ?_ | refine th_ret ?_ | refine ib_ret ?_ | refine ib_exit ?_ | refine th_exit ?_ | refine ib_pass rfl ?_))
  exact ret1 rfl rfl ⟨rfl, hx⟩
theorem ty_eFrame : Ty1 Tryd.prog 45 := ⟨let ⟨i, h, _, hs, _⟩ := info_parts (show (Tryd.prog.info? 45).map (fun i => (i.zero, i.size, i.bytes)) = some (some (.slice none 0 0), 1, 24) by kernel_rfl); ⟨i, h, hs⟩, _, Tryd.underlying45, rfl⟩
theorem sl_eFrame : SlT Tryd.prog 45 91 := Tryd.underlying45
theorem ok_fillFrame : CallOK Tryd.prog 41 := callOK Tryd.func41 (by kernel_rfl) rfl
theorem fillFrame_ct (bk M : Nat) (vi vl : Value) (w : World) (hA : At w bk 49 (bkc M vi vl)) : Ct Tryd.prog 41 #[.pointer (some ⟨bk, 0, none⟩)] w fun u w' => u = .tuple #[] ∧ Ex w w' := by
  refine enter (N := 35) (vs := [.pointer (some ⟨bk, 0, none⟩)]) Tryd.func41 rfl rfl rfl ?_
  repeat (first | (refine isO ?_; first | refine s_move ?_ | refine s_assign ?_) | (refine isC ?_; first | refine c_sr ?_ | refine c_th ?_ | refine c_seq ?_ | refine c_region ?_ | refine c_ift rfl ?_ | refine c_iff rfl ?_ | refine c_block ?_ | refine c_ret ?_ | refine c_exit ?_ | refine c_skip ?_) | (first | refine l_th ?_ | refine th_norm ?_ | refine ib_norm ?_ | refine l_nil ?_ | refine th_ret ?_ | refine ib_ret ?_ | refine ib_exit ?_ | refine th_exit ?_ | refine ib_pass rfl ?_))
  refine c_loop (γ := Unit) 34359738364 (fun _ => [(2, .int .i64 0)]) (fun _ W => Ex w W) (fun _ => 0) () ⟨rfl, trivial⟩ (Ex.refl _) ?_
  rintro _ ρ W hx
  repeat (first | (refine isO ?_; first | refine s_move ?_ | refine s_assign ?_) | (refine isC ?_; first | refine c_sr ?_ | refine c_th ?_ | refine c_seq ?_ | refine c_region ?_ | refine c_ift rfl ?_ | refine c_iff rfl ?_ | refine c_block ?_ | refine c_ret ?_ | refine c_exit ?_ | refine c_skip ?_) | (first | refine l_th ?_ | refine th_norm ?_ | refine ib_norm ?_ | refine l_nil ?_ | refine th_ret ?_ | refine ib_ret ?_ | refine ib_exit ?_ | refine th_exit ?_ | refine ib_pass rfl ?_))
  refine s_nil rfl ?_
  refine s_faN Tryd.underlying49 rfl ty_eFrame.n rfl ?_
  refine s_ldA ty_eFrame rfl (hA.ex hx) rfl ?_
  refine s_len (n := 0) (a := none) (c := 0) sl_eFrame rfl ?_
  refine s_lssF rfl rfl (by omega) ?_
  repeat (first | (refine isO ?_; first | refine s_move ?_ | refine s_assign ?_) | (refine isC ?_; first | refine c_sr ?_ | refine c_th ?_ | refine c_seq ?_ | refine c_region ?_ | refine c_ift rfl ?_ | refine c_iff rfl ?_ | refine c_block ?_ | refine c_ret ?_ | refine c_exit ?_ | refine c_skip ?_) | (first | refine l_th ?_ | refine th_norm ?_ | refine ib_norm ?_ | refine l_nil ?_ | refine th_ret ?_ | refine ib_ret ?_ | refine ib_exit ?_ | refine th_exit ?_ | refine ib_pass rfl ?_))
  exact end0 rfl ⟨rfl, hx⟩
theorem ok_growFrame : CallOK Tryd.prog 50 := callOK Tryd.func50 (by kernel_rfl) rfl
theorem growFrame_ct (bk M : Nat) (vi vl : Value) (w : World) (hA : At w bk 49 (bkc M vi vl)) : Ct Tryd.prog 50 #[.pointer (some ⟨bk, 0, none⟩)] w fun u w' => u = .tuple #[] ∧ Ex w w' := by
  refine enter (N := 42) (vs := [.pointer (some ⟨bk, 0, none⟩)]) Tryd.func50 rfl rfl rfl ?_
  repeat (first | (refine isO ?_; first | refine s_move ?_ | refine s_assign ?_) | (refine isC ?_; first | refine c_sr ?_ | refine c_th ?_ | refine c_seq ?_ | refine c_region ?_ | refine c_ift rfl ?_ | refine c_iff rfl ?_ | refine c_block ?_ | refine c_ret ?_ | refine c_exit ?_ | refine c_skip ?_) | (first | refine l_th ?_ | refine th_norm ?_ | refine ib_norm ?_ | refine l_nil ?_ | refine th_ret ?_ | refine ib_ret ?_ | refine ib_exit ?_ | refine th_exit ?_ | refine ib_pass rfl ?_))
  refine c_loop (γ := Unit) 4398046511100 (fun _ => [(2, .int .i64 0)]) (fun _ W => Ex w W) (fun _ => 0) () ⟨rfl, trivial⟩ (Ex.refl _) ?_
  rintro _ ρ W hx
  repeat (first | (refine isO ?_; first | refine s_move ?_ | refine s_assign ?_) | (refine isC ?_; first | refine c_sr ?_ | refine c_th ?_ | refine c_seq ?_ | refine c_region ?_ | refine c_ift rfl ?_ | refine c_iff rfl ?_ | refine c_block ?_ | refine c_ret ?_ | refine c_exit ?_ | refine c_skip ?_) | (first | refine l_th ?_ | refine th_norm ?_ | refine ib_norm ?_ | refine l_nil ?_ | refine th_ret ?_ | refine ib_ret ?_ | refine ib_exit ?_ | refine th_exit ?_ | refine ib_pass rfl ?_))
  refine s_nil rfl ?_
  refine s_faN Tryd.underlying49 rfl ty_eFrame.n rfl ?_
  refine s_ldA ty_eFrame rfl (hA.ex hx) rfl ?_
  refine s_len (n := 0) (a := none) (c := 0) sl_eFrame rfl ?_
  refine s_lssF rfl rfl (by omega) ?_
  repeat (first | (refine isO ?_; first | refine s_move ?_ | refine s_assign ?_) | (refine isC ?_; first | refine c_sr ?_ | refine c_th ?_ | refine c_seq ?_ | refine c_region ?_ | refine c_ift rfl ?_ | refine c_iff rfl ?_ | refine c_block ?_ | refine c_ret ?_ | refine c_exit ?_ | refine c_skip ?_) | (first | refine l_th ?_ | refine th_norm ?_ | refine ib_norm ?_ | refine l_nil ?_ | refine th_ret ?_ | refine ib_ret ?_ | refine ib_exit ?_ | refine th_exit ?_ | refine ib_pass rfl ?_))
  exact end0 rfl ⟨rfl, hx⟩
theorem ok_lookFrame : CallOK Tryd.prog 59 := callOK Tryd.func59 (by kernel_rfl) rfl
theorem lookFrame_ct (bk M : Nat) (vi vl : Value) (w : World) (hA : At w bk 49 (bkc M vi vl)) : Ct Tryd.prog 59 #[.pointer (some ⟨bk, 0, none⟩)] w fun u w' => u = .bool true ∧ Ex w w' := by
  refine enter (N := 64) (vs := [.pointer (some ⟨bk, 0, none⟩)]) Tryd.func59 rfl rfl rfl ?_
  repeat (first | (refine isO ?_; first | refine s_move ?_ | refine s_assign ?_) | (refine isC ?_; first | refine c_sr ?_ | refine c_th ?_ | refine c_seq ?_ | refine c_region ?_ | refine c_ift rfl ?_ | refine c_iff rfl ?_ | refine c_block ?_ | refine c_ret ?_ | refine c_exit ?_ | refine c_skip ?_) | (first | refine l_th ?_ | refine th_norm ?_ | refine ib_norm ?_ | refine l_nil ?_ | refine th_ret ?_ | refine ib_ret ?_ | refine ib_exit ?_ | refine th_exit ?_ | refine ib_pass rfl ?_))
  refine c_loop (γ := Unit) 18446744073709551612 (fun _ => [(3, .int .i64 0)]) (fun _ W => Ex w W) (fun _ => 0) () ⟨rfl, trivial⟩ (Ex.refl _) ?_
  rintro _ ρ W hx
  repeat (first | (refine isO ?_; first | refine s_move ?_ | refine s_assign ?_) | (refine isC ?_; first | refine c_sr ?_ | refine c_th ?_ | refine c_seq ?_ | refine c_region ?_ | refine c_ift rfl ?_ | refine c_iff rfl ?_ | refine c_block ?_ | refine c_ret ?_ | refine c_exit ?_ | refine c_skip ?_) | (first | refine l_th ?_ | refine th_norm ?_ | refine ib_norm ?_ | refine l_nil ?_ | refine th_ret ?_ | refine ib_ret ?_ | refine ib_exit ?_ | refine th_exit ?_ | refine ib_pass rfl ?_))
  refine s_nil rfl ?_
  refine s_faN Tryd.underlying49 rfl ty_eFrame.n rfl ?_
  refine s_ldA ty_eFrame rfl (hA.ex hx) rfl ?_
  refine s_len (n := 0) (a := none) (c := 0) sl_eFrame rfl ?_
  refine s_lssF rfl rfl (by omega) ?_
  repeat (first | (refine isO ?_; first | refine s_move ?_ | refine s_assign ?_) | (refine isC ?_; first | refine c_sr ?_ | refine c_th ?_ | refine c_seq ?_ | refine c_region ?_ | refine c_ift rfl ?_ | refine c_iff rfl ?_ | refine c_block ?_ | refine c_ret ?_ | refine c_exit ?_ | refine c_skip ?_) | (first | refine l_th ?_ | refine th_norm ?_ | refine ib_norm ?_ | refine l_nil ?_ | refine th_ret ?_ | refine ib_ret ?_ | refine ib_exit ?_ | refine th_exit ?_ | refine ib_pass rfl ?_))
  exact ret1 rfl rfl ⟨rfl, hx⟩
theorem ty_eReply : Ty1 Tryd.prog 46 := ⟨let ⟨i, h, _, hs, _⟩ := info_parts (show (Tryd.prog.info? 46).map (fun i => (i.zero, i.size, i.bytes)) = some (some (.slice none 0 0), 1, 24) by kernel_rfl); ⟨i, h, hs⟩, _, Tryd.underlying46, rfl⟩
theorem sl_eReply : SlT Tryd.prog 46 100 := Tryd.underlying46
theorem ok_fillReply : CallOK Tryd.prog 42 := callOK Tryd.func42 (by kernel_rfl) rfl
theorem fillReply_ct (bk M : Nat) (vi vl : Value) (w : World) (hA : At w bk 49 (bkc M vi vl)) : Ct Tryd.prog 42 #[.pointer (some ⟨bk, 0, none⟩)] w fun u w' => u = .tuple #[] ∧ Ex w w' := by
  refine enter (N := 35) (vs := [.pointer (some ⟨bk, 0, none⟩)]) Tryd.func42 rfl rfl rfl ?_
  repeat (first | (refine isO ?_; first | refine s_move ?_ | refine s_assign ?_) | (refine isC ?_; first | refine c_sr ?_ | refine c_th ?_ | refine c_seq ?_ | refine c_region ?_ | refine c_ift rfl ?_ | refine c_iff rfl ?_ | refine c_block ?_ | refine c_ret ?_ | refine c_exit ?_ | refine c_skip ?_) | (first | refine l_th ?_ | refine th_norm ?_ | refine ib_norm ?_ | refine l_nil ?_ | refine th_ret ?_ | refine ib_ret ?_ | refine ib_exit ?_ | refine th_exit ?_ | refine ib_pass rfl ?_))
  refine c_loop (γ := Unit) 34359738364 (fun _ => [(2, .int .i64 0)]) (fun _ W => Ex w W) (fun _ => 0) () ⟨rfl, trivial⟩ (Ex.refl _) ?_
  rintro _ ρ W hx
  repeat (first | (refine isO ?_; first | refine s_move ?_ | refine s_assign ?_) | (refine isC ?_; first | refine c_sr ?_ | refine c_th ?_ | refine c_seq ?_ | refine c_region ?_ | refine c_ift rfl ?_ | refine c_iff rfl ?_ | refine c_block ?_ | refine c_ret ?_ | refine c_exit ?_ | refine c_skip ?_) | (first | refine l_th ?_ | refine th_norm ?_ | refine ib_norm ?_ | refine l_nil ?_ | refine th_ret ?_ | refine ib_ret ?_ | refine ib_exit ?_ | refine th_exit ?_ | refine ib_pass rfl ?_))
  refine s_nil rfl ?_
  refine s_faN Tryd.underlying49 rfl ty_eReply.n rfl ?_
  refine s_ldA ty_eReply rfl (hA.ex hx) rfl ?_
  refine s_len (n := 0) (a := none) (c := 0) sl_eReply rfl ?_
  refine s_lssF rfl rfl (by omega) ?_
  repeat (first | (refine isO ?_; first | refine s_move ?_ | refine s_assign ?_) | (refine isC ?_; first | refine c_sr ?_ | refine c_th ?_ | refine c_seq ?_ | refine c_region ?_ | refine c_ift rfl ?_ | refine c_iff rfl ?_ | refine c_block ?_ | refine c_ret ?_ | refine c_exit ?_ | refine c_skip ?_) | (first | refine l_th ?_ | refine th_norm ?_ | refine ib_norm ?_ | refine l_nil ?_ | refine th_ret ?_ | refine ib_ret ?_ | refine ib_exit ?_ | refine th_exit ?_ | refine ib_pass rfl ?_))
  exact end0 rfl ⟨rfl, hx⟩
theorem ok_growReply : CallOK Tryd.prog 51 := callOK Tryd.func51 (by kernel_rfl) rfl
theorem growReply_ct (bk M : Nat) (vi vl : Value) (w : World) (hA : At w bk 49 (bkc M vi vl)) : Ct Tryd.prog 51 #[.pointer (some ⟨bk, 0, none⟩)] w fun u w' => u = .tuple #[] ∧ Ex w w' := by
  refine enter (N := 42) (vs := [.pointer (some ⟨bk, 0, none⟩)]) Tryd.func51 rfl rfl rfl ?_
  repeat (first | (refine isO ?_; first | refine s_move ?_ | refine s_assign ?_) | (refine isC ?_; first | refine c_sr ?_ | refine c_th ?_ | refine c_seq ?_ | refine c_region ?_ | refine c_ift rfl ?_ | refine c_iff rfl ?_ | refine c_block ?_ | refine c_ret ?_ | refine c_exit ?_ | refine c_skip ?_) | (first | refine l_th ?_ | refine th_norm ?_ | refine ib_norm ?_ | refine l_nil ?_ | refine th_ret ?_ | refine ib_ret ?_ | refine ib_exit ?_ | refine th_exit ?_ | refine ib_pass rfl ?_))
  refine c_loop (γ := Unit) 4398046511100 (fun _ => [(2, .int .i64 0)]) (fun _ W => Ex w W) (fun _ => 0) () ⟨rfl, trivial⟩ (Ex.refl _) ?_
  rintro _ ρ W hx
  repeat (first | (refine isO ?_; first | refine s_move ?_ | refine s_assign ?_) | (refine isC ?_; first | refine c_sr ?_ | refine c_th ?_ | refine c_seq ?_ | refine c_region ?_ | refine c_ift rfl ?_ | refine c_iff rfl ?_ | refine c_block ?_ | refine c_ret ?_ | refine c_exit ?_ | refine c_skip ?_) | (first | refine l_th ?_ | refine th_norm ?_ | refine ib_norm ?_ | refine l_nil ?_ | refine th_ret ?_ | refine ib_ret ?_ | refine ib_exit ?_ | refine th_exit ?_ | refine ib_pass rfl ?_))
  refine s_nil rfl ?_
  refine s_faN Tryd.underlying49 rfl ty_eReply.n rfl ?_
  refine s_ldA ty_eReply rfl (hA.ex hx) rfl ?_
  refine s_len (n := 0) (a := none) (c := 0) sl_eReply rfl ?_
  refine s_lssF rfl rfl (by omega) ?_
  repeat (first | (refine isO ?_; first | refine s_move ?_ | refine s_assign ?_) | (refine isC ?_; first | refine c_sr ?_ | refine c_th ?_ | refine c_seq ?_ | refine c_region ?_ | refine c_ift rfl ?_ | refine c_iff rfl ?_ | refine c_block ?_ | refine c_ret ?_ | refine c_exit ?_ | refine c_skip ?_) | (first | refine l_th ?_ | refine th_norm ?_ | refine ib_norm ?_ | refine l_nil ?_ | refine th_ret ?_ | refine ib_ret ?_ | refine ib_exit ?_ | refine th_exit ?_ | refine ib_pass rfl ?_))
  exact end0 rfl ⟨rfl, hx⟩
theorem ok_lookReply : CallOK Tryd.prog 60 := callOK Tryd.func60 (by kernel_rfl) rfl
theorem lookReply_ct (bk M : Nat) (vi vl : Value) (w : World) (hA : At w bk 49 (bkc M vi vl)) : Ct Tryd.prog 60 #[.pointer (some ⟨bk, 0, none⟩)] w fun u w' => u = .bool true ∧ Ex w w' := by
  refine enter (N := 64) (vs := [.pointer (some ⟨bk, 0, none⟩)]) Tryd.func60 rfl rfl rfl ?_
  repeat (first | (refine isO ?_; first | refine s_move ?_ | refine s_assign ?_) | (refine isC ?_; first | refine c_sr ?_ | refine c_th ?_ | refine c_seq ?_ | refine c_region ?_ | refine c_ift rfl ?_ | refine c_iff rfl ?_ | refine c_block ?_ | refine c_ret ?_ | refine c_exit ?_ | refine c_skip ?_) | (first | refine l_th ?_ | refine th_norm ?_ | refine ib_norm ?_ | refine l_nil ?_ | refine th_ret ?_ | refine ib_ret ?_ | refine ib_exit ?_ | refine th_exit ?_ | refine ib_pass rfl ?_))
  refine c_loop (γ := Unit) 18446744073709551612 (fun _ => [(3, .int .i64 0)]) (fun _ W => Ex w W) (fun _ => 0) () ⟨rfl, trivial⟩ (Ex.refl _) ?_
  rintro _ ρ W hx
  repeat (first | (refine isO ?_; first | refine s_move ?_ | refine s_assign ?_) | (refine isC ?_; first | refine c_sr ?_ | refine c_th ?_ | refine c_seq ?_ | refine c_region ?_ | refine c_ift rfl ?_ | refine c_iff rfl ?_ | refine c_block ?_ | refine c_ret ?_ | refine c_exit ?_ | refine c_skip ?_) | (first | refine l_th ?_ | refine th_norm ?_ | refine ib_norm ?_ | refine l_nil ?_ | refine th_ret ?_ | refine ib_ret ?_ | refine ib_exit ?_ | refine th_exit ?_ | refine ib_pass rfl ?_))
  refine s_nil rfl ?_
  refine s_faN Tryd.underlying49 rfl ty_eReply.n rfl ?_
  refine s_ldA ty_eReply rfl (hA.ex hx) rfl ?_
  refine s_len (n := 0) (a := none) (c := 0) sl_eReply rfl ?_
  refine s_lssF rfl rfl (by omega) ?_
  repeat (first | (refine isO ?_; first | refine s_move ?_ | refine s_assign ?_) | (refine isC ?_; first | refine c_sr ?_ | refine c_th ?_ | refine c_seq ?_ | refine c_region ?_ | refine c_ift rfl ?_ | refine c_iff rfl ?_ | refine c_block ?_ | refine c_ret ?_ | refine c_exit ?_ | refine c_skip ?_) | (first | refine l_th ?_ | refine th_norm ?_ | refine ib_norm ?_ | refine l_nil ?_ | refine th_ret ?_ | refine ib_ret ?_ | refine ib_exit ?_ | refine th_exit ?_ | refine ib_pass rfl ?_))
  exact ret1 rfl rfl ⟨rfl, hx⟩
theorem ty_eRecord : Ty1 Tryd.prog 47 := ⟨let ⟨i, h, _, hs, _⟩ := info_parts (show (Tryd.prog.info? 47).map (fun i => (i.zero, i.size, i.bytes)) = some (some (.slice none 0 0), 1, 24) by kernel_rfl); ⟨i, h, hs⟩, _, Tryd.underlying47, rfl⟩
theorem sl_eRecord : SlT Tryd.prog 47 107 := Tryd.underlying47
theorem ok_fillRecord : CallOK Tryd.prog 43 := callOK Tryd.func43 (by kernel_rfl) rfl
theorem fillRecord_ct (bk M : Nat) (vi vl : Value) (w : World) (hA : At w bk 49 (bkc M vi vl)) : Ct Tryd.prog 43 #[.pointer (some ⟨bk, 0, none⟩)] w fun u w' => u = .tuple #[] ∧ Ex w w' := by
  refine enter (N := 35) (vs := [.pointer (some ⟨bk, 0, none⟩)]) Tryd.func43 rfl rfl rfl ?_
  repeat (first | (refine isO ?_; first | refine s_move ?_ | refine s_assign ?_) | (refine isC ?_; first | refine c_sr ?_ | refine c_th ?_ | refine c_seq ?_ | refine c_region ?_ | refine c_ift rfl ?_ | refine c_iff rfl ?_ | refine c_block ?_ | refine c_ret ?_ | refine c_exit ?_ | refine c_skip ?_) | (first | refine l_th ?_ | refine th_norm ?_ | refine ib_norm ?_ | refine l_nil ?_ | refine th_ret ?_ | refine ib_ret ?_ | refine ib_exit ?_ | refine th_exit ?_ | refine ib_pass rfl ?_))
  refine c_loop (γ := Unit) 34359738364 (fun _ => [(2, .int .i64 0)]) (fun _ W => Ex w W) (fun _ => 0) () ⟨rfl, trivial⟩ (Ex.refl _) ?_
  rintro _ ρ W hx
  repeat (first | (refine isO ?_; first | refine s_move ?_ | refine s_assign ?_) | (refine isC ?_; first | refine c_sr ?_ | refine c_th ?_ | refine c_seq ?_ | refine c_region ?_ | refine c_ift rfl ?_ | refine c_iff rfl ?_ | refine c_block ?_ | refine c_ret ?_ | refine c_exit ?_ | refine c_skip ?_) | (first | refine l_th ?_ | refine th_norm ?_ | refine ib_norm ?_ | refine l_nil ?_ | refine th_ret ?_ | refine ib_ret ?_ | refine ib_exit ?_ | refine th_exit ?_ | refine ib_pass rfl ?_))
  refine s_nil rfl ?_
  refine s_faN Tryd.underlying49 rfl ty_eRecord.n rfl ?_
  refine s_ldA ty_eRecord rfl (hA.ex hx) rfl ?_
  refine s_len (n := 0) (a := none) (c := 0) sl_eRecord rfl ?_
  refine s_lssF rfl rfl (by omega) ?_
  repeat (first | (refine isO ?_; first | refine s_move ?_ | refine s_assign ?_) | (refine isC ?_; first | refine c_sr ?_ | refine c_th ?_ | refine c_seq ?_ | refine c_region ?_ | refine c_ift rfl ?_ | refine c_iff rfl ?_ | refine c_block ?_ | refine c_ret ?_ | refine c_exit ?_ | refine c_skip ?_) | (first | refine l_th ?_ | refine th_norm ?_ | refine ib_norm ?_ | refine l_nil ?_ | refine th_ret ?_ | refine ib_ret ?_ | refine ib_exit ?_ | refine th_exit ?_ | refine ib_pass rfl ?_))
  exact end0 rfl ⟨rfl, hx⟩
theorem ok_growRecord : CallOK Tryd.prog 52 := callOK Tryd.func52 (by kernel_rfl) rfl
theorem growRecord_ct (bk M : Nat) (vi vl : Value) (w : World) (hA : At w bk 49 (bkc M vi vl)) : Ct Tryd.prog 52 #[.pointer (some ⟨bk, 0, none⟩)] w fun u w' => u = .tuple #[] ∧ Ex w w' := by
  refine enter (N := 42) (vs := [.pointer (some ⟨bk, 0, none⟩)]) Tryd.func52 rfl rfl rfl ?_
  repeat (first | (refine isO ?_; first | refine s_move ?_ | refine s_assign ?_) | (refine isC ?_; first | refine c_sr ?_ | refine c_th ?_ | refine c_seq ?_ | refine c_region ?_ | refine c_ift rfl ?_ | refine c_iff rfl ?_ | refine c_block ?_ | refine c_ret ?_ | refine c_exit ?_ | refine c_skip ?_) | (first | refine l_th ?_ | refine th_norm ?_ | refine ib_norm ?_ | refine l_nil ?_ | refine th_ret ?_ | refine ib_ret ?_ | refine ib_exit ?_ | refine th_exit ?_ | refine ib_pass rfl ?_))
  refine c_loop (γ := Unit) 4398046511100 (fun _ => [(2, .int .i64 0)]) (fun _ W => Ex w W) (fun _ => 0) () ⟨rfl, trivial⟩ (Ex.refl _) ?_
  rintro _ ρ W hx
  repeat (first | (refine isO ?_; first | refine s_move ?_ | refine s_assign ?_) | (refine isC ?_; first | refine c_sr ?_ | refine c_th ?_ | refine c_seq ?_ | refine c_region ?_ | refine c_ift rfl ?_ | refine c_iff rfl ?_ | refine c_block ?_ | refine c_ret ?_ | refine c_exit ?_ | refine c_skip ?_) | (first | refine l_th ?_ | refine th_norm ?_ | refine ib_norm ?_ | refine l_nil ?_ | refine th_ret ?_ | refine ib_ret ?_ | refine ib_exit ?_ | refine th_exit ?_ | refine ib_pass rfl ?_))
  refine s_nil rfl ?_
  refine s_faN Tryd.underlying49 rfl ty_eRecord.n rfl ?_
  refine s_ldA ty_eRecord rfl (hA.ex hx) rfl ?_
  refine s_len (n := 0) (a := none) (c := 0) sl_eRecord rfl ?_
  refine s_lssF rfl rfl (by omega) ?_
  repeat (first | (refine isO ?_; first | refine s_move ?_ | refine s_assign ?_) | (refine isC ?_; first | refine c_sr ?_ | refine c_th ?_ | refine c_seq ?_ | refine c_region ?_ | refine c_ift rfl ?_ | refine c_iff rfl ?_ | refine c_block ?_ | refine c_ret ?_ | refine c_exit ?_ | refine c_skip ?_) | (first | refine l_th ?_ | refine th_norm ?_ | refine ib_norm ?_ | refine l_nil ?_ | refine th_ret ?_ | refine ib_ret ?_ | refine ib_exit ?_ | refine th_exit ?_ | refine ib_pass rfl ?_))
  exact end0 rfl ⟨rfl, hx⟩
theorem ok_lookRecord : CallOK Tryd.prog 61 := callOK Tryd.func61 (by kernel_rfl) rfl
theorem lookRecord_ct (bk M : Nat) (vi vl : Value) (w : World) (hA : At w bk 49 (bkc M vi vl)) : Ct Tryd.prog 61 #[.pointer (some ⟨bk, 0, none⟩)] w fun u w' => u = .bool true ∧ Ex w w' := by
  refine enter (N := 64) (vs := [.pointer (some ⟨bk, 0, none⟩)]) Tryd.func61 rfl rfl rfl ?_
  repeat (first | (refine isO ?_; first | refine s_move ?_ | refine s_assign ?_) | (refine isC ?_; first | refine c_sr ?_ | refine c_th ?_ | refine c_seq ?_ | refine c_region ?_ | refine c_ift rfl ?_ | refine c_iff rfl ?_ | refine c_block ?_ | refine c_ret ?_ | refine c_exit ?_ | refine c_skip ?_) | (first | refine l_th ?_ | refine th_norm ?_ | refine ib_norm ?_ | refine l_nil ?_ | refine th_ret ?_ | refine ib_ret ?_ | refine ib_exit ?_ | refine th_exit ?_ | refine ib_pass rfl ?_))
  refine c_loop (γ := Unit) 18446744073709551612 (fun _ => [(3, .int .i64 0)]) (fun _ W => Ex w W) (fun _ => 0) () ⟨rfl, trivial⟩ (Ex.refl _) ?_
  rintro _ ρ W hx
  repeat (first | (refine isO ?_; first | refine s_move ?_ | refine s_assign ?_) | (refine isC ?_; first | refine c_sr ?_ | refine c_th ?_ | refine c_seq ?_ | refine c_region ?_ | refine c_ift rfl ?_ | refine c_iff rfl ?_ | refine c_block ?_ | refine c_ret ?_ | refine c_exit ?_ | refine c_skip ?_) | (first | refine l_th ?_ | refine th_norm ?_ | refine ib_norm ?_ | refine l_nil ?_ | refine th_ret ?_ | refine ib_ret ?_ | refine ib_exit ?_ | refine th_exit ?_ | refine ib_pass rfl ?_))
  refine s_nil rfl ?_
  refine s_faN Tryd.underlying49 rfl ty_eRecord.n rfl ?_
  refine s_ldA ty_eRecord rfl (hA.ex hx) rfl ?_
  refine s_len (n := 0) (a := none) (c := 0) sl_eRecord rfl ?_
  refine s_lssF rfl rfl (by omega) ?_
  repeat (first | (refine isO ?_; first | refine s_move ?_ | refine s_assign ?_) | (refine isC ?_; first | refine c_sr ?_ | refine c_th ?_ | refine c_seq ?_ | refine c_region ?_ | refine c_ift rfl ?_ | refine c_iff rfl ?_ | refine c_block ?_ | refine c_ret ?_ | refine c_exit ?_ | refine c_skip ?_) | (first | refine l_th ?_ | refine th_norm ?_ | refine ib_norm ?_ | refine l_nil ?_ | refine th_ret ?_ | refine ib_ret ?_ | refine ib_exit ?_ | refine th_exit ?_ | refine ib_pass rfl ?_))
  exact ret1 rfl rfl ⟨rfl, hx⟩
theorem ok_Apart : CallOK Tryd.prog 23 := callOK Tryd.func23 (by kernel_rfl) rfl
set_option maxHeartbeats 4000000 in
theorem Apart_ct (wB : World) (bk M : Nat) (ns nl : List Nat) (L : Nat → Value) (ln : Nat → Nat) (vi vl : Value) (w : World) (hB : Bk wB w bk M ns nl L vi vl) (hI : ∀ q ∈ ns, ∃ xs, Wd w 3 1 (L q) (ln q) xs) (hJ : ∀ q ∈ nl, ∃ xs, Wd w 25 1 (L q) (ln q) xs)
    (hN : ns.length ≤ 100000) (hN2 : nl.length ≤ 100000) (hq : ∀ q ∈ ns ++ nl, q ≤ 200000) (hln : ∀ q ∈ ns ++ nl, ln q ≤ 100000) (hnd : (ns ++ nl).Nodup) (hd : ∀ p ∈ ns ++ nl, ∀ q ∈ ns ++ nl, p ≠ q → ∀ b, (L p).ownBlock = some b → (L q).ownBlock ≠ some b) (hlow : ∀ q ∈ ns ++ nl, ∀ b, (L q).ownBlock = some b → b < wB.heap.size) :
    Ct Tryd.prog 23 #[.pointer (some ⟨bk, 0, none⟩)] w fun u w' => u = .bool true ∧ KtS (fun b => (∃ q ∈ ns ++ nl, (L q).ownBlock = some b) ∨ wB.heap.size ≤ b) w w' := by
  have hin : ∀ q ∈ ns, q ∈ ns ++ nl := fun q h => List.mem_append_left _ h
  have hil : ∀ q ∈ nl, q ∈ ns ++ nl := fun q h => List.mem_append_right _ h
  have hnd1 : ns.Nodup := (List.nodup_append.1 hnd).1
  have hnd2 : nl.Nodup := (List.nodup_append.1 hnd).2.1
  have hnd3 : ∀ p ∈ ns, ∀ q ∈ nl, p ≠ q := (List.nodup_append.1 hnd).2.2
  have hbkl := hB.lo
  have hvi : ∀ q ∈ ns ++ nl, ∀ b, (L q).ownBlock = some b → b ≠ bk ∧ vi.ownBlock ≠ some b ∧ vl.ownBlock ≠ some b := fun q h1 b h2 => by
    have h3 := hlow q h1 b h2
    refine ⟨by omega, fun e => ?_, fun e => ?_⟩
    · have := (hB.oi b e).1; omega
    · have := (hB.ol b e).1; omega
  have hzB := hB.ex.size
  -- the functions
  let cs : Nat → List Value := fun q => if h : q ∈ ns then Classical.choose (hI q h) else []
  have hcs : ∀ q ∈ ns, Wd w 3 1 (L q) (ln q) (cs q) := fun q h => by
    have := Classical.choose_spec (hI q h)
    have e : cs q = Classical.choose (hI q h) := dif_pos h
    rw [e]; exact this
  let cl : Nat → List Value := fun q => if h : q ∈ nl then Classical.choose (hJ q h) else []
  have hcl : ∀ q ∈ nl, Wd w 25 1 (L q) (ln q) (cl q) := fun q h => by
    have := Classical.choose_spec (hJ q h)
    have e : cl q = Classical.choose (hJ q h) := dif_pos h
    rw [e]; exact this
  have hLi : ∀ q ∈ ns, (L q).oneCell' = true := fun q h => (hcs q h).one
  have hLl : ∀ q ∈ nl, (L q).oneCell' = true := fun q h => (hcl q h).one
  clear_value cs cl
  have hdi : ∀ p ∈ ns, ∀ q ∈ ns, p ≠ q → ∀ b, (L p).ownBlock = some b → (L q).ownBlock ≠ some b := fun p h1 q h2 => hd p (hin p h1) q (hin q h2)
  have hdl : ∀ p ∈ nl, ∀ q ∈ nl, p ≠ q → ∀ b, (L p).ownBlock = some b → (L q).ownBlock ≠ some b := fun p h1 q h2 => hd p (hil p h1) q (hil q h2)
  have hG0 : ∀ q : Nat, ((fun _ : Nat => nilV) q).oneCell' = true := fun _ => rfl
  refine enter (N := 73) (vs := [.pointer (some ⟨bk, 0, none⟩)]) Tryd.func23 rfl rfl rfl ?_
  repeat (first | (refine isO ?_; first | refine s_move ?_ | refine s_assign ?_ | (refine isG ?_; refine g_yes rfl rfl ?_) | (refine isPick ?_; refine s_pickt rfl rfl ?_)) | (refine isC ?_; first | refine c_sr ?_ | refine c_th ?_ | refine c_seq ?_ | refine c_region ?_ | refine c_ift rfl ?_ | refine c_iff rfl ?_ | refine c_block ?_ | refine c_ret ?_ | refine c_exit ?_ | refine c_skip ?_) | (first | refine l_th ?_ | refine th_norm ?_ | refine ib_norm ?_ | refine l_nil ?_ | refine th_ret ?_ | refine ib_ret ?_ | refine ib_exit ?_ | refine th_exit ?_ | refine ib_pass rfl ?_))
  refine s_call ok_fillByte rfl (fillByte_ct bk M vi vl w hB.hd) ?_
  rintro v w1 ⟨rfl, hx1⟩
  have hB1 := hB.exd hx1
  repeat (first | (refine isO ?_; first | refine s_move ?_ | refine s_assign ?_ | (refine isG ?_; refine g_yes rfl rfl ?_) | (refine isPick ?_; refine s_pickt rfl rfl ?_)) | (refine isC ?_; first | refine c_sr ?_ | refine c_th ?_ | refine c_seq ?_ | refine c_region ?_ | refine c_ift rfl ?_ | refine c_iff rfl ?_ | refine c_block ?_ | refine c_ret ?_ | refine c_exit ?_ | refine c_skip ?_) | (first | refine l_th ?_ | refine th_norm ?_ | refine ib_norm ?_ | refine l_nil ?_ | refine th_ret ?_ | refine ib_ret ?_ | refine ib_exit ?_ | refine th_exit ?_ | refine ib_pass rfl ?_))
  refine s_call ok_fillInt rfl (fillInt_ct bk M ns L (fun _ => nilV) ln cs vi vl w1 hB1.hd hB1.wi hN (fun q h => hq q (hin q h)) (fun q h => (hcs q h).ex hx1) (fun q h => hln q (hin q h)) hLi (fun q _ => hG0 q) hnd1 hdi (fun q h b hb => ⟨(hvi q (hin q h) b hb).1, (hvi q (hin q h) b hb).2.1⟩)) ?_
  rintro v w2 ⟨rfl, hk2, hf2⟩
  have z1 := hx1.size
  have z2 := hk2.size
  have hd2 := hB1.hd.kt hk2 (fun ⟨q, h1, h2⟩ => (hvi q (hin q h1) bk h2).1 rfl)
  have hwi2 := hB1.wi.kt hk2 (fun b hb ⟨q, h1, h2⟩ => (hvi q (hin q h1) b h2).2.1 hb)
  have hwl2 := hB1.wl.kt hk2 (fun b hb ⟨q, h1, h2⟩ => (hvi q (hin q h1) b h2).2.2 hb)
  have hcl2 : ∀ q ∈ nl, Wd w2 25 1 (L q) (ln q) (cl q) := fun q h => ((hcl q h).ex hx1).kt hk2 (fun b hb ⟨p, h1, h2⟩ => hd p (hin p h1) q (hil q h) (hnd3 p h1 q h) b h2 hb)
  repeat (first | (refine isO ?_; first | refine s_move ?_ | refine s_assign ?_ | (refine isG ?_; refine g_yes rfl rfl ?_) | (refine isPick ?_; refine s_pickt rfl rfl ?_)) | (refine isC ?_; first | refine c_sr ?_ | refine c_th ?_ | refine c_seq ?_ | refine c_region ?_ | refine c_ift rfl ?_ | refine c_iff rfl ?_ | refine c_block ?_ | refine c_ret ?_ | refine c_exit ?_ | refine c_skip ?_) | (first | refine l_th ?_ | refine th_norm ?_ | refine ib_norm ?_ | refine l_nil ?_ | refine th_ret ?_ | refine ib_ret ?_ | refine ib_exit ?_ | refine th_exit ?_ | refine ib_pass rfl ?_))
  refine s_call ok_fillText rfl (fillText_ct bk M vi vl w2 hd2) ?_
  rintro v w3 ⟨rfl, hx3⟩
  have z3 := hx3.size
  repeat (first | (refine isO ?_; first | refine s_move ?_ | refine s_assign ?_ | (refine isG ?_; refine g_yes rfl rfl ?_) | (refine isPick ?_; refine s_pickt rfl rfl ?_)) | (refine isC ?_; first | refine c_sr ?_ | refine c_th ?_ | refine c_seq ?_ | refine c_region ?_ | refine c_ift rfl ?_ | refine c_iff rfl ?_ | refine c_block ?_ | refine c_ret ?_ | refine c_exit ?_ | refine c_skip ?_) | (first | refine l_th ?_ | refine th_norm ?_ | refine ib_norm ?_ | refine l_nil ?_ | refine th_ret ?_ | refine ib_ret ?_ | refine ib_exit ?_ | refine th_exit ?_ | refine ib_pass rfl ?_))
  refine s_call ok_fillIntList rfl (fillIntList_ct bk M nl L (fun _ => nilV) ln cl vl vi w3 (hd2.ex hx3) (hwl2.ex hx3) hN2 (fun q h => hq q (hil q h)) (fun q h => (hcl2 q h).ex hx3) (fun q h => hln q (hil q h)) hLl (fun q _ => hG0 q) hnd2 hdl (fun q h b hb => ⟨(hvi q (hil q h) b hb).1, (hvi q (hil q h) b hb).2.2⟩)) ?_
  rintro v w4 ⟨rfl, hk4, hf4⟩
  have z4 := hk4.size
  have hd4 := (hd2.ex hx3).kt hk4 (fun ⟨q, h1, h2⟩ => (hvi q (hil q h1) bk h2).1 rfl)
  have hwi4 := (hwi2.ex hx3).kt hk4 (fun b hb ⟨q, h1, h2⟩ => (hvi q (hil q h1) b h2).2.1 hb)
  have hwl4 := (hwl2.ex hx3).kt hk4 (fun b hb ⟨q, h1, h2⟩ => (hvi q (hil q h1) b h2).2.2 hb)
  have hI4 : ∀ q ∈ ns, ∃ xs, Wd w4 3 1 (L q) (ln q) xs ∧ ∀ u ∈ xs, MKi w3.heap.size w4 q u := fun q h => by
    obtain ⟨xs, h1, h2⟩ := hf2 q h
    exact ⟨xs, (h1.ex hx3).kt hk4 (fun b hb ⟨p, h3, h4⟩ => hd q (hin q h) p (hil p h3) (hnd3 q h p h3) b hb h4), h2⟩
  repeat (first | (refine isO ?_; first | refine s_move ?_ | refine s_assign ?_ | (refine isG ?_; refine g_yes rfl rfl ?_) | (refine isPick ?_; refine s_pickt rfl rfl ?_)) | (refine isC ?_; first | refine c_sr ?_ | refine c_th ?_ | refine c_seq ?_ | refine c_region ?_ | refine c_ift rfl ?_ | refine c_iff rfl ?_ | refine c_block ?_ | refine c_ret ?_ | refine c_exit ?_ | refine c_skip ?_) | (first | refine l_th ?_ | refine th_norm ?_ | refine ib_norm ?_ | refine l_nil ?_ | refine th_ret ?_ | refine ib_ret ?_ | refine ib_exit ?_ | refine th_exit ?_ | refine ib_pass rfl ?_))
  refine s_call ok_fillByteList rfl (fillByteList_ct bk M vi vl w4 hd4) ?_
  rintro v w5 ⟨rfl, hx5⟩
  repeat (first | (refine isO ?_; first | refine s_move ?_ | refine s_assign ?_ | (refine isG ?_; refine g_yes rfl rfl ?_) | (refine isPick ?_; refine s_pickt rfl rfl ?_)) | (refine isC ?_; first | refine c_sr ?_ | refine c_th ?_ | refine c_seq ?_ | refine c_region ?_ | refine c_ift rfl ?_ | refine c_iff rfl ?_ | refine c_block ?_ | refine c_ret ?_ | refine c_exit ?_ | refine c_skip ?_) | (first | refine l_th ?_ | refine th_norm ?_ | refine ib_norm ?_ | refine l_nil ?_ | refine th_ret ?_ | refine ib_ret ?_ | refine ib_exit ?_ | refine th_exit ?_ | refine ib_pass rfl ?_))
  refine s_call ok_fillWhy rfl (fillWhy_ct bk M vi vl w5 (hd4.ex hx5)) ?_
  rintro v w6 ⟨rfl, hx6⟩
  have hx46 := hx5.trans hx6
  repeat (first | (refine isO ?_; first | refine s_move ?_ | refine s_assign ?_ | (refine isG ?_; refine g_yes rfl rfl ?_) | (refine isPick ?_; refine s_pickt rfl rfl ?_)) | (refine isC ?_; first | refine c_sr ?_ | refine c_th ?_ | refine c_seq ?_ | refine c_region ?_ | refine c_ift rfl ?_ | refine c_iff rfl ?_ | refine c_block ?_ | refine c_ret ?_ | refine c_exit ?_ | refine c_skip ?_) | (first | refine l_th ?_ | refine th_norm ?_ | refine ib_norm ?_ | refine l_nil ?_ | refine th_ret ?_ | refine ib_ret ?_ | refine ib_exit ?_ | refine th_exit ?_ | refine ib_pass rfl ?_))
  refine s_call ok_fillFrame rfl (fillFrame_ct bk M vi vl w6 (hd4.ex hx46)) ?_
  rintro v w7 ⟨rfl, hx7⟩
  have hx47 := hx46.trans hx7
  repeat (first | (refine isO ?_; first | refine s_move ?_ | refine s_assign ?_ | (refine isG ?_; refine g_yes rfl rfl ?_) | (refine isPick ?_; refine s_pickt rfl rfl ?_)) | (refine isC ?_; first | refine c_sr ?_ | refine c_th ?_ | refine c_seq ?_ | refine c_region ?_ | refine c_ift rfl ?_ | refine c_iff rfl ?_ | refine c_block ?_ | refine c_ret ?_ | refine c_exit ?_ | refine c_skip ?_) | (first | refine l_th ?_ | refine th_norm ?_ | refine ib_norm ?_ | refine l_nil ?_ | refine th_ret ?_ | refine ib_ret ?_ | refine ib_exit ?_ | refine th_exit ?_ | refine ib_pass rfl ?_))
  refine s_call ok_fillReply rfl (fillReply_ct bk M vi vl w7 (hd4.ex hx47)) ?_
  rintro v w8 ⟨rfl, hx8⟩
  have hx48 := hx47.trans hx8
  repeat (first | (refine isO ?_; first | refine s_move ?_ | refine s_assign ?_ | (refine isG ?_; refine g_yes rfl rfl ?_) | (refine isPick ?_; refine s_pickt rfl rfl ?_)) | (refine isC ?_; first | refine c_sr ?_ | refine c_th ?_ | refine c_seq ?_ | refine c_region ?_ | refine c_ift rfl ?_ | refine c_iff rfl ?_ | refine c_block ?_ | refine c_ret ?_ | refine c_exit ?_ | refine c_skip ?_) | (first | refine l_th ?_ | refine th_norm ?_ | refine ib_norm ?_ | refine l_nil ?_ | refine th_ret ?_ | refine ib_ret ?_ | refine ib_exit ?_ | refine th_exit ?_ | refine ib_pass rfl ?_))
  refine s_call ok_fillRecord rfl (fillRecord_ct bk M vi vl w8 (hd4.ex hx48)) ?_
  rintro v w9 ⟨rfl, hx9⟩
  have hx49 := hx48.trans hx9
  repeat (first | (refine isO ?_; first | refine s_move ?_ | refine s_assign ?_ | (refine isG ?_; refine g_yes rfl rfl ?_) | (refine isPick ?_; refine s_pickt rfl rfl ?_)) | (refine isC ?_; first | refine c_sr ?_ | refine c_th ?_ | refine c_seq ?_ | refine c_region ?_ | refine c_ift rfl ?_ | refine c_iff rfl ?_ | refine c_block ?_ | refine c_ret ?_ | refine c_exit ?_ | refine c_skip ?_) | (first | refine l_th ?_ | refine th_norm ?_ | refine ib_norm ?_ | refine l_nil ?_ | refine th_ret ?_ | refine ib_ret ?_ | refine ib_exit ?_ | refine th_exit ?_ | refine ib_pass rfl ?_))
  refine s_call ok_growByte rfl (growByte_ct bk M vi vl w9 (hd4.ex hx49)) ?_
  rintro v wa ⟨rfl, hxa⟩
  have hx4a := hx49.trans hxa
  have z4a := hx4a.size
  repeat (first | (refine isO ?_; first | refine s_move ?_ | refine s_assign ?_ | (refine isG ?_; refine g_yes rfl rfl ?_) | (refine isPick ?_; refine s_pickt rfl rfl ?_)) | (refine isC ?_; first | refine c_sr ?_ | refine c_th ?_ | refine c_seq ?_ | refine c_region ?_ | refine c_ift rfl ?_ | refine c_iff rfl ?_ | refine c_block ?_ | refine c_ret ?_ | refine c_exit ?_ | refine c_skip ?_) | (first | refine l_th ?_ | refine th_norm ?_ | refine ib_norm ?_ | refine l_nil ?_ | refine th_ret ?_ | refine ib_ret ?_ | refine ib_exit ?_ | refine th_exit ?_ | refine ib_pass rfl ?_))
  refine s_call ok_growInt rfl (growInt_ct bk M w3.heap.size ns L (fun _ => nilV) ln vi vl wa (hd4.ex hx4a) (hwi4.ex hx4a) hN (fun q h => hq q (hin q h)) (fun q h => let ⟨xs, h1, h2⟩ := hI4 q h; ⟨xs, h1.ex hx4a, h2⟩) (fun q h => hln q (hin q h)) (fun q _ => hG0 q) hnd1 hdi (fun q h b hb => ⟨(hvi q (hin q h) b hb).1, (hvi q (hin q h) b hb).2.1, by have := hlow q (hin q h) b hb; omega⟩) (fun b hb => ⟨(hB.oi b hb).2.1, by have := hB.wi.lt b hb; omega⟩) (by omega)) ?_
  rintro v wb ⟨rfl, hkb, Gi, hwib, hfb⟩
  have zb := hkb.size
  have hdb := (hd4.ex hx4a).kt hkb (fun h => by
    rcases h with ⟨q, h1, h2⟩ | h
    · exact (hvi q (hin q h1) bk h2).1 rfl
    · exact (hB.oi bk h).2.1 rfl)
  have hwlb := (hwl4.ex hx4a).kt hkb (fun b hb h => by
    rcases h with ⟨q, h1, h2⟩ | h
    · exact (hvi q (hin q h1) b h2).2.2 hb
    · exact (hB.oi b h).2.2 hb)
  have hSb : ∀ b, ((∃ q ∈ ns, (L q).ownBlock = some b) ∨ vi.ownBlock = some b) → b < w3.heap.size := fun b h => by
    rcases h with ⟨q, h1, h2⟩ | h
    · have := hlow q (hin q h1) b h2; omega
    · have := hB.wi.lt b h; omega
  have hJb : ∀ q ∈ nl, ∃ xs, Wd wb 25 1 (L q) (ln q) xs ∧ ∀ u ∈ xs, MKl w3.heap.size wb q u := fun q h => by
    obtain ⟨xs, h1, h2⟩ := hf4 q h
    refine ⟨xs, (h1.ex hx4a).kt hkb (fun b hb h9 => ?_), fun u hu => MKl.kt ((h2 u hu).ex hx4a) hkb hSb⟩
    rcases h9 with ⟨p, h3, h4⟩ | h3
    · exact hd p (hin p h3) q (hil q h) (hnd3 p h3 q h) b h4 hb
    · exact (hvi q (hil q h) b hb).2.1 h3
  repeat (first | (refine isO ?_; first | refine s_move ?_ | refine s_assign ?_ | (refine isG ?_; refine g_yes rfl rfl ?_) | (refine isPick ?_; refine s_pickt rfl rfl ?_)) | (refine isC ?_; first | refine c_sr ?_ | refine c_th ?_ | refine c_seq ?_ | refine c_region ?_ | refine c_ift rfl ?_ | refine c_iff rfl ?_ | refine c_block ?_ | refine c_ret ?_ | refine c_exit ?_ | refine c_skip ?_) | (first | refine l_th ?_ | refine th_norm ?_ | refine ib_norm ?_ | refine l_nil ?_ | refine th_ret ?_ | refine ib_ret ?_ | refine ib_exit ?_ | refine th_exit ?_ | refine ib_pass rfl ?_))
  refine s_call ok_growText rfl (growText_ct bk M vi vl wb hdb) ?_
  rintro v wc ⟨rfl, hxc⟩
  have zc := hxc.size
  repeat (first | (refine isO ?_; first | refine s_move ?_ | refine s_assign ?_ | (refine isG ?_; refine g_yes rfl rfl ?_) | (refine isPick ?_; refine s_pickt rfl rfl ?_)) | (refine isC ?_; first | refine c_sr ?_ | refine c_th ?_ | refine c_seq ?_ | refine c_region ?_ | refine c_ift rfl ?_ | refine c_iff rfl ?_ | refine c_block ?_ | refine c_ret ?_ | refine c_exit ?_ | refine c_skip ?_) | (first | refine l_th ?_ | refine th_norm ?_ | refine ib_norm ?_ | refine l_nil ?_ | refine th_ret ?_ | refine ib_ret ?_ | refine ib_exit ?_ | refine th_exit ?_ | refine ib_pass rfl ?_))
  refine s_call ok_growIntList rfl (growIntList_ct bk M w3.heap.size nl L (fun _ => nilV) ln vl vi wc (hdb.ex hxc) (hwlb.ex hxc) hN2 (fun q h => hq q (hil q h)) (fun q h => let ⟨xs, h1, h2⟩ := hJb q h; ⟨xs, h1.ex hxc, fun u hu => (h2 u hu).ex hxc⟩) (fun q h => hln q (hil q h)) (fun q _ => hG0 q) hnd2 hdl (fun q h b hb => ⟨(hvi q (hil q h) b hb).1, (hvi q (hil q h) b hb).2.2, by have := hlow q (hil q h) b hb; omega⟩) (fun b hb => ⟨(hB.ol b hb).2, by have := hB.wl.lt b hb; omega⟩) (by omega)) ?_
  rintro v wd ⟨rfl, hkd, Gl, hwld, hfd⟩
  have zd := hkd.size
  have hdd := (hdb.ex hxc).kt hkd (fun h => by
    rcases h with ⟨q, h1, h2⟩ | h
    · exact (hvi q (hil q h1) bk h2).1 rfl
    · exact (hB.ol bk h).2 rfl)
  have hwid := (hwib.ex hxc).kt hkd (fun b hb h => by
    rcases h with ⟨q, h1, h2⟩ | h
    · exact (hvi q (hil q h1) b h2).2.1 hb
    · exact (hB.oi b hb).2.2 h)
  have hSd : ∀ b, ((∃ q ∈ nl, (L q).ownBlock = some b) ∨ vl.ownBlock = some b) → b < w3.heap.size := fun b h => by
    rcases h with ⟨q, h1, h2⟩ | h
    · have := hlow q (hil q h1) b h2; omega
    · have := hB.wl.lt b h; omega
  have hId : ∀ q ∈ ns, (∃ xs, Wd wd 3 1 (L q) (ln q) xs ∧ ∀ u ∈ xs, MKi w3.heap.size wd q u) ∧ ∃ ys, Wd wd 3 1 (Gi q) (ln q + 40) ys ∧ ∀ u ∈ ys, MKi w3.heap.size wd q u := fun q h => by
    obtain ⟨⟨xs, h1, h2⟩, ⟨ys, h3, h4⟩, h5⟩ := hfb q h
    refine ⟨⟨xs, (h1.ex hxc).kt hkd (fun b hb h9 => ?_), h2⟩, ys, (h3.ex hxc).kt hkd (fun b hb h9 => ?_), h4⟩
    · rcases h9 with ⟨p, h6, h7⟩ | h6
      · exact hd q (hin q h) p (hil p h6) (hnd3 q h p h6) b hb h7
      · exact (hvi q (hin q h) b hb).2.2 h6
    · rcases h5 b hb with h8 | h8
      · rcases h9 with ⟨p, h6, h7⟩ | h6
        · exact hd q (hin q h) p (hil p h6) (hnd3 q h p h6) b h8 h7
        · exact (hvi q (hin q h) b h8).2.2 h6
      · have := hSd b h9; omega
  repeat (first | (refine isO ?_; first | refine s_move ?_ | refine s_assign ?_ | (refine isG ?_; refine g_yes rfl rfl ?_) | (refine isPick ?_; refine s_pickt rfl rfl ?_)) | (refine isC ?_; first | refine c_sr ?_ | refine c_th ?_ | refine c_seq ?_ | refine c_region ?_ | refine c_ift rfl ?_ | refine c_iff rfl ?_ | refine c_block ?_ | refine c_ret ?_ | refine c_exit ?_ | refine c_skip ?_) | (first | refine l_th ?_ | refine th_norm ?_ | refine ib_norm ?_ | refine l_nil ?_ | refine th_ret ?_ | refine ib_ret ?_ | refine ib_exit ?_ | refine th_exit ?_ | refine ib_pass rfl ?_))
  refine s_call ok_growByteList rfl (growByteList_ct bk M vi vl wd hdd) ?_
  rintro v we ⟨rfl, hxe⟩
  repeat (first | (refine isO ?_; first | refine s_move ?_ | refine s_assign ?_ | (refine isG ?_; refine g_yes rfl rfl ?_) | (refine isPick ?_; refine s_pickt rfl rfl ?_)) | (refine isC ?_; first | refine c_sr ?_ | refine c_th ?_ | refine c_seq ?_ | refine c_region ?_ | refine c_ift rfl ?_ | refine c_iff rfl ?_ | refine c_block ?_ | refine c_ret ?_ | refine c_exit ?_ | refine c_skip ?_) | (first | refine l_th ?_ | refine th_norm ?_ | refine ib_norm ?_ | refine l_nil ?_ | refine th_ret ?_ | refine ib_ret ?_ | refine ib_exit ?_ | refine th_exit ?_ | refine ib_pass rfl ?_))
  refine s_call ok_growWhy rfl (growWhy_ct bk M vi vl we (hdd.ex hxe)) ?_
  rintro v wf ⟨rfl, hxf⟩
  have hxdf := hxe.trans hxf
  repeat (first | (refine isO ?_; first | refine s_move ?_ | refine s_assign ?_ | (refine isG ?_; refine g_yes rfl rfl ?_) | (refine isPick ?_; refine s_pickt rfl rfl ?_)) | (refine isC ?_; first | refine c_sr ?_ | refine c_th ?_ | refine c_seq ?_ | refine c_region ?_ | refine c_ift rfl ?_ | refine c_iff rfl ?_ | refine c_block ?_ | refine c_ret ?_ | refine c_exit ?_ | refine c_skip ?_) | (first | refine l_th ?_ | refine th_norm ?_ | refine ib_norm ?_ | refine l_nil ?_ | refine th_ret ?_ | refine ib_ret ?_ | refine ib_exit ?_ | refine th_exit ?_ | refine ib_pass rfl ?_))
  refine s_call ok_growFrame rfl (growFrame_ct bk M vi vl wf (hdd.ex hxdf)) ?_
  rintro v wg ⟨rfl, hxg⟩
  have hxdg := hxdf.trans hxg
  repeat (first | (refine isO ?_; first | refine s_move ?_ | refine s_assign ?_ | (refine isG ?_; refine g_yes rfl rfl ?_) | (refine isPick ?_; refine s_pickt rfl rfl ?_)) | (refine isC ?_; first | refine c_sr ?_ | refine c_th ?_ | refine c_seq ?_ | refine c_region ?_ | refine c_ift rfl ?_ | refine c_iff rfl ?_ | refine c_block ?_ | refine c_ret ?_ | refine c_exit ?_ | refine c_skip ?_) | (first | refine l_th ?_ | refine th_norm ?_ | refine ib_norm ?_ | refine l_nil ?_ | refine th_ret ?_ | refine ib_ret ?_ | refine ib_exit ?_ | refine th_exit ?_ | refine ib_pass rfl ?_))
  refine s_call ok_growReply rfl (growReply_ct bk M vi vl wg (hdd.ex hxdg)) ?_
  rintro v wh ⟨rfl, hxh⟩
  have hxdh := hxdg.trans hxh
  repeat (first | (refine isO ?_; first | refine s_move ?_ | refine s_assign ?_ | (refine isG ?_; refine g_yes rfl rfl ?_) | (refine isPick ?_; refine s_pickt rfl rfl ?_)) | (refine isC ?_; first | refine c_sr ?_ | refine c_th ?_ | refine c_seq ?_ | refine c_region ?_ | refine c_ift rfl ?_ | refine c_iff rfl ?_ | refine c_block ?_ | refine c_ret ?_ | refine c_exit ?_ | refine c_skip ?_) | (first | refine l_th ?_ | refine th_norm ?_ | refine ib_norm ?_ | refine l_nil ?_ | refine th_ret ?_ | refine ib_ret ?_ | refine ib_exit ?_ | refine th_exit ?_ | refine ib_pass rfl ?_))
  refine s_call ok_growRecord rfl (growRecord_ct bk M vi vl wh (hdd.ex hxdh)) ?_
  rintro v wi ⟨rfl, hxi⟩
  have hxdi := hxdh.trans hxi
  repeat (first | (refine isO ?_; first | refine s_move ?_ | refine s_assign ?_ | (refine isG ?_; refine g_yes rfl rfl ?_) | (refine isPick ?_; refine s_pickt rfl rfl ?_)) | (refine isC ?_; first | refine c_sr ?_ | refine c_th ?_ | refine c_seq ?_ | refine c_region ?_ | refine c_ift rfl ?_ | refine c_iff rfl ?_ | refine c_block ?_ | refine c_ret ?_ | refine c_exit ?_ | refine c_skip ?_) | (first | refine l_th ?_ | refine th_norm ?_ | refine ib_norm ?_ | refine l_nil ?_ | refine th_ret ?_ | refine ib_ret ?_ | refine ib_exit ?_ | refine th_exit ?_ | refine ib_pass rfl ?_))
  refine s_call ok_lookByte rfl (lookByte_ct bk M vi vl wi (hdd.ex hxdi)) ?_
  rintro v wj ⟨rfl, hxj⟩
  have hxdj := hxdi.trans hxj
  repeat (first | (refine isO ?_; first | refine s_move ?_ | refine s_assign ?_ | (refine isG ?_; refine g_yes rfl rfl ?_) | (refine isPick ?_; refine s_pickt rfl rfl ?_)) | (refine isC ?_; first | refine c_sr ?_ | refine c_th ?_ | refine c_seq ?_ | refine c_region ?_ | refine c_ift rfl ?_ | refine c_iff rfl ?_ | refine c_block ?_ | refine c_ret ?_ | refine c_exit ?_ | refine c_skip ?_) | (first | refine l_th ?_ | refine th_norm ?_ | refine ib_norm ?_ | refine l_nil ?_ | refine th_ret ?_ | refine ib_ret ?_ | refine ib_exit ?_ | refine th_exit ?_ | refine ib_pass rfl ?_))
  refine s_call ok_lookInt rfl (lookInt_ct bk M w3.heap.size ns L Gi ln vi vl wj (hdd.ex hxdj) (hwid.ex hxdj) hN (fun q h => hq q (hin q h)) (fun q h => let ⟨⟨xs, h1, h2⟩, ys, h3, h4⟩ := hId q h; ⟨⟨xs, h1.ex hxdj, h2⟩, ys, h3.ex hxdj, h4⟩) (fun q h => hln q (hin q h))) ?_
  rintro v wk ⟨rfl, hxk⟩
  have hxdk := hxdj.trans hxk
  repeat (first | (refine isO ?_; first | refine s_move ?_ | refine s_assign ?_ | (refine isG ?_; refine g_yes rfl rfl ?_) | (refine isPick ?_; refine s_pickt rfl rfl ?_)) | (refine isC ?_; first | refine c_sr ?_ | refine c_th ?_ | refine c_seq ?_ | refine c_region ?_ | refine c_ift rfl ?_ | refine c_iff rfl ?_ | refine c_block ?_ | refine c_ret ?_ | refine c_exit ?_ | refine c_skip ?_) | (first | refine l_th ?_ | refine th_norm ?_ | refine ib_norm ?_ | refine l_nil ?_ | refine th_ret ?_ | refine ib_ret ?_ | refine ib_exit ?_ | refine th_exit ?_ | refine ib_pass rfl ?_))
  refine s_call ok_lookText rfl (lookText_ct bk M vi vl wk (hdd.ex hxdk)) ?_
  rintro v wl ⟨rfl, hxl⟩
  have hxdl := hxdk.trans hxl
  repeat (first | (refine isO ?_; first | refine s_move ?_ | refine s_assign ?_ | (refine isG ?_; refine g_yes rfl rfl ?_) | (refine isPick ?_; refine s_pickt rfl rfl ?_)) | (refine isC ?_; first | refine c_sr ?_ | refine c_th ?_ | refine c_seq ?_ | refine c_region ?_ | refine c_ift rfl ?_ | refine c_iff rfl ?_ | refine c_block ?_ | refine c_ret ?_ | refine c_exit ?_ | refine c_skip ?_) | (first | refine l_th ?_ | refine th_norm ?_ | refine ib_norm ?_ | refine l_nil ?_ | refine th_ret ?_ | refine ib_ret ?_ | refine ib_exit ?_ | refine th_exit ?_ | refine ib_pass rfl ?_))
  refine s_call ok_lookIntList rfl (lookIntList_ct bk M w3.heap.size nl L Gl ln vl vi wl (hdd.ex hxdl) (hwld.ex hxdl) hN2 (fun q h => hq q (hil q h)) (fun q h => let ⟨⟨xs, h1, h2⟩, ⟨ys, h3, h4⟩, _⟩ := hfd q h; ⟨⟨xs, h1.ex hxdl, fun u hu => (h2 u hu).ex hxdl⟩, ys, h3.ex hxdl, fun u hu => (h4 u hu).ex hxdl⟩) (fun q h => hln q (hil q h))) ?_
  rintro v wm ⟨rfl, hxm⟩
  have hxdm := hxdl.trans hxm
  repeat (first | (refine isO ?_; first | refine s_move ?_ | refine s_assign ?_ | (refine isG ?_; refine g_yes rfl rfl ?_) | (refine isPick ?_; refine s_pickt rfl rfl ?_)) | (refine isC ?_; first | refine c_sr ?_ | refine c_th ?_ | refine c_seq ?_ | refine c_region ?_ | refine c_ift rfl ?_ | refine c_iff rfl ?_ | refine c_block ?_ | refine c_ret ?_ | refine c_exit ?_ | refine c_skip ?_) | (first | refine l_th ?_ | refine th_norm ?_ | refine ib_norm ?_ | refine l_nil ?_ | refine th_ret ?_ | refine ib_ret ?_ | refine ib_exit ?_ | refine th_exit ?_ | refine ib_pass rfl ?_))
  refine s_call ok_lookByteList rfl (lookByteList_ct bk M vi vl wm (hdd.ex hxdm)) ?_
  rintro v wn ⟨rfl, hxn⟩
  have hxdn := hxdm.trans hxn
  repeat (first | (refine isO ?_; first | refine s_move ?_ | refine s_assign ?_ | (refine isG ?_; refine g_yes rfl rfl ?_) | (refine isPick ?_; refine s_pickt rfl rfl ?_)) | (refine isC ?_; first | refine c_sr ?_ | refine c_th ?_ | refine c_seq ?_ | refine c_region ?_ | refine c_ift rfl ?_ | refine c_iff rfl ?_ | refine c_block ?_ | refine c_ret ?_ | refine c_exit ?_ | refine c_skip ?_) | (first | refine l_th ?_ | refine th_norm ?_ | refine ib_norm ?_ | refine l_nil ?_ | refine th_ret ?_ | refine ib_ret ?_ | refine ib_exit ?_ | refine th_exit ?_ | refine ib_pass rfl ?_))
  refine s_call ok_lookWhy rfl (lookWhy_ct bk M vi vl wn (hdd.ex hxdn)) ?_
  rintro v wo ⟨rfl, hxo⟩
  have hxdo := hxdn.trans hxo
  repeat (first | (refine isO ?_; first | refine s_move ?_ | refine s_assign ?_ | (refine isG ?_; refine g_yes rfl rfl ?_) | (refine isPick ?_; refine s_pickt rfl rfl ?_)) | (refine isC ?_; first | refine c_sr ?_ | refine c_th ?_ | refine c_seq ?_ | refine c_region ?_ | refine c_ift rfl ?_ | refine c_iff rfl ?_ | refine c_block ?_ | refine c_ret ?_ | refine c_exit ?_ | refine c_skip ?_) | (first | refine l_th ?_ | refine th_norm ?_ | refine ib_norm ?_ | refine l_nil ?_ | refine th_ret ?_ | refine ib_ret ?_ | refine ib_exit ?_ | refine th_exit ?_ | refine ib_pass rfl ?_))
  refine s_call ok_lookFrame rfl (lookFrame_ct bk M vi vl wo (hdd.ex hxdo)) ?_
  rintro v wp ⟨rfl, hxp⟩
  have hxdp := hxdo.trans hxp
  repeat (first | (refine isO ?_; first | refine s_move ?_ | refine s_assign ?_ | (refine isG ?_; refine g_yes rfl rfl ?_) | (refine isPick ?_; refine s_pickt rfl rfl ?_)) | (refine isC ?_; first | refine c_sr ?_ | refine c_th ?_ | refine c_seq ?_ | refine c_region ?_ | refine c_ift rfl ?_ | refine c_iff rfl ?_ | refine c_block ?_ | refine c_ret ?_ | refine c_exit ?_ | refine c_skip ?_) | (first | refine l_th ?_ | refine th_norm ?_ | refine ib_norm ?_ | refine l_nil ?_ | refine th_ret ?_ | refine ib_ret ?_ | refine ib_exit ?_ | refine th_exit ?_ | refine ib_pass rfl ?_))
  refine s_call ok_lookReply rfl (lookReply_ct bk M vi vl wp (hdd.ex hxdp)) ?_
  rintro v wq ⟨rfl, hxq⟩
  have hxdq := hxdp.trans hxq
  repeat (first | (refine isO ?_; first | refine s_move ?_ | refine s_assign ?_ | (refine isG ?_; refine g_yes rfl rfl ?_) | (refine isPick ?_; refine s_pickt rfl rfl ?_)) | (refine isC ?_; first | refine c_sr ?_ | refine c_th ?_ | refine c_seq ?_ | refine c_region ?_ | refine c_ift rfl ?_ | refine c_iff rfl ?_ | refine c_block ?_ | refine c_ret ?_ | refine c_exit ?_ | refine c_skip ?_) | (first | refine l_th ?_ | refine th_norm ?_ | refine ib_norm ?_ | refine l_nil ?_ | refine th_ret ?_ | refine ib_ret ?_ | refine ib_exit ?_ | refine th_exit ?_ | refine ib_pass rfl ?_))
  refine s_call ok_lookRecord rfl (lookRecord_ct bk M vi vl wq (hdd.ex hxdq)) ?_
  rintro v wr ⟨rfl, hxr⟩
  have hxdr := hxdq.trans hxr
  repeat (first | (refine isO ?_; first | refine s_move ?_ | refine s_assign ?_ | (refine isG ?_; refine g_yes rfl rfl ?_) | (refine isPick ?_; refine s_pickt rfl rfl ?_)) | (refine isC ?_; first | refine c_sr ?_ | refine c_th ?_ | refine c_seq ?_ | refine c_region ?_ | refine c_ift rfl ?_ | refine c_iff rfl ?_ | refine c_block ?_ | refine c_ret ?_ | refine c_exit ?_ | refine c_skip ?_) | (first | refine l_th ?_ | refine th_norm ?_ | refine ib_norm ?_ | refine l_nil ?_ | refine th_ret ?_ | refine ib_ret ?_ | refine ib_exit ?_ | refine th_exit ?_ | refine ib_pass rfl ?_))
  refine ret1 rfl rfl ⟨rfl, ?_⟩
  have t1 : KtS (fun b => (∃ q ∈ ns ++ nl, (L q).ownBlock = some b) ∨ wB.heap.size ≤ b) w w2 := (KtS.of_ex hx1).trans (hk2.mono (fun b ⟨q, h1, h2⟩ => .inl ⟨q, hin q h1, h2⟩))
  have t2 : KtS (fun b => (∃ q ∈ ns ++ nl, (L q).ownBlock = some b) ∨ wB.heap.size ≤ b) w2 w4 := (KtS.of_ex hx3).trans (hk4.mono (fun b ⟨q, h1, h2⟩ => .inl ⟨q, hil q h1, h2⟩))
  have t3 : KtS (fun b => (∃ q ∈ ns ++ nl, (L q).ownBlock = some b) ∨ wB.heap.size ≤ b) w4 wb := (KtS.of_ex hx4a).trans (hkb.mono (fun b h => by
    rcases h with ⟨q, h1, h2⟩ | h
    · exact .inl ⟨q, hin q h1, h2⟩
    · exact .inr (hB.oi b h).1))
  have t4 : KtS (fun b => (∃ q ∈ ns ++ nl, (L q).ownBlock = some b) ∨ wB.heap.size ≤ b) wb wd := (KtS.of_ex hxc).trans (hkd.mono (fun b h => by
    rcases h with ⟨q, h1, h2⟩ | h
    · exact .inl ⟨q, hil q h1, h2⟩
    · exact .inr (hB.ol b h).1))
  exact (((t1.trans t2).trans t3).trans t4).trans (KtS.of_ex hxdr)
end Go.Proofs.YtkhnohnkcdcajaaDoor.Sal
