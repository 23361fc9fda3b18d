/- Texts that YtifbgpkjbciblaaGreatDoorF08 leans on, laid together: MW R7 R8 G2c M8 BO2 L08. -/
import Derived.Test.YtifbgpkjbciblaaGreatDoorMF086
import Derived.Test.YtifbgpkjbciblaaGreatDoorMF083
/- matchings.Most: the answer lies in memory of its own. -/
set_option maxRecDepth 100000
namespace Go.Proofs.YtifbgpkjbciblaaGreatDoor.Sal
open Go.RowKit
set_option linter.all false
attribute [local irreducible] Go.Code.wpIn Go.wpListIn Ct Ints Rows Sl At Rw WJ
attribute [local irreducible] Wd
/-- What lies in memory between two bidders, and that the matching is one's own. -/
structure MSW (wB W : World) (b2 b3 b6 : Nat) (gv : Value) (n : Nat) (hv : Value) (l : List Int) : Prop where
  ms : MS wB W b2 b3 b6 gv n hv l
  wd : Wd W 3 1 hv l.length (l.map (Value.int .i64))
theorem MSW.exd {wB W W' : World} {b2 b3 b6 : Nat} {gv : Value} {n : Nat} {hv : Value} {l : List Int} (h : MSW wB W b2 b3 b6 gv n hv l) (hx : Ex W W') : MSW wB W' b2 b3 b6 gv n hv l := ⟨h.ms.exd hx, h.wd.ex hx⟩
set_option maxHeartbeats 4000000 in
theorem Most1_ctW {R : Nat → Nat → Bool} {m n i : Nat} (hm : m ≤ 8) (hn : n ≤ 8) (hi : i < m) {gv hv : Value} {b2 b3 b6 : Nat} {wB w : World} (hg : Rows wB gv (gL R m n)) (hMW : MSW wB w b2 b3 b6 gv n hv (mostN R m n i)) (hb6 : wB.heap.size ≤ b6) (h26 : b2 ≠ b6) (h36 : b3 ≠ b6) :
    Ct Tryz.prog 33 #[.int .i64 (i : Int), .pointer (some ⟨b2, 0, none⟩), .pointer (some ⟨b3, 0, none⟩), .pointer (some ⟨b6, 0, none⟩)] w fun u w' => u = .tuple #[] ∧ ∃ hv', MSW wB w' b2 b3 b6 gv n hv' (mostN R m n (i + 1)) := by
  have hM := hMW.ms
  have hA2 := hM.a2
  have hA3 := hM.a3
  have hA6 := hM.a6
  have hI := hM.il
  have hx := hM.ex
  have hF := mostN_fit (R := R) hn (show i ≤ m by omega)
  have hno := mostN_none (R := R) hn hi
  refine enter (N := 23) (vs := [.int .i64 (i : Int), .pointer (some ⟨b2, 0, none⟩), .pointer (some ⟨b3, 0, none⟩), .pointer (some ⟨b6, 0, none⟩)]) Tryz.func33 rfl rfl rfl ?_
  refine c_sr ?_
  refine s_ldA ty_rows rfl hA2 rfl ?_
  refine s_ldA ty_int rfl hA3 rfl ?_
  refine s_ldA ty_ints rfl hA6 rfl ?_
  repeat ((refine isO ?_; refine s_move ?_))
  refine s_call ok_More rfl (More_ct (gv := gv) (hv := hv) (a := i) hm hn (hg.ex hx) hI hF hi hno) ?_
  rintro u w2 ⟨hx2, hres⟩
  have hM2W := hMW.exd hx2
  have hM2 := hM2W.ms
  refine Or.elim hres (fun h => Exists.elim h fun l h => Exists.elim h fun hb h => ?_) (fun h => ?_)
  · have h1 := h.1
    have h2 := h.2.1
    have h3 := h.2.2.1
    have h4 := h.2.2.2.1
    have h5 := h.2.2.2.2
    have hst := mostN_some h1
    have hlt := hA6.lt
    have z := hx.size
    have hIl : Ints w2 (sv hb m m) l := by have h9 := h4.ints; rw [h5] at h9; exact h9
    have hWl : Wd w2 3 1 (sv hb m m) l.length (l.map (Value.int .i64)) := by rw [← h5] at h4 ⊢; exact h4.wdc
    have hA62 := hM2.a6
    refine s_re h2 ?_
    repeat (first | (refine isO ?_; first | refine s_move ?_ | refine s_assign ?_ | (refine isG ?_; refine g_yes rfl rfl ?_) | (refine isBin ?_; refine s_eqlT rfl rfl (by omega) ?_) | (refine isPick ?_; refine s_pickt rfl rfl ?_) | refine s_extract rfl rfl ?_) | (refine isC ?_; first | refine c_sr ?_ | refine c_region ?_ | refine c_ift rfl ?_) | (refine l_th ?_))
    refine s_stA (n := 0) (u := sv hb m m) ty_ints rfl rfl rfl hA62 (by simp) ?_
    intro w3 hA63 hg3
    repeat ((refine l_nil ?_))
    refine end0 rfl ⟨rfl, sv hb m m, ⟨hM2.a2.grown hg3 (fun e => h26 (Option.some.inj e).symm), hM2.a3.grown hg3 (fun e => h36 (Option.some.inj e).symm), hA63, ?_, fun b e => ?_, hM2.ex.store hg3 hb6⟩, ?_⟩
    · rw [hst]
      exact hIl.kept hg3 (.inr fun e => by have := own_sv e; omega)
    · have := own_sv e; omega
    · rw [hst]
      exact hWl.grown hg3 (fun b e e2 => by have := own_sv e; have := Option.some.inj e2; omega)
  · have h1 := h.1
    have h2 := h.2
    have hst := mostN_no h1
    refine s_re h2 ?_
    repeat (first | (refine isO ?_; first | refine s_move ?_ | refine s_assign ?_ | (refine isG ?_; refine g_yes rfl rfl ?_) | (refine isBin ?_; refine s_eqlT rfl rfl (by omega) ?_) | (refine isPick ?_; refine s_pickt rfl rfl ?_) | refine s_extract rfl rfl ?_) | (refine isC ?_; first | refine c_sr ?_ | refine c_iff rfl ?_ | refine c_skip ?_) | (refine l_th ?_))
    refine end0 rfl ⟨rfl, hv, ?_⟩
    rw [hst]; exact hM2W
set_option maxHeartbeats 4000000 in
theorem Most_okW {R : Nat → Nat → Bool} {m n : Nat} (hm : m ≤ 8) (hn : n ≤ 8) (gv : Value) (w : World) (hg : Rows w gv (gL R m n)) :
    Ct Tryz.prog 9 #[gv, .int .i64 (n : Int)] w fun u w' => ∃ v, u = .tuple #[v, .int .i64 0] ∧ OwI w w' v (mostR R m n) ∧ Ints w' v (mostR R m n) ∧ Ex w w' := by
  have hgl := gL_len R m n
  have hchk := chk_ok (R := R) hm hn
  refine Exists.elim in_ints' fun ti hti => ?_
  refine Exists.elim hg.form fun ga hga => Exists.elim hga fun gc hgc => ?_
  subst hgc
  refine enter (N := 29) (vs := [.slice ga (gL R m n).length gc, .int .i64 (n : Int)]) Tryz.func9 rfl rfl rfl ?_
  refine c_sr ?_
  refine s_box (cs := [.slice ga (gL R m n).length gc]) rfl rfl ?_
  intro b2 w1 hb2 hA2 hx1 hs1
  refine s_box (cs := [.int .i64 (n : Int)]) rfl rfl ?_
  intro b3 w2 hb3 hA3 hx2 hs2
  have hA22 := hA2.ex hx2
  have hx02 := hx1.trans hx2
  repeat (first | (refine isO ?_; refine s_assign ?_) | (refine isC ?_; first | refine c_sr ?_ | refine c_seq ?_) | (refine l_th ?_))
  refine s_ldA ty_rows rfl hA22 rfl ?_
  repeat ((refine isO ?_; (refine isLD ?_; refine s_ldA ty_int rfl (by assumption) rfl ?_)))
  refine s_call ok_Check rfl (Check_ct _ (gL R m n) n w2 (hg.ex hx02)) ?_
  rintro v w3 ⟨rfl, hx3⟩
  refine s_re (v' := .bool true) (vbool hchk) ?_
  repeat (first | (refine isO ?_; refine s_not rfl ?_) | (refine isC ?_; first | refine c_sr ?_ | refine c_th ?_ | refine c_iff rfl ?_) | (refine l_th ?_))
  refine s_bs1 sl_ints in_int rfl rfl ?_
  intro b13 w4 hb13 hA13 hx4 hs4
  have hA24 := hA22.ex (hx3.trans hx4)
  refine s_ldA ty_rows rfl hA24 rfl ?_
  refine s_len sl_rows rfl ?_
  refine s_re (v' := .int .i64 (m : Int)) (vint (by rw [hgl])) ?_
  refine s_call ok_Repeat rfl (Repeat_ct b13 m (by omega) w4 hA13) ?_
  rintro v w5 ⟨hb, rfl, hbw, hA5, hx5⟩
  refine s_alloc (cs := [.slice none 0 0]) hti.1 hti.2.1 rfl ?_
  intro b6 w6 hb6 hA6 hx6 hs6
  refine s_stA (n := 0) (u := sv hb m m) ty_ints rfl rfl rfl hA6 (by simp) ?_
  intro w7 hA7 hg7
  have z1 := hx1.size
  have z2 := hx2.size
  have z3 := hx3.size
  have z4 := hx4.size
  have z5 := hx5.size
  have z6 := hx6.size
  have hlh := hA5.lt
  have hlt3 := hA3.lt
  have hx06 := hx02.trans (hx3.trans (hx4.trans (hx5.trans hx6)))
  have hx26 := hx3.trans (hx4.trans (hx5.trans hx6))
  have hx07 := hx06.store hg7 (by omega)
  rw [rep_ints] at hA5
  have hI5 : Ints w6 (sv hb m m) (List.replicate m (-1)) := by
    have h9 := (hA5.ex hx6).ints (c := m) (by simp; omega) (by simp)
    rw [List.length_replicate] at h9
    exact h9
  have hW5 : Wd w6 3 1 (sv hb m m) m ((List.replicate m (-1)).map (Value.int .i64)) := wd_lit (by simp) (hA5.ex hx6) (by omega)
  have hMS : MS w w7 b2 b3 b6 (.slice ga (gL R m n).length gc) n (sv hb m m) (mostN R m n 0) :=
    ⟨(hA22.ex hx26).grown hg7 (fun e => by have := Option.some.inj e; omega), (hA3.ex hx26).grown hg7 (fun e => by have := Option.some.inj e; omega), hA7, hI5.kept hg7 (.inr fun e => by have := own_sv e; omega), fun b e => by have := own_sv e; omega, hx07⟩
  have hl0 : (mostN R m n 0).length = m := (mostN_fit (R := R) hn (Nat.zero_le m)).len
  have hMSW : MSW w w7 b2 b3 b6 (.slice ga (gL R m n).length gc) n (sv hb m m) (mostN R m n 0) := ⟨hMS, by
    rw [hl0]
    exact hW5.grown hg7 (fun b e e2 => by have := own_sv e; have := Option.some.inj e2; omega)⟩
  have n26 : b2 ≠ b6 := by omega
  have n36 : b3 ≠ b6 := by omega
  have n6w : w.heap.size ≤ b6 := by omega
  repeat (first | (refine isC ?_; refine c_sr ?_) | (refine l_th ?_))
  refine s_mkfn (vs := [.pointer (some ⟨b2, 0, none⟩), .pointer (some ⟨b3, 0, none⟩), .pointer (some ⟨b6, 0, none⟩)]) rfl ?_
  repeat (first | (refine isO ?_; refine s_assign ?_) | (refine isC ?_; first | refine c_sr ?_ | refine c_seq ?_) | (refine l_th ?_))
  refine s_ldA ty_rows rfl hMS.a2 rfl ?_
  refine s_len sl_rows rfl ?_
  refine s_re (v' := .int .i64 (m : Int)) (vint (by rw [hgl])) ?_
  repeat (first | (refine isO ?_; refine s_move ?_) | (refine isC ?_; refine c_block ?_) | (refine l_th ?_))
  refine c_loop (γ := Nat) 133169408 (fun i => [(20, .int .i64 (i : Int))]) (fun i W => i ≤ m ∧ ∃ hv, MSW w W b2 b3 b6 (.slice ga (gL R m n).length gc) n hv (mostN R m n i)) (fun i => m - i) 0 ⟨rfl, trivial⟩ ⟨Nat.zero_le _, _, hMSW⟩ ?_
  rintro i ρ W ⟨hi, hI⟩
  refine Exists.elim hI fun hv hMW => ?_
  have hM := hMW.ms
  repeat (first | (refine isO ?_; (refine isBin ?_; refine s_lss rfl rfl ?_)) | (refine isC ?_; first | refine c_sr ?_ | refine c_seq ?_) | (refine l_th ?_))
  refine c_ifd rfl (fun h => ?_) (fun h => ?_)
  · have hi' : i < m := by omega
    repeat (first | (refine isO ?_; first | refine s_move ?_ | refine s_assign ?_) | (refine isC ?_; first | refine c_sr ?_ | refine c_th ?_ | refine c_seq ?_ | refine c_region ?_ | refine c_block ?_) | (refine l_th ?_))
    refine s_callv (by intro f e; cases e) rfl ok_Most1 rfl (Most1_ctW hm hn hi' hg hMW n6w n26 n36) ?_
    rintro u w8 ⟨rfl, hM8⟩
    repeat (first | (refine isO ?_; first | refine s_move ?_ | (refine isBin ?_; refine s_inc rfl (by omega) ?_)) | (refine isC ?_; refine c_region ?_) | (first | refine l_th ?_ | refine l_nil ?_))
    exact loop_end (i + 1) (by (repeat (first | exact agree_refl _ _ | refine agree_upd rfl ?_ | refine agree_ext rfl ?_ | refine agree_mask rfl ?_))) ⟨rfl, trivial⟩ ⟨hi', hM8⟩ (by omega)
  · have him : i = m := by omega
    subst him
    have hA6W := hM.a6
    have hIl := hM.il
    have hll : (mostN R i n i).length = i := (mostN_fit (R := R) hn (Nat.le_refl i)).len
    repeat (first | (refine isO ?_; (refine isLD ?_; refine s_ldA ty_ints rfl (by assumption) rfl ?_)) | (refine isC ?_; first | refine c_sr ?_ | refine c_exit ?_))
    refine s_call ok_Clip rfl (Clip_ct hv _ W hIl) ?_
    rintro u w9 ⟨⟨ac, cc, hvc, rfl⟩, hI9, hx9⟩
    have hW9 := hMW.wd.ex hx9
    rw [hvc] at hW9
    repeat (first | (refine isO ?_; refine s_assign ?_) | (refine isC ?_; refine c_ret ?_) | (refine l_th ?_))
    refine ret2 rfl rfl rfl ⟨_, rfl, ⟨hW9.clip, fun b hbb => (hM.own b (by rw [hvc]; cases ac <;> exact hbb)).1⟩, hI9, hM.ex.trans hx9⟩
end Go.Proofs.YtifbgpkjbciblaaGreatDoor.Sal
/- The document's answer on ways (salesroomref07): holder, may, search, More. -/
set_option maxRecDepth 100000
namespace Go.Proofs.YtifbgpkjbciblaaGreatDoor.Sal
open Go.RowKit
attribute [local irreducible] Go.Code.wpIn Go.wpListIn Ct Ints Rows Sl At Rw WJ
set_option linter.all false
theorem ok_holder7 : CallOK Tryz.prog 132 := callOK Tryz.func132 (by kernel_rfl) rfl
theorem ok_may7 : CallOK Tryz.prog 94 := callOK Tryz.func94 (by kernel_rfl) rfl
theorem ok_search7 : CallOK Tryz.prog 95 := callOK Tryz.func95 (by kernel_rfl) rfl
theorem ok_More7 : CallOK Tryz.prog 37 := callOK Tryz.func37 (by kernel_rfl) rfl
theorem holder7_ct {R : Nat → Nat → Bool} {m n : Nat} {v : Value} {has : List Int} {k : Nat} {w : World} (hF : FitR R m n has) (hh : Ints w v has) :
    Ct Tryz.prog 132 #[v, .int .i64 (k : Int)] w fun u w' => u = .int .i64 ((holdN has has.length k : Int) - 1) ∧ Ex w w' := by
  have hlen := hh.len
  have hl := hF.len
  refine enter (N := 19) (vs := [v, .int .i64 (k : Int)]) Tryz.func132 rfl rfl rfl ?_
  repeat (first | (refine isO ?_; refine s_assign ?_) | (refine isC ?_; first | refine c_sr ?_ | refine c_seq ?_ | refine c_block ?_) | (refine l_th ?_))
  refine c_loop (γ := Nat) 524272 (fun i => [(5, .int .i64 (i : Int))]) (fun i W => i ≤ has.length ∧ (∀ j, j < i → has.getD j (-1) ≠ (k : Int)) ∧ Ex w W) (fun i => has.length - i) 0 ⟨rfl, trivial⟩ ⟨Nat.zero_le _, fun j h => by omega, Ex.refl _⟩ ?_
  rintro i ρ W ⟨hi, hno, hx⟩
  have hhW := hh.ex hx
  repeat (first | (refine isO ?_; first | refine s_move ?_ | (refine isBin ?_; refine s_lss rfl rfl ?_) | (refine isCall ?_; refine s_lenI sl_ints rfl (by assumption) ?_)) | (refine isC ?_; first | refine c_sr ?_ | refine c_seq ?_) | (refine l_th ?_))
  refine c_ifd rfl (fun h => ?_) (fun h => ?_)
  · have hi' : i < has.length := by omega
    have hd1 := getD_m1 hi'
    by_cases hk : has.getD i 0 = (k : Int)
    · have hf := hold_first (k := k) hF (i := i) (by omega) (by omega)
      repeat (first | (refine isO ?_; first | refine s_move ?_ | refine s_assign ?_ | (refine isBin ?_; refine s_eqlT rfl rfl (by omega) ?_) | (refine isIA ?_; refine s_ixI sl_ints ty_int rfl rfl rfl (by assumption) (by omega) ?_; intro _)) | (refine isC ?_; first | refine c_sr ?_ | refine c_th ?_ | refine c_seq ?_ | refine c_ift rfl ?_ | refine c_block ?_ | refine c_ret ?_) | (first | refine l_th ?_ | refine th_ret ?_ | refine ib_ret ?_))
      exact ret1 rfl rfl ⟨vint (by rw [hf]; omega), hx⟩
    · repeat (first | (refine isO ?_; first | refine s_move ?_ | refine s_assign ?_ | (refine isBin ?_; first | refine s_inc rfl (by omega) ?_ | refine s_eqlF rfl rfl (by omega) ?_) | (refine isIA ?_; refine s_ixI sl_ints ty_int rfl rfl rfl (by assumption) (by omega) ?_; intro _)) | (refine isC ?_; first | refine c_sr ?_ | refine c_th ?_ | refine c_seq ?_ | refine c_region ?_ | refine c_iff rfl ?_ | refine c_block ?_ | refine c_skip ?_) | (refine l_th ?_))
      exact loop_end (i + 1) (by (repeat (first | exact agree_refl _ _ | refine agree_upd rfl ?_ | refine agree_ext rfl ?_ | refine agree_mask rfl ?_))) ⟨rfl, trivial⟩ ⟨hi', fun j hj => by
        by_cases e : j = i
        · subst e; omega
        · exact hno j (by omega), hx⟩ (by omega)
  · have hf := hold_none (k := k) (has := has) (fun i hi => hno i (by omega))
    repeat (first | (refine isO ?_; refine s_assign ?_) | (refine isC ?_; first | refine c_sr ?_ | refine c_ret ?_ | refine c_exit ?_) | (refine l_th ?_))
    exact ret1 rfl rfl ⟨vint (by rw [hf]; rfl), hx⟩
theorem may7_ct {R : Nat → Nat → Bool} {m n : Nat} (hm : m ≤ 8) (hn : n ≤ 8) {gv hv : Value} {has : List Int} {a : Nat} {w : World} (hg : Rows w gv (gL R m n)) (hh : Ints w hv has) (hF : FitR R m n has) (ham : a < m) (ha : has.getD a (-1) = -1) :
    Ct Tryz.prog 94 #[gv, .int .i64 (n : Int), hv, .int .i64 (a : Int)] w fun u w' => u = .bool true ∧ Ex w w' := by
  have hl := hF.len
  have hgl := gL_len R m n
  have ha0 : has.getD a 0 = -1 := by rw [← getD_m1 (by omega)]; exact ha
  refine enter (N := 30) (vs := [gv, .int .i64 (n : Int), hv, .int .i64 (a : Int)]) Tryz.func94 rfl rfl rfl ?_
  repeat (first | (refine isO ?_; first | refine s_move ?_ | refine s_assign ?_) | (refine isC ?_; refine c_sr ?_) | (refine l_th ?_))
  refine s_call ok_Fits6 rfl (Fits6_ok hm hn gv hv has w hg hh hl) ?_
  rintro u w2 ⟨⟨b0, rfl, hb0⟩, hx2⟩
  refine s_re (v' := .bool true) (vbool (hb0.2 hF)) ?_
  have hg2 := hg.ex hx2
  have hh2 := hh.ex hx2
  repeat (first | (refine isO ?_; first | refine s_move ?_ | refine s_assign ?_ | (refine isG ?_; refine g_yes rfl rfl ?_) | (refine isBin ?_; first | refine s_lssT rfl rfl (by omega) ?_ | refine s_eqlT rfl rfl (by omega) ?_ | refine s_geqT rfl rfl (by omega) ?_) | (refine isCall ?_; refine s_lenR sl_rows rfl (by assumption) ?_) | (refine isPick ?_; refine s_pickt rfl rfl ?_)) | (refine isO ?_; first | (refine s_iaI sl_ints ty_int rfl rfl (by assumption) (by omega) ?_; intro _ _) | refine s_ld ty_int rfl (by assumption) ?_) | (refine isC ?_; refine c_ret ?_) | (refine l_th ?_))
  exact ret1 rfl rfl ⟨rfl, hx2⟩
/-- A list of numbers in a block of one's own, if there is any of it. -/
def OB (wB W : World) (vb : Value) (b c : Nat) (l : List Int) : Prop := Ints W vb l ∧ (0 < l.length → vb = sv b l.length c ∧ OwnI W 3 b c l ∧ wB.heap.size ≤ b)
theorem OB.ex {wB W W' : World} {vb : Value} {b c : Nat} {l : List Int} (h : OB wB W vb b c l) (hx : Ex W W') : OB wB W' vb b c l := ⟨h.1.ex hx, fun h0 => ⟨(h.2 h0).1, (h.2 h0).2.1.ex hx, (h.2 h0).2.2⟩⟩
theorem OB.grown {wB W W' : World} {vb : Value} {b c : Nat} {l : List Int} {o : Option Nat} (h : OB wB W vb b c l) (hg : W.grownBy W' o) (hne : 0 < l.length → o ≠ some b) : OB wB W' vb b c l := by
  refine ⟨?_, fun h0 => ⟨(h.2 h0).1, (h.2 h0).2.1.grown hg (hne h0), (h.2 h0).2.2⟩⟩
  rcases Nat.eq_zero_or_pos l.length with h0 | h0
  · exact h.1.kept hg (.inl (List.eq_nil_of_length_eq_zero h0))
  · refine h.1.kept hg (.inr fun e => ?_)
    rw [(h.2 h0).1] at e
    exact hne h0 e.symm
theorem LI.ob {wB W : World} {v : Value} {l : List Int} (h : LI wB W 3 v l) (hl : l.length ≤ 100000) : ∃ b c, OB wB W v b c l ∧ (0 < l.length → b < W.heap.size) := by
  rcases Nat.eq_zero_or_pos l.length with h0 | h0
  · exact ⟨0, 0, ⟨h.ints (by omega), fun h1 => by omega⟩, fun h1 => by omega⟩
  · obtain ⟨b, c, h1, h2, h3⟩ := h.own (fun e => by rw [e] at h0; simp at h0) (by omega)
    exact ⟨b, c, ⟨h.ints (by omega), fun _ => ⟨h1, h2, h3⟩⟩, fun _ => h2.lt⟩
/-- What lies in memory between two steps of the document's search. -/
def S7 (wB W : World) (n : Nat) (vb vw : Value) (b c : Nat) (w : Nat → Nat) (ws : List Nat) : Prop :=
  OB wB W vb b c (byL w n) ∧ LI wB W 3 vw (wsI ws) ∧ (0 < n → vw.ownBlock ≠ some b) ∧ Ex wB W
attribute [local irreducible] bfsR scanR contR fset holdN OB
set_option maxHeartbeats 4000000 in
theorem search7_ct {R : Nat → Nat → Bool} {m n : Nat} (hm : m ≤ 8) (hn : n ≤ 8) {gv hv : Value} {has : List Int} {a : Nat} {w : World} (hg : Rows w gv (gL R m n)) (hh : Ints w hv has) (hF : FitR R m n has) (ham : a < m) (ha : has.getD a (-1) = -1) :
    Ct Tryz.prog 95 #[gv, .int .i64 (n : Int), hv, .int .i64 (a : Int), .bool false] w fun u w' => ∃ vw vb w1 ws1, Ints w' vb (byL w1 n) ∧ Ex w w' ∧
      ((bfsR R n (holdN has has.length) 9 0 (fun _ => 0) [a] = (none, w1, ws1) ∧ u = .tuple #[vw, vb, .int .i64 (-1)]) ∨ ∃ k : Nat, bfsR R n (holdN has has.length) 9 0 (fun _ => 0) [a] = (some k, w1, ws1) ∧ u = .tuple #[vw, vb, .int .i64 (k : Int)]) := by
  have hgl := gL_len R m n
  have hlen := hF.len
  refine enter (N := 80) (vs := [gv, .int .i64 (n : Int), hv, .int .i64 (a : Int), .bool false]) Tryz.func95 rfl rfl rfl ?_
  repeat (first | (refine isO ?_; refine s_assign ?_) | (refine isC ?_; first | refine c_sr ?_ | refine c_seq ?_ | refine c_block ?_) | (refine l_th ?_))
  refine c_loop2 133703680 (fun (k : Nat) (v11 : Value) => [(13, .int .i64 (k : Int)), (11, v11)]) (fun k v11 W => k ≤ n ∧ LI w W 3 v11 (List.replicate k (-1)) ∧ Ex w W) (fun k _ => n - k) 0 (.slice none 0 0) ⟨rfl, rfl, trivial⟩ ⟨Nat.zero_le _, LI.nil _ _ _, Ex.refl _⟩ ?_
  rintro k v11 ρ W ⟨hk, hL, hxW⟩
  repeat (first | (refine isO ?_; first | refine s_move ?_ | (refine isBin ?_; refine s_lss rfl rfl ?_)) | (refine isC ?_; first | refine c_sr ?_ | refine c_seq ?_) | (refine l_th ?_))
  refine c_ifd rfl (fun h => ?_) (fun h => ?_)
  · have hk' : k < n := by omega
    repeat (first | (refine isO ?_; refine s_move ?_) | (refine isC ?_; first | refine c_th ?_ | refine c_seq ?_ | refine c_region ?_ | refine c_block ?_))
    refine s_li sl_ints in_int rfl hL rfl rfl (fun _ => rfl) (by simp; omega) hxW ?_
    intro v' w4 sl' hL4 hx4
    rw [← List.replicate_succ'] at hL4
    repeat (first | (refine isO ?_; first | refine s_move ?_ | refine s_assign ?_ | (refine isBin ?_; refine s_inc rfl (by omega) ?_)) | (refine isC ?_; refine c_region ?_) | (first | refine l_th ?_ | refine l_nil ?_))
    exact loop_end2 (k + 1) v' (by (repeat (first | exact agree_refl _ _ | refine agree_upd rfl ?_ | refine agree_ext rfl ?_ | refine agree_mask rfl ?_))) ⟨rfl, rfl, trivial⟩ ⟨hk', hL4, hx4⟩ (by omega)
  · have hkn : k = n := by omega
    subst hkn
    rw [← byL_zero] at hL
    refine Exists.elim (hL.ob (by rw [byL_len]; omega)) fun b hb => Exists.elim hb fun c hb => ?_
    have hO0 := hb.1
    have hbl := hb.2
    rw [byL_len] at hbl
    repeat (first | (refine isO ?_; refine s_move ?_) | (refine isC ?_; first | refine c_sr ?_ | refine c_exit ?_))
    refine s_bs1 sl_ints in_int rfl rfl ?_
    intro b4 w4 hb4 hA4 hx4 hs4
    have hx04 := hxW.trans hx4
    have z4 := hxW.size
    have hL4 : LI w w4 3 (sv b4 1 1) (wsI [a]) := hA4.li (by omega)
    have hS0 : S7 w w4 k v11 (sv b4 1 1) b c (fun _ => 0) [a] := ⟨hO0.ex hx4, hL4, fun h0 e => by have := hbl h0; have := own_sv e; omega, hx04⟩
    repeat (first | (refine isO ?_; refine s_assign ?_) | (refine isC ?_; first | refine c_sr ?_ | refine c_seq ?_ | refine c_block ?_) | (refine l_th ?_))
    refine c_loop2 302231454903656757320704 (fun (j : Nat) (vw : Value) => [(14, .int .i64 (j : Int)), (10, vw), (11, v11)]) (fun j vw W => j ≤ 9 ∧ ∃ w1 ws1, S7 w W k v11 vw b c w1 ws1 ∧ BI R m k has a w1 ws1 ∧ Free has w1 ∧ bfsR R k (holdN has has.length) 9 0 (fun _ => 0) [a] = bfsR R k (holdN has has.length) (9 - j) j w1 ws1) (fun j _ => 9 - j) 0 (sv b4 1 1) ⟨rfl, rfl, rfl, trivial⟩
      ⟨by omega, _, _, hS0, BI.start ham, fun k (h : 0 < 0) => by omega, rfl⟩ ?_
    rintro j vw ρ2 W2 ⟨hj, hI⟩
    refine Exists.elim hI fun w1 hI => Exists.elim hI fun ws1 hI => ?_
    have hS := hI.1
    have hB := hI.2.1
    have hfr := hI.2.2.1
    have htg := hI.2.2.2
    have hxW2 := hS.2.2.2
    have hwl := hB.len
    have hwI := wsI_len ws1
    have hIw := hS.2.1.ints (by omega)
    repeat (first | (refine isO ?_; first | refine s_move ?_ | (refine isBin ?_; refine s_lss rfl rfl ?_) | (refine isCall ?_; refine s_lenI sl_ints rfl (by assumption) ?_)) | (refine isC ?_; first | refine c_sr ?_ | refine c_seq ?_) | (refine l_th ?_))
    refine c_ifd rfl (fun h2 => ?_) (fun h2 => ?_)
    · have hj' : j < ws1.length := by omega
      refine Exists.elim (show ∃ bb, ws1[j]? = some bb from ⟨ws1[j], by simp [hj']⟩) fun bb hbb => ?_
      have hbm := hB.bnd bb (List.mem_iff_getElem?.2 ⟨j, hbb⟩)
      have hget := wsI_get hbb
      have h9 : 9 - j = (8 - j) + 1 := by omega
      rw [h9, bfs_in hbb] at htg
      have hrl := rowL_len k (R bb)
      have hrn := rowN_le k (R bb)
      repeat (first | (refine isO ?_; first | refine s_move ?_ | refine s_assign ?_ | (refine isIA ?_; refine s_ixI sl_ints ty_int rfl rfl rfl (by assumption) (by omega) ?_; intro _)) | (refine isC ?_; first | refine c_sr ?_ | refine c_th ?_ | refine c_seq ?_ | refine c_block ?_) | (refine l_th ?_))
      refine c_loop2 302231454903107538328576 (fun (q : Nat) (vw : Value) => [(16, .int .i64 (q : Int)), (10, vw), (11, v11)]) (fun q vw W' => q ≤ (rowN k (R bb)).length ∧ ∃ w2 ws2, S7 w W' k v11 vw b c w2 ws2 ∧ BI R m k has a w2 ws2 ∧ Free has w2 ∧ ws2[j]? = some bb ∧ bfsR R k (holdN has has.length) 9 0 (fun _ => 0) [a] = contR R k (holdN has has.length) (8 - j) j (scanR (holdN has has.length) bb ((rowN k (R bb)).drop q) w2 ws2)) (fun q _ => (rowN k (R bb)).length - q) 0 vw ⟨rfl, rfl, rfl, trivial⟩
        ⟨Nat.zero_le _, w1, ws1, hS, hB, hfr, hbb, htg⟩ ?_
      rintro q vw2 ρ3 W3 ⟨hq, hI2⟩
      refine Exists.elim hI2 fun w2 hI2 => Exists.elim hI2 fun ws2 hI2 => ?_
      have hS2 := hI2.1
      have hB2 := hI2.2.1
      have hfr2 := hI2.2.2.1
      have hbb2 := hI2.2.2.2.1
      have htg2 := hI2.2.2.2.2
      have hO2 := hS2.1
      have hL2 := hS2.2.1
      have hnb2 := hS2.2.2.1
      have hx3 := hS2.2.2.2
      have hg3 := hg.ex hx3
      have hh3 := hh.ex hx3
      have hwl2 := hB2.len
      have hwI2 := wsI_len ws2
      repeat (first | (refine isO ?_; refine s_move ?_) | (refine isC ?_; first | refine c_sr ?_ | refine c_seq ?_))
      refine s_ixR sl_rows ty_ints rfl rfl (vint hget) hg3 (by omega) ?_
      intro _ row hr
      rw [gL_row hbm] at hr
      repeat (first | (refine isO ?_; first | (refine isBin ?_; refine s_lss rfl rfl ?_) | (refine isCall ?_; refine s_lenI sl_ints rfl (by assumption) ?_)) | (refine l_th ?_))
      refine c_ifd rfl (fun h3 => ?_) (fun h3 => ?_)
      · have hq' : q < (rowN k (R bb)).length := by omega
        have hkn := rowN_get hq'
        have hkg := rowL_get k (R bb) hq'
        have hk1 := hkn.1
        have hk2 := hkn.2
        have hk8 : (rowN k (R bb)).getD q 0 < 8 := by omega
        have hby := byL_get (w := w2) hk1 0
        have hbl2 := byL_len w2 k
        have hOi : Ints W3 v11 (byL w2 k) := by unfold OB at hO2; exact hO2.1
        have hOo : v11 = sv b (byL w2 k).length c ∧ OwnI W3 3 b c (byL w2 k) ∧ w.heap.size ≤ b := by unfold OB at hO2; exact hO2.2 (by omega)
        have hOo1 := hOo.1
        have hOo2 := hOo.2.1
        have hOo3 := hOo.2.2
        repeat (first | (refine isO ?_; refine s_move ?_) | (refine isC ?_; first | refine c_sr ?_ | refine c_th ?_ | refine c_seq ?_ | refine c_block ?_))
        refine s_ixR sl_rows ty_ints rfl rfl (vint hget) hg3 (by omega) ?_
        intro _ row2 hr2
        rw [gL_row hbm] at hr2
        refine s_move ?_
        refine s_ixI sl_ints ty_int rfl rfl rfl hr2 (by omega) ?_
        intro _
        refine s_re (v' := .int .i64 (((rowN k (R bb)).getD q 0 : Nat) : Int)) (vint hkg) ?_
        refine s_assign ?_
        by_cases h0 : 0 < w2 ((rowN k (R bb)).getD q 0)
        · rw [scan_skip hq' h0] at htg2
          repeat (first | (refine isO ?_; first | refine s_move ?_ | refine s_assign ?_ | (refine isBin ?_; first | refine s_inc rfl (by omega) ?_ | refine s_neqT rfl rfl (by omega) ?_) | (refine isIA ?_; refine s_ixI sl_ints ty_int rfl rfl rfl (by assumption) (by omega) ?_; intro _)) | (refine isC ?_; first | refine c_sr ?_ | refine c_seq ?_ | refine c_region ?_ | refine c_ift rfl ?_ | refine c_exit ?_) | (refine l_th ?_))
          exact loop_end2 (q + 1) vw2 (by (repeat (first | exact agree_refl _ _ | refine agree_upd rfl ?_ | refine agree_ext rfl ?_ | refine agree_mask rfl ?_))) ⟨rfl, rfl, rfl, trivial⟩ ⟨hq', w2, ws2, hS2, hB2, hfr2, hbb2, htg2⟩ (by omega)
        · repeat (first | (refine isO ?_; first | refine s_move ?_ | (refine isBin ?_; refine s_neqF rfl rfl (by omega) ?_) | (refine isIA ?_; refine s_ixI sl_ints ty_int rfl rfl rfl (by assumption) (by omega) ?_; intro _)) | (refine isC ?_; first | refine c_sr ?_ | refine c_th ?_ | refine c_seq ?_ | refine c_iff rfl ?_) | (refine l_th ?_))
          refine s_iaA (b := b) (len := (byL w2 k).length) (c := c) (n := (rowN k (R bb)).getD q 0) sl_ints ty_int hOo1 rfl (by omega) ?_
          refine s_stO (q := (bb : Int)) ty_int rfl (vint hget) hOo2 (by omega) ?_
          intro W4 hO4 hg4
          rw [byL_set hk1] at hO4
          have hl4 := byL_len (fset w2 ((rowN k (R bb)).getD q 0) (bb + 1)) k
          have hOB4 : OB w W4 v11 b c (byL (fset w2 ((rowN k (R bb)).getD q 0) (bb + 1)) k) := by
            have e : v11 = sv b (byL (fset w2 ((rowN k (R bb)).getD q 0) (bb + 1)) k).length c := by rw [hOo1, hbl2, hl4]
            unfold OB
            exact ⟨by rw [e]; exact hO4.ints, fun _ => ⟨e, hO4, hOo3⟩⟩
          have hnb := hnb2 (by omega)
          have hL4' := hL2.kept hg4 (.inr hnb)
          have hx4' := hx3.store hg4 hOo3
          have hh4 := hh.ex hx4'
          repeat (first | (refine isO ?_; refine s_move ?_) | (refine isC ?_; refine c_sr ?_) | (refine l_th ?_))
          refine s_call ok_holder7 rfl (holder7_ct (k := (rowN k (R bb)).getD q 0) hF hh4) ?_
          rintro u W5 ⟨rfl, hx5⟩
          by_cases h1 : 0 < holdN has has.length ((rowN k (R bb)).getD q 0)
          · rw [scan_take hq' h0 h1] at htg2
            have hT := hB2.take hF ha hbb2 hk1 hk2 h0 h1
            have hfT := free_take (x := bb + 1) hfr2 h1
            have hh8 := (holdN_pos h1).1
            refine s_re (v' := .int .i64 ((holdN has has.length ((rowN k (R bb)).getD q 0) - 1 : Nat) : Int)) (vint (by omega)) ?_
            repeat (first | (refine isO ?_; first | refine s_move ?_ | refine s_assign ?_ | (refine isBin ?_; refine s_neqT rfl rfl (by omega) ?_)) | (refine isC ?_; first | refine c_sr ?_ | refine c_region ?_ | refine c_ift rfl ?_) | (refine l_th ?_))
            refine s_bs1 sl_ints in_int rfl rfl ?_
            intro b6 W6 hb6 hA6 hx6 hs6
            have hx56 := hx5.trans hx6
            refine s_lappG sl_ints in_int (hL4'.ex hx56) hA6.one rfl rfl (by simp; omega) (hx4'.trans hx56) ?_
            intro v' W7 hL7 hx7 hg7 hf7
            have hO6 := hOB4.ex hx56
            have hO7 := hO6.grown hg7 (fun _ => hnb)
            have hlb := hO4.lt
            have z56 := hx56.size
            have hn7 : v'.ownBlock ≠ some b := by
              refine Or.elim hf7 (fun e => by rw [e]; exact hnb) (fun hf e => ?_)
              have := hf b e; omega
            rw [← wsI_snoc] at hL7
            repeat (first | (refine isO ?_; first | refine s_move ?_ | refine s_assign ?_ | (refine isBin ?_; refine s_inc rfl (by omega) ?_)) | (refine isC ?_; refine c_region ?_) | (first | refine l_th ?_ | refine l_nil ?_))
            exact loop_end2 (q + 1) v' (by (repeat (first | exact agree_refl _ _ | refine agree_upd rfl ?_ | refine agree_ext rfl ?_ | refine agree_mask rfl ?_))) ⟨rfl, rfl, rfl, trivial⟩ ⟨hq', _, _, ⟨hO7, hL7, fun _ => hn7, hx7⟩, hT, hfT, get_app_old hbb2, htg2⟩ (by omega)
          · rw [scan_free hq' h0 h1, cont_some] at htg2
            refine s_re (v' := .int .i64 (-1)) (vint (by omega)) ?_
            repeat (first | (refine isO ?_; first | refine s_move ?_ | refine s_assign ?_ | (refine isBin ?_; refine s_neqF rfl rfl (by omega) ?_) | refine s_not rfl ?_) | (refine isC ?_; first | refine c_sr ?_ | refine c_ift rfl ?_ | refine c_iff rfl ?_ | refine c_ret ?_) | (first | refine l_th ?_ | refine th_ret ?_ | refine ib_ret ?_))
            have hI5 : Ints W5 v11 (byL (fset w2 ((rowN k (R bb)).getD q 0) (bb + 1)) k) := by have h9 := hOB4.ex hx5; unfold OB at h9; exact h9.1
            exact ret3 rfl rfl rfl rfl ⟨vw2, v11, _, _, hI5, hx4'.trans hx5, .inr ⟨_, htg2, rfl⟩⟩
      · rw [scan_done (by omega), cont_none] at htg2
        repeat (first | (refine isO ?_; first | refine s_move ?_ | refine s_assign ?_ | (refine isBin ?_; refine s_inc rfl (by omega) ?_)) | (refine isC ?_; first | refine c_region ?_ | refine c_exit ?_) | (refine l_th ?_))
        exact loop_end2 (j + 1) vw2 (by (repeat (first | exact agree_refl _ _ | refine agree_upd rfl ?_ | refine agree_ext rfl ?_ | refine agree_mask rfl ?_))) ⟨rfl, rfl, rfl, trivial⟩ ⟨by omega, w2, ws2, hS2, hB2, hfr2, by
          rw [htg2]
          have e9 : 9 - (j + 1) = 8 - j := by omega
          rw [e9]⟩ (by omega)
    · rw [bfs_out (j := j) (w := w1) (ws := ws1) (by omega)] at htg
      repeat (first | (refine isO ?_; first | refine s_move ?_ | refine s_assign ?_) | (refine isC ?_; first | refine c_sr ?_ | refine c_ret ?_ | refine c_exit ?_) | (refine l_th ?_))
      have hI5 : Ints W2 v11 (byL w1 k) := by have h9 := hS.1; unfold OB at h9; exact h9.1
      exact ret3 rfl rfl rfl rfl ⟨vw, v11, w1, ws1, hI5, hxW2, .inl ⟨htg, rfl⟩⟩
set_option maxHeartbeats 4000000 in
theorem More7_ct {R : Nat → Nat → Bool} {m n : Nat} (hm : m ≤ 8) (hn : n ≤ 8) {gv hv : Value} {has : List Int} {a : Nat} {w : World} (hg : Rows w gv (gL R m n)) (hh : Ints w hv has) (hF : FitR R m n has) (ham : a < m) (ha : has.getD a (-1) = -1) :
    Ct Tryz.prog 37 #[gv, .int .i64 (n : Int), hv, .int .i64 (a : Int)] w fun u w' => Ex w w' ∧
      ((∃ l v, moreR R n has a = some l ∧ u = .tuple #[v, .bool true, .int .i64 0] ∧ Ints w' v l) ∨ (moreR R n has a = none ∧ u = .tuple #[.slice none 0 0, .bool false, .int .i64 0])) := by
  have hlen := hF.len
  refine Exists.elim (bfs_ok hn hF ha 9 0 (fun _ => 0) [a] (by omega) (BI.start ham) (fun k (h : 0 < 0) => by omega) (fun i b hi => by omega)) fun o ho => Exists.elim ho fun w1 ho => Exists.elim ho fun ws1 ho => ?_
  have hbf := ho.1
  have hBI := ho.2.1
  have hfd := ho.2.2.2
  have hwsl := hBI.len
  have hne : has ≠ [] := fun e => by rw [e] at hlen; simp at hlen; omega
  refine enter (N := 50) (vs := [gv, .int .i64 (n : Int), hv, .int .i64 (a : Int)]) Tryz.func37 rfl rfl rfl ?_
  repeat (first | (refine isO ?_; first | refine s_move ?_ | refine s_assign ?_) | (refine isC ?_; first | refine c_sr ?_ | refine c_seq ?_) | (refine l_th ?_))
  refine s_call ok_may7 rfl (may7_ct hm hn hg hh hF ham ha) ?_
  rintro u w2 ⟨rfl, hx2⟩
  repeat (first | (refine isO ?_; first | refine s_move ?_ | refine s_not rfl ?_) | (refine isC ?_; first | refine c_sr ?_ | refine c_th ?_ | refine c_iff rfl ?_) | (refine l_th ?_))
  refine s_call ok_search7 rfl (search7_ct hm hn (hg.ex hx2) (hh.ex hx2) hF ham ha) ?_
  rintro u w3 ⟨vw, vb, w1', ws1', hIb, hx3, hres⟩
  have hx03 := hx2.trans hx3
  refine Or.elim hres (fun h => ?_) (fun h => Exists.elim h fun k h => ?_)
  · have h1 := h.1
    have h2 := h.2
    rw [hbf] at h1
    have ho0 : o = none := congrArg (fun p => p.1) h1
    have hmr : moreR R n has a = none := by unfold moreR; rw [hbf, ho0]
    refine s_re h2 ?_
    repeat (first | (refine isO ?_; first | refine s_move ?_ | refine s_assign ?_ | (refine isBin ?_; refine s_eqlT rfl rfl (by omega) ?_) | refine s_extract rfl rfl ?_) | (refine isC ?_; first | refine c_sr ?_ | refine c_seq ?_ | refine c_ift rfl ?_ | refine c_ret ?_) | (first | refine l_th ?_ | refine th_ret ?_))
    exact ret3 rfl rfl rfl rfl ⟨hx03, .inr ⟨hmr, rfl⟩⟩
  · have h1 := h.1
    have h2 := h.2
    rw [hbf] at h1
    have ho0 : o = some k := congrArg (fun p => p.1) h1
    have hw1 : w1 = w1' := congrArg (fun p => p.2.1) h1
    have hmr : moreR R n has a = some (augR w1 9 (k : Int) has) := by unfold moreR; rw [hbf, ho0]
    rw [← hw1] at hIb
    have hk0 := (hfd k ho0).1
    refine Exists.elim (idx_of (hBI.byok k hk0).2.1) fun j0 hj0 => ?_
    have hj9 := (List.getElem?_eq_some_iff.1 hj0).1
    have hAI0 : AI w1 ws1 has 9 (k : Int) has := .inr ⟨k, j0, rfl, hk0, by omega, hj0, fun _ _ _ _ => rfl⟩
    refine s_re h2 ?_
    repeat (first | (refine isO ?_; first | refine s_move ?_ | refine s_assign ?_ | (refine isBin ?_; refine s_eqlF rfl rfl (by omega) ?_) | refine s_extract rfl rfl ?_) | (refine isC ?_; first | refine c_sr ?_ | refine c_th ?_ | refine c_seq ?_ | refine c_iff rfl ?_) | (refine l_th ?_))
    refine s_lapp (w0 := w3) (l := []) sl_ints in_int (LI.nil _ _ _) (hh.ex hx03) rfl rfl (by simp; omega) (Ex.refl _) ?_
    intro v14 w4 hL4 hx4
    rw [List.nil_append] at hL4
    refine Exists.elim (hL4.own hne (by omega)) fun b hb => Exists.elim hb fun c hb => ?_
    have hv14 := hb.1
    have hO4 := hb.2.1
    have hb3 := hb.2.2
    subst hv14
    have hx34 := hx4
    repeat (first | (refine isO ?_; refine s_assign ?_) | (refine isC ?_; first | refine c_seq ?_ | refine c_block ?_) | (refine l_th ?_))
    refine c_loop2 562915593723904 (fun (f : Nat) (q : Int) => [(13, .int .i64 q)]) (fun f q W => ∃ cur : List Int, cur.length = m ∧ OwnI W 3 b c cur ∧ AI w1 ws1 has f q cur ∧ augR w1 f q cur = augR w1 9 (k : Int) has ∧ Ex w3 W) (fun f _ => f) 9 (k : Int) ⟨rfl, trivial⟩
      ⟨has, hlen, hO4, hAI0, rfl, hx34⟩ ?_
    rintro f q ρ W hI
    refine Exists.elim hI fun cur hI => ?_
    have hcl := hI.1
    have hO := hI.2.1
    have hAI := hI.2.2.1
    have htg := hI.2.2.2.1
    have hx := hI.2.2.2.2
    have hIc : Ints W (sv b has.length c) cur := by have h9 := hO.ints; rw [hcl, ← hlen] at h9; exact h9
    have hIbW := hIb.ex hx
    by_cases hq : q = -1
    · rw [hq, aug_stop] at htg
      repeat (first | (refine isO ?_; first | refine s_move ?_ | refine s_assign ?_ | (refine isBin ?_; refine s_neqF rfl rfl (by omega) ?_)) | (refine isC ?_; first | refine c_sr ?_ | refine c_seq ?_ | refine c_iff rfl ?_ | refine c_ret ?_ | refine c_exit ?_) | (refine l_th ?_))
      exact ret3 rfl rfl rfl rfl ⟨hx03.trans hx, .inl ⟨augR w1 9 (k : Int) has, _, hmr, rfl, by rw [← htg]; exact hIc⟩⟩
    · refine Exists.elim (hAI.nat hq) fun p hp => ?_
      subst hp
      have hst := hAI.step hBI ha hcl
      have hf := hst.1
      have hwp := hst.2.1
      have hi := hst.2.2.1
      have hpn := hst.2.2.2.1
      have hAI' := hst.2.2.2.2
      rw [aug_step w1 hf] at htg
      have hgc : cur.getD (w1 p - 1) 0 = cur.getD (w1 p - 1) (-1) := (getD_m1 (by omega)).symm
      have hby := byL_get (w := w1) hpn 0
      have hbl := byL_len w1 n
      have hfl : w1 p - 1 < cur.length := by omega
      have hfs : w1 p - 1 < has.length := by omega
      have hbyN : (byL w1 n).getD p 0 = ((w1 p - 1 : Nat) : Int) := by omega
      repeat (first | (refine isO ?_; first | refine s_move ?_ | refine s_assign ?_ | (refine isBin ?_; refine s_neqT rfl rfl (by omega) ?_) | (refine isIA ?_; refine s_ixI sl_ints ty_int rfl rfl rfl (by assumption) (by omega) ?_; intro _)) | (refine isC ?_; first | refine c_sr ?_ | refine c_th ?_ | refine c_seq ?_ | refine c_region ?_ | refine c_ift rfl ?_ | refine c_block ?_) | (refine l_th ?_))
      refine s_ixI sl_ints ty_int rfl rfl (vint hbyN) hIc hfl ?_
      intro _
      refine s_re (v' := .int .i64 (cur.getD (w1 p - 1) (-1))) (vint hgc) ?_
      repeat ((refine isO ?_; first | refine s_move ?_ | refine s_assign ?_))
      refine s_iaA (b := b) (len := has.length) (c := c) (n := w1 p - 1) sl_ints ty_int rfl (vint hbyN) hfs ?_
      refine s_stO (q := (p : Int)) ty_int rfl rfl hO hfl ?_
      intro W2 hO2 hg2
      repeat ((first | refine th_norm ?_ | refine ib_norm ?_ | refine l_nil ?_))
      exact loop_end2 (f - 1) (cur.getD (w1 p - 1) (-1)) (by (repeat (first | exact agree_refl _ _ | refine agree_upd rfl ?_ | refine agree_ext rfl ?_ | refine agree_mask rfl ?_))) ⟨rfl, trivial⟩ ⟨cur.set (w1 p - 1) (p : Int), by rw [List.length_set]; exact hcl, hO2, hAI', htg, hx.store hg2 hb3⟩ (by omega)
end Go.Proofs.YtifbgpkjbciblaaGreatDoor.Sal
/- The document's answer on matchings (salesroomref08): Most, All. -/
set_option maxRecDepth 100000
namespace Go.Proofs.YtifbgpkjbciblaaGreatDoor.Sal
open Go.RowKit
attribute [local irreducible] Go.Code.wpIn Go.wpListIn Ct Ints Rows Sl At Rw WJ
set_option linter.all false
theorem ok_Most8 : CallOK Tryz.prog 10 := callOK Tryz.func10 (by kernel_rfl) rfl
theorem ok_All8 : CallOK Tryz.prog 12 := callOK Tryz.func12 (by kernel_rfl) rfl
theorem Most8_bad (gv : Value) (g : List (List Int)) (n : Int) (w : World) (hg : Rows w gv g) (hb : chkG g n = false) :
    Ct Tryz.prog 10 #[gv, .int .i64 n] w fun u w' => u = .tuple #[.slice none 0 0, .int .i64 1] ∧ Ex w w' := by
  refine enter (N := 48) (vs := [gv, .int .i64 n]) Tryz.func10 rfl rfl rfl ?_
  repeat (first | (refine isO ?_; first | refine s_move ?_ | refine s_assign ?_) | (refine isC ?_; first | refine c_sr ?_ | refine c_seq ?_) | (refine l_th ?_))
  refine s_call ok_Check6 rfl (Check6_ct gv g n w hg) ?_
  rintro v w1 ⟨rfl, hx1⟩
  refine s_re (v' := .bool false) (vbool hb) ?_
  repeat (first | (refine isO ?_; first | refine s_assign ?_ | refine s_not rfl ?_) | (refine isC ?_; first | refine c_sr ?_ | refine c_ift rfl ?_ | refine c_ret ?_) | (first | refine l_th ?_ | refine th_ret ?_))
  exact ret2 rfl rfl rfl ⟨rfl, hx1⟩
attribute [local irreducible] mostN moreR
theorem Most8_ok {R : Nat → Nat → Bool} {m n : Nat} (hm : m ≤ 8) (hn : n ≤ 8) (gv : Value) (w : World) (hg : Rows w gv (gL R m n)) :
    Ct Tryz.prog 10 #[gv, .int .i64 (n : Int)] w fun u w' => ∃ v, u = .tuple #[v, .int .i64 0] ∧ Ints w' v (mostR R m n) ∧ Ex w w' := by
  have hgl := gL_len R m n
  have hchk := chk_ok (R := R) hm hn
  refine enter (N := 48) (vs := [gv, .int .i64 (n : Int)]) Tryz.func10 rfl rfl rfl ?_
  repeat (first | (refine isO ?_; first | refine s_move ?_ | refine s_assign ?_) | (refine isC ?_; first | refine c_sr ?_ | refine c_seq ?_) | (refine l_th ?_))
  refine s_call ok_Check6 rfl (Check6_ct gv (gL R m n) n w hg) ?_
  rintro v w1 ⟨rfl, hx1⟩
  refine s_re (v' := .bool true) (vbool hchk) ?_
  have hg1 := hg.ex hx1
  repeat (first | (refine isO ?_; first | refine s_assign ?_ | refine s_not rfl ?_) | (refine isC ?_; first | refine c_sr ?_ | refine c_th ?_ | refine c_seq ?_ | refine c_iff rfl ?_ | refine c_block ?_) | (refine l_th ?_))
  refine c_loop2 33489088 (fun (k : Nat) (v6 : Value) => [(7, .int .i64 (k : Int)), (6, v6)]) (fun k v6 W => k ≤ m ∧ LI w W 3 v6 (List.replicate k (-1)) ∧ Ex w W) (fun k _ => m - k) 0 (.slice none 0 0) ⟨rfl, rfl, trivial⟩ ⟨Nat.zero_le _, LI.nil _ _ _, hx1⟩ ?_
  rintro k v6 ρ W ⟨hk, hL, hxW⟩
  have hgW := hg.ex hxW
  repeat (first | (refine isO ?_; first | refine s_move ?_ | (refine isBin ?_; refine s_lss rfl rfl ?_) | (refine isCall ?_; refine s_lenR sl_rows rfl (by assumption) ?_)) | (refine isC ?_; first | refine c_sr ?_ | refine c_seq ?_) | (refine l_th ?_))
  refine c_ifd rfl (fun h => ?_) (fun h => ?_)
  · have hk' : k < m := by omega
    repeat (first | (refine isO ?_; refine s_move ?_) | (refine isC ?_; first | refine c_th ?_ | refine c_seq ?_ | refine c_region ?_ | refine c_block ?_))
    refine s_li sl_ints in_int rfl hL rfl rfl (fun _ => rfl) (by simp; omega) hxW ?_
    intro v' w4 sl' hL4 hx4
    rw [← List.replicate_succ'] at hL4
    repeat (first | (refine isO ?_; first | refine s_move ?_ | refine s_assign ?_ | (refine isBin ?_; refine s_inc rfl (by omega) ?_)) | (refine isC ?_; refine c_region ?_) | (first | refine l_th ?_ | refine l_nil ?_))
    exact loop_end2 (k + 1) v' (by (repeat (first | exact agree_refl _ _ | refine agree_upd rfl ?_ | refine agree_ext rfl ?_ | refine agree_mask rfl ?_))) ⟨rfl, rfl, trivial⟩ ⟨hk', hL4, hx4⟩ (by omega)
  · have hkm : k = m := by omega
    subst hkm
    have h0 : mostN R k n 0 = List.replicate k (-1) := by unfold mostN; rfl
    have hI0 : Ints W v6 (mostN R k n 0) := by rw [h0]; exact hL.ints (by simp; omega)
    repeat (first | (refine isO ?_; refine s_assign ?_) | (refine isC ?_; first | refine c_sr ?_ | refine c_seq ?_ | refine c_block ?_ | refine c_exit ?_) | (refine l_th ?_))
    refine c_loop2 140737454804800 (fun (i : Nat) (v6 : Value) => [(8, .int .i64 (i : Int)), (6, v6)]) (fun i v6 W => i ≤ k ∧ Ints W v6 (mostN R k n i) ∧ Ex w W) (fun i _ => k - i) 0 v6 ⟨rfl, rfl, trivial⟩ ⟨Nat.zero_le _, hI0, hxW⟩ ?_
    rintro i hv ρ2 W2 ⟨hi, hI, hx2⟩
    have hg2 := hg.ex hx2
    have hF := mostN_fit (R := R) hn (show i ≤ k by omega)
    have hFl := hF.len
    repeat (first | (refine isO ?_; first | refine s_move ?_ | (refine isBin ?_; refine s_lss rfl rfl ?_) | (refine isCall ?_; refine s_lenR sl_rows rfl (by assumption) ?_)) | (refine isC ?_; first | refine c_sr ?_ | refine c_seq ?_) | (refine l_th ?_))
    refine c_ifd rfl (fun h2 => ?_) (fun h2 => ?_)
    · have hi' : i < k := by omega
      have hno := mostN_none (R := R) hn hi'
      have hno0 : (mostN R k n i).getD i 0 = -1 := by rw [← getD_m1 (by omega)]; exact hno
      have hlt : i < (mostN R k n i).length := by omega
      repeat (first | (refine isO ?_; first | refine s_move ?_ | (refine isBin ?_; refine s_neqF rfl rfl (by omega) ?_) | (refine isIA ?_; refine s_ixI sl_ints ty_int rfl rfl rfl (by assumption) (by omega) ?_; intro _)) | (refine isC ?_; first | refine c_sr ?_ | refine c_th ?_ | refine c_seq ?_ | refine c_iff rfl ?_ | refine c_block ?_) | (refine l_th ?_))
      refine s_call ok_More7 rfl (More7_ct (gv := gv) (hv := hv) (a := i) hm hn hg2 hI hF hi' hno) ?_
      rintro u w3 ⟨hx3, hres⟩
      refine Or.elim hres (fun h => Exists.elim h fun l h => Exists.elim h fun v h => ?_) (fun h => ?_)
      · have h1 := h.1
        have h3 := h.2.1
        have h4 := h.2.2
        have hst := mostN_some h1
        refine s_re h3 ?_
        repeat (first | (refine isO ?_; first | refine s_move ?_ | refine s_assign ?_ | (refine isBin ?_; refine s_inc rfl (by omega) ?_) | refine s_extract rfl rfl ?_) | (refine isC ?_; first | refine c_sr ?_ | refine c_region ?_ | refine c_ift rfl ?_) | (first | refine l_th ?_ | refine l_nil ?_))
        exact loop_end2 (i + 1) v (by (repeat (first | exact agree_refl _ _ | refine agree_upd rfl ?_ | refine agree_ext rfl ?_ | refine agree_mask rfl ?_))) ⟨rfl, rfl, trivial⟩ ⟨hi', by rw [hst]; exact h4, hx2.trans hx3⟩ (by omega)
      · have h1 := h.1
        have h3 := h.2
        have hst := mostN_no h1
        refine s_re h3 ?_
        repeat (first | (refine isO ?_; first | refine s_move ?_ | refine s_assign ?_ | (refine isBin ?_; refine s_inc rfl (by omega) ?_) | refine s_extract rfl rfl ?_) | (refine isC ?_; first | refine c_sr ?_ | refine c_region ?_ | refine c_iff rfl ?_ | refine c_skip ?_) | (refine l_th ?_))
        exact loop_end2 (i + 1) hv (by (repeat (first | exact agree_refl _ _ | refine agree_upd rfl ?_ | refine agree_ext rfl ?_ | refine agree_mask rfl ?_))) ⟨rfl, rfl, trivial⟩ ⟨hi', by rw [hst]; exact hI.ex hx3, hx2.trans hx3⟩ (by omega)
    · have hik : i = k := by omega
      subst hik
      repeat (first | (refine isO ?_; first | refine s_move ?_ | refine s_assign ?_) | (refine isC ?_; first | refine c_sr ?_ | refine c_ret ?_ | refine c_exit ?_) | (refine l_th ?_))
      exact ret2 rfl rfl rfl ⟨hv, rfl, hI, hx2⟩
theorem All8_bad (gv : Value) (g : List (List Int)) (n : Int) (sv' : Value) (sl : List Int) (w : World) (hg : Rows w gv g) (hs : Ints w sv' sl) (hb : (chkG g n && risB (-1) sl (g.length : Int)) = false) :
    Ct Tryz.prog 12 #[gv, .int .i64 n, sv'] w fun u w' => u = .tuple #[.bool false, .int .i64 1] ∧ Ex w w' := by
  refine enter (N := 63) (vs := [gv, .int .i64 n, sv']) Tryz.func12 rfl rfl rfl ?_
  repeat (first | (refine isO ?_; first | refine s_move ?_ | refine s_assign ?_) | (refine isC ?_; first | refine c_sr ?_ | refine c_seq ?_) | (refine l_th ?_))
  refine s_call ok_Check6 rfl (Check6_ct gv g n w hg) ?_
  rintro v w1 ⟨rfl, hx1⟩
  refine Or.elim (tf6 (chkG g n)) (fun hc => ?_) (fun hc => ?_)
  · rw [hc, Bool.true_and] at hb
    have hg1 := hg.ex hx1
    refine s_re (v' := .bool true) (vbool hc) ?_
    repeat ((refine isO ?_; first | refine s_move ?_ | (refine isG ?_; refine g_yes rfl rfl ?_) | (refine isCall ?_; refine s_lenR sl_rows rfl (by assumption) ?_) | refine s_not rfl ?_))
    refine s_call ok_Rises6 rfl (Rises6_ct sv' sl (g.length : Int) w1 (hs.ex hx1)) ?_
    rintro v w2 ⟨rfl, hx2⟩
    refine s_re (v' := .bool false) (vbool hb) ?_
    repeat (first | (refine isO ?_; first | refine s_assign ?_ | (refine isG ?_; refine g_yes rfl rfl ?_) | (refine isPick ?_; refine s_pickf rfl rfl ?_) | refine s_not rfl ?_) | (refine isC ?_; first | refine c_sr ?_ | refine c_ift rfl ?_ | refine c_ret ?_) | (first | refine l_th ?_ | refine th_ret ?_))
    exact ret2 rfl rfl rfl ⟨rfl, hx1.trans hx2⟩
  · refine s_re (v' := .bool false) (vbool hc) ?_
    repeat (first | (refine isO ?_; first | refine s_move ?_ | refine s_assign ?_ | (refine isG ?_; refine g_no rfl rfl rfl ?_) | (refine isPick ?_; refine s_pickt rfl rfl ?_) | refine s_not rfl ?_) | (refine isC ?_; first | refine c_sr ?_ | refine c_ift rfl ?_ | refine c_ret ?_) | (first | refine l_th ?_ | refine th_ret ?_))
    exact ret2 rfl rfl rfl ⟨rfl, hx1⟩
theorem hall_zero {R : Nat → Nat → Bool} {m n : Nat} {sl : List Int} : hallX R m n sl 0 := by
  have : ∀ i, lessR sl 0 i = [] := fun i => by
    induction i with
    | zero => rfl
    | succ i ih => unfold lessR; rw [ih]; simp
  unfold hallX
  rw [this]; simp
theorem pow8 {k : Nat} (h : k ≤ 8) : 1 * 2 ^ k ≤ 256 := by
  have : 2 ^ k ≤ 2 ^ 8 := Nat.pow_le_pow_right (by omega) h
  omega
set_option maxHeartbeats 2000000 in
theorem All8_ok {R : Nat → Nat → Bool} {m n : Nat} (hm : m ≤ 8) (hn : n ≤ 8) (gv : Value) (sv' : Value) (sl : List Int) (w : World) (hg : Rows w gv (gL R m n)) (hs : Ints w sv' sl) (hb : risB (-1) sl (m : Int) = true) :
    Ct Tryz.prog 12 #[gv, .int .i64 (n : Int), sv'] w fun u w' => u = .tuple #[.bool (decide (rkm (Rsome sl R) m n = sl.length)), .int .i64 0] ∧ Ex w w' := by
  have hgl := gL_len R m n
  have hsl := ris_len hb
  have hchk := chk_ok (R := R) hm hn
  have hhall := hall_parts (R := R) (m := m) (n := n) hn hb
  have hp8 := pow8 (show sl.length ≤ 8 by omega)
  refine enter (N := 63) (vs := [gv, .int .i64 (n : Int), sv']) Tryz.func12 rfl rfl rfl ?_
  repeat (first | (refine isO ?_; first | refine s_move ?_ | refine s_assign ?_) | (refine isC ?_; first | refine c_sr ?_ | refine c_seq ?_) | (refine l_th ?_))
  refine s_call ok_Check6 rfl (Check6_ct gv (gL R m n) n w hg) ?_
  rintro v w1 ⟨rfl, hx1⟩
  have hg1 := hg.ex hx1
  refine s_re (v' := .bool true) (vbool hchk) ?_
  repeat ((refine isO ?_; first | refine s_move ?_ | (refine isG ?_; refine g_yes rfl rfl ?_) | (refine isCall ?_; refine s_lenR sl_rows rfl (by assumption) ?_) | refine s_not rfl ?_))
  refine s_call ok_Rises6 rfl (Rises6_ct sv' sl ((gL R m n).length : Int) w1 (hs.ex hx1)) ?_
  rintro v w2 ⟨rfl, hx2⟩
  have hx02 := hx1.trans hx2
  refine s_re (v' := .bool true) (vbool (by rw [hgl]; exact hb)) ?_
  repeat (first | (refine isO ?_; first | refine s_assign ?_ | (refine isG ?_; refine g_yes rfl rfl ?_) | (refine isPick ?_; refine s_pickf rfl rfl ?_) | refine s_not rfl ?_) | (refine isC ?_; first | refine c_sr ?_ | refine c_th ?_ | refine c_seq ?_ | refine c_iff rfl ?_ | refine c_block ?_) | (refine l_th ?_))
  refine c_loop (γ := Nat) 9223372036838006720 (fun x => [(8, .int .i64 (x : Int))]) (fun x W => (1 ≤ x ∧ x ≤ 257) ∧ (∀ y, y < x → hallX R m n sl y) ∧ Ex w W) (fun x => 257 - x) 1 ⟨rfl, trivial⟩ ⟨⟨Nat.le_refl _, by omega⟩, fun y hy => by
    have : y = 0 := by omega
    subst this; exact hall_zero, hx02⟩ ?_
  rintro x ρ W ⟨⟨hx1', hx8⟩, hall, hxW⟩
  have hsW := hs.ex hxW
  have hgW := hg.ex hxW
  repeat (first | (refine isO ?_; first | refine s_move ?_ | (refine isCall ?_; refine s_lenI sl_ints rfl (by assumption) ?_)) | (refine isC ?_; first | refine c_sr ?_ | refine c_seq ?_))
  refine s_conv (n := sl.length) (by kernel_rfl) Tryz.underlying69 rfl (by simp [top]; omega) ?_
  refine s_shl (m := 1) (n := sl.length) rfl rfl (by simp [IntKind.bits]; omega) (by simp only [top]; omega) ?_
  repeat (first | (refine isO ?_; (refine isBin ?_; refine s_lss rfl rfl ?_)) | (refine l_th ?_))
  refine c_ifd rfl (fun h => ?_) (fun h => ?_)
  · have hx' : x < 2 ^ sl.length := by omega
    repeat (first | (refine isO ?_; refine s_assign ?_) | (refine isC ?_; first | refine c_sr ?_ | refine c_th ?_ | refine c_seq ?_ | refine c_block ?_) | (refine l_th ?_))
    refine c_loop2 2251795518719488 (fun (i : Nat) (v9 : Value) => [(10, .int .i64 (i : Int)), (9, v9)]) (fun i v9 W' => i ≤ sl.length ∧ LI W W' 3 v9 (lessR sl x i) ∧ Ex W W') (fun i _ => sl.length - i) 0 (.slice none 0 0) ⟨rfl, rfl, trivial⟩ ⟨Nat.zero_le _, LI.nil _ _ _, Ex.refl _⟩ ?_
    rintro i v9 ρ2 W2 ⟨hi, hL, hxW2⟩
    have hs2 := hsW.ex hxW2
    have hlsl := (lessR_sub sl x i hi).length_le
    have htk : (sl.take i).length ≤ 8 := by rw [List.length_take]; omega
    repeat (first | (refine isO ?_; first | refine s_move ?_ | (refine isBin ?_; refine s_lss rfl rfl ?_) | (refine isCall ?_; refine s_lenI sl_ints rfl (by assumption) ?_)) | (refine isC ?_; first | refine c_sr ?_ | refine c_seq ?_) | (refine l_th ?_))
    refine c_ifd rfl (fun h2 => ?_) (fun h2 => ?_)
    · have hi' : i < sl.length := by omega
      have hls : lessR sl x (i + 1) = lessR sl x i ++ (if x.testBit i = true then [sl.getD i 0] else []) := rfl
      have hba := bit_asked x i
      repeat (first | (refine isO ?_; refine s_move ?_) | (refine isC ?_; first | refine c_sr ?_ | refine c_th ?_ | refine c_seq ?_ | refine c_block ?_))
      refine s_conv (n := i) (by kernel_rfl) Tryz.underlying69 rfl (by simp [top]; omega) ?_
      refine s_shr (m := x) (n := i) rfl rfl (by simp [IntKind.bits]; omega) ?_
      refine s_and (m := x / 2 ^ i) (n := 1) rfl rfl (Nat.le_trans (Nat.div_le_self _ _) (by simp only [top]; omega)) (by simp [top]) ?_
      refine Or.elim (tf6 (x.testBit i)) (fun hbt => ?_) (fun hbt => ?_)
      · rw [hbt, if_pos rfl] at hls
        refine s_eqlT rfl rfl (hba.2 hbt) ?_
        repeat (first | (refine isO ?_; first | refine s_move ?_ | (refine isIA ?_; refine s_ixI sl_ints ty_int rfl rfl rfl (by assumption) (by omega) ?_; intro _)) | (refine isC ?_; first | refine c_region ?_ | refine c_ift rfl ?_) | (refine l_th ?_))
        refine s_li sl_ints in_int rfl hL rfl rfl (fun _ => rfl) (by omega) hxW2 ?_
        intro v' w4 sl' hL4 hx4
        rw [← hls] at hL4
        repeat (first | (refine isO ?_; first | refine s_move ?_ | refine s_assign ?_ | (refine isBin ?_; refine s_inc rfl (by omega) ?_)) | (refine isC ?_; refine c_region ?_) | (first | refine l_th ?_ | refine l_nil ?_))
        exact loop_end2 (i + 1) v' (by (repeat (first | exact agree_refl _ _ | refine agree_upd rfl ?_ | refine agree_ext rfl ?_ | refine agree_mask rfl ?_))) ⟨rfl, rfl, trivial⟩ ⟨hi', hL4, hx4⟩ (by omega)
      · rw [hbt, if_neg Bool.false_ne_true, List.append_nil] at hls
        refine s_eqlF rfl rfl (fun e => by have := hba.1 e; rw [hbt] at this; cases this) ?_
        repeat (first | (refine isO ?_; first | refine s_move ?_ | refine s_assign ?_ | (refine isBin ?_; refine s_inc rfl (by omega) ?_)) | (refine isC ?_; first | refine c_region ?_ | refine c_iff rfl ?_ | refine c_skip ?_) | (refine l_th ?_))
        exact loop_end2 (i + 1) v9 (by (repeat (first | exact agree_refl _ _ | refine agree_upd rfl ?_ | refine agree_ext rfl ?_ | refine agree_mask rfl ?_))) ⟨rfl, rfl, trivial⟩ ⟨hi', by rw [hls]; exact hL, hxW2⟩ (by omega)
    · have hie : i = sl.length := by omega
      subst hie
      have hsub := lessR_all sl x
      have hrL := ris_sub hsub (-1) hb
      have hIL := hL.ints (by omega)
      repeat (first | (refine isO ?_; refine s_move ?_) | (refine isC ?_; first | refine c_sr ?_ | refine c_exit ?_))
      refine s_call ok_Near6 rfl (Near6_ok hm hn gv v9 (lessR sl x sl.length) W2 (hgW.ex hxW2) hIL hrL) ?_
      rintro u w5 ⟨vn, rfl, hIn, hx5⟩
      have hIL5 := hIL.ex hx5
      have hx05 := (hxW.trans hxW2).trans hx5
      by_cases hlt : (rowL n (nearP R m (lessR sl x sl.length))).length < (lessR sl x sl.length).length
      · have hno : rkm (Rsome sl R) m n ≠ sl.length := fun e => by
          have := hhall.1 e x hx'
          unfold hallX at this; omega
        repeat (first | (refine isO ?_; first | refine s_move ?_ | refine s_assign ?_ | (refine isBin ?_; refine s_lssT rfl rfl (by omega) ?_) | (refine isCall ?_; refine s_lenI sl_ints rfl (by assumption) ?_) | refine s_extract rfl rfl ?_) | (refine isC ?_; first | refine c_sr ?_ | refine c_ift rfl ?_ | refine c_ret ?_) | (first | refine l_th ?_ | refine th_ret ?_ | refine ib_ret ?_))
        exact ret2 rfl rfl rfl ⟨congrArg (fun z : Bool => Value.tuple #[.bool z, .int .i64 0]) (decide_eq_false hno).symm, hx05⟩
      · repeat (first | (refine isO ?_; first | refine s_move ?_ | refine s_assign ?_ | (refine isBin ?_; first | refine s_inc rfl (by omega) ?_ | refine s_lssF rfl rfl (by omega) ?_) | (refine isCall ?_; refine s_lenI sl_ints rfl (by assumption) ?_) | refine s_extract rfl rfl ?_) | (refine isC ?_; first | refine c_sr ?_ | refine c_region ?_ | refine c_iff rfl ?_ | refine c_skip ?_) | (refine l_th ?_))
        exact loop_end (x + 1) (by (repeat (first | exact agree_refl _ _ | refine agree_upd rfl ?_ | refine agree_ext rfl ?_ | refine agree_mask rfl ?_))) ⟨rfl, trivial⟩ ⟨⟨by omega, by omega⟩, fun y hy => by
          by_cases e : y = x
          · subst e; unfold hallX; omega
          · exact hall y (by omega), hx05⟩ (by omega)
  · have hyes : rkm (Rsome sl R) m n = sl.length := hhall.2 fun y hy => hall y (by omega)
    repeat (first | (refine isO ?_; refine s_assign ?_) | (refine isC ?_; first | refine c_sr ?_ | refine c_ret ?_ | refine c_exit ?_) | (refine l_th ?_))
    exact ret2 rfl rfl rfl ⟨congrArg (fun z : Bool => Value.tuple #[.bool z, .int .i64 0]) (decide_eq_true hyes).symm, hxW⟩
end Go.Proofs.YtifbgpkjbciblaaGreatDoor.Sal
/- A graph that is checked is told by who may have what. -/
set_option maxRecDepth 100000
namespace Go.Proofs.YtifbgpkjbciblaaGreatDoor.Sal
set_option linter.all false
theorem chk_may {g : List (List Int)} {n : Int} (h : chkG g n = true) : n = (n.toNat : Int) ∧ n.toNat ≤ 8 ∧ g.length ≤ 8 ∧ g = gL (mayR g) g.length n.toNat := by
  obtain ⟨nn, h1, h2, h3, h4⟩ := chk_form h
  subst h1
  exact ⟨rfl, h2, h3, h4⟩
end Go.Proofs.YtifbgpkjbciblaaGreatDoor.Sal
/- Matchings: the program's answers and the document's are one, whatever comes in. -/
set_option maxRecDepth 100000
namespace Go.Proofs.YtifbgpkjbciblaaGreatDoor.Sal
open Go.RowKit
set_option linter.all false
def mostS (g : List (List Int)) (n : Int) : List Int × Int := if chkG g n = true then (mostR (mayR g) g.length n.toNat, 0) else ([], 1)
noncomputable def allS (g : List (List Int)) (n : Int) (sl : List Int) : Bool × Int := if (chkG g n && risB (-1) sl (g.length : Int)) = true then (decide (rkm (Rsome sl (mayR g)) g.length n.toNat = sl.length), 0) else (false, 1)
attribute [local irreducible] Go.Code.wpIn Go.wpListIn Ct Ints Rows Sl At Rw WJ
attribute [local irreducible] Wd
theorem Most_all (gv : Value) (g : List (List Int)) (n : Int) (w : World) (hg : Rows w gv g) :
    Ct Tryz.prog 9 #[gv, .int .i64 n] w fun u w' => ∃ v, u = .tuple #[v, .int .i64 (mostS g n).2] ∧ OwI w w' v (mostS g n).1 ∧ Ints w' v (mostS g n).1 ∧ (mostS g n).1.length ≤ 8 ∧ Ex w w' := by
  unfold mostS
  by_cases hc : chkG g n = true
  · obtain ⟨h1, h2, h3, h4⟩ := chk_may hc
    rw [if_pos hc]
    have hg' : Rows w gv (gL (mayR g) g.length n.toNat) := by rw [← h4]; exact hg
    have hct := Most_okW (R := mayR g) (m := g.length) (n := n.toNat) h3 h2 gv w hg'
    rw [← h1] at hct
    have hl : (mostR (mayR g) g.length n.toNat).length = g.length := (most_fit h2).len
    exact hct.mono fun u w' ⟨v, hu, hO, hI, hx⟩ => ⟨v, hu, hO, hI, by rw [hl]; exact h3, hx⟩
  · rw [if_neg hc]
    have hc' : chkG g n = false := by simpa using hc
    exact (Most_bad gv g n w hg hc').mono fun u w' ⟨hu, hx⟩ => ⟨_, hu, OwI.nil _ _, Ints.nil _, by simp, hx⟩
theorem Most8_all (gv : Value) (g : List (List Int)) (n : Int) (w : World) (hg : Rows w gv g) :
    Ct Tryz.prog 10 #[gv, .int .i64 n] w fun u w' => ∃ v, u = .tuple #[v, .int .i64 (mostS g n).2] ∧ Ints w' v (mostS g n).1 ∧ Ex w w' := by
  unfold mostS
  by_cases hc : chkG g n = true
  · obtain ⟨h1, h2, h3, h4⟩ := chk_may hc
    rw [if_pos hc]
    have hg' : Rows w gv (gL (mayR g) g.length n.toNat) := by rw [← h4]; exact hg
    have hct := Most8_ok (R := mayR g) (m := g.length) (n := n.toNat) h3 h2 gv w hg'
    rw [← h1] at hct
    exact hct
  · rw [if_neg hc]
    have hc' : chkG g n = false := by simpa using hc
    exact (Most8_bad gv g n w hg hc').mono fun u w' ⟨hu, hx⟩ => ⟨_, hu, Ints.nil _, hx⟩
theorem All_all (gv : Value) (g : List (List Int)) (n : Int) (sv' : Value) (sl : List Int) (w : World) (hg : Rows w gv g) (hs : Ints w sv' sl) :
    Ct Tryz.prog 11 #[gv, .int .i64 n, sv'] w fun u w' => u = .tuple #[.bool (allS g n sl).1, .int .i64 (allS g n sl).2] ∧ Ex w w' := by
  unfold allS
  by_cases hc : (chkG g n && risB (-1) sl (g.length : Int)) = true
  · rw [if_pos hc]
    rw [Bool.and_eq_true] at hc
    obtain ⟨h1, h2, h3, h4⟩ := chk_may hc.1
    have hg' : Rows w gv (gL (mayR g) g.length n.toNat) := by rw [← h4]; exact hg
    have hct := All_ok (R := mayR g) (m := g.length) (n := n.toNat) h3 h2 gv sv' sl w hg' hs hc.2
    rw [← h1] at hct
    exact hct
  · rw [if_neg hc]
    have hc' : (chkG g n && risB (-1) sl (g.length : Int)) = false := by simpa using hc
    exact All_bad gv g n sv' sl w hg hs hc'
theorem All8_all (gv : Value) (g : List (List Int)) (n : Int) (sv' : Value) (sl : List Int) (w : World) (hg : Rows w gv g) (hs : Ints w sv' sl) :
    Ct Tryz.prog 12 #[gv, .int .i64 n, sv'] w fun u w' => u = .tuple #[.bool (allS g n sl).1, .int .i64 (allS g n sl).2] ∧ Ex w w' := by
  unfold allS
  by_cases hc : (chkG g n && risB (-1) sl (g.length : Int)) = true
  · rw [if_pos hc]
    rw [Bool.and_eq_true] at hc
    obtain ⟨h1, h2, h3, h4⟩ := chk_may hc.1
    have hg' : Rows w gv (gL (mayR g) g.length n.toNat) := by rw [← h4]; exact hg
    have hct := All8_ok (R := mayR g) (m := g.length) (n := n.toNat) h3 h2 gv sv' sl w hg' hs hc.2
    rw [← h1] at hct
    exact hct
  · rw [if_neg hc]
    have hc' : (chkG g n && risB (-1) sl (g.length : Int)) = false := by simpa using hc
    exact All8_bad gv g n sv' sl w hg hs hc'
end Go.Proofs.YtifbgpkjbciblaaGreatDoor.Sal
/- What a Book is told, one by one; that it finds all apart. -/
set_option maxRecDepth 100000
namespace Go.Proofs.YtifbgpkjbciblaaGreatDoor.Sal
open Go.RowKit
set_option linter.all false
def BkQ (lo : Nat) (wB w : World) (bk M top : Nat) : Prop :=
  ∃ (ns nl : List Nat) (L : Nat → Value) (ln : Nat → Nat) (vi vl : Value), Bk wB w bk M ns nl L vi vl ∧ (∀ q ∈ ns, ∃ xs, Wd wB 3 1 (L q) (ln q) xs) ∧ (∀ q ∈ nl, ∃ xs, Wd wB 25 1 (L q) (ln q) xs) ∧ ns.length ≤ M ∧ nl.length ≤ M ∧
    (∀ q, (q ∈ ns ∨ q ∈ nl) → q ≤ M ∧ ln q ≤ 100000 ∧ ∀ b, (L q).ownBlock = some b → lo ≤ b ∧ b < top) ∧ ns.Nodup ∧ nl.Nodup ∧ (∀ p ∈ ns, ∀ q ∈ nl, p ≠ q) ∧
    ∀ p q, (p ∈ ns ∨ p ∈ nl) → (q ∈ ns ∨ q ∈ nl) → p ≠ q → ∀ b, (L p).ownBlock = some b → (L q).ownBlock ≠ some b
theorem Bk.congr {wB w : World} {bk M : Nat} {ns nl : List Nat} {L L' : Nat → Value} {vi vl : Value} (h : Bk wB w bk M ns nl L vi vl) (he : ∀ q, (q ∈ ns ∨ q ∈ nl) → L q = L' q) : Bk wB w bk M ns nl L' vi vl := by
  refine ⟨h.ex, h.lo, h.hd, ?_, ?_, h.oi, h.ol⟩
  · have := h.wi
    rwa [flat3_congr ns (fun q hq => ⟨he q (.inl hq), rfl⟩)] at this
  · have := h.wl
    rwa [flat3_congr nl (fun q hq => ⟨he q (.inr hq), rfl⟩)] at this
theorem BkQ.init {lo : Nat} {wB w : World} {bk top : Nat} (hx : Ex wB w) (hl : wB.heap.size ≤ bk) (hA : At w bk 46 (bkc 0 nilV nilV)) : BkQ lo wB w bk 0 top :=
  ⟨[], [], fun _ => nilV, fun _ => 0, nilV, nilV, ⟨hx, hl, hA, Wd.nil _ _ _, Wd.nil _ _ _, fun b h => (by cases h), fun b h => (by cases h)⟩, fun q h => (by cases h), fun q h => (by cases h), Nat.le_refl _, Nat.le_refl _, fun q h => (by rcases h with h | h <;> cases h), List.nodup_nil, List.nodup_nil, fun p h => (by cases h), fun p q h => (by rcases h with h | h <;> cases h)⟩
theorem BkQ.exd {lo : Nat} {wB w w' : World} {bk M top : Nat} (h : BkQ lo wB w bk M top) (hx : Ex w w') : BkQ lo wB w' bk M top := by
  obtain ⟨ns, nl, L, ln, vi, vl, h1, h2⟩ := h
  exact ⟨ns, nl, L, ln, vi, vl, h1.exd hx, h2⟩
theorem mem_upN {M k q : Nat} : q ∈ upN M k ↔ ∃ j, j < k ∧ q = M + 1 + j := by
  unfold upN
  rw [List.mem_map]
  constructor
  · rintro ⟨j, h1, h2⟩; exact ⟨j, List.mem_range.1 h1, h2.symm⟩
  · rintro ⟨j, h1, h2⟩; exact ⟨j, List.mem_range.2 h1, h2.symm⟩
theorem upN_nodup (M k : Nat) : (upN M k).Nodup := by
  unfold upN
  refine List.pairwise_map.2 (List.pairwise_lt_range.imp fun h => ?_)
  omega
def setL (L : Nat → Value) (M : Nat) (us : List Value) (v : Value) (q : Nat) : Value := if M < q ∧ q ≤ M + us.length then us.getD (q - M - 1) v else if q = M + us.length + 1 then v else L q
def setN (ln : Nat → Nat) (M k : Nat) (f : Nat → Nat) (n : Nat) (q : Nat) : Nat := if M < q ∧ q ≤ M + k then f (q - M - 1) else if q = M + k + 1 then n else ln q
theorem setL_row {L : Nat → Value} {M : Nat} {us : List Value} {v : Value} {j : Nat} {u : Value} (h : us[j]? = some u) : setL L M us v (M + 1 + j) = u := by
  have hj := (List.getElem?_eq_some_iff.1 h).1
  unfold setL
  rw [if_pos ⟨by omega, by omega⟩]
  have e : M + 1 + j - M - 1 = j := by omega
  rw [e, List.getD_eq_getElem?_getD, h]; rfl
theorem setL_out (L : Nat → Value) (M : Nat) (us : List Value) (v : Value) : setL L M us v (M + us.length + 1) = v := by
  unfold setL
  rw [if_neg (by omega), if_pos rfl]
theorem setL_old {L : Nat → Value} {M : Nat} {us : List Value} {v : Value} {q : Nat} (h : q ≤ M) : setL L M us v q = L q := by
  unfold setL
  rw [if_neg (by omega), if_neg (by omega)]
theorem setN_row (ln : Nat → Nat) (M : Nat) {k j : Nat} (f : Nat → Nat) (n : Nat) (h : j < k) : setN ln M k f n (M + 1 + j) = f j := by
  unfold setN
  rw [if_pos ⟨by omega, by omega⟩]
  congr 1; omega
theorem setN_out (ln : Nat → Nat) (M k : Nat) (f : Nat → Nat) (n : Nat) : setN ln M k f n (M + k + 1) = n := by
  unfold setN
  rw [if_neg (by omega), if_pos rfl]
theorem setN_old {ln : Nat → Nat} {M k : Nat} {f : Nat → Nat} {n q : Nat} (h : q ≤ M) : setN ln M k f n q = ln q := by
  unfold setN
  rw [if_neg (by omega), if_neg (by omega)]
attribute [local irreducible] Go.Code.wpIn Go.wpListIn Ct Ints Rows Sl At Rw WJ
attribute [local irreducible] Wd
theorem bqIntLists_ct (lo : Nat) (wk wB w : World) (bk M top top' : Nat) (v : Value) (us : List Value) (A : List (List Int)) (h : BkQ lo wB w bk M top) (hv : OwL wk wB v us A) (ht : top ≤ wk.heap.size) (hlo : lo ≤ wk.heap.size) (htt : top ≤ top') (hr : ∀ (j : Nat) u b, us[j]? = some u → Value.ownBlock u = some b → b < top') (hvt : ∀ b, v.ownBlock = some b → b < top') (hA : A.length ≤ 20000) (hA2 : ∀ j, (A.getD j []).length ≤ 100000) (hM : M ≤ 20000) :
    Ct Tryz.prog 16 #[.pointer (some ⟨bk, 0, none⟩), v] w fun u w' => u = .tuple #[] ∧ BkQ lo wB w' bk (M + us.length + 1) top' := by
  obtain ⟨ns, nl, L, ln, vi, vl, hB, h1, h2, h3, h4, h5, h6, h7, h8, h9⟩ := h
  have hlen := hv.len
  have hB' : Bk wB w bk M ns nl (setL L M us v) vi vl := hB.congr fun q hq => (setL_old (h5 q hq).1).symm
  have hsl : Sl wB v us := hv.out.sl (by omega)
  refine (bIntLists_ct wB bk M ns nl (setL L M us v) vi vl us v w hB' hsl (fun j u hu => ⟨(hv.row j u hu).2, setL_row hu⟩) (setL_out L M us v) (by omega) (by omega) (by omega)).mono fun u w' ⟨hu, vi', vl', hB2⟩ => ?_
  have new : ∀ q, (q ∈ upN M us.length) → ∃ j x, j < us.length ∧ us[j]? = some x ∧ q = M + 1 + j ∧ setL L M us v q = x := fun q hq => by
    obtain ⟨j, hj, rfl⟩ := mem_upN.1 hq
    have hj2 : us[j]? = some us[j] := List.getElem?_eq_getElem hj
    exact ⟨j, us[j], hj, hj2, rfl, setL_row hj2⟩
  have cls : ∀ q, (q ∈ ns ++ upN M us.length ∨ q ∈ nl ++ [M + us.length + 1]) → ((q ∈ ns ∨ q ∈ nl) ∧ setL L M us v q = L q) ∨ (∃ j x, j < us.length ∧ us[j]? = some x ∧ q = M + 1 + j ∧ setL L M us v q = x) ∨ (q = M + us.length + 1 ∧ setL L M us v q = v) := fun q hq => by
    simp only [List.mem_append, List.mem_singleton] at hq
    rcases hq with (hq | hq) | (hq | hq)
    · exact .inl ⟨.inl hq, setL_old (h5 q (.inl hq)).1⟩
    · exact .inr (.inl (new q hq))
    · exact .inl ⟨.inr hq, setL_old (h5 q (.inr hq)).1⟩
    · subst hq; exact .inr (.inr ⟨rfl, setL_out L M us v⟩)
  refine ⟨hu, _, _, setL L M us v, setN ln M us.length (fun j => (A.getD j []).length) A.length, vi', vl', hB2, fun q hq => ?_, fun q hq => ?_, ?_, ?_, fun q hq => ?_, ?_, ?_, fun p hp q hq => ?_, fun p q hp hq hpq b hb => ?_⟩
  · rcases List.mem_append.1 hq with hq | hq
    · have h10 := (h5 q (.inl hq)).1
      rw [setL_old h10, setN_old h10]; exact h1 q hq
    · obtain ⟨j, x, hj, hx, rfl, e⟩ := new q hq
      rw [e, setN_row ln M _ _ hj]
      exact ⟨_, (hv.row j x hx).1⟩
  · rcases List.mem_append.1 hq with hq | hq
    · have h10 := (h5 q (.inr hq)).1
      rw [setL_old h10, setN_old h10]; exact h2 q hq
    · simp at hq; subst hq
      rw [setL_out, setN_out]
      exact ⟨_, hv.out⟩
  · rw [List.length_append, upN_len]; omega
  · rw [List.length_append, List.length_singleton]; omega
  · rcases cls q hq with ⟨hq, e⟩ | ⟨j, x, hj, hx, rfl, e⟩ | ⟨rfl, e⟩
    · have h10 := h5 q hq
      rw [e, setN_old h10.1]
      exact ⟨by omega, h10.2.1, fun b hb => ⟨(h10.2.2 b hb).1, by have := (h10.2.2 b hb).2; omega⟩⟩
    · rw [e, setN_row ln M _ _ hj]
      exact ⟨by omega, hA2 j, fun b hb => ⟨by have := (hv.low j x b hx hb).1; omega, hr j x b hx hb⟩⟩
    · rw [e, setN_out]
      exact ⟨Nat.le_refl _, by omega, fun b hb => ⟨by have := hv.lov b hb; omega, hvt b hb⟩⟩
  · refine List.nodup_append.2 ⟨h6, upN_nodup _ _, fun p hp q hq e => ?_⟩
    subst e
    obtain ⟨j, hj, e⟩ := mem_upN.1 hq
    have := (h5 p (.inl hp)).1; omega
  · refine List.nodup_append.2 ⟨h7, by simp, fun p hp q hq e => ?_⟩
    subst e
    simp at hq
    have := (h5 p (.inr hp)).1; omega
  · intro e
    subst e
    rcases List.mem_append.1 hp with hp | hp <;> rcases List.mem_append.1 hq with hq | hq
    · exact h8 p hp p hq rfl
    · simp at hq; have := (h5 p (.inl hp)).1; omega
    · obtain ⟨j, hj, e⟩ := mem_upN.1 hp
      have := (h5 p (.inr hq)).1; omega
    · simp at hq
      obtain ⟨j, hj, e⟩ := mem_upN.1 hp
      omega
  · intro hb2
    rcases cls p hp with ⟨hp', e⟩ | ⟨j, x, hj, hx, hpe, e⟩ | ⟨hpe, e⟩ <;> rcases cls q hq with ⟨hq', e'⟩ | ⟨j', x', hj', hx', hqe, e'⟩ | ⟨hqe, e'⟩ <;> rw [e] at hb <;> rw [e'] at hb2
    · exact h9 p q hp' hq' hpq b hb hb2
    · have := ((h5 p hp').2.2 b hb).2; have := (hv.low j' x' b hx' hb2).1; omega
    · have := ((h5 p hp').2.2 b hb).2; have := hv.lov b hb2; omega
    · have := ((h5 q hq').2.2 b hb2).2; have := (hv.low j x b hx hb).1; omega
    · exact hv.dis j j' x x' b hx hx' (fun e3 => hpq (by omega)) hb hb2
    · exact (hv.low j x b hx hb).2 hb2
    · have := ((h5 q hq').2.2 b hb2).2; have := hv.lov b hb; omega
    · exact (hv.low j' x' b hx' hb2).2 hb
    · exact hpq (by omega)
theorem bqInts_ct (lo : Nat) (wk wB w : World) (bk M top top' : Nat) (v : Value) (l : List Int) (h : BkQ lo wB w bk M top) (hv : OwI wk wB v l) (ht : top ≤ wk.heap.size) (hlo : lo ≤ wk.heap.size) (htt : top ≤ top') (hvt : ∀ b, v.ownBlock = some b → b < top') (hl : l.length ≤ 100000) (hM : M ≤ 50000) :
    Ct Tryz.prog 17 #[.pointer (some ⟨bk, 0, none⟩), v] w fun u w' => u = .tuple #[] ∧ BkQ lo wB w' bk (M + 1) top' := by
  obtain ⟨ns, nl, L, ln, vi, vl, hB, h1, h2, h3, h4, h5, h6, h7, h8, h9⟩ := h
  obtain ⟨a, c, hf⟩ := hv.1.slen
  have eo : setL L M [] v (M + 1) = v := setL_out L M [] v
  have eN : setN ln M 0 (fun _ => 0) l.length (M + 1) = l.length := setN_out ln M 0 _ _
  have hB' : Bk wB w bk M ns nl (setL L M [] v) vi vl := hB.congr fun q hq => (setL_old (h5 q hq).1).symm
  have hct := bInts_ct wB bk M ns nl (setL L M [] v) vi vl a l.length c w hB' (by rw [eo]; exact hf) (by omega) (by omega)
  rw [← hf] at hct
  refine hct.mono fun u w' ⟨hu, vi', hB2⟩ => ?_
  have cls : ∀ q, (q ∈ ns ++ [M + 1] ∨ q ∈ nl) → ((q ∈ ns ∨ q ∈ nl) ∧ setL L M [] v q = L q) ∨ (q = M + 1 ∧ setL L M [] v q = v) := fun q hq => by
    simp only [List.mem_append, List.mem_singleton] at hq
    rcases hq with (hq | hq) | hq
    · exact .inl ⟨.inl hq, setL_old (h5 q (.inl hq)).1⟩
    · subst hq; exact .inr ⟨rfl, eo⟩
    · exact .inl ⟨.inr hq, setL_old (h5 q (.inr hq)).1⟩
  refine ⟨hu, _, _, setL L M [] v, setN ln M 0 (fun _ => 0) l.length, vi', vl, hB2, fun q hq => ?_, fun q hq => ?_, ?_, by omega, fun q hq => ?_, ?_, h7, fun p hp q hq e => ?_, fun p q hp hq hpq b hb => ?_⟩
  · rcases List.mem_append.1 hq with hq | hq
    · have h10 := (h5 q (.inl hq)).1
      rw [setL_old h10, setN_old h10]; exact h1 q hq
    · simp at hq; subst hq
      rw [eo, eN]
      exact ⟨_, hv.1⟩
  · have h10 := (h5 q (.inr hq)).1
    rw [setL_old h10, setN_old h10]; exact h2 q hq
  · rw [List.length_append, List.length_singleton]; omega
  · rcases cls q hq with ⟨hq, e⟩ | ⟨rfl, e⟩
    · have h10 := h5 q hq
      rw [e, setN_old h10.1]
      exact ⟨by omega, h10.2.1, fun b hb => ⟨(h10.2.2 b hb).1, by have := (h10.2.2 b hb).2; omega⟩⟩
    · rw [e, eN]
      exact ⟨Nat.le_refl _, hl, fun b hb => ⟨by have := hv.2 b hb; omega, hvt b hb⟩⟩
  · refine List.nodup_append.2 ⟨h6, by simp, fun p hp q hq e => ?_⟩
    subst e
    simp at hq
    have := (h5 p (.inl hp)).1; omega
  · subst e
    rcases List.mem_append.1 hp with hp | hp
    · exact h8 p hp p hq rfl
    · simp at hp; have := (h5 p (.inr hq)).1; omega
  · intro hb2
    rcases cls p hp with ⟨hp', e⟩ | ⟨hpe, e⟩ <;> rcases cls q hq with ⟨hq', e'⟩ | ⟨hqe, e'⟩ <;> rw [e] at hb <;> rw [e'] at hb2
    · exact h9 p q hp' hq' hpq b hb hb2
    · have := ((h5 p hp').2.2 b hb).2; have := hv.2 b hb2; omega
    · have := ((h5 q hq').2.2 b hb2).2; have := hv.2 b hb; omega
    · exact hpq (by omega)
theorem bqApart_ct (lo : Nat) (w0 wB w : World) (bk M top : Nat) (h : BkQ lo wB w bk M top) (h0 : Ex w0 wB) (hlo : w0.heap.size ≤ lo) (ht : top ≤ wB.heap.size) (hM : M ≤ 100000) :
    Ct Tryz.prog 18 #[.pointer (some ⟨bk, 0, none⟩)] w fun u w' => u = .bool true ∧ Ex w0 w' := by
  obtain ⟨ns, nl, L, ln, vi, vl, hB, h1, h2, h3, h4, h5, h6, h7, h8, h9⟩ := h
  refine (Apart_ct wB bk M ns nl L ln vi vl w hB (fun q hq => let ⟨xs, hx⟩ := h1 q hq; ⟨xs, hx.ex hB.ex⟩) (fun q hq => let ⟨xs, hx⟩ := h2 q hq; ⟨xs, hx.ex hB.ex⟩) (by omega) (by omega) (fun q hq => by have := (h5 q (List.mem_append.1 hq)).1; omega) (fun q hq => (h5 q (List.mem_append.1 hq)).2.1) (List.nodup_append.2 ⟨h6, h7, h8⟩) (fun p hp q hq => h9 p q (List.mem_append.1 hp) (List.mem_append.1 hq)) (fun q hq b hb => by have := ((h5 q (List.mem_append.1 hq)).2.2 b hb).2; omega)).mono fun u w' ⟨hu, hk⟩ => ⟨hu, KtS.ex (h0.trans hB.ex) hk (fun b hb => ?_)⟩
  have := h0.size
  rcases hb with ⟨q, hq, hb⟩ | hb
  · have := ((h5 q (List.mem_append.1 hq)).2.2 b hb).1; omega
  · omega
end Go.Proofs.YtifbgpkjbciblaaGreatDoor.Sal
/- The walk of salesroomlaw08.MatchingsOf. -/
set_option maxRecDepth 100000
namespace Go.Proofs.YtifbgpkjbciblaaGreatDoor.Sal
open Go.RowKit
attribute [local irreducible] Go.Code.wpIn Go.wpListIn Ct Ints Rows Sl At Rw WJ
attribute [local irreducible] Wd
set_option linter.all false
theorem ok_LSize : CallOK Tryz.prog 6 := callOK Tryz.func6 (by kernel_rfl) rfl
theorem in_book : ∃ ti, Tryz.prog.info? 46 = some ti ∧ ti.zero = some (.agg (bkc 0 nilV nilV).toArray) := by
  have h : (Tryz.prog.info? 46).map (·.zero) = some (some (.agg (bkc 0 nilV nilV).toArray)) := by kernel_rfl
  cases hi : Tryz.prog.info? 46 with
  | none => rw [hi] at h; cases h
  | some ti => rw [hi] at h; exact ⟨ti, rfl, by simpa using h⟩
set_option maxHeartbeats 8000000 in
theorem MatchingsOf_ct (u : Value) (g : List (List Int)) (n : Int) (v1 : Value) (l1 : List Int) (w : World) (hg : Rows w u g) (hn : In64 n) (hl1 : Ints w v1 l1) :
    Ct Tryz.prog 3 #[.agg #[u, .int .i64 n], v1] w fun x w' => x = .bool true ∧ Ex w w' := by
  refine Exists.elim in_book fun ti hti => ?_
  refine enter (N := 101) (vs := [.agg #[u, .int .i64 n], v1]) Tryz.func3 rfl rfl rfl ?_
  have hlen1 := hl1.len
  repeat ((refine isC ?_; refine c_sr ?_))
  refine s_box (cs := [u, .int .i64 n]) rfl rfl ?_
  intro b0 w0 hb0 hZ hx0 hs0
  have hg0 := hg.ex hx0
  have hl10 := hl1.ex hx0
  have hx00 := Ex.refl w0
  repeat (first | (refine isO ?_; refine s_assign ?_) | (refine isO ?_; first | refine s_fa Tryz.underlying24 rfl ty_rows rfl ?_ | refine s_ldO ty_rows (by assumption) (by assumption) rfl rfl ?_) | (refine isC ?_; first | refine c_sr ?_ | refine c_seq ?_) | (refine l_th ?_))
  refine s_call ok_LSize rfl (IntListsSizeW_ct u g w0 hg0) ?_
  rintro v w1 ⟨⟨sz, rfl, hsz⟩, hx1⟩
  have hx01 := hx1
  have hl11 := hl10.ex hx1
  by_cases h1 : (3000 : Int) < sz
  · repeat (first | (refine isO ?_; first | refine s_move ?_ | refine s_assign ?_ | (refine isG ?_; refine g_no rfl rfl rfl ?_) | (refine isBin ?_; refine s_gtrT rfl rfl (by omega) ?_) | (refine isPick ?_; refine s_pickt rfl rfl ?_)) | (refine isC ?_; first | refine c_sr ?_ | refine c_ift rfl ?_ | refine c_ret ?_) | (first | refine l_th ?_ | refine th_ret ?_))
    exact ret1 rfl rfl ⟨rfl, hx0.trans hx1⟩
  by_cases h2 : (300 : Int) < (l1.length : Int)
  · repeat (first | (refine isO ?_; first | refine s_move ?_ | refine s_assign ?_ | (refine isG ?_; refine g_yes rfl rfl ?_) | (refine isBin ?_; first | refine s_gtrT rfl rfl (by omega) ?_ | refine s_gtrF rfl rfl (by omega) ?_) | (refine isCall ?_; refine s_lenI sl_ints rfl (by assumption) ?_) | (refine isPick ?_; refine s_pickf rfl rfl ?_)) | (refine isC ?_; first | refine c_sr ?_ | refine c_ift rfl ?_ | refine c_ret ?_) | (first | refine l_th ?_ | refine th_ret ?_))
    exact ret1 rfl rfl ⟨rfl, hx0.trans hx1⟩
  have hsz' := hsz (by omega)
  repeat (first | (refine isO ?_; first | refine s_move ?_ | (refine isG ?_; refine g_yes rfl rfl ?_) | (refine isBin ?_; refine s_gtrF rfl rfl (by omega) ?_) | (refine isCall ?_; refine s_lenI sl_ints rfl (by assumption) ?_) | (refine isPick ?_; refine s_pickf rfl rfl ?_)) | (refine isO ?_; first | refine s_fa Tryz.underlying24 rfl ty_rows rfl ?_ | refine s_ldO ty_rows (by assumption) (by assumption) rfl rfl ?_) | (refine isC ?_; first | refine c_sr ?_ | refine c_th ?_ | refine c_iff rfl ?_) | (refine l_th ?_))
  refine s_call ok_TwinIntLists rfl (TwinIntListsW_ct u g w1 (hg0.ex hx1) (by omega) (fun i hi => by have := hsz'.2 i hi; omega)) ?_
  rintro v w2 ⟨bg, cg, rb, rc, rfl, hbg, hrb, hTg, hx2⟩
  have hx02 := hx01.trans hx2
  repeat (first | (refine isO ?_; first | refine s_move ?_ | refine s_assign ?_) | (refine isC ?_; refine c_sr ?_) | (refine l_th ?_))
  refine s_call ok_TwinInts rfl (TwinIntsW_ct v1 l1 w2 (hl10.ex hx02) (by omega)) ?_
  rintro v w3 ⟨bt, ct, rfl, hbt, hTt, hx3⟩
  have hx03 := hx02.trans hx3
  have hTg3 := hTg.ex hx3
  repeat (first | (refine isO ?_; first | refine s_move ?_ | refine s_assign ?_) | (refine isO ?_; first | refine s_fa Tryz.underlying24 rfl ty_int rfl ?_ | refine s_ldO ty_int (by assumption) (by assumption) rfl rfl ?_) | (refine isC ?_; refine c_sr ?_) | (refine l_th ?_))
  refine s_call ok_Most rfl (Most_all _ g n w3 hTg3.rows) ?_
  rintro v w4 ⟨va, rfl, hOa, hIa, ha8, hx4⟩
  have hx04 := hx03.trans hx4
  have hTg4 := hTg3.ex hx4
  have hTt4 := hTt.ex hx4
  repeat (first | (refine isO ?_; first | refine s_move ?_ | refine s_assign ?_ | refine s_extract rfl rfl ?_) | (refine isO ?_; first | refine s_fa Tryz.underlying24 rfl ty_rows rfl ?_ | refine s_fa Tryz.underlying24 rfl ty_int rfl ?_ | refine s_ldO ty_rows (by assumption) (by assumption) rfl rfl ?_ | refine s_ldO ty_int (by assumption) (by assumption) rfl rfl ?_) | (refine isC ?_; refine c_sr ?_) | (refine l_th ?_))
  refine s_call ok_Most8 rfl (Most8_all u g n w4 (hg0.ex hx04)) ?_
  rintro v w5 ⟨vb, rfl, hIb, hx5⟩
  have hx05 := hx04.trans hx5
  have hTg5 := hTg4.ex hx5
  have hTt5 := hTt4.ex hx5
  repeat (first | (refine isO ?_; first | refine s_move ?_ | refine s_assign ?_ | refine s_extract rfl rfl ?_) | (refine isO ?_; first | refine s_fa Tryz.underlying24 rfl ty_int rfl ?_ | refine s_ldO ty_int (by assumption) (by assumption) rfl rfl ?_) | (refine isC ?_; refine c_sr ?_) | (refine l_th ?_))
  refine s_call ok_All rfl (All_all _ g n _ l1 w5 hTg5.rows hTt5.ints) ?_
  rintro v w6 ⟨rfl, hx6⟩
  have hx06 := hx05.trans hx6
  repeat (first | (refine isO ?_; first | refine s_move ?_ | refine s_assign ?_ | refine s_extract rfl rfl ?_) | (refine isO ?_; first | refine s_fa Tryz.underlying24 rfl ty_rows rfl ?_ | refine s_fa Tryz.underlying24 rfl ty_int rfl ?_ | refine s_ldO ty_rows (by assumption) (by assumption) rfl rfl ?_ | refine s_ldO ty_int (by assumption) (by assumption) rfl rfl ?_) | (refine isC ?_; refine c_sr ?_) | (refine l_th ?_))
  refine s_call ok_All8 rfl (All8_all u g n v1 l1 w6 (hg0.ex hx06) (hl10.ex hx06)) ?_
  rintro v w7 ⟨rfl, hx7⟩
  have hx07 := hx06.trans hx7
  have hx57 := hx6.trans hx7
  have hTg7 := hTg5.ex hx57
  have hTt7 := hTt5.ex hx57
  repeat (first | (refine isO ?_; first | refine s_move ?_ | refine s_assign ?_ | (refine isG ?_; refine g_yes rfl rfl ?_) | (refine isBin ?_; refine s_neqF rfl rfl (by omega) ?_) | (refine isPick ?_; refine s_pickf rfl rfl ?_) | refine s_extract rfl rfl ?_) | (refine isO ?_; refine s_neqb Tryz.underlying4 rfl rfl ?_) | (refine isC ?_; first | refine c_sr ?_ | refine c_seq ?_) | (refine l_th ?_))
  refine s_re (v' := .bool false) (vbool (by simp)) ?_
  repeat ((refine isO ?_; first | refine s_move ?_ | (refine isG ?_; refine g_yes rfl rfl ?_) | (refine isBin ?_; refine s_neqF rfl rfl (by omega) ?_) | (refine isPick ?_; refine s_pickf rfl rfl ?_)))
  refine s_call ok_SameInts rfl (SameInts_ct va vb _ _ w7 (hIa.ex (hx5.trans hx57)) (hIb.ex hx57)) ?_
  rintro x w8 ⟨rfl, hx8⟩
  have hx08 := hx07.trans hx8
  refine s_re (v' := .bool true) (vbool (by simp)) ?_
  repeat (first | (refine isO ?_; first | refine s_move ?_ | (refine isG ?_; refine g_yes rfl rfl ?_) | (refine isPick ?_; refine s_pickf rfl rfl ?_) | refine s_not rfl ?_) | (refine isO ?_; first | refine s_fa Tryz.underlying24 rfl ty_rows rfl ?_ | refine s_ldO ty_rows (by assumption) (by assumption) rfl rfl ?_))
  refine s_call ok_LeftIntLists rfl (LeftIntLists_ct bg cg rb rc g u w8 (hTg7.ex hx8) (hg0.ex hx08)) ?_
  rintro x w9 ⟨rfl, hx9⟩
  have hx09 := hx08.trans hx9
  repeat ((refine isO ?_; first | refine s_move ?_ | (refine isG ?_; refine g_yes rfl rfl ?_) | (refine isPick ?_; refine s_pickf rfl rfl ?_) | refine s_not rfl ?_))
  refine s_call ok_LeftInts rfl (LeftInts_ct bt ct l1 v1 w9 (hTt7.ex (hx8.trans hx9)) (hl10.ex hx09)) ?_
  rintro x yb ⟨rfl, hya⟩
  have hx0b := hx09.trans hya
  have hx7b := (hx8.trans hx9).trans hya
  have z1 := hx1.size
  have z2 := hx2.size
  have z3 := hx3.size
  have z4 := hx4.size
  have z5 := hx5.size
  have z57 := hx57.size
  have z7b := hx7b.size
  have hlt2 := hTg.wd.lt
  have hltr : ∀ (j : Nat) x b, ((List.range g.length).map (fun i => sv (rb i) (g.getD i []).length (rc i)))[j]? = some x → Value.ownBlock x = some b → b < w2.heap.size := fun j x b hu hb => ((hTg.ow (w0 := w1) hbg hrb).row j x hu).1.lt b hb
  have hOwg := (hTg7.ow (w0 := w1) hbg hrb).ex hx7b
  have hlenr : ∀ j, (g.getD j []).length ≤ 100000 := fun j => by
    by_cases hj : j < g.length
    · have := hsz'.2 j hj; omega
    · rw [List.getD_eq_getElem?_getD, List.getElem?_eq_none (by omega)]; simp
  have hOwt := (hTt7.ow (w0 := w2) hbt).ex hx7b
  have hOwa := (hOa.ex (hx5.trans hx57)).ex hx7b
  have hlt3 := hTt.wd.lt
  have hlta := hOa.1.lt
  have hgl : ((List.range g.length).map (fun i => sv (rb i) (g.getD i []).length (rc i))).length = g.length := by simp
  repeat (first | (refine isO ?_; first | (refine isG ?_; refine g_yes rfl rfl ?_) | (refine isPick ?_; refine s_pickf rfl rfl ?_) | refine s_not rfl ?_) | (refine isC ?_; first | refine c_sr ?_ | refine c_th ?_ | refine c_iff rfl ?_) | (refine l_th ?_))
  refine s_alloc (cs := bkc 0 nilV nilV) hti.1 hti.2 rfl ?_
  intro bk k0 hbk hAk hxk hsk
  have hQ0 : BkQ w0.heap.size yb k0 bk 0 w1.heap.size := BkQ.init hxk (by omega) hAk
  repeat (first | (refine isO ?_; refine s_move ?_) | (refine isC ?_; refine c_sr ?_) | (refine l_th ?_))
  refine s_call ok_bIntLists rfl (bqIntLists_ct w0.heap.size w1 yb k0 bk 0 w1.heap.size w2.heap.size _ _ g hQ0 hOwg (Nat.le_refl _) z1 z2 hltr hlt2 (by omega) hlenr (by omega)) ?_
  rintro x k1 ⟨rfl, hQ1⟩
  repeat (first | (refine isO ?_; refine s_move ?_) | (refine isC ?_; refine c_sr ?_) | (refine l_th ?_))
  refine s_call ok_bInts rfl (bqInts_ct w0.heap.size w2 yb k1 bk _ w2.heap.size w3.heap.size _ l1 hQ1 hOwt (Nat.le_refl _) (by omega) z3 hlt3 (by omega) (by omega)) ?_
  rintro x k2 ⟨rfl, hQ2⟩
  repeat (first | (refine isO ?_; refine s_move ?_) | (refine isC ?_; refine c_sr ?_) | (refine l_th ?_))
  refine s_call ok_bInts rfl (bqInts_ct w0.heap.size w3 yb k2 bk _ w3.heap.size w4.heap.size va _ hQ2 hOwa (Nat.le_refl _) (by omega) z4 hlta (by omega) (by omega)) ?_
  rintro x k3 ⟨rfl, hQ3⟩
  repeat (first | (refine isC ?_; refine c_sr ?_) | (refine l_th ?_))
  refine s_call ok_Apart rfl (bqApart_ct w0.heap.size w0 yb k3 bk _ w4.heap.size hQ3 hx0b (Nat.le_refl _) (by omega) (by omega)) ?_
  rintro x k6 ⟨rfl, hxk6⟩
  repeat (first | (refine isO ?_; refine s_assign ?_) | (refine isC ?_; refine c_ret ?_) | (refine l_th ?_))
  exact ret1 rfl rfl ⟨rfl, hx0.trans hxk6⟩
end Go.Proofs.YtifbgpkjbciblaaGreatDoor.Sal
