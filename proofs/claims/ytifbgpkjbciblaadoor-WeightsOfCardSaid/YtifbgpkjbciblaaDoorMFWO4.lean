/- Texts that YtifbgpkjbciblaaDoorFWO leans on, laid together: R10 Core17 Core18 BK1 BK2. -/
import Derived.Test.YtifbgpkjbciblaaDoorMFWO3
import Derived.Deep.MidRow
import Derived.Test.YtifbgpkjbciblaaDoorMFWO2
section
/- The document's answer on weights (salesroomref10): Check, best, Best, Proved. -/
set_option maxRecDepth 100000
namespace Go.Proofs.YtifbgpkjbciblaaDoor.Sal
open Go.RowKit
section
variable {r : Option Nat} {P : Program} {J : World → Prop} {z : Nat} {Q : Exit → Act → World → Prop} {N : Nat} {σ : Nat → Value} {ds : List Deferred} {w : World}
variable {gd : Option (Nat × Bool)} {ops : Array Oper} {i d : Nat} {π : List (Nat × Bool)} {ty : TypeId} {pos : String} {after : Array Edge} {t t' : TypeId} {x y : Operand} {k : IntKind} {m n : Nat}
theorem d_xor (hi : ops[i]? = some ⟨some d, .binOp .xor t x y t', ty, pos, after, gd⟩) (hx : ev N σ x = .int k (m : Int)) (hy : ev N σ y = .int k (n : Int)) (hm : m ≤ top k) (hn : n ≤ top k) (h1 : m ^^^ n ≤ top k) (h : WJ r P ops J z Q π (mk N (upd σ d (.int k ((m ^^^ n : Nat) : Int))) ds) w) (hgd : GOK ops (ev N σ) gd := by first | exact trivial | exact ⟨_, rfl, rfl⟩) : WJ r P ops J z Q ((i, true) :: π) (mk N σ ds) w :=
  d_bin hi hx hy rfl (fun w' => r_xor hm hn h1) h hgd
end
theorem li_tab {w0 w : World} {b n : Nat} {f : Nat → Int} (hA : At w b 3 (List.replicate n (.int .i64 0))) (hf : ∀ x, f x = 0) (hb : w0.heap.size ≤ b) (hn : n ≤ 10000) : LI w0 w 3 (sv b n n) (tabI n f) := by
  have e : List.replicate n (Value.int .i64 0) = (tabI n f).map (Value.int .i64) := by
    unfold tabI
    rw [rep_tab n, List.map_map]
    apply List.map_congr_left
    intro x _
    simp [hf x, zeroF]
  rw [e] at hA
  have hR := hA.rw (n := n) (c := n) (by simp [tabI]) (Nat.le_refl _) (by omega)
  rw [List.take_of_length_le (by simp [tabI])] at hR
  have hv : Rw w 3 (sv b n n) ((tabI n f).map (Value.int .i64)) := hR
  exact ⟨hv, fun k hk => by cases hk; exact hb⟩
theorem tf10 (b : Bool) : b = true ∨ b = false := by cases b <;> simp
attribute [local irreducible] Go.Code.wpIn Go.wpListIn Ct Ints Rows Sl At Rw WJ
set_option linter.all false
theorem ok_Check10 : CallOK Tryd.prog 20 := callOK Tryd.func20 (by kernel_rfl) rfl
theorem ok_best10 : CallOK Tryd.prog 21 := callOK Tryd.func21 (by kernel_rfl) rfl
theorem ok_Best10 : CallOK Tryd.prog 7 := callOK Tryd.func7 (by kernel_rfl) rfl
theorem ok_Proved10 : CallOK Tryd.prog 9 := callOK Tryd.func9 (by kernel_rfl) rfl
theorem badL_of {n : Int} {l : List Int} {k : Nat} (hk : k < l.length) (h : badN (l.getD k 0) = true) : badL n l = true := by
  unfold badL
  rw [any_of_getD l badN k 0 hk h, Bool.or_true]
theorem Check10_ct (v : Value) (g : List (List Int)) (n : Int) (w : World) (hg : Rows w v g) :
    Ct Tryd.prog 20 #[v, .int .i64 n] w fun u w' => u = .bool (checkG g n) ∧ Ex w w' := by
  have hlg := hg.len
  by_cases hH : 1 ≤ n ∧ n ≤ 8 ∧ (g.length : Int) ≤ 8
  · obtain ⟨h1, h2, h3⟩ := hH
    obtain ⟨nn, rfl⟩ : ∃ nn : Nat, n = (nn : Int) := ⟨n.toNat, by omega⟩
    refine enter (N := 54) (vs := [v, .int .i64 (nn : Int)]) Tryd.func20 rfl rfl rfl ?_
    repeat (first | (refine isO ?_; first | refine s_move ?_ | refine s_assign ?_ | (refine isG ?_; refine g_yes rfl rfl ?_) | (refine isBin ?_; first | refine s_lssF rfl rfl (by omega) ?_ | refine s_gtrF rfl rfl (by omega) ?_) | (refine isCall ?_; refine s_lenR sl_rows rfl (by assumption) ?_) | (refine isPick ?_; refine s_pickf rfl rfl ?_)) | (refine isC ?_; first | refine c_sr ?_ | refine c_th ?_ | refine c_seq ?_ | refine c_iff rfl ?_ | refine c_block ?_) | (refine l_th ?_))
    refine c_loop (γ := Nat) 18014398509219952 (fun i => [(5, .int .i64 (i : Int))]) (fun i W => i ≤ g.length ∧ ((g.take i).any (badL nn)) = false ∧ Ex w W) (fun i => g.length - i) 0 ⟨rfl, trivial⟩ ⟨Nat.zero_le _, rfl, Ex.refl _⟩ ?_
    rintro i ρ W ⟨hi, hno, hx⟩
    have hgW := hg.ex hx
    repeat (first | (refine isO ?_; first | refine s_move ?_ | (refine isBin ?_; refine s_lss rfl rfl ?_) | (refine isCall ?_; refine s_lenR sl_rows rfl (by assumption) ?_)) | (refine isC ?_; first | refine c_sr ?_ | refine c_seq ?_) | (refine l_th ?_))
    refine c_ifd rfl (fun h => ?_) (fun h => ?_)
    · have hi' : i < g.length := by omega
      have hst := any_take_succ g (badL nn) i [] hi'
      have hrl := hgW.rowlen i
      repeat (first | (refine isO ?_; refine s_move ?_) | (refine isC ?_; first | refine c_sr ?_ | refine c_th ?_ | refine c_seq ?_ | refine c_block ?_))
      refine s_ixR sl_rows ty_ints rfl rfl rfl hgW hi' ?_
      intro _ row hr
      by_cases hl : (g.getD i []).length = nn
      · repeat (first | (refine isO ?_; first | refine s_move ?_ | refine s_assign ?_ | (refine isBin ?_; refine s_neqF rfl rfl (by omega) ?_) | (refine isCall ?_; refine s_lenI sl_ints rfl (by assumption) ?_)) | (refine isC ?_; first | refine c_sr ?_ | refine c_th ?_ | refine c_iff rfl ?_ | refine c_block ?_) | (refine l_th ?_))
        refine c_loop (γ := Nat) 18014396361998416 (fun k => [(6, .int .i64 (k : Int))]) (fun k W' => k ≤ nn ∧ (((g.getD i []).take k).any badN) = false ∧ Ex W W') (fun k => nn - k) 0 ⟨rfl, trivial⟩ ⟨Nat.zero_le _, rfl, Ex.refl _⟩ ?_
        rintro k ρ2 W2 ⟨hk, hnk, hx2⟩
        have hg2 := hgW.ex hx2
        repeat (first | (refine isO ?_; first | refine s_move ?_ | (refine isBin ?_; refine s_lss rfl rfl ?_)) | (refine isC ?_; first | refine c_sr ?_ | refine c_seq ?_) | (refine l_th ?_))
        refine c_ifd rfl (fun h4 => ?_) (fun h4 => ?_)
        · have hk' : k < (g.getD i []).length := by omega
          have hsk := any_take_succ (g.getD i []) badN k 0 hk'
          rw [hnk, Bool.false_or] at hsk
          by_cases h5 : (g.getD i []).getD k 0 < -1000000
          · have hbad := any_of_getD g (badL (nn : Int)) i [] hi' (badL_of hk' (by unfold badN; rw [decide_eq_true h5]; rfl))
            repeat (first | (refine isO ?_; first | refine s_move ?_ | refine s_assign ?_ | (refine isG ?_; refine g_no rfl rfl rfl ?_) | (refine isBin ?_; refine s_lssT rfl rfl (by omega) ?_) | (refine isIA ?_; refine s_ixI sl_ints ty_int rfl rfl rfl (by assumption) (by omega) ?_; intro _) | (refine isPick ?_; refine s_pickt rfl rfl ?_)) | (refine isO ?_; first | (refine s_iaR sl_rows ty_ints (by assumption) (Ex.refl _) rfl rfl (by omega) ?_; intro _ _ _ _) | refine s_ld ty_ints rfl (by assumption) ?_) | (refine isC ?_; first | refine c_sr ?_ | refine c_th ?_ | refine c_seq ?_ | refine c_ift rfl ?_ | refine c_block ?_ | refine c_ret ?_) | (first | refine l_th ?_ | refine th_ret ?_ | refine ib_ret ?_))
            exact ret1 rfl rfl ⟨vbool (by unfold checkG; rw [hbad]; simp), hx.trans hx2⟩
          · by_cases h6 : 1000000 < (g.getD i []).getD k 0
            · have hbad := any_of_getD g (badL (nn : Int)) i [] hi' (badL_of hk' (by unfold badN; rw [decide_eq_true h6, Bool.or_true]))
              repeat (first | (refine isO ?_; first | refine s_move ?_ | refine s_assign ?_ | (refine isG ?_; refine g_yes rfl rfl ?_) | (refine isBin ?_; first | refine s_lssF rfl rfl (by omega) ?_ | refine s_gtrT rfl rfl (by omega) ?_) | (refine isIA ?_; refine s_ixI sl_ints ty_int rfl rfl rfl (by assumption) (by omega) ?_; intro _) | (refine isPick ?_; refine s_pickf rfl rfl ?_)) | (refine isO ?_; first | (refine s_iaI sl_ints ty_int rfl rfl (by assumption) (by omega) ?_; intro _ _) | (refine s_iaR sl_rows ty_ints (by assumption) (Ex.refl _) rfl rfl (by omega) ?_; intro _ _ _ _) | refine s_ld ty_ints rfl (by assumption) ?_ | refine s_ld ty_int rfl (by assumption) ?_) | (refine isC ?_; first | refine c_sr ?_ | refine c_th ?_ | refine c_seq ?_ | refine c_ift rfl ?_ | refine c_block ?_ | refine c_ret ?_) | (first | refine l_th ?_ | refine th_ret ?_ | refine ib_ret ?_))
              exact ret1 rfl rfl ⟨vbool (by unfold checkG; rw [hbad]; simp), hx.trans hx2⟩
            · have hg0 : badN ((g.getD i []).getD k 0) = false := by unfold badN; rw [decide_eq_false h5, decide_eq_false h6]; rfl
              rw [hg0] at hsk
              repeat (first | (refine isO ?_; first | refine s_move ?_ | refine s_assign ?_ | (refine isG ?_; refine g_yes rfl rfl ?_) | (refine isBin ?_; first | refine s_inc rfl (by omega) ?_ | refine s_lssF rfl rfl (by omega) ?_ | refine s_gtrF rfl rfl (by omega) ?_) | (refine isIA ?_; refine s_ixI sl_ints ty_int rfl rfl rfl (by assumption) (by omega) ?_; intro _) | (refine isPick ?_; refine s_pickf rfl rfl ?_)) | (refine isO ?_; first | (refine s_iaI sl_ints ty_int rfl rfl (by assumption) (by omega) ?_; intro _ _) | (refine s_iaR sl_rows ty_ints (by assumption) (Ex.refl _) rfl rfl (by omega) ?_; intro _ _ _ _) | refine s_ld ty_ints rfl (by assumption) ?_ | refine s_ld ty_int rfl (by assumption) ?_) | (refine isC ?_; first | refine c_sr ?_ | refine c_th ?_ | refine c_seq ?_ | refine c_region ?_ | refine c_iff rfl ?_ | refine c_block ?_ | refine c_skip ?_) | (refine l_th ?_))
              exact loop_end (k + 1) (by (repeat (first | exact agree_refl _ _ | refine agree_upd rfl ?_ | refine agree_ext rfl ?_ | refine agree_mask rfl ?_))) ⟨rfl, trivial⟩ ⟨by omega, hsk, hx2⟩ (by omega)
        · have hke : (g.getD i []).take k = g.getD i [] := List.take_of_length_le (by omega)
          rw [hke] at hnk
          have hb0 : badL (nn : Int) (g.getD i []) = false := by unfold badL; rw [hnk, decide_eq_false (by omega)]; rfl
          rw [hno, hb0] at hst
          repeat (first | (refine isO ?_; first | refine s_move ?_ | refine s_assign ?_ | (refine isBin ?_; refine s_inc rfl (by omega) ?_)) | (refine isC ?_; first | refine c_region ?_ | refine c_exit ?_) | (refine l_th ?_))
          exact loop_end (i + 1) (by (repeat (first | exact agree_refl _ _ | refine agree_upd rfl ?_ | refine agree_ext rfl ?_ | refine agree_mask rfl ?_))) ⟨rfl, trivial⟩ ⟨hi', hst, hx.trans hx2⟩ (by omega)
      · have hbad := any_of_getD g (badL (nn : Int)) i [] hi' (by unfold badL; rw [decide_eq_true (show ((g.getD i []).length : Int) ≠ (nn : Int) by omega)]; rfl)
        repeat (first | (refine isO ?_; first | refine s_move ?_ | refine s_assign ?_ | (refine isBin ?_; refine s_neqT rfl rfl (by omega) ?_) | (refine isCall ?_; refine s_lenI sl_ints rfl (by assumption) ?_)) | (refine isC ?_; first | refine c_sr ?_ | refine c_ift rfl ?_ | refine c_ret ?_) | (first | refine l_th ?_ | refine th_ret ?_ | refine ib_ret ?_))
        exact ret1 rfl rfl ⟨vbool (by unfold checkG; rw [hbad]; simp), hx⟩
    · rw [List.take_of_length_le (by omega)] at hno
      repeat (first | (refine isO ?_; refine s_assign ?_) | (refine isC ?_; first | refine c_sr ?_ | refine c_ret ?_ | refine c_exit ?_) | (refine l_th ?_))
      exact ret1 rfl rfl ⟨vbool (by unfold checkG; rw [hno, decide_eq_true h1, decide_eq_true h2, decide_eq_true h3]; rfl), hx⟩
  · have hc : checkG g n = false := by
      unfold checkG
      cases hd : (decide (1 ≤ n) && decide (n ≤ 8) && decide ((g.length : Int) ≤ 8)) with
      | false => rfl
      | true => simp only [Bool.and_eq_true, decide_eq_true_eq] at hd; exact absurd ⟨hd.1.1, hd.1.2, hd.2⟩ hH
    refine enter (N := 54) (vs := [v, .int .i64 n]) Tryd.func20 rfl rfl rfl ?_
    by_cases h1 : n < 1
    · repeat (first | (refine isO ?_; first | refine s_move ?_ | refine s_assign ?_ | (refine isG ?_; refine g_no rfl rfl rfl ?_) | (refine isBin ?_; refine s_lssT rfl rfl (by omega) ?_) | (refine isPick ?_; refine s_pickt rfl rfl ?_)) | (refine isC ?_; first | refine c_sr ?_ | refine c_seq ?_ | refine c_ift rfl ?_ | refine c_ret ?_) | (first | refine l_th ?_ | refine th_ret ?_))
      exact ret1 rfl rfl ⟨vbool hc.symm, Ex.refl _⟩
    · by_cases h2 : 8 < n
      · repeat (first | (refine isO ?_; first | refine s_move ?_ | refine s_assign ?_ | (refine isG ?_; first | refine g_yes rfl rfl ?_ | refine g_no rfl rfl rfl ?_) | (refine isBin ?_; first | refine s_lssF rfl rfl (by omega) ?_ | refine s_gtrT rfl rfl (by omega) ?_) | (refine isPick ?_; first | refine s_pickt rfl rfl ?_ | refine s_pickf rfl rfl ?_)) | (refine isC ?_; first | refine c_sr ?_ | refine c_seq ?_ | refine c_ift rfl ?_ | refine c_ret ?_) | (first | refine l_th ?_ | refine th_ret ?_))
        exact ret1 rfl rfl ⟨vbool hc.symm, Ex.refl _⟩
      · have h3 : 8 < (g.length : Int) := by omega
        repeat (first | (refine isO ?_; first | refine s_move ?_ | refine s_assign ?_ | (refine isG ?_; refine g_yes rfl rfl ?_) | (refine isBin ?_; first | refine s_lssF rfl rfl (by omega) ?_ | refine s_gtrT rfl rfl (by omega) ?_ | refine s_gtrF rfl rfl (by omega) ?_) | (refine isCall ?_; refine s_lenR sl_rows rfl (by assumption) ?_) | (refine isPick ?_; refine s_pickf rfl rfl ?_)) | (refine isC ?_; first | refine c_sr ?_ | refine c_seq ?_ | refine c_ift rfl ?_ | refine c_ret ?_) | (first | refine l_th ?_ | refine th_ret ?_))
        exact ret1 rfl rfl ⟨vbool hc.symm, Ex.refl _⟩
theorem pow_512 {n : Nat} (h : n ≤ 9) : 2 ^ n ≤ 512 := by
  have := Nat.pow_le_pow_right (n := 2) (by omega) h; simpa using this
set_option maxHeartbeats 4000000 in
theorem best10_ct (gv : Value) (g : List (List Int)) (n : Nat) (w : World) (hg : Rows w gv g) (hm : g.length ≤ 8) (hn : n ≤ 9) (hrow : ∀ i, i < g.length → (g.getD i []).length = n) (hb : ∀ i k, -1000000 ≤ gain g i k ∧ gain g i k ≤ 1000000) :
    Ct Tryd.prog 21 #[gv, .int .i64 (n : Int)] w fun u w' => u = .int .i64 (dpS (gain g) n g.length (2 ^ n - 1)) ∧ Ex w w' := by
  have hp := pow_512 hn
  have hp1 : 1 ≤ 2 ^ n := Nat.one_le_two_pow
  refine Exists.elim (show ∃ S, S = 2 ^ n from ⟨_, rfl⟩) fun S hS => ?_
  rw [← hS] at hp hp1
  have hbd := dp_bnd (G := gain g) (fun i k => (hb i k).2) n
  refine Exists.elim in_int' fun ti hti => ?_
  refine enter (N := 80) (vs := [gv, .int .i64 (n : Int)]) Tryd.func21 rfl rfl rfl ?_
  repeat (first | (refine isO ?_; first | refine s_move ?_ | refine s_assign ?_) | (refine isC ?_; refine c_sr ?_) | (refine l_th ?_))
  refine s_conv (n := n) (by kernel_rfl) Tryd.underlying63 rfl (by simp [top]; omega) ?_
  refine s_shl (m := 1) (n := n) rfl rfl (by simp [IntKind.bits]; omega) (by rw [Nat.one_mul, ← hS]; simp only [top]; omega) ?_
  refine s_re (v' := .int .i64 (S : Int)) (vint (congrArg Nat.cast (by rw [Nat.one_mul, hS]))) ?_
  refine s_make sl_ints hti.1 hti.2.1 hti.2.2.1 rfl hti.2.2.2 rfl (by omega) ?_
  intro b1 w1 hb1 hA1 hx1 hs1
  have hL1 : LI w w1 3 (sv b1 S S) (tabI S (dpS (gain g) n 0)) := li_tab hA1 (fun x => rfl) (by omega) (by omega)
  repeat (first | (refine isO ?_; refine s_assign ?_) | (refine isC ?_; first | refine c_sr ?_ | refine c_seq ?_ | refine c_block ?_) | (refine l_th ?_))
  refine c_loop2 18889465931478580839392 (fun (i : Nat) (v5 : Value) => [(6, .int .i64 (i : Int)), (5, v5)]) (fun i v5 W => i ≤ g.length ∧ Ints W v5 (tabI S (dpS (gain g) n i)) ∧ Ex w W) (fun i _ => g.length - i) 0 (sv b1 S S) ⟨rfl, rfl, trivial⟩ ⟨Nat.zero_le _, hL1.ints (by rw [tabI_len]; omega), hx1⟩ ?_
  rintro i v5 ρ W ⟨hi, hI5, hxW⟩
  have hgW := hg.ex hxW
  have hl5 := tabI_len S (dpS (gain g) n i)
  repeat (first | (refine isO ?_; first | refine s_move ?_ | (refine isBin ?_; refine s_lss rfl rfl ?_) | (refine isCall ?_; refine s_lenR sl_rows rfl (by assumption) ?_)) | (refine isC ?_; first | refine c_sr ?_ | refine c_seq ?_) | (refine l_th ?_))
  refine c_ifd rfl (fun h => ?_) (fun h => ?_)
  · have hi' : i < g.length := by omega
    have hri := hrow i hi'
    have hbi := hbd i
    repeat (first | (refine isO ?_; refine s_move ?_) | (refine isC ?_; first | refine c_sr ?_ | refine c_th ?_ | refine c_seq ?_ | refine c_block ?_))
    refine s_lapp (w0 := W) (l := []) sl_ints in_int (LI.nil _ _ _) hI5 rfl rfl (by simp [hl5]; omega) (Ex.refl _) ?_
    intro v7 w2 hL7 hx2
    rw [List.nil_append] at hL7
    refine Exists.elim (hL7.own (fun e => by rw [e] at hl5; simp at hl5; omega) (by omega)) fun b7 hb7 => Exists.elim hb7 fun c7 hb7 => ?_
    have hv7 := hb7.1
    have hO7 := hb7.2.1
    have hb7W := hb7.2.2
    rw [hl5] at hv7
    subst hv7
    repeat (first | (refine isO ?_; refine s_assign ?_) | (refine isC ?_; first | refine c_sr ?_ | refine c_seq ?_ | refine c_block ?_) | (refine l_th ?_))
    refine c_loop (γ := Nat) 9444732965739286233856 (fun set => [(8, .int .i64 (set : Int))]) (fun set W' => set ≤ S ∧ OwnI W' 3 b7 c7 (tabI S (half (dpS (gain g) n i) (dpS (gain g) n (i + 1)) set (dpS (gain g) n i set))) ∧ Ex W W') (fun set => S - set) 0 ⟨rfl, trivial⟩ ⟨Nat.zero_le _, by rw [half_zero]; exact hO7, hx2⟩ ?_
    rintro set ρ2 W2 ⟨hset, hO2, hxW2⟩
    have hI52 := hI5.ex hxW2
    repeat (first | (refine isO ?_; first | refine s_move ?_ | (refine isBin ?_; refine s_lss rfl rfl ?_) | (refine isCall ?_; refine s_lenI sl_ints rfl (by assumption) ?_)) | (refine isC ?_; first | refine c_sr ?_ | refine c_seq ?_) | (refine l_th ?_))
    refine c_ifd rfl (fun h2 => ?_) (fun h2 => ?_)
    · have hset' : set < S := by omega
      repeat (first | (refine isO ?_; refine s_assign ?_) | (refine isC ?_; first | refine c_sr ?_ | refine c_th ?_ | refine c_seq ?_ | refine c_block ?_) | (refine l_th ?_))
      refine c_loop (γ := Nat) 9444732965739021992448 (fun k => [(9, .int .i64 (k : Int))]) (fun k W' => k ≤ n ∧ OwnI W' 3 b7 c7 (tabI S (half (dpS (gain g) n i) (dpS (gain g) n (i + 1)) set (innS (gain g) i (dpS (gain g) n i) set k))) ∧ Ex W W') (fun k => n - k) 0 ⟨rfl, trivial⟩ ⟨Nat.zero_le _, hO2, hxW2⟩ ?_
      rintro k ρ3 W3 ⟨hk, hO3, hxW3⟩
      have hI53 := hI5.ex hxW3
      have hg3 := hgW.ex hxW3
      repeat (first | (refine isO ?_; first | refine s_move ?_ | (refine isBin ?_; refine s_lss rfl rfl ?_)) | (refine isC ?_; first | refine c_sr ?_ | refine c_seq ?_) | (refine l_th ?_))
      refine c_ifd rfl (fun h3 => ?_) (fun h3 => ?_)
      · have hk' : k < n := by omega
        have hkr : k < (g.getD i []).length := by omega
        have hba := bit_asked set k
        have hgk : gain g i k = (g.getD i []).getD k 0 := rfl
        have hstep : innS (gain g) i (dpS (gain g) n i) set (k + 1) = if set.testBit k = true ∧ 0 ≤ gain g i k then max' (innS (gain g) i (dpS (gain g) n i) set k) (dpS (gain g) n i (set - 2 ^ k) + gain g i k) else innS (gain g) i (dpS (gain g) n i) set k := rfl
        repeat (first | (refine isO ?_; refine s_move ?_) | (refine isC ?_; first | refine c_sr ?_ | refine c_th ?_ | refine c_seq ?_ | refine c_block ?_))
        refine s_conv (n := k) (by kernel_rfl) Tryd.underlying63 rfl (by simp [top]; omega) ?_
        refine s_shr (m := set) (n := k) rfl rfl (by simp [IntKind.bits]; omega) ?_
        refine s_and (m := set / 2 ^ k) (n := 1) rfl rfl (Nat.le_trans (Nat.div_le_self _ _) (by simp only [top]; omega)) (by simp [top]) ?_
        refine Or.elim (tf10 (set.testBit k)) (fun hbt => ?_) (fun hbt => ?_)
        · refine s_eqlT rfl rfl (hba.2 hbt) ?_
          by_cases h0 : 0 ≤ (g.getD i []).getD k 0
          · rw [if_pos ⟨hbt, by rw [hgk]; exact h0⟩] at hstep
            have hx2' := xor_two k set hbt
            have hlt3 : set - 2 ^ k < S := Nat.lt_of_le_of_lt (Nat.sub_le _ _) hset'
            have hbs := hbi (set - 2 ^ k)
            have hgi := hb i k
            have hl3 := tabI_len S (half (dpS (gain g) n i) (dpS (gain g) n (i + 1)) set (innS (gain g) i (dpS (gain g) n i) set k))
            have hget := (tabI_get (half (dpS (gain g) n i) (dpS (gain g) n (i + 1)) set (innS (gain g) i (dpS (gain g) n i) set k)) hset').trans (half_self _ _ _ _)
            have hget5 := tabI_get (dpS (gain g) n i) hlt3
            have hI7 : Ints W3 (sv b7 S c7) (tabI S (half (dpS (gain g) n i) (dpS (gain g) n (i + 1)) set (innS (gain g) i (dpS (gain g) n i) set k))) := by have h9 := hO3.ints; rw [hl3] at h9; exact h9
            have hpk := Nat.pow_le_pow_right (n := 2) (by omega) (show k ≤ 9 by omega)
            have hpk2 : 2 ^ 9 = 512 := rfl
            repeat (first | (refine isO ?_; first | refine s_move ?_ | (refine isG ?_; refine g_yes rfl rfl ?_) | (refine isBin ?_; refine s_geqT rfl rfl (by omega) ?_) | (refine isPick ?_; refine s_pickt rfl rfl ?_)) | (refine isO ?_; first | (refine s_iaI sl_ints ty_int rfl rfl (by assumption) (by omega) ?_; intro _ _) | (refine s_iaR sl_rows ty_ints (by assumption) (Ex.refl _) rfl rfl (by omega) ?_; intro _ _ _ _) | refine s_ld ty_ints rfl (by assumption) ?_ | refine s_ld ty_int rfl (by assumption) ?_) | (refine isC ?_; refine c_ift rfl ?_) | (refine l_th ?_))
            refine c_drawO (Ex.refl W3) 24 8 [(0, true), (1, true), (2, true), (3, true), (4, true), (5, true), (6, true), (7, true), (8, true), (9, true), (10, true), (11, true), (12, true), (13, true), (14, true), (15, true), (16, true), (17, true), (18, true), (19, true), (20, true), (21, true), (22, true), (23, true), (24, false)] mixed (by kernel_rfl) ?_
            refine d_move rfl ?_
            refine d_move rfl ?_
            refine d_move rfl ?_
            refine d_move rfl ?_
            refine d_iaI (n := set) rfl sl_ints ty_int rfl rfl hI7 (by omega) ?_
            intro ad1 hc1
            refine d_ld rfl ty_int rfl hc1 ?_
            refine d_re (v' := .int .i64 (innS (gain g) i (dpS (gain g) n i) set k)) (vint hget) ?_
            refine d_move rfl ?_
            refine d_move rfl ?_
            refine d_move rfl ?_
            refine d_conv (n := k) rfl (by kernel_rfl) Tryd.underlying63 rfl (by simp [top]; omega) ?_
            refine d_shl (m := 1) (n := k) rfl rfl rfl (by simp [IntKind.bits]; omega) (by simp only [top]; omega) ?_
            refine d_xor (m := set) (n := 1 * 2 ^ k) rfl rfl rfl (by simp only [top]; omega) (by simp only [top]; omega) (by rw [Nat.one_mul]; simp only [top]; omega) ?_
            refine d_re (v' := .int .i64 ((set - 2 ^ k : Nat) : Int)) (vint (by rw [Nat.one_mul]; omega)) ?_
            refine d_iaI (n := set - 2 ^ k) rfl sl_ints ty_int rfl rfl hI53 (by omega) ?_
            intro ad2 hc2
            refine d_ld rfl ty_int rfl hc2 ?_
            refine d_re (v' := .int .i64 (dpS (gain g) n i (set - 2 ^ k))) (vint hget5) ?_
            refine d_move rfl ?_
            refine d_move rfl ?_
            refine d_iaR (n := i) rfl sl_rows ty_ints rfl rfl hg3 hi' ?_
            intro ad3 row hc3 hr3
            refine d_ld rfl ty_ints rfl hc3 ?_
            refine d_move rfl ?_
            refine d_iaI (n := k) rfl sl_ints ty_int rfl rfl hr3 hkr ?_
            intro ad4 hc4
            refine d_ld rfl ty_int rfl hc4 ?_
            refine d_add rfl rfl rfl ⟨by omega, by omega⟩ ?_
            refine d_max rfl rfl rfl ?_
            refine d_re (v' := .int .i64 (innS (gain g) i (dpS (gain g) n i) set (k + 1))) (vint (by rw [hstep]; rfl)) ?_
            refine d_iaA (b := b7) (len := S) (c := c7) (n := set) rfl sl_ints ty_int rfl rfl hset' ?_
            refine d_ch rfl ?_
            refine s_stO (q := innS (gain g) i (dpS (gain g) n i) set (k + 1)) ty_int rfl rfl (hO3.ex (Ex.drew W3)) (by omega) ?_
            intro W4 hO4 hg4
            rw [tabI_set _ _ hset', half_set] at hO4
            refine l_nil ⟨rfl, .inl rfl, ?_⟩
            refine d_nil ?_
            repeat (first | (refine isO ?_; first | refine s_move ?_ | refine s_assign ?_ | (refine isBin ?_; refine s_inc rfl (by omega) ?_)) | (refine isC ?_; refine c_region ?_) | (refine l_th ?_))
            exact loop_end (k + 1) (by (repeat (first | exact agree_refl _ _ | refine agree_upd rfl ?_ | refine agree_ext rfl ?_ | refine agree_mask rfl ?_))) ⟨rfl, trivial⟩ ⟨hk', hO4, (hxW3.trans (Ex.drew W3)).store hg4 hb7W⟩ (by omega)
          · rw [if_neg (fun hh => h0 (by rw [← hgk]; exact hh.2))] at hstep
            repeat (first | (refine isO ?_; first | refine s_move ?_ | refine s_assign ?_ | (refine isG ?_; refine g_yes rfl rfl ?_) | (refine isBin ?_; first | refine s_inc rfl (by omega) ?_ | refine s_geqF rfl rfl (by omega) ?_) | (refine isPick ?_; refine s_pickt rfl rfl ?_)) | (refine isO ?_; first | (refine s_iaI sl_ints ty_int rfl rfl (by assumption) (by omega) ?_; intro _ _) | (refine s_iaR sl_rows ty_ints (by assumption) (Ex.refl _) rfl rfl (by omega) ?_; intro _ _ _ _) | refine s_ld ty_ints rfl (by assumption) ?_ | refine s_ld ty_int rfl (by assumption) ?_) | (refine isC ?_; first | refine c_region ?_ | refine c_iff rfl ?_ | refine c_skip ?_) | (refine l_th ?_))
            exact loop_end (k + 1) (by (repeat (first | exact agree_refl _ _ | refine agree_upd rfl ?_ | refine agree_ext rfl ?_ | refine agree_mask rfl ?_))) ⟨rfl, trivial⟩ ⟨hk', by rw [hstep]; exact hO3, hxW3⟩ (by omega)
        · rw [if_neg (fun hh => by rw [hbt] at hh; cases hh.1)] at hstep
          refine s_eqlF rfl rfl (fun e => by have := hba.1 e; rw [hbt] at this; cases this) ?_
          repeat (first | (refine isO ?_; first | refine s_move ?_ | refine s_assign ?_ | (refine isG ?_; refine g_no rfl rfl rfl ?_) | (refine isBin ?_; refine s_inc rfl (by omega) ?_) | (refine isPick ?_; refine s_pickf rfl rfl ?_)) | (refine isC ?_; first | refine c_region ?_ | refine c_iff rfl ?_ | refine c_skip ?_) | (refine l_th ?_))
          exact loop_end (k + 1) (by (repeat (first | exact agree_refl _ _ | refine agree_upd rfl ?_ | refine agree_ext rfl ?_ | refine agree_mask rfl ?_))) ⟨rfl, trivial⟩ ⟨hk', by rw [hstep]; exact hO3, hxW3⟩ (by omega)
      · have hkn : k = n := by omega
        rw [hkn] at hO3
        have e : innS (gain g) i (dpS (gain g) n i) set n = dpS (gain g) n (i + 1) set := rfl
        rw [e, half_next] at hO3
        repeat (first | (refine isO ?_; first | refine s_move ?_ | refine s_assign ?_ | (refine isBin ?_; refine s_inc rfl (by omega) ?_)) | (refine isC ?_; first | refine c_region ?_ | refine c_exit ?_) | (refine l_th ?_))
        exact loop_end (set + 1) (by (repeat (first | exact agree_refl _ _ | refine agree_upd rfl ?_ | refine agree_ext rfl ?_ | refine agree_mask rfl ?_))) ⟨rfl, trivial⟩ ⟨hset', hO3, hxW3⟩ (by omega)
    · have hse : set = S := by omega
      rw [hse] at hO2
      have e : tabI S (half (dpS (gain g) n i) (dpS (gain g) n (i + 1)) S (dpS (gain g) n i S)) = tabI S (dpS (gain g) n (i + 1)) := tabI_congr fun x hx => by unfold half; rw [if_pos hx]
      rw [e] at hO2
      have hL : Ints W2 (sv b7 S c7) (tabI S (dpS (gain g) n (i + 1))) := by have h9 := hO2.ints; rw [tabI_len] at h9; exact h9
      repeat (first | (refine isO ?_; first | refine s_move ?_ | refine s_assign ?_ | (refine isBin ?_; refine s_inc rfl (by omega) ?_)) | (refine isC ?_; first | refine c_region ?_ | refine c_exit ?_) | (first | refine l_th ?_ | refine l_nil ?_))
      exact loop_end2 (i + 1) (sv b7 S c7) (by (repeat (first | exact agree_refl _ _ | refine agree_upd rfl ?_ | refine agree_ext rfl ?_ | refine agree_mask rfl ?_))) ⟨rfl, rfl, trivial⟩ ⟨hi', hL, hxW.trans hxW2⟩ (by omega)
  · have hie : i = g.length := by omega
    subst hie
    have hget := tabI_get (dpS (gain g) n g.length) (show S - 1 < S by omega)
    repeat (first | (refine isO ?_; first | refine s_move ?_ | (refine isBin ?_; refine s_sub rfl rfl ⟨by omega, by omega⟩ ?_) | (refine isCall ?_; refine s_lenI sl_ints rfl (by assumption) ?_)) | (refine isC ?_; first | refine c_sr ?_ | refine c_exit ?_))
    refine s_re (v' := .int .i64 ((S - 1 : Nat) : Int)) (vint (by rw [hl5]; omega)) ?_
    refine s_ixI (n := S - 1) sl_ints ty_int rfl rfl rfl hI5 (by omega) ?_
    intro _
    refine s_re (v' := .int .i64 (dpS (gain g) n g.length (2 ^ n - 1))) (vint (by rw [hget, hS])) ?_
    repeat (first | (refine isO ?_; refine s_assign ?_) | (refine isC ?_; refine c_ret ?_) | (refine l_th ?_))
    exact ret1 rfl rfl ⟨rfl, hxW⟩
theorem Best10_bad (gv : Value) (g : List (List Int)) (n : Int) (w : World) (hg : Rows w gv g) (hc : checkG g n = false) :
    Ct Tryd.prog 7 #[gv, .int .i64 n] w fun u w' => u = .tuple #[.int .i64 0, .int .i64 1] ∧ Ex w w' := by
  refine enter (N := 13) (vs := [gv, .int .i64 n]) Tryd.func7 rfl rfl rfl ?_
  repeat (first | (refine isO ?_; first | refine s_move ?_ | refine s_assign ?_) | (refine isC ?_; first | refine c_sr ?_ | refine c_seq ?_) | (refine l_th ?_))
  refine s_call ok_Check10 rfl (Check10_ct gv g n w hg) ?_
  rintro v w1 ⟨rfl, hx1⟩
  refine s_re (v' := .bool false) (vbool hc) ?_
  repeat (first | (refine isO ?_; first | refine s_assign ?_ | refine s_not rfl ?_) | (refine isC ?_; first | refine c_sr ?_ | refine c_ift rfl ?_ | refine c_ret ?_) | (first | refine l_th ?_ | refine th_ret ?_))
  exact ret2 rfl rfl rfl ⟨rfl, hx1⟩
theorem Best10_ok (gv : Value) (g : List (List Int)) (n : Nat) (w : World) (hg : Rows w gv g) (hc : checkG g (n : Int) = true) :
    Ct Tryd.prog 7 #[gv, .int .i64 (n : Int)] w fun u w' => u = .tuple #[.int .i64 (VV g n), .int .i64 0] ∧ Ex w w' := by
  refine Exists.elim (check_good hc) fun m hm => ?_
  have hmn : n = m := by have := hm.1; omega
  subst hmn
  have h8 := hm.2.2.1
  have hG := hm.2.2.2
  have hdp := dp_VV hG.few n
  refine enter (N := 13) (vs := [gv, .int .i64 (n : Int)]) Tryd.func7 rfl rfl rfl ?_
  repeat (first | (refine isO ?_; first | refine s_move ?_ | refine s_assign ?_) | (refine isC ?_; first | refine c_sr ?_ | refine c_seq ?_) | (refine l_th ?_))
  refine s_call ok_Check10 rfl (Check10_ct gv g n w hg) ?_
  rintro v w1 ⟨rfl, hx1⟩
  refine s_re (v' := .bool true) (vbool hc) ?_
  repeat (first | (refine isO ?_; first | refine s_move ?_ | refine s_not rfl ?_) | (refine isC ?_; first | refine c_sr ?_ | refine c_th ?_ | refine c_iff rfl ?_) | (refine l_th ?_))
  refine s_call ok_best10 rfl (best10_ct gv g n w1 (hg.ex hx1) hG.few (by omega) hG.len hG.bnd) ?_
  rintro v w2 ⟨rfl, hx2⟩
  refine s_re (v' := .int .i64 (VV g n)) (vint hdp) ?_
  repeat (first | (refine isO ?_; refine s_assign ?_) | (refine isC ?_; refine c_ret ?_) | (refine l_th ?_))
  exact ret2 rfl rfl rfl ⟨rfl, hx1.trans hx2⟩
theorem Proved10_bad (gv : Value) (g : List (List Int)) (n : Int) (w : World) (hg : Rows w gv g) (hc : checkG g n = false) :
    Ct Tryd.prog 9 #[gv, .int .i64 n] w fun u w' => u = .tuple #[.slice none 0 0, .slice none 0 0, .int .i64 1] ∧ Ex w w' := by
  refine enter (N := 91) (vs := [gv, .int .i64 n]) Tryd.func9 rfl rfl rfl ?_
  repeat (first | (refine isO ?_; first | refine s_move ?_ | refine s_assign ?_) | (refine isC ?_; first | refine c_sr ?_ | refine c_seq ?_) | (refine l_th ?_))
  refine s_call ok_Check10 rfl (Check10_ct gv g n w hg) ?_
  rintro v w1 ⟨rfl, hx1⟩
  refine s_re (v' := .bool false) (vbool hc) ?_
  repeat (first | (refine isO ?_; first | refine s_assign ?_ | refine s_not rfl ?_) | (refine isC ?_; first | refine c_sr ?_ | refine c_ift rfl ?_ | refine c_ret ?_) | (first | refine l_th ?_ | refine th_ret ?_))
  exact ret3 rfl rfl rfl rfl ⟨rfl, hx1⟩
theorem addG_bnd {g : List (List Int)} {n : Nat} (hG : Good g n) (k i j : Nat) : -1000000 ≤ gain (addG k g) i j ∧ gain (addG k g) i j ≤ 1000000 := by
  by_cases hi : i < g.length
  · unfold gain
    rw [addG_row hi]
    rcases Nat.lt_trichotomy j (g.getD i []).length with h | h | h
    · rw [List.getD_eq_getElem?_getD, List.getElem?_append_left h, ← List.getD_eq_getElem?_getD]
      exact hG.bnd i j
    · rw [List.getD_eq_getElem?_getD, List.getElem?_append_right (by omega), h]
      have h9 := hG.bnd i k
      unfold gain at h9
      simpa using h9
    · rw [List.getD_eq_getElem?_getD, List.getElem?_eq_none (by rw [List.length_append, List.length_singleton]; omega)]
      simp
  · unfold gain
    have : (addG k g).getD i [] = [] := by
      rw [List.getD_eq_getElem?_getD, List.getElem?_eq_none (by rw [addG_len]; omega)]; rfl
    rw [this]; simp
theorem addG_rows {g : List (List Int)} {n : Nat} (hG : Good g n) (k : Nat) : ∀ i, i < (addG k g).length → ((addG k g).getD i []).length = n + 1 := fun i hi => by
  rw [addG_len] at hi
  rw [addG_row hi, List.length_append, hG.len i hi]; rfl
theorem addG_snoc {g : List (List Int)} {k i : Nat} (hi : i < g.length) : addG k (g.take (i + 1)) = addG k (g.take i) ++ [g.getD i [] ++ [(g.getD i []).getD k 0]] := by
  unfold addG
  rw [List.take_succ_eq_append_getElem hi, List.map_append]
  simp [List.getD_eq_getElem?_getD, hi]
theorem tabI_snoc (n : Nat) (f : Nat → Int) : tabI (n + 1) f = tabI n f ++ [f n] := by simp [tabI, List.range_succ]
set_option maxHeartbeats 4000000 in
theorem Proved10_ok (gv : Value) (g : List (List Int)) (n : Nat) (w : World) (hg : Rows w gv g) (hc : checkG g (n : Int) = true) :
    Ct Tryd.prog 9 #[gv, .int .i64 (n : Int)] w fun u w' => ∃ v8 v9, u = .tuple #[v8, v9, .int .i64 0] ∧ Ints w' v8 (uL g n) ∧ Ints w' v9 (pL g n) ∧ Ex w w' := by
  refine Exists.elim (check_good hc) fun m hm => ?_
  have hmn : n = m := by have := hm.1; omega
  subst hmn
  have h8 := hm.2.2.1
  have hG := hm.2.2.2
  have hfew := hG.few
  have hdp := dp_VV hG.few n
  refine enter (N := 91) (vs := [gv, .int .i64 (n : Int)]) Tryd.func9 rfl rfl rfl ?_
  repeat (first | (refine isO ?_; first | refine s_move ?_ | refine s_assign ?_) | (refine isC ?_; first | refine c_sr ?_ | refine c_seq ?_) | (refine l_th ?_))
  refine s_call ok_Check10 rfl (Check10_ct gv g n w hg) ?_
  rintro v w1 ⟨rfl, hx1⟩
  refine s_re (v' := .bool true) (vbool hc) ?_
  repeat (first | (refine isO ?_; first | refine s_move ?_ | refine s_not rfl ?_) | (refine isC ?_; first | refine c_sr ?_ | refine c_th ?_ | refine c_iff rfl ?_) | (refine l_th ?_))
  refine s_call ok_best10 rfl (best10_ct gv g n w1 (hg.ex hx1) hG.few (by omega) hG.len hG.bnd) ?_
  rintro v w2 ⟨rfl, hx2⟩
  have hx02 := hx1.trans hx2
  refine s_re (v' := .int .i64 (VV g n)) (vint hdp) ?_
  repeat (first | (refine isO ?_; refine s_assign ?_) | (refine isC ?_; first | refine c_sr ?_ | refine c_seq ?_ | refine c_block ?_) | (refine l_th ?_))
  refine c_loop2 1152921504598466048 (fun (k : Nat) (v9 : Value) => [(10, .int .i64 (k : Int)), (9, v9)]) (fun k v9 W => k ≤ n ∧ LI w W 3 v9 (tabI k (pk g n)) ∧ Ex w W) (fun k _ => n - k) 0 (.slice none 0 0) ⟨rfl, rfl, trivial⟩ ⟨Nat.zero_le _, LI.nil _ _ _, hx02⟩ ?_
  rintro k v9 ρ W ⟨hk, hL9, hxW⟩
  have hl9 := tabI_len k (pk g n)
  have hgW := hg.ex hxW
  repeat (first | (refine isO ?_; first | refine s_move ?_ | (refine isBin ?_; refine s_lss rfl rfl ?_)) | (refine isC ?_; first | refine c_sr ?_ | refine c_seq ?_) | (refine l_th ?_))
  refine c_ifd rfl (fun h => ?_) (fun h => ?_)
  · have hk' : k < n := by omega
    repeat (first | (refine isO ?_; refine s_assign ?_) | (refine isC ?_; first | refine c_sr ?_ | refine c_th ?_ | refine c_seq ?_ | refine c_block ?_) | (refine l_th ?_))
    refine c_loop2 2251799545255936 (fun (i : Nat) (v11 : Value) => [(12, .int .i64 (i : Int)), (11, v11)]) (fun i v11 W' => i ≤ g.length ∧ BD W W' 30 v11 (addG k (g.take i)) ∧ Ex W W') (fun i _ => g.length - i) 0 (.slice none 0 0) ⟨rfl, rfl, trivial⟩ ⟨Nat.zero_le _, BD.nil _ _ _, Ex.refl _⟩ ?_
    rintro i v11 ρ2 W2 ⟨hi, hB, hxW2⟩
    have hg2 := hg.ex (hxW.trans hxW2)
    have hla : (addG k (g.take i)).length ≤ 8 := by rw [addG_len, List.length_take]; omega
    repeat (first | (refine isO ?_; first | refine s_move ?_ | (refine isBin ?_; refine s_lss rfl rfl ?_) | (refine isCall ?_; refine s_lenR sl_rows rfl (by assumption) ?_)) | (refine isC ?_; first | refine c_sr ?_ | refine c_seq ?_) | (refine l_th ?_))
    refine c_ifd rfl (fun h2 => ?_) (fun h2 => ?_)
    · have hi' : i < g.length := by omega
      have hri := hG.len i hi'
      have hri' : (g[i]?.getD []).length = n := by rw [← List.getD_eq_getElem?_getD]; exact hri
      have hsn := addG_snoc (k := k) hi'
      have hxd := Ex.drew W2
      repeat ((refine isC ?_; first | refine c_th ?_ | refine c_seq ?_ | refine c_block ?_))
      refine c_drawF hxW2 18 8 [(0, true), (1, true), (2, true), (3, true), (4, true), (6, true), (7, true), (8, true), (9, true), (10, true), (11, true), (12, true)] 5 [(13, false), (14, false), (15, false), (16, false), (17, true)] 13 [(5, false), (14, false), (15, false), (16, false), (17, true)] mixed (by kernel_rfl) ?_
      refine d_move rfl ?_
      refine d_move rfl ?_
      refine d_move rfl ?_
      refine d_iaR (n := i) rfl sl_rows ty_ints rfl rfl hgW hi' ?_
      intro ad1 row1 hc1 hr1
      refine d_ld rfl ty_ints rfl hc1 ?_
      refine d_move rfl ?_
      refine d_move rfl ?_
      refine d_iaR (n := i) rfl sl_rows ty_ints rfl rfl hgW hi' ?_
      intro ad2 row2 hc2 hr2
      refine d_ld rfl ty_ints rfl hc2 ?_
      refine d_move rfl ?_
      refine d_iaI (n := k) rfl sl_ints ty_int rfl rfl hr2 (by omega) ?_
      intro ad3 hc3
      refine d_ld rfl ty_int rfl hc3 ?_
      refine d_fork ?_ ?_
      · refine d_ch rfl ?_
        refine s_lapp (w0 := W2) (l := []) sl_ints in_int (LI.nil _ _ _) (hr1.ex (hxW2.trans hxd)) rfl rfl (by simp [hri']; omega) hxd ?_
        intro v39 w5 hL5 hx5
        rw [List.nil_append] at hL5
        refine l_nil ⟨rfl, .inr (hxW2.trans hx5), ?_⟩
        refine d_ch rfl ?_
        refine s_bs1 sl_ints in_int rfl rfl ?_
        intro b6 w6 hb6 hA6 hx56 hs6
        have hx06 := hx5.trans hx56
        refine l_nil ⟨rfl, .inr (hxW2.trans hx06), ?_⟩
        refine d_ch rfl ?_
        refine s_lapp (w0 := W2) (l := g.getD i []) sl_ints in_int (hL5.ex hx56) hA6.one rfl rfl (by simp [hri']; omega) hx06 ?_
        intro v48 w7 hL7 hx7
        refine l_nil ⟨rfl, .inr (hxW2.trans hx7), ?_⟩
        refine d_ch rfl ?_
        refine s_bs1 sl_rows in_ints rfl hL7.one ?_
        intro b8 w8 hb8 hA8 hx8 hs8
        have hx08 := hx7.trans hx8
        refine l_nil ⟨rfl, .inr (hxW2.trans hx08), ?_⟩
        have hI8 := (hL7.ex hx8).ints (by simp [hri']; omega)
        refine d_ch rfl ?_
        refine s_bapp sl_rows in_ints hB hxW2 hx08 hA8 hI8 (hI8.fresh hL7.2 hB) rfl rfl (by omega) ?_
        intro v' w9 hB9 hx9
        rw [← hsn] at hB9
        refine l_nil ⟨rfl, .inr hx9, ?_⟩
        refine d_assign rfl ?_
        refine d_nil ?_
        repeat (first | (refine isO ?_; first | refine s_move ?_ | refine s_assign ?_ | (refine isBin ?_; refine s_inc rfl (by omega) ?_)) | (refine isC ?_; refine c_region ?_) | (refine l_th ?_))
        exact loop_end2 (i + 1) v' (by (repeat (first | exact agree_refl _ _ | refine agree_upd rfl ?_ | refine agree_ext rfl ?_ | refine agree_mask rfl ?_))) ⟨rfl, rfl, trivial⟩ ⟨hi', hB9, hx9⟩ (by omega)
      · refine d_ch rfl ?_
        refine s_bs1 sl_ints in_int rfl rfl ?_
        intro b6 w5 hb6 hA65 hx5 hs6
        have hx05 := hxd.trans hx5
        refine l_nil ⟨rfl, .inr (hxW2.trans hx05), ?_⟩
        refine d_ch rfl ?_
        refine s_app (vs := []) (news := (g.getD i []).map (Value.int .i64)) sl_ints in_int (Rw.nil _ _) (hr1.ex (hxW2.trans hx05)).sl rfl rfl (map_one _) (by simp [hri']; omega) ?_
        intro v39 w6 hR6 hg6 hf6
        have hx56 : Ex w5 w6 := Ex.of_grown hg6
        have hx06 := hx05.trans hx56
        have hA66 := hA65.ex hx56
        have hL6 : LI W2 w6 3 v39 (g.getD i []) := ⟨by simpa using hR6, fun b hb => by
          have z := hx05.size
          rcases hf6 with e | hf
          · rw [e] at hb; cases hb
          · have := hf b hb; omega⟩
        refine l_nil ⟨rfl, .inr (hxW2.trans hx06), ?_⟩
        refine d_ch rfl ?_
        refine s_lapp (w0 := W2) (l := g.getD i []) sl_ints in_int hL6 hA66.one rfl rfl (by simp [hri']; omega) hx06 ?_
        intro v48 w7 hL7 hx7
        refine l_nil ⟨rfl, .inr (hxW2.trans hx7), ?_⟩
        refine d_ch rfl ?_
        refine s_bs1 sl_rows in_ints rfl hL7.one ?_
        intro b8 w8 hb8 hA8 hx8 hs8
        have hx08 := hx7.trans hx8
        refine l_nil ⟨rfl, .inr (hxW2.trans hx08), ?_⟩
        have hI8 := (hL7.ex hx8).ints (by simp [hri']; omega)
        refine d_ch rfl ?_
        refine s_bapp sl_rows in_ints hB hxW2 hx08 hA8 hI8 (hI8.fresh hL7.2 hB) rfl rfl (by omega) ?_
        intro v' w9 hB9 hx9
        rw [← hsn] at hB9
        refine l_nil ⟨rfl, .inr hx9, ?_⟩
        refine d_assign rfl ?_
        refine d_nil ?_
        repeat (first | (refine isO ?_; first | refine s_move ?_ | refine s_assign ?_ | (refine isBin ?_; refine s_inc rfl (by omega) ?_)) | (refine isC ?_; refine c_region ?_) | (refine l_th ?_))
        exact loop_end2 (i + 1) v' (by (repeat (first | exact agree_refl _ _ | refine agree_upd rfl ?_ | refine agree_ext rfl ?_ | refine agree_mask rfl ?_))) ⟨rfl, rfl, trivial⟩ ⟨hi', hB9, hx9⟩ (by omega)
    · have hie : i = g.length := by omega
      subst hie
      rw [List.take_length] at hB hla
      have hww := dp_WW (k := k) hfew hG.len
      have hal := addG_len k g
      have hb1 := bestF_bnd hG (List.range n ++ [k])
      have hb2 := bestF_bnd hG (List.range n)
      have hl1 : (List.range n ++ [k]).length = n + 1 := by simp
      have hl2 : (List.range n).length = n := by simp
      rw [hl1] at hb1
      rw [hl2] at hb2
      have hvv : VV g n = bestF g (List.range n) := rfl
      have hpk : pk g n k = bestF g (List.range n ++ [k]) - VV g n := rfl
      have hsn := tabI_snoc k (pk g n)
      repeat (first | (refine isO ?_; first | refine s_move ?_ | (refine isBin ?_; refine s_inc rfl (by omega) ?_)) | (refine isC ?_; first | refine c_region ?_ | refine c_exit ?_))
      refine s_re (v' := .int .i64 ((n + 1 : Nat) : Int)) (vint rfl) ?_
      refine s_call ok_best10 rfl (best10_ct v11 (addG k g) (n + 1) W2 (hB.rows (by omega)) (by omega) (by omega) (addG_rows hG k) (addG_bnd hG k)) ?_
      rintro u w4 ⟨rfl, hx4⟩
      refine s_re (v' := .int .i64 (bestF g (List.range n ++ [k]))) (vint (by rw [hal]; exact hww)) ?_
      repeat ((refine isO ?_; first | refine s_move ?_ | (refine isBin ?_; refine s_sub rfl rfl ⟨by omega, by omega⟩ ?_)))
      refine s_re (v' := .int .i64 (pk g n k)) (vint rfl) ?_
      refine s_li sl_ints in_int rfl (hL9.ex (hxW2.trans hx4)) rfl rfl (fun _ => rfl) (by omega) (hxW.trans (hxW2.trans hx4)) ?_
      intro v' w5 sl' hL5 hx5
      rw [← hsn] at hL5
      repeat (first | (refine isO ?_; first | refine s_move ?_ | refine s_assign ?_ | (refine isBin ?_; refine s_inc rfl (by omega) ?_)) | (refine isC ?_; refine c_region ?_) | (first | refine l_th ?_ | refine l_nil ?_))
      exact loop_end2 (k + 1) v' (by (repeat (first | exact agree_refl _ _ | refine agree_upd rfl ?_ | refine agree_ext rfl ?_ | refine agree_mask rfl ?_))) ⟨rfl, rfl, trivial⟩ ⟨hk', hL5, hx5⟩ (by omega)
  · have hkn : k = n := by omega
    subst hkn
    have hI9 : Ints W v9 (tabI k (pk g k)) := hL9.ints (by omega)
    repeat (first | (refine isO ?_; refine s_assign ?_) | (refine isC ?_; first | refine c_sr ?_ | refine c_seq ?_ | refine c_block ?_ | refine c_exit ?_) | (refine l_th ?_))
    refine c_loop2 618970018489768632842772736 (fun (i : Nat) (v8 : Value) => [(13, .int .i64 (i : Int)), (8, v8)]) (fun i v8 W' => i ≤ g.length ∧ LI W W' 3 v8 (tabI i (fun i => uu g k i k)) ∧ Ex W W') (fun i _ => g.length - i) 0 (.slice none 0 0) ⟨rfl, rfl, trivial⟩ ⟨Nat.zero_le _, LI.nil _ _ _, Ex.refl _⟩ ?_
    rintro i v8 ρ2 W2 ⟨hi, hL8, hxW2⟩
    have hl8 := tabI_len i (fun i => uu g k i k)
    have hg2 := hg.ex (hxW.trans hxW2)
    repeat (first | (refine isO ?_; first | refine s_move ?_ | (refine isBin ?_; refine s_lss rfl rfl ?_) | (refine isCall ?_; refine s_lenR sl_rows rfl (by assumption) ?_)) | (refine isC ?_; first | refine c_sr ?_ | refine c_seq ?_) | (refine l_th ?_))
    refine c_ifd rfl (fun h2 => ?_) (fun h2 => ?_)
    · have hi' : i < g.length := by omega
      have hri := hG.len i hi'
      repeat (first | (refine isO ?_; refine s_assign ?_) | (refine isC ?_; first | refine c_sr ?_ | refine c_th ?_ | refine c_seq ?_ | refine c_block ?_) | (refine l_th ?_))
      refine c_loop (γ := Nat) 38685552440691838752440320 (fun j => [(15, .int .i64 (j : Int)), (14, .int .i64 (uu g k i j))]) (fun j W' => j ≤ k ∧ Ex W2 W') (fun j => k - j) 0 ⟨rfl, vint rfl, trivial⟩ ⟨Nat.zero_le _, Ex.refl _⟩ ?_
      rintro j ρ3 W3 ⟨hj, hx3⟩
      have hg3 := hg2.ex hx3
      have hI93 := hI9.ex (hxW2.trans hx3)
      repeat (first | (refine isO ?_; first | refine s_move ?_ | (refine isBin ?_; refine s_lss rfl rfl ?_)) | (refine isC ?_; first | refine c_sr ?_ | refine c_seq ?_) | (refine l_th ?_))
      refine c_ifd rfl (fun h3 => ?_) (fun h3 => ?_)
      · have hj' : j < k := by omega
        have hget := tabI_get (pk g k) hj'
        have hpb := pk_bnd hG j
        have hgb := hG.bnd i j
        have hgg : gain g i j = (g.getD i []).getD j 0 := rfl
        repeat ((refine isC ?_; first | refine c_th ?_ | refine c_seq ?_ | refine c_block ?_))
        refine c_drawO (Ex.refl W3) 15 8 [(0, true), (1, true), (2, true), (3, true), (4, true), (5, true), (6, true), (7, true), (8, true), (9, true), (10, true), (11, true), (12, true), (13, true), (14, true)] mixed (by kernel_rfl) ?_
        refine d_move rfl ?_
        refine d_move rfl ?_
        refine d_move rfl ?_
        refine d_iaR (n := i) rfl sl_rows ty_ints rfl rfl hg3 hi' ?_
        intro ad1 row1 hc1 hr1
        refine d_ld rfl ty_ints rfl hc1 ?_
        refine d_move rfl ?_
        refine d_iaI (n := j) rfl sl_ints ty_int rfl rfl hr1 (by omega) ?_
        intro ad2 hc2
        refine d_ld rfl ty_int rfl hc2 ?_
        refine d_move rfl ?_
        refine d_move rfl ?_
        refine d_iaI (n := j) rfl sl_ints ty_int rfl rfl hI93 (by omega) ?_
        intro ad3 hc3
        refine d_ld rfl ty_int rfl hc3 ?_
        refine d_re (v' := .int .i64 (pk g k j)) (vint hget) ?_
        refine d_sub rfl rfl rfl ⟨by omega, by omega⟩ ?_
        refine d_max rfl rfl rfl ?_
        refine d_assign rfl ?_
        refine d_nil ?_
        repeat (first | (refine isO ?_; first | refine s_move ?_ | refine s_assign ?_ | (refine isBin ?_; refine s_inc rfl (by omega) ?_)) | (refine isC ?_; refine c_region ?_) | (refine l_th ?_))
        exact loop_end (j + 1) (by (repeat (first | exact agree_refl _ _ | refine agree_upd rfl ?_ | refine agree_ext rfl ?_ | refine agree_mask rfl ?_))) ⟨rfl, vint rfl, trivial⟩ ⟨hj', hx3.trans (Ex.drew W3)⟩ (by omega)
      · have hje : j = k := by omega
        subst hje
        have hsn := tabI_snoc i (fun i => uu g j i j)
        repeat (first | (refine isO ?_; refine s_move ?_) | (refine isC ?_; first | refine c_region ?_ | refine c_exit ?_))
        refine s_li sl_ints in_int rfl (hL8.ex hx3) rfl rfl (fun _ => rfl) (by omega) (hxW2.trans hx3) ?_
        intro v' w5 sl' hL5 hx5
        rw [← hsn] at hL5
        repeat (first | (refine isO ?_; first | refine s_move ?_ | refine s_assign ?_ | (refine isBin ?_; refine s_inc rfl (by omega) ?_)) | (refine isC ?_; refine c_region ?_) | (first | refine l_th ?_ | refine l_nil ?_))
        exact loop_end2 (i + 1) v' (by (repeat (first | exact agree_refl _ _ | refine agree_upd rfl ?_ | refine agree_ext rfl ?_ | refine agree_mask rfl ?_))) ⟨rfl, rfl, trivial⟩ ⟨hi', hL5, hx5⟩ (by omega)
    · have hie : i = g.length := by omega
      subst hie
      repeat (first | (refine isO ?_; first | refine s_move ?_ | refine s_assign ?_) | (refine isC ?_; first | refine c_sr ?_ | refine c_ret ?_ | refine c_exit ?_) | (refine l_th ?_))
      exact ret3 rfl rfl rfl rfl ⟨v8, v9, rfl, hL8.ints (by omega), hI9.ex hxW2, hxW.trans hxW2⟩
end Go.Proofs.YtifbgpkjbciblaaDoor.Sal
end
section
/- Core17: slices of a call's own with room, of elements of any size. -/
set_option maxRecDepth 100000
namespace Go.Proofs.YtifbgpkjbciblaaDoor.Sal
set_option linter.all false
open Go.RowKit
/-- A slice over a block of the call's own: what it holds; room up to its capacity, perhaps more behind. -/
def Wd (w : World) (E : TypeId) (s : Nat) (v : Value) (n : Nat) (xs : List Value) : Prop :=
  xs.length = n * s ∧ ((v = .slice none 0 0 ∧ n = 0) ∨ ∃ b c sp, v = .slice (some ⟨b, 0, none⟩) n c ∧ At w b E (xs ++ sp) ∧ n ≤ c ∧ c ≤ 9223372036854775807 ∧ c * s ≤ (xs ++ sp).length)
theorem Wd.nil (w : World) (E : TypeId) (s : Nat) : Wd w E s (.slice none 0 0) 0 [] := ⟨by simp, .inl ⟨rfl, rfl⟩⟩
theorem Wd.kept {w w' : World} {E : TypeId} {s n : Nat} {v : Value} {xs : List Value} (h : Wd w E s v n xs) (hk : ∀ b, v.ownBlock = some b → b < w.heap.size → w'.heap[b]? = w.heap[b]?) : Wd w' E s v n xs := by
  obtain ⟨h1, h2⟩ := h
  rcases h2 with h2 | ⟨b, c, sp, hv, hA, h3⟩
  · exact ⟨h1, .inl h2⟩
  · exact ⟨h1, .inr ⟨b, c, sp, hv, (hk b (by rw [hv]; rfl) hA.lt).trans hA, h3⟩⟩
theorem Wd.ex {w w' : World} {E : TypeId} {s n : Nat} {v : Value} {xs : List Value} (h : Wd w E s v n xs) (hx : Ex w w') : Wd w' E s v n xs := h.kept fun b _ hb => hx.block b hb
theorem Wd.grown {w w' : World} {E : TypeId} {s n : Nat} {v : Value} {xs : List Value} {o : Option Nat} (h : Wd w E s v n xs) (hg : w.grownBy w' o) (hne : ∀ b, v.ownBlock = some b → o ≠ some b) : Wd w' E s v n xs := h.kept fun b hb hl => hg.block b hl (fun e => hne b hb e.symm)
theorem Wd.lt {w : World} {E : TypeId} {s n : Nat} {v : Value} {xs : List Value} (h : Wd w E s v n xs) : ∀ b, v.ownBlock = some b → b < w.heap.size := fun b hb => by
  rcases h.2 with ⟨rfl, _⟩ | ⟨b', c, sp, rfl, hA, _⟩
  · cases hb
  · cases hb; exact hA.lt
theorem Wd.slen {w : World} {E : TypeId} {s n : Nat} {v : Value} {xs : List Value} (h : Wd w E s v n xs) : ∃ a c, v = .slice a n c := by
  rcases h.2 with ⟨rfl, rfl⟩ | ⟨b', c, sp, rfl, hA, _⟩
  · exact ⟨_, _, rfl⟩
  · exact ⟨_, _, rfl⟩
theorem Wd.one {w : World} {E : TypeId} {s n : Nat} {v : Value} {xs : List Value} (h : Wd w E s v n xs) : v.oneCell' = true := by
  obtain ⟨a, c, rfl⟩ := h.slen; rfl
theorem Wd.pos {w : World} {E : TypeId} {s n : Nat} {v : Value} {xs : List Value} (h : Wd w E s v n xs) (hn : 0 < n) : ∃ b c sp, v = .slice (some ⟨b, 0, none⟩) n c ∧ At w b E (xs ++ sp) ∧ n ≤ c ∧ c ≤ 9223372036854775807 ∧ c * s ≤ (xs ++ sp).length := by
  rcases h.2 with ⟨_, h0⟩ | h2
  · omega
  · exact h2
theorem Wd.sl {w : World} {E : TypeId} {n : Nat} {v : Value} {xs : List Value} (h : Wd w E 1 v n xs) (hm : n ≤ 140737488355328) : Sl w v xs := by
  obtain ⟨h1, h2⟩ := h
  rw [Nat.mul_one] at h1
  rcases h2 with ⟨rfl, rfl⟩ | ⟨b, c, sp, rfl, hA, hc, _⟩
  · have : xs = [] := List.eq_nil_of_length_eq_zero h1
    subst this; exact Sl.nil w
  · have := hA.sl (n := n) (c := c) (by simp; omega) hm hc
    rwa [List.take_left' h1] at this
/-- The head of one. -/
theorem Wd.head {w : World} {E : TypeId} {n k c : Nat} {a : Option Addr} {ys : List Value} (h : Wd w E 1 (.slice a (n + k) c) (n + k) ys) : Wd w E 1 (.slice a n c) n (ys.take n) := by
  obtain ⟨h1, h2⟩ := h
  refine ⟨by rw [List.length_take, h1]; omega, ?_⟩
  rcases h2 with ⟨h3, h4⟩ | ⟨b, c', sp, h3, hA, h4, h5, h6⟩
  · left
    have e : n = 0 := by omega
    have e2 : k = 0 := by omega
    subst e; subst e2
    exact ⟨h3, rfl⟩
  · right
    cases h3
    refine ⟨b, c, ys.drop n ++ sp, rfl, ?_, by omega, h5, ?_⟩
    · rw [← List.append_assoc, List.take_append_drop]; exact hA
    · simp only [List.length_append, List.length_take, List.length_drop] at h6 ⊢; omega
/-- Another cell. -/
theorem Wd.set {w w' : World} {E : TypeId} {s n k : Nat} {b c : Nat} {xs sp : List Value} {u : Value} (h1 : xs.length = n * s) (hk : k < xs.length) (hA : At w' b E ((xs ++ sp).set k u)) (hc : n ≤ c) (hm : c ≤ 9223372036854775807) (hs : c * s ≤ (xs ++ sp).length) : Wd w' E s (.slice (some ⟨b, 0, none⟩) n c) n (xs.set k u) := by
  refine ⟨by rw [List.length_set]; exact h1, .inr ⟨b, c, sp, rfl, ?_, hc, hm, by simpa using hs⟩⟩
  rw [List.set_append_left _ _ hk] at hA
  exact hA
section runs
variable {P : Program} {w : World}
/-- append(s, x...) to a slice of the call's own. -/
theorem run_appW {T E : TypeId} {ti : TypeInfo} {z v xv : Value} {n m s : Nat} {xs news : List Value} {ty : TypeId} (hT : SlT P T E) (hi : P.info? E = some ti) (hz : ti.zero = some z) (hs : ti.size = s) (hzc : z.cells.size = s) (hs1 : 0 < s)
    (hv : Wd w E s v n xs) (hx : ∃ b c, xv = .slice (some ⟨b, 0, none⟩) m c ∧ ∃ sp, At w b E (news ++ sp)) (hl : news.length = m * s) (hm0 : 0 < m) (h1 : ∀ u ∈ news, u.oneCell' = true) (hm : n + m ≤ 140737488355328) (hbytes : (n + m) * ti.bytes ≤ 140737488355328) :
    ∃ v' w', (Builtin.append_ #[T, T] ty #[v, xv]).run P w = .ok v' w' ∧ Wd w' E s v' (n + m) (xs ++ news) ∧ w.grownBy w' v.ownBlock ∧ ((∃ a c, v = .slice a n c ∧ v' = .slice a (n + m) c) ∨ ((∀ b, v'.ownBlock = some b → w.heap.size ≤ b) ∧ Ex w w')) := by
  have hT' : P.underlying T = some (.slice E) := hT
  subst hs
  obtain ⟨xb, xc, rfl, xsp, hxA⟩ := hx
  have hnews : ∀ (j : Nat) (u : Value), news[j]? = some u → w.cell? ((⟨xb, 0, none⟩ : Addr).add j) = some u := fun j u hj => by
    rw [add_at, Nat.zero_add, hxA.cell, List.getElem?_append_left (List.getElem?_eq_some_iff.1 hj).1]; exact hj
  have hsrc : Src P ti.size T (.slice (some ⟨xb, 0, none⟩) m xc) m news w := Src.ofSlice w hT' ⟨xb, 0, none⟩ m xc news hl hnews h1
  have hxl := hv.1
  have grow : ∀ (base : Option Addr) (cap : Nat), v = .slice base n cap → (Builtin.firstCells ti.size n (.slice base n cap)).run P w.drew = .ok xs.toArray w.drew → cap < n + m →
      ∃ v' w', (Builtin.append_ #[T, T] ty #[v, .slice (some ⟨xb, 0, none⟩) m xc]).run P w = .ok v' w' ∧ Wd w' E ti.size v' (n + m) (xs ++ news) ∧ w.grownBy w' v.ownBlock ∧ ((∃ a c, v = .slice a n c ∧ v' = .slice a (n + m) c) ∨ ((∀ b, v'.ownBlock = some b → w.heap.size ≤ b) ∧ Ex w w')) := by
    intro base cap hvf hold hcap
    have hr := run_append_grow_src (P := P) w T T ty E ti z hT' hi hz base n cap xs hold (.slice (some ⟨xb, 0, none⟩) m xc) m news hsrc hcap (by omega) (growslice_fits hcap hbytes)
    have hge := grownCap_ge w (n + m) cap E
    have hcm := grownCap_le_maxLen w (n + m) cap E (by simp only [maxLen]; omega)
    rw [← hvf] at hr
    have hgr : ∀ o, w.grownBy (w.drew.alloc o) v.ownBlock := fun o => ⟨rfl, rfl, rfl, by simp, fun k hk _ => heap_alloc_old w.drew o hk⟩
    refine ⟨_, _, hr, ⟨by rw [List.length_append, hxl, hl, Nat.add_mul], .inr ⟨w.heap.size, _, (Builtin.zeroCells z.cells (grownCap w (n + m) cap E - (n + m))).toList, rfl, ?_, hge, by simpa [maxLen] using hcm, ?_⟩⟩, hgr _, .inr ⟨fun b hb => ?_, ⟨rfl, rfl, rfl, by simp, fun k hk => heap_alloc_old w.drew _ hk⟩⟩⟩
    · have h9 := at_new w.drew ((xs ++ news) ++ (Builtin.zeroCells z.cells (grownCap w (n + m) cap E - (n + m))).toList) E
      have e : ((xs ++ news) ++ (Builtin.zeroCells z.cells (grownCap w (n + m) cap E - (n + m))).toList).toArray = (xs ++ news).toArray ++ Builtin.zeroCells z.cells (grownCap w (n + m) cap E - (n + m)) := by
        apply Array.ext'
        simp
      rw [e] at h9
      exact h9
    · rw [List.length_append, List.length_append, hxl, hl]
      have e : (Builtin.zeroCells z.cells (grownCap w (n + m) cap E - (n + m))).toList.length = (grownCap w (n + m) cap E - (n + m)) * ti.size := by
        simp [size_zeroCells, hzc]
      rw [e, ← Nat.add_mul, ← Nat.add_mul]
      exact Nat.mul_le_mul_right _ (by omega)
    · rw [ownBlock_slice] at hb; cases hb; exact Nat.le_refl _
  rcases hv.2 with ⟨hvf, h0⟩ | ⟨b, cap, sp, hvf, hA, hc, hcm, hcs⟩
  · subst h0
    have : xs = [] := List.eq_nil_of_length_eq_zero (by rw [hxl]; simp)
    subst this
    exact grow none 0 hvf (by simp [Builtin.firstCells]) (by omega)
  · by_cases hroom : n + m ≤ cap
    · have hfit : n * ti.size + news.length ≤ (xs ++ sp).toArray.size := by
        rw [hl, ← Nat.add_mul]
        have := Nat.mul_le_mul_right ti.size hroom
        simp only [List.size_toArray]; omega
      have hr := run_append_room (P := P) w T ty E ti hT' hi b n cap (xs ++ sp).toArray hA ⟨xb, 0, none⟩ m xc news hl hnews h1 hroom hfit
      subst hvf
      refine ⟨_, _, hr, ⟨by rw [List.length_append, hxl, hl, Nat.add_mul], .inr ⟨b, cap, sp.drop news.length, rfl, ?_, hroom, hcm, ?_⟩⟩, ⟨rfl, rfl, rfl, by simp, fun k _ hk => setRow_other w b k _ (fun e => hk (by rw [e]; rfl))⟩, .inl ⟨_, _, rfl, rfl⟩⟩
      · have := setRow_heap w b (xs ++ sp).toArray ((xs ++ sp).take (n * ti.size) ++ news ++ (xs ++ sp).drop (n * ti.size + news.length)).toArray E (0, 0) hA
        have e1 : (xs ++ sp).take (n * ti.size) = xs := List.take_left' hxl
        have e2 : (xs ++ sp).drop (n * ti.size + news.length) = sp.drop news.length := by rw [← hxl, List.drop_append]; simp
        rw [e1, e2] at this
        unfold At
        simpa [e1, e2] using this
      · simp only [List.size_toArray, List.length_append] at hfit hcs
        simp only [List.length_append, List.length_drop]
        omega
    · refine grow (some ⟨b, 0, none⟩) cap hvf ?_ (by omega)
      refine run_firstCells_some w.drew ti.size n ⟨b, 0, none⟩ n cap xs (by rw [hxl]) (fun j u hj => ?_)
      have : w.cell? ⟨b, j, none⟩ = some u := by
        rw [hA.cell, List.getElem?_append_left (List.getElem?_eq_some_iff.1 hj).1]; exact hj
      rw [add_at, Nat.zero_add]
      exact this
end runs
end Go.Proofs.YtifbgpkjbciblaaDoor.Sal
end
section
/- Core18: slices of structs; a struct read out of the middle of a block. -/
set_option maxRecDepth 100000
namespace Go.Proofs.YtifbgpkjbciblaaDoor.Sal
set_option linter.all false
open Go.RowKit
def SzN (P : Program) (E : TypeId) (s : Nat) : Prop := ∃ i, P.info? E = some i ∧ i.size = s
theorem run_sizeOfS {P : Program} {E : TypeId} {s : Nat} (h : SzN P E s) (w : World) : (sizeOf E).run P w = .ok s w := by
  obtain ⟨i, hi, hs⟩ := h
  simp [sizeOf, typeInfo, hi, hs]
/-- What a type of a slice's elements is. -/
structure InfoW (P : Program) (E : TypeId) (s : Nat) (z : Value) (B : Nat) : Prop where
  ex : ∃ ti, P.info? E = some ti ∧ ti.zero = some z ∧ ti.size = s ∧ ti.bytes ≤ B
  cs : z.cells.size = s
section ops
variable {r : Option Nat} {P : Program} {ops : Array Oper} {Q : Exit → Act → World → Prop} {N : Nat} {σ : Nat → Value} {ds : List Deferred} {w : World} {rest : List Oper}
variable {d d1 d2 : Nat} {ty ty2 : TypeId} {pos pos2 : String} {after after2 : Array Edge} {T E T' : TypeId} {x i y : Operand}
theorem s_bsV3 {a b c z0 z1 z2 : Value} {op1 : Operand} {B : Nat} (hT : SlT P T E) (hi : InfoW P E 3 (.agg #[z0, z1, z2]) B) (h1 : ev N σ op1 = .agg #[a, b, c])
    (h : ∀ bb w', bb = w.heap.size → At w' bb E [a, b, c] → Ex w w' → w'.heap.size = bb + 1 → WL r P ops Q rest (mk N (upd σ d (.slice (some ⟨bb, 0, none⟩) 1 1)) ds) w') :
    WL r P ops Q (⟨some d, .buildSlice T 1 #[(0, op1)], ty, pos, after, none⟩ :: rest) (mk N σ ds) w := by
  obtain ⟨ti, h1i, h2i, h3i, h4i⟩ := hi.ex
  have hT' : P.underlying T = some (.slice E) := hT
  have hc1 : (Value.agg #[a, b, c]).cells = #[a, b, c] := rfl
  have hc2 : (Value.agg #[z0, z1, z2]).cells = #[z0, z1, z2] := rfl
  refine l_val (v := .slice (some ⟨w.heap.size, 0, none⟩) 1 1) (w' := w.alloc (.cells [a, b, c].toArray E)) (by intro c e; cases e) ?_ (h _ _ rfl (at_new w _ E) (Ex.alloc w _) (size_new w _))
  simp [execOp, Instr.buildSlice, run_underlying hT', sizeOf, typeInfo, h1i, h2i, h3i, zeroValue, Instr.fill, h1, hc1, hc2, newRow, Array.range_succ, Array.range_zero', Array.zipIdx]
theorem s_appW {z v xv : Value} {n m s B : Nat} {xs news : List Value} (hT : SlT P T E) (hi : InfoW P E s z B) (hs : 0 < s) (hR : Wd w E s v n xs) (hx : ∃ b c, xv = .slice (some ⟨b, 0, none⟩) m c ∧ ∃ sp, At w b E (news ++ sp)) (hl : news.length = m * s) (hm0 : 0 < m) (h1 : ∀ u ∈ news, u.oneCell' = true) (hm : n + m ≤ 140737488355328) (hbytes : (n + m) * B ≤ 140737488355328)
    (hv : ev N σ x = v) (hxv : ev N σ y = xv)
    (h : ∀ v' w', Wd w' E s v' (n + m) (xs ++ news) → w.grownBy w' v.ownBlock → ((∃ a c, v = .slice a n c ∧ v' = .slice a (n + m) c) ∨ ((∀ b, v'.ownBlock = some b → w.heap.size ≤ b) ∧ Ex w w')) → WL r P ops Q rest (mk N (upd σ d v') ds) w') :
    WL r P ops Q (⟨some d, .call { callee := .builtin .append, args := #[x, y], argTypes := #[T, T] }, ty, pos, after, none⟩ :: rest) (mk N σ ds) w := by
  obtain ⟨ti, h1i, h2i, h3i, h4i⟩ := hi.ex
  obtain ⟨v', w', hr, a1, a2, a3⟩ := run_appW (ty := ty) hT h1i h2i h3i hi.cs hs hR hx hl hm0 h1 hm (Nat.le_trans (Nat.mul_le_mul_left _ h4i) hbytes)
  refine l_val (by intro c e; cases e) ?_ (h v' w' a1 a2 a3)
  simp [execOp, resolve, invoke, builtin, hv, hxv, hr, Result.andThen]
theorem s_iaW {b len c s : Nat} {k : IntKind} {n : Nat} (hT : SlT P T E) (hE : SzN P E s) (hx : ev N σ x = .slice (some ⟨b, 0, none⟩) len c) (hi : ev N σ i = .int k (n : Int)) (hn : n < len)
    (h : WL r P ops Q rest (mk N (upd σ d (.pointer (some ⟨b, n * s, none⟩))) ds) w) : WL r P ops Q (⟨some d, .indexAddr T x i, ty, pos, after, none⟩ :: rest) (mk N σ ds) w := by
  refine l_val (v := .pointer (some ⟨b, n * s, none⟩)) (by intro c e; cases e) ?_ h
  have hT' : P.underlying T = some (.slice E) := hT
  simp [execOp, hx, hi, Instr.indexAt, asIntOf, run_underlying hT', hn, run_sizeOfS hE, go_sem, add_at]
theorem s_ldM {b o : Nat} {B : TypeId} {cs all : List Value} {dd : TypeDesc} (hu : P.underlying E = some dd) (hd : dd.isRow = true) (hsz : (P.info? E).map (·.size) = some cs.length)
    (hx : ev N σ x = .pointer (some ⟨b, o, none⟩)) (hA : At w b B all) (hc : ∀ j v, cs[j]? = some v → all[o + j]? = some v) (h : WL r P ops Q rest (mk N (upd σ d (.agg cs.toArray)) ds) w) :
    WL r P ops Q (⟨some d, .load E x, ty, pos, after, none⟩ :: rest) (mk N σ ds) w :=
  l_val (by intro c e; cases e) (by
    simp [execOp, hx, Instr.loadAt, Instr.sureAddr, run_loadVar_mid (P := P) w b o E cs dd (fun j v hj => by rw [hA.cell]; exact hc j v hj) hu hd hsz]) h
theorem s_bldW {parts : List (Nat × Operand)} {cells : List Value} (h : P.built T (parts.map fun p => (p.1, ev N σ p.2)) = some cells.toArray) (hK : WL r P ops Q rest (mk N (upd σ d (.agg cells.toArray)) ds) w) :
    WL r P ops Q (⟨some d, .build T parts.toArray, ty, pos, after, none⟩ :: rest) (mk N σ ds) w :=
  l_val (by intro c e; cases e) (by
    have := run_build (P := P) w T (parts.map fun p => (p.1, ev N σ p.2)).toArray cells.toArray h
    simp [execOp, this]) hK
theorem s_neg {k : IntKind} {a : Int} {t : TypeId} (hx : ev N σ x = .int k a) (h : WL r P ops Q rest (mk N (upd σ d (.int k (k.wrap (-a)))) ds) w) : WL r P ops Q (⟨some d, .unOp .neg t x, ty, pos, after, none⟩ :: rest) (mk N σ ds) w :=
  l_val (by intro c e; cases e) (by simp [execOp, hx, go_sem]) h
theorem s_cap {a : Option Addr} {n c : Nat} (hT : SlT P T E) (hx : ev N σ x = .slice a n c) (h : WL r P ops Q rest (mk N (upd σ d (.int .i64 (c : Int))) ds) w) :
    WL r P ops Q (⟨some d, .call { callee := .builtin .cap, args := #[x], argTypes := #[T] }, ty, pos, after, none⟩ :: rest) (mk N σ ds) w := by
  have hT' : P.underlying T = some (.slice E) := hT
  exact l_val (by intro c e; cases e) (by simp [execOp, resolve, invoke, builtin, hx, go_sem, Result.andThen, Builtin.cap_, run_underlying hT', Sem.run_bind]) h
end ops
end Go.Proofs.YtifbgpkjbciblaaDoor.Sal
end
section
/- The Book of salesroomlaw01: what lies where; keep. -/
set_option maxRecDepth 100000
namespace Go.Proofs.YtifbgpkjbciblaaDoor.Sal
open Go.RowKit
set_option linter.all false
/-! ### What turns, but for some blocks -/
structure KtS (S : Nat → Prop) (w w' : World) : Prop where
  os : w'.os = w.os
  tape : w'.tape = w.tape
  output : w'.output = w.output
  size : w.heap.size ≤ w'.heap.size
  block : ∀ k, k < w.heap.size → ¬ S k → w'.heap[k]? = w.heap[k]?
theorem KtS.refl (S : Nat → Prop) (w : World) : KtS S w w := ⟨rfl, rfl, rfl, Nat.le_refl _, fun _ _ _ => rfl⟩
theorem KtS.trans {S : Nat → Prop} {a b c : World} (h : KtS S a b) (k : KtS S b c) : KtS S a c := ⟨k.os.trans h.os, k.tape.trans h.tape, k.output.trans h.output, Nat.le_trans h.size k.size, fun q hq hn => (k.block q (Nat.lt_of_lt_of_le hq h.size) hn).trans (h.block q hq hn)⟩
theorem KtS.mono {S S' : Nat → Prop} {a b : World} (h : KtS S a b) (hs : ∀ k, S k → S' k) : KtS S' a b := ⟨h.os, h.tape, h.output, h.size, fun q hq hn => h.block q hq (fun e => hn (hs q e))⟩
theorem KtS.of_ex {S : Nat → Prop} {a b : World} (h : Ex a b) : KtS S a b := ⟨h.os, h.tape, h.output, h.size, fun q hq _ => h.block q hq⟩
theorem KtS.of_grown {S : Nat → Prop} {a b : World} {o : Option Nat} (h : a.grownBy b o) (hs : ∀ k, o = some k → S k) : KtS S a b := ⟨h.os, h.tape, h.output, h.size, fun q hq hn => h.block q hq (fun e => hn (hs q e.symm))⟩
/-- The set may grow by blocks that were not there. -/
theorem KtS.later {S S' : Nat → Prop} {a b c : World} (h : KtS S a b) (k : KtS S' b c) (hs : ∀ q, S' q → S q ∨ a.heap.size ≤ q) : KtS S a c :=
  ⟨k.os.trans h.os, k.tape.trans h.tape, k.output.trans h.output, Nat.le_trans h.size k.size, fun q hq hn => (k.block q (Nat.lt_of_lt_of_le hq h.size) (fun e => by rcases hs q e with e | e; exact hn e; omega)).trans (h.block q hq hn)⟩
theorem KtS.ex {S : Nat → Prop} {w0 a b : World} (h : Ex w0 a) (k : KtS S a b) (hs : ∀ q, S q → w0.heap.size ≤ q) : Ex w0 b :=
  ⟨k.os.trans h.os, k.tape.trans h.tape, k.output.trans h.output, Nat.le_trans h.size k.size, fun q hq => (k.block q (Nat.lt_of_lt_of_le hq h.size) (fun e => by have := hs q e; omega)).trans (h.block q hq)⟩
theorem Wd.kt {S : Nat → Prop} {w w' : World} {E : TypeId} {s n : Nat} {v : Value} {xs : List Value} (h : Wd w E s v n xs) (k : KtS S w w') (hs : ∀ b, v.ownBlock = some b → ¬ S b) : Wd w' E s v n xs := h.kept fun b hb hl => k.block b hl (hs b hb)
theorem At.kt {S : Nat → Prop} {w w' : World} {E : TypeId} {b : Nat} {cs : List Value} (h : At w b E cs) (k : KtS S w w') (hs : ¬ S b) : At w' b E cs := (k.block b h.lt hs).trans h
/-! ### What is held -/
def nilV : Value := .slice none 0 0
/-- The cells of what is held. -/
def flat3 (L G : Nat → Value) : List Nat → List Value
  | [] => []
  | q :: ns => L q :: G q :: .int .i64 (q : Int) :: flat3 L G ns
theorem flat3_len (L G : Nat → Value) : ∀ ns, (flat3 L G ns).length = ns.length * 3
  | [] => rfl
  | q :: ns => by simp [flat3, flat3_len L G ns]; omega
theorem flat3_app (L G : Nat → Value) : ∀ (ns ms : List Nat), flat3 L G (ns ++ ms) = flat3 L G ns ++ flat3 L G ms
  | [], ms => rfl
  | q :: ns, ms => by simp [flat3, flat3_app L G ns ms]
theorem flat3_get (L G : Nat → Value) : ∀ (ns : List Nat) (i : Nat) (q : Nat), ns[i]? = some q → ∀ j v, [L q, G q, Value.int .i64 (q : Int)][j]? = some v → (flat3 L G ns)[i * 3 + j]? = some v
  | p :: ns, 0, q, h, j, v, hj => by
    simp at h; subst h
    match j with
    | 0 => simpa [flat3] using hj
    | 1 => simpa [flat3] using hj
    | 2 => simpa [flat3] using hj
    | j + 3 => simp at hj
  | p :: ns, i + 1, q, h, j, v, hj => by
    have ih := flat3_get L G ns i q (by simpa using h) j v hj
    have e : (i + 1) * 3 + j = (i * 3 + j) + 3 := by omega
    rw [e]
    simpa [flat3] using ih
theorem flat3_congr {L G L' G' : Nat → Value} : ∀ (ns : List Nat), (∀ q ∈ ns, L q = L' q ∧ G q = G' q) → flat3 L G ns = flat3 L' G' ns
  | [], _ => rfl
  | q :: ns, h => by
    have h1 := h q (by simp)
    simp [flat3, h1.1, h1.2, flat3_congr ns (fun p hp => h p (by simp [hp]))]
def fset1 (G : Nat → Value) (q : Nat) (v : Value) (p : Nat) : Value := if p = q then v else G p
theorem flat3_set (L G : Nat → Value) (v : Value) : ∀ (ns : List Nat) (i q : Nat), ns.Nodup → ns[i]? = some q → (flat3 L G ns).set (i * 3 + 1) v = flat3 L (fset1 G q v) ns
  | p :: ns, 0, q, hn, h => by
    simp at h; subst h
    rw [List.nodup_cons] at hn
    have := flat3_congr (L := L) (G := fset1 G p v) (L' := L) (G' := G) ns (fun x hx => ⟨rfl, by unfold fset1; rw [if_neg (fun e : x = p => hn.1 (by rw [← e]; exact hx))]⟩)
    simp [flat3, this, fset1]
  | p :: ns, i + 1, q, hn, h => by
    rw [List.nodup_cons] at hn
    have hq : q ∈ ns := List.mem_iff_getElem?.2 ⟨i, by simpa using h⟩
    have ih := flat3_set L G v ns i q hn.2 (by simpa using h)
    have e : (i + 1) * 3 + 1 = (i * 3 + 1) + 3 := by omega
    have e2 : fset1 G q v p = G p := by unfold fset1; rw [if_neg (fun e : p = q => hn.1 (by rw [e]; exact hq))]
    rw [e]
    simp [flat3, ih, e2]
def bkc (M : Nat) (vi vl : Value) : List Value := [.int .i64 (M : Int), nilV, vi, nilV, vl, nilV, nilV, nilV, nilV, nilV]
attribute [local irreducible] Go.Code.wpIn Go.wpListIn Ct Ints Rows Sl At Rw WJ
attribute [local irreducible] Wd
theorem ok_keepInt : CallOK Tryd.prog 25 := callOK Tryd.func25 (by kernel_rfl) rfl
theorem ok_keepIntList : CallOK Tryd.prog 24 := callOK Tryd.func24 (by kernel_rfl) rfl
theorem in_w {P : Program} {E : TypeId} {s B : Nat} {z : Value} (h : (P.info? E).map (fun i => (i.zero, i.size, i.bytes)) = some (some z, s, B)) (hz : z.cells.size = s) : InfoW P E s z B := by
  cases hi : P.info? E with
  | none => rw [hi] at h; cases h
  | some ti =>
    rw [hi] at h
    simp only [Option.map_some, Option.some.injEq, Prod.mk.injEq] at h
    exact ⟨⟨ti, hi, h.1, h.2.1, by omega⟩, hz⟩
theorem in_heldInt : InfoW Tryd.prog 67 3 (.agg #[.slice none 0 0, .slice none 0 0, .int .i64 0]) 56 := in_w (by kernel_rfl) rfl
theorem in_heldIntList : InfoW Tryd.prog 65 3 (.agg #[.slice none 0 0, .slice none 0 0, .int .i64 0]) 56 := in_w (by kernel_rfl) rfl
theorem sl_hi : SlT Tryd.prog 36 67 := Tryd.underlying36
theorem sl_hl : SlT Tryd.prog 38 65 := Tryd.underlying38
theorem ty_hi : Ty1 Tryd.prog 36 := ⟨let ⟨i, h, _, hs, _⟩ := info_parts (show (Tryd.prog.info? 36).map (fun i => (i.zero, i.size, i.bytes)) = some (some (.slice none 0 0), 1, 24) by kernel_rfl); ⟨i, h, hs⟩, _, Tryd.underlying36, rfl⟩
theorem ty_hl : Ty1 Tryd.prog 38 := ⟨let ⟨i, h, _, hs, _⟩ := info_parts (show (Tryd.prog.info? 38).map (fun i => (i.zero, i.size, i.bytes)) = some (some (.slice none 0 0), 1, 24) by kernel_rfl); ⟨i, h, hs⟩, _, Tryd.underlying38, rfl⟩
theorem built_hi (a : Option Addr) (n c : Nat) (q : Int) : Tryd.prog.built 67 [(0, .slice a n c), (2, .int .i64 q)] = some [.slice a n c, .slice none 0 0, .int .i64 q].toArray := by kernel_rfl
theorem built_hl (a : Option Addr) (n c : Nat) (q : Int) : Tryd.prog.built 65 [(0, .slice a n c), (2, .int .i64 q)] = some [.slice a n c, .slice none 0 0, .int .i64 q].toArray := by kernel_rfl
theorem keepInt_ct (bk M n : Nat) (xs : List Value) (vi vl : Value) (a : Option Addr) (k c : Nat) (w : World) (hA : At w bk 45 (bkc M vi vl)) (hW : Wd w 67 3 vi n xs) (hne : ∀ b, vi.ownBlock = some b → b ≠ bk) (hM : M ≤ 100000) (hn : n ≤ 100000) :
    Ct Tryd.prog 25 #[.pointer (some ⟨bk, 0, none⟩), .slice a k c] w fun u w' => u = .tuple #[] ∧ ∃ vi', At w' bk 45 (bkc (M + 1) vi' vl) ∧ Wd w' 67 3 vi' (n + 1) (xs ++ [.slice a k c, nilV, .int .i64 ((M + 1 : Nat) : Int)]) ∧ (vi'.ownBlock = vi.ownBlock ∨ ∀ b, vi'.ownBlock = some b → w.heap.size ≤ b) ∧ KtS (fun b => b = bk ∨ vi.ownBlock = some b) w w' := by
  refine enter (N := 26) (vs := [.pointer (some ⟨bk, 0, none⟩), .slice a k c]) Tryd.func25 rfl rfl rfl ?_
  repeat (first | (refine isO ?_; refine s_move ?_) | (refine isC ?_; refine c_sr ?_))
  refine s_nil rfl ?_
  refine s_faN Tryd.underlying45 rfl ty_int.n rfl ?_
  refine s_ldA ty_int rfl hA rfl ?_
  repeat ((refine isO ?_; (refine isBin ?_; refine s_inc rfl (by omega) ?_)))
  refine s_nil rfl ?_
  refine s_faN Tryd.underlying45 rfl ty_int.n rfl ?_
  refine s_stA (n := 0) (u := .int .i64 ((M + 1 : Nat) : Int)) ty_int rfl (vint (by omega)) rfl hA (by simp [bkc]) ?_
  intro w1 hA1 hg1
  have hA1' : At w1 bk 45 (bkc (M + 1) vi vl) := hA1
  have hW1 := hW.grown hg1 (fun b hb e => hne b hb (Option.some.inj e).symm)
  repeat ((refine l_th ?_))
  refine c_drawJ (fun W' => At W' bk 45 (bkc (M + 1) vi vl)) (hA1'.ex (Ex.drew w1)) 15 8 [(0, true), (1, true), (2, true), (3, true), (4, true), (5, true), (6, true), (7, true), (8, true), (9, true), (10, false), (11, false), (12, false), (13, true), (14, true), (15, false)] mixed (by kernel_rfl) ?_
  refine d_move rfl ?_
  refine d_move rfl ?_
  refine d_nilc rfl rfl ?_
  refine d_faN rfl Tryd.underlying45 rfl ty_hi.n rfl ?_
  refine d_ldJ rfl ty_hi rfl (fun _ h => h) rfl ?_
  refine d_move rfl ?_
  refine d_move rfl ?_
  refine d_nilc rfl rfl ?_
  refine d_faN rfl Tryd.underlying45 rfl ty_int.n rfl ?_
  refine d_ldJ rfl ty_int rfl (fun _ h => h) rfl ?_
  refine d_ch rfl ?_
  refine s_bldW (cells := [.slice a k c, .slice none 0 0, .int .i64 ((M + 1 : Nat) : Int)]) (built_hi a k c _) ?_
  refine l_nil ⟨rfl, .inr (hA1'.ex (Ex.drew w1)), ?_⟩
  refine d_ch rfl ?_
  refine s_bsV3 sl_hi in_heldInt rfl ?_
  intro b2 w2 hb2 hA2 hx2 hs2
  have hx12 := (Ex.drew w1).trans hx2
  refine l_nil ⟨rfl, .inr (hA1'.ex hx12), ?_⟩
  refine d_ch rfl ?_
  refine s_appW (n := n) (m := 1) (news := [.slice a k c, .slice none 0 0, .int .i64 ((M + 1 : Nat) : Int)]) sl_hi in_heldInt (by omega) (hW1.ex hx12) ⟨b2, 1, rfl, [], by simpa using hA2⟩ rfl (by omega) (by intro u hu; simp at hu; rcases hu with rfl | rfl | rfl <;> rfl) (by omega) (by omega) rfl rfl ?_
  intro vi' w3 hW3 hg3 hf3'
  have hf3 : vi'.ownBlock = vi.ownBlock ∨ ∀ b, vi'.ownBlock = some b → w2.heap.size ≤ b := hf3'.imp (fun ⟨a, c, h1, h2⟩ => by rw [h1, h2]; cases a <;> rfl) (fun h => h.1)
  have hne3 : ∀ b, vi.ownBlock = some b → b ≠ bk := hne
  have hA3 := (hA1'.ex hx12).grown hg3 (fun e => hne bk e rfl)
  refine l_nil ⟨rfl, .inr hA3, ?_⟩
  refine d_nilc rfl rfl ?_
  refine d_faN rfl Tryd.underlying45 rfl ty_hi.n rfl ?_
  refine d_ch rfl ?_
  refine s_stA (n := 2) (u := vi') ty_hi rfl rfl hW3.one hA3 (by simp [bkc]) ?_
  intro w4 hA4 hg4
  refine l_nil ⟨rfl, .inl rfl, ?_⟩
  refine d_nil ?_
  have z1 := hg1.size
  have z12 := hx12.size
  have z3 := hg3.size
  have hown : vi'.ownBlock = vi.ownBlock ∨ ∀ b, vi'.ownBlock = some b → w.heap.size ≤ b := hf3.imp id (fun h b hb => by have := h b hb; omega)
  have hbk := hA.lt
  refine end0 rfl ⟨rfl, vi', hA4, hW3.grown hg4 (fun b hb e => ?_), hown, ?_⟩
  · have e' := Option.some.inj e
    rcases hown with he | hf
    · exact hne b (he ▸ hb) e'.symm
    · have := hf b hb; omega
  · have k1 : KtS (fun b => b = bk ∨ vi.ownBlock = some b) w w1 := KtS.of_grown hg1 (fun q e => .inl (Option.some.inj e).symm)
    have k2 : KtS (fun b => b = bk ∨ vi.ownBlock = some b) w1 w2 := KtS.of_ex hx12
    have k3 : KtS (fun b => b = bk ∨ vi.ownBlock = some b) w2 w3 := KtS.of_grown hg3 (fun q e => .inr e)
    have k4 : KtS (fun b => b = bk ∨ vi.ownBlock = some b) w3 w4 := KtS.of_grown hg4 (fun q e => .inl (Option.some.inj e).symm)
    exact ((k1.trans k2).trans k3).trans k4
end Go.Proofs.YtifbgpkjbciblaaDoor.Sal
end
section
/- The Book of salesroomlaw01: keep, Ints, IntLists. -/
set_option maxRecDepth 100000
namespace Go.Proofs.YtifbgpkjbciblaaDoor.Sal
open Go.RowKit
attribute [local irreducible] Go.Code.wpIn Go.wpListIn Ct Ints Rows Sl At Rw WJ
attribute [local irreducible] Wd
set_option linter.all false
theorem keepIntList_ct (bk M n : Nat) (xs : List Value) (vi vl : Value) (a : Option Addr) (k c : Nat) (w : World) (hA : At w bk 45 (bkc M vl vi)) (hW : Wd w 65 3 vi n xs) (hne : ∀ b, vi.ownBlock = some b → b ≠ bk) (hM : M ≤ 100000) (hn : n ≤ 100000) :
    Ct Tryd.prog 24 #[.pointer (some ⟨bk, 0, none⟩), .slice a k c] w fun u w' => u = .tuple #[] ∧ ∃ vi', At w' bk 45 (bkc (M + 1) vl vi') ∧ Wd w' 65 3 vi' (n + 1) (xs ++ [.slice a k c, nilV, .int .i64 ((M + 1 : Nat) : Int)]) ∧ (vi'.ownBlock = vi.ownBlock ∨ ∀ b, vi'.ownBlock = some b → w.heap.size ≤ b) ∧ KtS (fun b => b = bk ∨ vi.ownBlock = some b) w w' := by
  refine enter (N := 26) (vs := [.pointer (some ⟨bk, 0, none⟩), .slice a k c]) Tryd.func24 rfl rfl rfl ?_
  repeat (first | (refine isO ?_; refine s_move ?_) | (refine isC ?_; refine c_sr ?_))
  refine s_nil rfl ?_
  refine s_faN Tryd.underlying45 rfl ty_int.n rfl ?_
  refine s_ldA ty_int rfl hA rfl ?_
  repeat ((refine isO ?_; (refine isBin ?_; refine s_inc rfl (by omega) ?_)))
  refine s_nil rfl ?_
  refine s_faN Tryd.underlying45 rfl ty_int.n rfl ?_
  refine s_stA (n := 0) (u := .int .i64 ((M + 1 : Nat) : Int)) ty_int rfl (vint (by omega)) rfl hA (by simp [bkc]) ?_
  intro w1 hA1 hg1
  have hA1' : At w1 bk 45 (bkc (M + 1) vl vi) := hA1
  have hW1 := hW.grown hg1 (fun b hb e => hne b hb (Option.some.inj e).symm)
  repeat ((refine l_th ?_))
  refine c_drawJ (fun W' => At W' bk 45 (bkc (M + 1) vl vi)) (hA1'.ex (Ex.drew w1)) 15 8 [(0, true), (1, true), (2, true), (3, true), (4, true), (5, true), (6, true), (7, true), (8, true), (9, true), (10, false), (11, false), (12, false), (13, true), (14, true), (15, false)] mixed (by kernel_rfl) ?_
  refine d_move rfl ?_
  refine d_move rfl ?_
  refine d_nilc rfl rfl ?_
  refine d_faN rfl Tryd.underlying45 rfl ty_hl.n rfl ?_
  refine d_ldJ rfl ty_hl rfl (fun _ h => h) rfl ?_
  refine d_move rfl ?_
  refine d_move rfl ?_
  refine d_nilc rfl rfl ?_
  refine d_faN rfl Tryd.underlying45 rfl ty_int.n rfl ?_
  refine d_ldJ rfl ty_int rfl (fun _ h => h) rfl ?_
  refine d_ch rfl ?_
  refine s_bldW (cells := [.slice a k c, .slice none 0 0, .int .i64 ((M + 1 : Nat) : Int)]) (built_hl a k c _) ?_
  refine l_nil ⟨rfl, .inr (hA1'.ex (Ex.drew w1)), ?_⟩
  refine d_ch rfl ?_
  refine s_bsV3 sl_hl in_heldIntList rfl ?_
  intro b2 w2 hb2 hA2 hx2 hs2
  have hx12 := (Ex.drew w1).trans hx2
  refine l_nil ⟨rfl, .inr (hA1'.ex hx12), ?_⟩
  refine d_ch rfl ?_
  refine s_appW (n := n) (m := 1) (news := [.slice a k c, .slice none 0 0, .int .i64 ((M + 1 : Nat) : Int)]) sl_hl in_heldIntList (by omega) (hW1.ex hx12) ⟨b2, 1, rfl, [], by simpa using hA2⟩ rfl (by omega) (by intro u hu; simp at hu; rcases hu with rfl | rfl | rfl <;> rfl) (by omega) (by omega) rfl rfl ?_
  intro vi' w3 hW3 hg3 hf3'
  have hf3 : vi'.ownBlock = vi.ownBlock ∨ ∀ b, vi'.ownBlock = some b → w2.heap.size ≤ b := hf3'.imp (fun ⟨a, c, h1, h2⟩ => by rw [h1, h2]; cases a <;> rfl) (fun h => h.1)
  have hne3 : ∀ b, vi.ownBlock = some b → b ≠ bk := hne
  have hA3 := (hA1'.ex hx12).grown hg3 (fun e => hne bk e rfl)
  refine l_nil ⟨rfl, .inr hA3, ?_⟩
  refine d_nilc rfl rfl ?_
  refine d_faN rfl Tryd.underlying45 rfl ty_hl.n rfl ?_
  refine d_ch rfl ?_
  refine s_stA (n := 4) (u := vi') ty_hl rfl rfl hW3.one hA3 (by simp [bkc]) ?_
  intro w4 hA4 hg4
  refine l_nil ⟨rfl, .inl rfl, ?_⟩
  refine d_nil ?_
  have z1 := hg1.size
  have z12 := hx12.size
  have z3 := hg3.size
  have hown : vi'.ownBlock = vi.ownBlock ∨ ∀ b, vi'.ownBlock = some b → w.heap.size ≤ b := hf3.imp id (fun h b hb => by have := h b hb; omega)
  have hbk := hA.lt
  refine end0 rfl ⟨rfl, vi', hA4, hW3.grown hg4 (fun b hb e => ?_), hown, ?_⟩
  · have e' := Option.some.inj e
    rcases hown with he | hf
    · exact hne b (he ▸ hb) e'.symm
    · have := hf b hb; omega
  · have k1 : KtS (fun b => b = bk ∨ vi.ownBlock = some b) w w1 := KtS.of_grown hg1 (fun q e => .inl (Option.some.inj e).symm)
    have k2 : KtS (fun b => b = bk ∨ vi.ownBlock = some b) w1 w2 := KtS.of_ex hx12
    have k3 : KtS (fun b => b = bk ∨ vi.ownBlock = some b) w2 w3 := KtS.of_grown hg3 (fun q e => .inr e)
    have k4 : KtS (fun b => b = bk ∨ vi.ownBlock = some b) w3 w4 := KtS.of_grown hg4 (fun q e => .inl (Option.some.inj e).symm)
    exact ((k1.trans k2).trans k3).trans k4
theorem ok_bInts : CallOK Tryd.prog 13 := callOK Tryd.func13 (by kernel_rfl) rfl
theorem ok_bIntLists : CallOK Tryd.prog 12 := callOK Tryd.func12 (by kernel_rfl) rfl
/-- What a Book holds: lists by their numbers. -/
structure Bk (wB w : World) (bk M : Nat) (ns nl : List Nat) (L : Nat → Value) (vi vl : Value) : Prop where
  ex : Ex wB w
  lo : wB.heap.size ≤ bk
  hd : At w bk 45 (bkc M vi vl)
  wi : Wd w 67 3 vi ns.length (flat3 L (fun _ => nilV) ns)
  wl : Wd w 65 3 vl nl.length (flat3 L (fun _ => nilV) nl)
  oi : ∀ b, vi.ownBlock = some b → wB.heap.size ≤ b ∧ b ≠ bk ∧ vl.ownBlock ≠ some b
  ol : ∀ b, vl.ownBlock = some b → wB.heap.size ≤ b ∧ b ≠ bk
theorem Bk.exd {wB w w' : World} {bk M : Nat} {ns nl : List Nat} {L : Nat → Value} {vi vl : Value} (h : Bk wB w bk M ns nl L vi vl) (hx : Ex w w') : Bk wB w' bk M ns nl L vi vl := ⟨h.ex.trans hx, h.lo, h.hd.ex hx, h.wi.ex hx, h.wl.ex hx, h.oi, h.ol⟩
theorem bInts_ct (wB : World) (bk M : Nat) (ns nl : List Nat) (L : Nat → Value) (vi vl : Value) (a : Option Addr) (k c : Nat) (w : World) (hB : Bk wB w bk M ns nl L vi vl) (hL : L (M + 1) = .slice a k c) (hM : M ≤ 100000) (hn : ns.length ≤ 100000) :
    Ct Tryd.prog 13 #[.pointer (some ⟨bk, 0, none⟩), .slice a k c] w fun u w' => u = .tuple #[] ∧ ∃ vi', Bk wB w' bk (M + 1) (ns ++ [M + 1]) nl L vi' vl := by
  refine enter (N := 7) (vs := [.pointer (some ⟨bk, 0, none⟩), .slice a k c]) Tryd.func13 rfl rfl rfl ?_
  repeat (first | (refine isO ?_; refine s_move ?_) | (refine isC ?_; refine c_region ?_))
  refine s_call ok_keepInt rfl (keepInt_ct bk M ns.length (flat3 L (fun _ => nilV) ns) vi vl a k c w hB.hd hB.wi (fun b hb => (hB.oi b hb).2.1) hM hn) ?_
  rintro u w1 ⟨rfl, vi', hA, hW, ho, hk⟩
  repeat ((refine l_nil ?_))
  have z := hB.ex.size
  have hx : Ex wB w1 := KtS.ex hB.ex hk (fun q hq => by
    rcases hq with rfl | hq
    · exact hB.lo
    · exact (hB.oi q hq).1)
  have e : flat3 L (fun _ => nilV) ns ++ [.slice a k c, nilV, .int .i64 ((M + 1 : Nat) : Int)] = flat3 L (fun _ => nilV) (ns ++ [M + 1]) := by
    rw [flat3_app]
    simp [flat3, hL]
  rw [e] at hW
  refine end0 rfl ⟨rfl, vi', hx, hB.lo, hA, by simpa using hW, hB.wl.kt hk (fun b hb hq => ?_), fun b hb => ?_, hB.ol⟩
  · rcases hq with hq | hq
    · exact (hB.ol b hb).2 hq
    · exact (hB.oi b hq).2.2 hb
  · rcases ho with he | hf
    · exact hB.oi b (he ▸ hb)
    · have h1 := hf b hb
      refine ⟨by omega, ?_, ?_⟩
      · have := hB.hd.lt; omega
      · intro e2; have := hB.wl.lt b e2; omega
theorem keptL_ct (wB : World) (bk M : Nat) (ns nl : List Nat) (L : Nat → Value) (vi vl : Value) (a : Option Addr) (k c : Nat) (w : World) (hB : Bk wB w bk M ns nl L vi vl) (hL : L (M + 1) = .slice a k c) (hM : M ≤ 100000) (hn : nl.length ≤ 100000) :
    Ct Tryd.prog 24 #[.pointer (some ⟨bk, 0, none⟩), .slice a k c] w fun u w' => u = .tuple #[] ∧ ∃ vl', Bk wB w' bk (M + 1) ns (nl ++ [M + 1]) L vi vl' :=
  (keepIntList_ct bk M nl.length (flat3 L (fun _ => nilV) nl) vl vi a k c w hB.hd hB.wl (fun b hb => (hB.ol b hb).2) hM hn).mono fun u w1 ⟨hu, vl', hA, hW, ho, hk⟩ => by
    have z := hB.ex.size
    have hx : Ex wB w1 := KtS.ex hB.ex hk (fun q hq => by
      rcases hq with rfl | hq
      · exact hB.lo
      · exact (hB.ol q hq).1)
    have e : flat3 L (fun _ => nilV) nl ++ [.slice a k c, nilV, .int .i64 ((M + 1 : Nat) : Int)] = flat3 L (fun _ => nilV) (nl ++ [M + 1]) := by
      rw [flat3_app]
      simp [flat3, hL]
    rw [e] at hW
    refine ⟨hu, vl', hx, hB.lo, hA, hB.wi.kt hk (fun b hb hq => ?_), by simpa using hW, fun b hb => ?_, fun b hb => ?_⟩
    · rcases hq with hq | hq
      · exact (hB.oi b hb).2.1 hq
      · exact (hB.oi b hb).2.2 hq
    · refine ⟨(hB.oi b hb).1, (hB.oi b hb).2.1, fun e2 => ?_⟩
      rcases ho with he | hf
      · exact (hB.oi b hb).2.2 (he ▸ e2)
      · have h1 := hf b e2
        have := hB.wi.lt b hb; omega
    · rcases ho with he | hf
      · exact hB.ol b (he ▸ hb)
      · have h1 := hf b hb
        have := hB.hd.lt
        exact ⟨by omega, by omega⟩
def upN (M i : Nat) : List Nat := (List.range i).map (fun j => M + 1 + j)
theorem upN_succ (M i : Nat) : upN M (i + 1) = upN M i ++ [M + i + 1] := by simp [upN, List.range_succ]; omega
theorem upN_len (M i : Nat) : (upN M i).length = i := by simp [upN]
set_option maxHeartbeats 1000000 in
theorem bIntLists_ct (wB : World) (bk M : Nat) (ns nl : List Nat) (L : Nat → Value) (vi vl : Value) (vs : List Value) (v : Value) (w : World) (hB : Bk wB w bk M ns nl L vi vl) (hs : Sl wB v vs) (hvs : ∀ (i : Nat) u, vs[i]? = some u → (∃ a k c, u = .slice a k c) ∧ L (M + 1 + i) = u) (hL : L (M + vs.length + 1) = v) (hM : M + vs.length ≤ 100000) (hn : ns.length + vs.length ≤ 100000) (hn2 : nl.length ≤ 100000) :
    Ct Tryd.prog 12 #[.pointer (some ⟨bk, 0, none⟩), v] w fun u w' => u = .tuple #[] ∧ ∃ vi' vl', Bk wB w' bk (M + vs.length + 1) (ns ++ upN M vs.length) (nl ++ [M + vs.length + 1]) L vi' vl' := by
  obtain ⟨a, c, hv⟩ := hs.form
  refine enter (N := 20) (vs := [.pointer (some ⟨bk, 0, none⟩), v]) Tryd.func12 rfl rfl rfl ?_
  repeat (first | (refine isO ?_; refine s_assign ?_) | (refine isC ?_; first | refine c_sr ?_ | refine c_seq ?_ | refine c_block ?_) | (refine l_th ?_))
  refine c_loop (γ := Nat) 131056 (fun i => [(4, .int .i64 (i : Int))]) (fun i W => i ≤ vs.length ∧ ∃ vi', Bk wB W bk (M + i) (ns ++ upN M i) nl L vi' vl) (fun i => vs.length - i) 0 ⟨rfl, trivial⟩ ⟨Nat.zero_le _, vi, by simpa [upN] using hB⟩ ?_
  rintro i ρ W ⟨hi, hBe⟩
  refine Exists.elim hBe fun vi' hBW => ?_
  have hsW := hs.ex hBW.ex
  repeat (first | (refine isO ?_; refine s_move ?_) | (refine isC ?_; first | refine c_sr ?_ | refine c_seq ?_))
  refine s_re (v' := v) rfl ?_
  refine s_len (n := vs.length) (a := a) (c := c) sl_rows hv ?_
  repeat (first | (refine isO ?_; (refine isBin ?_; refine s_lss rfl rfl ?_)) | (refine l_th ?_))
  refine c_ifd rfl (fun h => ?_) (fun h => ?_)
  · have hi' : i < vs.length := by omega
    have hu := hvs i vs[i] (List.getElem?_eq_getElem hi')
    refine Exists.elim hu.1 fun ua hu1 => Exists.elim hu1 fun uk hu2 => Exists.elim hu2 fun uc hu3 => ?_
    repeat (first | (refine isO ?_; refine s_move ?_) | (refine isC ?_; first | refine c_th ?_ | refine c_seq ?_ | refine c_region ?_ | refine c_block ?_))
    refine s_ix (n := i) (u := .slice ua uk uc) sl_rows ty_ints rfl rfl rfl hsW (by rw [List.getElem?_eq_getElem hi', hu3]) ?_
    intro _
    refine s_call ok_bInts rfl (bInts_ct wB bk (M + i) (ns ++ upN M i) nl L vi' vl ua uk uc W hBW (by rw [← hu3, ← hu.2]; congr 1; omega) (by omega) (by rw [List.length_append, upN_len]; omega)) ?_
    rintro u w1 ⟨rfl, hB1⟩
    repeat (first | (refine isO ?_; first | refine s_move ?_ | refine s_assign ?_ | (refine isBin ?_; refine s_inc rfl (by omega) ?_)) | (refine isC ?_; refine c_region ?_) | (first | refine l_th ?_ | refine l_nil ?_))
    refine loop_end (i + 1) (by (repeat (first | exact agree_refl _ _ | refine agree_upd rfl ?_ | refine agree_ext rfl ?_ | refine agree_mask rfl ?_))) ⟨rfl, trivial⟩ ⟨hi', ?_⟩ (by omega)
    rw [upN_succ, ← List.append_assoc]
    exact hB1
  · have hie : i = vs.length := by omega
    subst hie
    repeat (first | (refine isO ?_; refine s_move ?_) | (refine isC ?_; first | refine c_region ?_ | refine c_exit ?_))
    subst hv
    refine s_call ok_keepIntList rfl (keptL_ct wB bk (M + vs.length) _ nl L vi' vl a vs.length c W hBW hL hM hn2) ?_
    rintro u w1 ⟨rfl, hB1⟩
    repeat ((refine l_nil ?_))
    exact end0 rfl ⟨rfl, vi', hB1⟩
end Go.Proofs.YtifbgpkjbciblaaDoor.Sal
end
