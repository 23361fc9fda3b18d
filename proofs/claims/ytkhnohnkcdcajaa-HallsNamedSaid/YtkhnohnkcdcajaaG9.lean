/- What the laws of the graphs have in common. -/
import Derived.Test.YtkhnohnkcdcajaaG8
namespace Go.Proofs.Ytkhnohnkcdcajaa.Sal
open Go.RowKit
attribute [local irreducible] Go.Code.wpIn Go.wpListIn Ct Ints Rows Sl At Rw WJ
set_option linter.all false
theorem ok_IntListsSize : CallOK Try.prog 20 := callOK Try.func20 (by kernel_rfl) rfl
theorem ok_IntsSize : CallOK Try.prog 39 := callOK Try.func39 (by kernel_rfl) rfl
theorem IntsSize_ct (v : Value) (l : List Int) (w : World) (hl : Ints w v l) : Ct Try.prog 39 #[v] w fun u w' => u = .int .i64 (l.length : Int) ∧ Ex w w' := by
  have hlen := hl.len
  refine enter (N := 5) (vs := [v]) Try.func39 rfl rfl rfl ?_
  repeat (first | (refine isO ?_; first | refine s_move ?_ | refine s_assign ?_ | (refine isG ?_; first | refine g_yes rfl rfl ?_ | refine g_no rfl rfl rfl ?_ | refine g_un rfl rfl ?_) | (refine isBin ?_; first | refine s_inc rfl (by omega) ?_ | refine s_lssT rfl rfl (by omega) ?_ | refine s_lssF rfl rfl (by omega) ?_ | refine s_lss rfl rfl ?_ | refine s_eqlT rfl rfl (by omega) ?_ | refine s_eqlF rfl rfl (by omega) ?_ | refine s_eql rfl rfl ?_ | refine s_neqT rfl rfl (by omega) ?_ | refine s_neqF rfl rfl (by omega) ?_ | refine s_neq rfl rfl ?_ | refine s_leqT rfl rfl (by omega) ?_ | refine s_leqF rfl rfl (by omega) ?_ | refine s_leq rfl rfl ?_ | refine s_gtrT rfl rfl (by omega) ?_ | refine s_gtrF rfl rfl (by omega) ?_ | refine s_gtr rfl rfl ?_ | refine s_geqT rfl rfl (by omega) ?_ | refine s_geqF rfl rfl (by omega) ?_ | refine s_geq rfl rfl ?_ | refine s_add rfl rfl ⟨by omega, by omega⟩ ?_ | refine s_sub rfl rfl ⟨by omega, by omega⟩ ?_) | (refine isCall ?_; first | refine s_lenI sl_ints rfl (by assumption) ?_ | refine s_lenR sl_rows rfl (by assumption) ?_ | refine s_len sl_ints rfl ?_ | refine s_len sl_rows rfl ?_) | (refine isIA ?_; refine s_ixI sl_ints ty_int rfl rfl rfl (by assumption) (by omega) ?_; intro _) | (refine isPick ?_; first | refine s_pickt rfl rfl ?_ | refine s_pickf rfl rfl ?_) | (refine isLD ?_; first | refine s_ldA ty_int rfl (by assumption) rfl ?_ | refine s_ldA ty_ints rfl (by assumption) rfl ?_) | refine s_extract rfl rfl ?_ | refine s_not rfl ?_) | (refine isC ?_; first | refine c_sr ?_ | refine c_th ?_ | refine c_seq ?_ | refine c_region ?_ | refine c_ift rfl ?_ | refine c_iff rfl ?_ | refine c_block ?_ | refine c_ret ?_ | refine c_exit ?_ | refine c_skip ?_) | (first | refine l_th ?_ | refine th_norm ?_ | refine ib_norm ?_ | refine l_nil ?_ | refine th_ret ?_ | refine ib_ret ?_ | refine ib_exit ?_ | refine th_exit ?_ | refine ib_pass rfl ?_))
  exact ret1 rfl rfl ⟨rfl, Ex.refl _⟩
set_option maxRecDepth 4000 in
theorem IntListsSize_ct (v : Value) (g : List (List Int)) (w : World) (hg : Rows w v g) : Ct Try.prog 20 #[v] w fun u w' => (∃ n : Int, u = .int .i64 n) ∧ Ex w w' := by
  have hlen := hg.len
  refine enter (N := 25) (vs := [v]) Try.func20 rfl rfl rfl ?_
  repeat (first | (refine isO ?_; first | refine s_move ?_ | refine s_assign ?_ | (refine isG ?_; first | refine g_yes rfl rfl ?_ | refine g_no rfl rfl rfl ?_ | refine g_un rfl rfl ?_) | (refine isBin ?_; first | refine s_inc rfl (by omega) ?_ | refine s_lssT rfl rfl (by omega) ?_ | refine s_lssF rfl rfl (by omega) ?_ | refine s_lss rfl rfl ?_ | refine s_eqlT rfl rfl (by omega) ?_ | refine s_eqlF rfl rfl (by omega) ?_ | refine s_eql rfl rfl ?_ | refine s_neqT rfl rfl (by omega) ?_ | refine s_neqF rfl rfl (by omega) ?_ | refine s_neq rfl rfl ?_ | refine s_leqT rfl rfl (by omega) ?_ | refine s_leqF rfl rfl (by omega) ?_ | refine s_leq rfl rfl ?_ | refine s_gtrT rfl rfl (by omega) ?_ | refine s_gtrF rfl rfl (by omega) ?_ | refine s_gtr rfl rfl ?_ | refine s_geqT rfl rfl (by omega) ?_ | refine s_geqF rfl rfl (by omega) ?_ | refine s_geq rfl rfl ?_ | refine s_add rfl rfl ⟨by omega, by omega⟩ ?_ | refine s_sub rfl rfl ⟨by omega, by omega⟩ ?_) | (refine isCall ?_; first | refine s_lenI sl_ints rfl (by assumption) ?_ | refine s_lenR sl_rows rfl (by assumption) ?_ | refine s_len sl_ints rfl ?_ | refine s_len sl_rows rfl ?_) | (refine isIA ?_; refine s_ixI sl_ints ty_int rfl rfl rfl (by assumption) (by omega) ?_; intro _) | (refine isPick ?_; first | refine s_pickt rfl rfl ?_ | refine s_pickf rfl rfl ?_) | (refine isLD ?_; first | refine s_ldA ty_int rfl (by assumption) rfl ?_ | refine s_ldA ty_ints rfl (by assumption) rfl ?_) | refine s_extract rfl rfl ?_ | refine s_not rfl ?_) | (refine isC ?_; first | refine c_sr ?_ | refine c_th ?_ | refine c_seq ?_ | refine c_region ?_ | refine c_ift rfl ?_ | refine c_iff rfl ?_ | refine c_block ?_ | refine c_ret ?_ | refine c_exit ?_ | refine c_skip ?_) | (first | refine l_th ?_ | refine th_norm ?_ | refine ib_norm ?_ | refine l_nil ?_ | refine th_ret ?_ | refine ib_ret ?_ | refine ib_exit ?_ | refine th_exit ?_ | refine ib_pass rfl ?_))
  refine c_loop2 16777112 (fun (i : Nat) (q : Int) => [(4, .int .i64 (i : Int)), (3, .int .i64 q)]) (fun i q w' => i ≤ g.length ∧ (0 ≤ q ∧ q ≤ 300000000000000) ∧ Ex w w') (fun i _ => g.length - i) 0 (g.length : Int) ⟨rfl, rfl, trivial⟩ ⟨Nat.zero_le _, ⟨by omega, by omega⟩, Ex.refl _⟩ ?_
  rintro i q ρ w1 ⟨hi, ⟨hq1, hq2⟩, hx1⟩
  have hg1 := hg.ex hx1
  by_cases h1 : (i : Int) < (g.length : Int)
  · by_cases h2 : q ≤ 1048576
    · have hi' : i < g.length := by omega
      have hrl := hg.rowlen i
      repeat (first | (refine isO ?_; first | refine s_move ?_ | refine s_assign ?_ | (refine isG ?_; first | refine g_yes rfl rfl ?_ | refine g_no rfl rfl rfl ?_ | refine g_un rfl rfl ?_) | (refine isBin ?_; first | refine s_inc rfl (by omega) ?_ | refine s_lssT rfl rfl (by omega) ?_ | refine s_lssF rfl rfl (by omega) ?_ | refine s_lss rfl rfl ?_ | refine s_eqlT rfl rfl (by omega) ?_ | refine s_eqlF rfl rfl (by omega) ?_ | refine s_eql rfl rfl ?_ | refine s_neqT rfl rfl (by omega) ?_ | refine s_neqF rfl rfl (by omega) ?_ | refine s_neq rfl rfl ?_ | refine s_leqT rfl rfl (by omega) ?_ | refine s_leqF rfl rfl (by omega) ?_ | refine s_leq rfl rfl ?_ | refine s_gtrT rfl rfl (by omega) ?_ | refine s_gtrF rfl rfl (by omega) ?_ | refine s_gtr rfl rfl ?_ | refine s_geqT rfl rfl (by omega) ?_ | refine s_geqF rfl rfl (by omega) ?_ | refine s_geq rfl rfl ?_ | refine s_add rfl rfl ⟨by omega, by omega⟩ ?_ | refine s_sub rfl rfl ⟨by omega, by omega⟩ ?_) | (refine isCall ?_; first | refine s_lenI sl_ints rfl (by assumption) ?_ | refine s_lenR sl_rows rfl (by assumption) ?_ | refine s_len sl_ints rfl ?_ | refine s_len sl_rows rfl ?_) | (refine isIA ?_; refine s_ixI sl_ints ty_int rfl rfl rfl (by assumption) (by omega) ?_; intro _) | (refine isPick ?_; first | refine s_pickt rfl rfl ?_ | refine s_pickf rfl rfl ?_) | (refine isLD ?_; first | refine s_ldA ty_int rfl (by assumption) rfl ?_ | refine s_ldA ty_ints rfl (by assumption) rfl ?_) | refine s_extract rfl rfl ?_ | refine s_not rfl ?_) | (refine isC ?_; first | refine c_sr ?_ | refine c_th ?_ | refine c_seq ?_ | refine c_region ?_ | refine c_ift rfl ?_ | refine c_iff rfl ?_ | refine c_block ?_ | refine c_ret ?_ | refine c_exit ?_ | refine c_skip ?_) | (first | refine l_th ?_ | refine th_norm ?_ | refine ib_norm ?_ | refine l_nil ?_ | refine th_ret ?_ | refine ib_ret ?_ | refine ib_exit ?_ | refine th_exit ?_ | refine ib_pass rfl ?_))
      refine s_ixR sl_rows ty_ints rfl rfl rfl hg1 hi' ?_
      intro _ u hu
      refine s_call ok_IntsSize rfl (IntsSize_ct u _ w1 hu) ?_
      rintro x w2 ⟨rfl, hx2⟩
      repeat (first | (refine isO ?_; first | refine s_move ?_ | refine s_assign ?_ | (refine isG ?_; first | refine g_yes rfl rfl ?_ | refine g_no rfl rfl rfl ?_ | refine g_un rfl rfl ?_) | (refine isBin ?_; first | refine s_inc rfl (by omega) ?_ | refine s_lssT rfl rfl (by omega) ?_ | refine s_lssF rfl rfl (by omega) ?_ | refine s_lss rfl rfl ?_ | refine s_eqlT rfl rfl (by omega) ?_ | refine s_eqlF rfl rfl (by omega) ?_ | refine s_eql rfl rfl ?_ | refine s_neqT rfl rfl (by omega) ?_ | refine s_neqF rfl rfl (by omega) ?_ | refine s_neq rfl rfl ?_ | refine s_leqT rfl rfl (by omega) ?_ | refine s_leqF rfl rfl (by omega) ?_ | refine s_leq rfl rfl ?_ | refine s_gtrT rfl rfl (by omega) ?_ | refine s_gtrF rfl rfl (by omega) ?_ | refine s_gtr rfl rfl ?_ | refine s_geqT rfl rfl (by omega) ?_ | refine s_geqF rfl rfl (by omega) ?_ | refine s_geq rfl rfl ?_ | refine s_add rfl rfl ⟨by omega, by omega⟩ ?_ | refine s_sub rfl rfl ⟨by omega, by omega⟩ ?_) | (refine isCall ?_; first | refine s_lenI sl_ints rfl (by assumption) ?_ | refine s_lenR sl_rows rfl (by assumption) ?_ | refine s_len sl_ints rfl ?_ | refine s_len sl_rows rfl ?_) | (refine isIA ?_; refine s_ixI sl_ints ty_int rfl rfl rfl (by assumption) (by omega) ?_; intro _) | (refine isPick ?_; first | refine s_pickt rfl rfl ?_ | refine s_pickf rfl rfl ?_) | (refine isLD ?_; first | refine s_ldA ty_int rfl (by assumption) rfl ?_ | refine s_ldA ty_ints rfl (by assumption) rfl ?_) | refine s_extract rfl rfl ?_ | refine s_not rfl ?_) | (refine isC ?_; first | refine c_sr ?_ | refine c_th ?_ | refine c_seq ?_ | refine c_region ?_ | refine c_ift rfl ?_ | refine c_iff rfl ?_ | refine c_block ?_ | refine c_ret ?_ | refine c_exit ?_ | refine c_skip ?_) | (first | refine l_th ?_ | refine th_norm ?_ | refine ib_norm ?_ | refine l_nil ?_ | refine th_ret ?_ | refine ib_ret ?_ | refine ib_exit ?_ | refine th_exit ?_ | refine ib_pass rfl ?_))
      exact loop_end2 (i + 1) _ (by (repeat (first | exact agree_refl _ _ | refine agree_upd rfl ?_ | refine agree_ext rfl ?_ | refine agree_mask rfl ?_))) ⟨rfl, rfl, trivial⟩ ⟨hi', ⟨by omega, by omega⟩, hx1.trans hx2⟩ (by omega)
    · repeat (first | (refine isO ?_; first | refine s_move ?_ | refine s_assign ?_ | (refine isG ?_; first | refine g_yes rfl rfl ?_ | refine g_no rfl rfl rfl ?_ | refine g_un rfl rfl ?_) | (refine isBin ?_; first | refine s_inc rfl (by omega) ?_ | refine s_lssT rfl rfl (by omega) ?_ | refine s_lssF rfl rfl (by omega) ?_ | refine s_lss rfl rfl ?_ | refine s_eqlT rfl rfl (by omega) ?_ | refine s_eqlF rfl rfl (by omega) ?_ | refine s_eql rfl rfl ?_ | refine s_neqT rfl rfl (by omega) ?_ | refine s_neqF rfl rfl (by omega) ?_ | refine s_neq rfl rfl ?_ | refine s_leqT rfl rfl (by omega) ?_ | refine s_leqF rfl rfl (by omega) ?_ | refine s_leq rfl rfl ?_ | refine s_gtrT rfl rfl (by omega) ?_ | refine s_gtrF rfl rfl (by omega) ?_ | refine s_gtr rfl rfl ?_ | refine s_geqT rfl rfl (by omega) ?_ | refine s_geqF rfl rfl (by omega) ?_ | refine s_geq rfl rfl ?_ | refine s_add rfl rfl ⟨by omega, by omega⟩ ?_ | refine s_sub rfl rfl ⟨by omega, by omega⟩ ?_) | (refine isCall ?_; first | refine s_lenI sl_ints rfl (by assumption) ?_ | refine s_lenR sl_rows rfl (by assumption) ?_ | refine s_len sl_ints rfl ?_ | refine s_len sl_rows rfl ?_) | (refine isIA ?_; refine s_ixI sl_ints ty_int rfl rfl rfl (by assumption) (by omega) ?_; intro _) | (refine isPick ?_; first | refine s_pickt rfl rfl ?_ | refine s_pickf rfl rfl ?_) | (refine isLD ?_; first | refine s_ldA ty_int rfl (by assumption) rfl ?_ | refine s_ldA ty_ints rfl (by assumption) rfl ?_) | refine s_extract rfl rfl ?_ | refine s_not rfl ?_) | (refine isC ?_; first | refine c_sr ?_ | refine c_th ?_ | refine c_seq ?_ | refine c_region ?_ | refine c_ift rfl ?_ | refine c_iff rfl ?_ | refine c_block ?_ | refine c_ret ?_ | refine c_exit ?_ | refine c_skip ?_) | (first | refine l_th ?_ | refine th_norm ?_ | refine ib_norm ?_ | refine l_nil ?_ | refine th_ret ?_ | refine ib_ret ?_ | refine ib_exit ?_ | refine th_exit ?_ | refine ib_pass rfl ?_))
      exact ret1 rfl rfl ⟨⟨_, rfl⟩, hx1⟩
  · repeat (first | (refine isO ?_; first | refine s_move ?_ | refine s_assign ?_ | (refine isG ?_; first | refine g_yes rfl rfl ?_ | refine g_no rfl rfl rfl ?_ | refine g_un rfl rfl ?_) | (refine isBin ?_; first | refine s_inc rfl (by omega) ?_ | refine s_lssT rfl rfl (by omega) ?_ | refine s_lssF rfl rfl (by omega) ?_ | refine s_lss rfl rfl ?_ | refine s_eqlT rfl rfl (by omega) ?_ | refine s_eqlF rfl rfl (by omega) ?_ | refine s_eql rfl rfl ?_ | refine s_neqT rfl rfl (by omega) ?_ | refine s_neqF rfl rfl (by omega) ?_ | refine s_neq rfl rfl ?_ | refine s_leqT rfl rfl (by omega) ?_ | refine s_leqF rfl rfl (by omega) ?_ | refine s_leq rfl rfl ?_ | refine s_gtrT rfl rfl (by omega) ?_ | refine s_gtrF rfl rfl (by omega) ?_ | refine s_gtr rfl rfl ?_ | refine s_geqT rfl rfl (by omega) ?_ | refine s_geqF rfl rfl (by omega) ?_ | refine s_geq rfl rfl ?_ | refine s_add rfl rfl ⟨by omega, by omega⟩ ?_ | refine s_sub rfl rfl ⟨by omega, by omega⟩ ?_) | (refine isCall ?_; first | refine s_lenI sl_ints rfl (by assumption) ?_ | refine s_lenR sl_rows rfl (by assumption) ?_ | refine s_len sl_ints rfl ?_ | refine s_len sl_rows rfl ?_) | (refine isIA ?_; refine s_ixI sl_ints ty_int rfl rfl rfl (by assumption) (by omega) ?_; intro _) | (refine isPick ?_; first | refine s_pickt rfl rfl ?_ | refine s_pickf rfl rfl ?_) | (refine isLD ?_; first | refine s_ldA ty_int rfl (by assumption) rfl ?_ | refine s_ldA ty_ints rfl (by assumption) rfl ?_) | refine s_extract rfl rfl ?_ | refine s_not rfl ?_) | (refine isC ?_; first | refine c_sr ?_ | refine c_th ?_ | refine c_seq ?_ | refine c_region ?_ | refine c_ift rfl ?_ | refine c_iff rfl ?_ | refine c_block ?_ | refine c_ret ?_ | refine c_exit ?_ | refine c_skip ?_) | (first | refine l_th ?_ | refine th_norm ?_ | refine ib_norm ?_ | refine l_nil ?_ | refine th_ret ?_ | refine ib_ret ?_ | refine ib_exit ?_ | refine th_exit ?_ | refine ib_pass rfl ?_))
    exact ret1 rfl rfl ⟨⟨_, rfl⟩, hx1⟩
theorem chk_form2 {g : List (List Int)} {n : Int} (h : chkG g n = true) : ∃ (R : Nat → Nat → Bool) (m nn : Nat), n = (nn : Int) ∧ nn ≤ 8 ∧ m ≤ 8 ∧ g = gL R m nn := by
  obtain ⟨nn, h1, h2, h3, h4⟩ := chk_form h
  exact ⟨mayR g, g.length, nn, h1, h2, h3, h4⟩
theorem ris_of {n : Nat} (hn : n ≤ 8) (p : Nat → Bool) : risB (-1) (rowL n p) (n : Int) = true := by
  have h := chk_ok (R := fun _ => p) (m := 1) (n := n) (by omega) hn
  unfold chkG at h
  simp only [Bool.and_eq_true] at h
  have h2 := h.2
  simp [gL] at h2
  exact h2
def uptoI (n : Nat) : List Int := (List.range n).map (fun k : Nat => (k : Int))
theorem uptoI_row (n : Nat) : uptoI n = rowL n (fun _ => true) := by
  unfold uptoI rowL rowN
  rw [List.filter_eq_self.2 (by simp)]
theorem uptoI_succ (n : Nat) : uptoI (n + 1) = uptoI n ++ [(n : Int)] := by simp [uptoI, List.range_succ]
theorem uptoI_len (n : Nat) : (uptoI n).length = n := by simp [uptoI]
theorem rowL_none {n : Nat} {p : Nat → Bool} (h : ∀ k, p k = false) : rowL n p = [] := by
  unfold rowL rowN
  rw [List.filter_eq_nil_iff.2 (fun k _ => by simp [h k])]; rfl
theorem nearP_nil (R : Nat → Nat → Bool) (m k : Nat) : nearP R m [] k = false := by simp [nearP]
theorem nearP_one {R : Nat → Nat → Bool} {m i : Nat} (hi : i < m) (k : Nat) : nearP R m [(i : Int)] k = R i k := by
  rw [Bool.eq_iff_iff]
  unfold nearP
  simp only [List.any_eq_true, List.mem_range, Bool.and_eq_true, List.contains_iff_mem, List.mem_singleton]
  constructor
  · rintro ⟨j, _, h1, h2⟩
    have : j = i := by omega
    rw [this] at h2; exact h2
  · intro h
    exact ⟨i, hi, rfl, h⟩
theorem nearP_all {R : Nat → Nat → Bool} {m : Nat} (k : Nat) : nearP R m (uptoI m) k = (List.range m).any (fun i => R i k) := by
  rw [Bool.eq_iff_iff]
  unfold nearP uptoI
  simp only [List.any_eq_true, List.mem_range, Bool.and_eq_true, List.contains_iff_mem, List.mem_map]
  constructor
  · rintro ⟨i, hi, _, h2⟩; exact ⟨i, hi, h2⟩
  · rintro ⟨i, hi, h2⟩; exact ⟨i, hi, ⟨i, hi, rfl⟩, h2⟩
theorem row_any {m : Nat} (p : Nat → Bool) : decide (0 < ((rowL m p).length : Int)) = (List.range m).any p := by
  rw [Bool.eq_iff_iff, decide_eq_true_eq, rowL_len]
  unfold rowN
  constructor
  · intro h
    have h2 : 0 < ((List.range m).filter p).length := by omega
    obtain ⟨x, hx⟩ := List.exists_mem_of_length_pos h2
    rw [List.mem_filter] at hx
    exact List.any_eq_true.2 ⟨x, hx.1, hx.2⟩
  · intro h
    obtain ⟨x, hx, hp⟩ := List.any_eq_true.1 h
    have := List.length_pos_of_mem (List.mem_filter.2 ⟨hx, hp⟩)
    omega
section
variable {r : Option Nat} {P : Program} {J : World → Prop} {z : Nat} {Q : Exit → Act → World → Prop} {N : Nat} {σ : Nat → Value} {ds : List Deferred} {w : World}
variable {gd : Option (Nat × Bool)} {ops : Array Oper} {i d : Nat} {π : List (Nat × Bool)} {ty : TypeId} {pos : String} {after : Array Edge} {t t' : TypeId} {x y : Operand}
theorem d_neqb {p q : Bool} (hop : ops[i]? = some ⟨some d, .binOp .neq t x y t', ty, pos, after, gd⟩) (hT : P.underlying t = some .bool) (hx : ev N σ x = .bool p) (hy : ev N σ y = .bool q) (h : WJ r P ops J z Q π (mk N (upd σ d (.bool (p != q))) ds) w) (hgd : GOK ops (ev N σ) gd := by first | exact trivial | exact ⟨_, rfl, rfl⟩) : WJ r P ops J z Q ((i, true) :: π) (mk N σ ds) w :=
  d_bin hop hx hy (by simp [go_sem]) (fun w' => by
    show ((Op.equal t (.bool p) (.bool q)).bind fun b => (Sem.pure (Value.bool (!b)) : Sem Value)).run P w' = _
    simp [Sem.run_bind', run_equal_bool P w' t p q hT]; cases p <;> cases q <;> rfl) h hgd
end
end Go.Proofs.Ytkhnohnkcdcajaa.Sal
