/- graphs.Turned. -/
import Derived.Test.YtkhnohnkcdcajaaDoorG6
set_option maxRecDepth 100000
namespace Go.Proofs.YtkhnohnkcdcajaaDoor.Sal
open Go.RowKit
attribute [local irreducible] Go.Code.wpIn Go.wpListIn Ct Ints Rows Sl At Rw WJ
set_option linter.all false
theorem ok_Turned : CallOK Tryd.prog 7 := callOK Tryd.func7 (by kernel_rfl) rfl
def turnF {n : Nat} (pre : List (PK n)) (k : Nat) : List Int := (pre.filter (fun x => x.1.2 == k)).map (fun x => (x.1.1 : Int))
theorem turnF_snoc {n : Nat} (pre : List (PK n)) (x : PK n) : turnF (pre ++ [x]) = fs (turnF pre) x.1.2 (turnF pre x.1.2 ++ [(x.1.1 : Int)]) := by
  funext k
  unfold turnF
  rw [List.filter_append, List.map_append]
  unfold fs
  by_cases e : k = x.1.2
  · subst e
    rw [if_pos rfl]
    simp
  · have e2 : (x.1.2 == k) = false := by simpa using fun h => e h.symm
    rw [if_neg e]
    simp [List.filter_cons, e2]
theorem turnF_len {n : Nat} (pre : List (PK n)) (k : Nat) : (turnF pre k).length ≤ pre.length := by
  unfold turnF
  rw [List.length_map]
  exact List.length_filter_le _ _
theorem prow_turn {n i : Nat} (p : Nat → Bool) (k : Nat) : ∀ j, j ≤ n → turnF (prow n i ((List.range j).filter p)) k = if k < j ∧ p k = true then [(i : Int)] else []
  | 0, _ => by simp [prow, turnF]
  | j + 1, hj => by
    have ih := prow_turn (n := n) (i := i) p k j (Nat.le_of_succ_le hj)
    rw [List.range_succ, List.filter_append]
    by_cases hp : p j = true
    · have : [j].filter p = [j] := by simp [hp]
      rw [this, prow_snoc _ (show j < n by omega), turnF_snoc]
      unfold fs
      by_cases e : k = j
      · subst e
        rw [if_pos rfl, ih, if_neg (show ¬ (k < k ∧ p k = true) from fun h => by omega), if_pos (show k < k + 1 ∧ p k = true from ⟨by omega, hp⟩)]; rfl
      · rw [if_neg e, ih]
        by_cases h : k < j ∧ p k = true
        · rw [if_pos h, if_pos ⟨by omega, h.2⟩]
        · rw [if_neg h, if_neg (fun h2 => h ⟨by omega, h2.2⟩)]
    · have : [j].filter p = [] := by simp [hp]
      rw [this, List.append_nil, ih]
      by_cases h : k < j ∧ p k = true
      · rw [if_pos h, if_pos ⟨by omega, h.2⟩]
      · rw [if_neg h, if_neg (fun h2 => h ⟨by
          by_cases e : k = j
          · subst e; exact absurd h2.2 hp
          · omega, h2.2⟩)]
theorem prs_turn {R : Nat → Nat → Bool} {n k : Nat} (hk : k < n) : ∀ m, turnF (prs R n m) k = rowL m (fun i => R i k)
  | 0 => rfl
  | m + 1 => by
    have h1 : turnF (prs R n (m + 1)) k = turnF (prs R n m) k ++ turnF (prow n m (rowN n (R m))) k := by
      unfold turnF
      rw [prs, List.filter_append, List.map_append]
    rw [h1, prs_turn hk m, rowL_step]
    have h2 := prow_turn (n := n) (i := m) (R m) k n (Nat.le_refl n)
    unfold rowN
    rw [h2]
    by_cases h : R m k = true
    · rw [if_pos ⟨hk, h⟩, if_pos h]
    · rw [if_neg (fun h3 => h h3.2), if_neg h]
theorem Turned_bad (gv : Value) (g : List (List Int)) (n : Int) (w : World) (hg : Rows w gv g) (hb : chkG g n = false) :
    Ct Tryd.prog 7 #[gv, .int .i64 n] w fun u w' => u = .tuple #[.slice none 0 0, .int .i64 1] ∧ Ex w w' := by
  refine enter (N := 45) (vs := [gv, .int .i64 n]) Tryd.func7 rfl rfl rfl ?_
  repeat (first | (refine isO ?_; first | refine s_move ?_ | refine s_assign ?_ | (refine isG ?_; first | refine g_yes rfl rfl ?_ | refine g_no rfl rfl rfl ?_ | refine g_un rfl rfl ?_) | (refine isBin ?_; first | refine s_inc rfl (by omega) ?_ | refine s_lssT rfl rfl (by omega) ?_ | refine s_lssF rfl rfl (by omega) ?_ | refine s_lss rfl rfl ?_ | refine s_eqlT rfl rfl (by omega) ?_ | refine s_eqlF rfl rfl (by omega) ?_ | refine s_eql rfl rfl ?_ | refine s_neqT rfl rfl (by omega) ?_ | refine s_neqF rfl rfl (by omega) ?_ | refine s_neq rfl rfl ?_ | refine s_leqT rfl rfl (by omega) ?_ | refine s_leqF rfl rfl (by omega) ?_ | refine s_leq rfl rfl ?_ | refine s_gtrT rfl rfl (by omega) ?_ | refine s_gtrF rfl rfl (by omega) ?_ | refine s_gtr rfl rfl ?_ | refine s_geqT rfl rfl (by omega) ?_ | refine s_geqF rfl rfl (by omega) ?_ | refine s_geq rfl rfl ?_ | refine s_add rfl rfl ⟨by omega, by omega⟩ ?_ | refine s_sub rfl rfl ⟨by omega, by omega⟩ ?_) | (refine isCall ?_; first | refine s_lenI sl_ints rfl (by assumption) ?_ | refine s_lenR sl_rows rfl (by assumption) ?_ | refine s_len sl_ints rfl ?_ | refine s_len sl_rows rfl ?_) | (refine isIA ?_; refine s_ixI sl_ints ty_int rfl rfl rfl (by assumption) (by omega) ?_; intro _) | (refine isPick ?_; first | refine s_pickt rfl rfl ?_ | refine s_pickf rfl rfl ?_) | (refine isLD ?_; first | refine s_ldA ty_int rfl (by assumption) rfl ?_ | refine s_ldA ty_ints rfl (by assumption) rfl ?_) | refine s_extract rfl rfl ?_ | refine s_not rfl ?_) | (refine isC ?_; first | refine c_sr ?_ | refine c_th ?_ | refine c_seq ?_ | refine c_region ?_ | refine c_ift rfl ?_ | refine c_iff rfl ?_ | refine c_block ?_ | refine c_ret ?_ | refine c_exit ?_ | refine c_skip ?_) | (first | refine l_th ?_ | refine th_norm ?_ | refine ib_norm ?_ | refine l_nil ?_ | refine th_ret ?_ | refine ib_ret ?_ | refine ib_exit ?_ | refine th_exit ?_ | refine ib_pass rfl ?_))
  refine s_call ok_Check rfl (Check_ct gv g n w hg) ?_
  rintro v w2 ⟨rfl, hx2⟩
  refine s_re (v' := .bool false) (vbool hb) ?_
  repeat (first | (refine isO ?_; first | refine s_move ?_ | refine s_assign ?_ | (refine isG ?_; first | refine g_yes rfl rfl ?_ | refine g_no rfl rfl rfl ?_ | refine g_un rfl rfl ?_) | (refine isBin ?_; first | refine s_inc rfl (by omega) ?_ | refine s_lssT rfl rfl (by omega) ?_ | refine s_lssF rfl rfl (by omega) ?_ | refine s_lss rfl rfl ?_ | refine s_eqlT rfl rfl (by omega) ?_ | refine s_eqlF rfl rfl (by omega) ?_ | refine s_eql rfl rfl ?_ | refine s_neqT rfl rfl (by omega) ?_ | refine s_neqF rfl rfl (by omega) ?_ | refine s_neq rfl rfl ?_ | refine s_leqT rfl rfl (by omega) ?_ | refine s_leqF rfl rfl (by omega) ?_ | refine s_leq rfl rfl ?_ | refine s_gtrT rfl rfl (by omega) ?_ | refine s_gtrF rfl rfl (by omega) ?_ | refine s_gtr rfl rfl ?_ | refine s_geqT rfl rfl (by omega) ?_ | refine s_geqF rfl rfl (by omega) ?_ | refine s_geq rfl rfl ?_ | refine s_add rfl rfl ⟨by omega, by omega⟩ ?_ | refine s_sub rfl rfl ⟨by omega, by omega⟩ ?_) | (refine isCall ?_; first | refine s_lenI sl_ints rfl (by assumption) ?_ | refine s_lenR sl_rows rfl (by assumption) ?_ | refine s_len sl_ints rfl ?_ | refine s_len sl_rows rfl ?_) | (refine isIA ?_; refine s_ixI sl_ints ty_int rfl rfl rfl (by assumption) (by omega) ?_; intro _) | (refine isPick ?_; first | refine s_pickt rfl rfl ?_ | refine s_pickf rfl rfl ?_) | (refine isLD ?_; first | refine s_ldA ty_int rfl (by assumption) rfl ?_ | refine s_ldA ty_ints rfl (by assumption) rfl ?_) | refine s_extract rfl rfl ?_ | refine s_not rfl ?_) | (refine isC ?_; first | refine c_sr ?_ | refine c_th ?_ | refine c_seq ?_ | refine c_region ?_ | refine c_ift rfl ?_ | refine c_iff rfl ?_ | refine c_block ?_ | refine c_ret ?_ | refine c_exit ?_ | refine c_skip ?_) | (first | refine l_th ?_ | refine th_norm ?_ | refine ib_norm ?_ | refine l_nil ?_ | refine th_ret ?_ | refine ib_ret ?_ | refine ib_exit ?_ | refine th_exit ?_ | refine ib_pass rfl ?_))
  exact ret2 rfl rfl rfl ⟨rfl, hx2⟩
theorem in_ints' : ∃ ti, Tryd.prog.info? 25 = some ti ∧ ti.zero = some (.slice none 0 0) ∧ ti.size = 1 ∧ ti.bytes ≤ 64 := in_ints.ex
theorem in_rows' : ∃ ti, Tryd.prog.info? 22 = some ti ∧ ti.zero = some (.slice none 0 0) := by
  obtain ⟨ti, h, hz, _⟩ := info_parts (show (Tryd.prog.info? 22).map (fun i => (i.zero, i.size, i.bytes)) = some (some (.slice none 0 0), 1, 24) by kernel_rfl)
  exact ⟨ti, h, hz⟩
theorem Rw.one {w : World} {E : TypeId} {v : Value} {vs : List Value} (h : Rw w E v vs) : v.oneCell' = true := by
  obtain ⟨a, c, rfl⟩ := h.slen; rfl
end Go.Proofs.YtkhnohnkcdcajaaDoor.Sal
