/- (*paths.search).goes: what the search finds. -/
import Derived.Test.YtkhnohnkcdcajaaP2
namespace Go.Proofs.Ytkhnohnkcdcajaa.Sal
open Go.RowKit
attribute [local irreducible] Go.Code.wpIn Go.wpListIn Ct Ints Rows Sl At Rw WJ
set_option linter.all false
def wsI (ws : List Nat) : List Int := ws.map (fun k : Nat => (k : Int))
theorem wsI_len (ws : List Nat) : (wsI ws).length = ws.length := by simp [wsI]
theorem wsI_get {ws : List Nat} {j b : Nat} (h : ws[j]? = some b) : (wsI ws).getD j 0 = (b : Int) := by
  simp [wsI, List.getD_eq_getElem?_getD, List.getElem?_map, h]
theorem wsI_snoc (ws : List Nat) (x : Nat) : wsI (ws ++ [x]) = wsI ws ++ [(x : Int)] := by simp [wsI]
/-- What is left of a search behind a part of one bidder's row. -/
def contR (R : Nat → Nat → Bool) (n : Nat) (hold : Nat → Nat) (f j : Nat) : Option Nat × (Nat → Nat) × List Nat → Option Nat × (Nat → Nat) × List Nat
  | (some k, w, ws) => (some k, w, ws)
  | (none, w, ws) => bfsR R n hold f (j + 1) w ws
theorem bfs_in {R : Nat → Nat → Bool} {n : Nat} {hold : Nat → Nat} {f j b : Nat} {w : Nat → Nat} {ws : List Nat} (h : ws[j]? = some b) : bfsR R n hold (f + 1) j w ws = contR R n hold f j (scanR hold b (rowN n (R b)) w ws) := by
  have hl := (List.getElem?_eq_some_iff.1 h).1
  have e : ws.getD j 0 = b := by simp [List.getD_eq_getElem?_getD, h]
  rw [bfsR, if_pos hl, e]
  cases scanR hold b (rowN n (R b)) w ws with
  | mk o p => obtain ⟨w', ws'⟩ := p; cases o <;> rfl
theorem bfs_out {R : Nat → Nat → Bool} {n : Nat} {hold : Nat → Nat} {j : Nat} {w : Nat → Nat} {ws : List Nat} (h : ¬ j < ws.length) : ∀ f, bfsR R n hold f j w ws = (none, w, ws)
  | 0 => rfl
  | f + 1 => by rw [bfsR, if_neg h]
theorem drop_at {l : List Nat} {q : Nat} (hq : q < l.length) : l.drop q = l.getD q 0 :: l.drop (q + 1) := by
  rw [List.drop_eq_getElem_cons hq]
  congr 1
  simp [List.getD_eq_getElem?_getD, hq]
section scan
variable {hold : Nat → Nat} {b q : Nat} {l : List Nat} {w : Nat → Nat} {ws : List Nat}
theorem scan_skip (hq : q < l.length) (h : 0 < w (l.getD q 0)) : scanR hold b (l.drop q) w ws = scanR hold b (l.drop (q + 1)) w ws := by
  rw [drop_at hq, scanR, if_pos h]
theorem scan_take (hq : q < l.length) (h : ¬ 0 < w (l.getD q 0)) (h1 : 0 < hold (l.getD q 0)) : scanR hold b (l.drop q) w ws = scanR hold b (l.drop (q + 1)) (fset w (l.getD q 0) (b + 1)) (ws ++ [hold (l.getD q 0) - 1]) := by
  rw [drop_at hq, scanR, if_neg h, if_pos h1]
theorem scan_free (hq : q < l.length) (h : ¬ 0 < w (l.getD q 0)) (h1 : ¬ 0 < hold (l.getD q 0)) : scanR hold b (l.drop q) w ws = (some (l.getD q 0), fset w (l.getD q 0) (b + 1), ws) := by
  rw [drop_at hq, scanR, if_neg h, if_neg h1]
theorem scan_done (hq : ¬ q < l.length) : scanR hold b (l.drop q) w ws = (none, w, ws) := by
  rw [List.drop_of_length_le (by omega), scanR]
end scan
/-- What lies in memory between two steps of the search. -/
def GS (has : List Int) (wB W : World) (b hb : Nat) (gv hv : Value) (w : Nat → Nat) (ws : List Nat) : Prop :=
  ∃ wv, At W b 81 (SE gv hv wv w (holdN has has.length)) ∧ LI wB W 3 wv (wsI ws) ∧ (wv.ownBlock ≠ some hb ∧ wv.ownBlock ≠ some b) ∧ OwnI W 3 hb has.length has ∧ Ex wB W
theorem free_take {has : List Int} {w : Nat → Nat} {k x : Nat} (h : Free has w) (hk : 0 < holdN has has.length k) : Free has (fset w k x) := fun k' hw => by
  by_cases e : k' = k
  · subst e; exact hk
  · rw [fset_other e] at hw; exact h k' hw
theorem cont_some {R : Nat → Nat → Bool} {n : Nat} {hold : Nat → Nat} {f j k : Nat} {w : Nat → Nat} {ws : List Nat} : contR R n hold f j (some k, w, ws) = (some k, w, ws) := rfl
theorem cont_none {R : Nat → Nat → Bool} {n : Nat} {hold : Nat → Nat} {f j : Nat} {w : Nat → Nat} {ws : List Nat} : contR R n hold f j (none, w, ws) = bfsR R n hold f (j + 1) w ws := rfl
attribute [local irreducible] bfsR scanR contR fset holdN
set_option maxRecDepth 8000 in
set_option maxHeartbeats 4000000 in
theorem goes_ct {R : Nat → Nat → Bool} {m n : Nat} (hm : m ≤ 8) (hn : n ≤ 8) {gv hv : Value} {has : List Int} {a b hb : Nat} {wB w : World} (hg : Rows wB gv (gL R m n)) (hF : FitR R m n has) (ham : a < m) (ha : has.getD a (-1) = -1) (hbB : wB.heap.size ≤ b) (hhB : wB.heap.size ≤ hb) (hne : hb ≠ b)
    (hG : GS has wB w b hb gv hv (fun _ => 0) [a]) :
    Ct Try.prog 60 #[.pointer (some ⟨b, 0, none⟩), .bool false] w fun u w' => ∃ w1 ws1, GS has wB w' b hb gv hv w1 ws1 ∧
      ((bfsR R n (holdN has has.length) 9 0 (fun _ => 0) [a] = (none, w1, ws1) ∧ u = .tuple #[.int .i64 0, .bool false]) ∨ ∃ k : Nat, bfsR R n (holdN has has.length) 9 0 (fun _ => 0) [a] = (some k, w1, ws1) ∧ u = .tuple #[.int .i64 (k : Int), .bool true]) := by
  have hgl := gL_len R m n
  have hlen := hF.len
  refine enter (N := 84) (vs := [.pointer (some ⟨b, 0, none⟩), .bool false]) Try.func60 rfl rfl rfl ?_
  repeat (first | (refine isO ?_; first | refine s_move ?_ | refine s_assign ?_ | (refine isG ?_; first | refine g_yes rfl rfl ?_ | refine g_no rfl rfl rfl ?_ | refine g_un rfl rfl ?_) | (refine isBin ?_; first | refine s_inc rfl (by omega) ?_ | refine s_lssT rfl rfl (by omega) ?_ | refine s_lssF rfl rfl (by omega) ?_ | refine s_lss rfl rfl ?_ | refine s_eqlT rfl rfl (by omega) ?_ | refine s_eqlF rfl rfl (by omega) ?_ | refine s_eql rfl rfl ?_ | refine s_neqT rfl rfl (by omega) ?_ | refine s_neqF rfl rfl (by omega) ?_ | refine s_neq rfl rfl ?_ | refine s_leqT rfl rfl (by omega) ?_ | refine s_leqF rfl rfl (by omega) ?_ | refine s_leq rfl rfl ?_ | refine s_gtrT rfl rfl (by omega) ?_ | refine s_gtrF rfl rfl (by omega) ?_ | refine s_gtr rfl rfl ?_ | refine s_geqT rfl rfl (by omega) ?_ | refine s_geqF rfl rfl (by omega) ?_ | refine s_geq rfl rfl ?_ | refine s_add rfl rfl ⟨by omega, by omega⟩ ?_ | refine s_sub rfl rfl ⟨by omega, by omega⟩ ?_) | (refine isCall ?_; first | refine s_lenI sl_ints rfl (by assumption) ?_ | refine s_lenR sl_rows rfl (by assumption) ?_ | refine s_len sl_ints rfl ?_ | refine s_len sl_rows rfl ?_) | (refine isIA ?_; refine s_ixI sl_ints ty_int rfl rfl rfl (by assumption) (by omega) ?_; intro _) | (refine isPick ?_; first | refine s_pickt rfl rfl ?_ | refine s_pickf rfl rfl ?_) | (refine isLD ?_; first | refine s_ldA ty_int rfl (by assumption) rfl ?_ | refine s_ldA ty_ints rfl (by assumption) rfl ?_) | refine s_extract rfl rfl ?_ | refine s_not rfl ?_) | (refine isC ?_; first | refine c_sr ?_ | refine c_th ?_ | refine c_seq ?_ | refine c_region ?_ | refine c_ift rfl ?_ | refine c_iff rfl ?_ | refine c_block ?_ | refine c_ret ?_ | refine c_exit ?_ | refine c_skip ?_) | (first | refine l_th ?_ | refine th_norm ?_ | refine ib_norm ?_ | refine l_nil ?_ | refine th_ret ?_ | refine ib_ret ?_ | refine ib_exit ?_ | refine th_exit ?_ | refine ib_pass rfl ?_))
  refine c_scope _ 0 rfl ?_
  repeat (first | (refine isO ?_; first | refine s_move ?_ | refine s_assign ?_ | (refine isG ?_; first | refine g_yes rfl rfl ?_ | refine g_no rfl rfl rfl ?_ | refine g_un rfl rfl ?_) | (refine isBin ?_; first | refine s_inc rfl (by omega) ?_ | refine s_lssT rfl rfl (by omega) ?_ | refine s_lssF rfl rfl (by omega) ?_ | refine s_lss rfl rfl ?_ | refine s_eqlT rfl rfl (by omega) ?_ | refine s_eqlF rfl rfl (by omega) ?_ | refine s_eql rfl rfl ?_ | refine s_neqT rfl rfl (by omega) ?_ | refine s_neqF rfl rfl (by omega) ?_ | refine s_neq rfl rfl ?_ | refine s_leqT rfl rfl (by omega) ?_ | refine s_leqF rfl rfl (by omega) ?_ | refine s_leq rfl rfl ?_ | refine s_gtrT rfl rfl (by omega) ?_ | refine s_gtrF rfl rfl (by omega) ?_ | refine s_gtr rfl rfl ?_ | refine s_geqT rfl rfl (by omega) ?_ | refine s_geqF rfl rfl (by omega) ?_ | refine s_geq rfl rfl ?_ | refine s_add rfl rfl ⟨by omega, by omega⟩ ?_ | refine s_sub rfl rfl ⟨by omega, by omega⟩ ?_) | (refine isCall ?_; first | refine s_lenI sl_ints rfl (by assumption) ?_ | refine s_lenR sl_rows rfl (by assumption) ?_ | refine s_len sl_ints rfl ?_ | refine s_len sl_rows rfl ?_) | (refine isIA ?_; refine s_ixI sl_ints ty_int rfl rfl rfl (by assumption) (by omega) ?_; intro _) | (refine isPick ?_; first | refine s_pickt rfl rfl ?_ | refine s_pickf rfl rfl ?_) | (refine isLD ?_; first | refine s_ldA ty_int rfl (by assumption) rfl ?_ | refine s_ldA ty_ints rfl (by assumption) rfl ?_) | refine s_extract rfl rfl ?_ | refine s_not rfl ?_) | (refine isC ?_; first | refine c_sr ?_ | refine c_th ?_ | refine c_seq ?_ | refine c_region ?_ | refine c_ift rfl ?_ | refine c_iff rfl ?_ | refine c_block ?_ | refine c_ret ?_ | refine c_exit ?_ | refine c_skip ?_) | (first | refine l_th ?_ | refine th_norm ?_ | refine ib_norm ?_ | refine l_nil ?_ | refine th_ret ?_ | refine ib_ret ?_ | refine ib_exit ?_ | refine th_exit ?_ | refine ib_pass rfl ?_))
  refine c_loop (γ := Nat) 9671406556917033397649232 (fun j => [(6, .int .i64 (j : Int))]) (fun j W => j ≤ 9 ∧ ∃ w1 ws1, GS has wB W b hb gv hv w1 ws1 ∧ BI R m n has a w1 ws1 ∧ Free has w1 ∧ bfsR R n (holdN has has.length) 9 0 (fun _ => 0) [a] = bfsR R n (holdN has has.length) (9 - j) j w1 ws1) (fun j => 9 - j) 0 ⟨rfl, trivial⟩
    ⟨by omega, _, _, hG, BI.start ham, fun k (h : 0 < 0) => by omega, rfl⟩ ?_
  rintro j ρ W ⟨hj, hI⟩
  refine Exists.elim hI fun w1 hI => Exists.elim hI fun ws1 hI => ?_
  have hS := hI.1
  have hB := hI.2.1
  have hfr := hI.2.2.1
  have htg := hI.2.2.2
  refine Exists.elim hS fun wv hv' => ?_
  have hA := hv'.1
  have hL := hv'.2.1
  have hnb := hv'.2.2.1
  have hO := hv'.2.2.2.1
  have hxW := hv'.2.2.2.2
  have hwl := hB.len
  have hwI := wsI_len ws1
  have hIw := hL.ints (by omega)
  repeat (first | (refine isO ?_; first | refine s_move ?_ | refine s_assign ?_ | (refine isG ?_; first | refine g_yes rfl rfl ?_ | refine g_no rfl rfl rfl ?_ | refine g_un rfl rfl ?_) | (refine isBin ?_; first | refine s_inc rfl (by omega) ?_ | refine s_lssT rfl rfl (by omega) ?_ | refine s_lssF rfl rfl (by omega) ?_ | refine s_lss rfl rfl ?_ | refine s_eqlT rfl rfl (by omega) ?_ | refine s_eqlF rfl rfl (by omega) ?_ | refine s_eql rfl rfl ?_ | refine s_neqT rfl rfl (by omega) ?_ | refine s_neqF rfl rfl (by omega) ?_ | refine s_neq rfl rfl ?_ | refine s_leqT rfl rfl (by omega) ?_ | refine s_leqF rfl rfl (by omega) ?_ | refine s_leq rfl rfl ?_ | refine s_gtrT rfl rfl (by omega) ?_ | refine s_gtrF rfl rfl (by omega) ?_ | refine s_gtr rfl rfl ?_ | refine s_geqT rfl rfl (by omega) ?_ | refine s_geqF rfl rfl (by omega) ?_ | refine s_geq rfl rfl ?_ | refine s_add rfl rfl ⟨by omega, by omega⟩ ?_ | refine s_sub rfl rfl ⟨by omega, by omega⟩ ?_) | (refine isCall ?_; first | refine s_lenI sl_ints rfl (by assumption) ?_ | refine s_lenR sl_rows rfl (by assumption) ?_ | refine s_len sl_ints rfl ?_ | refine s_len sl_rows rfl ?_) | (refine isIA ?_; refine s_ixI sl_ints ty_int rfl rfl rfl (by assumption) (by omega) ?_; intro _) | (refine isPick ?_; first | refine s_pickt rfl rfl ?_ | refine s_pickf rfl rfl ?_) | (refine isLD ?_; first | refine s_ldA ty_int rfl (by assumption) rfl ?_ | refine s_ldA ty_ints rfl (by assumption) rfl ?_) | refine s_extract rfl rfl ?_ | refine s_not rfl ?_) | (refine isC ?_; first | refine c_sr ?_ | refine c_th ?_ | refine c_seq ?_ | refine c_region ?_ | refine c_ift rfl ?_ | refine c_iff rfl ?_ | refine c_block ?_ | refine c_ret ?_ | refine c_exit ?_ | refine c_skip ?_) | (first | refine l_th ?_ | refine th_norm ?_ | refine ib_norm ?_ | refine l_nil ?_ | refine th_ret ?_ | refine ib_ret ?_ | refine ib_exit ?_ | refine th_exit ?_ | refine ib_pass rfl ?_))
  refine s_nil rfl ?_
  refine s_faN u_search rfl tyn_ints rfl ?_
  refine s_ldA ty_ints rfl hA rfl ?_
  repeat (first | (refine isO ?_; first | refine s_move ?_ | refine s_assign ?_ | (refine isG ?_; first | refine g_yes rfl rfl ?_ | refine g_no rfl rfl rfl ?_ | refine g_un rfl rfl ?_) | (refine isBin ?_; first | refine s_inc rfl (by omega) ?_ | refine s_lssT rfl rfl (by omega) ?_ | refine s_lssF rfl rfl (by omega) ?_ | refine s_lss rfl rfl ?_ | refine s_eqlT rfl rfl (by omega) ?_ | refine s_eqlF rfl rfl (by omega) ?_ | refine s_eql rfl rfl ?_ | refine s_neqT rfl rfl (by omega) ?_ | refine s_neqF rfl rfl (by omega) ?_ | refine s_neq rfl rfl ?_ | refine s_leqT rfl rfl (by omega) ?_ | refine s_leqF rfl rfl (by omega) ?_ | refine s_leq rfl rfl ?_ | refine s_gtrT rfl rfl (by omega) ?_ | refine s_gtrF rfl rfl (by omega) ?_ | refine s_gtr rfl rfl ?_ | refine s_geqT rfl rfl (by omega) ?_ | refine s_geqF rfl rfl (by omega) ?_ | refine s_geq rfl rfl ?_ | refine s_add rfl rfl ⟨by omega, by omega⟩ ?_ | refine s_sub rfl rfl ⟨by omega, by omega⟩ ?_) | (refine isCall ?_; first | refine s_lenI sl_ints rfl (by assumption) ?_ | refine s_lenR sl_rows rfl (by assumption) ?_ | refine s_len sl_ints rfl ?_ | refine s_len sl_rows rfl ?_) | (refine isIA ?_; refine s_ixI sl_ints ty_int rfl rfl rfl (by assumption) (by omega) ?_; intro _) | (refine isPick ?_; first | refine s_pickt rfl rfl ?_ | refine s_pickf rfl rfl ?_) | (refine isLD ?_; first | refine s_ldA ty_int rfl (by assumption) rfl ?_ | refine s_ldA ty_ints rfl (by assumption) rfl ?_) | refine s_extract rfl rfl ?_ | refine s_not rfl ?_) | (refine isC ?_; first | refine c_sr ?_ | refine c_th ?_ | refine c_seq ?_ | refine c_region ?_ | refine c_ift rfl ?_ | refine c_iff rfl ?_ | refine c_block ?_ | refine c_ret ?_ | refine c_exit ?_ | refine c_skip ?_) | (first | refine l_th ?_ | refine th_norm ?_ | refine ib_norm ?_ | refine l_nil ?_ | refine th_ret ?_ | refine ib_ret ?_ | refine ib_exit ?_ | refine th_exit ?_ | refine ib_pass rfl ?_))
  refine c_ifd rfl (fun h => ?_) (fun h => ?_)
  · have hj' : j < ws1.length := by omega
    refine Exists.elim (show ∃ bb, ws1[j]? = some bb from ⟨ws1[j], by simp [hj']⟩) fun bb hbb => ?_
    have hbm := hB.bnd bb (List.mem_iff_getElem?.2 ⟨j, hbb⟩)
    have hget := wsI_get hbb
    have h9 : 9 - j = (8 - j) + 1 := by omega
    rw [h9, bfs_in hbb] at htg
    refine Exists.elim (hg.row (n := bb) (by omega)) fun vs hr => Exists.elim hr fun row hr => ?_
    have hr1 := hr.1
    have hr2 := hr.2.1
    have hr3 := hr.2.2
    rw [gL_row hbm] at hr3
    have hrl := rowL_len n (R bb)
    have hrn := rowN_le n (R bb)
    repeat (first | (refine isO ?_; first | refine s_move ?_ | refine s_assign ?_ | (refine isG ?_; first | refine g_yes rfl rfl ?_ | refine g_no rfl rfl rfl ?_ | refine g_un rfl rfl ?_) | (refine isBin ?_; first | refine s_inc rfl (by omega) ?_ | refine s_lssT rfl rfl (by omega) ?_ | refine s_lssF rfl rfl (by omega) ?_ | refine s_lss rfl rfl ?_ | refine s_eqlT rfl rfl (by omega) ?_ | refine s_eqlF rfl rfl (by omega) ?_ | refine s_eql rfl rfl ?_ | refine s_neqT rfl rfl (by omega) ?_ | refine s_neqF rfl rfl (by omega) ?_ | refine s_neq rfl rfl ?_ | refine s_leqT rfl rfl (by omega) ?_ | refine s_leqF rfl rfl (by omega) ?_ | refine s_leq rfl rfl ?_ | refine s_gtrT rfl rfl (by omega) ?_ | refine s_gtrF rfl rfl (by omega) ?_ | refine s_gtr rfl rfl ?_ | refine s_geqT rfl rfl (by omega) ?_ | refine s_geqF rfl rfl (by omega) ?_ | refine s_geq rfl rfl ?_ | refine s_add rfl rfl ⟨by omega, by omega⟩ ?_ | refine s_sub rfl rfl ⟨by omega, by omega⟩ ?_) | (refine isCall ?_; first | refine s_lenI sl_ints rfl (by assumption) ?_ | refine s_lenR sl_rows rfl (by assumption) ?_ | refine s_len sl_ints rfl ?_ | refine s_len sl_rows rfl ?_) | (refine isIA ?_; refine s_ixI sl_ints ty_int rfl rfl rfl (by assumption) (by omega) ?_; intro _) | (refine isPick ?_; first | refine s_pickt rfl rfl ?_ | refine s_pickf rfl rfl ?_) | (refine isLD ?_; first | refine s_ldA ty_int rfl (by assumption) rfl ?_ | refine s_ldA ty_ints rfl (by assumption) rfl ?_) | refine s_extract rfl rfl ?_ | refine s_not rfl ?_) | (refine isC ?_; first | refine c_sr ?_ | refine c_th ?_ | refine c_seq ?_ | refine c_region ?_ | refine c_ift rfl ?_ | refine c_iff rfl ?_ | refine c_block ?_ | refine c_ret ?_ | refine c_exit ?_ | refine c_skip ?_) | (first | refine l_th ?_ | refine th_norm ?_ | refine ib_norm ?_ | refine l_nil ?_ | refine th_ret ?_ | refine ib_ret ?_ | refine ib_exit ?_ | refine th_exit ?_ | refine ib_pass rfl ?_))
    refine c_drawO (Ex.refl W) 15 8 [(0, true), (1, true), (2, true), (3, true), (4, true), (5, true), (6, true), (7, true), (8, true), (9, true), (10, true), (11, true), (12, true), (13, true), (14, true)] mixed (by kernel_rfl) ?_
    refine d_move rfl ?_
    refine d_nilc rfl rfl ?_
    refine d_faN rfl u_search rfl tyn_rows rfl ?_
    refine d_ldA rfl ty_rows rfl hA rfl ?_
    refine d_move rfl ?_
    refine d_nilc rfl rfl ?_
    refine d_faN rfl u_search rfl tyn_ints rfl ?_
    refine d_ldA rfl ty_ints rfl hA rfl ?_
    refine d_move rfl ?_
    refine d_iaI (n := j) rfl sl_ints ty_int rfl rfl hIw (by omega) ?_
    intro ad1 hc1
    refine d_ld rfl ty_int rfl hc1 ?_
    refine d_ia (n := bb) rfl sl_rows ty_ints rfl (vint hget) (hr1.ex hxW) hr2 ?_
    intro ad2 hc2
    refine d_ld rfl ty_ints rfl hc2 ?_
    refine d_lenIO rfl sl_ints rfl hr3 ?_
    refine d_move rfl ?_
    refine d_nil ?_
    repeat (first | (refine isO ?_; first | refine s_move ?_ | refine s_assign ?_ | (refine isG ?_; first | refine g_yes rfl rfl ?_ | refine g_no rfl rfl rfl ?_ | refine g_un rfl rfl ?_) | (refine isBin ?_; first | refine s_inc rfl (by omega) ?_ | refine s_lssT rfl rfl (by omega) ?_ | refine s_lssF rfl rfl (by omega) ?_ | refine s_lss rfl rfl ?_ | refine s_eqlT rfl rfl (by omega) ?_ | refine s_eqlF rfl rfl (by omega) ?_ | refine s_eql rfl rfl ?_ | refine s_neqT rfl rfl (by omega) ?_ | refine s_neqF rfl rfl (by omega) ?_ | refine s_neq rfl rfl ?_ | refine s_leqT rfl rfl (by omega) ?_ | refine s_leqF rfl rfl (by omega) ?_ | refine s_leq rfl rfl ?_ | refine s_gtrT rfl rfl (by omega) ?_ | refine s_gtrF rfl rfl (by omega) ?_ | refine s_gtr rfl rfl ?_ | refine s_geqT rfl rfl (by omega) ?_ | refine s_geqF rfl rfl (by omega) ?_ | refine s_geq rfl rfl ?_ | refine s_add rfl rfl ⟨by omega, by omega⟩ ?_ | refine s_sub rfl rfl ⟨by omega, by omega⟩ ?_) | (refine isCall ?_; first | refine s_lenI sl_ints rfl (by assumption) ?_ | refine s_lenR sl_rows rfl (by assumption) ?_ | refine s_len sl_ints rfl ?_ | refine s_len sl_rows rfl ?_) | (refine isIA ?_; refine s_ixI sl_ints ty_int rfl rfl rfl (by assumption) (by omega) ?_; intro _) | (refine isPick ?_; first | refine s_pickt rfl rfl ?_ | refine s_pickf rfl rfl ?_) | (refine isLD ?_; first | refine s_ldA ty_int rfl (by assumption) rfl ?_ | refine s_ldA ty_ints rfl (by assumption) rfl ?_) | refine s_extract rfl rfl ?_ | refine s_not rfl ?_) | (refine isC ?_; first | refine c_sr ?_ | refine c_th ?_ | refine c_seq ?_ | refine c_region ?_ | refine c_ift rfl ?_ | refine c_iff rfl ?_ | refine c_block ?_ | refine c_ret ?_ | refine c_exit ?_ | refine c_skip ?_) | (first | refine l_th ?_ | refine th_norm ?_ | refine ib_norm ?_ | refine l_nil ?_ | refine th_ret ?_ | refine ib_ret ?_ | refine ib_exit ?_ | refine th_exit ?_ | refine ib_pass rfl ?_))
    refine c_loop (γ := Nat) 9671406556917029102682384 (fun q => [(32, .int .i64 (q : Int))]) (fun q W' => q ≤ (rowN n (R bb)).length ∧ ∃ w2 ws2, GS has wB W' b hb gv hv w2 ws2 ∧ BI R m n has a w2 ws2 ∧ Free has w2 ∧ ws2[j]? = some bb ∧ bfsR R n (holdN has has.length) 9 0 (fun _ => 0) [a] = contR R n (holdN has has.length) (8 - j) j (scanR (holdN has has.length) bb ((rowN n (R bb)).drop q) w2 ws2)) (fun q => (rowN n (R bb)).length - q) 0 ⟨rfl, trivial⟩
      ⟨Nat.zero_le _, w1, ws1, ⟨wv, hA.ex (Ex.drew W), hL.ex (Ex.drew W), hnb, hO.ex (Ex.drew W), hxW.trans (Ex.drew W)⟩, hB, hfr, hbb, htg⟩ ?_
    rintro q ρ2 W2 ⟨hq, hI2⟩
    refine Exists.elim hI2 fun w2 hI2 => Exists.elim hI2 fun ws2 hI2 => ?_
    have hS2 := hI2.1
    have hB2 := hI2.2.1
    have hfr2 := hI2.2.2.1
    have hbb2 := hI2.2.2.2.1
    have htg2 := hI2.2.2.2.2
    refine Exists.elim hS2 fun wv2 hv2 => ?_
    have hA2 := hv2.1
    have hL2 := hv2.2.1
    have hnb2 := hv2.2.2.1
    have hO2 := hv2.2.2.2.1
    have hxW2 := hv2.2.2.2.2
    have hrow2 := hr3.ex hxW2
    have hwl2 := hB2.len
    have hwI2 := wsI_len ws2
    have hIw2 := hL2.ints (by omega)
    have hget2 := wsI_get hbb2
    repeat (first | (refine isO ?_; first | refine s_move ?_ | refine s_assign ?_ | (refine isG ?_; first | refine g_yes rfl rfl ?_ | refine g_no rfl rfl rfl ?_ | refine g_un rfl rfl ?_) | (refine isBin ?_; first | refine s_inc rfl (by omega) ?_ | refine s_lssT rfl rfl (by omega) ?_ | refine s_lssF rfl rfl (by omega) ?_ | refine s_lss rfl rfl ?_ | refine s_eqlT rfl rfl (by omega) ?_ | refine s_eqlF rfl rfl (by omega) ?_ | refine s_eql rfl rfl ?_ | refine s_neqT rfl rfl (by omega) ?_ | refine s_neqF rfl rfl (by omega) ?_ | refine s_neq rfl rfl ?_ | refine s_leqT rfl rfl (by omega) ?_ | refine s_leqF rfl rfl (by omega) ?_ | refine s_leq rfl rfl ?_ | refine s_gtrT rfl rfl (by omega) ?_ | refine s_gtrF rfl rfl (by omega) ?_ | refine s_gtr rfl rfl ?_ | refine s_geqT rfl rfl (by omega) ?_ | refine s_geqF rfl rfl (by omega) ?_ | refine s_geq rfl rfl ?_ | refine s_add rfl rfl ⟨by omega, by omega⟩ ?_ | refine s_sub rfl rfl ⟨by omega, by omega⟩ ?_) | (refine isCall ?_; first | refine s_lenI sl_ints rfl (by assumption) ?_ | refine s_lenR sl_rows rfl (by assumption) ?_ | refine s_len sl_ints rfl ?_ | refine s_len sl_rows rfl ?_) | (refine isIA ?_; refine s_ixI sl_ints ty_int rfl rfl rfl (by assumption) (by omega) ?_; intro _) | (refine isPick ?_; first | refine s_pickt rfl rfl ?_ | refine s_pickf rfl rfl ?_) | (refine isLD ?_; first | refine s_ldA ty_int rfl (by assumption) rfl ?_ | refine s_ldA ty_ints rfl (by assumption) rfl ?_) | refine s_extract rfl rfl ?_ | refine s_not rfl ?_) | (refine isC ?_; first | refine c_sr ?_ | refine c_th ?_ | refine c_seq ?_ | refine c_region ?_ | refine c_ift rfl ?_ | refine c_iff rfl ?_ | refine c_block ?_ | refine c_ret ?_ | refine c_exit ?_ | refine c_skip ?_) | (first | refine l_th ?_ | refine th_norm ?_ | refine ib_norm ?_ | refine l_nil ?_ | refine th_ret ?_ | refine ib_ret ?_ | refine ib_exit ?_ | refine th_exit ?_ | refine ib_pass rfl ?_))
    refine c_ifd rfl (fun h2 => ?_) (fun h2 => ?_)
    · have hq' : q < (rowN n (R bb)).length := by omega
      have hkn := rowN_get hq'
      have hkg := rowL_get n (R bb) hq'
      have hk1 := hkn.1
      have hk2 := hkn.2
      have hk8 : (rowN n (R bb)).getD q 0 < 8 := by omega
      by_cases h0 : 0 < w2 ((rowN n (R bb)).getD q 0)
      · rw [scan_skip hq' h0] at htg2
        repeat (first | (refine isO ?_; first | refine s_move ?_ | refine s_assign ?_ | (refine isG ?_; first | refine g_yes rfl rfl ?_ | refine g_no rfl rfl rfl ?_ | refine g_un rfl rfl ?_) | (refine isBin ?_; first | refine s_inc rfl (by omega) ?_ | refine s_lssT rfl rfl (by omega) ?_ | refine s_lssF rfl rfl (by omega) ?_ | refine s_lss rfl rfl ?_ | refine s_eqlT rfl rfl (by omega) ?_ | refine s_eqlF rfl rfl (by omega) ?_ | refine s_eql rfl rfl ?_ | refine s_neqT rfl rfl (by omega) ?_ | refine s_neqF rfl rfl (by omega) ?_ | refine s_neq rfl rfl ?_ | refine s_leqT rfl rfl (by omega) ?_ | refine s_leqF rfl rfl (by omega) ?_ | refine s_leq rfl rfl ?_ | refine s_gtrT rfl rfl (by omega) ?_ | refine s_gtrF rfl rfl (by omega) ?_ | refine s_gtr rfl rfl ?_ | refine s_geqT rfl rfl (by omega) ?_ | refine s_geqF rfl rfl (by omega) ?_ | refine s_geq rfl rfl ?_ | refine s_add rfl rfl ⟨by omega, by omega⟩ ?_ | refine s_sub rfl rfl ⟨by omega, by omega⟩ ?_) | (refine isCall ?_; first | refine s_lenI sl_ints rfl (by assumption) ?_ | refine s_lenR sl_rows rfl (by assumption) ?_ | refine s_len sl_ints rfl ?_ | refine s_len sl_rows rfl ?_) | (refine isIA ?_; refine s_ixI sl_ints ty_int rfl rfl rfl (by assumption) (by omega) ?_; intro _) | (refine isPick ?_; first | refine s_pickt rfl rfl ?_ | refine s_pickf rfl rfl ?_) | (refine isLD ?_; first | refine s_ldA ty_int rfl (by assumption) rfl ?_ | refine s_ldA ty_ints rfl (by assumption) rfl ?_) | refine s_extract rfl rfl ?_ | refine s_not rfl ?_) | (refine isC ?_; first | refine c_sr ?_ | refine c_th ?_ | refine c_seq ?_ | refine c_region ?_ | refine c_ift rfl ?_ | refine c_iff rfl ?_ | refine c_block ?_ | refine c_ret ?_ | refine c_exit ?_ | refine c_skip ?_) | (first | refine l_th ?_ | refine th_norm ?_ | refine ib_norm ?_ | refine l_nil ?_ | refine th_ret ?_ | refine ib_ret ?_ | refine ib_exit ?_ | refine th_exit ?_ | refine ib_pass rfl ?_))
        refine s_nil rfl ?_
        refine s_faN u_search rfl tyn_a8 rfl ?_
        refine s_iaO (n := (rowN n (R bb)).getD q 0) u_a8 ty_int rfl (vint hkg) hk8 ?_
        refine s_ldA ty_int rfl hA2 (SE_by hk8) ?_
        refine s_gtrT rfl rfl (by omega) ?_
        repeat (first | (refine isO ?_; first | refine s_move ?_ | refine s_assign ?_ | (refine isG ?_; first | refine g_yes rfl rfl ?_ | refine g_no rfl rfl rfl ?_ | refine g_un rfl rfl ?_) | (refine isBin ?_; first | refine s_inc rfl (by omega) ?_ | refine s_lssT rfl rfl (by omega) ?_ | refine s_lssF rfl rfl (by omega) ?_ | refine s_lss rfl rfl ?_ | refine s_eqlT rfl rfl (by omega) ?_ | refine s_eqlF rfl rfl (by omega) ?_ | refine s_eql rfl rfl ?_ | refine s_neqT rfl rfl (by omega) ?_ | refine s_neqF rfl rfl (by omega) ?_ | refine s_neq rfl rfl ?_ | refine s_leqT rfl rfl (by omega) ?_ | refine s_leqF rfl rfl (by omega) ?_ | refine s_leq rfl rfl ?_ | refine s_gtrT rfl rfl (by omega) ?_ | refine s_gtrF rfl rfl (by omega) ?_ | refine s_gtr rfl rfl ?_ | refine s_geqT rfl rfl (by omega) ?_ | refine s_geqF rfl rfl (by omega) ?_ | refine s_geq rfl rfl ?_ | refine s_add rfl rfl ⟨by omega, by omega⟩ ?_ | refine s_sub rfl rfl ⟨by omega, by omega⟩ ?_) | (refine isCall ?_; first | refine s_lenI sl_ints rfl (by assumption) ?_ | refine s_lenR sl_rows rfl (by assumption) ?_ | refine s_len sl_ints rfl ?_ | refine s_len sl_rows rfl ?_) | (refine isIA ?_; refine s_ixI sl_ints ty_int rfl rfl rfl (by assumption) (by omega) ?_; intro _) | (refine isPick ?_; first | refine s_pickt rfl rfl ?_ | refine s_pickf rfl rfl ?_) | (refine isLD ?_; first | refine s_ldA ty_int rfl (by assumption) rfl ?_ | refine s_ldA ty_ints rfl (by assumption) rfl ?_) | refine s_extract rfl rfl ?_ | refine s_not rfl ?_) | (refine isC ?_; first | refine c_sr ?_ | refine c_th ?_ | refine c_seq ?_ | refine c_region ?_ | refine c_ift rfl ?_ | refine c_iff rfl ?_ | refine c_block ?_ | refine c_ret ?_ | refine c_exit ?_ | refine c_skip ?_) | (first | refine l_th ?_ | refine th_norm ?_ | refine ib_norm ?_ | refine l_nil ?_ | refine th_ret ?_ | refine ib_ret ?_ | refine ib_exit ?_ | refine th_exit ?_ | refine ib_pass rfl ?_))
        exact loop_end (q + 1) (by (repeat (first | exact agree_refl _ _ | refine agree_upd rfl ?_ | refine agree_ext rfl ?_ | refine agree_mask rfl ?_))) ⟨rfl, trivial⟩ ⟨hq', w2, ws2, hS2, hB2, hfr2, hbb2, htg2⟩ (by omega)
      · repeat (first | (refine isO ?_; first | refine s_move ?_ | refine s_assign ?_ | (refine isG ?_; first | refine g_yes rfl rfl ?_ | refine g_no rfl rfl rfl ?_ | refine g_un rfl rfl ?_) | (refine isBin ?_; first | refine s_inc rfl (by omega) ?_ | refine s_lssT rfl rfl (by omega) ?_ | refine s_lssF rfl rfl (by omega) ?_ | refine s_lss rfl rfl ?_ | refine s_eqlT rfl rfl (by omega) ?_ | refine s_eqlF rfl rfl (by omega) ?_ | refine s_eql rfl rfl ?_ | refine s_neqT rfl rfl (by omega) ?_ | refine s_neqF rfl rfl (by omega) ?_ | refine s_neq rfl rfl ?_ | refine s_leqT rfl rfl (by omega) ?_ | refine s_leqF rfl rfl (by omega) ?_ | refine s_leq rfl rfl ?_ | refine s_gtrT rfl rfl (by omega) ?_ | refine s_gtrF rfl rfl (by omega) ?_ | refine s_gtr rfl rfl ?_ | refine s_geqT rfl rfl (by omega) ?_ | refine s_geqF rfl rfl (by omega) ?_ | refine s_geq rfl rfl ?_ | refine s_add rfl rfl ⟨by omega, by omega⟩ ?_ | refine s_sub rfl rfl ⟨by omega, by omega⟩ ?_) | (refine isCall ?_; first | refine s_lenI sl_ints rfl (by assumption) ?_ | refine s_lenR sl_rows rfl (by assumption) ?_ | refine s_len sl_ints rfl ?_ | refine s_len sl_rows rfl ?_) | (refine isIA ?_; refine s_ixI sl_ints ty_int rfl rfl rfl (by assumption) (by omega) ?_; intro _) | (refine isPick ?_; first | refine s_pickt rfl rfl ?_ | refine s_pickf rfl rfl ?_) | (refine isLD ?_; first | refine s_ldA ty_int rfl (by assumption) rfl ?_ | refine s_ldA ty_ints rfl (by assumption) rfl ?_) | refine s_extract rfl rfl ?_ | refine s_not rfl ?_) | (refine isC ?_; first | refine c_sr ?_ | refine c_th ?_ | refine c_seq ?_ | refine c_region ?_ | refine c_ift rfl ?_ | refine c_iff rfl ?_ | refine c_block ?_ | refine c_ret ?_ | refine c_exit ?_ | refine c_skip ?_) | (first | refine l_th ?_ | refine th_norm ?_ | refine ib_norm ?_ | refine l_nil ?_ | refine th_ret ?_ | refine ib_ret ?_ | refine ib_exit ?_ | refine th_exit ?_ | refine ib_pass rfl ?_))
        refine s_nil rfl ?_
        refine s_faN u_search rfl tyn_a8 rfl ?_
        refine s_iaO (n := (rowN n (R bb)).getD q 0) u_a8 ty_int rfl (vint hkg) hk8 ?_
        refine s_ldA ty_int rfl hA2 (SE_by hk8) ?_
        refine s_gtrF rfl rfl (by omega) ?_
        repeat (first | (refine isO ?_; first | refine s_move ?_ | refine s_assign ?_ | (refine isG ?_; first | refine g_yes rfl rfl ?_ | refine g_no rfl rfl rfl ?_ | refine g_un rfl rfl ?_) | (refine isBin ?_; first | refine s_inc rfl (by omega) ?_ | refine s_lssT rfl rfl (by omega) ?_ | refine s_lssF rfl rfl (by omega) ?_ | refine s_lss rfl rfl ?_ | refine s_eqlT rfl rfl (by omega) ?_ | refine s_eqlF rfl rfl (by omega) ?_ | refine s_eql rfl rfl ?_ | refine s_neqT rfl rfl (by omega) ?_ | refine s_neqF rfl rfl (by omega) ?_ | refine s_neq rfl rfl ?_ | refine s_leqT rfl rfl (by omega) ?_ | refine s_leqF rfl rfl (by omega) ?_ | refine s_leq rfl rfl ?_ | refine s_gtrT rfl rfl (by omega) ?_ | refine s_gtrF rfl rfl (by omega) ?_ | refine s_gtr rfl rfl ?_ | refine s_geqT rfl rfl (by omega) ?_ | refine s_geqF rfl rfl (by omega) ?_ | refine s_geq rfl rfl ?_ | refine s_add rfl rfl ⟨by omega, by omega⟩ ?_ | refine s_sub rfl rfl ⟨by omega, by omega⟩ ?_) | (refine isCall ?_; first | refine s_lenI sl_ints rfl (by assumption) ?_ | refine s_lenR sl_rows rfl (by assumption) ?_ | refine s_len sl_ints rfl ?_ | refine s_len sl_rows rfl ?_) | (refine isIA ?_; refine s_ixI sl_ints ty_int rfl rfl rfl (by assumption) (by omega) ?_; intro _) | (refine isPick ?_; first | refine s_pickt rfl rfl ?_ | refine s_pickf rfl rfl ?_) | (refine isLD ?_; first | refine s_ldA ty_int rfl (by assumption) rfl ?_ | refine s_ldA ty_ints rfl (by assumption) rfl ?_) | refine s_extract rfl rfl ?_ | refine s_not rfl ?_) | (refine isC ?_; first | refine c_sr ?_ | refine c_th ?_ | refine c_seq ?_ | refine c_region ?_ | refine c_ift rfl ?_ | refine c_iff rfl ?_ | refine c_block ?_ | refine c_ret ?_ | refine c_exit ?_ | refine c_skip ?_) | (first | refine l_th ?_ | refine th_norm ?_ | refine ib_norm ?_ | refine l_nil ?_ | refine th_ret ?_ | refine ib_ret ?_ | refine ib_exit ?_ | refine th_exit ?_ | refine ib_pass rfl ?_))
        refine c_drawO (Ex.refl W2) 13 8 [(0, true), (1, true), (2, true), (3, true), (4, true), (5, true), (6, true), (7, true), (8, true), (9, true), (10, true), (11, true), (12, true), (13, false)] mixed (by kernel_rfl) ?_
        refine d_move rfl ?_
        refine d_move rfl ?_
        refine d_move rfl ?_
        refine d_nilc rfl rfl ?_
        refine d_faN rfl u_search rfl tyn_ints rfl ?_
        refine d_ldA rfl ty_ints rfl hA2 rfl ?_
        refine d_move rfl ?_
        refine d_iaI (n := j) rfl sl_ints ty_int rfl rfl hIw2 (by have := (List.getElem?_eq_some_iff.1 hbb2).1; omega) ?_
        intro ad3 hc3
        refine d_ld rfl ty_int rfl hc3 ?_
        refine d_add rfl rfl rfl ⟨by omega, by omega⟩ ?_
        refine d_nilc rfl rfl ?_
        refine d_faN rfl u_search rfl tyn_a8 rfl ?_
        refine d_iaO (n := (rowN n (R bb)).getD q 0) rfl u_a8 ty_int rfl (vint hkg) hk8 ?_
        refine d_ch rfl ?_
        refine s_stA (n := 3 + (rowN n (R bb)).getD q 0) (u := .int .i64 ((bb + 1 : Nat) : Int)) ty_int rfl (vint (by omega)) rfl (hA2.ex (Ex.drew W2)) (by rw [SE_len]; omega) ?_
        intro W3 hA3 hg3
        rw [SE_set_by hk8] at hA3
        have hgd : W2.grownBy W3 (some b) := gb_trans (Ex.drew W2).grown_to hg3
        have hL3 := hL2.kept hgd (.inr hnb2.2)
        have hO3 := hO2.grown hgd (fun e => hne (Option.some.inj e).symm)
        have hx3 := hxW2.store hgd hbB
        have hIw3 := hL3.ints (by omega)
        refine l_nil ⟨rfl, .inl rfl, ?_⟩
        refine d_nil ?_
        by_cases h1 : 0 < holdN has has.length ((rowN n (R bb)).getD q 0)
        · rw [scan_take hq' h0 h1] at htg2
          have hT := hB2.take hF ha hbb2 hk1 hk2 h0 h1
          have hfT := free_take (x := bb + 1) hfr2 h1
          have hh8 := (holdN_pos h1).1
          repeat (first | (refine isO ?_; first | refine s_move ?_ | refine s_assign ?_ | (refine isG ?_; first | refine g_yes rfl rfl ?_ | refine g_no rfl rfl rfl ?_ | refine g_un rfl rfl ?_) | (refine isBin ?_; first | refine s_inc rfl (by omega) ?_ | refine s_lssT rfl rfl (by omega) ?_ | refine s_lssF rfl rfl (by omega) ?_ | refine s_lss rfl rfl ?_ | refine s_eqlT rfl rfl (by omega) ?_ | refine s_eqlF rfl rfl (by omega) ?_ | refine s_eql rfl rfl ?_ | refine s_neqT rfl rfl (by omega) ?_ | refine s_neqF rfl rfl (by omega) ?_ | refine s_neq rfl rfl ?_ | refine s_leqT rfl rfl (by omega) ?_ | refine s_leqF rfl rfl (by omega) ?_ | refine s_leq rfl rfl ?_ | refine s_gtrT rfl rfl (by omega) ?_ | refine s_gtrF rfl rfl (by omega) ?_ | refine s_gtr rfl rfl ?_ | refine s_geqT rfl rfl (by omega) ?_ | refine s_geqF rfl rfl (by omega) ?_ | refine s_geq rfl rfl ?_ | refine s_add rfl rfl ⟨by omega, by omega⟩ ?_ | refine s_sub rfl rfl ⟨by omega, by omega⟩ ?_) | (refine isCall ?_; first | refine s_lenI sl_ints rfl (by assumption) ?_ | refine s_lenR sl_rows rfl (by assumption) ?_ | refine s_len sl_ints rfl ?_ | refine s_len sl_rows rfl ?_) | (refine isIA ?_; refine s_ixI sl_ints ty_int rfl rfl rfl (by assumption) (by omega) ?_; intro _) | (refine isPick ?_; first | refine s_pickt rfl rfl ?_ | refine s_pickf rfl rfl ?_) | (refine isLD ?_; first | refine s_ldA ty_int rfl (by assumption) rfl ?_ | refine s_ldA ty_ints rfl (by assumption) rfl ?_) | refine s_extract rfl rfl ?_ | refine s_not rfl ?_) | (refine isC ?_; first | refine c_sr ?_ | refine c_th ?_ | refine c_seq ?_ | refine c_region ?_ | refine c_ift rfl ?_ | refine c_iff rfl ?_ | refine c_block ?_ | refine c_ret ?_ | refine c_exit ?_ | refine c_skip ?_) | (first | refine l_th ?_ | refine th_norm ?_ | refine ib_norm ?_ | refine l_nil ?_ | refine th_ret ?_ | refine ib_ret ?_ | refine ib_exit ?_ | refine th_exit ?_ | refine ib_pass rfl ?_))
          refine s_nil rfl ?_
          refine s_faN u_search rfl tyn_a8 rfl ?_
          refine s_iaO (n := (rowN n (R bb)).getD q 0) u_a8 ty_int rfl (vint hkg) hk8 ?_
          refine s_ldA ty_int rfl hA3 (SE_ho hk8) ?_
          refine s_gtrT rfl rfl (by omega) ?_
          repeat (first | (refine isO ?_; first | refine s_move ?_ | refine s_assign ?_ | (refine isG ?_; first | refine g_yes rfl rfl ?_ | refine g_no rfl rfl rfl ?_ | refine g_un rfl rfl ?_) | (refine isBin ?_; first | refine s_inc rfl (by omega) ?_ | refine s_lssT rfl rfl (by omega) ?_ | refine s_lssF rfl rfl (by omega) ?_ | refine s_lss rfl rfl ?_ | refine s_eqlT rfl rfl (by omega) ?_ | refine s_eqlF rfl rfl (by omega) ?_ | refine s_eql rfl rfl ?_ | refine s_neqT rfl rfl (by omega) ?_ | refine s_neqF rfl rfl (by omega) ?_ | refine s_neq rfl rfl ?_ | refine s_leqT rfl rfl (by omega) ?_ | refine s_leqF rfl rfl (by omega) ?_ | refine s_leq rfl rfl ?_ | refine s_gtrT rfl rfl (by omega) ?_ | refine s_gtrF rfl rfl (by omega) ?_ | refine s_gtr rfl rfl ?_ | refine s_geqT rfl rfl (by omega) ?_ | refine s_geqF rfl rfl (by omega) ?_ | refine s_geq rfl rfl ?_ | refine s_add rfl rfl ⟨by omega, by omega⟩ ?_ | refine s_sub rfl rfl ⟨by omega, by omega⟩ ?_) | (refine isCall ?_; first | refine s_lenI sl_ints rfl (by assumption) ?_ | refine s_lenR sl_rows rfl (by assumption) ?_ | refine s_len sl_ints rfl ?_ | refine s_len sl_rows rfl ?_) | (refine isIA ?_; refine s_ixI sl_ints ty_int rfl rfl rfl (by assumption) (by omega) ?_; intro _) | (refine isPick ?_; first | refine s_pickt rfl rfl ?_ | refine s_pickf rfl rfl ?_) | (refine isLD ?_; first | refine s_ldA ty_int rfl (by assumption) rfl ?_ | refine s_ldA ty_ints rfl (by assumption) rfl ?_) | refine s_extract rfl rfl ?_ | refine s_not rfl ?_) | (refine isC ?_; first | refine c_sr ?_ | refine c_th ?_ | refine c_seq ?_ | refine c_region ?_ | refine c_ift rfl ?_ | refine c_iff rfl ?_ | refine c_block ?_ | refine c_ret ?_ | refine c_exit ?_ | refine c_skip ?_) | (first | refine l_th ?_ | refine th_norm ?_ | refine ib_norm ?_ | refine l_nil ?_ | refine th_ret ?_ | refine ib_ret ?_ | refine ib_exit ?_ | refine th_exit ?_ | refine ib_pass rfl ?_))
          refine c_drawJ (fun W' => At W' b 81 (SE gv hv wv2 (fset w2 ((rowN n (R bb)).getD q 0) (bb + 1)) (holdN has has.length))) (hA3.ex (Ex.drew W3)) 16 8 [(0, true), (1, true), (2, true), (3, true), (4, true), (5, true), (6, true), (7, true), (8, true), (9, true), (10, true), (11, true), (12, false), (13, false), (14, true), (15, true), (16, false)] mixed (by kernel_rfl) ?_
          refine d_move rfl ?_
          refine d_move rfl ?_
          refine d_nilc rfl rfl ?_
          refine d_faN rfl u_search rfl tyn_ints rfl ?_
          refine d_ldJ rfl ty_ints rfl (fun _ h => h) rfl ?_
          refine d_move rfl ?_
          refine d_move rfl ?_
          refine d_nilc rfl rfl ?_
          refine d_faN rfl u_search rfl tyn_a8 rfl ?_
          refine d_iaO (n := (rowN n (R bb)).getD q 0) rfl u_a8 ty_int rfl (vint hkg) hk8 ?_
          refine d_ldJ rfl ty_int rfl (fun _ h => h) (SE_ho hk8) ?_
          refine d_sub rfl rfl rfl ⟨by omega, by omega⟩ ?_
          refine d_re (v' := .int .i64 ((holdN has has.length ((rowN n (R bb)).getD q 0) - 1 : Nat) : Int)) (vint (by omega)) ?_
          refine d_ch rfl ?_
          refine s_bs1 sl_ints in_int rfl rfl ?_
          intro b4 W4 hb4 hA4 hx4 hs4
          have hx34 := (Ex.drew W3).trans hx4
          refine l_nil ⟨rfl, .inr (hA3.ex hx34), ?_⟩
          refine d_ch rfl ?_
          refine s_lappG sl_ints in_int (hL3.ex hx34) hA4.one rfl rfl (by simp; omega) (hx3.trans hx34) ?_
          intro v' W5 hL5 hx5 hg5 hf5
          have hA5 := (hA3.ex hx34).grown hg5 hnb2.2
          have hO5 := (hO3.ex hx34).grown hg5 hnb2.1
          have hlb := hA3.lt
          have hlh := hO3.lt
          have z34 := hx34.size
          have hn5 : v'.ownBlock ≠ some hb ∧ v'.ownBlock ≠ some b := by
            refine Or.elim hf5 (fun e => by rw [e]; exact hnb2) (fun hf => ⟨fun e => ?_, fun e => ?_⟩)
            · have := hf hb e; omega
            · have := hf b e; omega
          rw [← wsI_snoc] at hL5
          refine l_nil ⟨rfl, .inr hA5, ?_⟩
          refine d_nilc rfl rfl ?_
          refine d_faN rfl u_search rfl tyn_ints rfl ?_
          refine d_ch rfl ?_
          refine s_stA (n := 2) (u := v') ty_ints rfl rfl hL5.one hA5 (by rw [SE_len]; omega) ?_
          intro W6 hA6 hg6
          have hL6 := hL5.kept hg6 (.inr hn5.2)
          have hO6 := hO5.grown hg6 (fun e => hne (Option.some.inj e).symm)
          have hx6 := hx5.store hg6 hbB
          refine l_nil ⟨rfl, .inl rfl, ?_⟩
          refine d_nil ?_
          repeat (first | (refine isO ?_; first | refine s_move ?_ | refine s_assign ?_ | (refine isG ?_; first | refine g_yes rfl rfl ?_ | refine g_no rfl rfl rfl ?_ | refine g_un rfl rfl ?_) | (refine isBin ?_; first | refine s_inc rfl (by omega) ?_ | refine s_lssT rfl rfl (by omega) ?_ | refine s_lssF rfl rfl (by omega) ?_ | refine s_lss rfl rfl ?_ | refine s_eqlT rfl rfl (by omega) ?_ | refine s_eqlF rfl rfl (by omega) ?_ | refine s_eql rfl rfl ?_ | refine s_neqT rfl rfl (by omega) ?_ | refine s_neqF rfl rfl (by omega) ?_ | refine s_neq rfl rfl ?_ | refine s_leqT rfl rfl (by omega) ?_ | refine s_leqF rfl rfl (by omega) ?_ | refine s_leq rfl rfl ?_ | refine s_gtrT rfl rfl (by omega) ?_ | refine s_gtrF rfl rfl (by omega) ?_ | refine s_gtr rfl rfl ?_ | refine s_geqT rfl rfl (by omega) ?_ | refine s_geqF rfl rfl (by omega) ?_ | refine s_geq rfl rfl ?_ | refine s_add rfl rfl ⟨by omega, by omega⟩ ?_ | refine s_sub rfl rfl ⟨by omega, by omega⟩ ?_) | (refine isCall ?_; first | refine s_lenI sl_ints rfl (by assumption) ?_ | refine s_lenR sl_rows rfl (by assumption) ?_ | refine s_len sl_ints rfl ?_ | refine s_len sl_rows rfl ?_) | (refine isIA ?_; refine s_ixI sl_ints ty_int rfl rfl rfl (by assumption) (by omega) ?_; intro _) | (refine isPick ?_; first | refine s_pickt rfl rfl ?_ | refine s_pickf rfl rfl ?_) | (refine isLD ?_; first | refine s_ldA ty_int rfl (by assumption) rfl ?_ | refine s_ldA ty_ints rfl (by assumption) rfl ?_) | refine s_extract rfl rfl ?_ | refine s_not rfl ?_) | (refine isC ?_; first | refine c_sr ?_ | refine c_th ?_ | refine c_seq ?_ | refine c_region ?_ | refine c_ift rfl ?_ | refine c_iff rfl ?_ | refine c_block ?_ | refine c_ret ?_ | refine c_exit ?_ | refine c_skip ?_) | (first | refine l_th ?_ | refine th_norm ?_ | refine ib_norm ?_ | refine l_nil ?_ | refine th_ret ?_ | refine ib_ret ?_ | refine ib_exit ?_ | refine th_exit ?_ | refine ib_pass rfl ?_))
          exact loop_end (q + 1) (by (repeat (first | exact agree_refl _ _ | refine agree_upd rfl ?_ | refine agree_ext rfl ?_ | refine agree_mask rfl ?_))) ⟨rfl, trivial⟩ ⟨hq', _, _, ⟨v', hA6, hL6, hn5, hO6, hx6⟩, hT, hfT, get_app_old hbb2, htg2⟩ (by omega)
        · rw [scan_free hq' h0 h1, cont_some] at htg2
          repeat (first | (refine isO ?_; first | refine s_move ?_ | refine s_assign ?_ | (refine isG ?_; first | refine g_yes rfl rfl ?_ | refine g_no rfl rfl rfl ?_ | refine g_un rfl rfl ?_) | (refine isBin ?_; first | refine s_inc rfl (by omega) ?_ | refine s_lssT rfl rfl (by omega) ?_ | refine s_lssF rfl rfl (by omega) ?_ | refine s_lss rfl rfl ?_ | refine s_eqlT rfl rfl (by omega) ?_ | refine s_eqlF rfl rfl (by omega) ?_ | refine s_eql rfl rfl ?_ | refine s_neqT rfl rfl (by omega) ?_ | refine s_neqF rfl rfl (by omega) ?_ | refine s_neq rfl rfl ?_ | refine s_leqT rfl rfl (by omega) ?_ | refine s_leqF rfl rfl (by omega) ?_ | refine s_leq rfl rfl ?_ | refine s_gtrT rfl rfl (by omega) ?_ | refine s_gtrF rfl rfl (by omega) ?_ | refine s_gtr rfl rfl ?_ | refine s_geqT rfl rfl (by omega) ?_ | refine s_geqF rfl rfl (by omega) ?_ | refine s_geq rfl rfl ?_ | refine s_add rfl rfl ⟨by omega, by omega⟩ ?_ | refine s_sub rfl rfl ⟨by omega, by omega⟩ ?_) | (refine isCall ?_; first | refine s_lenI sl_ints rfl (by assumption) ?_ | refine s_lenR sl_rows rfl (by assumption) ?_ | refine s_len sl_ints rfl ?_ | refine s_len sl_rows rfl ?_) | (refine isIA ?_; refine s_ixI sl_ints ty_int rfl rfl rfl (by assumption) (by omega) ?_; intro _) | (refine isPick ?_; first | refine s_pickt rfl rfl ?_ | refine s_pickf rfl rfl ?_) | (refine isLD ?_; first | refine s_ldA ty_int rfl (by assumption) rfl ?_ | refine s_ldA ty_ints rfl (by assumption) rfl ?_) | refine s_extract rfl rfl ?_ | refine s_not rfl ?_) | (refine isC ?_; first | refine c_sr ?_ | refine c_th ?_ | refine c_seq ?_ | refine c_region ?_ | refine c_ift rfl ?_ | refine c_iff rfl ?_ | refine c_block ?_ | refine c_ret ?_ | refine c_exit ?_ | refine c_skip ?_) | (first | refine l_th ?_ | refine th_norm ?_ | refine ib_norm ?_ | refine l_nil ?_ | refine th_ret ?_ | refine ib_ret ?_ | refine ib_exit ?_ | refine th_exit ?_ | refine ib_pass rfl ?_))
          refine s_nil rfl ?_
          refine s_faN u_search rfl tyn_a8 rfl ?_
          refine s_iaO (n := (rowN n (R bb)).getD q 0) u_a8 ty_int rfl (vint hkg) hk8 ?_
          refine s_ldA ty_int rfl hA3 (SE_ho hk8) ?_
          refine s_gtrF rfl rfl (by omega) ?_
          repeat (first | (refine isO ?_; first | refine s_move ?_ | refine s_assign ?_ | (refine isG ?_; first | refine g_yes rfl rfl ?_ | refine g_no rfl rfl rfl ?_ | refine g_un rfl rfl ?_) | (refine isBin ?_; first | refine s_inc rfl (by omega) ?_ | refine s_lssT rfl rfl (by omega) ?_ | refine s_lssF rfl rfl (by omega) ?_ | refine s_lss rfl rfl ?_ | refine s_eqlT rfl rfl (by omega) ?_ | refine s_eqlF rfl rfl (by omega) ?_ | refine s_eql rfl rfl ?_ | refine s_neqT rfl rfl (by omega) ?_ | refine s_neqF rfl rfl (by omega) ?_ | refine s_neq rfl rfl ?_ | refine s_leqT rfl rfl (by omega) ?_ | refine s_leqF rfl rfl (by omega) ?_ | refine s_leq rfl rfl ?_ | refine s_gtrT rfl rfl (by omega) ?_ | refine s_gtrF rfl rfl (by omega) ?_ | refine s_gtr rfl rfl ?_ | refine s_geqT rfl rfl (by omega) ?_ | refine s_geqF rfl rfl (by omega) ?_ | refine s_geq rfl rfl ?_ | refine s_add rfl rfl ⟨by omega, by omega⟩ ?_ | refine s_sub rfl rfl ⟨by omega, by omega⟩ ?_) | (refine isCall ?_; first | refine s_lenI sl_ints rfl (by assumption) ?_ | refine s_lenR sl_rows rfl (by assumption) ?_ | refine s_len sl_ints rfl ?_ | refine s_len sl_rows rfl ?_) | (refine isIA ?_; refine s_ixI sl_ints ty_int rfl rfl rfl (by assumption) (by omega) ?_; intro _) | (refine isPick ?_; first | refine s_pickt rfl rfl ?_ | refine s_pickf rfl rfl ?_) | (refine isLD ?_; first | refine s_ldA ty_int rfl (by assumption) rfl ?_ | refine s_ldA ty_ints rfl (by assumption) rfl ?_) | refine s_extract rfl rfl ?_ | refine s_not rfl ?_) | (refine isC ?_; first | refine c_sr ?_ | refine c_th ?_ | refine c_seq ?_ | refine c_region ?_ | refine c_ift rfl ?_ | refine c_iff rfl ?_ | refine c_block ?_ | refine c_ret ?_ | refine c_exit ?_ | refine c_skip ?_) | (first | refine l_th ?_ | refine th_norm ?_ | refine ib_norm ?_ | refine l_nil ?_ | refine th_ret ?_ | refine ib_ret ?_ | refine ib_exit ?_ | refine th_exit ?_ | refine ib_pass rfl ?_))
          refine c_goto ?_
          repeat (first | refine th_goto ?_ | refine ib_goto ?_)
          refine sc_goto ?_
          repeat (first | (refine isO ?_; first | refine s_move ?_ | refine s_assign ?_ | (refine isG ?_; first | refine g_yes rfl rfl ?_ | refine g_no rfl rfl rfl ?_ | refine g_un rfl rfl ?_) | (refine isBin ?_; first | refine s_inc rfl (by omega) ?_ | refine s_lssT rfl rfl (by omega) ?_ | refine s_lssF rfl rfl (by omega) ?_ | refine s_lss rfl rfl ?_ | refine s_eqlT rfl rfl (by omega) ?_ | refine s_eqlF rfl rfl (by omega) ?_ | refine s_eql rfl rfl ?_ | refine s_neqT rfl rfl (by omega) ?_ | refine s_neqF rfl rfl (by omega) ?_ | refine s_neq rfl rfl ?_ | refine s_leqT rfl rfl (by omega) ?_ | refine s_leqF rfl rfl (by omega) ?_ | refine s_leq rfl rfl ?_ | refine s_gtrT rfl rfl (by omega) ?_ | refine s_gtrF rfl rfl (by omega) ?_ | refine s_gtr rfl rfl ?_ | refine s_geqT rfl rfl (by omega) ?_ | refine s_geqF rfl rfl (by omega) ?_ | refine s_geq rfl rfl ?_ | refine s_add rfl rfl ⟨by omega, by omega⟩ ?_ | refine s_sub rfl rfl ⟨by omega, by omega⟩ ?_) | (refine isCall ?_; first | refine s_lenI sl_ints rfl (by assumption) ?_ | refine s_lenR sl_rows rfl (by assumption) ?_ | refine s_len sl_ints rfl ?_ | refine s_len sl_rows rfl ?_) | (refine isIA ?_; refine s_ixI sl_ints ty_int rfl rfl rfl (by assumption) (by omega) ?_; intro _) | (refine isPick ?_; first | refine s_pickt rfl rfl ?_ | refine s_pickf rfl rfl ?_) | (refine isLD ?_; first | refine s_ldA ty_int rfl (by assumption) rfl ?_ | refine s_ldA ty_ints rfl (by assumption) rfl ?_) | refine s_extract rfl rfl ?_ | refine s_not rfl ?_) | (refine isC ?_; first | refine c_sr ?_ | refine c_th ?_ | refine c_seq ?_ | refine c_region ?_ | refine c_ift rfl ?_ | refine c_iff rfl ?_ | refine c_block ?_ | refine c_ret ?_ | refine c_exit ?_ | refine c_skip ?_) | (first | refine l_th ?_ | refine th_norm ?_ | refine ib_norm ?_ | refine l_nil ?_ | refine th_ret ?_ | refine ib_ret ?_ | refine ib_exit ?_ | refine th_exit ?_ | refine ib_pass rfl ?_))
          refine ng_ret ?_
          exact ret2 rfl rfl rfl ⟨fset w2 ((rowN n (R bb)).getD q 0) (bb + 1), ws2, ⟨wv2, hA3, hL3, hnb2, hO3, hx3⟩, .inr ⟨(rowN n (R bb)).getD q 0, htg2, congrArg (fun z : Int => Value.tuple #[.int .i64 z, .bool true]) hkg⟩⟩
    · rw [scan_done (by omega), cont_none] at htg2
      repeat (first | (refine isO ?_; first | refine s_move ?_ | refine s_assign ?_ | (refine isG ?_; first | refine g_yes rfl rfl ?_ | refine g_no rfl rfl rfl ?_ | refine g_un rfl rfl ?_) | (refine isBin ?_; first | refine s_inc rfl (by omega) ?_ | refine s_lssT rfl rfl (by omega) ?_ | refine s_lssF rfl rfl (by omega) ?_ | refine s_lss rfl rfl ?_ | refine s_eqlT rfl rfl (by omega) ?_ | refine s_eqlF rfl rfl (by omega) ?_ | refine s_eql rfl rfl ?_ | refine s_neqT rfl rfl (by omega) ?_ | refine s_neqF rfl rfl (by omega) ?_ | refine s_neq rfl rfl ?_ | refine s_leqT rfl rfl (by omega) ?_ | refine s_leqF rfl rfl (by omega) ?_ | refine s_leq rfl rfl ?_ | refine s_gtrT rfl rfl (by omega) ?_ | refine s_gtrF rfl rfl (by omega) ?_ | refine s_gtr rfl rfl ?_ | refine s_geqT rfl rfl (by omega) ?_ | refine s_geqF rfl rfl (by omega) ?_ | refine s_geq rfl rfl ?_ | refine s_add rfl rfl ⟨by omega, by omega⟩ ?_ | refine s_sub rfl rfl ⟨by omega, by omega⟩ ?_) | (refine isCall ?_; first | refine s_lenI sl_ints rfl (by assumption) ?_ | refine s_lenR sl_rows rfl (by assumption) ?_ | refine s_len sl_ints rfl ?_ | refine s_len sl_rows rfl ?_) | (refine isIA ?_; refine s_ixI sl_ints ty_int rfl rfl rfl (by assumption) (by omega) ?_; intro _) | (refine isPick ?_; first | refine s_pickt rfl rfl ?_ | refine s_pickf rfl rfl ?_) | (refine isLD ?_; first | refine s_ldA ty_int rfl (by assumption) rfl ?_ | refine s_ldA ty_ints rfl (by assumption) rfl ?_) | refine s_extract rfl rfl ?_ | refine s_not rfl ?_) | (refine isC ?_; first | refine c_sr ?_ | refine c_th ?_ | refine c_seq ?_ | refine c_region ?_ | refine c_ift rfl ?_ | refine c_iff rfl ?_ | refine c_block ?_ | refine c_ret ?_ | refine c_exit ?_ | refine c_skip ?_) | (first | refine l_th ?_ | refine th_norm ?_ | refine ib_norm ?_ | refine l_nil ?_ | refine th_ret ?_ | refine ib_ret ?_ | refine ib_exit ?_ | refine th_exit ?_ | refine ib_pass rfl ?_))
      exact loop_end (j + 1) (by (repeat (first | exact agree_refl _ _ | refine agree_upd rfl ?_ | refine agree_ext rfl ?_ | refine agree_mask rfl ?_))) ⟨rfl, trivial⟩ ⟨by omega, w2, ws2, hS2, hB2, hfr2, by
        rw [htg2]
        have e9 : 9 - (j + 1) = 8 - j := by omega
        rw [e9]⟩ (by omega)
  · rw [bfs_out (j := j) (w := w1) (ws := ws1) (by omega)] at htg
    repeat (first | (refine isO ?_; first | refine s_move ?_ | refine s_assign ?_ | (refine isG ?_; first | refine g_yes rfl rfl ?_ | refine g_no rfl rfl rfl ?_ | refine g_un rfl rfl ?_) | (refine isBin ?_; first | refine s_inc rfl (by omega) ?_ | refine s_lssT rfl rfl (by omega) ?_ | refine s_lssF rfl rfl (by omega) ?_ | refine s_lss rfl rfl ?_ | refine s_eqlT rfl rfl (by omega) ?_ | refine s_eqlF rfl rfl (by omega) ?_ | refine s_eql rfl rfl ?_ | refine s_neqT rfl rfl (by omega) ?_ | refine s_neqF rfl rfl (by omega) ?_ | refine s_neq rfl rfl ?_ | refine s_leqT rfl rfl (by omega) ?_ | refine s_leqF rfl rfl (by omega) ?_ | refine s_leq rfl rfl ?_ | refine s_gtrT rfl rfl (by omega) ?_ | refine s_gtrF rfl rfl (by omega) ?_ | refine s_gtr rfl rfl ?_ | refine s_geqT rfl rfl (by omega) ?_ | refine s_geqF rfl rfl (by omega) ?_ | refine s_geq rfl rfl ?_ | refine s_add rfl rfl ⟨by omega, by omega⟩ ?_ | refine s_sub rfl rfl ⟨by omega, by omega⟩ ?_) | (refine isCall ?_; first | refine s_lenI sl_ints rfl (by assumption) ?_ | refine s_lenR sl_rows rfl (by assumption) ?_ | refine s_len sl_ints rfl ?_ | refine s_len sl_rows rfl ?_) | (refine isIA ?_; refine s_ixI sl_ints ty_int rfl rfl rfl (by assumption) (by omega) ?_; intro _) | (refine isPick ?_; first | refine s_pickt rfl rfl ?_ | refine s_pickf rfl rfl ?_) | (refine isLD ?_; first | refine s_ldA ty_int rfl (by assumption) rfl ?_ | refine s_ldA ty_ints rfl (by assumption) rfl ?_) | refine s_extract rfl rfl ?_ | refine s_not rfl ?_) | (refine isC ?_; first | refine c_sr ?_ | refine c_th ?_ | refine c_seq ?_ | refine c_region ?_ | refine c_ift rfl ?_ | refine c_iff rfl ?_ | refine c_block ?_ | refine c_ret ?_ | refine c_exit ?_ | refine c_skip ?_) | (first | refine l_th ?_ | refine th_norm ?_ | refine ib_norm ?_ | refine l_nil ?_ | refine th_ret ?_ | refine ib_ret ?_ | refine ib_exit ?_ | refine th_exit ?_ | refine ib_pass rfl ?_))
    refine sc_ret ?_
    exact ret2 rfl rfl rfl ⟨w1, ws1, hS, .inl ⟨htg, rfl⟩⟩
#print axioms goes_ct
end Go.Proofs.Ytkhnohnkcdcajaa.Sal
