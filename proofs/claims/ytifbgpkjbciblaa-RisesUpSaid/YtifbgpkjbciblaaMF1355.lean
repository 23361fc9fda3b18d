/- Texts that YtifbgpkjbciblaaF135 leans on, laid together: P3 P4 P5 P6 P7 P8 H1 H2 H3. -/
import Derived.Test.YtifbgpkjbciblaaMF1354
import Derived.Test.YtifbgpkjbciblaaMF1353
import Derived.Test.YtifbgpkjbciblaaMF1352
section
/- (*paths.search).goes: what the search finds. -/
set_option maxRecDepth 100000
namespace Go.Proofs.Ytifbgpkjbciblaa.Sal
open Go.RowKit
attribute [local irreducible] Go.Code.wpIn Go.wpListIn Ct Ints Rows Sl At Rw WJ
set_option linter.all false
def wsI (ws : List Nat) : List Int := ws.map (fun k : Nat => (k : Int))
theorem wsI_len (ws : List Nat) : (wsI ws).length = ws.length := by simp [wsI]
theorem wsI_get {ws : List Nat} {j b : Nat} (h : ws[j]? = some b) : (wsI ws).getD j 0 = (b : Int) := by
  simp [wsI, List.getD_eq_getElem?_getD, List.getElem?_map, h]
theorem wsI_snoc (ws : List Nat) (x : Nat) : wsI (ws ++ [x]) = wsI ws ++ [(x : Int)] := by simp [wsI]
/-- What is left of a search behind a part of one bidder's row. -/
def contR (R : Nat → Nat → Bool) (n : Nat) (hold : Nat → Nat) (f j : Nat) : Option Nat × (Nat → Nat) × List Nat → Option Nat × (Nat → Nat) × List Nat
  | (some k, w, ws) => (some k, w, ws)
  | (none, w, ws) => bfsR R n hold f (j + 1) w ws
theorem bfs_in {R : Nat → Nat → Bool} {n : Nat} {hold : Nat → Nat} {f j b : Nat} {w : Nat → Nat} {ws : List Nat} (h : ws[j]? = some b) : bfsR R n hold (f + 1) j w ws = contR R n hold f j (scanR hold b (rowN n (R b)) w ws) := by
  have hl := (List.getElem?_eq_some_iff.1 h).1
  have e : ws.getD j 0 = b := by simp [List.getD_eq_getElem?_getD, h]
  rw [bfsR, if_pos hl, e]
  cases scanR hold b (rowN n (R b)) w ws with
  | mk o p => obtain ⟨w', ws'⟩ := p; cases o <;> rfl
theorem bfs_out {R : Nat → Nat → Bool} {n : Nat} {hold : Nat → Nat} {j : Nat} {w : Nat → Nat} {ws : List Nat} (h : ¬ j < ws.length) : ∀ f, bfsR R n hold f j w ws = (none, w, ws)
  | 0 => rfl
  | f + 1 => by rw [bfsR, if_neg h]
theorem drop_at {l : List Nat} {q : Nat} (hq : q < l.length) : l.drop q = l.getD q 0 :: l.drop (q + 1) := by
  rw [List.drop_eq_getElem_cons hq]
  congr 1
  simp [List.getD_eq_getElem?_getD, hq]
section scan
variable {hold : Nat → Nat} {b q : Nat} {l : List Nat} {w : Nat → Nat} {ws : List Nat}
theorem scan_skip (hq : q < l.length) (h : 0 < w (l.getD q 0)) : scanR hold b (l.drop q) w ws = scanR hold b (l.drop (q + 1)) w ws := by
  rw [drop_at hq, scanR, if_pos h]
theorem scan_take (hq : q < l.length) (h : ¬ 0 < w (l.getD q 0)) (h1 : 0 < hold (l.getD q 0)) : scanR hold b (l.drop q) w ws = scanR hold b (l.drop (q + 1)) (fset w (l.getD q 0) (b + 1)) (ws ++ [hold (l.getD q 0) - 1]) := by
  rw [drop_at hq, scanR, if_neg h, if_pos h1]
theorem scan_free (hq : q < l.length) (h : ¬ 0 < w (l.getD q 0)) (h1 : ¬ 0 < hold (l.getD q 0)) : scanR hold b (l.drop q) w ws = (some (l.getD q 0), fset w (l.getD q 0) (b + 1), ws) := by
  rw [drop_at hq, scanR, if_neg h, if_neg h1]
theorem scan_done (hq : ¬ q < l.length) : scanR hold b (l.drop q) w ws = (none, w, ws) := by
  rw [List.drop_of_length_le (by omega), scanR]
end scan
/-- What lies in memory between two steps of the search. -/
def GS (has : List Int) (wB W : World) (b hb : Nat) (gv hv : Value) (w : Nat → Nat) (ws : List Nat) : Prop :=
  ∃ wv, At W b 106 (SE gv hv wv w (holdN has has.length)) ∧ LI wB W 3 wv (wsI ws) ∧ (wv.ownBlock ≠ some hb ∧ wv.ownBlock ≠ some b) ∧ OwnI W 3 hb has.length has ∧ Ex wB W
theorem free_take {has : List Int} {w : Nat → Nat} {k x : Nat} (h : Free has w) (hk : 0 < holdN has has.length k) : Free has (fset w k x) := fun k' hw => by
  by_cases e : k' = k
  · subst e; exact hk
  · rw [fset_other e] at hw; exact h k' hw
theorem cont_some {R : Nat → Nat → Bool} {n : Nat} {hold : Nat → Nat} {f j k : Nat} {w : Nat → Nat} {ws : List Nat} : contR R n hold f j (some k, w, ws) = (some k, w, ws) := rfl
theorem cont_none {R : Nat → Nat → Bool} {n : Nat} {hold : Nat → Nat} {f j : Nat} {w : Nat → Nat} {ws : List Nat} : contR R n hold f j (none, w, ws) = bfsR R n hold f (j + 1) w ws := rfl
attribute [local irreducible] bfsR scanR contR fset holdN
set_option maxHeartbeats 4000000 in
theorem goes_ct {R : Nat → Nat → Bool} {m n : Nat} (hm : m ≤ 8) (hn : n ≤ 8) {gv hv : Value} {has : List Int} {a b hb : Nat} {wB w : World} (hg : Rows wB gv (gL R m n)) (hF : FitR R m n has) (ham : a < m) (ha : has.getD a (-1) = -1) (hbB : wB.heap.size ≤ b) (hhB : wB.heap.size ≤ hb) (hne : hb ≠ b)
    (hG : GS has wB w b hb gv hv (fun _ => 0) [a]) :
    Ct Try.prog 76 #[.pointer (some ⟨b, 0, none⟩), .bool false] w fun u w' => ∃ w1 ws1, GS has wB w' b hb gv hv w1 ws1 ∧
      ((bfsR R n (holdN has has.length) 9 0 (fun _ => 0) [a] = (none, w1, ws1) ∧ u = .tuple #[.int .i64 0, .bool false]) ∨ ∃ k : Nat, bfsR R n (holdN has has.length) 9 0 (fun _ => 0) [a] = (some k, w1, ws1) ∧ u = .tuple #[.int .i64 (k : Int), .bool true]) := by
  have hgl := gL_len R m n
  have hlen := hF.len
  refine enter (N := 84) (vs := [.pointer (some ⟨b, 0, none⟩), .bool false]) Try.func76 rfl rfl rfl ?_
  repeat (first | (refine isO ?_; refine s_assign ?_) | (refine isC ?_; refine c_sr ?_) | (refine l_th ?_))
  refine c_scope _ 0 rfl ?_
  repeat (first | (refine isO ?_; refine s_assign ?_) | (refine isC ?_; first | refine c_sr ?_ | refine c_seq ?_ | refine c_block ?_) | (refine l_th ?_))
  refine c_loop (γ := Nat) 9671406556917033397649232 (fun j => [(6, .int .i64 (j : Int))]) (fun j W => j ≤ 9 ∧ ∃ w1 ws1, GS has wB W b hb gv hv w1 ws1 ∧ BI R m n has a w1 ws1 ∧ Free has w1 ∧ bfsR R n (holdN has has.length) 9 0 (fun _ => 0) [a] = bfsR R n (holdN has has.length) (9 - j) j w1 ws1) (fun j => 9 - j) 0 ⟨rfl, trivial⟩
    ⟨by omega, _, _, hG, BI.start ham, fun k (h : 0 < 0) => by omega, rfl⟩ ?_
  rintro j ρ W ⟨hj, hI⟩
  refine Exists.elim hI fun w1 hI => Exists.elim hI fun ws1 hI => ?_
  have hS := hI.1
  have hB := hI.2.1
  have hfr := hI.2.2.1
  have htg := hI.2.2.2
  refine Exists.elim hS fun wv hv' => ?_
  have hA := hv'.1
  have hL := hv'.2.1
  have hnb := hv'.2.2.1
  have hO := hv'.2.2.2.1
  have hxW := hv'.2.2.2.2
  have hwl := hB.len
  have hwI := wsI_len ws1
  have hIw := hL.ints (by omega)
  repeat (first | (refine isO ?_; refine s_move ?_) | (refine isC ?_; first | refine c_sr ?_ | refine c_seq ?_))
  refine s_nil rfl ?_
  refine s_faN u_search rfl tyn_ints rfl ?_
  refine s_ldA ty_ints rfl hA rfl ?_
  repeat (first | (refine isO ?_; first | (refine isBin ?_; refine s_lss rfl rfl ?_) | (refine isCall ?_; refine s_lenI sl_ints rfl (by assumption) ?_)) | (refine l_th ?_))
  refine c_ifd rfl (fun h => ?_) (fun h => ?_)
  · have hj' : j < ws1.length := by omega
    refine Exists.elim (show ∃ bb, ws1[j]? = some bb from ⟨ws1[j], by simp [hj']⟩) fun bb hbb => ?_
    have hbm := hB.bnd bb (List.mem_iff_getElem?.2 ⟨j, hbb⟩)
    have hget := wsI_get hbb
    have h9 : 9 - j = (8 - j) + 1 := by omega
    rw [h9, bfs_in hbb] at htg
    refine Exists.elim (hg.row (n := bb) (by omega)) fun vs hr => Exists.elim hr fun row hr => ?_
    have hr1 := hr.1
    have hr2 := hr.2.1
    have hr3 := hr.2.2
    rw [gL_row hbm] at hr3
    have hrl := rowL_len n (R bb)
    have hrn := rowN_le n (R bb)
    repeat ((refine isC ?_; first | refine c_th ?_ | refine c_seq ?_ | refine c_block ?_))
    refine c_drawO (Ex.refl W) 0 8 [(0, true), (1, true), (2, true), (3, true), (4, true), (5, true), (6, true), (7, true), (8, true), (9, true), (10, true), (11, true), (12, true), (13, true), (14, true)] mixed (by kernel_rfl) ?_
    refine d_move rfl ?_
    refine d_nilc rfl rfl ?_
    refine d_faN rfl u_search rfl tyn_rows rfl ?_
    refine d_ldA rfl ty_rows rfl hA rfl ?_
    refine d_move rfl ?_
    refine d_nilc rfl rfl ?_
    refine d_faN rfl u_search rfl tyn_ints rfl ?_
    refine d_ldA rfl ty_ints rfl hA rfl ?_
    refine d_move rfl ?_
    refine d_iaI (n := j) rfl sl_ints ty_int rfl rfl hIw (by omega) ?_
    intro ad1 hc1
    refine d_ld rfl ty_int rfl hc1 ?_
    refine d_ia (n := bb) rfl sl_rows ty_ints rfl (vint hget) (hr1.ex hxW) hr2 ?_
    intro ad2 hc2
    refine d_ld rfl ty_ints rfl hc2 ?_
    refine d_lenIO rfl sl_ints rfl hr3 ?_
    refine d_move rfl ?_
    refine d_nil ?_
    repeat ((refine isC ?_; refine c_block ?_))
    refine c_loop (γ := Nat) 9671406556917029102682384 (fun q => [(32, .int .i64 (q : Int))]) (fun q W' => q ≤ (rowN n (R bb)).length ∧ ∃ w2 ws2, GS has wB W' b hb gv hv w2 ws2 ∧ BI R m n has a w2 ws2 ∧ Free has w2 ∧ ws2[j]? = some bb ∧ bfsR R n (holdN has has.length) 9 0 (fun _ => 0) [a] = contR R n (holdN has has.length) (8 - j) j (scanR (holdN has has.length) bb ((rowN n (R bb)).drop q) w2 ws2)) (fun q => (rowN n (R bb)).length - q) 0 ⟨rfl, trivial⟩
      ⟨Nat.zero_le _, w1, ws1, ⟨wv, hA.ex (Ex.drew W), hL.ex (Ex.drew W), hnb, hO.ex (Ex.drew W), hxW.trans (Ex.drew W)⟩, hB, hfr, hbb, htg⟩ ?_
    rintro q ρ2 W2 ⟨hq, hI2⟩
    refine Exists.elim hI2 fun w2 hI2 => Exists.elim hI2 fun ws2 hI2 => ?_
    have hS2 := hI2.1
    have hB2 := hI2.2.1
    have hfr2 := hI2.2.2.1
    have hbb2 := hI2.2.2.2.1
    have htg2 := hI2.2.2.2.2
    refine Exists.elim hS2 fun wv2 hv2 => ?_
    have hA2 := hv2.1
    have hL2 := hv2.2.1
    have hnb2 := hv2.2.2.1
    have hO2 := hv2.2.2.2.1
    have hxW2 := hv2.2.2.2.2
    have hrow2 := hr3.ex hxW2
    have hwl2 := hB2.len
    have hwI2 := wsI_len ws2
    have hIw2 := hL2.ints (by omega)
    have hget2 := wsI_get hbb2
    repeat (first | (refine isO ?_; (refine isBin ?_; refine s_lss rfl rfl ?_)) | (refine isC ?_; first | refine c_sr ?_ | refine c_seq ?_) | (refine l_th ?_))
    refine c_ifd rfl (fun h2 => ?_) (fun h2 => ?_)
    · have hq' : q < (rowN n (R bb)).length := by omega
      have hkn := rowN_get hq'
      have hkg := rowL_get n (R bb) hq'
      have hk1 := hkn.1
      have hk2 := hkn.2
      have hk8 : (rowN n (R bb)).getD q 0 < 8 := by omega
      by_cases h0 : 0 < w2 ((rowN n (R bb)).getD q 0)
      · rw [scan_skip hq' h0] at htg2
        repeat (first | (refine isO ?_; first | refine s_move ?_ | refine s_assign ?_ | (refine isIA ?_; refine s_ixI sl_ints ty_int rfl rfl rfl (by assumption) (by omega) ?_; intro _)) | (refine isC ?_; first | refine c_sr ?_ | refine c_th ?_ | refine c_seq ?_ | refine c_block ?_) | (refine l_th ?_))
        refine s_nil rfl ?_
        refine s_faN u_search rfl tyn_a8 rfl ?_
        refine s_iaO (n := (rowN n (R bb)).getD q 0) u_a8 ty_int rfl (vint hkg) hk8 ?_
        refine s_ldA ty_int rfl hA2 (SE_by hk8) ?_
        refine s_gtrT rfl rfl (by omega) ?_
        repeat (first | (refine isO ?_; first | refine s_move ?_ | (refine isBin ?_; refine s_inc rfl (by omega) ?_)) | (refine isC ?_; first | refine c_region ?_ | refine c_ift rfl ?_ | refine c_exit ?_) | (refine l_th ?_))
        exact loop_end (q + 1) (by (repeat (first | exact agree_refl _ _ | refine agree_upd rfl ?_ | refine agree_ext rfl ?_ | refine agree_mask rfl ?_))) ⟨rfl, trivial⟩ ⟨hq', w2, ws2, hS2, hB2, hfr2, hbb2, htg2⟩ (by omega)
      · repeat (first | (refine isO ?_; first | refine s_move ?_ | refine s_assign ?_ | (refine isIA ?_; refine s_ixI sl_ints ty_int rfl rfl rfl (by assumption) (by omega) ?_; intro _)) | (refine isC ?_; first | refine c_sr ?_ | refine c_th ?_ | refine c_seq ?_ | refine c_block ?_) | (refine l_th ?_))
        refine s_nil rfl ?_
        refine s_faN u_search rfl tyn_a8 rfl ?_
        refine s_iaO (n := (rowN n (R bb)).getD q 0) u_a8 ty_int rfl (vint hkg) hk8 ?_
        refine s_ldA ty_int rfl hA2 (SE_by hk8) ?_
        refine s_gtrF rfl rfl (by omega) ?_
        repeat (first | (refine isC ?_; first | refine c_th ?_ | refine c_seq ?_ | refine c_iff rfl ?_) | (refine l_th ?_))
        refine c_drawO (Ex.refl W2) 8192 8 [(0, true), (1, true), (2, true), (3, true), (4, true), (5, true), (6, true), (7, true), (8, true), (9, true), (10, true), (11, true), (12, true), (13, false)] mixed (by kernel_rfl) ?_
        refine d_move rfl ?_
        refine d_move rfl ?_
        refine d_move rfl ?_
        refine d_nilc rfl rfl ?_
        refine d_faN rfl u_search rfl tyn_ints rfl ?_
        refine d_ldA rfl ty_ints rfl hA2 rfl ?_
        refine d_move rfl ?_
        refine d_iaI (n := j) rfl sl_ints ty_int rfl rfl hIw2 (by have := (List.getElem?_eq_some_iff.1 hbb2).1; omega) ?_
        intro ad3 hc3
        refine d_ld rfl ty_int rfl hc3 ?_
        refine d_add rfl rfl rfl ⟨by omega, by omega⟩ ?_
        refine d_nilc rfl rfl ?_
        refine d_faN rfl u_search rfl tyn_a8 rfl ?_
        refine d_iaO (n := (rowN n (R bb)).getD q 0) rfl u_a8 ty_int rfl (vint hkg) hk8 ?_
        refine d_ch rfl ?_
        refine s_stA (n := 3 + (rowN n (R bb)).getD q 0) (u := .int .i64 ((bb + 1 : Nat) : Int)) ty_int rfl (vint (by omega)) rfl (hA2.ex (Ex.drew W2)) (by rw [SE_len]; omega) ?_
        intro W3 hA3 hg3
        rw [SE_set_by hk8] at hA3
        have hgd : W2.grownBy W3 (some b) := gb_trans (Ex.drew W2).grown_to hg3
        have hL3 := hL2.kept hgd (.inr hnb2.2)
        have hO3 := hO2.grown hgd (fun e => hne (Option.some.inj e).symm)
        have hx3 := hxW2.store hgd hbB
        have hIw3 := hL3.ints (by omega)
        refine l_nil ⟨rfl, .inl rfl, ?_⟩
        refine d_nil ?_
        by_cases h1 : 0 < holdN has has.length ((rowN n (R bb)).getD q 0)
        · rw [scan_take hq' h0 h1] at htg2
          have hT := hB2.take hF ha hbb2 hk1 hk2 h0 h1
          have hfT := free_take (x := bb + 1) hfr2 h1
          have hh8 := (holdN_pos h1).1
          repeat (first | (refine isO ?_; refine s_move ?_) | (refine isC ?_; first | refine c_sr ?_ | refine c_seq ?_))
          refine s_nil rfl ?_
          refine s_faN u_search rfl tyn_a8 rfl ?_
          refine s_iaO (n := (rowN n (R bb)).getD q 0) u_a8 ty_int rfl (vint hkg) hk8 ?_
          refine s_ldA ty_int rfl hA3 (SE_ho hk8) ?_
          refine s_gtrT rfl rfl (by omega) ?_
          repeat (first | (refine isC ?_; first | refine c_seq ?_ | refine c_ift rfl ?_) | (refine l_th ?_))
          refine c_drawJ (fun W' => At W' b 106 (SE gv hv wv2 (fset w2 ((rowN n (R bb)).getD q 0) (bb + 1)) (holdN has has.length))) (hA3.ex (Ex.drew W3)) 65536 8 [(0, true), (1, true), (2, true), (3, true), (4, true), (5, true), (6, true), (7, true), (8, true), (9, true), (10, true), (11, true), (12, false), (13, false), (14, true), (15, true), (16, false)] mixed (by kernel_rfl) ?_
          refine d_move rfl ?_
          refine d_move rfl ?_
          refine d_nilc rfl rfl ?_
          refine d_faN rfl u_search rfl tyn_ints rfl ?_
          refine d_ldJ rfl ty_ints rfl (fun _ h => h) rfl ?_
          refine d_move rfl ?_
          refine d_move rfl ?_
          refine d_nilc rfl rfl ?_
          refine d_faN rfl u_search rfl tyn_a8 rfl ?_
          refine d_iaO (n := (rowN n (R bb)).getD q 0) rfl u_a8 ty_int rfl (vint hkg) hk8 ?_
          refine d_ldJ rfl ty_int rfl (fun _ h => h) (SE_ho hk8) ?_
          refine d_sub rfl rfl rfl ⟨by omega, by omega⟩ ?_
          refine d_re (v' := .int .i64 ((holdN has has.length ((rowN n (R bb)).getD q 0) - 1 : Nat) : Int)) (vint (by omega)) ?_
          refine d_ch rfl ?_
          refine s_bs1 sl_ints in_int rfl rfl ?_
          intro b4 W4 hb4 hA4 hx4 hs4
          have hx34 := (Ex.drew W3).trans hx4
          refine l_nil ⟨rfl, .inr (hA3.ex hx34), ?_⟩
          refine d_ch rfl ?_
          refine s_lappG sl_ints in_int (hL3.ex hx34) hA4.one rfl rfl (by simp; omega) (hx3.trans hx34) ?_
          intro v' W5 hL5 hx5 hg5 hf5
          have hA5 := (hA3.ex hx34).grown hg5 hnb2.2
          have hO5 := (hO3.ex hx34).grown hg5 hnb2.1
          have hlb := hA3.lt
          have hlh := hO3.lt
          have z34 := hx34.size
          have hn5 : v'.ownBlock ≠ some hb ∧ v'.ownBlock ≠ some b := by
            refine Or.elim hf5 (fun e => by rw [e]; exact hnb2) (fun hf => ⟨fun e => ?_, fun e => ?_⟩)
            · have := hf hb e; omega
            · have := hf b e; omega
          rw [← wsI_snoc] at hL5
          refine l_nil ⟨rfl, .inr hA5, ?_⟩
          refine d_nilc rfl rfl ?_
          refine d_faN rfl u_search rfl tyn_ints rfl ?_
          refine d_ch rfl ?_
          refine s_stA (n := 2) (u := v') ty_ints rfl rfl hL5.one hA5 (by rw [SE_len]; omega) ?_
          intro W6 hA6 hg6
          have hL6 := hL5.kept hg6 (.inr hn5.2)
          have hO6 := hO5.grown hg6 (fun e => hne (Option.some.inj e).symm)
          have hx6 := hx5.store hg6 hbB
          refine l_nil ⟨rfl, .inl rfl, ?_⟩
          refine d_nil ?_
          repeat (first | (refine isO ?_; first | refine s_move ?_ | (refine isBin ?_; refine s_inc rfl (by omega) ?_)) | (refine isC ?_; first | refine c_region ?_ | refine c_exit ?_) | (refine l_th ?_))
          exact loop_end (q + 1) (by (repeat (first | exact agree_refl _ _ | refine agree_upd rfl ?_ | refine agree_ext rfl ?_ | refine agree_mask rfl ?_))) ⟨rfl, trivial⟩ ⟨hq', _, _, ⟨v', hA6, hL6, hn5, hO6, hx6⟩, hT, hfT, get_app_old hbb2, htg2⟩ (by omega)
        · rw [scan_free hq' h0 h1, cont_some] at htg2
          repeat (first | (refine isO ?_; refine s_move ?_) | (refine isC ?_; first | refine c_sr ?_ | refine c_seq ?_))
          refine s_nil rfl ?_
          refine s_faN u_search rfl tyn_a8 rfl ?_
          refine s_iaO (n := (rowN n (R bb)).getD q 0) u_a8 ty_int rfl (vint hkg) hk8 ?_
          refine s_ldA ty_int rfl hA3 (SE_ho hk8) ?_
          refine s_gtrF rfl rfl (by omega) ?_
          repeat (first | (refine isO ?_; first | refine s_move ?_ | refine s_assign ?_ | refine s_not rfl ?_) | (refine isC ?_; first | refine c_sr ?_ | refine c_th ?_ | refine c_ift rfl ?_ | refine c_iff rfl ?_) | (refine l_th ?_))
          refine c_goto ?_
          repeat (first | refine th_goto ?_ | refine ib_goto ?_)
          refine sc_goto ?_
          repeat (first | (refine isO ?_; first | refine s_move ?_ | refine s_assign ?_) | (refine isC ?_; first | refine c_sr ?_ | refine c_th ?_ | refine c_seq ?_ | refine c_ret ?_) | (refine l_th ?_))
          refine ng_ret ?_
          exact ret2 rfl rfl rfl ⟨fset w2 ((rowN n (R bb)).getD q 0) (bb + 1), ws2, ⟨wv2, hA3, hL3, hnb2, hO3, hx3⟩, .inr ⟨(rowN n (R bb)).getD q 0, htg2, congrArg (fun z : Int => Value.tuple #[.int .i64 z, .bool true]) hkg⟩⟩
    · rw [scan_done (by omega), cont_none] at htg2
      repeat (first | (refine isO ?_; first | refine s_move ?_ | refine s_assign ?_ | (refine isBin ?_; refine s_inc rfl (by omega) ?_)) | (refine isC ?_; first | refine c_region ?_ | refine c_exit ?_) | (refine l_th ?_))
      exact loop_end (j + 1) (by (repeat (first | exact agree_refl _ _ | refine agree_upd rfl ?_ | refine agree_ext rfl ?_ | refine agree_mask rfl ?_))) ⟨rfl, trivial⟩ ⟨by omega, w2, ws2, hS2, hB2, hfr2, by
        rw [htg2]
        have e9 : 9 - (j + 1) = 8 - j := by omega
        rw [e9]⟩ (by omega)
  · rw [bfs_out (j := j) (w := w1) (ws := ws1) (by omega)] at htg
    repeat (first | (refine isO ?_; refine s_assign ?_) | (refine isC ?_; first | refine c_sr ?_ | refine c_seq ?_ | refine c_ret ?_ | refine c_exit ?_) | (first | refine l_th ?_ | refine th_ret ?_))
    refine sc_ret ?_
    exact ret2 rfl rfl rfl ⟨w1, ws1, hS, .inl ⟨htg, rfl⟩⟩
end Go.Proofs.Ytifbgpkjbciblaa.Sal
end
section
/- paths.More; matchings.Most. -/
set_option maxRecDepth 100000
namespace Go.Proofs.Ytifbgpkjbciblaa.Sal
open Go.RowKit
attribute [local irreducible] Go.Code.wpIn Go.wpListIn Ct Ints Rows Sl At Rw WJ
set_option linter.all false
theorem ok_Most : CallOK Try.prog 52 := callOK Try.func52 (by kernel_rfl) rfl
theorem ok_Most1 : CallOK Try.prog 69 := callOK Try.func69 (by kernel_rfl) rfl
/-- What holds while the items go on from one to the next. -/
def AI (w : Nat → Nat) (ws : List Nat) (has : List Int) (f : Nat) (k : Int) (cur : List Int) : Prop :=
  k = -1 ∨ ∃ q j : Nat, k = (q : Int) ∧ 0 < w q ∧ j < f ∧ ws[j]? = some (w q - 1) ∧ ∀ j' b, j' ≤ j → ws[j']? = some b → cur.getD b (-1) = has.getD b (-1)
theorem AI.step {R : Nat → Nat → Bool} {m n a : Nat} {has : List Int} {w : Nat → Nat} {ws : List Nat} (h : BI R m n has a w ws) (ha : has.getD a (-1) = -1) {f : Nat} {q : Nat} {cur : List Int} (hl : cur.length = m) (hA : AI w ws has f (q : Int) cur) :
    0 < f ∧ 0 < w q ∧ w q - 1 < m ∧ q < n ∧ AI w ws has (f - 1) (cur.getD (w q - 1) (-1)) (cur.set (w q - 1) (q : Int)) := by
  rcases hA with hA | ⟨q', j, hq, hw, hj, hpos, hsame⟩
  · omega
  · have : q = q' := by omega
    subst this
    have hi : w q - 1 < m := h.bnd _ (List.mem_iff_getElem?.2 ⟨j, hpos⟩)
    refine ⟨by omega, hw, hi, (h.byok q hw).1, ?_⟩
    have hcur := hsame j (w q - 1) (Nat.le_refl _) hpos
    by_cases hj0 : j = 0
    · subst hj0
      have hia : w q - 1 = a := by
        have := h.head
        rw [hpos] at this
        exact Option.some.inj this
      left
      rw [hcur, hia]; exact ha
    · obtain ⟨k', j', hk', hv, hw', hlt, hj'⟩ := h.came j (w q - 1) hpos (by omega)
      right
      refine ⟨k', j', by rw [hcur, hv], hw', by omega, hj', fun j'' b hle hb => ?_⟩
      have hbi : b ≠ w q - 1 := fun e => by
        subst e
        have := h.nodup j'' j _ hb hpos
        omega
      rw [getD_setI _ _ _ _ (by omega), if_neg hbi]
      exact hsame j'' b (by omega) hb
theorem aug_stop (w : Nat → Nat) (f : Nat) (l : List Int) : augR w f (-1) l = l := by cases f <;> simp [augR]
theorem aug_step (w : Nat → Nat) {f : Nat} (hf : 0 < f) (q : Nat) (l : List Int) : augR w f (q : Int) l = augR w (f - 1) (l.getD (w q - 1) (-1)) (l.set (w q - 1) (q : Int)) := by
  obtain ⟨f', rfl⟩ : ∃ f', f = f' + 1 := ⟨f - 1, by omega⟩
  rw [augR, if_neg (by omega)]; rfl
theorem AI.nat {w : Nat → Nat} {ws : List Nat} {has : List Int} {f : Nat} {k : Int} {cur : List Int} (h : AI w ws has f k cur) (hk : k ≠ -1) : ∃ q : Nat, k = (q : Int) := by
  rcases h with h | ⟨q, _, h, _⟩
  · exact absurd h hk
  · exact ⟨q, h⟩
theorem OwnI.li {w0 w : World} {b c : Nat} {l : List Int} (h : OwnI w 3 b c l) : OwnI w 3 b c l := h
set_option maxHeartbeats 4000000 in
theorem More_ct {R : Nat → Nat → Bool} {m n : Nat} (hm : m ≤ 8) (hn : n ≤ 8) {gv hv : Value} {has : List Int} {a : Nat} {w : World} (hg : Rows w gv (gL R m n)) (hh : Ints w hv has) (hF : FitR R m n has) (ham : a < m) (ha : has.getD a (-1) = -1) :
    Ct Try.prog 70 #[gv, .int .i64 (n : Int), hv, .int .i64 (a : Int)] w fun u w' => Ex w w' ∧
      ((∃ l hb, moreR R n has a = some l ∧ u = .tuple #[sv hb m m, .bool true, .int .i64 0] ∧ w.heap.size ≤ hb ∧ OwnI w' 3 hb m l ∧ l.length = m) ∨ (moreR R n has a = none ∧ u = .tuple #[.slice none 0 0, .bool false, .int .i64 0])) := by
  have hlen := hF.len
  refine Exists.elim (bfs_ok hn hF ha 9 0 (fun _ => 0) [a] (by omega) (BI.start ham) (fun k (h : 0 < 0) => by omega) (fun i b hi => by omega)) fun o ho => Exists.elim ho fun w1 ho => Exists.elim ho fun ws1 ho => ?_
  have hbf := ho.1
  have hBI := ho.2.1
  have hfd := ho.2.2.2
  have hwsl := hBI.len
  refine enter (N := 61) (vs := [gv, .int .i64 (n : Int), hv, .int .i64 (a : Int)]) Try.func70 rfl rfl rfl ?_
  repeat (first | (refine isO ?_; first | refine s_move ?_ | refine s_assign ?_) | (refine isC ?_; refine c_sr ?_) | (refine l_th ?_))
  refine s_call ok_begin rfl (begin_ct (gv := gv) (hv := hv) (a := a) hm hn hg hh hF ham ha) ?_
  rintro u w2 ⟨b, hb, wv, rfl, hA2, hO2, hL2, hnn, hbw, hhw, hx2⟩
  have hne := hnn.2.2
  repeat (first | (refine isO ?_; first | refine s_move ?_ | refine s_assign ?_ | (refine isBin ?_; refine s_neqF rfl rfl (by omega) ?_) | refine s_extract rfl rfl ?_) | (refine isC ?_; first | refine c_sr ?_ | refine c_th ?_ | refine c_seq ?_ | refine c_iff rfl ?_) | (refine l_th ?_))
  refine s_call ok_goes rfl (goes_ct hm hn (gv := gv) (hv := sv hb has.length has.length) (a := a) (b := b) (wB := w) (hb := hb) hg hF ham ha hbw hhw hne ⟨wv, hA2, hL2, ⟨hnn.1, hnn.2.1⟩, hO2, hx2⟩) ?_
  rintro u w3 ⟨w1', ws1', hS, hres⟩
  refine Exists.elim hS fun wv3 hv3 => ?_
  have hA3 := hv3.1
  have hO3 := hv3.2.2.2.1
  have hx3 := hv3.2.2.2.2
  refine Or.elim hres (fun h => ?_) (fun h => Exists.elim h fun k h => ?_)
  · have h1 := h.1
    have h2 := h.2
    rw [hbf] at h1
    have ho0 : o = none := congrArg (fun p => p.1) h1
    have hmr : moreR R n has a = none := by unfold moreR; rw [hbf, ho0]
    refine s_re h2 ?_
    repeat (first | (refine isO ?_; first | refine s_move ?_ | refine s_assign ?_ | refine s_extract rfl rfl ?_ | refine s_not rfl ?_) | (refine isC ?_; first | refine c_sr ?_ | refine c_seq ?_ | refine c_ift rfl ?_ | refine c_ret ?_) | (first | refine l_th ?_ | refine th_ret ?_))
    exact ret3 rfl rfl rfl rfl ⟨hx3, .inr ⟨hmr, rfl⟩⟩
  · have h1 := h.1
    have h2 := h.2
    rw [hbf] at h1
    have ho0 : o = some k := congrArg (fun p => p.1) h1
    have hw1 : w1 = w1' := congrArg (fun p => p.2.1) h1
    have hmr : moreR R n has a = some (augR w1 9 (k : Int) has) := by unfold moreR; rw [hbf, ho0]
    rw [← hw1] at hA3
    have hk0 := (hfd k ho0).1
    refine Exists.elim (idx_of (hBI.byok k hk0).2.1) fun j0 hj0 => ?_
    have hj9 := (List.getElem?_eq_some_iff.1 hj0).1
    have hAI0 : AI w1 ws1 has 9 (k : Int) has := .inr ⟨k, j0, rfl, hk0, by omega, hj0, fun _ _ _ _ => rfl⟩
    refine s_re h2 ?_
    repeat (first | (refine isO ?_; first | refine s_move ?_ | refine s_assign ?_ | refine s_extract rfl rfl ?_ | refine s_not rfl ?_) | (refine isC ?_; first | refine c_sr ?_ | refine c_th ?_ | refine c_seq ?_ | refine c_iff rfl ?_ | refine c_block ?_) | (refine l_th ?_))
    refine c_loop2 144115170896027648 (fun (f : Nat) (q : Int) => [(13, .int .i64 q)]) (fun f q W => ∃ cur : List Int, cur.length = m ∧ OwnI W 3 hb has.length cur ∧ AI w1 ws1 has f q cur ∧ augR w1 f q cur = augR w1 9 (k : Int) has ∧ At W b 106 (SE gv (sv hb has.length has.length) wv3 w1 (holdN has has.length)) ∧ Ex w W) (fun f _ => f) 9 (k : Int) ⟨rfl, trivial⟩
      ⟨has, hlen, hO3, hAI0, rfl, hA3, hx3⟩ ?_
    rintro f q ρ W hI
    refine Exists.elim hI fun cur hI => ?_
    have hcl := hI.1
    have hO := hI.2.1
    have hAI := hI.2.2.1
    have htg := hI.2.2.2.1
    have hA := hI.2.2.2.2.1
    have hx := hI.2.2.2.2.2
    have hIc : Ints W (sv hb has.length has.length) cur := by have h9 := hO.ints; rw [hcl, ← hlen] at h9; exact h9
    by_cases hq : q = -1
    · rw [hq, aug_stop] at htg
      repeat (first | (refine isO ?_; first | refine s_move ?_ | (refine isBin ?_; refine s_neqF rfl rfl (by omega) ?_)) | (refine isC ?_; first | refine c_sr ?_ | refine c_seq ?_ | refine c_iff rfl ?_ | refine c_exit ?_) | (refine l_th ?_))
      refine s_nil rfl ?_
      refine s_faN u_search rfl tyn_ints rfl ?_
      refine s_ldA ty_ints rfl hA rfl ?_
      repeat (first | (refine isO ?_; refine s_assign ?_) | (refine isC ?_; refine c_ret ?_) | (refine l_th ?_))
      exact ret3 rfl rfl rfl rfl ⟨hx, .inl ⟨augR w1 9 (k : Int) has, hb, hmr, congrArg (fun z : Nat => Value.tuple #[sv hb z z, .bool true, .int .i64 0]) hlen, hhw, by rw [← htg, ← hlen]; exact hO, by rw [← htg]; exact hcl⟩⟩
    · refine Exists.elim (hAI.nat hq) fun p hp => ?_
      subst hp
      have hst := hAI.step hBI ha hcl
      have hf := hst.1
      have hwp := hst.2.1
      have hi := hst.2.2.1
      have hpn := hst.2.2.2.1
      have hAI' := hst.2.2.2.2
      have hp8 : p < 8 := by omega
      rw [aug_step w1 hf] at htg
      have hgc : cur.getD (w1 p - 1) 0 = cur.getD (w1 p - 1) (-1) := (getD_m1 (by omega)).symm
      repeat (first | (refine isO ?_; first | refine s_move ?_ | (refine isBin ?_; refine s_neqT rfl rfl (by omega) ?_)) | (refine isC ?_; first | refine c_sr ?_ | refine c_th ?_ | refine c_seq ?_ | refine c_ift rfl ?_ | refine c_block ?_) | (refine l_th ?_))
      refine s_nil rfl ?_
      refine s_faN u_search rfl tyn_a8 rfl ?_
      refine s_iaO (n := p) u_a8 ty_int rfl rfl hp8 ?_
      refine s_ldA ty_int rfl hA (SE_by hp8) ?_
      refine s_sub rfl rfl ⟨by omega, by omega⟩ ?_
      refine s_re (v' := .int .i64 ((w1 p - 1 : Nat) : Int)) (vint (by omega)) ?_
      repeat (first | (refine isO ?_; refine s_assign ?_) | (refine l_th ?_))
      refine c_drawO (Ex.refl W) 32768 8 [(0, true), (1, true), (2, true), (3, true), (4, true), (5, true), (6, true), (7, true), (8, true), (9, true), (10, true), (11, true), (12, true), (13, true), (14, true), (15, false)] mixed (by kernel_rfl) ?_
      refine d_move rfl ?_
      refine d_nilc rfl rfl ?_
      refine d_faN rfl u_search rfl tyn_ints rfl ?_
      refine d_ldA rfl ty_ints rfl hA rfl ?_
      refine d_move rfl ?_
      refine d_move rfl ?_
      refine d_nilc rfl rfl ?_
      refine d_faN rfl u_search rfl tyn_ints rfl ?_
      refine d_ldA rfl ty_ints rfl hA rfl ?_
      refine d_move rfl ?_
      refine d_iaI (n := w1 p - 1) rfl sl_ints ty_int rfl rfl hIc (by omega) ?_
      intro ad1 hc1
      refine d_ld rfl ty_int rfl hc1 ?_
      refine d_re (v' := .int .i64 (cur.getD (w1 p - 1) (-1))) (vint hgc) ?_
      refine d_move rfl ?_
      refine d_assign rfl ?_
      refine d_iaA (b := hb) (len := has.length) (c := has.length) (n := w1 p - 1) rfl sl_ints ty_int rfl rfl (by omega) ?_
      refine d_ch rfl ?_
      refine s_stO (q := (p : Int)) ty_int rfl rfl (hO.ex (Ex.drew W)) (by omega) ?_
      intro W2 hO2' hg2
      refine l_nil ⟨rfl, .inl rfl, ?_⟩
      refine d_nil ?_
      repeat ((first | refine th_norm ?_ | refine ib_norm ?_))
      exact loop_end2 (f - 1) (cur.getD (w1 p - 1) (-1)) (by (repeat (first | exact agree_refl _ _ | refine agree_upd rfl ?_ | refine agree_ext rfl ?_ | refine agree_mask rfl ?_))) ⟨rfl, trivial⟩ ⟨cur.set (w1 p - 1) (p : Int), by rw [List.length_set]; exact hcl, hO2', hAI', htg, (hA.ex (Ex.drew W)).grown hg2 (fun e => hne (Option.some.inj e)), (hx.trans (Ex.drew W)).store hg2 hhw⟩ (by omega)
end Go.Proofs.Ytifbgpkjbciblaa.Sal
end
section
/- matchings.Most, matchings.All. -/
set_option maxRecDepth 100000
namespace Go.Proofs.Ytifbgpkjbciblaa.Sal
open Go.RowKit
attribute [local irreducible] Go.Code.wpIn Go.wpListIn Ct Ints Rows Sl At Rw WJ
set_option linter.all false
theorem ok_All : CallOK Try.prog 34 := callOK Try.func34 (by kernel_rfl) rfl
theorem mostN_fit {R : Nat → Nat → Bool} {m n i : Nat} (hn : n ≤ 8) (hi : i ≤ m) : FitR R m n (mostN R m n i) := (mi_all hn i hi).fit
theorem mostN_none {R : Nat → Nat → Bool} {m n i : Nat} (hn : n ≤ 8) (hi : i < m) : (mostN R m n i).getD i (-1) = -1 := most_none (mi_all hn i (by omega))
theorem mostN_some {R : Nat → Nat → Bool} {m n i : Nat} {l : List Int} (h : moreR R n (mostN R m n i) i = some l) : mostN R m n (i + 1) = l := by simp only [mostN, h]
theorem mostN_no {R : Nat → Nat → Bool} {m n i : Nat} (h : moreR R n (mostN R m n i) i = none) : mostN R m n (i + 1) = mostN R m n i := by simp only [mostN, h]
theorem own_sv {b n c q : Nat} (h : (sv b n c).ownBlock = some q) : b = q := Option.some.inj h
/-- What lies in memory between two bidders. -/
structure MS (wB W : World) (b2 b3 b6 : Nat) (gv : Value) (n : Nat) (hv : Value) (l : List Int) : Prop where
  a2 : At W b2 23 [gv]
  a3 : At W b3 3 [.int .i64 (n : Int)]
  a6 : At W b6 22 [hv]
  il : Ints W hv l
  own : ∀ b, hv.ownBlock = some b → wB.heap.size ≤ b ∧ b ≠ b6
  ex : Ex wB W
theorem MS.exd {wB W W' : World} {b2 b3 b6 : Nat} {gv : Value} {n : Nat} {hv : Value} {l : List Int} (h : MS wB W b2 b3 b6 gv n hv l) (hx : Ex W W') : MS wB W' b2 b3 b6 gv n hv l := ⟨h.a2.ex hx, h.a3.ex hx, h.a6.ex hx, h.il.ex hx, h.own, h.ex.trans hx⟩
set_option maxHeartbeats 4000000 in
theorem Most1_ct {R : Nat → Nat → Bool} {m n i : Nat} (hm : m ≤ 8) (hn : n ≤ 8) (hi : i < m) {gv hv : Value} {b2 b3 b6 : Nat} {wB w : World} (hg : Rows wB gv (gL R m n)) (hM : MS wB w b2 b3 b6 gv n hv (mostN R m n i)) (hb6 : wB.heap.size ≤ b6) (h26 : b2 ≠ b6) (h36 : b3 ≠ b6) :
    Ct Try.prog 69 #[.int .i64 (i : Int), .pointer (some ⟨b2, 0, none⟩), .pointer (some ⟨b3, 0, none⟩), .pointer (some ⟨b6, 0, none⟩)] w fun u w' => u = .tuple #[] ∧ ∃ hv', MS wB w' b2 b3 b6 gv n hv' (mostN R m n (i + 1)) := by
  have hA2 := hM.a2
  have hA3 := hM.a3
  have hA6 := hM.a6
  have hI := hM.il
  have hx := hM.ex
  have hF := mostN_fit (R := R) hn (show i ≤ m by omega)
  have hno := mostN_none (R := R) hn hi
  refine enter (N := 23) (vs := [.int .i64 (i : Int), .pointer (some ⟨b2, 0, none⟩), .pointer (some ⟨b3, 0, none⟩), .pointer (some ⟨b6, 0, none⟩)]) Try.func69 rfl rfl rfl ?_
  refine c_sr ?_
  refine s_ldA ty_rows rfl hA2 rfl ?_
  refine s_ldA ty_int rfl hA3 rfl ?_
  refine s_ldA ty_ints rfl hA6 rfl ?_
  repeat ((refine isO ?_; refine s_move ?_))
  refine s_call ok_More rfl (More_ct (gv := gv) (hv := hv) (a := i) hm hn (hg.ex hx) hI hF hi hno) ?_
  rintro u w2 ⟨hx2, hres⟩
  have hM2 := hM.exd hx2
  refine Or.elim hres (fun h => Exists.elim h fun l h => Exists.elim h fun hb h => ?_) (fun h => ?_)
  · have h1 := h.1
    have h2 := h.2.1
    have h3 := h.2.2.1
    have h4 := h.2.2.2.1
    have h5 := h.2.2.2.2
    have hst := mostN_some h1
    have hlt := hA6.lt
    have z := hx.size
    have hIl : Ints w2 (sv hb m m) l := by have h9 := h4.ints; rw [h5] at h9; exact h9
    have hA62 := hM2.a6
    refine s_re h2 ?_
    repeat (first | (refine isO ?_; first | refine s_move ?_ | refine s_assign ?_ | (refine isG ?_; refine g_yes rfl rfl ?_) | (refine isBin ?_; refine s_eqlT rfl rfl (by omega) ?_) | (refine isPick ?_; refine s_pickt rfl rfl ?_) | refine s_extract rfl rfl ?_) | (refine isC ?_; first | refine c_sr ?_ | refine c_region ?_ | refine c_ift rfl ?_) | (refine l_th ?_))
    refine s_stA (n := 0) (u := sv hb m m) ty_ints rfl rfl rfl hA62 (by simp) ?_
    intro w3 hA63 hg3
    repeat ((refine l_nil ?_))
    refine end0 rfl ⟨rfl, sv hb m m, hM2.a2.grown hg3 (fun e => h26 (Option.some.inj e).symm), hM2.a3.grown hg3 (fun e => h36 (Option.some.inj e).symm), hA63, ?_, fun b e => ?_, hM2.ex.store hg3 hb6⟩
    · rw [hst]
      exact hIl.kept hg3 (.inr fun e => by have := own_sv e; omega)
    · have := own_sv e; omega
  · have h1 := h.1
    have h2 := h.2
    have hst := mostN_no h1
    refine s_re h2 ?_
    repeat (first | (refine isO ?_; first | refine s_move ?_ | refine s_assign ?_ | (refine isG ?_; refine g_yes rfl rfl ?_) | (refine isBin ?_; refine s_eqlT rfl rfl (by omega) ?_) | (refine isPick ?_; refine s_pickt rfl rfl ?_) | refine s_extract rfl rfl ?_) | (refine isC ?_; first | refine c_sr ?_ | refine c_iff rfl ?_ | refine c_skip ?_) | (refine l_th ?_))
    refine end0 rfl ⟨rfl, hv, ?_⟩
    rw [hst]; exact hM2
theorem rep_ints (m : Nat) : List.replicate m (Value.int .i64 (-1)) = (List.replicate m (-1)).map (Value.int .i64) := by simp
set_option maxHeartbeats 4000000 in
theorem Most_ok {R : Nat → Nat → Bool} {m n : Nat} (hm : m ≤ 8) (hn : n ≤ 8) (gv : Value) (w : World) (hg : Rows w gv (gL R m n)) :
    Ct Try.prog 52 #[gv, .int .i64 (n : Int)] w fun u w' => ∃ v a, u = .tuple #[v, .int .i64 0] ∧ v = .slice a m m ∧ (∀ b, v.ownBlock = some b → w.heap.size ≤ b) ∧ Ints w' v (mostR R m n) ∧ Ex w w' := by
  have hgl := gL_len R m n
  have hchk := chk_ok (R := R) hm hn
  refine Exists.elim in_ints' fun ti hti => ?_
  refine Exists.elim hg.form fun ga hga => Exists.elim hga fun gc hgc => ?_
  subst hgc
  refine enter (N := 29) (vs := [.slice ga (gL R m n).length gc, .int .i64 (n : Int)]) Try.func52 rfl rfl rfl ?_
  refine c_sr ?_
  refine s_box (cs := [.slice ga (gL R m n).length gc]) rfl rfl ?_
  intro b2 w1 hb2 hA2 hx1 hs1
  refine s_box (cs := [.int .i64 (n : Int)]) rfl rfl ?_
  intro b3 w2 hb3 hA3 hx2 hs2
  have hA22 := hA2.ex hx2
  have hx02 := hx1.trans hx2
  repeat (first | (refine isO ?_; refine s_assign ?_) | (refine isC ?_; first | refine c_sr ?_ | refine c_seq ?_) | (refine l_th ?_))
  refine s_ldA ty_rows rfl hA22 rfl ?_
  repeat ((refine isO ?_; (refine isLD ?_; refine s_ldA ty_int rfl (by assumption) rfl ?_)))
  refine s_call ok_Check rfl (Check_ct _ (gL R m n) n w2 (hg.ex hx02)) ?_
  rintro v w3 ⟨rfl, hx3⟩
  refine s_re (v' := .bool true) (vbool hchk) ?_
  repeat (first | (refine isO ?_; refine s_not rfl ?_) | (refine isC ?_; first | refine c_sr ?_ | refine c_th ?_ | refine c_iff rfl ?_) | (refine l_th ?_))
  refine s_bs1 sl_ints in_int rfl rfl ?_
  intro b13 w4 hb13 hA13 hx4 hs4
  have hA24 := hA22.ex (hx3.trans hx4)
  refine s_ldA ty_rows rfl hA24 rfl ?_
  refine s_len sl_rows rfl ?_
  refine s_re (v' := .int .i64 (m : Int)) (vint (by rw [hgl])) ?_
  refine s_call ok_Repeat rfl (Repeat_ct b13 m (by omega) w4 hA13) ?_
  rintro v w5 ⟨hb, rfl, hbw, hA5, hx5⟩
  refine s_alloc (cs := [.slice none 0 0]) hti.1 hti.2.1 rfl ?_
  intro b6 w6 hb6 hA6 hx6 hs6
  refine s_stA (n := 0) (u := sv hb m m) ty_ints rfl rfl rfl hA6 (by simp) ?_
  intro w7 hA7 hg7
  have z1 := hx1.size
  have z2 := hx2.size
  have z3 := hx3.size
  have z4 := hx4.size
  have z5 := hx5.size
  have z6 := hx6.size
  have hlh := hA5.lt
  have hlt3 := hA3.lt
  have hx06 := hx02.trans (hx3.trans (hx4.trans (hx5.trans hx6)))
  have hx26 := hx3.trans (hx4.trans (hx5.trans hx6))
  have hx07 := hx06.store hg7 (by omega)
  rw [rep_ints] at hA5
  have hI5 : Ints w6 (sv hb m m) (List.replicate m (-1)) := by
    have h9 := (hA5.ex hx6).ints (c := m) (by simp; omega) (by simp)
    rw [List.length_replicate] at h9
    exact h9
  have hMS : MS w w7 b2 b3 b6 (.slice ga (gL R m n).length gc) n (sv hb m m) (mostN R m n 0) :=
    ⟨(hA22.ex hx26).grown hg7 (fun e => by have := Option.some.inj e; omega), (hA3.ex hx26).grown hg7 (fun e => by have := Option.some.inj e; omega), hA7, hI5.kept hg7 (.inr fun e => by have := own_sv e; omega), fun b e => by have := own_sv e; omega, hx07⟩
  have n26 : b2 ≠ b6 := by omega
  have n36 : b3 ≠ b6 := by omega
  have n6w : w.heap.size ≤ b6 := by omega
  repeat (first | (refine isC ?_; refine c_sr ?_) | (refine l_th ?_))
  refine s_mkfn (vs := [.pointer (some ⟨b2, 0, none⟩), .pointer (some ⟨b3, 0, none⟩), .pointer (some ⟨b6, 0, none⟩)]) rfl ?_
  repeat (first | (refine isO ?_; refine s_assign ?_) | (refine isC ?_; first | refine c_sr ?_ | refine c_seq ?_) | (refine l_th ?_))
  refine s_ldA ty_rows rfl hMS.a2 rfl ?_
  refine s_len sl_rows rfl ?_
  refine s_re (v' := .int .i64 (m : Int)) (vint (by rw [hgl])) ?_
  repeat (first | (refine isO ?_; refine s_move ?_) | (refine isC ?_; refine c_block ?_) | (refine l_th ?_))
  refine c_loop (γ := Nat) 133169408 (fun i => [(20, .int .i64 (i : Int))]) (fun i W => i ≤ m ∧ ∃ hv, MS w W b2 b3 b6 (.slice ga (gL R m n).length gc) n hv (mostN R m n i)) (fun i => m - i) 0 ⟨rfl, trivial⟩ ⟨Nat.zero_le _, _, hMS⟩ ?_
  rintro i ρ W ⟨hi, hI⟩
  refine Exists.elim hI fun hv hM => ?_
  repeat (first | (refine isO ?_; (refine isBin ?_; refine s_lss rfl rfl ?_)) | (refine isC ?_; first | refine c_sr ?_ | refine c_seq ?_) | (refine l_th ?_))
  refine c_ifd rfl (fun h => ?_) (fun h => ?_)
  · have hi' : i < m := by omega
    repeat (first | (refine isO ?_; first | refine s_move ?_ | refine s_assign ?_) | (refine isC ?_; first | refine c_sr ?_ | refine c_th ?_ | refine c_seq ?_ | refine c_region ?_ | refine c_block ?_) | (refine l_th ?_))
    refine s_callv (by intro f e; cases e) rfl ok_Most1 rfl (Most1_ct hm hn hi' hg hM n6w n26 n36) ?_
    rintro u w8 ⟨rfl, hM8⟩
    repeat (first | (refine isO ?_; first | refine s_move ?_ | (refine isBin ?_; refine s_inc rfl (by omega) ?_)) | (refine isC ?_; refine c_region ?_) | (first | refine l_th ?_ | refine l_nil ?_))
    exact loop_end (i + 1) (by (repeat (first | exact agree_refl _ _ | refine agree_upd rfl ?_ | refine agree_ext rfl ?_ | refine agree_mask rfl ?_))) ⟨rfl, trivial⟩ ⟨hi', hM8⟩ (by omega)
  · have him : i = m := by omega
    subst him
    have hA6W := hM.a6
    have hIl := hM.il
    have hll : (mostN R i n i).length = i := (mostN_fit (R := R) hn (Nat.le_refl i)).len
    repeat (first | (refine isO ?_; (refine isLD ?_; refine s_ldA ty_ints rfl (by assumption) rfl ?_)) | (refine isC ?_; first | refine c_sr ?_ | refine c_exit ?_))
    refine s_call ok_Clip rfl (Clip_ct hv _ W hIl) ?_
    rintro u w9 ⟨⟨ac, cc, hvc, rfl⟩, hI9, hx9⟩
    refine s_re (v' := .slice ac i i) (by rw [hll]) ?_
    repeat (first | (refine isO ?_; refine s_assign ?_) | (refine isC ?_; refine c_ret ?_) | (refine l_th ?_))
    refine ret2 rfl rfl rfl ⟨_, ac, rfl, rfl, fun b hbb => (hM.own b (by rw [hvc]; cases ac <;> exact hbb)).1, ?_, hM.ex.trans hx9⟩
    rw [hll] at hI9
    exact hI9
end Go.Proofs.Ytifbgpkjbciblaa.Sal
end
section
/- matchings.All. -/
set_option maxRecDepth 100000
namespace Go.Proofs.Ytifbgpkjbciblaa.Sal
open Go.RowKit
attribute [local irreducible] Go.Code.wpIn Go.wpListIn Ct Ints Rows Sl At Rw WJ
set_option linter.all false
/-- Who may have what, of some alone. -/
def Rsome (sl : List Int) (R : Nat → Nat → Bool) (i k : Nat) : Bool := sl.contains (i : Int) && R i k
theorem ris_at {sl : List Int} {m : Nat} (h : risB (-1) sl (m : Int) = true) {k : Nat} (hk : k < sl.length) : ∃ p : Nat, sl.getD k 0 = (p : Int) ∧ p < m := by
  have h1 := ris_mem sl (-1) m h sl[k] (List.getElem_mem hk)
  exact ⟨sl[k].toNat, by simp [hk]; omega, by omega⟩
theorem ris_len {sl : List Int} {m : Nat} (h : risB (-1) sl (m : Int) = true) : sl.length ≤ m := by
  have := ris_rowL h
  rw [this, rowL_len]; exact rowN_le _ _
/-- Rows of whom there are, as far as they have been copied. -/
def usK (sl : List Int) (rv : Nat → Value) (k i : Nat) : Value := if (sl.take k).contains (i : Int) = true then rv i else .slice none 0 0
theorem usK_zero (sl : List Int) (rv : Nat → Value) (i : Nat) : usK sl rv 0 i = .slice none 0 0 := by simp [usK]
theorem usK_succ {sl : List Int} {rv : Nat → Value} {k p : Nat} (hk : k < sl.length) (hp : sl.getD k 0 = (p : Int)) : fs (usK sl rv k) p (rv p) = usK sl rv (k + 1) := by
  funext i
  unfold fs usK
  rw [take_has hk, hp]
  by_cases e : i = p
  · subst e
    rw [if_pos rfl, if_pos (by simp)]
  · have h9 : decide ((p : Int) = (i : Int)) = false := decide_eq_false (by omega)
    rw [if_neg e, h9, Bool.or_false]
set_option maxHeartbeats 4000000 in
theorem All_ok {R : Nat → Nat → Bool} {m n : Nat} (hm : m ≤ 8) (hn : n ≤ 8) (gv : Value) (sv' : Value) (sl : List Int) (w : World) (hg : Rows w gv (gL R m n)) (hs : Ints w sv' sl) (hb : risB (-1) sl (m : Int) = true) :
    Ct Try.prog 34 #[gv, .int .i64 (n : Int), sv'] w fun u w' => u = .tuple #[.bool (decide (rkm (Rsome sl R) m n = sl.length)), .int .i64 0] ∧ Ex w w' := by
  have hgl := gL_len R m n
  have hsl := ris_len hb
  refine Exists.elim in_ints' fun ti hti => ?_
  refine Exists.elim hg.parts fun vs hvs => ?_
  have hvl := hvs.2.1
  have hrv : ∀ i, i < m → vs[i]? = some (vs.getD i undef) ∧ Ints w (vs.getD i undef) (rowL n (R i)) := fun i hi => by
    have hil : i < vs.length := by omega
    have hig : i < (gL R m n).length := by omega
    have h1 : vs[i]? = some (vs.getD i undef) := by simp [List.getD_eq_getElem?_getD, hil]
    refine ⟨h1, hvs.2.2 i _ _ h1 ?_⟩
    have := gL_row (R := R) (n := n) hi
    rw [← this]; simp [List.getD_eq_getElem?_getD, hig]
  refine enter (N := 58) (vs := [gv, .int .i64 (n : Int), sv']) Try.func34 rfl rfl rfl ?_
  repeat (first | (refine isO ?_; first | refine s_move ?_ | refine s_assign ?_) | (refine isC ?_; first | refine c_sr ?_ | refine c_seq ?_) | (refine l_th ?_))
  refine s_call ok_Near rfl (Near_ok hm hn gv sv' sl w hg hs hb) ?_
  rintro u w1 ⟨vn, an, rfl, hvn, hvnb, hIn, hx1⟩
  have hg1 := hg.ex hx1
  repeat (first | (refine isO ?_; first | refine s_move ?_ | refine s_assign ?_ | (refine isBin ?_; refine s_neqF rfl rfl (by omega) ?_) | (refine isCall ?_; refine s_lenR sl_rows rfl (by assumption) ?_) | refine s_extract rfl rfl ?_) | (refine isC ?_; first | refine c_sr ?_ | refine c_th ?_ | refine c_iff rfl ?_) | (refine l_th ?_))
  refine s_re (v' := .int .i64 (m : Int)) (vint (by rw [hgl])) ?_
  refine s_make sl_rows hti.1 hti.2.1 hti.2.2.1 rfl hti.2.2.2 rfl (by omega) ?_
  intro ba w2 hba hAa hx2 hs2
  have hx02 := hx1.trans hx2
  have hs2' := hs.ex hx02
  have hbw : w.heap.size ≤ ba := by have := hx1.size; omega
  have eA : List.replicate m (Value.slice none 0 0) = (List.range m).map (usK sl (fun i => vs.getD i undef) 0) := by
    apply List.ext_getElem
    · simp
    · intro i h1 h2; simp [usK_zero]
  rw [eA] at hAa
  repeat (first | (refine isO ?_; first | refine s_move ?_ | refine s_assign ?_ | (refine isCall ?_; refine s_lenI sl_ints rfl (by assumption) ?_)) | (refine isC ?_; first | refine c_sr ?_ | refine c_seq ?_ | refine c_block ?_) | (refine l_th ?_))
  refine c_loop (γ := Nat) 4396972773376 (fun k => [(30, .int .i64 (k : Int))]) (fun k W => k ≤ sl.length ∧ At W ba 22 ((List.range m).map (usK sl (fun i => vs.getD i undef) k)) ∧ Ex w W) (fun k => sl.length - k) 0 ⟨rfl, trivial⟩ ⟨Nat.zero_le _, hAa, hx02⟩ ?_
  rintro k ρ W ⟨hk, hA, hx⟩
  have hsW := hs.ex hx
  have hgW := hg.ex hx
  repeat (first | (refine isO ?_; (refine isBin ?_; refine s_lss rfl rfl ?_)) | (refine isC ?_; first | refine c_sr ?_ | refine c_seq ?_) | (refine l_th ?_))
  refine c_ifd rfl (fun h => ?_) (fun h => ?_)
  · have hk' : k < sl.length := by omega
    refine Exists.elim (ris_at hb hk') fun p hp => ?_
    have hp1 := hp.1
    have hp2 := hp.2
    have hr1 := (hrv p hp2).1
    have hr2 := (hrv p hp2).2
    repeat (first | (refine isO ?_; first | refine s_move ?_ | refine s_assign ?_ | (refine isIA ?_; refine s_ixI sl_ints ty_int rfl rfl rfl (by assumption) (by omega) ?_; intro _)) | (refine isC ?_; first | refine c_sr ?_ | refine c_th ?_ | refine c_seq ?_ | refine c_region ?_ | refine c_block ?_) | (refine l_th ?_))
    refine s_ia (n := p) sl_rows ty_ints rfl (vint hp1) (hvs.1.ex hx) hr1 ?_
    intro ad hc
    refine s_ld ty_ints rfl hc ?_
    refine s_iaA (n := p) sl_rows ty_ints rfl (vint hp1) hp2 ?_
    refine s_stA (n := p) (u := vs.getD p undef) ty_ints rfl rfl hr2.one hA (by simp [hp2]) ?_
    intro W2 hA2 hg2
    rw [map_fs _ _ hp2, usK_succ hk' hp1] at hA2
    repeat (first | (refine isO ?_; first | refine s_move ?_ | (refine isBin ?_; refine s_inc rfl (by omega) ?_)) | (refine isC ?_; refine c_region ?_) | (first | refine l_th ?_ | refine l_nil ?_))
    exact loop_end (k + 1) (by (repeat (first | exact agree_refl _ _ | refine agree_upd rfl ?_ | refine agree_ext rfl ?_ | refine agree_mask rfl ?_))) ⟨rfl, trivial⟩ ⟨hk', hA2, hx.store hg2 hbw⟩ (by omega)
  · have hke : sl.take k = sl := List.take_of_length_le (by omega)
    have hgl2 := gL_len (Rsome sl R) m n
    have hRA : Rows W (sv ba m m) (gL (Rsome sl R) m n) := by
      have h9 := hA.rows (g := gL (Rsome sl R) m n) (c := m) (by rw [gL_len]; simp) (by omega) (by omega) (fun i u l hu hl => by
        have hi := (List.getElem?_eq_some_iff.1 hl).1
        rw [gL_len] at hi
        have e1 : u = usK sl (fun i => vs.getD i undef) k i := by simp [hi] at hu; exact hu.symm
        have e2 : l = rowL n (Rsome sl R i) := by simp [gL, hi] at hl; exact hl.symm
        rw [e1, e2]
        unfold usK
        rw [hke]
        by_cases hc : sl.contains (i : Int) = true
        · rw [if_pos hc]
          have : Rsome sl R i = R i := by funext q; unfold Rsome; rw [hc]; rfl
          rw [this]
          exact (hrv i hi).2.ex hx
        · rw [if_neg hc]
          have : rowL n (Rsome sl R i) = [] := rowL_none (fun q => by unfold Rsome; simp at hc; simp [hc])
          rw [this]
          exact Ints.nil _)
      rw [hgl2] at h9
      exact h9
    repeat (first | (refine isO ?_; refine s_move ?_) | (refine isC ?_; first | refine c_sr ?_ | refine c_exit ?_))
    refine s_call ok_Most rfl (Most_ok hm hn (sv ba m m) W hRA) ?_
    rintro u w4 ⟨vm, am, rfl, hvm, hvmb, hIm, hx4⟩
    have hml : (mostR (Rsome sl R) m n).length = m := (mostN_fit hn (Nat.le_refl m)).len
    have hs4 := hsW.ex hx4
    repeat (first | (refine isO ?_; first | refine s_move ?_ | refine s_assign ?_ | (refine isG ?_; refine g_yes rfl rfl ?_) | (refine isBin ?_; refine s_eqlT rfl rfl (by omega) ?_) | refine s_extract rfl rfl ?_) | (refine isC ?_; refine c_sr ?_) | (refine l_th ?_))
    refine s_call ok_Many rfl (Many_ct vm _ w4 hIm) ?_
    rintro u w5 ⟨rfl, hx5⟩
    have hs5 := hs4.ex hx5
    repeat (first | (refine isO ?_; first | refine s_move ?_ | refine s_assign ?_ | (refine isG ?_; refine g_yes rfl rfl ?_) | (refine isBin ?_; refine s_eql rfl rfl ?_) | (refine isCall ?_; refine s_lenI sl_ints rfl (by assumption) ?_) | (refine isPick ?_; refine s_pickt rfl rfl ?_)) | (refine isC ?_; refine c_ret ?_) | (refine l_th ?_))
    refine ret2 rfl rfl rfl ⟨?_, (hx.trans hx4).trans hx5⟩
    refine congrArg (fun z : Bool => Value.tuple #[.bool z, .int .i64 0]) ?_
    rw [hml]
    unfold rkm
    by_cases e : cnt (mat (mostR (Rsome sl R) m n)) m = sl.length
    · rw [decide_eq_true e, decide_eq_true (by omega)]
    · rw [decide_eq_false e, decide_eq_false (by omega)]
end Go.Proofs.Ytifbgpkjbciblaa.Sal
end
section
/- salesroomlaw08.alive, parts. -/
set_option maxRecDepth 100000
namespace Go.Proofs.Ytifbgpkjbciblaa.Sal
open Go.RowKit
attribute [local irreducible] Go.Code.wpIn Go.wpListIn Ct Ints Rows Sl At Rw WJ
set_option linter.all false
theorem tf8 (b : Bool) : b = true ∨ b = false := by cases b <;> simp
theorem rows3 {w : World} {b b1 b2 b3 : Nat} {E : TypeId} {l1 l2 l3 : List Int} (h : At w b E [sv b1 l1.length l1.length, sv b2 l2.length l2.length, sv b3 l3.length l3.length]) (h1 : Ints w (sv b1 l1.length l1.length) l1) (h2 : Ints w (sv b2 l2.length l2.length) l2) (h3 : Ints w (sv b3 l3.length l3.length) l3) : Rows w (sv b 3 3) [l1, l2, l3] := by
  refine At.rows (g := [l1, l2, l3]) h rfl (by simp) (by simp) (fun i u l hu hl => ?_)
  match i with
  | 0 => simp at hu hl; subst hu; subst hl; exact h1
  | 1 => simp at hu hl; subst hu; subst hl; exact h2
  | 2 => simp at hu hl; subst hu; subst hl; exact h3
  | i + 3 => simp at hu
end Go.Proofs.Ytifbgpkjbciblaa.Sal
end
section
/- Plain: what the laws of the matchings say of the counts. -/
set_option maxRecDepth 100000
namespace Go.Proofs.Ytifbgpkjbciblaa.Sal
set_option linter.all false
theorem rowN_cnt (p : Nat → Bool) : ∀ m, (rowN m p).length = cnt p m
  | 0 => rfl
  | m + 1 => by
    have ih := rowN_cnt p m
    unfold rowN at ih ⊢
    rw [List.range_succ, List.filter_append, List.length_append, ih]
    show _ = cnt p m + (if p m = true then 1 else 0)
    cases h : p m <;> simp [h]
theorem rowL_cnt (p : Nat → Bool) (m : Nat) : (rowL m p).length = cnt p m := by rw [rowL_len, rowN_cnt]
theorem cnt_some {sl : List Int} {m : Nat} (h : risB (-1) sl (m : Int) = true) : cnt (fun i => sl.contains (i : Int)) m = sl.length := by
  have := ris_rowL h
  rw [← rowL_cnt, ← this]
theorem ris_inj {sl : List Int} {m : Nat} (h : risB (-1) sl (m : Int) = true) {i j : Nat} (hi : i < sl.length) (hj : j < sl.length) (e : sl.getD i 0 = sl.getD j 0) : i = j := by
  have key : ∀ (l : List Int) (a : Int), risB a l (m : Int) = true → ∀ i j, i < j → j < l.length → l.getD i 0 < l.getD j 0 := by
    intro l
    induction l with
    | nil => intro a _ i j _ hj; simp at hj
    | cons x l ih =>
      intro a h i j hij hj
      simp only [risB, Bool.and_eq_true] at h
      cases j with
      | zero => omega
      | succ j =>
        have hj' : j < l.length := by simpa using hj
        cases i with
        | zero =>
          have h9 := ris_mem l x m h.2 l[j] (List.getElem_mem hj')
          simp [List.getD_eq_getElem?_getD, hj']; exact h9.1
        | succ i =>
          have := ih x h.2 i j (by omega) hj'
          simpa using this
  rcases Nat.lt_trichotomy i j with h1 | h1 | h1
  · have := key sl (-1) h i j h1 hj; omega
  · exact h1
  · have := key sl (-1) h j i h1 hi; omega
/-- Two things that a call builds by append, side by side. -/
structure D2 (w0 W : World) (E1 : TypeId) (v1 : Value) (l1 : List Value) (E2 : TypeId) (v2 : Value) (l2 : List Value) : Prop where
  r1 : Rw W E1 v1 l1
  r2 : Rw W E2 v2 l2
  o1 : ∀ b, v1.ownBlock = some b → w0.heap.size ≤ b
  o2 : ∀ b, v2.ownBlock = some b → w0.heap.size ≤ b
  ne : ∀ b, v1.ownBlock = some b → v2.ownBlock ≠ some b
  ex : Ex w0 W
theorem D2.nil {w0 W : World} {E1 E2 : TypeId} (h : Ex w0 W) : D2 w0 W E1 (.slice none 0 0) [] E2 (.slice none 0 0) [] := ⟨Rw.nil _ _, Rw.nil _ _, fun b h => (by cases h), fun b h => (by cases h), fun b h => (by cases h), h⟩
theorem D2.exd {w0 W W' : World} {E1 E2 : TypeId} {v1 v2 : Value} {l1 l2 : List Value} (h : D2 w0 W E1 v1 l1 E2 v2 l2) (hx : Ex W W') : D2 w0 W' E1 v1 l1 E2 v2 l2 := ⟨h.r1.ex hx, h.r2.ex hx, h.o1, h.o2, h.ne, h.ex.trans hx⟩
theorem LI.mk' {w0 w : World} {E : TypeId} {v : Value} {l : List Int} (h : Rw w E v (l.map (Value.int .i64))) (ho : ∀ b, v.ownBlock = some b → w0.heap.size ≤ b) : LI w0 w E v l := ⟨h, ho⟩
/-- A copy of rows, of which one is another now. -/
def twinV (rb rc : Nat → Nat) (g : List (List Int)) (p : Nat) (v : Value) : List Value := (List.range g.length).map fun i => if i = p then v else sv (rb i) (g.getD i []).length (rc i)
theorem Mat.parts {w : World} {T E : TypeId} {b c : Nat} {rb rc : Nat → Nat} {g : List (List Int)} (h : Mat w T E b c rb rc g) {p : Nat} (hp : p < g.length) :
    (∃ sp, At w b T (twinV rb rc g p (sv (rb p) (g.getD p []).length (rc p)) ++ sp)) ∧ g.length ≤ c ∧ (∀ i, i < g.length → OwnI w E (rb i) (rc i) (g.getD i []) ∧ rb i ≠ b) := by
  obtain ⟨⟨sp, h1⟩, h2, h3, h4, h5⟩ := h
  refine ⟨⟨sp, ?_⟩, h2, h4⟩
  have e : twinV rb rc g p (sv (rb p) (g.getD p []).length (rc p)) = (List.range g.length).map (fun i => sv (rb i) (g.getD i []).length (rc i)) := by
    unfold twinV
    apply List.map_congr_left
    intro i _
    by_cases e : i = p
    · subst e; rw [if_pos rfl]
    · rw [if_neg e]
  rw [e]; exact h1
section
variable {r : Option Nat} {P : Program} {Q : Exit → Act → World → Prop} {a : Act} {w : World} {o : Operand} {x y z : Code}
end
theorem ris_weak {m : Int} : ∀ (l : List Int) (a b : Int), a ≤ b → risB b l m = true → risB a l m = true
  | [], _, _, _, _ => rfl
  | x :: l, a, b, hab, h => by
    simp only [risB, Bool.and_eq_true, Bool.not_eq_true', Bool.or_eq_false_iff, decide_eq_false_iff_not] at h ⊢
    exact ⟨⟨by omega, h.1.2⟩, h.2⟩
theorem ris_sub {m : Int} : ∀ {l' l : List Int}, l'.Sublist l → ∀ a, risB a l m = true → risB a l' m = true := by
  intro l' l h
  induction h with
  | slnil => intro a _; rfl
  | cons x _ ih =>
    intro a h
    simp only [risB, Bool.and_eq_true, Bool.not_eq_true', Bool.or_eq_false_iff, decide_eq_false_iff_not] at h
    exact ris_weak _ a x (by omega) (ih x h.2)
  | cons_cons x _ ih =>
    intro a h
    simp only [risB, Bool.and_eq_true] at h ⊢
    exact ⟨h.1, ih x h.2⟩
section
open Go.RowKit
variable {r : Option Nat} {P : Program} {J : World → Prop} {z : Nat} {Q : Exit → Act → World → Prop} {N : Nat} {σ : Nat → Value} {ds : List Deferred} {w : World}
variable {gd : Option (Nat × Bool)} {ops : Array Oper} {i d : Nat} {π : List (Nat × Bool)} {ty : TypeId} {pos : String} {after : Array Edge} {T E : TypeId} {x : Operand}
end
section
open Go.RowKit
variable {r : Option Nat} {P : Program} {J : World → Prop} {z : Nat} {Q : Exit → Act → World → Prop} {N : Nat} {σ : Nat → Value} {ds : List Deferred} {w : World}
variable {gd : Option (Nat × Bool)} {ops : Array Oper} {i d : Nat} {π : List (Nat × Bool)} {ty : TypeId} {pos : String} {after : Array Edge} {E : TypeId} {x : Operand}
end
end Go.Proofs.Ytifbgpkjbciblaa.Sal
end
section
/- halls.sets: its iterator hands out all sets of so many, in order. -/
set_option maxRecDepth 100000
namespace Go.Proofs.Ytifbgpkjbciblaa.Sal
open Go.RowKit
/-- The sets of so many of the items from some one on, in order, each behind those ahead. -/
def setsR : Nat → List Int → Nat → Nat → List (List Int)
  | 0, ahead, _, _ => [ahead]
  | many + 1, ahead, frm, items => (List.range (items - many - frm)).flatMap fun d => setsR many (ahead ++ [((frm + d : Nat) : Int)]) (frm + d + 1) items
def preL (S : Nat → List (List Int)) (d : Nat) : List (List Int) := (List.range d).flatMap S
theorem preL_succ (S : Nat → List (List Int)) (d : Nat) : preL S (d + 1) = preL S d ++ S d := by simp [preL, List.range_succ]
theorem preL_rest (S : Nat → List (List Int)) (d : Nat) : ∀ e, ∃ rest, preL S (d + e) = preL S d ++ rest
  | 0 => ⟨[], by simp⟩
  | e + 1 => by
    obtain ⟨r, h⟩ := preL_rest S d e
    exact ⟨r ++ S (d + e), by rw [← Nat.add_assoc, preL_succ, h, List.append_assoc]⟩
theorem preL_get {S : Nat → List (List Int)} {d t i : Nat} {x : List Int} (hd : d < t) (h : (S d)[i]? = some x) : (preL S t)[(preL S d).length + i]? = some x := by
  obtain ⟨r, hr⟩ := preL_rest S (d + 1) (t - (d + 1))
  have e : d + 1 + (t - (d + 1)) = t := by omega
  rw [e] at hr
  rw [hr, preL_succ, List.append_assoc, List.getElem?_append_right (by omega), List.getElem?_append_left (by have := (List.getElem?_eq_some_iff.1 h).1; omega)]
  have e2 : (preL S d).length + i - (preL S d).length = i := by omega
  rw [e2]; exact h
theorem preL_len {S : Nat → List (List Int)} {d t : Nat} (hd : d < t) : (preL S d).length + (S d).length ≤ (preL S t).length := by
  obtain ⟨r, hr⟩ := preL_rest S (d + 1) (t - (d + 1))
  have e : d + 1 + (t - (d + 1)) = t := by omega
  rw [e] at hr
  rw [hr, preL_succ, List.length_append, List.length_append]
  omega
theorem setsR_pre (many : Nat) (ahead : List Int) (frm items : Nat) : setsR (many + 1) ahead frm items = preL (fun d => setsR many (ahead ++ [((frm + d : Nat) : Int)]) (frm + d + 1) items) (items - many - frm) := rfl
attribute [local irreducible] Go.Code.wpIn Go.wpListIn Ct Ints Rows Sl At Rw WJ
set_option linter.all false
theorem ok_sets : CallOK Try.prog 40 := callOK Try.func40 (by kernel_rfl) rfl
theorem ok_sets1 : CallOK Try.prog 59 := callOK Try.func59 (by kernel_rfl) rfl
theorem ty_yl : Ty1 Try.prog 57 := ⟨let ⟨i, h, _, hs, _⟩ := info_parts (show (Try.prog.info? 57).map (fun i => (i.zero, i.size, i.bytes)) = some (some .nilFunc, 1, 8) by kernel_rfl); ⟨i, h, hs⟩, _, Try.underlying57, rfl⟩
/-- What a sets' iterator has captured. -/
structure SC (w : World) (b1 b2 b3 b4 : Nat) (many : Nat) (ahead : List Int) (frm items : Nat) (av : Value) : Prop where
  a1 : At w b1 3 [.int .i64 (many : Int)]
  a2 : At w b2 22 [av]
  a3 : At w b3 3 [.int .i64 (frm : Int)]
  a4 : At w b4 3 [.int .i64 (items : Int)]
  al : Ints w av ahead
theorem SC.ex {w w' : World} {b1 b2 b3 b4 many frm items : Nat} {ahead : List Int} {av : Value} (h : SC w b1 b2 b3 b4 many ahead frm items av) (hx : Ex w w') : SC w' b1 b2 b3 b4 many ahead frm items av := ⟨h.a1.ex hx, h.a2.ex hx, h.a3.ex hx, h.a4.ex hx, h.al.ex hx⟩
def capsL (b1 b2 b3 b4 : Nat) : List Value := [.pointer (some ⟨b1, 0, none⟩), .pointer (some ⟨b2, 0, none⟩), .pointer (some ⟨b3, 0, none⟩), .pointer (some ⟨b4, 0, none⟩)]
theorem sets_ct (av : Value) (ahead : List Int) (frm items many : Nat) (w : World) (ha : Ints w av ahead) :
    Ct Try.prog 40 #[av, .int .i64 (frm : Int), .int .i64 (items : Int), .int .i64 (many : Int)] w fun u w' => ∃ b1 b2 b3 b4, u = .func (.func 59) #[] (capsL b1 b2 b3 b4).toArray ∧ SC w' b1 b2 b3 b4 many ahead frm items av ∧ Ex w w' := by
  obtain ⟨a, c, rfl⟩ := ha.form
  refine enter (N := 10) (vs := [.slice a ahead.length c, .int .i64 (frm : Int), .int .i64 (items : Int), .int .i64 (many : Int)]) Try.func40 rfl rfl rfl ?_
  refine c_sr ?_
  refine s_box (cs := [.slice a ahead.length c]) rfl rfl ?_
  intro b2 w1 hb2 hA2 hx1 hs1
  refine s_box (cs := [.int .i64 (frm : Int)]) rfl rfl ?_
  intro b3 w2 hb3 hA3 hx2 hs2
  refine s_box (cs := [.int .i64 (items : Int)]) rfl rfl ?_
  intro b4 w3 hb4 hA4 hx3 hs3
  refine s_box (cs := [.int .i64 (many : Int)]) rfl rfl ?_
  intro b1 w4 hb1 hA1 hx4 hs4
  have hx04 := hx1.trans (hx2.trans (hx3.trans hx4))
  repeat (first | (refine isO ?_; refine s_assign ?_) | (refine isC ?_; refine c_sr ?_) | (refine l_th ?_))
  refine s_mkfn (vs := capsL b1 b2 b3 b4) rfl ?_
  repeat (first | (refine isO ?_; refine s_assign ?_) | (refine isC ?_; refine c_ret ?_) | (refine l_th ?_))
  exact ret1 rfl rfl ⟨b1, b2, b3, b4, rfl, ⟨hA1, hA2.ex (hx2.trans (hx3.trans hx4)), hA3.ex (hx3.trans hx4), hA4.ex hx4, ha.ex hx04⟩, hx04⟩
set_option maxHeartbeats 4000000 in
theorem sets_iter : ∀ (many : Nat) (ahead : List Int) (frm items : Nat) (b1 b2 b3 b4 : Nat) (av : Value) (w : World), items ≤ 8 → frm ≤ 9 → ahead.length + many ≤ 100 → SC w b1 b2 b3 b4 many ahead frm items av →
    IterX Try.prog 59 (capsL b1 b2 b3 b4) (setsR many ahead frm items) w
  | 0, ahead, frm, items, b1, b2, b3, b4, av, w, hi8, hf9, hal, hC => by
    intro l G Jx W0 hw0 hJx hY
    refine enter (N := 37) (vs := .func (.yield l) #[] #[] :: capsL b1 b2 b3 b4) Try.func59 rfl rfl rfl ?_
    refine c_sr ?_
    refine s_box (cs := [.func (.yield l) #[] #[]]) rfl rfl ?_
    intro b5 W1 hb5 hA5 hx1 hs1
    have hC1 := hC.ex (hw0.trans hx1)
    have ha1 := hC1.a1
    have ha2 := hC1.a2
    repeat (first | (refine isO ?_; first | (refine isBin ?_; refine s_eqlT rfl rfl (by omega) ?_) | (refine isLD ?_; refine s_ldA ty_int rfl (by assumption) rfl ?_)) | (refine isC ?_; first | refine c_sr ?_ | refine c_seq ?_ | refine c_ift rfl ?_) | (refine l_th ?_))
    refine s_ldA ty_yl rfl hA5 rfl ?_
    repeat ((refine isO ?_; (refine isLD ?_; refine s_ldA ty_ints rfl (by assumption) rfl ?_)))
    refine s_yield (vs := [av]) rfl rfl (hY 0 ahead W1 av rfl hx1 hC1.al) ?_
    rintro e W2 (⟨rfl, hx2, hG⟩ | ⟨rfl, hJ, hK⟩)
    · refine ⟨_, rfl, ?_⟩
      repeat (first | (refine isC ?_; refine c_ret ?_) | (first | refine l_th ?_ | refine th_ret ?_))
      refine ret0 rfl (.inl ⟨hx1.trans hx2, fun i hi => ?_⟩)
      have : i = 0 := by simp [setsR] at hi; exact hi
      rw [this]; exact hG
    · refine ⟨_, rfl, ?_⟩
      repeat (first | (refine isC ?_; refine c_ret ?_) | (first | refine l_th ?_ | refine th_ret ?_))
      exact ret0 rfl (.inr ⟨0, by simp [setsR], fun j hj => by omega, hJ, (Kb.ex hx1).trans hK⟩)
  | many + 1, ahead, frm, items, b1, b2, b3, b4, av, w, hi8, hf9, hal, hC => by
    intro l G Jx W0 hw0 hJx hY
    obtain ⟨S, hS⟩ : ∃ S : Nat → List (List Int), S = fun d => setsR many (ahead ++ [((frm + d : Nat) : Int)]) (frm + d + 1) items := ⟨_, rfl⟩
    have hL : setsR (many + 1) ahead frm items = preL S (items - many - frm) := by rw [hS]; exact setsR_pre _ _ _ _
    rw [hL] at hY ⊢
    refine enter (N := 37) (vs := .func (.yield l) #[] #[] :: capsL b1 b2 b3 b4) Try.func59 rfl rfl rfl ?_
    refine c_sr ?_
    refine s_box (cs := [.func (.yield l) #[] #[]]) rfl rfl ?_
    intro b5 W1 hb5 hA5 hx1 hs1
    have hC1 := hC.ex (hw0.trans hx1)
    have ha1 := hC1.a1
    have ha3 := hC1.a3
    repeat (first | (refine isO ?_; first | refine s_assign ?_ | (refine isBin ?_; refine s_eqlF rfl rfl (by omega) ?_) | (refine isLD ?_; refine s_ldA ty_int rfl (by assumption) rfl ?_)) | (refine isC ?_; first | refine c_sr ?_ | refine c_th ?_ | refine c_seq ?_ | refine c_iff rfl ?_ | refine c_block ?_) | (refine l_th ?_))
    refine c_loopD 137438937280 (fun d => [(6, .int .i64 ((frm + d : Nat) : Int))]) (fun d Ds W => d ≤ items - many - frm ∧ Ex W1 W ∧ (∀ i, i < (preL S d).length → G i) ∧ Marks Ds W ∧ Ds.Nodup ∧ ∀ D ∈ Ds, W0.heap.size ≤ D ∧ D < W.heap.size) (fun d => items - many - frm - d) 0 ⟨vint (by simp), trivial⟩
      ⟨Nat.zero_le _, Ex.refl _, fun i hi => by simp [preL] at hi, fun D hD => by simp at hD, List.nodup_nil, fun D hD => by simp at hD⟩ ?_
    rintro d Ds ρ W ⟨hd, hxW, hGd, hmk, hnd, hDs⟩
    have hx0W := hx1.trans hxW
    have hCW := hC1.ex hxW
    have ha1W := hCW.a1
    have ha2W := hCW.a2
    have ha4W := hCW.a4
    by_cases hd' : d < items - many - frm
    · repeat (first | (refine isO ?_; first | refine s_move ?_ | (refine isBin ?_; first | refine s_leqT rfl rfl (by omega) ?_ | refine s_sub rfl rfl ⟨by omega, by omega⟩ ?_) | (refine isLD ?_; refine s_ldA ty_int rfl (by assumption) rfl ?_)) | (refine isC ?_; first | refine c_sr ?_ | refine c_th ?_ | refine c_seq ?_ | refine c_ift rfl ?_ | refine c_block ?_) | (refine l_th ?_))
      have hlen1 : (ahead ++ [((frm + d : Nat) : Int)]).length = ahead.length + 1 := by simp
      refine c_joinK (γ := Nat × Nat × Nat × Nat) 4292870144 (fun q => [(31, .func (.func 59) #[] (capsL q.1 q.2.1 q.2.2.1 q.2.2.2).toArray)]) (fun q W' => (∃ av', SC W' q.1 q.2.1 q.2.2.1 q.2.2.2 many (ahead ++ [((frm + d : Nat) : Int)]) (frm + d + 1) items av') ∧ Ex W W') ?_ ?_
      · refine c_drawF (Ex.refl W) 0 8 [(0, true), (2, true), (5, true), (6, true), (7, true), (8, true), (9, true)] 1 [(3, false), (4, false), (10, false)] 3 [(1, false), (4, false), (10, false)] mixed (by kernel_rfl) ?_
        have hxd := Ex.drew W
        refine d_ldA rfl ty_ints rfl ha2W rfl ?_
        refine d_move rfl ?_
        refine d_move rfl ?_
        refine d_add rfl rfl rfl ⟨by omega, by omega⟩ ?_
        refine d_ldA rfl ty_int rfl ha4W rfl ?_
        refine d_ldA rfl ty_int rfl ha1W rfl ?_
        refine d_sub rfl rfl rfl ⟨by omega, by omega⟩ ?_
        refine d_re (v' := .int .i64 (many : Int)) (vint (by omega)) ?_
        refine d_fork ?_ ?_
        · refine d_ch rfl ?_
          refine s_call ok_Clone rfl (Clone_ct av ahead W.drew (hCW.al.ex hxd) (by omega)) ?_
          rintro v22 W2 ⟨hL2, hx2⟩
          have hxd2 := hxd.trans hx2
          refine l_nil ⟨rfl, .inr hxd2, ?_⟩
          refine d_ch rfl ?_
          refine s_bs1 sl_ints in_int rfl rfl ?_
          intro b3' W3 hb3' hA3 hx3 hs3
          have hxd3 := hxd2.trans hx3
          refine l_nil ⟨rfl, .inr hxd3, ?_⟩
          refine d_ch rfl ?_
          refine s_lapp (w0 := W.drew) sl_ints in_int (hL2.ex hx3) hA3.one rfl rfl (by simp; omega) (hx2.trans hx3) ?_
          intro v4 W4 hL4 hx4
          have hxd4 := hxd.trans hx4
          refine l_nil ⟨rfl, .inr hxd4, ?_⟩
          refine d_ch rfl ?_
          refine s_call (vs := [v4, .int .i64 ((frm + d + 1 : Nat) : Int), .int .i64 (items : Int), .int .i64 (many : Int)]) ok_sets rfl (sets_ct v4 _ (frm + d + 1) items many W4 (hL4.ints (by omega))) ?_
          rintro u W5 ⟨c1, c2, c3, c4, rfl, hC5, hx5⟩
          have hxd5 := hxd4.trans hx5
          refine l_nil ⟨rfl, .inr hxd5, ?_⟩
          refine d_nil ?_
          refine th_norm ?_
          exact join_end (c1, c2, c3, c4) (by (repeat (first | exact agree_refl _ _ | refine agree_upd rfl ?_))) ⟨rfl, trivial⟩ ⟨⟨v4, hC5⟩, hxd5⟩
        · refine d_ch rfl ?_
          refine s_bs1 sl_ints in_int rfl rfl ?_
          intro b3' W3 hb3' hA3 hx3 hs3
          have hxd3 := hxd.trans hx3
          refine l_nil ⟨rfl, .inr hxd3, ?_⟩
          refine d_ch rfl ?_
          refine s_call ok_Clone rfl (Clone_ct av ahead W3 (hCW.al.ex hxd3) (by omega)) ?_
          rintro v22 W2 ⟨hL2, hx2⟩
          have hxd2 := hxd3.trans hx2
          refine l_nil ⟨rfl, .inr hxd2, ?_⟩
          refine d_ch rfl ?_
          refine s_lapp (w0 := W3) sl_ints in_int hL2 (hA3.one.ex hx2) rfl rfl (by simp; omega) hx2 ?_
          intro v4 W4 hL4 hx4
          have hxd4 := hxd3.trans hx4
          refine l_nil ⟨rfl, .inr hxd4, ?_⟩
          refine d_ch rfl ?_
          refine s_call (vs := [v4, .int .i64 ((frm + d + 1 : Nat) : Int), .int .i64 (items : Int), .int .i64 (many : Int)]) ok_sets rfl (sets_ct v4 _ (frm + d + 1) items many W4 (hL4.ints (by omega))) ?_
          rintro u W5 ⟨c1, c2, c3, c4, rfl, hC5, hx5⟩
          have hxd5 := hxd4.trans hx5
          refine l_nil ⟨rfl, .inr hxd5, ?_⟩
          refine d_nil ?_
          refine th_norm ?_
          exact join_end (c1, c2, c3, c4) (by (repeat (first | exact agree_refl _ _ | refine agree_upd rfl ?_))) ⟨rfl, trivial⟩ ⟨⟨v4, hC5⟩, hxd5⟩
      · intro q ρ2 W5 hI5
        refine Exists.elim hI5.1 fun av5 hC5 => ?_
        have hx5 := hI5.2
        have hx05 := hx0W.trans hx5
        have hx15 := hxW.trans hx5
        have hlt := preL_len (S := S) hd'
        have hSd : setsR many (ahead ++ [((frm + d : Nat) : Int)]) (frm + d + 1) items = S d := by rw [hS]
        have hit := sets_iter many (ahead ++ [((frm + d : Nat) : Int)]) (frm + d + 1) items q.1 q.2.1 q.2.2.1 q.2.2.2 av5 W5 hi8 (by omega) (by omega) hC5
        rw [hSd] at hit
        have z05 := hx05.size
        refine th_norm ?_
        repeat ((refine isC ?_; refine c_block ?_))
        refine c_rangeX (gf := 59) (lb := capsL q.1 q.2.1 q.2.2.1 q.2.2.2) (L := S d) (w0 := W5) rfl ok_sets1 hit (Ex.refl W5) rfl (fun i => G ((preL S d).length + i)) (fun i W' => Jx ((preL S d).length + i) W' ∧ Kb W0.heap.size W5 W') (fun i W' W'' hJ hb hkc => ⟨hJx _ _ _ hJ.1 (Below.mono hb z05) hkc, Kb.below hJ.2 hb⟩)
          (fun v σ => upd (updl [(32, v)] σ) 7 v) ?_ ?_ ?_ ?_
        · intro l' v W' K hK
          repeat (first | (refine isO ?_; refine s_assign ?_) | (refine isC ?_; refine c_region ?_) | (refine l_th ?_))
          exact hK
        · intro l' i x v W' hx hxW' hI'
          have hYi := hY ((preL S d).length + i) x W' v (preL_get hd' hx) (hx05.trans hxW') hI'
          have hA5' := hA5.ex (hx15.trans hxW')
          repeat ((refine isC ?_; first | refine c_sr ?_ | refine c_block ?_))
          refine s_ldA ty_yl rfl hA5' rfl ?_
          repeat ((refine isO ?_; refine s_move ?_))
          refine s_yield (vs := [v]) rfl rfl hYi ?_
          rintro e W6 (⟨rfl, hx6, hG⟩ | ⟨rfl, hJ, hK⟩)
          · refine ⟨_, rfl, ?_⟩
            repeat (first | (refine isO ?_; refine s_not rfl ?_) | (refine isC ?_; first | refine c_iff rfl ?_ | refine c_skip ?_) | (first | refine l_th ?_ | refine ib_norm ?_))
            exact ⟨hx6, hG⟩
          · refine ⟨_, rfl, ?_⟩
            repeat (first | (refine isO ?_; refine s_not rfl ?_) | (refine isC ?_; first | refine c_ift rfl ?_ | refine c_ret ?_) | (first | refine l_th ?_ | refine ib_ret ?_))
            exact ⟨⟨hJ, (Kb.ex hxW').trans hK⟩, hK.mono z05⟩
        · intro D W6 hD hx6 hG6 hK6
          have hmk6 : Marks (D :: Ds) W6 := fun E hE => by
            rcases List.mem_cons.1 hE with rfl | hE
            · exact hK6
            · exact (hmk.ex (hx5.trans hx6)) E hE
          have z5 := hx5.size
          have z6 := hx6.size
          have hlt6 := (Array.getElem?_eq_some_iff.1 hK6).1
          repeat (first | (refine isO ?_; first | refine s_move ?_ | refine s_assign ?_ | (refine isBin ?_; refine s_inc rfl (by omega) ?_)) | (refine isC ?_; refine c_region ?_) | (refine l_th ?_))
          refine loop_endD (d + 1) (D :: Ds) (by (repeat (first | exact agree_refl _ _ | refine agree_upd rfl ?_ | refine agree_ext rfl ?_ | refine agree_mask rfl ?_))) ⟨vint (by omega), trivial⟩ ⟨hd', hx15.trans hx6, fun i hi => ?_, hmk6, List.nodup_cons.2 ⟨fun hm => by have := (hDs D hm).2; omega, hnd⟩, fun E hE => ?_⟩ (by omega)
          · rw [preL_succ, List.length_append] at hi
            by_cases hi2 : i < (preL S d).length
            · exact hGd i hi2
            · have h9 := hG6 (i - (preL S d).length) (by omega)
              have e : (preL S d).length + (i - (preL S d).length) = i := by omega
              rw [e] at h9; exact h9
          · rcases List.mem_cons.1 hE with rfl | hE
            · omega
            · have := hDs E hE; omega
        · intro D i W6 hD hi hG6 hJ6 hKb hK6
          have hlt6 := (Array.getElem?_eq_some_iff.1 hK6).1
          have z5 := hx5.size
          have hmk6 : Marks (D :: Ds) W6 := fun E hE => by
            rcases List.mem_cons.1 hE with rfl | hE
            · exact hK6
            · have h9 := hDs E hE
              exact (hJ6.2.2 E h9.1 (by omega)).trans ((hmk.ex hx5) E hE)
          have hB6 : ∀ E ∈ D :: Ds, W0.heap.size ≤ E := fun E hE => by
            rcases List.mem_cons.1 hE with rfl | hE
            · omega
            · exact (hDs E hE).1
          have z6 := hJ6.2.1
          repeat (first | refine th_ret ?_ | refine ib_ret ?_)
          refine ret0d (Ds := D :: Ds) rfl (List.nodup_cons.2 ⟨fun hm => by have := (hDs D hm).2; omega, hnd⟩) hmk6 (fun w' hp => .inr ⟨(preL S d).length + i, by omega, fun j hj => ?_, hJx _ _ _ hJ6.1 (hp.below hB6) hp.2.2.2.2.2, ?_⟩)
          · by_cases hj2 : j < (preL S d).length
            · exact hGd j hj2
            · have h9 := hG6 (j - (preL S d).length) (by omega)
              have e : (preL S d).length + (j - (preL S d).length) = j := by omega
              rw [e] at h9; exact h9
          · refine ⟨by rw [hp.2.2.2.1]; omega, fun k hB hk => ?_⟩
            omega
    · have hde : d = items - many - frm := by omega
      repeat (first | (refine isO ?_; first | refine s_move ?_ | (refine isBin ?_; first | refine s_leqF rfl rfl (by omega) ?_ | refine s_sub rfl rfl ⟨by omega, by omega⟩ ?_) | (refine isLD ?_; refine s_ldA ty_int rfl (by assumption) rfl ?_)) | (refine isC ?_; first | refine c_sr ?_ | refine c_seq ?_ | refine c_iff rfl ?_ | refine c_exit ?_) | (first | refine l_th ?_ | refine ib_exit ?_ | refine th_exit ?_))
      exact end0d rfl hnd hmk (fun w' hp => .inl ⟨PD.ex hx0W hp (fun D hD => (hDs D hD).1), fun i hi => hGd i (by rw [hde]; exact hi)⟩)
end Go.Proofs.Ytifbgpkjbciblaa.Sal
end
section
/- halls.Few. -/
set_option maxRecDepth 100000
namespace Go.Proofs.Ytifbgpkjbciblaa.Sal
open Go.RowKit
/-- Does one want nothing but these? -/
def wantB (R : Nat → Nat → Bool) (nn : Nat) (l : List Int) (i : Nat) : Bool := !((rowL nn (R i)).any fun k => !l.contains k)
/-- How many of some want nothing but these. -/
def withN (R : Nat → Nat → Bool) (nn : Nat) (sl l : List Int) : Nat := (sl.filter fun q => wantB R nn l q.toNat).length
def withK (R : Nat → Nat → Bool) (nn : Nat) (sl l : List Int) (j : Nat) : Nat := ((sl.take j).filter fun q => wantB R nn l q.toNat).length
theorem withK_succ {R : Nat → Nat → Bool} {nn : Nat} {sl l : List Int} {j p : Nat} (hj : j < sl.length) (hp : sl.getD j 0 = (p : Int)) : withK R nn sl l (j + 1) = withK R nn sl l j + (if wantB R nn l p = true then 1 else 0) := by
  unfold withK
  rw [List.take_succ_eq_append_getElem hj, List.filter_append, List.length_append]
  congr 1
  have e : sl[j].toNat = p := by
    have : sl.getD j 0 = sl[j] := by simp [List.getD_eq_getElem?_getD, hj]
    omega
  by_cases h : wantB R nn l p = true <;> simp [e, h]
theorem withK_le (R : Nat → Nat → Bool) (nn : Nat) (sl l : List Int) (j : Nat) : withK R nn sl l j ≤ j := by
  unfold withK
  exact Nat.le_trans (List.length_filter_le _ _) (by rw [List.length_take]; omega)
theorem withK_all (R : Nat → Nat → Bool) (nn : Nat) (sl l : List Int) {j : Nat} (h : ¬ j < sl.length) : withK R nn sl l j = withN R nn sl l := by
  unfold withK withN
  rw [List.take_of_length_le (by omega)]
/-- Are these too few? -/
def fewB (R : Nat → Nat → Bool) (nn : Nat) (sl l : List Int) : Bool := decide (l.length < withN R nn sl l)
def fewUp (R : Nat → Nat → Bool) (nn : Nat) (sl : List Int) (many : Nat) : Option (List Int) := (setsR many [] 0 nn).find? (fewB R nn sl)
theorem setsR_len : ∀ (many : Nat) (ahead : List Int) (frm items : Nat) (x : List Int), x ∈ setsR many ahead frm items → x.length = ahead.length + many
  | 0, ahead, frm, items, x, h => by simp [setsR] at h; rw [h]; rfl
  | many + 1, ahead, frm, items, x, h => by
    unfold setsR at h
    obtain ⟨d, _, hx⟩ := List.mem_flatMap.1 h
    have := setsR_len many _ _ _ x hx
    simp at this; omega
attribute [local irreducible] Go.Code.wpIn Go.wpListIn Ct Ints Rows Sl At Rw WJ
set_option linter.all false
theorem ok_Few : CallOK Try.prog 15 := callOK Try.func15 (by kernel_rfl) rfl
theorem ok_Few1 : CallOK Try.prog 35 := callOK Try.func35 (by kernel_rfl) rfl
theorem ok_Few11 : CallOK Try.prog 38 := callOK Try.func38 (by kernel_rfl) rfl
theorem Few11_ct (v : Value) (l : List Int) (b : Nat) (q : Int) (w : World) (hA : At w b 22 [v]) (hl : Ints w v l) :
    Ct Try.prog 38 #[.int .i64 q, .pointer (some ⟨b, 0, none⟩)] w fun u w' => u = .bool (!l.contains q) ∧ Ex w w' := by
  refine enter (N := 8) (vs := [.int .i64 q, .pointer (some ⟨b, 0, none⟩)]) Try.func38 rfl rfl rfl ?_
  repeat (first | (refine isO ?_; first | refine s_move ?_ | refine s_assign ?_ | (refine isLD ?_; refine s_ldA ty_ints rfl (by assumption) rfl ?_)) | (refine isC ?_; refine c_sr ?_) | (refine l_th ?_))
  refine s_call ok_Contains rfl (Contains_ct v l q w hl) ?_
  rintro u w1 ⟨rfl, hx⟩
  repeat (first | (refine isO ?_; first | refine s_assign ?_ | refine s_not rfl ?_) | (refine isC ?_; refine c_ret ?_) | (refine l_th ?_))
  exact ret1 rfl rfl ⟨rfl, hx⟩
/-- What the count of those within has captured. -/
structure FC (w : World) (b1 b2 b3 : Nat) (R : Nat → Nat → Bool) (m nn : Nat) (gv sv' : Value) (sl : List Int) : Prop where
  a1 : At w b1 22 [sv']
  a2 : At w b2 23 [gv]
  a3 : At w b3 3 [.int .i64 (nn : Int)]
  gr : Rows w gv (gL R m nn)
  sr : Ints w sv' sl
theorem FC.ex {w w' : World} {b1 b2 b3 : Nat} {R : Nat → Nat → Bool} {m nn : Nat} {gv sv' : Value} {sl : List Int} (h : FC w b1 b2 b3 R m nn gv sv' sl) (hx : Ex w w') : FC w' b1 b2 b3 R m nn gv sv' sl := ⟨h.a1.ex hx, h.a2.ex hx, h.a3.ex hx, h.gr.ex hx, h.sr.ex hx⟩
set_option maxHeartbeats 2000000 in
theorem Few1_ct {R : Nat → Nat → Bool} {m nn : Nat} (hm : m ≤ 8) (hn : nn ≤ 8) {gv sv' v : Value} {sl l : List Int} {b1 b2 b3 : Nat} {w : World} (hC : FC w b1 b2 b3 R m nn gv sv' sl) (hris : risB (-1) sl (m : Int) = true) (hl : Ints w v l) :
    Ct Try.prog 35 #[v, .pointer (some ⟨b1, 0, none⟩), .pointer (some ⟨b2, 0, none⟩), .pointer (some ⟨b3, 0, none⟩)] w fun u w' => u = .int .i64 (withN R nn sl l : Int) ∧ Ex w w' := by
  obtain ⟨a, c, rfl⟩ := hl.form
  have hsl := ris_len hris
  refine enter (N := 36) (vs := [.slice a l.length c, .pointer (some ⟨b1, 0, none⟩), .pointer (some ⟨b2, 0, none⟩), .pointer (some ⟨b3, 0, none⟩)]) Try.func35 rfl rfl rfl ?_
  refine c_sr ?_
  refine s_box (cs := [.slice a l.length c]) rfl rfl ?_
  intro b4 w1 hb4 hA4 hx1 hs1
  have hC1 := hC.ex hx1
  have hl1 := hl.ex hx1
  have hsr1 := hC1.sr
  repeat (first | (refine isO ?_; refine s_assign ?_) | (refine isC ?_; first | refine c_sr ?_ | refine c_seq ?_) | (refine l_th ?_))
  refine s_ldA ty_ints rfl hC1.a1 rfl ?_
  repeat (first | (refine isO ?_; first | refine s_move ?_ | (refine isCall ?_; refine s_lenI sl_ints rfl (by assumption) ?_)) | (refine isC ?_; refine c_block ?_) | (refine l_th ?_))
  refine c_loop (γ := Nat) 34359735200 (fun j => [(12, .int .i64 (j : Int)), (5, .int .i64 (withK R nn sl (l) j : Int))]) (fun j W => j ≤ sl.length ∧ Ex w1 W) (fun j => sl.length - j) 0 ⟨rfl, vint rfl, trivial⟩ ⟨Nat.zero_le _, Ex.refl _⟩ ?_
  rintro j ρ W ⟨hj, hxW⟩
  have hCW := hC1.ex hxW
  have hsrW := hCW.sr
  have hwl := withK_le R nn sl l j
  repeat (first | (refine isO ?_; (refine isBin ?_; refine s_lss rfl rfl ?_)) | (refine isC ?_; first | refine c_sr ?_ | refine c_seq ?_) | (refine l_th ?_))
  refine c_ifd rfl (fun h => ?_) (fun h => ?_)
  · have hj' : j < sl.length := by omega
    refine Exists.elim (ris_at hris hj') fun p hp => ?_
    have hp1 := hp.1
    have hp2 := hp.2
    have hst := withK_succ (R := R) (nn := nn) (l := l) hj' hp1
    have hnear : nearP R m [(p : Int)] = R p := funext fun k => nearP_one hp2 k
    repeat (first | (refine isO ?_; first | refine s_assign ?_ | (refine isIA ?_; refine s_ixI sl_ints ty_int rfl rfl rfl (by assumption) (by omega) ?_; intro _)) | (refine isC ?_; first | refine c_sr ?_ | refine c_th ?_ | refine c_seq ?_ | refine c_block ?_) | (refine l_th ?_))
    refine s_ldA ty_rows rfl hCW.a2 rfl ?_
    refine s_ldA ty_int rfl hCW.a3 rfl ?_
    repeat ((refine isO ?_; refine s_move ?_))
    refine s_re (v' := .int .i64 (p : Int)) (vint hp1) ?_
    refine s_bs1 sl_ints in_int rfl rfl ?_
    intro b5 w2 hb5 hA5 hx2 hs2
    have hC2 := hCW.ex hx2
    refine s_call (vs := [gv, .int .i64 (nn : Int), sv b5 1 1]) ok_Near rfl (Near_ok hm hn gv _ [(p : Int)] w2 hC2.gr hA5.one (by simp [risB]; omega)) ?_
    rintro u w3 ⟨vn, an, rfl, hvn, hvnb, hIn, hx3⟩
    rw [hnear] at hIn
    have hx13 := hxW.trans (hx2.trans hx3)
    have hA43 := hA4.ex hx13
    have hl3 := hl1.ex hx13
    repeat (first | (refine isO ?_; first | refine s_move ?_ | refine s_assign ?_ | (refine isG ?_; refine g_yes rfl rfl ?_) | (refine isBin ?_; refine s_eqlT rfl rfl (by omega) ?_) | refine s_extract rfl rfl ?_) | (refine isC ?_; refine c_sr ?_) | (refine l_th ?_))
    refine s_mkfn (vs := [.pointer (some ⟨b4, 0, none⟩)]) rfl ?_
    repeat ((refine isO ?_; (refine isG ?_; refine g_yes rfl rfl ?_)))
    refine s_call ok_cfI rfl (cfI_ct vn _ 38 [.pointer (some ⟨b4, 0, none⟩)] (fun k => !l.contains k) w3 hIn ⟨ok_Few11, fun q w9 hx9 => Few11_ct _ l b4 q w9 (hA43.ex hx9) (hl3.ex hx9)⟩) ?_
    rintro u w4 ⟨rfl, hx4⟩
    have hx14 := hx13.trans hx4
    refine Or.elim (tf8 (wantB R nn l p)) (fun hb => ?_) (fun hb => ?_)
    · rw [hb, if_pos rfl] at hst
      refine s_re (v' := .bool false) (vbool (by unfold wantB at hb; simpa using hb)) ?_
      repeat (first | (refine isO ?_; first | refine s_move ?_ | refine s_assign ?_ | (refine isG ?_; refine g_yes rfl rfl ?_) | (refine isBin ?_; refine s_inc rfl (by omega) ?_) | (refine isPick ?_; refine s_pickt rfl rfl ?_) | refine s_not rfl ?_) | (refine isC ?_; first | refine c_region ?_ | refine c_ift rfl ?_) | (first | refine l_th ?_ | refine l_nil ?_))
      exact loop_end (j + 1) (by (repeat (first | exact agree_refl _ _ | refine agree_upd rfl ?_ | refine agree_ext rfl ?_ | refine agree_mask rfl ?_))) ⟨rfl, vint (by rw [hst]), trivial⟩ ⟨hj', hx14⟩ (by omega)
    · rw [hb, if_neg Bool.false_ne_true] at hst
      refine s_re (v' := .bool true) (vbool (by unfold wantB at hb; simpa using hb)) ?_
      repeat (first | (refine isO ?_; first | refine s_move ?_ | (refine isG ?_; refine g_yes rfl rfl ?_) | (refine isBin ?_; refine s_inc rfl (by omega) ?_) | (refine isPick ?_; refine s_pickt rfl rfl ?_) | refine s_not rfl ?_) | (refine isC ?_; first | refine c_region ?_ | refine c_iff rfl ?_ | refine c_skip ?_) | (refine l_th ?_))
      exact loop_end (j + 1) (by (repeat (first | exact agree_refl _ _ | refine agree_upd rfl ?_ | refine agree_ext rfl ?_ | refine agree_mask rfl ?_))) ⟨rfl, vint (by rw [hst]; rfl), trivial⟩ ⟨hj', hx14⟩ (by omega)
  · have hall := withK_all R nn sl l (show ¬ j < sl.length by omega)
    repeat (first | (refine isO ?_; first | refine s_move ?_ | refine s_assign ?_) | (refine isC ?_; first | refine c_sr ?_ | refine c_ret ?_ | refine c_exit ?_) | (refine l_th ?_))
    exact ret1 rfl rfl ⟨vint (by rw [hall]), hx1.trans hxW⟩
end Go.Proofs.Ytifbgpkjbciblaa.Sal
end
section
/- halls.Few. -/
set_option maxRecDepth 100000
namespace Go.Proofs.Ytifbgpkjbciblaa.Sal
open Go.RowKit
/-- The first that are too few, of fewer than so many. -/
def fewTo (R : Nat → Nat → Bool) (nn : Nat) (sl : List Int) : Nat → Option (List Int)
  | 0 => none
  | k + 1 => match fewTo R nn sl k with
    | some l => some l
    | none => fewUp R nn sl k
noncomputable def fewR (R : Nat → Nat → Bool) (m nn : Nat) (sl : List Int) : Option (List Int) := if rkm (Rsome sl R) m nn = sl.length then none else fewTo R nn sl (nn + 1)
theorem fewTo_none {R : Nat → Nat → Bool} {nn : Nat} {sl : List Int} {k : Nat} (h : fewTo R nn sl k = none) (h2 : fewUp R nn sl k = none) : fewTo R nn sl (k + 1) = none := by
  simp only [fewTo, h, h2]
theorem fewTo_some {R : Nat → Nat → Bool} {nn : Nat} {sl : List Int} {k : Nat} {l : List Int} (h : fewTo R nn sl k = none) (h2 : fewUp R nn sl k = some l) : ∀ b, k < b → fewTo R nn sl b = some l
  | b + 1, hb => by
    by_cases e : b = k
    · subst e; simp only [fewTo, h, h2]
    · have := fewTo_some h h2 b (by omega)
      simp only [fewTo, this]
theorem find_none {L : List (List Int)} {p : List Int → Bool} (h : ∀ i, i < L.length → ∀ y, L[i]? = some y → p y = false) : L.find? p = none := by
  rw [List.find?_eq_none]
  intro x hx
  obtain ⟨i, hi⟩ := List.mem_iff_getElem?.1 hx
  have := h i (List.getElem?_eq_some_iff.1 hi).1 x hi
  simp [this]
theorem find_at {p : List Int → Bool} : ∀ {L : List (List Int)} {i : Nat} {x : List Int}, L[i]? = some x → p x = true → (∀ j, j < i → ∀ y, L[j]? = some y → p y = false) → L.find? p = some x
  | z :: L, 0, x, hx, hp, _ => by
    simp at hx; subst hx
    rw [List.find?_cons_of_pos hp]
  | z :: L, i + 1, x, hx, hp, h => by
    have h0 := h 0 (by omega) z rfl
    rw [List.find?_cons_of_neg (by simp [h0])]
    exact find_at (by simpa using hx) hp (fun j hj y hy => h (j + 1) (by omega) y (by simpa using hy))
theorem At.below {w w' : World} {b n : Nat} {E : TypeId} {cs : List Value} (h : At w b E cs) (hb : Below n w w') (hn : b < n) : At w' b E cs := (hb.block b hn).trans h
attribute [local irreducible] Go.Code.wpIn Go.wpListIn Ct Ints Rows Sl At Rw WJ
set_option linter.all false
theorem ty_bl : Ty1 Try.prog 4 := ⟨let ⟨i, h, _, hs, _⟩ := info_parts (show (Try.prog.info? 4).map (fun i => (i.zero, i.size, i.bytes)) = some (some (.bool false), 1, 1) by kernel_rfl); ⟨i, h, hs⟩, _, Try.underlying4, rfl⟩
theorem ty_err : Ty1 Try.prog 26 := ⟨let ⟨i, h, _, hs, _⟩ := info_parts (show (Try.prog.info? 26).map (fun i => (i.zero, i.size, i.bytes)) = some (some (.int .i64 0), 1, 8) by kernel_rfl); ⟨i, h, hs⟩, _, Try.underlying26, rfl⟩
theorem ty_fn36 : Ty1 Try.prog 71 := ⟨let ⟨i, h, _, hs, _⟩ := info_parts (show (Try.prog.info? 71).map (fun i => (i.zero, i.size, i.bytes)) = some (some .nilFunc, 1, 8) by kernel_rfl); ⟨i, h, hs⟩, _, Try.underlying71, rfl⟩
theorem in_z {E : TypeId} {z : Value} (h : (Try.prog.info? E).map (·.zero) = some (some z)) : ∃ ti, Try.prog.info? E = some ti ∧ ti.zero = some z := by
  cases hi : Try.prog.info? E with
  | none => rw [hi] at h; cases h
  | some ti => rw [hi] at h; exact ⟨ti, rfl, by simpa using h⟩
theorem in_bl : ∃ ti, Try.prog.info? 4 = some ti ∧ ti.zero = some (.bool false) := in_z (by kernel_rfl)
theorem in_err : ∃ ti, Try.prog.info? 26 = some ti ∧ ti.zero = some (.int .i64 0) := in_z (by kernel_rfl)
theorem in_fn36 : ∃ ti, Try.prog.info? 71 = some ti ∧ ti.zero = some .nilFunc := in_z (by kernel_rfl)
/-- What lies in memory where the search has found some. -/
def FJ (w W0 Wr W' : World) (L : List (List Int)) (p : List Int → Bool) (b6 b7 b8 i : Nat) : Prop :=
  (∃ x v a, L[i]? = some x ∧ p x = true ∧ At W' b6 22 [v] ∧ At W' b7 4 [.bool true] ∧ At W' b8 26 [.int .i64 0] ∧ v = .slice a x.length x.length ∧ (∀ b, v.ownBlock = some b → w.heap.size ≤ b) ∧ Ints W' v x ∧ Ex w W') ∧ Kb W0.heap.size Wr W'
theorem FJ.go {w W0 Wr W W' : World} {L : List (List Int)} {p : List Int → Bool} {b6 b7 b8 i : Nat} (h : FJ w W0 Wr W L p b6 b7 b8 i) (hb : Below Wr.heap.size W W') (hk : KC W W') (h6 : b6 < Wr.heap.size) (h7 : b7 < Wr.heap.size) (h8 : b8 < Wr.heap.size) (hw : w.heap.size ≤ Wr.heap.size) : FJ w W0 Wr W' L p b6 b7 b8 i := by
  obtain ⟨⟨x, v, a, h1, h2, h3, h4, h5, h9, h10, h11, h12⟩, h13⟩ := h
  exact ⟨⟨x, v, a, h1, h2, h3.below hb h6, h4.below hb h7, h5.below hb h8, h9, h10, hk.ints h11, Below.trans h12 (Below.mono hb hw)⟩, Kb.below h13 hb⟩
set_option maxHeartbeats 4000000 in
theorem Few_ok {R : Nat → Nat → Bool} {m nn : Nat} (hm : m ≤ 8) (hn : nn ≤ 8) (gv : Value) (sv' : Value) (sl : List Int) (w : World) (hg : Rows w gv (gL R m nn)) (hs : Ints w sv' sl) (hris : risB (-1) sl (m : Int) = true) :
    Ct Try.prog 15 #[gv, .int .i64 (nn : Int), sv'] w fun u w' => Ex w w' ∧ ((fewR R m nn sl = none ∧ u = .tuple #[.slice none 0 0, .bool false, .int .i64 0]) ∨
      ∃ l v a, fewR R m nn sl = some l ∧ u = .tuple #[v, .bool true, .int .i64 0] ∧ v = .slice a l.length l.length ∧ (∀ b, v.ownBlock = some b → w.heap.size ≤ b) ∧ Ints w' v l) := by
  have hgl := gL_len R m nn
  refine Exists.elim hg.form fun ga hga => Exists.elim hga fun gc hgc => ?_
  subst hgc
  refine Exists.elim hs.form fun sa hsa => Exists.elim hsa fun sc hsc => ?_
  subst hsc
  refine Exists.elim in_int' fun ti1 hti1 => ?_
  refine Exists.elim in_ints' fun ti hti => ?_
  refine Exists.elim in_bl fun tb htb => ?_
  refine Exists.elim in_err fun te hte => ?_
  refine Exists.elim in_fn36 fun tf36 htf => ?_
  refine enter (N := 46) (vs := [.slice ga (gL R m nn).length gc, .int .i64 (nn : Int), .slice sa sl.length sc]) Try.func15 rfl rfl rfl ?_
  refine c_sr ?_
  refine s_box (cs := [.slice ga (gL R m nn).length gc]) rfl rfl ?_
  intro b3 w3 hb3 hA3 hx3 hs3
  refine s_box (cs := [.int .i64 (nn : Int)]) rfl rfl ?_
  intro b4 w4 hb4 hA4 hx4 hs4
  refine s_box (cs := [.slice sa sl.length sc]) rfl rfl ?_
  intro b5 w5 hb5 hA5 hx5 hs5
  refine s_alloc (cs := [.slice none 0 0]) hti.1 hti.2.1 rfl ?_
  intro b6 w6 hb6 hA6 hx6 hs6
  refine s_alloc (cs := [.bool false]) htb.1 htb.2 rfl ?_
  intro b7 w7 hb7 hA7 hx7 hs7
  refine s_alloc (cs := [.int .i64 0]) hte.1 hte.2 rfl ?_
  intro b8 w8 hb8 hA8 hx8 hs8
  have hx48 := hx5.trans (hx6.trans (hx7.trans hx8))
  have hx08 := hx3.trans (hx4.trans hx48)
  have hA38 := hA3.ex (hx4.trans hx48)
  have hA48 := hA4.ex hx48
  have hA58 := hA5.ex (hx6.trans (hx7.trans hx8))
  have z3 := hx3.size
  have z48 := hx48.size
  repeat (first | (refine isC ?_; refine c_sr ?_) | (refine l_th ?_))
  refine s_ldA ty_rows rfl hA38 rfl ?_
  repeat ((refine isO ?_; (refine isLD ?_; first | refine s_ldA ty_int rfl (by assumption) rfl ?_ | refine s_ldA ty_ints rfl (by assumption) rfl ?_)))
  refine s_call ok_All rfl (All_ok hm hn _ _ sl w8 (hg.ex hx08) (hs.ex hx08) hris) ?_
  rintro u w9 ⟨rfl, hx9⟩
  have hA69 := hA6.ex (hx7.trans (hx8.trans hx9))
  have hA79 := hA7.ex (hx8.trans hx9)
  have hA89 := hA8.ex hx9
  have hx09 := hx08.trans hx9
  have z9 := hx9.size
  by_cases hall : rkm (Rsome sl R) m nn = sl.length
  · have hfr : fewR R m nn sl = none := by unfold fewR; rw [if_pos hall]
    refine s_re (v' := .tuple #[.bool true, .int .i64 0]) (congrArg (fun z : Bool => Value.tuple #[.bool z, .int .i64 0]) (decide_eq_true hall)) ?_
    repeat (first | (refine isO ?_; first | refine s_move ?_ | refine s_assign ?_ | (refine isG ?_; refine g_yes rfl rfl ?_) | (refine isBin ?_; refine s_neqF rfl rfl (by omega) ?_) | (refine isPick ?_; refine s_pickf rfl rfl ?_) | refine s_extract rfl rfl ?_) | (refine isC ?_; first | refine c_sr ?_ | refine c_seq ?_ | refine c_ift rfl ?_) | (refine l_th ?_))
    refine s_stA (n := 0) (u := .slice none 0 0) ty_ints rfl rfl rfl hA69 (by simp) ?_
    intro wa hAa hga
    refine s_stA (n := 0) (u := .bool false) ty_bl rfl rfl rfl (hA79.grown hga (fun e => by have := Option.some.inj e; omega)) (by simp) ?_
    intro wb hAb hgb
    refine s_stA (n := 0) (u := .int .i64 0) ty_err rfl rfl rfl ((hA89.grown hga (fun e => by have := Option.some.inj e; omega)).grown hgb (fun e => by have := Option.some.inj e; omega)) (by simp) ?_
    intro wc hAc hgc
    have hA6c := (hAa.grown hgb (fun e => by have := Option.some.inj e; omega)).grown hgc (fun e => by have := Option.some.inj e; omega)
    have hA7c := hAb.grown hgc (fun e => by have := Option.some.inj e; omega)
    repeat (first | (refine isC ?_; refine c_ret ?_) | (first | refine l_th ?_ | refine th_ret ?_))
    exact ret3d (Ds := []) (va := .slice none 0 0) (vb := .bool false) (vc := .int .i64 0) rfl rfl rfl rfl ty_ints ty_bl ty_err (by rw [hA6c.cell]; rfl) (by rw [hA7c.cell]; rfl) (by rw [hAc.cell]; rfl) List.nodup_nil (fun D hD => by simp at hD) (fun w' hp => ⟨PD.ex (((hx09.store hga (by omega)).store hgb (by omega)).store hgc (by omega)) hp (fun D hD => by simp at hD), .inl ⟨hfr, rfl⟩⟩)
  · have hfr : fewR R m nn sl = fewTo R nn sl (nn + 1) := by unfold fewR; rw [if_neg hall]
    refine s_re (v' := .tuple #[.bool false, .int .i64 0]) (congrArg (fun z : Bool => Value.tuple #[.bool z, .int .i64 0]) (decide_eq_false hall)) ?_
    repeat (first | (refine isO ?_; first | refine s_move ?_ | refine s_assign ?_ | (refine isG ?_; refine g_yes rfl rfl ?_) | (refine isBin ?_; refine s_neqF rfl rfl (by omega) ?_) | (refine isPick ?_; refine s_pickf rfl rfl ?_) | refine s_extract rfl rfl ?_) | (refine isC ?_; first | refine c_sr ?_ | refine c_th ?_ | refine c_seq ?_ | refine c_iff rfl ?_) | (refine l_th ?_))
    refine s_mkfn (vs := [.pointer (some ⟨b5, 0, none⟩), .pointer (some ⟨b3, 0, none⟩), .pointer (some ⟨b4, 0, none⟩)]) rfl ?_
    refine s_alloc (cs := [.nilFunc]) htf.1 htf.2 rfl ?_
    intro b11 wa hb11 hAa hxa hsa
    refine s_stA (n := 0) (u := .func (.func 35) #[] [.pointer (some ⟨b5, 0, none⟩), .pointer (some ⟨b3, 0, none⟩), .pointer (some ⟨b4, 0, none⟩)].toArray) ty_fn36 rfl rfl rfl hAa (by simp) ?_
    intro W0 hA11 hgW0
    have hx9W : Ex w9 W0 := hxa.store hgW0 (by omega)
    have hxW0 := hx09.trans hx9W
    have hxS := hx9.trans hx9W
    have hC0 : FC W0 b5 b3 b4 R m nn _ _ sl := ⟨hA58.ex hxS, hA38.ex hxS, hA48.ex hxS, hg.ex hxW0, hs.ex hxW0⟩
    have hA40 := hA48.ex hxS
    have hA60 := hA69.ex hx9W
    have hA70 := hA79.ex hx9W
    have hA80 := hA89.ex hx9W
    have hl6 := hA60.lt
    have hl7 := hA70.lt
    have hl8 := hA80.lt
    have zW0 := hxW0.size
    repeat (first | (refine isO ?_; first | refine s_move ?_ | (refine isBin ?_; refine s_inc rfl (by omega) ?_) | (refine isLD ?_; refine s_ldA ty_int rfl (by assumption) rfl ?_)) | (refine isC ?_; first | refine c_sr ?_ | refine c_seq ?_ | refine c_block ?_) | (refine l_th ?_))
    refine c_loopD 70367670448128 (fun many => [(30, .int .i64 (many : Int))]) (fun many Ds W => many ≤ nn + 1 ∧ Ex W0 W ∧ fewTo R nn sl many = none ∧ Marks Ds W ∧ Ds.Nodup ∧ ∀ D ∈ Ds, W0.heap.size ≤ D ∧ D < W.heap.size) (fun many => nn + 1 - many) 0 ⟨rfl, trivial⟩
      ⟨Nat.zero_le _, Ex.refl _, rfl, fun D hD => by simp at hD, List.nodup_nil, fun D hD => by simp at hD⟩ ?_
    rintro many Ds ρ W ⟨hmany, hxW, hft, hmk, hnd, hDs⟩
    have hA4W := hA40.ex hxW
    have hA6W := hA60.ex hxW
    have hA7W := hA70.ex hxW
    have hA8W := hA80.ex hxW
    have hx0W := hxW0.trans hxW
    have zW := hxW.size
    repeat (first | (refine isO ?_; (refine isBin ?_; refine s_lss rfl rfl ?_)) | (refine isC ?_; first | refine c_sr ?_ | refine c_seq ?_) | (refine l_th ?_))
    refine c_ifd rfl (fun h => ?_) (fun h => ?_)
    · have hmany' : many < nn + 1 := by omega
      repeat (first | (refine isO ?_; refine s_move ?_) | (refine isC ?_; first | refine c_sr ?_ | refine c_th ?_ | refine c_seq ?_ | refine c_block ?_))
      refine s_alloc (cs := [.int .i64 0]) hti1.1 hti1.2.1 rfl ?_
      intro b12 W1 hb12 hA12 hxW1 hsW1
      refine s_stA (n := 0) (u := .int .i64 (many : Int)) ty_int rfl rfl rfl hA12 (by simp) ?_
      intro W2 hA122 hgW2
      have hxW2 : Ex W W2 := hxW1.store hgW2 (by omega)
      have hA42 := hA4W.ex hxW2
      have hA122' : At W2 b12 3 [.int .i64 (many : Int)] := hA122
      repeat (first | (refine isO ?_; (refine isLD ?_; refine s_ldA ty_int rfl (by assumption) rfl ?_)) | (refine isC ?_; refine c_sr ?_) | (refine l_th ?_))
      refine s_call (vs := [.slice none 0 0, .int .i64 ((0 : Nat) : Int), .int .i64 (nn : Int), .int .i64 (many : Int)]) ok_sets rfl (sets_ct _ [] 0 nn many W2 (Ints.nil W2)) ?_
      rintro u Wr ⟨c1, c2, c3, c4, rfl, hCr, hxr⟩
      have hit := sets_iter many [] 0 nn c1 c2 c3 c4 _ Wr hn (by omega) (by simp; omega) hCr
      have hxWr := hxW2.trans hxr
      have hx0r := hxW.trans hxWr
      have hxwr := hxW0.trans hx0r
      have zr := hx0r.size
      have hA12r := hA122'.ex hxr
      have hA11r := hA11.ex hx0r
      have hCFr := hC0.ex hx0r
      have hA6r := hA60.ex hx0r
      have hA7r := hA70.ex hx0r
      have hA8r := hA80.ex hx0r
      repeat (first | (refine isC ?_; refine c_block ?_) | (refine l_th ?_))
      refine c_rangeX (gf := 59) (lb := capsL c1 c2 c3 c4) (L := setsR many [] 0 nn) (w0 := Wr) rfl ok_sets1 hit (Ex.refl Wr) rfl (fun i => ∀ y, (setsR many [] 0 nn)[i]? = some y → fewB R nn sl y = false) (fun i W' => FJ w W0 Wr W' (setsR many [] 0 nn) (fewB R nn sl) b6 b7 b8 i)
        (fun i W' W'' hJ hb hkc => hJ.go hb hkc (by omega) (by omega) (by omega) (by omega)) (fun v σ => upd (updl [(36, v)] σ) 13 v) ?_ ?_ ?_ ?_
      · intro l' v W' K hK
        repeat (first | (refine isO ?_; refine s_assign ?_) | (refine isC ?_; refine c_region ?_) | (refine l_th ?_))
        exact hK
      · intro l' i x v W' hx hxW' hI'
        have hxl : x.length = many := by have := setsR_len many [] 0 nn x (List.mem_of_getElem? hx); simpa using this
        have hA11' := hA11r.ex hxW'
        have hA12' := hA12r.ex hxW'
        have hCF' := hCFr.ex hxW'
        repeat ((refine isC ?_; first | refine c_seq ?_ | refine c_block ?_))
        refine c_drawO (Ex.refl W') 0 5 [(0, true), (1, true), (3, true), (2, false), (4, true)] mixed (by kernel_rfl) ?_
        have hxd := Ex.drew W'
        refine d_ldA rfl ty_fn36 rfl hA11' rfl ?_
        refine d_move rfl ?_
        refine d_ldA rfl ty_int rfl hA12' rfl ?_
        refine d_ch rfl ?_
        refine s_callv (by intro f e; cases e) rfl ok_Few1 rfl (Few1_ct hm hn (hCF'.ex hxd) hris (hI'.ex hxd)) ?_
        rintro u W3 ⟨rfl, hx3⟩
        have hxd3 := hxd.trans hx3
        refine l_nil ⟨rfl, .inr hxd3, ?_⟩
        refine d_gtr rfl rfl rfl ?_
        have hfe : decide ((many : Int) < (withN R nn sl x : Int)) = fewB R nn sl x := by unfold fewB; rw [hxl, Bool.eq_iff_iff, decide_eq_true_eq, decide_eq_true_eq]; omega
        refine Or.elim (tf8 (fewB R nn sl x)) (fun hb => ?_) (fun hb => ?_)
        · refine d_re (v' := .bool true) (vbool (hfe.trans hb)) ?_
          refine d_nil ?_
          have hI3 := hI'.ex hxd3
          repeat (first | (refine isO ?_; refine s_move ?_) | (refine isC ?_; first | refine c_sr ?_ | refine c_ift rfl ?_))
          refine s_call ok_Clone rfl (Clone_ct v x W3 hI3 (by omega)) ?_
          rintro v4 W4 ⟨hL4, hx4⟩
          refine s_call ok_Clip rfl (Clip_ct v4 x W4 (hL4.ints (by omega))) ?_
          rintro v5 W5 ⟨⟨a5, c5, hv4, rfl⟩, hI5, hx5⟩
          have hxW5 := hxd3.trans (hx4.trans hx5)
          have hxr5 := hxW'.trans hxW5
          have hA65 := hA6r.ex hxr5
          have hA75 := hA7r.ex hxr5
          have hA85 := hA8r.ex hxr5
          have hxw5 := hxwr.trans hxr5
          have zr5 := hxr5.size
          have zrW' := hxW'.size
          have zr3 := (hxW'.trans hxd3).size
          have hown : ∀ b, (Value.slice a5 x.length x.length).ownBlock = some b → W3.heap.size ≤ b := fun b e => hL4.2 b (by rw [hv4]; cases a5 <;> exact e)
          refine s_stA (n := 0) (u := .slice a5 x.length x.length) ty_ints rfl rfl rfl hA65 (by simp) ?_
          intro W6 hA66 hg6
          refine s_stA (n := 0) (u := .bool true) ty_bl rfl rfl rfl (hA75.grown hg6 (fun e => by have := Option.some.inj e; omega)) (by simp) ?_
          intro W7 hA77 hg7
          refine s_stA (n := 0) (u := .int .i64 0) ty_err rfl rfl rfl ((hA85.grown hg6 (fun e => by have := Option.some.inj e; omega)).grown hg7 (fun e => by have := Option.some.inj e; omega)) (by simp) ?_
          intro W8 hA88 hg8
          have hA68 := (hA66.grown hg7 (fun e => by have := Option.some.inj e; omega)).grown hg8 (fun e => by have := Option.some.inj e; omega)
          have hA78 := hA77.grown hg8 (fun e => by have := Option.some.inj e; omega)
          have hI8 : Ints W8 (.slice a5 x.length x.length) x := ((hI5.kept hg6 (.inr fun e => by have := hown _ e; omega)).kept hg7 (.inr fun e => by have := hown _ e; omega)).kept hg8 (.inr fun e => by have := hown _ e; omega)
          have hxw8 : Ex w W8 := ((hxw5.store hg6 (by omega)).store hg7 (by omega)).store hg8 (by omega)
          repeat (first | (refine isC ?_; refine c_ret ?_) | (first | refine l_th ?_ | refine ib_ret ?_))
          refine ⟨⟨⟨x, _, a5, hx, hb, hA68, hA78, hA88, rfl, fun b e => by have := hown b e; omega, hI8, hxw8⟩, ?_⟩, ?_⟩
          · exact ((Kb.ex hxr5).trans (Kb.store hg6 (by omega))).trans ((Kb.store hg7 (by omega)).trans (Kb.store hg8 (by omega)))
          · exact ((Kb.ex hxW5).trans (Kb.store hg6 (by omega))).trans ((Kb.store hg7 (by omega)).trans (Kb.store hg8 (by omega)))
        · refine d_re (v' := .bool false) (vbool (hfe.trans hb)) ?_
          refine d_nil ?_
          repeat (first | (refine isC ?_; first | refine c_iff rfl ?_ | refine c_skip ?_) | (refine ib_norm ?_))
          exact ⟨hxd3, fun y hy => by rw [hx] at hy; cases hy; exact hb⟩
      · intro D W6 hD hx6 hG6 hK6
        have hmk6 : Marks (D :: Ds) W6 := fun E hE => by
          rcases List.mem_cons.1 hE with rfl | hE
          · exact hK6
          · exact (hmk.ex (hxWr.trans hx6)) E hE
        have z5 := hxWr.size
        have z6 := hx6.size
        have hlt6 := (Array.getElem?_eq_some_iff.1 hK6).1
        have hfu : fewUp R nn sl many = none := find_none hG6
        have hft' := fewTo_none hft hfu
        repeat (first | (refine isO ?_; first | refine s_move ?_ | (refine isBin ?_; refine s_inc rfl (by omega) ?_)) | (refine isC ?_; refine c_region ?_) | (refine l_th ?_))
        refine loop_endD (many + 1) (D :: Ds) (by (repeat (first | exact agree_refl _ _ | refine agree_upd rfl ?_ | refine agree_ext rfl ?_ | refine agree_mask rfl ?_))) ⟨rfl, trivial⟩ ⟨hmany', hx0r.trans hx6, hft', hmk6, List.nodup_cons.2 ⟨fun hmm => by have := (hDs D hmm).2; omega, hnd⟩, fun E hE => ?_⟩ (by omega)
        rcases List.mem_cons.1 hE with rfl | hE
        · omega
        · have := hDs E hE; omega
      · intro D i W6 hD hi hG6 hJ6 hKb hK6
        have hlt6 := (Array.getElem?_eq_some_iff.1 hK6).1
        have z5 := hxWr.size
        have hmk6 : Marks (D :: Ds) W6 := fun E hE => by
          rcases List.mem_cons.1 hE with rfl | hE
          · exact hK6
          · have h9 := hDs E hE
            exact (hJ6.2.2 E h9.1 (by omega)).trans ((hmk.ex hxWr) E hE)
        have hB6 : ∀ E ∈ D :: Ds, w.heap.size ≤ E := fun E hE => by
          rcases List.mem_cons.1 hE with rfl | hE
          · omega
          · have := (hDs E hE).1; omega
        refine Exists.elim hJ6.1 fun x hJ => Exists.elim hJ fun v hJ => Exists.elim hJ fun a hJ => ?_
        have j1 := hJ.1
        have j2 := hJ.2.1
        have j3 := hJ.2.2.1
        have j4 := hJ.2.2.2.1
        have j5 := hJ.2.2.2.2.1
        have j6 := hJ.2.2.2.2.2.1
        have j7 := hJ.2.2.2.2.2.2.1
        have j8 := hJ.2.2.2.2.2.2.2.1
        have j9 := hJ.2.2.2.2.2.2.2.2
        have hfu : fewUp R nn sl many = some x := find_at j1 j2 hG6
        have hfin := fewTo_some hft hfu (nn + 1) hmany'
        repeat (first | refine th_ret ?_ | refine ib_ret ?_)
        exact ret3d (Ds := D :: Ds) (va := v) (vb := .bool true) (vc := .int .i64 0) rfl rfl rfl rfl ty_ints ty_bl ty_err (by rw [j3.cell]; rfl) (by rw [j4.cell]; rfl) (by rw [j5.cell]; rfl) (List.nodup_cons.2 ⟨fun hmm => by have := (hDs D hmm).2; omega, hnd⟩) hmk6
          (fun w' hp => ⟨PD.ex j9 hp hB6, .inr ⟨x, v, a, hfr.trans hfin, rfl, j6, j7, hp.2.2.2.2.2.ints j8⟩⟩)
    · have hme : many = nn + 1 := by omega
      rw [hme] at hft
      repeat ((refine isC ?_; first | refine c_sr ?_ | refine c_exit ?_))
      refine s_stA (n := 0) (u := .slice none 0 0) ty_ints rfl rfl rfl hA6W (by simp) ?_
      intro wa hAa hga
      refine s_stA (n := 0) (u := .bool false) ty_bl rfl rfl rfl (hA7W.grown hga (fun e => by have := Option.some.inj e; omega)) (by simp) ?_
      intro wb hAb hgb
      refine s_stA (n := 0) (u := .int .i64 0) ty_err rfl rfl rfl ((hA8W.grown hga (fun e => by have := Option.some.inj e; omega)).grown hgb (fun e => by have := Option.some.inj e; omega)) (by simp) ?_
      intro wc hAc hgc
      have hA6c := (hAa.grown hgb (fun e => by have := Option.some.inj e; omega)).grown hgc (fun e => by have := Option.some.inj e; omega)
      have hA7c := hAb.grown hgc (fun e => by have := Option.some.inj e; omega)
      have hmkc : Marks Ds wc := fun E hE => by
        have h9 := hDs E hE
        exact mark_gr (mark_gr (mark_gr (hmk E hE) hA6W hga) (hA7W.grown hga (fun e => by have := Option.some.inj e; omega)) hgb) ((hA8W.grown hga (fun e => by have := Option.some.inj e; omega)).grown hgb (fun e => by have := Option.some.inj e; omega)) hgc
      repeat (first | (refine isC ?_; refine c_ret ?_) | (refine l_th ?_))
      exact ret3d (Ds := Ds) (va := .slice none 0 0) (vb := .bool false) (vc := .int .i64 0) rfl rfl rfl rfl ty_ints ty_bl ty_err (by rw [hA6c.cell]; rfl) (by rw [hA7c.cell]; rfl) (by rw [hAc.cell]; rfl) hnd hmkc (fun w' hp => ⟨PD.ex (((hx0W.store hga (by omega)).store hgb (by omega)).store hgc (by omega)) hp (fun D hD => by have := (hDs D hD).1; omega), .inl ⟨hfr.trans hft, rfl⟩⟩)
end Go.Proofs.Ytifbgpkjbciblaa.Sal
end
