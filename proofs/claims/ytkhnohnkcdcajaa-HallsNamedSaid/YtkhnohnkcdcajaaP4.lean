/- paths.More; matchings.Most. -/
import Derived.Test.YtkhnohnkcdcajaaP3
namespace Go.Proofs.Ytkhnohnkcdcajaa.Sal
open Go.RowKit
attribute [local irreducible] Go.Code.wpIn Go.wpListIn Ct Ints Rows Sl At Rw WJ
set_option linter.all false
theorem ok_Most : CallOK Try.prog 30 := callOK Try.func30 (by kernel_rfl) rfl
theorem ok_Most1 : CallOK Try.prog 47 := callOK Try.func47 (by kernel_rfl) rfl
/-- What holds while the items go on from one to the next. -/
def AI (w : Nat → Nat) (ws : List Nat) (has : List Int) (f : Nat) (k : Int) (cur : List Int) : Prop :=
  k = -1 ∨ ∃ q j : Nat, k = (q : Int) ∧ 0 < w q ∧ j < f ∧ ws[j]? = some (w q - 1) ∧ ∀ j' b, j' ≤ j → ws[j']? = some b → cur.getD b (-1) = has.getD b (-1)
theorem AI.step {R : Nat → Nat → Bool} {m n a : Nat} {has : List Int} {w : Nat → Nat} {ws : List Nat} (h : BI R m n has a w ws) (ha : has.getD a (-1) = -1) {f : Nat} {q : Nat} {cur : List Int} (hl : cur.length = m) (hA : AI w ws has f (q : Int) cur) :
    0 < f ∧ 0 < w q ∧ w q - 1 < m ∧ q < n ∧ AI w ws has (f - 1) (cur.getD (w q - 1) (-1)) (cur.set (w q - 1) (q : Int)) := by
  rcases hA with hA | ⟨q', j, hq, hw, hj, hpos, hsame⟩
  · omega
  · have : q = q' := by omega
    subst this
    have hi : w q - 1 < m := h.bnd _ (List.mem_iff_getElem?.2 ⟨j, hpos⟩)
    refine ⟨by omega, hw, hi, (h.byok q hw).1, ?_⟩
    have hcur := hsame j (w q - 1) (Nat.le_refl _) hpos
    by_cases hj0 : j = 0
    · subst hj0
      have hia : w q - 1 = a := by
        have := h.head
        rw [hpos] at this
        exact Option.some.inj this
      left
      rw [hcur, hia]; exact ha
    · obtain ⟨k', j', hk', hv, hw', hlt, hj'⟩ := h.came j (w q - 1) hpos (by omega)
      right
      refine ⟨k', j', by rw [hcur, hv], hw', by omega, hj', fun j'' b hle hb => ?_⟩
      have hbi : b ≠ w q - 1 := fun e => by
        subst e
        have := h.nodup j'' j _ hb hpos
        omega
      rw [getD_setI _ _ _ _ (by omega), if_neg hbi]
      exact hsame j'' b (by omega) hb
theorem aug_stop (w : Nat → Nat) (f : Nat) (l : List Int) : augR w f (-1) l = l := by cases f <;> simp [augR]
theorem aug_step (w : Nat → Nat) {f : Nat} (hf : 0 < f) (q : Nat) (l : List Int) : augR w f (q : Int) l = augR w (f - 1) (l.getD (w q - 1) (-1)) (l.set (w q - 1) (q : Int)) := by
  obtain ⟨f', rfl⟩ : ∃ f', f = f' + 1 := ⟨f - 1, by omega⟩
  rw [augR, if_neg (by omega)]; rfl
theorem AI.nat {w : Nat → Nat} {ws : List Nat} {has : List Int} {f : Nat} {k : Int} {cur : List Int} (h : AI w ws has f k cur) (hk : k ≠ -1) : ∃ q : Nat, k = (q : Int) := by
  rcases h with h | ⟨q, _, h, _⟩
  · exact absurd h hk
  · exact ⟨q, h⟩
theorem OwnI.li {w0 w : World} {b c : Nat} {l : List Int} (h : OwnI w 3 b c l) : OwnI w 3 b c l := h
set_option maxRecDepth 8000 in
set_option maxHeartbeats 4000000 in
theorem More_ct {R : Nat → Nat → Bool} {m n : Nat} (hm : m ≤ 8) (hn : n ≤ 8) {gv hv : Value} {has : List Int} {a : Nat} {w : World} (hg : Rows w gv (gL R m n)) (hh : Ints w hv has) (hF : FitR R m n has) (ham : a < m) (ha : has.getD a (-1) = -1) :
    Ct Try.prog 48 #[gv, .int .i64 (n : Int), hv, .int .i64 (a : Int)] w fun u w' => Ex w w' ∧
      ((∃ l hb, moreR R n has a = some l ∧ u = .tuple #[sv hb m m, .bool true, .int .i64 0] ∧ w.heap.size ≤ hb ∧ OwnI w' 3 hb m l ∧ l.length = m) ∨ (moreR R n has a = none ∧ u = .tuple #[.slice none 0 0, .bool false, .int .i64 0])) := by
  have hlen := hF.len
  refine Exists.elim (bfs_ok hn hF ha 9 0 (fun _ => 0) [a] (by omega) (BI.start ham) (fun k (h : 0 < 0) => by omega) (fun i b hi => by omega)) fun o ho => Exists.elim ho fun w1 ho => Exists.elim ho fun ws1 ho => ?_
  have hbf := ho.1
  have hBI := ho.2.1
  have hfd := ho.2.2.2
  have hwsl := hBI.len
  refine enter (N := 61) (vs := [gv, .int .i64 (n : Int), hv, .int .i64 (a : Int)]) Try.func48 rfl rfl rfl ?_
  repeat (first | (refine isO ?_; first | refine s_move ?_ | refine s_assign ?_ | (refine isG ?_; first | refine g_yes rfl rfl ?_ | refine g_no rfl rfl rfl ?_ | refine g_un rfl rfl ?_) | (refine isBin ?_; first | refine s_inc rfl (by omega) ?_ | refine s_lssT rfl rfl (by omega) ?_ | refine s_lssF rfl rfl (by omega) ?_ | refine s_lss rfl rfl ?_ | refine s_eqlT rfl rfl (by omega) ?_ | refine s_eqlF rfl rfl (by omega) ?_ | refine s_eql rfl rfl ?_ | refine s_neqT rfl rfl (by omega) ?_ | refine s_neqF rfl rfl (by omega) ?_ | refine s_neq rfl rfl ?_ | refine s_leqT rfl rfl (by omega) ?_ | refine s_leqF rfl rfl (by omega) ?_ | refine s_leq rfl rfl ?_ | refine s_gtrT rfl rfl (by omega) ?_ | refine s_gtrF rfl rfl (by omega) ?_ | refine s_gtr rfl rfl ?_ | refine s_geqT rfl rfl (by omega) ?_ | refine s_geqF rfl rfl (by omega) ?_ | refine s_geq rfl rfl ?_ | refine s_add rfl rfl ⟨by omega, by omega⟩ ?_ | refine s_sub rfl rfl ⟨by omega, by omega⟩ ?_) | (refine isCall ?_; first | refine s_lenI sl_ints rfl (by assumption) ?_ | refine s_lenR sl_rows rfl (by assumption) ?_ | refine s_len sl_ints rfl ?_ | refine s_len sl_rows rfl ?_) | (refine isIA ?_; refine s_ixI sl_ints ty_int rfl rfl rfl (by assumption) (by omega) ?_; intro _) | (refine isPick ?_; first | refine s_pickt rfl rfl ?_ | refine s_pickf rfl rfl ?_) | (refine isLD ?_; first | refine s_ldA ty_int rfl (by assumption) rfl ?_ | refine s_ldA ty_ints rfl (by assumption) rfl ?_) | refine s_extract rfl rfl ?_ | refine s_not rfl ?_) | (refine isC ?_; first | refine c_sr ?_ | refine c_th ?_ | refine c_seq ?_ | refine c_region ?_ | refine c_ift rfl ?_ | refine c_iff rfl ?_ | refine c_block ?_ | refine c_ret ?_ | refine c_exit ?_ | refine c_skip ?_) | (first | refine l_th ?_ | refine th_norm ?_ | refine ib_norm ?_ | refine l_nil ?_ | refine th_ret ?_ | refine ib_ret ?_ | refine ib_exit ?_ | refine th_exit ?_ | refine ib_pass rfl ?_))
  refine s_call ok_begin rfl (begin_ct (gv := gv) (hv := hv) (a := a) hm hn hg hh hF ham ha) ?_
  rintro u w2 ⟨b, hb, wv, rfl, hA2, hO2, hL2, hnn, hbw, hhw, hx2⟩
  have hne := hnn.2.2
  repeat (first | (refine isO ?_; first | refine s_move ?_ | refine s_assign ?_ | (refine isG ?_; first | refine g_yes rfl rfl ?_ | refine g_no rfl rfl rfl ?_ | refine g_un rfl rfl ?_) | (refine isBin ?_; first | refine s_inc rfl (by omega) ?_ | refine s_lssT rfl rfl (by omega) ?_ | refine s_lssF rfl rfl (by omega) ?_ | refine s_lss rfl rfl ?_ | refine s_eqlT rfl rfl (by omega) ?_ | refine s_eqlF rfl rfl (by omega) ?_ | refine s_eql rfl rfl ?_ | refine s_neqT rfl rfl (by omega) ?_ | refine s_neqF rfl rfl (by omega) ?_ | refine s_neq rfl rfl ?_ | refine s_leqT rfl rfl (by omega) ?_ | refine s_leqF rfl rfl (by omega) ?_ | refine s_leq rfl rfl ?_ | refine s_gtrT rfl rfl (by omega) ?_ | refine s_gtrF rfl rfl (by omega) ?_ | refine s_gtr rfl rfl ?_ | refine s_geqT rfl rfl (by omega) ?_ | refine s_geqF rfl rfl (by omega) ?_ | refine s_geq rfl rfl ?_ | refine s_add rfl rfl ⟨by omega, by omega⟩ ?_ | refine s_sub rfl rfl ⟨by omega, by omega⟩ ?_) | (refine isCall ?_; first | refine s_lenI sl_ints rfl (by assumption) ?_ | refine s_lenR sl_rows rfl (by assumption) ?_ | refine s_len sl_ints rfl ?_ | refine s_len sl_rows rfl ?_) | (refine isIA ?_; refine s_ixI sl_ints ty_int rfl rfl rfl (by assumption) (by omega) ?_; intro _) | (refine isPick ?_; first | refine s_pickt rfl rfl ?_ | refine s_pickf rfl rfl ?_) | (refine isLD ?_; first | refine s_ldA ty_int rfl (by assumption) rfl ?_ | refine s_ldA ty_ints rfl (by assumption) rfl ?_) | refine s_extract rfl rfl ?_ | refine s_not rfl ?_) | (refine isC ?_; first | refine c_sr ?_ | refine c_th ?_ | refine c_seq ?_ | refine c_region ?_ | refine c_ift rfl ?_ | refine c_iff rfl ?_ | refine c_block ?_ | refine c_ret ?_ | refine c_exit ?_ | refine c_skip ?_) | (first | refine l_th ?_ | refine th_norm ?_ | refine ib_norm ?_ | refine l_nil ?_ | refine th_ret ?_ | refine ib_ret ?_ | refine ib_exit ?_ | refine th_exit ?_ | refine ib_pass rfl ?_))
  refine s_call ok_goes rfl (goes_ct hm hn (gv := gv) (hv := sv hb has.length has.length) (a := a) (b := b) (wB := w) (hb := hb) hg hF ham ha hbw hhw hne ⟨wv, hA2, hL2, ⟨hnn.1, hnn.2.1⟩, hO2, hx2⟩) ?_
  rintro u w3 ⟨w1', ws1', hS, hres⟩
  refine Exists.elim hS fun wv3 hv3 => ?_
  have hA3 := hv3.1
  have hO3 := hv3.2.2.2.1
  have hx3 := hv3.2.2.2.2
  refine Or.elim hres (fun h => ?_) (fun h => Exists.elim h fun k h => ?_)
  · have h1 := h.1
    have h2 := h.2
    rw [hbf] at h1
    have ho0 : o = none := congrArg (fun p => p.1) h1
    have hmr : moreR R n has a = none := by unfold moreR; rw [hbf, ho0]
    refine s_re h2 ?_
    repeat (first | (refine isO ?_; first | refine s_move ?_ | refine s_assign ?_ | (refine isG ?_; first | refine g_yes rfl rfl ?_ | refine g_no rfl rfl rfl ?_ | refine g_un rfl rfl ?_) | (refine isBin ?_; first | refine s_inc rfl (by omega) ?_ | refine s_lssT rfl rfl (by omega) ?_ | refine s_lssF rfl rfl (by omega) ?_ | refine s_lss rfl rfl ?_ | refine s_eqlT rfl rfl (by omega) ?_ | refine s_eqlF rfl rfl (by omega) ?_ | refine s_eql rfl rfl ?_ | refine s_neqT rfl rfl (by omega) ?_ | refine s_neqF rfl rfl (by omega) ?_ | refine s_neq rfl rfl ?_ | refine s_leqT rfl rfl (by omega) ?_ | refine s_leqF rfl rfl (by omega) ?_ | refine s_leq rfl rfl ?_ | refine s_gtrT rfl rfl (by omega) ?_ | refine s_gtrF rfl rfl (by omega) ?_ | refine s_gtr rfl rfl ?_ | refine s_geqT rfl rfl (by omega) ?_ | refine s_geqF rfl rfl (by omega) ?_ | refine s_geq rfl rfl ?_ | refine s_add rfl rfl ⟨by omega, by omega⟩ ?_ | refine s_sub rfl rfl ⟨by omega, by omega⟩ ?_) | (refine isCall ?_; first | refine s_lenI sl_ints rfl (by assumption) ?_ | refine s_lenR sl_rows rfl (by assumption) ?_ | refine s_len sl_ints rfl ?_ | refine s_len sl_rows rfl ?_) | (refine isIA ?_; refine s_ixI sl_ints ty_int rfl rfl rfl (by assumption) (by omega) ?_; intro _) | (refine isPick ?_; first | refine s_pickt rfl rfl ?_ | refine s_pickf rfl rfl ?_) | (refine isLD ?_; first | refine s_ldA ty_int rfl (by assumption) rfl ?_ | refine s_ldA ty_ints rfl (by assumption) rfl ?_) | refine s_extract rfl rfl ?_ | refine s_not rfl ?_) | (refine isC ?_; first | refine c_sr ?_ | refine c_th ?_ | refine c_seq ?_ | refine c_region ?_ | refine c_ift rfl ?_ | refine c_iff rfl ?_ | refine c_block ?_ | refine c_ret ?_ | refine c_exit ?_ | refine c_skip ?_) | (first | refine l_th ?_ | refine th_norm ?_ | refine ib_norm ?_ | refine l_nil ?_ | refine th_ret ?_ | refine ib_ret ?_ | refine ib_exit ?_ | refine th_exit ?_ | refine ib_pass rfl ?_))
    exact ret3 rfl rfl rfl rfl ⟨hx3, .inr ⟨hmr, rfl⟩⟩
  · have h1 := h.1
    have h2 := h.2
    rw [hbf] at h1
    have ho0 : o = some k := congrArg (fun p => p.1) h1
    have hw1 : w1 = w1' := congrArg (fun p => p.2.1) h1
    have hmr : moreR R n has a = some (augR w1 9 (k : Int) has) := by unfold moreR; rw [hbf, ho0]
    rw [← hw1] at hA3
    have hk0 := (hfd k ho0).1
    refine Exists.elim (idx_of (hBI.byok k hk0).2.1) fun j0 hj0 => ?_
    have hj9 := (List.getElem?_eq_some_iff.1 hj0).1
    have hAI0 : AI w1 ws1 has 9 (k : Int) has := .inr ⟨k, j0, rfl, hk0, by omega, hj0, fun _ _ _ _ => rfl⟩
    refine s_re h2 ?_
    repeat (first | (refine isO ?_; first | refine s_move ?_ | refine s_assign ?_ | (refine isG ?_; first | refine g_yes rfl rfl ?_ | refine g_no rfl rfl rfl ?_ | refine g_un rfl rfl ?_) | (refine isBin ?_; first | refine s_inc rfl (by omega) ?_ | refine s_lssT rfl rfl (by omega) ?_ | refine s_lssF rfl rfl (by omega) ?_ | refine s_lss rfl rfl ?_ | refine s_eqlT rfl rfl (by omega) ?_ | refine s_eqlF rfl rfl (by omega) ?_ | refine s_eql rfl rfl ?_ | refine s_neqT rfl rfl (by omega) ?_ | refine s_neqF rfl rfl (by omega) ?_ | refine s_neq rfl rfl ?_ | refine s_leqT rfl rfl (by omega) ?_ | refine s_leqF rfl rfl (by omega) ?_ | refine s_leq rfl rfl ?_ | refine s_gtrT rfl rfl (by omega) ?_ | refine s_gtrF rfl rfl (by omega) ?_ | refine s_gtr rfl rfl ?_ | refine s_geqT rfl rfl (by omega) ?_ | refine s_geqF rfl rfl (by omega) ?_ | refine s_geq rfl rfl ?_ | refine s_add rfl rfl ⟨by omega, by omega⟩ ?_ | refine s_sub rfl rfl ⟨by omega, by omega⟩ ?_) | (refine isCall ?_; first | refine s_lenI sl_ints rfl (by assumption) ?_ | refine s_lenR sl_rows rfl (by assumption) ?_ | refine s_len sl_ints rfl ?_ | refine s_len sl_rows rfl ?_) | (refine isIA ?_; refine s_ixI sl_ints ty_int rfl rfl rfl (by assumption) (by omega) ?_; intro _) | (refine isPick ?_; first | refine s_pickt rfl rfl ?_ | refine s_pickf rfl rfl ?_) | (refine isLD ?_; first | refine s_ldA ty_int rfl (by assumption) rfl ?_ | refine s_ldA ty_ints rfl (by assumption) rfl ?_) | refine s_extract rfl rfl ?_ | refine s_not rfl ?_) | (refine isC ?_; first | refine c_sr ?_ | refine c_th ?_ | refine c_seq ?_ | refine c_region ?_ | refine c_ift rfl ?_ | refine c_iff rfl ?_ | refine c_block ?_ | refine c_ret ?_ | refine c_exit ?_ | refine c_skip ?_) | (first | refine l_th ?_ | refine th_norm ?_ | refine ib_norm ?_ | refine l_nil ?_ | refine th_ret ?_ | refine ib_ret ?_ | refine ib_exit ?_ | refine th_exit ?_ | refine ib_pass rfl ?_))
    refine c_loop2 144115170896027648 (fun (f : Nat) (q : Int) => [(13, .int .i64 q)]) (fun f q W => ∃ cur : List Int, cur.length = m ∧ OwnI W 3 hb has.length cur ∧ AI w1 ws1 has f q cur ∧ augR w1 f q cur = augR w1 9 (k : Int) has ∧ At W b 81 (SE gv (sv hb has.length has.length) wv3 w1 (holdN has has.length)) ∧ Ex w W) (fun f _ => f) 9 (k : Int) ⟨rfl, trivial⟩
      ⟨has, hlen, hO3, hAI0, rfl, hA3, hx3⟩ ?_
    rintro f q ρ W hI
    refine Exists.elim hI fun cur hI => ?_
    have hcl := hI.1
    have hO := hI.2.1
    have hAI := hI.2.2.1
    have htg := hI.2.2.2.1
    have hA := hI.2.2.2.2.1
    have hx := hI.2.2.2.2.2
    have hIc : Ints W (sv hb has.length has.length) cur := by have h9 := hO.ints; rw [hcl, ← hlen] at h9; exact h9
    by_cases hq : q = -1
    · rw [hq, aug_stop] at htg
      repeat (first | (refine isO ?_; first | refine s_move ?_ | refine s_assign ?_ | (refine isG ?_; first | refine g_yes rfl rfl ?_ | refine g_no rfl rfl rfl ?_ | refine g_un rfl rfl ?_) | (refine isBin ?_; first | refine s_inc rfl (by omega) ?_ | refine s_lssT rfl rfl (by omega) ?_ | refine s_lssF rfl rfl (by omega) ?_ | refine s_lss rfl rfl ?_ | refine s_eqlT rfl rfl (by omega) ?_ | refine s_eqlF rfl rfl (by omega) ?_ | refine s_eql rfl rfl ?_ | refine s_neqT rfl rfl (by omega) ?_ | refine s_neqF rfl rfl (by omega) ?_ | refine s_neq rfl rfl ?_ | refine s_leqT rfl rfl (by omega) ?_ | refine s_leqF rfl rfl (by omega) ?_ | refine s_leq rfl rfl ?_ | refine s_gtrT rfl rfl (by omega) ?_ | refine s_gtrF rfl rfl (by omega) ?_ | refine s_gtr rfl rfl ?_ | refine s_geqT rfl rfl (by omega) ?_ | refine s_geqF rfl rfl (by omega) ?_ | refine s_geq rfl rfl ?_ | refine s_add rfl rfl ⟨by omega, by omega⟩ ?_ | refine s_sub rfl rfl ⟨by omega, by omega⟩ ?_) | (refine isCall ?_; first | refine s_lenI sl_ints rfl (by assumption) ?_ | refine s_lenR sl_rows rfl (by assumption) ?_ | refine s_len sl_ints rfl ?_ | refine s_len sl_rows rfl ?_) | (refine isIA ?_; refine s_ixI sl_ints ty_int rfl rfl rfl (by assumption) (by omega) ?_; intro _) | (refine isPick ?_; first | refine s_pickt rfl rfl ?_ | refine s_pickf rfl rfl ?_) | (refine isLD ?_; first | refine s_ldA ty_int rfl (by assumption) rfl ?_ | refine s_ldA ty_ints rfl (by assumption) rfl ?_) | refine s_extract rfl rfl ?_ | refine s_not rfl ?_) | (refine isC ?_; first | refine c_sr ?_ | refine c_th ?_ | refine c_seq ?_ | refine c_region ?_ | refine c_ift rfl ?_ | refine c_iff rfl ?_ | refine c_block ?_ | refine c_ret ?_ | refine c_exit ?_ | refine c_skip ?_) | (first | refine l_th ?_ | refine th_norm ?_ | refine ib_norm ?_ | refine l_nil ?_ | refine th_ret ?_ | refine ib_ret ?_ | refine ib_exit ?_ | refine th_exit ?_ | refine ib_pass rfl ?_))
      refine s_nil rfl ?_
      refine s_faN u_search rfl tyn_ints rfl ?_
      refine s_ldA ty_ints rfl hA rfl ?_
      repeat (first | (refine isO ?_; first | refine s_move ?_ | refine s_assign ?_ | (refine isG ?_; first | refine g_yes rfl rfl ?_ | refine g_no rfl rfl rfl ?_ | refine g_un rfl rfl ?_) | (refine isBin ?_; first | refine s_inc rfl (by omega) ?_ | refine s_lssT rfl rfl (by omega) ?_ | refine s_lssF rfl rfl (by omega) ?_ | refine s_lss rfl rfl ?_ | refine s_eqlT rfl rfl (by omega) ?_ | refine s_eqlF rfl rfl (by omega) ?_ | refine s_eql rfl rfl ?_ | refine s_neqT rfl rfl (by omega) ?_ | refine s_neqF rfl rfl (by omega) ?_ | refine s_neq rfl rfl ?_ | refine s_leqT rfl rfl (by omega) ?_ | refine s_leqF rfl rfl (by omega) ?_ | refine s_leq rfl rfl ?_ | refine s_gtrT rfl rfl (by omega) ?_ | refine s_gtrF rfl rfl (by omega) ?_ | refine s_gtr rfl rfl ?_ | refine s_geqT rfl rfl (by omega) ?_ | refine s_geqF rfl rfl (by omega) ?_ | refine s_geq rfl rfl ?_ | refine s_add rfl rfl ⟨by omega, by omega⟩ ?_ | refine s_sub rfl rfl ⟨by omega, by omega⟩ ?_) | (refine isCall ?_; first | refine s_lenI sl_ints rfl (by assumption) ?_ | refine s_lenR sl_rows rfl (by assumption) ?_ | refine s_len sl_ints rfl ?_ | refine s_len sl_rows rfl ?_) | (refine isIA ?_; refine s_ixI sl_ints ty_int rfl rfl rfl (by assumption) (by omega) ?_; intro _) | (refine isPick ?_; first | refine s_pickt rfl rfl ?_ | refine s_pickf rfl rfl ?_) | (refine isLD ?_; first | refine s_ldA ty_int rfl (by assumption) rfl ?_ | refine s_ldA ty_ints rfl (by assumption) rfl ?_) | refine s_extract rfl rfl ?_ | refine s_not rfl ?_) | (refine isC ?_; first | refine c_sr ?_ | refine c_th ?_ | refine c_seq ?_ | refine c_region ?_ | refine c_ift rfl ?_ | refine c_iff rfl ?_ | refine c_block ?_ | refine c_ret ?_ | refine c_exit ?_ | refine c_skip ?_) | (first | refine l_th ?_ | refine th_norm ?_ | refine ib_norm ?_ | refine l_nil ?_ | refine th_ret ?_ | refine ib_ret ?_ | refine ib_exit ?_ | refine th_exit ?_ | refine ib_pass rfl ?_))
      exact ret3 rfl rfl rfl rfl ⟨hx, .inl ⟨augR w1 9 (k : Int) has, hb, hmr, congrArg (fun z : Nat => Value.tuple #[sv hb z z, .bool true, .int .i64 0]) hlen, hhw, by rw [← htg, ← hlen]; exact hO, by rw [← htg]; exact hcl⟩⟩
    · refine Exists.elim (hAI.nat hq) fun p hp => ?_
      subst hp
      have hst := hAI.step hBI ha hcl
      have hf := hst.1
      have hwp := hst.2.1
      have hi := hst.2.2.1
      have hpn := hst.2.2.2.1
      have hAI' := hst.2.2.2.2
      have hp8 : p < 8 := by omega
      rw [aug_step w1 hf] at htg
      have hgc : cur.getD (w1 p - 1) 0 = cur.getD (w1 p - 1) (-1) := (getD_m1 (by omega)).symm
      repeat (first | (refine isO ?_; first | refine s_move ?_ | refine s_assign ?_ | (refine isG ?_; first | refine g_yes rfl rfl ?_ | refine g_no rfl rfl rfl ?_ | refine g_un rfl rfl ?_) | (refine isBin ?_; first | refine s_inc rfl (by omega) ?_ | refine s_lssT rfl rfl (by omega) ?_ | refine s_lssF rfl rfl (by omega) ?_ | refine s_lss rfl rfl ?_ | refine s_eqlT rfl rfl (by omega) ?_ | refine s_eqlF rfl rfl (by omega) ?_ | refine s_eql rfl rfl ?_ | refine s_neqT rfl rfl (by omega) ?_ | refine s_neqF rfl rfl (by omega) ?_ | refine s_neq rfl rfl ?_ | refine s_leqT rfl rfl (by omega) ?_ | refine s_leqF rfl rfl (by omega) ?_ | refine s_leq rfl rfl ?_ | refine s_gtrT rfl rfl (by omega) ?_ | refine s_gtrF rfl rfl (by omega) ?_ | refine s_gtr rfl rfl ?_ | refine s_geqT rfl rfl (by omega) ?_ | refine s_geqF rfl rfl (by omega) ?_ | refine s_geq rfl rfl ?_ | refine s_add rfl rfl ⟨by omega, by omega⟩ ?_ | refine s_sub rfl rfl ⟨by omega, by omega⟩ ?_) | (refine isCall ?_; first | refine s_lenI sl_ints rfl (by assumption) ?_ | refine s_lenR sl_rows rfl (by assumption) ?_ | refine s_len sl_ints rfl ?_ | refine s_len sl_rows rfl ?_) | (refine isIA ?_; refine s_ixI sl_ints ty_int rfl rfl rfl (by assumption) (by omega) ?_; intro _) | (refine isPick ?_; first | refine s_pickt rfl rfl ?_ | refine s_pickf rfl rfl ?_) | (refine isLD ?_; first | refine s_ldA ty_int rfl (by assumption) rfl ?_ | refine s_ldA ty_ints rfl (by assumption) rfl ?_) | refine s_extract rfl rfl ?_ | refine s_not rfl ?_) | (refine isC ?_; first | refine c_sr ?_ | refine c_th ?_ | refine c_seq ?_ | refine c_region ?_ | refine c_ift rfl ?_ | refine c_iff rfl ?_ | refine c_block ?_ | refine c_ret ?_ | refine c_exit ?_ | refine c_skip ?_) | (first | refine l_th ?_ | refine th_norm ?_ | refine ib_norm ?_ | refine l_nil ?_ | refine th_ret ?_ | refine ib_ret ?_ | refine ib_exit ?_ | refine th_exit ?_ | refine ib_pass rfl ?_))
      refine s_nil rfl ?_
      refine s_faN u_search rfl tyn_a8 rfl ?_
      refine s_iaO (n := p) u_a8 ty_int rfl rfl hp8 ?_
      refine s_ldA ty_int rfl hA (SE_by hp8) ?_
      refine s_sub rfl rfl ⟨by omega, by omega⟩ ?_
      refine s_re (v' := .int .i64 ((w1 p - 1 : Nat) : Int)) (vint (by omega)) ?_
      repeat (first | (refine isO ?_; first | refine s_move ?_ | refine s_assign ?_ | (refine isG ?_; first | refine g_yes rfl rfl ?_ | refine g_no rfl rfl rfl ?_ | refine g_un rfl rfl ?_) | (refine isBin ?_; first | refine s_inc rfl (by omega) ?_ | refine s_lssT rfl rfl (by omega) ?_ | refine s_lssF rfl rfl (by omega) ?_ | refine s_lss rfl rfl ?_ | refine s_eqlT rfl rfl (by omega) ?_ | refine s_eqlF rfl rfl (by omega) ?_ | refine s_eql rfl rfl ?_ | refine s_neqT rfl rfl (by omega) ?_ | refine s_neqF rfl rfl (by omega) ?_ | refine s_neq rfl rfl ?_ | refine s_leqT rfl rfl (by omega) ?_ | refine s_leqF rfl rfl (by omega) ?_ | refine s_leq rfl rfl ?_ | refine s_gtrT rfl rfl (by omega) ?_ | refine s_gtrF rfl rfl (by omega) ?_ | refine s_gtr rfl rfl ?_ | refine s_geqT rfl rfl (by omega) ?_ | refine s_geqF rfl rfl (by omega) ?_ | refine s_geq rfl rfl ?_ | refine s_add rfl rfl ⟨by omega, by omega⟩ ?_ | refine s_sub rfl rfl ⟨by omega, by omega⟩ ?_) | (refine isCall ?_; first | refine s_lenI sl_ints rfl (by assumption) ?_ | refine s_lenR sl_rows rfl (by assumption) ?_ | refine s_len sl_ints rfl ?_ | refine s_len sl_rows rfl ?_) | (refine isIA ?_; refine s_ixI sl_ints ty_int rfl rfl rfl (by assumption) (by omega) ?_; intro _) | (refine isPick ?_; first | refine s_pickt rfl rfl ?_ | refine s_pickf rfl rfl ?_) | (refine isLD ?_; first | refine s_ldA ty_int rfl (by assumption) rfl ?_ | refine s_ldA ty_ints rfl (by assumption) rfl ?_) | refine s_extract rfl rfl ?_ | refine s_not rfl ?_) | (refine isC ?_; first | refine c_sr ?_ | refine c_th ?_ | refine c_seq ?_ | refine c_region ?_ | refine c_ift rfl ?_ | refine c_iff rfl ?_ | refine c_block ?_ | refine c_ret ?_ | refine c_exit ?_ | refine c_skip ?_) | (first | refine l_th ?_ | refine th_norm ?_ | refine ib_norm ?_ | refine l_nil ?_ | refine th_ret ?_ | refine ib_ret ?_ | refine ib_exit ?_ | refine th_exit ?_ | refine ib_pass rfl ?_))
      refine c_drawO (Ex.refl W) 15 8 [(0, true), (1, true), (2, true), (3, true), (4, true), (5, true), (6, true), (7, true), (8, true), (9, true), (10, true), (11, true), (12, true), (13, true), (14, true), (15, false)] mixed (by kernel_rfl) ?_
      refine d_move rfl ?_
      refine d_nilc rfl rfl ?_
      refine d_faN rfl u_search rfl tyn_ints rfl ?_
      refine d_ldA rfl ty_ints rfl hA rfl ?_
      refine d_move rfl ?_
      refine d_move rfl ?_
      refine d_nilc rfl rfl ?_
      refine d_faN rfl u_search rfl tyn_ints rfl ?_
      refine d_ldA rfl ty_ints rfl hA rfl ?_
      refine d_move rfl ?_
      refine d_iaI (n := w1 p - 1) rfl sl_ints ty_int rfl rfl hIc (by omega) ?_
      intro ad1 hc1
      refine d_ld rfl ty_int rfl hc1 ?_
      refine d_re (v' := .int .i64 (cur.getD (w1 p - 1) (-1))) (vint hgc) ?_
      refine d_move rfl ?_
      refine d_assign rfl ?_
      refine d_iaA (b := hb) (len := has.length) (c := has.length) (n := w1 p - 1) rfl sl_ints ty_int rfl rfl (by omega) ?_
      refine d_ch rfl ?_
      refine s_stO (q := (p : Int)) ty_int rfl rfl (hO.ex (Ex.drew W)) (by omega) ?_
      intro W2 hO2' hg2
      refine l_nil ⟨rfl, .inl rfl, ?_⟩
      refine d_nil ?_
      repeat (first | (refine isO ?_; first | refine s_move ?_ | refine s_assign ?_ | (refine isG ?_; first | refine g_yes rfl rfl ?_ | refine g_no rfl rfl rfl ?_ | refine g_un rfl rfl ?_) | (refine isBin ?_; first | refine s_inc rfl (by omega) ?_ | refine s_lssT rfl rfl (by omega) ?_ | refine s_lssF rfl rfl (by omega) ?_ | refine s_lss rfl rfl ?_ | refine s_eqlT rfl rfl (by omega) ?_ | refine s_eqlF rfl rfl (by omega) ?_ | refine s_eql rfl rfl ?_ | refine s_neqT rfl rfl (by omega) ?_ | refine s_neqF rfl rfl (by omega) ?_ | refine s_neq rfl rfl ?_ | refine s_leqT rfl rfl (by omega) ?_ | refine s_leqF rfl rfl (by omega) ?_ | refine s_leq rfl rfl ?_ | refine s_gtrT rfl rfl (by omega) ?_ | refine s_gtrF rfl rfl (by omega) ?_ | refine s_gtr rfl rfl ?_ | refine s_geqT rfl rfl (by omega) ?_ | refine s_geqF rfl rfl (by omega) ?_ | refine s_geq rfl rfl ?_ | refine s_add rfl rfl ⟨by omega, by omega⟩ ?_ | refine s_sub rfl rfl ⟨by omega, by omega⟩ ?_) | (refine isCall ?_; first | refine s_lenI sl_ints rfl (by assumption) ?_ | refine s_lenR sl_rows rfl (by assumption) ?_ | refine s_len sl_ints rfl ?_ | refine s_len sl_rows rfl ?_) | (refine isIA ?_; refine s_ixI sl_ints ty_int rfl rfl rfl (by assumption) (by omega) ?_; intro _) | (refine isPick ?_; first | refine s_pickt rfl rfl ?_ | refine s_pickf rfl rfl ?_) | (refine isLD ?_; first | refine s_ldA ty_int rfl (by assumption) rfl ?_ | refine s_ldA ty_ints rfl (by assumption) rfl ?_) | refine s_extract rfl rfl ?_ | refine s_not rfl ?_) | (refine isC ?_; first | refine c_sr ?_ | refine c_th ?_ | refine c_seq ?_ | refine c_region ?_ | refine c_ift rfl ?_ | refine c_iff rfl ?_ | refine c_block ?_ | refine c_ret ?_ | refine c_exit ?_ | refine c_skip ?_) | (first | refine l_th ?_ | refine th_norm ?_ | refine ib_norm ?_ | refine l_nil ?_ | refine th_ret ?_ | refine ib_ret ?_ | refine ib_exit ?_ | refine th_exit ?_ | refine ib_pass rfl ?_))
      exact loop_end2 (f - 1) (cur.getD (w1 p - 1) (-1)) (by (repeat (first | exact agree_refl _ _ | refine agree_upd rfl ?_ | refine agree_ext rfl ?_ | refine agree_mask rfl ?_))) ⟨rfl, trivial⟩ ⟨cur.set (w1 p - 1) (p : Int), by rw [List.length_set]; exact hcl, hO2', hAI', htg, (hA.ex (Ex.drew W)).grown hg2 (fun e => hne (Option.some.inj e)), (hx.trans (Ex.drew W)).store hg2 hhw⟩ (by omega)
#print axioms More_ct
end Go.Proofs.Ytkhnohnkcdcajaa.Sal
