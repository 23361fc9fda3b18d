/- Texts that YtifbgpkjbciblaaF136 leans on, laid together: W4 W5 M2 W7 W8 L1 M3 M4 M5 V20 Core21 H5 V14 TW3 V15 V21 V23 V24. -/
import Derived.Test.YtifbgpkjbciblaaMF1367
import Derived.Test.YtifbgpkjbciblaaMF1363
import Derived.Test.YtifbgpkjbciblaaMF1362
import Derived.Test.YtifbgpkjbciblaaMF1366
import Derived.Test.YtifbgpkjbciblaaMF1364
section
/- weights.best. -/
set_option maxRecDepth 100000
namespace Go.Proofs.Ytifbgpkjbciblaa.Sal
open Go.RowKit
attribute [local irreducible] Go.Code.wpIn Go.wpListIn Ct Ints Rows Sl At Rw WJ
set_option linter.all false

/-- A table of 256 numbers. -/
def tab (f : Nat → Int) : List Value := (List.range 256).map (fun x => Value.int .i64 (f x))
theorem tab_len (f : Nat → Int) : (tab f).length = 256 := by simp [tab]
theorem tab_get (f : Nat → Int) {x : Nat} (h : x < 256) : (tab f)[x]? = some (.int .i64 (f x)) := by simp [tab, h]
def updF (f : Nat → Int) (x : Nat) (y : Int) : Nat → Int := fun z => if z = x then y else f z
theorem tab_set (f : Nat → Int) {x : Nat} (y : Int) (h : x < 256) : (tab f).set x (.int .i64 y) = tab (updF f x y) := by
  apply List.ext_getElem
  · simp [tab]
  · intro i h1 h2
    rw [List.getElem_set]
    simp only [tab, List.getElem_map, List.getElem_range, updF]
    by_cases hi : i = x
    · subst hi; simp
    · have : ¬ x = i := fun e => hi e.symm
      simp [this, hi]
theorem rep_tab (n : Nat) : List.replicate n (Value.int .i64 0) = (List.range n).map (fun x => Value.int .i64 (zeroF x)) := by
  apply List.ext_getElem
  · simp
  · intro i h1 h2; simp [zeroF]
theorem tab_zero : List.replicate 256 (Value.int .i64 0) = tab zeroF := rep_tab 256
theorem tab_one (f : Nat → Int) : (tab f).all (·.oneCell') = true := by
  rw [List.all_eq_true]; intro v hv; obtain ⟨x, _, rfl⟩ := List.mem_map.1 hv; rfl
theorem tab_ints (f : Nat → Int) : tab f = ((List.range 256).map f).map (Value.int .i64) := by simp [tab]
theorem tab_congr {f g : Nat → Int} (h : ∀ x, x < 256 → f x = g x) : tab f = tab g := by
  unfold tab; apply List.map_congr_left; intro x hx; rw [h x (List.mem_range.1 hx)]
theorem u_arr : Try.prog.underlying 89 = some (.array 256 3) := Try.underlying89
theorem sz_arr : (Try.prog.info? 89).map (·.size) = some 256 := by kernel_rfl
theorem z_arr : (Try.prog.info? 89).map (·.zero) = some (some (.agg (List.replicate 256 (Value.int .i64 0)).toArray)) := by kernel_rfl
theorem in_arr : ∃ ti, Try.prog.info? 89 = some ti ∧ ti.zero = some (.agg (List.replicate 256 (Value.int .i64 0)).toArray) := by
  have h := z_arr
  cases hq : Try.prog.info? 89 with
  | none => rw [hq] at h; cases h
  | some ti => rw [hq] at h; exact ⟨ti, rfl, Option.some.inj h⟩

structure Good (g : List (List Int)) (items : Nat) : Prop where
  few : g.length ≤ 8
  len : ∀ i, i < g.length → (g.getD i []).length = items
  bnd : ∀ i k, -1000000 ≤ gain g i k ∧ gain g i k ≤ 1000000
def natl (ks : List Nat) : List Int := ks.map (fun k : Nat => (k : Int))
theorem natl_getD (ks : List Nat) {j : Nat} (h : j < ks.length) : (natl ks).getD j 0 = ((ks.getD j 0 : Nat) : Int) := by simp [natl, h]
theorem natl_len (ks : List Nat) : (natl ks).length = ks.length := by simp [natl]
theorem take_snocN (l : List Nat) (k : Nat) (h : k < l.length) : l.take (k + 1) = l.take k ++ [l.getD k 0] := by
  rw [List.take_succ_eq_append_getElem h]; simp [h]
def bestF (g : List (List Int)) (ks : List Nat) : Int := maxL 0 ((List.range 256).map (bestH g ks zeroF))
/-- Half way through a table: sets below who are done, who itself as far as v. -/
def half (f h : Nat → Int) (who : Nat) (v : Int) : Nat → Int := fun x => if x < who then h x else if x = who then v else f x

theorem ok_best : CallOK Try.prog 43 := callOK Try.func43 (by kernel_rfl) rfl
theorem pow_le_256 {n : Nat} (h : n ≤ 8) : 2 ^ n ≤ 256 := by
  have := Nat.pow_le_pow_right (n := 2) (by omega) h; simpa using this
theorem one_pow_lt {i n : Nat} (h : i < n) (h8 : n ≤ 8) : 1 * 2 ^ i ≤ 256 := by rw [Nat.one_mul]; exact pow_le_256 (by omega)

set_option maxHeartbeats 1000000 in
theorem best_ct (gv kv : Value) (g : List (List Int)) (items : Nat) (ks : List Nat) (w : World) (hg : Rows w gv g) (hk : Ints w kv (natl ks)) (hG : Good g items) (hks : ∀ j, j < ks.length → ks.getD j 0 < items) (hkl : ks.length ≤ 100) :
    Ct Try.prog 43 #[gv, kv] w fun u w' => u = .int .i64 (bestF g ks) ∧ Ex w w' := by
  obtain ⟨hfew, hlen, hbnd⟩ := hG
  obtain ⟨ti, hi1, hi2⟩ := in_arr
  have hpow := pow_le_256 hfew
  refine enter (N := 67) (vs := [gv, kv]) Try.func43 rfl rfl rfl ?_
  repeat (first | (refine isO ?_; refine s_assign ?_) | (refine isC ?_; refine c_sr ?_) | (refine l_th ?_))
  refine s_alloc (cs := List.replicate 256 (Value.int .i64 0)) hi1 hi2 rfl ?_
  intro bA w1 hbA hA hx1 hs1
  rw [tab_zero] at hA
  have hk1 := hk.ex hx1
  repeat (first | (refine isO ?_; first | refine s_move ?_ | (refine isCall ?_; refine s_lenI sl_ints rfl (by assumption) ?_)) | (refine isC ?_; first | refine c_sr ?_ | refine c_seq ?_ | refine c_block ?_) | (refine l_th ?_))
  refine c_loop (γ := Nat) 36893488147419090816 (fun j => [(14, .int .i64 (j : Int))])
    (fun j w' => j ≤ ks.length ∧ At w' bA 89 (tab (bestH g (ks.take j) zeroF)) ∧ Ex w w') (fun j => ks.length - j) 0 ⟨rfl, trivial⟩
    ⟨Nat.zero_le _, by simpa [bestH] using hA, hx1⟩ ?_
  rintro j ρ w2 ⟨hj, hA2, hx2⟩
  have hg2 := hg.ex hx2
  have hkl2 := natl_len ks
  repeat (first | (refine isO ?_; (refine isBin ?_; refine s_lss rfl rfl ?_)) | (refine isC ?_; first | refine c_sr ?_ | refine c_seq ?_) | (refine l_th ?_))
  refine c_ifd rfl (fun h => ?_) (fun h => ?_)
  · have hj' : j < ks.length := by omega
    have hkj := hks j hj'
    have hfb := bestH_bnd (fun i k => (hbnd i k).2) (ks.take j) zeroF 0 zero_bnd
    have hfl : ((ks.take j).length : Int) ≤ 100 := by simp; omega
    generalize hfd : bestH g (ks.take j) zeroF = f at hA2 hfb
    obtain ⟨k, hkd⟩ : ∃ k, ks.getD j 0 = k := ⟨_, rfl⟩
    rw [hkd] at hkj
    repeat ((refine isC ?_; first | refine c_sr ?_ | refine c_th ?_ | refine c_seq ?_ | refine c_block ?_))
    refine s_ixI (n := j) sl_ints ty_int rfl rfl rfl (hk.ex hx2) (by omega) ?_
    intro _
    refine s_re (v' := .int .i64 (k : Int)) (vint (by rw [natl_getD ks hj', hkd])) ?_
    repeat (first | (refine isO ?_; refine s_assign ?_) | (refine isC ?_; refine c_sr ?_) | (refine l_th ?_))
    refine s_ldV (cs := tab f) u_arr rfl (by rw [tab_len]; exact sz_arr) rfl hA2 ?_
    refine s_alloc (cs := List.replicate 256 (Value.int .i64 0)) hi1 hi2 rfl ?_
    intro bB w3 hbB hB hx3 hs3
    have hA3 := hA2.ex hx3
    have hne : bB ≠ bA := by have := hA2.lt; omega
    refine s_stV (cs := tab f) (by rw [tab_len]; exact sz_arr) rfl rfl hB (by simp [tab_len]) (tab_one f) ?_
    intro w4 hB4 hg4 hs4
    have hA4 := hA3.grown hg4 (fun e => hne (Option.some.inj e))
    have hx4 : Ex w w4 := (hx2.trans hx3).store hg4 (by have := hx2.size; omega)
    have hg4' := hg.ex hx4
    repeat (first | (refine isO ?_; first | refine s_move ?_ | (refine isCall ?_; refine s_lenR sl_rows rfl (by assumption) ?_)) | (refine isC ?_; refine c_sr ?_) | (refine l_th ?_))
    refine s_shl (m := 1) (n := g.length) rfl rfl (by simp [IntKind.bits]; omega) (by rw [Nat.one_mul]; simp only [top]; omega) ?_
    refine s_re (vint (congrArg Nat.cast (Nat.one_mul _))) ?_
    repeat (first | (refine isO ?_; refine s_move ?_) | (refine isC ?_; refine c_block ?_) | (refine l_th ?_))
    -- the sets
    refine c_loop (γ := Nat) 18446744073705360896 (fun who => [(22, .int .i64 (who : Int))])
      (fun who w' => who ≤ 2 ^ g.length ∧ At w' bA 89 (tab (half f (stepH g k f) who (f who))) ∧ At w' bB 89 (tab f) ∧ Ex w w') (fun who => 2 ^ g.length - who) 0 ⟨rfl, trivial⟩
      ⟨Nat.zero_le _, ?_, hB4, hx4⟩ ?_
    · rw [tab_congr (g := f)]
      · exact hA4
      · intro x _; unfold half; split
        · omega
        · split
          · rename_i h2; rw [h2]
          · rfl
    rintro who ρ2 w5 ⟨hwho, hA5, hB5, hx5⟩
    have hg5 := hg.ex hx5
    repeat (first | (refine isO ?_; (refine isBin ?_; refine s_lss rfl rfl ?_)) | (refine isC ?_; first | refine c_sr ?_ | refine c_seq ?_) | (refine l_th ?_))
    refine c_ifd rfl (fun h2 => ?_) (fun h2 => ?_)
    · have hwho' : who < 2 ^ g.length := by omega
      have hw256 : who < 256 := by omega
      repeat (first | (refine isO ?_; first | refine s_move ?_ | refine s_assign ?_ | (refine isCall ?_; refine s_lenR sl_rows rfl (by assumption) ?_)) | (refine isC ?_; first | refine c_sr ?_ | refine c_th ?_ | refine c_seq ?_ | refine c_block ?_) | (refine l_th ?_))
      -- the bidders
      refine c_loop (γ := Nat) 9223372036720561152 (fun i => [(27, .int .i64 (i : Int))])
        (fun i w' => i ≤ g.length ∧ At w' bA 89 (tab (half f (stepH g k f) who (inner g k f who i))) ∧ At w' bB 89 (tab f) ∧ Ex w w') (fun i => g.length - i) 0 ⟨rfl, trivial⟩
        ⟨Nat.zero_le _, hA5, hB5, hx5⟩ ?_
      rintro i ρ3 w6 ⟨hi, hA6, hB6, hx6⟩
      have hg6 := hg.ex hx6
      repeat (first | (refine isO ?_; (refine isBin ?_; refine s_lss rfl rfl ?_)) | (refine isC ?_; first | refine c_sr ?_ | refine c_seq ?_) | (refine l_th ?_))
      refine c_ifd rfl (fun h3 => ?_) (fun h3 => ?_)
      · have hi' : i < g.length := by omega
        have hli := hlen i hi'
        have hbi := hbnd i k
        have hnext : ∀ {W : World}, Ex w W → At W bB 89 (tab f) → At W bA 89 (tab (half f (stepH g k f) who (inner g k f who (i + 1)))) → i + 1 ≤ g.length ∧ At W bA 89 (tab (half f (stepH g k f) who (inner g k f who (i + 1)))) ∧ At W bB 89 (tab f) ∧ Ex w W :=
          fun a b c => ⟨hi', c, b, a⟩
        repeat (first | (refine isO ?_; refine s_move ?_) | (refine isC ?_; first | refine c_sr ?_ | refine c_th ?_ | refine c_seq ?_ | refine c_block ?_))
        refine s_ixR sl_rows ty_ints rfl rfl rfl hg6 hi' ?_
        intro _ lu hlu
        by_cases hb1 : who.testBit i = true
        · have hb1' := (bit_asked who i).2 hb1
          by_cases hb2 : 0 ≤ gain g i k
          · have hb2' : 0 ≤ (g.getD i []).getD k 0 := hb2
            repeat (first | (refine isO ?_; first | refine s_move ?_ | refine s_assign ?_) | (refine isC ?_; refine c_sr ?_) | (refine l_th ?_))
            refine s_shr (m := who) (n := i) rfl rfl (by simp [IntKind.bits]; omega) ?_
            refine s_and (m := who / 2 ^ i) (n := 1) rfl rfl (Nat.le_trans (Nat.div_le_self _ _) (by simp only [top]; omega)) (by simp [top]) ?_
            refine s_eqlT rfl rfl hb1' ?_
            repeat ((refine isO ?_; first | refine s_move ?_ | (refine isG ?_; refine g_yes rfl rfl ?_)))
            refine s_ixIg (n := k) sl_ints ty_int rfl rfl rfl rfl rfl rfl hlu (by omega) ?_
            intro _
            repeat (first | (refine isO ?_; first | (refine isG ?_; refine g_yes rfl rfl ?_) | (refine isBin ?_; refine s_geqT rfl rfl (by omega) ?_) | (refine isPick ?_; refine s_pickt rfl rfl ?_)) | (refine isC ?_; refine c_ift rfl ?_) | (refine l_th ?_))
            refine c_draw 262144 8 [(0, true), (1, true), (2, true), (3, true), (4, true), (5, true), (6, true), (7, true), (8, true), (9, true), (10, true), (11, true), (12, true), (13, true), (14, true), (15, false), (16, false), (17, true), (18, false)] mixed (by kernel_rfl) ?_
            have hA6d : At w6.drew bA 89 (tab (half f (stepH g k f) who (inner g k f who i))) := hA6.ex (Ex.drew _)
            have hB6d : At w6.drew bB 89 (tab f) := hB6.ex (Ex.drew _)
            have hlud := hlu.ex (Ex.drew w6)
            have hx6d : Ex w w6.drew := hx6.trans (Ex.drew _)
            have hfx := hfb (who - 2 ^ i)
            have hclr := clr_two hb1
            have hsub : who - 2 ^ i < 256 := by have := Nat.sub_le who (2 ^ i); omega
            refine d_move rfl ?_
            refine d_move rfl ?_
            refine d_iaV (n := who) rfl u_arr ty_int rfl rfl hw256 ?_
            refine d_ldA (cs := tab (half f (stepH g k f) who (inner g k f who i))) (u := .int .i64 (inner g k f who i)) rfl ty_int rfl hA6d (by rw [tab_get _ hw256]; simp [half]) ?_
            refine d_move rfl ?_
            refine d_move rfl ?_
            refine d_shl (m := 1) (n := i) rfl rfl rfl (by simp [IntKind.bits]; omega) (Nat.le_trans (one_pow_lt hi' hfew) (by simp [top])) ?_
            refine d_andNot (m := who) (n := 1 * 2 ^ i) rfl rfl rfl (by simp only [top]; omega) (Nat.le_trans (one_pow_lt hi' hfew) (by simp [top])) ?_
            refine d_re (vint (congrArg Nat.cast hclr)) ?_
            refine d_iaV (n := who - 2 ^ i) rfl u_arr ty_int rfl rfl hsub ?_
            refine d_ldA (cs := tab f) (u := .int .i64 (f (who - 2 ^ i))) rfl ty_int rfl hB6d (tab_get _ hsub) ?_
            refine d_move rfl ?_
            refine d_move rfl ?_
            refine d_iaI (n := k) rfl sl_ints ty_int rfl rfl hlud (by omega) ?_
            intro ad had
            refine d_ld rfl ty_int rfl had ?_
            refine d_add (a := f (who - 2 ^ i)) (b := gain g i k) rfl rfl rfl ⟨by omega, by omega⟩ ?_
            refine d_chain rfl ?_
            refine s_bs1 (u := .int .i64 (f (who - 2 ^ i) + gain g i k)) sl_ints in_int rfl rfl ?_
            intro bC w7 hbC hC hx7 hs7
            refine l_nil ⟨rfl, .inr hx7, ?_⟩
            refine d_chain rfl ?_
            have hC' : Ints w7 (.slice (some ⟨bC, 0, none⟩) 1 1) [f (who - 2 ^ i) + gain g i k] := hC.ints (l := [f (who - 2 ^ i) + gain g i k]) (by simp) (by simp)
            refine s_call ok_most rfl (most_ct (inner g k f who i) _ _ w7 hC') ?_
            rintro u w8 ⟨rfl, rfl⟩
            refine l_nil ⟨rfl, .inr hx7, ?_⟩
            refine d_iaV (n := who) rfl u_arr ty_int rfl rfl hw256 ?_
            refine d_chain rfl ?_
            have hA7 := hA6d.ex hx7
            refine s_stA (n := who) (u := .int .i64 (maxL (inner g k f who i) [f (who - 2 ^ i) + gain g i k])) ty_int rfl rfl rfl hA7 (by rw [tab_len]; exact hw256) ?_
            intro w9 hA9 hg9
            refine l_nil ⟨rfl, .inl rfl, ?_⟩
            refine d_nil ?_
            have hA9' : At w9 bA 89 (tab (half f (stepH g k f) who (inner g k f who (i + 1)))) := by
              rw [tab_set _ _ hw256] at hA9
              rw [tab_congr] at hA9
              · exact hA9
              · intro x _
                unfold updF half
                by_cases hxw : x = who
                · subst hxw
                  simp only [if_true, Nat.lt_irrefl, if_false]
                  show maxL _ _ = inner g k f x (i + 1)
                  rw [inner, if_pos ⟨hb1, hb2⟩]; rfl
                · simp [hxw]
            have hB9 : At w9 bB 89 (tab f) := (hB6d.ex hx7).grown hg9 (fun e => hne (Option.some.inj e).symm)
            have hx9 : Ex w w9 := (hx6d.trans hx7).store hg9 (by omega)
            repeat (first | (refine isO ?_; first | refine s_move ?_ | (refine isBin ?_; refine s_inc rfl (by omega) ?_)) | (refine isC ?_; refine c_region ?_) | (refine l_th ?_))
            exact loop_end (i + 1) (by (repeat (first | exact agree_refl _ _ | refine agree_upd rfl ?_ | refine agree_ext rfl ?_ | refine agree_mask rfl ?_))) ⟨rfl, trivial⟩ (hnext hx9 hB9 hA9') (by omega)
          · have hb2' : ¬ 0 ≤ (g.getD i []).getD k 0 := hb2
            have hst : inner g k f who (i + 1) = inner g k f who i := by rw [inner, if_neg (fun h => hb2 h.2)]
            rw [hst] at hnext
            repeat (first | (refine isO ?_; first | refine s_move ?_ | refine s_assign ?_) | (refine isC ?_; refine c_sr ?_) | (refine l_th ?_))
            refine s_shr (m := who) (n := i) rfl rfl (by simp [IntKind.bits]; omega) ?_
            refine s_and (m := who / 2 ^ i) (n := 1) rfl rfl (Nat.le_trans (Nat.div_le_self _ _) (by simp only [top]; omega)) (by simp [top]) ?_
            refine s_eqlT rfl rfl hb1' ?_
            repeat ((refine isO ?_; first | refine s_move ?_ | (refine isG ?_; refine g_yes rfl rfl ?_)))
            refine s_ixIg (n := k) sl_ints ty_int rfl rfl rfl rfl rfl rfl hlu (by omega) ?_
            intro _
            repeat (first | (refine isO ?_; first | refine s_move ?_ | (refine isG ?_; refine g_yes rfl rfl ?_) | (refine isBin ?_; first | refine s_inc rfl (by omega) ?_ | refine s_geqF rfl rfl (by omega) ?_) | (refine isPick ?_; refine s_pickt rfl rfl ?_)) | (refine isC ?_; first | refine c_region ?_ | refine c_iff rfl ?_ | refine c_skip ?_) | (refine l_th ?_))
            exact loop_end (i + 1) (by (repeat (first | exact agree_refl _ _ | refine agree_upd rfl ?_ | refine agree_ext rfl ?_ | refine agree_mask rfl ?_))) ⟨rfl, trivial⟩ (by rw [hst]; exact hnext hx6 hB6 hA6) (by omega)
        · have hb1' : ¬ ((who / 2 ^ i &&& 1 : Nat) : Int) = 1 := fun h => hb1 ((bit_asked who i).1 h)
          have hst : inner g k f who (i + 1) = inner g k f who i := by rw [inner, if_neg (fun h => hb1 h.1)]
          rw [hst] at hnext
          repeat (first | (refine isO ?_; first | refine s_move ?_ | refine s_assign ?_) | (refine isC ?_; refine c_sr ?_) | (refine l_th ?_))
          refine s_shr (m := who) (n := i) rfl rfl (by simp [IntKind.bits]; omega) ?_
          refine s_and (m := who / 2 ^ i) (n := 1) rfl rfl (Nat.le_trans (Nat.div_le_self _ _) (by simp only [top]; omega)) (by simp [top]) ?_
          refine s_eqlF rfl rfl hb1' ?_
          repeat (first | (refine isO ?_; first | refine s_move ?_ | (refine isG ?_; refine g_no rfl rfl rfl ?_) | (refine isBin ?_; refine s_inc rfl (by omega) ?_) | (refine isPick ?_; refine s_pickf rfl rfl ?_)) | (refine isC ?_; first | refine c_region ?_ | refine c_iff rfl ?_ | refine c_skip ?_) | (refine l_th ?_))
          exact loop_end (i + 1) (by (repeat (first | exact agree_refl _ _ | refine agree_upd rfl ?_ | refine agree_ext rfl ?_ | refine agree_mask rfl ?_))) ⟨rfl, trivial⟩ (by rw [hst]; exact hnext hx6 hB6 hA6) (by omega)
      · have hin : i = g.length := by omega
        subst hin
        repeat (first | (refine isO ?_; first | refine s_move ?_ | (refine isBin ?_; refine s_inc rfl (by omega) ?_)) | (refine isC ?_; first | refine c_region ?_ | refine c_exit ?_) | (refine l_th ?_))
        refine loop_end (who + 1) (by (repeat (first | exact agree_refl _ _ | refine agree_upd rfl ?_ | refine agree_ext rfl ?_ | refine agree_mask rfl ?_))) ⟨rfl, trivial⟩ ⟨by omega, ?_, hB6, hx6⟩ (by omega)
        rw [tab_congr] at hA6
        · exact hA6
        · intro x _
          unfold half
          by_cases h5 : x < who
          · simp [h5, Nat.lt_succ_of_lt h5]
          · by_cases h6 : x = who
            · subst h6; simp [stepH, hwho']
            · have h7 : ¬ x < who + 1 := by omega
              simp only [h5, h6, h7, if_false]
              by_cases h8 : x = who + 1
              · simp [h8]
              · simp [h8]
    · have hwn : who = 2 ^ g.length := by omega
      subst hwn
      repeat (first | (refine isO ?_; first | refine s_move ?_ | (refine isBin ?_; refine s_inc rfl (by omega) ?_)) | (refine isC ?_; first | refine c_region ?_ | refine c_exit ?_) | (refine l_th ?_))
      refine loop_end (j + 1) (by (repeat (first | exact agree_refl _ _ | refine agree_upd rfl ?_ | refine agree_ext rfl ?_ | refine agree_mask rfl ?_))) ⟨rfl, trivial⟩ ⟨hj', ?_, hx5⟩ (by omega)
      rw [take_snocN ks j hj', bestH_snoc, hfd, hkd]
      rw [tab_congr] at hA5
      · exact hA5
      · intro x _
        unfold half stepH
        by_cases h5 : x < 2 ^ g.length
        · simp [h5]
        · simp only [h5, if_false]
          by_cases h6 : x = 2 ^ g.length
          · simp [h6]
          · simp [h6]
  · have hjn : j = ks.length := by omega
    subst hjn
    rw [List.take_length] at hA2
    repeat ((refine isC ?_; first | refine c_sr ?_ | refine c_exit ?_))
    refine s_arr u_arr ty_int rfl ?_
    have hI : Ints w2 (.slice (some ⟨bA, 0, none⟩) 256 256) ((List.range 256).map (bestH g ks zeroF)) := by
      rw [tab_ints] at hA2
      have := hA2.ints (c := 256) (by simp) (by simp)
      simpa using this
    refine s_call ok_most rfl (most_ct 0 _ _ w2 hI) ?_
    rintro u w3 ⟨rfl, rfl⟩
    repeat (first | (refine isO ?_; refine s_assign ?_) | (refine isC ?_; refine c_ret ?_) | (refine l_th ?_))
    exact ret1 rfl rfl ⟨rfl, hx2⟩
end Go.Proofs.Ytifbgpkjbciblaa.Sal
end
section
/- weights.Best, weights.Proved. -/
set_option maxRecDepth 100000
namespace Go.Proofs.Ytifbgpkjbciblaa.Sal
open Go.RowKit
attribute [local irreducible] Go.Code.wpIn Go.wpListIn Ct Ints Rows Sl At Rw WJ
set_option linter.all false

theorem check_good {g : List (List Int)} {items : Int} (h : checkG g items = true) : ∃ n : Nat, items = (n : Int) ∧ 1 ≤ n ∧ n ≤ 8 ∧ Good g n := by
  simp only [checkG, Bool.and_eq_true, decide_eq_true_eq, Bool.not_eq_true'] at h
  obtain ⟨⟨⟨h1, h2⟩, h3⟩, h4⟩ := h
  refine ⟨items.toNat, by omega, by omega, by omega, by omega, fun i hi => ?_, fun i k => ?_⟩
  · rw [List.any_eq_false] at h4
    have := h4 (g.getD i []) (by simp [hi])
    simp only [badL, Bool.or_eq_true, decide_eq_true_eq, not_or] at this
    omega
  · rw [List.any_eq_false] at h4
    unfold gain
    by_cases hi : i < g.length
    · have := h4 (g.getD i []) (by simp [hi])
      simp only [badL, Bool.or_eq_true, decide_eq_true_eq, not_or] at this
      have h5 := this.2
      rw [Bool.not_eq_true, List.any_eq_false] at h5
      by_cases hk : k < (g.getD i []).length
      · have := h5 ((g.getD i []).getD k 0) (by
          generalize g.getD i [] = l at hk
          simp [hk])
        simp only [badN, Bool.or_eq_true, decide_eq_true_eq, not_or] at this
        omega
      · have : (g.getD i []).getD k 0 = 0 := by
          generalize g.getD i [] = l at hk
          simp [hk]
        omega
    · have : (g.getD i []) = [] := by simp [hi]
      rw [this]; simp
def VV (g : List (List Int)) (n : Nat) : Int := bestF g (List.range n)
def pk (g : List (List Int)) (n k : Nat) : Int := bestF g (List.range n ++ [k]) - VV g n
def uu (g : List (List Int)) (n i : Nat) : Nat → Int
  | 0 => 0
  | k + 1 => max' (uu g n i k) (gain g i k - pk g n k)
theorem maxL_bnd {M : Int} : ∀ (l : List Int) (m : Int), 0 ≤ m ∧ m ≤ M → (∀ x ∈ l, x ≤ M) → 0 ≤ maxL m l ∧ maxL m l ≤ M
  | [], m, h, _ => h
  | x :: l, m, h, hl => by
    have hx := hl x (by simp)
    exact maxL_bnd l _ (by split <;> omega) (fun y hy => hl y (by simp [hy]))
theorem bestF_bnd {g : List (List Int)} {n : Nat} (hG : Good g n) (ks : List Nat) : 0 ≤ bestF g ks ∧ bestF g ks ≤ 1000000 * ks.length := by
  have hb := bestH_bnd (fun i k => (hG.bnd i k).2) ks zeroF 0 zero_bnd
  refine maxL_bnd _ _ (by omega) (fun x hx => ?_)
  obtain ⟨y, _, rfl⟩ := List.mem_map.1 hx
  have := hb y; omega
theorem upto_natl (n : Nat) : upto n = natl (List.range n) := rfl
theorem ok_Best : CallOK Try.prog 20 := callOK Try.func20 (by kernel_rfl) rfl
theorem Best_ok (gv : Value) (g : List (List Int)) (n : Nat) (w : World) (hg : Rows w gv g) (hc : checkG g (n : Int) = true) :
    Ct Try.prog 20 #[gv, .int .i64 (n : Int)] w fun u w' => u = .tuple #[.int .i64 (VV g n), .int .i64 0] ∧ Ex w w' := by
  obtain ⟨m, hm, h1, h8, hG⟩ := check_good hc
  obtain rfl : n = m := by omega
  refine enter (N := 14) (vs := [gv, .int .i64 (n : Int)]) Try.func20 rfl rfl rfl ?_
  repeat (first | (refine isO ?_; first | refine s_move ?_ | refine s_assign ?_) | (refine isC ?_; first | refine c_sr ?_ | refine c_seq ?_) | (refine l_th ?_))
  refine s_call ok_check rfl (check_ct gv g (n : Int) w hg) ?_
  rw [hc]
  rintro u w1 ⟨rfl, hx⟩
  repeat (first | (refine isO ?_; first | refine s_move ?_ | refine s_not rfl ?_) | (refine isC ?_; first | refine c_sr ?_ | refine c_th ?_ | refine c_iff rfl ?_) | (refine l_th ?_))
  refine s_call ok_each rfl (each_ct n _ [] w1 (Ints.nil _) (by omega) (by simp)) ?_
  rintro u w2 ⟨hI, hx2⟩
  rw [List.append_nil, upto_natl] at hI
  refine s_call ok_best rfl (best_ct gv u g n (List.range n) w2 ((hg.ex hx).ex hx2) hI hG (fun j hj => by simp at hj; simp [hj]) (by simp; omega)) ?_
  rintro v w3 ⟨rfl, hx3⟩
  repeat (first | (refine isO ?_; refine s_assign ?_) | (refine isC ?_; refine c_ret ?_) | (refine l_th ?_))
  exact ret2 rfl rfl rfl ⟨rfl, (hx.trans hx2).trans hx3⟩
/-- A table of n numbers. -/
def tabn (n : Nat) (f : Nat → Int) : List Value := (List.range n).map (fun x => Value.int .i64 (f x))
theorem tabn_len (n : Nat) (f : Nat → Int) : (tabn n f).length = n := by simp [tabn]
theorem tabn_set {n : Nat} (f : Nat → Int) {x : Nat} (y : Int) (h : x < n) : (tabn n f).set x (.int .i64 y) = tabn n (updF f x y) := by
  apply List.ext_getElem
  · simp [tabn]
  · intro i h1 h2
    rw [List.getElem_set]
    simp only [tabn, List.getElem_map, List.getElem_range, updF]
    by_cases hi : i = x
    · subst hi; simp
    · have : ¬ x = i := fun e => hi e.symm
      simp [this, hi]
theorem tabn_zero (n : Nat) : List.replicate n (Value.int .i64 0) = tabn n zeroF := rep_tab n
theorem tabn_congr {n : Nat} {f g : Nat → Int} (h : ∀ x, x < n → f x = g x) : tabn n f = tabn n g := by
  unfold tabn; apply List.map_congr_left; intro x hx; rw [h x (List.mem_range.1 hx)]
theorem at_tabn {w : World} {b n : Nat} {E : TypeId} {f g : Nat → Int} (h : ∀ x, x < n → f x = g x) (hA : At w b E (tabn n f)) : At w b E (tabn n g) := by rw [← tabn_congr h]; exact hA
theorem tabn_ints (n : Nat) (f : Nat → Int) : tabn n f = ((List.range n).map f).map (Value.int .i64) := by simp [tabn]

end Go.Proofs.Ytifbgpkjbciblaa.Sal
end
section
/- Plain: what weights.best works out is the best of all matchings. -/
set_option maxRecDepth 100000
namespace Go.Proofs.Ytifbgpkjbciblaa.Sal
set_option linter.all false

/-- v is the best value, and numbers prove it. -/
structure Opt (G : Nat → Nat → Int) (m L : Nat) (v : Int) : Prop where
  le : ∀ τ, Inj τ L → val G m L τ ≤ v
  ge : ∀ u p, Dual G m L u p → v ≤ sm u m + sm p L
  has : ∃ τ, Inj τ L ∧ val G m L τ = v
  dual : ∃ u p, Dual G m L u p ∧ sm u m + sm p L = v
theorem opt_ex (G : Nat → Nat → Int) (m L : Nat) : ∃ v, Opt G m L v := by
  obtain ⟨u, p, τ, hd, hi, hv⟩ := strong G m L
  exact ⟨val G m L τ, fun τ' h' => by rw [hv]; exact weak h' hd, fun u' p' hd' => weak hi hd', ⟨τ, hi, rfl⟩, ⟨u, p, hd, hv.symm⟩⟩
theorem opt_uniq {G : Nat → Nat → Int} {m L : Nat} {v w : Int} (h1 : Opt G m L v) (h2 : Opt G m L w) : v = w := by
  obtain ⟨τ, hi, e⟩ := h1.has
  obtain ⟨τ', hi', e'⟩ := h2.has
  have := h1.le τ' hi'
  have := h2.le τ hi
  omega
theorem opt_of_bounds {G : Nat → Nat → Int} {m L : Nat} {v : Int} (h1 : ∀ τ, Inj τ L → val G m L τ ≤ v) (h2 : ∀ u p, Dual G m L u p → v ≤ sm u m + sm p L) : Opt G m L v := by
  obtain ⟨w, hw⟩ := opt_ex G m L
  obtain ⟨τ, hi, e⟩ := hw.has
  obtain ⟨u, p, hd, e'⟩ := hw.dual
  have := h1 τ hi
  have := h2 u p hd
  have : v = w := by omega
  rw [this]; exact hw

/-! ### The table of the program -/
theorem bit_sub {who i : Nat} (h : who.testBit i = true) (j : Nat) : (who - 2 ^ i).testBit j = (who.testBit j && !decide (i = j)) := by
  have := clr_two h
  rw [Nat.one_mul] at this
  rw [← this, clr_bit, Nat.testBit_two_pow]
theorem or_sub {who i : Nat} (h : who.testBit i = false) : (who ||| 2 ^ i) - 2 ^ i = who := by
  have hb : (who ||| 2 ^ i).testBit i = true := by rw [Nat.testBit_or, Nat.testBit_two_pow_self]; simp
  apply Nat.eq_of_testBit_eq
  intro j
  rw [bit_sub hb, Nat.testBit_or, Nat.testBit_two_pow]
  by_cases hij : i = j
  · subst hij; simp [h]
  · simp [hij]
theorem max'_ge1 (a b : Int) : a ≤ max' a b := by unfold max'; split <;> omega
theorem max'_ge2 (a b : Int) : b ≤ max' a b := by unfold max'; split <;> omega
theorem max'_le' {a b c : Int} (h1 : a ≤ c) (h2 : b ≤ c) : max' a b ≤ c := by unfold max'; split <;> omega
theorem inner_ge (g : List (List Int)) (k : Nat) (f : Nat → Int) (who : Nat) : ∀ n, f who ≤ inner g k f who n
  | 0 => Int.le_refl _
  | n + 1 => by
    have := inner_ge g k f who n
    unfold inner
    split
    · exact Int.le_trans this (max'_ge1 _ _)
    · exact this
theorem inner_has {g : List (List Int)} {k : Nat} {f : Nat → Int} {who i : Nat} (hb : who.testBit i = true) (h0 : 0 ≤ gain g i k) : ∀ n, i < n → f (who - 2 ^ i) + gain g i k ≤ inner g k f who n
  | n + 1, hi => by
    unfold inner
    by_cases h : i = n
    · subst h
      rw [if_pos ⟨hb, h0⟩]
      exact max'_ge2 _ _
    · have ih := inner_has (f := f) hb h0 n (by omega)
      split
      · exact Int.le_trans ih (max'_ge1 _ _)
      · exact ih
def bits (u : Nat → Int) (who : Nat) : Nat → Int := fun i => if who.testBit i = true then u i else 0
theorem bits_sub {u : Nat → Int} {who i m : Nat} (hb : who.testBit i = true) (hi : i < m) : sm (bits u (who - 2 ^ i)) m + u i = sm (bits u who) m := by
  have := sm_out (bits u who) hi
  rw [← this]
  have e1 : bits u who i = u i := by simp [bits, hb]
  rw [e1]
  have e2 : sm (bits u (who - 2 ^ i)) m = sm (fun j => if j = i then 0 else bits u who j) m := sm_congr m fun j _ => by
    unfold bits
    rw [bit_sub hb]
    by_cases hj : j = i
    · subst hj; simp
    · have : ¬ i = j := fun e => hj e.symm
      simp [hj, this]
  rw [e2]
theorem inner_le {g : List (List Int)} {k : Nat} {f : Nat → Int} {who m : Nat} {u : Nat → Int} {P q : Int} (hf : ∀ x, f x ≤ sm (bits u x) m + P) (hq : 0 ≤ q) (hc : ∀ i, i < m → gain g i k ≤ u i + q) :
    ∀ n, n ≤ m → inner g k f who n ≤ sm (bits u who) m + P + q
  | 0, _ => by have := hf who; unfold inner; omega
  | n + 1, hn => by
    have ih := inner_le (who := who) hf hq hc n (by omega)
    unfold inner
    split
    · rename_i h
      refine max'_le' ih ?_
      have h1 := hf (who - 2 ^ n)
      have h2 := bits_sub (u := u) (m := m) h.1 (by omega)
      have h3 := hc n (by omega)
      omega
    · exact ih
theorem best_upper {g : List (List Int)} {ks : List Nat} {u p : Nat → Int} (hd : Dual (fun i j => gain g i (ks.getD j 0)) g.length ks.length u p) : ∀ j, j ≤ ks.length → ∀ who, bestH g (ks.take j) zeroF who ≤ sm (bits u who) g.length + sm p j
  | 0, _, who => by
    have : 0 ≤ sm (bits u who) g.length := sm_nonneg _ fun i hi => by unfold bits; have := hd.u0 i hi; split <;> omega
    simp only [List.take_zero, bestH, zeroF, sm]; omega
  | j + 1, hj, who => by
    have ih := best_upper hd j (by omega)
    rw [take_snocN ks j (by omega), bestH_snoc]
    unfold stepH
    have hp := hd.p0 j (by omega)
    split
    · have := inner_le (who := who) (P := sm p j) (q := p j) ih hp (fun i hi => hd.cov i j hi (by omega)) g.length (Nat.le_refl _)
      simp only [sm]; omega
    · have := ih who
      simp only [sm]; omega
theorem best_lower {g : List (List Int)} {ks : List Nat} {τ : Nat → Nat} (hi : Inj τ ks.length) : ∀ j, j ≤ ks.length → ∃ who, who < 2 ^ g.length ∧ (∀ i, who.testBit i = true → ∃ j', j' < j ∧ τ j' = i) ∧ sm (wt (fun i j => gain g i (ks.getD j 0)) g.length τ) j ≤ bestH g (ks.take j) zeroF who
  | 0, _ => ⟨0, Nat.two_pow_pos _, fun i h => by simp at h, Int.le_refl _⟩
  | j + 1, hj => by
    obtain ⟨who, h1, h2, h3⟩ := best_lower hi j (by omega)
    rw [take_snocN ks j (by omega)]
    simp only [bestH_snoc, sm]
    by_cases hc : τ j < g.length ∧ 0 ≤ gain g (τ j) (ks.getD j 0)
    · have hbit : who.testBit (τ j) = false := by
        cases hb : who.testBit (τ j) with
        | false => rfl
        | true =>
          obtain ⟨j', hj', e⟩ := h2 _ hb
          have := hi j' j (by omega) (by omega) e
          omega
      have hlt : (who ||| 2 ^ τ j) < 2 ^ g.length := Nat.or_lt_two_pow h1 (Nat.pow_lt_pow_right (by omega) hc.1)
      refine ⟨who ||| 2 ^ τ j, hlt, fun i hb => ?_, ?_⟩
      · rw [Nat.testBit_or, Nat.testBit_two_pow] at hb
        by_cases e : τ j = i
        · exact ⟨j, by omega, e⟩
        · simp [e] at hb
          obtain ⟨j', hj', e'⟩ := h2 i hb
          exact ⟨j', by omega, e'⟩
      · have hb : (who ||| 2 ^ τ j).testBit (τ j) = true := by rw [Nat.testBit_or, Nat.testBit_two_pow_self]; simp
        have h4 := inner_has (f := bestH g (ks.take j) zeroF) hb hc.2 g.length hc.1
        rw [or_sub hbit] at h4
        unfold stepH
        rw [if_pos hlt]
        have e : wt (fun i j => gain g i (ks.getD j 0)) g.length τ j = gain g (τ j) (ks.getD j 0) := by unfold wt; rw [if_pos hc.1, if_pos hc.2]
        rw [e]; omega
    · refine ⟨who, h1, fun i hb => ?_, ?_⟩
      · obtain ⟨j', hj', e'⟩ := h2 i hb
        exact ⟨j', by omega, e'⟩
      · unfold stepH
        rw [if_pos h1]
        have h4 := inner_ge g (ks.getD j 0) (bestH g (ks.take j) zeroF) who g.length
        have e : wt (fun i j => gain g i (ks.getD j 0)) g.length τ j = 0 := by
          unfold wt
          by_cases h5 : τ j < g.length
          · rw [if_pos h5, if_neg (fun h6 => hc ⟨h5, h6⟩)]
          · rw [if_neg h5]
        rw [e]; omega
theorem maxL_ge : ∀ (l : List Int) (m : Int), m ≤ maxL m l ∧ ∀ x ∈ l, x ≤ maxL m l
  | [], m => ⟨Int.le_refl _, fun x h => by cases h⟩
  | y :: l, m => by
    have h := maxL_ge l (if m < y then y else m)
    have h1 : m ≤ (if m < y then y else m) ∧ y ≤ (if m < y then y else m) := by split <;> omega
    refine ⟨Int.le_trans h1.1 h.1, fun x hx => ?_⟩
    rcases List.mem_cons.1 hx with rfl | hx
    · exact Int.le_trans h1.2 h.1
    · exact h.2 x hx
theorem maxL_le {c : Int} : ∀ (l : List Int) (m : Int), m ≤ c → (∀ x ∈ l, x ≤ c) → maxL m l ≤ c
  | [], m, h, _ => h
  | y :: l, m, h, hl => maxL_le l _ (by have := hl y (by simp); split <;> omega) (fun x hx => hl x (by simp [hx]))
theorem bestF_opt {g : List (List Int)} (hm : g.length ≤ 8) (ks : List Nat) : Opt (fun i j => gain g i (ks.getD j 0)) g.length ks.length (bestF g ks) := by
  refine opt_of_bounds (fun τ hi => ?_) (fun u p hd => ?_)
  · obtain ⟨who, h1, _, h3⟩ := best_lower (g := g) hi ks.length (Nat.le_refl _)
    rw [List.take_length] at h3
    refine Int.le_trans h3 ((maxL_ge _ _).2 _ (List.mem_map.2 ⟨who, List.mem_range.2 (Nat.lt_of_lt_of_le h1 (pow_le_256 hm)), rfl⟩))
  · refine maxL_le _ _ (Int.add_nonneg (sm_nonneg _ hd.u0) (sm_nonneg _ hd.p0)) (fun x hx => ?_)
    obtain ⟨who, _, rfl⟩ := List.mem_map.1 hx
    have h1 := best_upper hd ks.length (Nat.le_refl _) who
    rw [List.take_length] at h1
    have h2 : sm (bits u who) g.length ≤ sm u g.length := sm_le _ fun i hi => by unfold bits; have := hd.u0 i hi; split <;> omega
    omega
end Go.Proofs.Ytifbgpkjbciblaa.Sal
end
section
/- salesroomlaw10: may, without, alive. -/
set_option maxRecDepth 100000
namespace Go.Proofs.Ytifbgpkjbciblaa.Sal
open Go.RowKit
attribute [local irreducible] Go.Code.wpIn Go.wpListIn Ct Ints Rows Sl At Rw WJ
set_option linter.all false

def inr (x : Int) : Bool := decide (-1000000 ≤ x) && decide (x ≤ 1000000)
def goodL (n : Int) (l : List Int) : Bool := decide ((l.length : Int) = n) && l.all inr
theorem not_badN (x : Int) : (!badN x) = inr x := by
  unfold badN inr
  by_cases h1 : x < -1000000 <;> by_cases h2 : 1000000 < x <;> simp [h1, h2] <;> omega
theorem not_badL (n : Int) (l : List Int) : (!badL n l) = goodL n l := by
  unfold badL goodL
  rw [Bool.not_or, List.not_any_eq_all_not]
  congr 1
  · by_cases h : (l.length : Int) = n <;> simp [h]
  · congr 1
    funext x
    exact not_badN x
/-- The first j numbers of a list are -1. -/
def low (l : List Int) (j : Nat) : List Int := (List.range l.length).map (fun k => if k < j then -1 else l.getD k 0)
def without (g : List (List Int)) (i : Nat) : List (List Int) := g.set i (low (g.getD i []) (g.getD i []).length)
end Go.Proofs.Ytifbgpkjbciblaa.Sal
end
section
/- salesroomlaw10.alive. -/
set_option maxRecDepth 100000
namespace Go.Proofs.Ytifbgpkjbciblaa.Sal
open Go.RowKit
attribute [local irreducible] Go.Code.wpIn Go.wpListIn Ct Ints Rows Sl At Rw WJ
set_option linter.all false

abbrev gA : List (List Int) := [[5, 2], [4, 0]]
abbrev gB : List (List Int) := [[-1]]
end Go.Proofs.Ytifbgpkjbciblaa.Sal
end
section
/- The walk of salesroomlaw10.WeightsProved. -/
set_option maxRecDepth 100000
namespace Go.Proofs.Ytifbgpkjbciblaa.Sal
open Go.RowKit
attribute [local irreducible] Go.Code.wpIn Go.wpListIn Ct Ints Rows Sl At Rw WJ
set_option linter.all false

theorem max'_le {a b : Int} : a ≤ max' a b ∧ b ≤ max' a b := by unfold max'; split <;> omega
theorem uu_nonneg (g : List (List Int)) (n i : Nat) : ∀ k, 0 ≤ uu g n i k
  | 0 => Int.le_refl _
  | k + 1 => Int.le_trans (uu_nonneg g n i k) max'_le.1
theorem uu_cover (g : List (List Int)) (n i : Nat) : ∀ (m k : Nat), k < m → gain g i k ≤ uu g n i m + pk g n k
  | 0, k, h => absurd h (Nat.not_lt_zero _)
  | m + 1, k, h => by
    have h1 : uu g n i m ≤ uu g n i (m + 1) ∧ gain g i m - pk g n m ≤ uu g n i (m + 1) := max'_le
    by_cases hk : k = m
    · subst hk; omega
    · have := uu_cover g n i m k (by omega); omega
end Go.Proofs.Ytifbgpkjbciblaa.Sal
end
section
/- Plain: the numbers of weights.Proved are the least that prove the best. -/
set_option maxRecDepth 100000
namespace Go.Proofs.Ytifbgpkjbciblaa.Sal
set_option linter.all false

theorem dual_congr {G G' : Nat → Nat → Int} {m L : Nat} {u u' p p' : Nat → Int} (hG : ∀ i j, i < m → j < L → G i j = G' i j) (hu : ∀ i, i < m → u i = u' i) (hp : ∀ j, j < L → p j = p' j) (h : Dual G m L u p) : Dual G' m L u' p' :=
  ⟨fun i hi => by rw [← hu i hi]; exact h.u0 i hi, fun j hj => by rw [← hp j hj]; exact h.p0 j hj, fun i j hi hj => by rw [← hG i j hi hj, ← hu i hi, ← hp j hj]; exact h.cov i j hi hj⟩
theorem val_congr {G G' : Nat → Nat → Int} {m L : Nat} {τ : Nat → Nat} (hG : ∀ i j, i < m → j < L → G i j = G' i j) : val G m L τ = val G' m L τ := sm_congr L fun j hj => by
  unfold wt
  by_cases h : τ j < m
  · simp only [h, if_true, hG _ _ h hj]
  · simp only [h, if_false]
theorem opt_congr {G G' : Nat → Nat → Int} {m L : Nat} {v : Int} (hG : ∀ i j, i < m → j < L → G i j = G' i j) (h : Opt G m L v) : Opt G' m L v :=
  opt_of_bounds (fun τ hi => by rw [← val_congr hG]; exact h.le τ hi) (fun u p hd => h.ge u p (dual_congr (fun i j hi hj => (hG i j hi hj).symm) (fun _ _ => rfl) (fun _ _ => rfl) hd))
/-- One more of column k, as the last. -/
def addc (G : Nat → Nat → Int) (n k : Nat) : Nat → Nat → Int := fun i j => if j < n then G i j else G i k
theorem price_ge {G : Nat → Nat → Int} {m n k : Nat} {V W : Int} {u p : Nat → Int} (hk : k < n) (hW : Opt (addc G n k) m (n + 1) W) (hd : Dual G m n u p) (hs : sm u m + sm p n = V) : W - V ≤ p k := by
  have d : Dual (addc G n k) m (n + 1) u (fun j => if j < n then p j else p k) := by
    refine ⟨hd.u0, fun j _ => ?_, fun i j hi _ => ?_⟩
    · by_cases h : j < n
      · simp only [h, if_true]; exact hd.p0 j h
      · simp only [h, if_false]; exact hd.p0 k hk
    · unfold addc
      by_cases h : j < n
      · simp only [h, if_true]; exact hd.cov i j hi h
      · simp only [h, if_false]; exact hd.cov i k hi hk
  have := hW.ge _ _ d
  have e : sm (fun j => if j < n then p j else p k) (n + 1) = sm p n + p k := by
    simp only [sm]
    rw [sm_congr (g := p) n (fun j hj => by simp [hj])]
    simp
  omega
theorem sm_repl (p : Nat → Int) {k n : Nat} (hk : k < n) (c : Int) : sm (fun j => if j = k then c else p j) n = sm p n - p k + c := by
  have h1 := sm_out p hk
  have h2 := sm_out (fun j => if j = k then c else p j) hk
  have e : sm (fun j => if j = k then 0 else (fun j => if j = k then c else p j) j) n = sm (fun j => if j = k then 0 else p j) n := sm_congr n fun j _ => by
    by_cases h : j = k <;> simp [h]
  rw [e] at h2
  simp only [if_true] at h2
  omega
theorem price_has {G : Nat → Nat → Int} {m n k : Nat} {V W : Int} (hk : k < n) (hV : Opt G m n V) (hW : Opt (addc G n k) m (n + 1) W) : ∃ u p, Dual G m n u p ∧ sm u m + sm p n = V ∧ p k = W - V := by
  obtain ⟨t, ht⟩ : ∃ t, t = W - V := ⟨_, rfl⟩
  have ht0 : 0 ≤ t := by
    obtain ⟨τ, hi, hv⟩ := hV.has
    -- an unused row for the last column
    obtain ⟨x, hx⟩ : ∃ x, ∀ j, j < n → τ j < x ∧ m ≤ x := by
      have : ∀ n', ∃ x, m ≤ x ∧ ∀ j, j < n' → τ j < x := by
        intro n'
        induction n' with
        | zero => exact ⟨m, Nat.le_refl _, fun j h => absurd h (Nat.not_lt_zero _)⟩
        | succ n' ih =>
          obtain ⟨x, h1, h2⟩ := ih
          refine ⟨x + τ n' + 1, by omega, fun j hj => ?_⟩
          by_cases e : j = n'
          · subst e; omega
          · have := h2 j (by omega); omega
      obtain ⟨x, h1, h2⟩ := this n
      exact ⟨x, fun j hj => ⟨h2 j hj, h1⟩⟩
    have hi2 : Inj (fun j => if j < n then τ j else x) (n + 1) := by
      intro a b ha hb e
      by_cases h1 : a < n <;> by_cases h2 : b < n <;> simp only [h1, h2, if_true, if_false] at e
      · exact hi a b h1 h2 e
      · have := (hx a h1).1; omega
      · have := (hx b h2).1; omega
      · omega
    have := hW.le _ hi2
    have e : val (addc G n k) m (n + 1) (fun j => if j < n then τ j else x) = V := by
      unfold val
      simp only [sm]
      have e1 : wt (addc G n k) m (fun j => if j < n then τ j else x) n = 0 := by
        unfold wt
        have : ¬ x < m := by have := (hx k hk).2; omega
        simp [this]
      have e2 : sm (wt (addc G n k) m (fun j => if j < n then τ j else x)) n = V := by
        rw [← hv]
        exact sm_congr n fun j hj => by unfold wt addc; simp [hj]
      omega
    omega
  let G2 : Nat → Nat → Int := fun i j => if i < m then addc G n k i j else (if j = n then t else -1)
  have g2a : ∀ i j, i < m → G2 i j = addc G n k i j := fun i j h => if_pos h
  have g2b : ∀ j, j ≠ n → G2 m j = -1 := fun j h => by show (if m < m then _ else _) = _; simp [h]
  have g2c : G2 m n = t := by show (if m < m then _ else _) = _; simp
  obtain ⟨V2, h2⟩ := opt_ex G2 (m + 1) (n + 1)
  have hV2 : V2 ≤ W := by
    obtain ⟨τ, hi, hv⟩ := h2.has
    by_cases hd : τ n = m
    · have e1 : wt G2 (m + 1) τ n = t := by
        unfold wt
        rw [hd, g2c, if_pos (by omega), if_pos ht0]
      have e2 : sm (wt G2 (m + 1) τ) n = val G m n τ := sm_congr n fun j hj => by
        have hne : τ j ≠ m := fun e => by have := hi j n (by omega) (by omega) (by rw [e, hd]); omega
        unfold wt
        by_cases h : τ j < m
        · have h' : τ j < m + 1 := by omega
          have e : addc G n k (τ j) j = G (τ j) j := if_pos hj
          rw [if_pos h', if_pos h, g2a _ _ h, e]
        · have h' : ¬ τ j < m + 1 := by omega
          rw [if_neg h', if_neg h]
      have := hV.le τ (fun a b ha hb e => hi a b (by omega) (by omega) e)
      have e3 : val G2 (m + 1) (n + 1) τ = sm (wt G2 (m + 1) τ) n + wt G2 (m + 1) τ n := rfl
      omega
    · have := hW.le τ hi
      have e : val G2 (m + 1) (n + 1) τ = val (addc G n k) m (n + 1) τ := sm_congr (n + 1) fun j hj => by
        unfold wt
        by_cases h : τ j < m
        · have h' : τ j < m + 1 := by omega
          rw [if_pos h', if_pos h, g2a _ _ h]
        · by_cases h3 : τ j = m
          · have hjn : j ≠ n := fun e => hd (by rw [← e]; exact h3)
            rw [h3, g2b j hjn]
            simp
          · have h' : ¬ τ j < m + 1 := by omega
            rw [if_neg h', if_neg h]
      omega
  obtain ⟨u, p, hd, hs⟩ := h2.dual
  have d1 : Dual (addc G n k) m (n + 1) u p := ⟨fun i hi => hd.u0 i (by omega), hd.p0, fun i j hi hj => by rw [← g2a i j hi]; exact hd.cov i j (by omega) hj⟩
  have s1 := hW.ge u p d1
  have es : sm u (m + 1) = sm u m + u m := rfl
  have ep : sm p (n + 1) = sm p n + p n := rfl
  have um := hd.u0 m (by omega)
  have c1 := hd.cov m n (by omega) (by omega)
  rw [g2c] at c1
  have p'_le : (if p k ≤ p n then p k else p n) ≤ p k ∧ (if p k ≤ p n then p k else p n) ≤ p n ∧ 0 ≤ (if p k ≤ p n then p k else p n) := by
    have := hd.p0 k (by omega)
    have := hd.p0 n (by omega)
    split <;> omega
  obtain ⟨c, hc⟩ : ∃ c, c = (if p k ≤ p n then p k else p n) := ⟨_, rfl⟩
  have hcor : c = p k ∨ c = p n := by rw [hc]; split <;> simp
  rw [← hc] at p'_le
  have d2 : Dual G m n u (fun j => if j = k then c else p j) := by
    refine ⟨fun i hi => hd.u0 i (by omega), fun j hj => ?_, fun i j hi hj => ?_⟩
    · by_cases h : j = k
      · rw [if_pos h]; exact p'_le.2.2
      · rw [if_neg h]; exact hd.p0 j (by omega)
    · have a1 := d1.cov i j hi (by omega)
      have e1 : addc G n k i j = G i j := if_pos hj
      rw [e1] at a1
      by_cases h : j = k
      · rw [if_pos h]
        have a2 := d1.cov i n hi (by omega)
        have e2 : addc G n k i n = G i k := if_neg (Nat.lt_irrefl _)
        rw [e2] at a2
        rw [h] at a1 ⊢
        rcases hcor with e | e <;> rw [e]
        · exact a1
        · exact a2
      · rw [if_neg h]; exact a1
  have s2 := hV.ge _ _ d2
  rw [sm_repl p hk c] at s2
  have s3 : sm u m + (sm p n - p k + c) = V := by omega
  have l1 := price_ge (V := V) hk hW d2 (by rw [sm_repl p hk c]; exact s3)
  simp only [if_true] at l1
  exact ⟨u, _, d2, by rw [sm_repl p hk c]; exact s3, by rw [if_pos rfl]; omega⟩
/-- The lower of two that prove the best proves it. -/
theorem meet {G : Nat → Nat → Int} {m n : Nat} {V : Int} {u p u' p' : Nat → Int} (hV : Opt G m n V) (h : Dual G m n u p) (hs : sm u m + sm p n = V) (h' : Dual G m n u' p') (hs' : sm u' m + sm p' n = V) :
    Dual G m n (fun i => if u i ≤ u' i then u' i else u i) (fun j => if p j ≤ p' j then p j else p' j) ∧ sm (fun i => if u i ≤ u' i then u' i else u i) m + sm (fun j => if p j ≤ p' j then p j else p' j) n = V := by
  have d1 : Dual G m n (fun i => if u i ≤ u' i then u' i else u i) (fun j => if p j ≤ p' j then p j else p' j) := by
    refine ⟨fun i hi => ?_, fun j hj => ?_, fun i j hi hj => ?_⟩
    · have := h.u0 i hi; have := h'.u0 i hi; split <;> omega
    · have := h.p0 j hj; have := h'.p0 j hj; split <;> omega
    · have := h.cov i j hi hj; have := h'.cov i j hi hj; split <;> split <;> omega
  have d2 : Dual G m n (fun i => if u i ≤ u' i then u i else u' i) (fun j => if p j ≤ p' j then p' j else p j) := by
    refine ⟨fun i hi => ?_, fun j hj => ?_, fun i j hi hj => ?_⟩
    · have := h.u0 i hi; have := h'.u0 i hi; split <;> omega
    · have := h.p0 j hj; have := h'.p0 j hj; split <;> omega
    · have := h.cov i j hi hj; have := h'.cov i j hi hj; split <;> split <;> omega
  refine ⟨d1, ?_⟩
  have a := hV.ge _ _ d1
  have b := hV.ge _ _ d2
  have e1 : sm (fun i => (if u i ≤ u' i then u' i else u i) + (if u i ≤ u' i then u i else u' i)) m = sm (fun i => u i + u' i) m := sm_congr m fun i _ => by split <;> omega
  have e2 : sm (fun j => (if p j ≤ p' j then p j else p' j) + (if p j ≤ p' j then p' j else p j)) n = sm (fun j => p j + p' j) n := sm_congr n fun j _ => by split <;> omega
  rw [sm_add, sm_add u u'] at e1
  rw [sm_add, sm_add p p'] at e2
  omega
theorem prices {G : Nat → Nat → Int} {m n : Nat} {V : Int} (W : Nat → Int) (hV : Opt G m n V) (hW : ∀ k, k < n → Opt (addc G n k) m (n + 1) (W k)) : ∃ u, Dual G m n u (fun k => W k - V) ∧ sm u m + sm (fun k => W k - V) n = V := by
  have key : ∀ r, r ≤ n → ∃ u p, Dual G m n u p ∧ sm u m + sm p n = V ∧ ∀ k, k < r → p k ≤ W k - V := by
    intro r
    induction r with
    | zero =>
      intro _
      obtain ⟨u, p, hd, hs⟩ := hV.dual
      exact ⟨u, p, hd, hs, fun k h => absurd h (Nat.not_lt_zero _)⟩
    | succ r ih =>
      intro hr
      obtain ⟨u, p, hd, hs, hk⟩ := ih (by omega)
      obtain ⟨u', p', hd', hs', hk'⟩ := price_has (by omega) hV (hW r (by omega))
      obtain ⟨d, s⟩ := meet hV hd hs hd' hs'
      refine ⟨_, _, d, s, fun k hkr => ?_⟩
      by_cases e : k = r
      · subst e; split <;> omega
      · have := hk k (by omega); split <;> omega
  obtain ⟨u, p, hd, hs, hk⟩ := key n (Nat.le_refl _)
  have e : ∀ k, k < n → p k = W k - V := fun k hkn => by
    have := hk k hkn
    have := price_ge hkn (hW k hkn) hd hs
    omega
  exact ⟨u, dual_congr (fun _ _ _ _ => rfl) (fun _ _ => rfl) e hd, by rw [← sm_congr n e]; exact hs⟩

/-! ### Of the program's numbers -/
theorem VV_opt {g : List (List Int)} (hm : g.length ≤ 8) (n : Nat) : Opt (gain g) g.length n (VV g n) := by
  have h := bestF_opt hm (List.range n)
  rw [List.length_range] at h
  exact opt_congr (fun i j _ hj => by simp [hj]) h
theorem WW_opt {g : List (List Int)} (hm : g.length ≤ 8) (n k : Nat) : Opt (addc (gain g) n k) g.length (n + 1) (bestF g (List.range n ++ [k])) := by
  have h := bestF_opt hm (List.range n ++ [k])
  rw [List.length_append, List.length_range, List.length_singleton] at h
  refine opt_congr (fun i j _ hj => ?_) h
  unfold addc
  by_cases hjn : j < n
  · rw [if_pos hjn, List.getD_eq_getElem?_getD, List.getElem?_append_left (by simpa using hjn)]; simp [hjn]
  · obtain rfl : j = n := by omega
    rw [if_neg hjn, List.getD_eq_getElem?_getD, List.getElem?_append_right (by simp)]; simp
theorem uu_least {g : List (List Int)} {n i : Nat} {c : Int} (h0 : 0 ≤ c) : ∀ m, (∀ k, k < m → gain g i k ≤ c + pk g n k) → uu g n i m ≤ c
  | 0, _ => h0
  | m + 1, h => by
    have ih := uu_least h0 m (fun k hk => h k (by omega))
    have := h m (by omega)
    show max' _ _ ≤ c
    exact max'_le' ih (by omega)
theorem proved_dual {g : List (List Int)} (hm : g.length ≤ 8) (n : Nat) : Dual (gain g) g.length n (fun i => uu g n i n) (pk g n) ∧ sm (fun i => uu g n i n) g.length + sm (pk g n) n = VV g n := by
  have hV := VV_opt hm n
  obtain ⟨u, hd, hs⟩ := prices (fun k => bestF g (List.range n ++ [k])) hV (fun k _ => WW_opt hm n k)
  have d : Dual (gain g) g.length n (fun i => uu g n i n) (pk g n) := ⟨fun i _ => uu_nonneg g n i n, hd.p0, fun i j _ hj => uu_cover g n i n j hj⟩
  refine ⟨d, ?_⟩
  have h1 := hV.ge _ _ d
  have h2 : sm (fun i => uu g n i n) g.length ≤ sm u g.length := sm_le _ fun i hi => uu_least (hd.u0 i hi) n fun k hk => hd.cov i k hi hk
  have h3 : sm (fun k => bestF g (List.range n ++ [k]) - VV g n) n = sm (pk g n) n := rfl
  omega
end Go.Proofs.Ytifbgpkjbciblaa.Sal
end
section
/- Plain: what a bidder loses, what an item is worth at most, fewer bidders. -/
set_option maxRecDepth 100000
namespace Go.Proofs.Ytifbgpkjbciblaa.Sal
set_option linter.all false

theorem check_of {g : List (List Int)} {n : Nat} (h1 : 1 ≤ n) (h8 : n ≤ 8) (hG : Good g n) : checkG g (n : Int) = true := by
  have hf := hG.few
  unfold checkG
  rw [List.not_any_eq_all_not]
  have hall : g.all (fun l => !badL (n : Int) l) = true := by
    rw [List.all_eq_true]
    intro l hl
    obtain ⟨i, hi, rfl⟩ := List.getElem_of_mem hl
    rw [not_badL]
    unfold goodL
    have hli := hG.len i hi
    have e : g.getD i [] = g[i] := by simp [hi]
    rw [e] at hli
    simp only [Bool.and_eq_true, decide_eq_true_eq, List.all_eq_true]
    refine ⟨by omega, fun x hx => ?_⟩
    obtain ⟨k, hk, rfl⟩ := List.getElem_of_mem hx
    have hb := hG.bnd i k
    have e2 : gain g i k = g[i][k] := by unfold gain; rw [e]; simp [hk]
    rw [e2] at hb
    unfold inr
    simp only [Bool.and_eq_true, decide_eq_true_eq]
    exact hb
  rw [hall]
  simp only [Bool.and_true, Bool.and_eq_true, decide_eq_true_eq]
  omega
end Go.Proofs.Ytifbgpkjbciblaa.Sal
end
section
/- Plain: idle items and bidders, scaling, turning, one more bidder, one gain more. -/
set_option maxRecDepth 100000
namespace Go.Proofs.Ytifbgpkjbciblaa.Sal
set_option linter.all false

theorem pk_least {g : List (List Int)} {n k : Nat} {u p : Nat → Int} (hm : g.length ≤ 8) (hk : k < n) (hd : Dual (gain g) g.length n u p) (hs : sm u g.length + sm p n = VV g n) : pk g n k ≤ p k := by
  have := price_ge hk (WW_opt hm n k) hd hs
  unfold pk; omega
/-! ### Turned -/
structure Turn (ρ ρ' : Nat → Nat) (m : Nat) : Prop where
  lt : ∀ i, i < m → ρ i < m
  lt' : ∀ i, i < m → ρ' i < m
  back : ∀ i, i < m → ρ (ρ' i) = i
  forth : ∀ i, i < m → ρ' (ρ i) = i
theorem Turn.inj {ρ ρ' : Nat → Nat} {m : Nat} (h : Turn ρ ρ' m) : Inj ρ m := fun i j hi hj e => by rw [← h.forth i hi, ← h.forth j hj, e]
theorem Turn.symm {ρ ρ' : Nat → Nat} {m : Nat} (h : Turn ρ ρ' m) : Turn ρ' ρ m := ⟨h.lt', h.lt, h.forth, h.back⟩
end Go.Proofs.Ytifbgpkjbciblaa.Sal
end
section
/- Plain: what an item costs above its reserve is what one more of it would gain. -/
set_option maxRecDepth 100000
namespace Go.Proofs.Ytifbgpkjbciblaa.Sal
set_option linter.all false
/-- What a bidder has by the best item at prices. -/
def uO (G : Nat → Nat → Int) (p : Nat → Int) (n i : Nat) : Int := gmx (fun k => G i k - p k) n
theorem gmx_le' {f : Nat → Int} {c : Int} (h0 : 0 ≤ c) : ∀ n, (∀ k, k < n → f k ≤ c) → gmx f n ≤ c
  | 0, _ => h0
  | n + 1, h => by
    rw [gmx_succ]
    have := gmx_le' h0 n fun k hk => h k (by omega)
    have := h n (by omega)
    split <;> omega
theorem gmx_congr' {f g : Nat → Int} : ∀ n, (∀ k, k < n → f k = g k) → gmx f n = gmx g n
  | 0, _ => rfl
  | n + 1, h => by rw [gmx_succ, gmx_succ, gmx_congr' n fun k hk => h k (by omega), h n (by omega)]
theorem uO_all {G : Nat → Nat → Int} {p : Nat → Int} {n i k : Nat} (hk : k < n) : G i k - p k ≤ uO G p n i := gmx_all (fun k => G i k - p k) n k hk
theorem uO_ge (G : Nat → Nat → Int) (p : Nat → Int) (n i : Nat) : 0 ≤ uO G p n i := gmx_ge _ _
theorem uO_dual {G : Nat → Nat → Int} {m n : Nat} {p : Nat → Int} (hp : ∀ j, j < n → 0 ≤ p j) : Dual G m n (uO G p n) p :=
  ⟨fun i _ => gmx_ge _ _, hp, fun i j _ hj => by have := uO_all (G := G) (p := p) (i := i) hj; omega⟩
theorem uO_le {G : Nat → Nat → Int} {m n : Nat} {u p : Nat → Int} (hd : Dual G m n u p) {i : Nat} (hi : i < m) : uO G p n i ≤ u i :=
  gmx_le' (hd.u0 i hi) n fun k hk => by have := hd.cov i k hi hk; omega
/-- Does one that must have something want nothing but these? -/
def nd (G : Nat → Nat → Int) (p : Nat → Int) (n : Nat) (s : Nat → Bool) (i : Nat) : Bool := decide (0 < uO G p n i) && (List.range n).all fun k => !decide (G i k - p k = uO G p n i) || s k
theorem nd_iff {G : Nat → Nat → Int} {p : Nat → Int} {n : Nat} {s : Nat → Bool} {i : Nat} : nd G p n s i = true ↔ 0 < uO G p n i ∧ ∀ k, k < n → G i k - p k = uO G p n i → s k = true := by
  unfold nd
  rw [Bool.and_eq_true, decide_eq_true_eq, List.all_eq_true]
  refine and_congr_right fun _ => ⟨fun h k hk e => ?_, fun h k hk => ?_⟩
  · have := h k (List.mem_range.2 hk)
    rw [decide_eq_true e] at this
    simpa using this
  · by_cases e : G i k - p k = uO G p n i
    · rw [h k (List.mem_range.1 hk) e]; simp
    · simp [e]
def upS (p : Nat → Int) (s : Nat → Bool) : Nat → Int := fun k => p k + if s k = true then 1 else 0
def dnS (p : Nat → Int) (s : Nat → Bool) : Nat → Int := fun k => p k - if s k = true then 1 else 0
theorem sm_upS (p : Nat → Int) (s : Nat → Bool) (n : Nat) : sm (upS p s) n = sm p n + (cnt s n : Int) := by
  have h1 := sm_add p (fun k => if s k = true then 1 else 0) n
  rw [sm_cnt] at h1
  exact h1
theorem sm_dnS (p : Nat → Int) (s : Nat → Bool) (n : Nat) : sm (dnS p s) n = sm p n - (cnt s n : Int) := by
  have h1 := sm_sub p (fun k => if s k = true then 1 else 0) n
  rw [sm_cnt] at h1
  exact h1
theorem uO_up (G : Nat → Nat → Int) (p : Nat → Int) (n : Nat) (s : Nat → Bool) (i : Nat) : uO G (upS p s) n i ≤ uO G p n i - if nd G p n s i = true then 1 else 0 := by
  have h0 := uO_ge G p n i
  by_cases h : nd G p n s i = true
  · rw [if_pos h]
    have h1 := nd_iff.1 h
    refine gmx_le' (by omega) n fun k hk => ?_
    have h2 := uO_all (G := G) (p := p) (i := i) hk
    by_cases hs : s k = true
    · simp only [upS, if_pos hs]; omega
    · have h3 : G i k - p k ≠ uO G p n i := fun e => hs (h1.2 k hk e)
      simp only [upS, if_neg hs]; omega
  · rw [if_neg h]
    refine gmx_le' (by omega) n fun k hk => ?_
    have h2 := uO_all (G := G) (p := p) (i := i) hk
    by_cases hs : s k = true
    · simp only [upS, if_pos hs]; omega
    · simp only [upS, if_neg hs]; omega
theorem no_need {G : Nat → Nat → Int} {m n : Nat} {V : Int} {p : Nat → Int} (hp : ∀ j, j < n → 0 ≤ p j) (hV : Opt G m n V) (hs : sm (uO G p n) m + sm p n = V) (s : Nat → Bool) : cnt (nd G p n s) m ≤ cnt s n := by
  have h1 := hV.ge _ _ (uO_dual (G := G) (m := m) (p := upS p s) fun j hj => by
    have := hp j hj
    unfold upS; split <;> omega)
  rw [sm_upS] at h1
  have h2 : sm (uO G (upS p s) n) m ≤ sm (fun i => uO G p n i - if nd G p n s i = true then 1 else 0) m := sm_le m fun i _ => uO_up G p n s i
  rw [sm_sub, sm_cnt] at h2
  have h3 : sm (fun i => uO G p n i) m = sm (uO G p n) m := rfl
  omega
/-- Does one as well have one of these as anything else, or nothing? -/
def tch (G : Nat → Nat → Int) (p : Nat → Int) (n : Nat) (s : Nat → Bool) (i : Nat) : Bool := (List.range n).any fun k => s k && decide (G i k - p k = uO G p n i)
theorem uO_dn (G : Nat → Nat → Int) (p : Nat → Int) (n : Nat) (s : Nat → Bool) (i : Nat) : uO G (dnS p s) n i ≤ uO G p n i + if tch G p n s i = true then 1 else 0 := by
  have h0 := uO_ge G p n i
  refine gmx_le' (by split <;> omega) n fun k hk => ?_
  have h2 := uO_all (G := G) (p := p) (i := i) hk
  by_cases hs : s k = true
  · simp only [dnS, if_pos hs]
    by_cases e : G i k - p k = uO G p n i
    · have : tch G p n s i = true := List.any_eq_true.2 ⟨k, List.mem_range.2 hk, by rw [hs, decide_eq_true e]; rfl⟩
      rw [if_pos this]; omega
    · split <;> omega
  · simp only [dnS, if_neg hs]
    split <;> omega
/-- The least prices at which all that must have can are the least of those that prove the most. -/
theorem least_is {G : Nat → Nat → Int} {m n : Nat} {V : Int} {P D : Nat → Int} (hV : Opt G m n V) (hs : sm (uO G P n) m + sm P n = V) (hmin : ∀ u p, Dual G m n u p → sm u m + sm p n = V → ∀ k, k < n → P k ≤ p k)
    (h0 : ∀ k, k < n → 0 ≤ D k) (hle : ∀ k, k < n → D k ≤ P k) (hc : ∀ s, cnt (nd G D n s) m ≤ cnt s n) : ∀ k, k < n → D k = P k := by
  have hall := gmx_all (fun k => P k - D k) n
  rcases gmx_is (fun k => P k - D k) n with hz | ⟨k1, hk1, he1⟩
  · intro k hk
    have h1 := hall k hk
    rw [hz] at h1
    have h2 := hle k hk
    omega
  · rcases Int.lt_or_eq_of_le (gmx_ge (fun k => P k - D k) n) with hpos | hz
    · exfalso
      obtain ⟨δ, hδ⟩ : ∃ δ, δ = gmx (fun k => P k - D k) n := ⟨_, rfl⟩
      rw [← hδ] at hall he1 hpos
      have he1' : P k1 - D k1 = δ := he1
      obtain ⟨s, hsd⟩ : ∃ s : Nat → Bool, s = fun k => decide (P k - D k = δ) := ⟨_, rfl⟩
      have hs1 : ∀ k, s k = true ↔ P k - D k = δ := fun k => by rw [hsd]; simp
      have hdual := uO_dual (G := G) (m := m) (n := n) (p := dnS P s) fun j hj => by
        have := h0 j hj
        have := hle j hj
        unfold dnS
        by_cases e : s j = true
        · rw [if_pos e]; have := (hs1 j).1 e; omega
        · rw [if_neg e]; omega
      have hcnt : cnt (tch G P n s) m ≤ cnt s n := by
        refine Nat.le_trans (cnt_le m fun i hi ht => ?_) (hc s)
        obtain ⟨k0, hk0, ht0⟩ := List.any_eq_true.1 ht
        rw [Bool.and_eq_true, decide_eq_true_eq] at ht0
        have hk0' := List.mem_range.1 hk0
        have h1 := (hs1 k0).1 ht0.1
        have h2 := uO_ge G P n i
        have h3 := uO_all (G := G) (p := D) (i := i) hk0'
        have h4 : uO G D n i ≤ uO G P n i + δ := gmx_le' (by omega) n fun k hk => by
          have h5 := uO_all (G := G) (p := P) (i := i) hk
          have h6 : P k - D k ≤ δ := hall k hk
          omega
        refine nd_iff.2 ⟨by omega, fun k hk e => (hs1 k).2 ?_⟩
        have h5 := uO_all (G := G) (p := P) (i := i) hk
        have h6 : P k - D k ≤ δ := hall k hk
        omega
      have h7 : sm (uO G (dnS P s) n) m ≤ sm (fun i => uO G P n i + if tch G P n s i = true then 1 else 0) m := sm_le m fun i _ => uO_dn G P n s i
      rw [sm_add, sm_cnt] at h7
      have h8 := sm_dnS P s n
      have h9 := hV.ge _ _ hdual
      have h10 : sm (fun i => uO G P n i) m = sm (uO G P n) m := rfl
      have h11 := hmin _ _ hdual (by omega) k1 hk1
      have h12 : s k1 = true := (hs1 k1).2 he1'
      unfold dnS at h11
      rw [if_pos h12] at h11
      omega
    · intro k hk
      have h1 := hall k hk
      rw [← hz] at h1
      have h2 := hle k hk
      omega
/-- What each gains by each item, above its reserve. -/
def gainsL (res : List Int) (bids : List (List Int)) : List (List Int) := bids.map fun b => (List.range res.length).map fun k => if b.length = 0 then -1 else b.getD k 0 - res.getD k 0
theorem gains_len (res : List Int) (bids : List (List Int)) : (gainsL res bids).length = bids.length := by simp [gainsL]
theorem gains_row (res : List Int) {bids : List (List Int)} {i : Nat} (hi : i < bids.length) : (gainsL res bids).getD i [] = (List.range res.length).map fun k => if lenB bids i = 0 then -1 else (bids.getD i []).getD k 0 - res.getD k 0 := by
  unfold lenB
  simp [gainsL, List.getD_eq_getElem?_getD, hi]
theorem gains_at {res : List Int} {bids : List (List Int)} {i k : Nat} (hi : i < bids.length) (hk : k < res.length) : gain (gainsL res bids) i k = if lenB bids i = 0 then -1 else (bids.getD i []).getD k 0 - res.getD k 0 := by
  unfold gain
  rw [gains_row res hi]
  simp [List.getD_eq_getElem?_getD, hk]
theorem dG_uO {res q : List Int} {bids : List (List Int)} {D : Nat → Int} (hL : LensB bids res.length) (h0 : ∀ k, k < res.length → 0 ≤ D k) (hq : ∀ k, k < res.length → q.getD k 0 = res.getD k 0 + D k) {i : Nat} (hi : i < bids.length) : dG bids q i = uO (gain (gainsL res bids)) D res.length i := by
  rw [dG_eq]
  rcases hL i hi with h | h
  · rw [h]
    refine Int.le_antisymm (uO_ge _ _ _ _) (gmx_le' (Int.le_refl _) _ fun k hk => ?_)
    rw [gains_at hi hk, if_pos h]
    have := h0 k hk
    omega
  · rw [h]
    refine gmx_congr' _ fun k hk => ?_
    rw [gains_at hi hk, if_neg (by omega)]
    unfold gD
    rw [hq k hk]; omega
theorem need_nd {res q : List Int} {bids : List (List Int)} {D : Nat → Int} (hL : LensB bids res.length) (h0 : ∀ k, k < res.length → 0 ≤ D k) (hq : ∀ k, k < res.length → q.getD k 0 = res.getD k 0 + D k) {i : Nat} (hi : i < bids.length) (l : List Int) :
    needB bids q res.length l i = nd (gain (gainsL res bids)) D res.length (fun k => l.contains (k : Int)) i := by
  have he := dG_uO hL h0 hq hi
  rw [Bool.eq_iff_iff, nd_iff]
  unfold needB
  rw [Bool.and_eq_true, must_iff, wantB_iff, he]
  refine and_congr_right fun hp => ?_
  have hlen : lenB bids i = res.length := by
    rcases hL i hi with h | h
    · exfalso
      rw [← he, dG_eq, h] at hp
      exact absurd hp (by show ¬ (0 < (0 : Int)); omega)
    · exact h
  have hR : ∀ k, k < res.length → (RD bids q i k = true ↔ gain (gainsL res bids) i k - D k = uO (gain (gainsL res bids)) D res.length i) := fun k hk => by
    unfold RD
    rw [must_iff.2 (he ▸ hp), decide_eq_true (show k < lenB bids i by omega), he, gains_at hi hk, if_neg (by omega)]
    unfold gD
    rw [hq k hk]
    simp only [Bool.true_and, decide_eq_true_eq]
    exact ⟨fun h => by omega, fun h => by omega⟩
  exact ⟨fun h k hk e => h k hk ((hR k hk).2 e), fun h k hk e => h k hk ((hR k hk).1 e)⟩
theorem more_end {res : List Int} {bids : List (List Int)} {L : List (List Int)} (hM : MkOK res bids) (hR : RunS res bids L) (hLg : ∀ i, i < L.length → Lg res (L.getD i [])) : ∀ k, k < res.length → (endL L).getD k 0 = res.getD k 0 + pk (gainsL res bids) res.length k := by
  have hL := hM.lens
  have hn8 := hM.n8
  have hm8 : (gainsL res bids).length ≤ 8 := by rw [gains_len]; exact hM.m8
  have hend := run_end hM hR hLg
  have hpr := proved_dual (g := gainsL res bids) hm8 res.length
  have hV := VV_opt (g := gainsL res bids) hm8 res.length
  rw [gains_len] at hpr hV
  have hp0 : ∀ j, j < res.length → 0 ≤ pk (gainsL res bids) res.length j := hpr.1.p0
  have hsum : sm (uO (gain (gainsL res bids)) (pk (gainsL res bids) res.length) res.length) bids.length + sm (pk (gainsL res bids) res.length) res.length = VV (gainsL res bids) res.length := by
    have h1 := hV.ge _ _ (uO_dual (G := gain (gainsL res bids)) (m := bids.length) hp0)
    have h2 : sm (uO (gain (gainsL res bids)) (pk (gainsL res bids) res.length) res.length) bids.length ≤ sm (fun i => uu (gainsL res bids) res.length i res.length) bids.length := sm_le _ fun i hi => uO_le hpr.1 hi
    have h3 := hpr.2
    omega
  obtain ⟨q, hq⟩ : ∃ q : List Int, q = (List.range res.length).map fun k => res.getD k 0 + pk (gainsL res bids) res.length k := ⟨_, rfl⟩
  have hqk : ∀ k, k < res.length → q.getD k 0 = res.getD k 0 + pk (gainsL res bids) res.length k := fun k hk => by rw [hq]; simp [List.getD_eq_getElem?_getD, hk]
  have hcq : compP bids q res.length := fun l hl => by
    have h1 := no_need hp0 hV hsum (fun k => l.contains (k : Int))
    rw [ris_cnt hl] at h1
    refine Nat.le_trans (Nat.le_of_eq (cnt_congr _ fun i hi => ?_)) h1
    exact need_nd hL hp0 hqk hi l
  have hto := run_le hM hR hLg hcq (fun k hk => by rw [hqk k hk]; have := hp0 k hk; omega)
  obtain ⟨D, hD⟩ : ∃ D : Nat → Int, D = fun k => (endL L).getD k 0 - res.getD k 0 := ⟨_, rfl⟩
  have hDk : ∀ k, k < res.length → (endL L).getD k 0 = res.getD k 0 + D k := fun k _ => by rw [hD]; dsimp only; omega
  have hD0 : ∀ k, k < res.length → 0 ≤ D k := fun k hk => by have := (hend.2.2 k hk).1; have := hDk k hk; omega
  have hpos := hR.pos
  have := least_is (D := D) hV hsum (fun u p hd hs k hk => by
      refine pk_least hm8 hk (u := u) (p := p) ?_ ?_
      · rw [gains_len]; exact hd
      · rw [gains_len]; exact hs) hD0 (fun k hk => by
      have h1 := hto (L.length - 1) (by omega) k hk
      have h2 : (L.getD (L.length - 1) []).getD k 0 = (endL L).getD k 0 := rfl
      rw [hqk k hk, h2, hDk k hk] at h1
      omega) (fun s => by
      have hr := ris_of hn8 s
      have h1 := hend.1 _ hr
      have hlc : ∀ k, k < res.length → (rowL res.length s).contains (k : Int) = s k := fun k hk => by
        rw [Bool.eq_iff_iff, rowL_has]
        constructor
        · rintro ⟨k', h1, h2, h3⟩
          obtain rfl : k' = k := by omega
          exact h2
        · exact fun h => ⟨k, hk, h, rfl⟩
      have h2 : (rowL res.length s).length = cnt s res.length := by rw [← ris_cnt hr]; exact cnt_congr _ hlc
      rw [h2] at h1
      refine Nat.le_trans (cnt_le _ fun i hi hn => ?_) h1
      rw [need_nd hL hD0 hDk hi]
      have h3 := nd_iff.1 hn
      exact nd_iff.2 ⟨h3.1, fun k hk e => by rw [hlc k hk]; exact h3.2 k hk e⟩)
  intro k hk
  rw [hDk k hk, this k hk]
/-- Gains of one more of an item. -/
theorem more_VV {g h : List (List Int)} {n k : Nat} (hm : g.length ≤ 8) (hl : h.length = g.length) (hk : k < n) (hh : ∀ i j, i < g.length → j < n + 1 → gain h i j = addc (gain g) n k i j) : VV h (n + 1) - VV g n = pk g n k := by
  have h1 := VV_opt (g := h) (by omega) (n + 1)
  have h2 := WW_opt hm n k
  rw [hl] at h1
  have h3 := opt_uniq (opt_congr (fun i j hi hj => hh i j hi hj) h1) h2
  unfold pk
  rw [h3]
end Go.Proofs.Ytifbgpkjbciblaa.Sal
end
section
/- Core21: a region some of whose operations may go in any order: each is shown once, whatever went ahead. -/
set_option maxRecDepth 100000
namespace Go.Proofs.Ytifbgpkjbciblaa.Sal
set_option linter.all false
open Go.RowKit
section any
variable {r : Option Nat} {P : Program} {ops : Array Oper} {Q : Exit → Act → World → Prop}
def cl (listed : Array Bool) : Nat → Nat
  | 0 => 0
  | n + 1 => cl listed n + if listed.getD n false = true then 1 else 0
section go
variable {N m : Nat} {dl : List Nat} {F : Nat → Nat → Nat → Value → World → Prop} {σ0 : Nat → Value} {ds : List Deferred} {w0 : World}
end go
end any
end Go.Proofs.Ytifbgpkjbciblaa.Sal
end
section
/- salesroomlaw09.alive. -/
set_option maxRecDepth 100000
namespace Go.Proofs.Ytifbgpkjbciblaa.Sal
open Go.RowKit
attribute [local irreducible] Go.Code.wpIn Go.wpListIn Ct Ints Rows Sl At Rw WJ
set_option linter.all false
theorem At.three {w : World} {b : Nat} {E : TypeId} {p q s : Int} (h : At w b E [.int .i64 p, .int .i64 q, .int .i64 s]) : Ints w (sv b 3 3) [p, q, s] := At.ints (l := [p, q, s]) (c := 3) h (by simp) (by simp)
end Go.Proofs.Ytifbgpkjbciblaa.Sal
end
section
/- salesroomlaw13.lives. -/
set_option maxRecDepth 100000
namespace Go.Proofs.Ytifbgpkjbciblaa.Sal
open Go.RowKit
def stepC (bids : List (List Int)) (prices : List Int) (n : Nat) : Option (List Int) := match fewTo (RD bids prices) n (rowL bids.length (mustB bids prices)) (n + 1) with
  | none => none
  | some set => some (raise prices set (farBy bids prices set n (rowL bids.length (mustB bids prices))))
theorem stepC_eq {bids : List (List Int)} {prices : List Int} {n : Nat} (hn : n ≤ 8) (hm8 : bids.length ≤ 8) : stepR bids prices n = stepC bids prices n := by
  have e : fewR (RD bids prices) bids.length n (rowL bids.length (mustB bids prices)) = fewTo (RD bids prices) n (rowL bids.length (mustB bids prices)) (n + 1) := fewR_eq hn (ris_of hm8 _)
  unfold stepR stepC setR
  cases h : fewTo (RD bids prices) n (rowL bids.length (mustB bids prices)) (n + 1) with
  | none => simp only [e, h]
  | some l => simp only [e, h]
theorem one_run : RunS [2] [[9], [5]] [[2], [5]] := by
  refine ⟨by simp, rfl, fun i hi => ?_, ?_, fun i hi => ?_⟩
  · have : i = 0 := by simp at hi; omega
    subst this
    rw [stepC_eq (by simp) (by simp)]; decide +kernel
  · rw [stepC_eq (by simp) (by simp)]; decide +kernel
  · match i, hi with
    | 0, _ => decide +kernel
    | 1, _ => decide +kernel
theorem two_run : RunS [0, 0] [[4, 4], [4, 4], [3, 0]] [[0, 0], [3, 3]] := by
  refine ⟨by simp, rfl, fun i hi => ?_, ?_, fun i hi => ?_⟩
  · have : i = 0 := by simp at hi; omega
    subst this
    rw [stepC_eq (by simp) (by simp)]; decide +kernel
  · rw [stepC_eq (by simp) (by simp)]; decide +kernel
  · match i, hi with
    | 0, _ => decide +kernel
    | 1, _ => decide +kernel
theorem one_s1 : stepR [[9], [5]] [2] 1 = some [5] := by rw [stepC_eq (by simp) (by simp)]; decide +kernel
theorem one_s2 : stepR [[9], [5]] [5] 1 = none := by rw [stepC_eq (by simp) (by simp)]; decide +kernel
theorem one_chk : chkM [2] [[9], [5]] [0, 1] = true := by decide +kernel
theorem two_chk : chkM [0, 0] [[4, 4], [4, 4], [3, 0]] [0, 1, 2] = true := by decide +kernel
theorem ret_cV {P : Program} {fn : Func} {w : World} {R : Value → World → Prop} {N : Nat} {σ : Nat → Value} {a : Nat} {ta B : TypeId} {b : Nat} {cs : List Value} {dd : TypeDesc} (hres : fn.results = #[.cell a ta]) (ha : ev N σ (.tmp a) = .pointer (some ⟨b, 0, none⟩))
    (hu : P.underlying ta = some dd) (hd : (match dd with | .struct _ | .array _ _ => true | _ => false) = true) (hsz : (P.info? ta).map (·.size) = some cs.length) (hA : At w b B cs) (hR : R (.agg cs.toArray) w) : Post P fn R .ret (mk N σ []) w := by
  have key : LeavesInM (FW none) 0 P fn (mk N σ []).tmps (RE R) [] .returning w := by
    refine leave_nil (v := .agg cs.toArray) ?_ hR
    have h1 : (mk N σ []).tmps.getD a undef = .pointer (some ⟨b, 0, none⟩) := getD_mk' ha
    simp only [Array.getD_eq_getD_getElem?] at h1
    simp [results, hres, h1, asAddr, run_loadVar_row (P := P) w b B ta cs.toArray (0, 0) dd hA hu hd (by simpa using hsz)]
  exact key
attribute [local irreducible] Go.Code.wpIn Go.wpListIn Ct Ints Rows Sl At Rw WJ
set_option linter.all false
theorem ok_one : CallOK Try.prog 28 := callOK Try.func28 (by kernel_rfl) rfl
theorem ok_lives : CallOK Try.prog 11 := callOK Try.func11 (by kernel_rfl) rfl
theorem in_mkt : ∃ ti, Try.prog.info? 25 = some ti ∧ ti.zero = some (.agg [.slice none 0 0, .slice none 0 0, .slice none 0 0].toArray) := in_z (by kernel_rfl)
theorem built_mk (a1 a2 a3 : Option Addr) (n1 n2 n3 c1 c2 c3 : Nat) : Try.prog.built 25 [(0, .slice a1 n1 c1), (1, .slice a2 n2 c2), (2, .slice a3 n3 c3)] = some [.slice a1 n1 c1, .slice a2 n2 c2, .slice a3 n3 c3].toArray := by kernel_rfl
theorem sz_mk (a b c : Value) : (Try.prog.info? 25).map (·.size) = some [a, b, c].length := by
  show _ = some 3
  kernel_rfl
theorem one_ct (w : World) : Ct Try.prog 28 #[] w fun u w' => ∃ rv bv ov, u = .agg #[rv, bv, ov] ∧ Mk w' rv bv ov [2] [[9], [5]] [0, 1] ∧ Ex w w' := by
  refine Exists.elim in_mkt fun ti hti => ?_
  refine enter (N := 7) (vs := []) Try.func28 rfl rfl rfl ?_
  repeat ((refine isC ?_; refine c_sr ?_))
  refine s_alloc (cs := [.slice none 0 0, .slice none 0 0, .slice none 0 0]) hti.1 hti.2 rfl ?_
  intro b0 w0 hb0 hA0 hx0 hs0
  repeat (first | (refine isC ?_; refine c_sr ?_) | (refine l_th ?_))
  refine s_bs1 sl_ints in_int rfl rfl ?_
  intro b1 w1 hb1 hA1 hx1 hs1
  refine s_bs1 sl_ints in_int rfl rfl ?_
  intro b2 w2 hb2 hA2 hx2 hs2
  refine s_bs1 sl_ints in_int rfl rfl ?_
  intro b3 w3 hb3 hA3 hx3 hs3
  refine s_bs2 sl_rows in_ints rfl rfl rfl rfl ?_
  intro b4 w4 hb4 hA4 hx4 hs4
  refine s_bs2 sl_ints in_int rfl rfl rfl rfl ?_
  intro b5 w5 hb5 hA5 hx5 hs5
  refine s_bldW (cells := [sv b1 1 1, sv b4 2 2, sv b5 2 2]) (built_mk _ _ _ _ _ _ _ _ _) ?_
  have l0 := hA0.lt
  have l1 := hA1.lt
  have l4 := hA4.lt
  refine s_stV (cs := [sv b1 1 1, sv b4 2 2, sv b5 2 2]) (sz_mk _ _ _) rfl rfl (hA0.ex (hx1.trans (hx2.trans (hx3.trans (hx4.trans hx5))))) rfl rfl ?_
  intro w6 hA6 hg6 hs6
  have hx15 := hx1.trans (hx2.trans (hx3.trans (hx4.trans hx5)))
  have k : ∀ {b : Nat} {E : TypeId} {cs : List Value}, At w5 b E cs → b ≠ b0 → At w6 b E cs := fun h hne => h.grown hg6 (fun e => hne (Option.some.inj e).symm)
  have l2 := hA2.lt
  have l3 := hA3.lt
  have l5 := hA5.lt
  have hM6 : Mk w6 (sv b1 1 1) (sv b4 2 2) (sv b5 2 2) [2] [[9], [5]] [0, 1] :=
    ⟨(k (hA1.ex (hx2.trans (hx3.trans (hx4.trans hx5)))) (by omega)).one, rows2 (l1 := [9]) (l2 := [5]) (k (hA4.ex hx5) (by omega)) (k (hA2.ex (hx3.trans (hx4.trans hx5))) (by omega)).one (k (hA3.ex (hx4.trans hx5)) (by omega)).one, (k hA5 (by omega)).two⟩
  repeat (first | (refine isC ?_; refine c_ret ?_) | (refine l_th ?_))
  exact ret_cV rfl rfl Try.underlying25 rfl (sz_mk _ _ _) hA6 ⟨_, _, _, rfl, hM6, (hx0.trans hx15).store hg6 (by omega)⟩
theorem one_Step1 (rv bv ov pv : Value) (w : World) (hM : Mk w rv bv ov [2] [[9], [5]] [0, 1]) (hp : Ints w pv [2]) : Ct Try.prog 13 #[.agg #[rv, bv, ov], pv] w fun u w' => ∃ b, u = .tuple #[sv b 1 1, .bool true, .int .i64 0] ∧ Ints w' (sv b 1 1) [5] ∧ Ex w w' :=
  (Step_ok rv bv ov pv [2] [[9], [5]] [0, 1] [2] w hM hp one_chk (by decide +kernel)).mono fun u w' ⟨b, hu, hO, _, hx⟩ => by
    have e : stepR [[9], [5]] [2] ([2] : List Int).length = some [5] := one_s1
    rw [e] at hu hO
    exact ⟨b, hu, hO.ints, hx⟩
theorem one_Step2 (rv bv ov pv : Value) (w : World) (hM : Mk w rv bv ov [2] [[9], [5]] [0, 1]) (hp : Ints w pv [5]) : Ct Try.prog 13 #[.agg #[rv, bv, ov], pv] w fun u w' => ∃ b, u = .tuple #[sv b 1 1, .bool false, .int .i64 0] ∧ Ints w' (sv b 1 1) [5] ∧ Ex w w' :=
  (Step_ok rv bv ov pv [2] [[9], [5]] [0, 1] [5] w hM hp one_chk (by decide +kernel)).mono fun u w' ⟨b, hu, hO, _, hx⟩ => by
    have e : stepR [[9], [5]] [5] ([2] : List Int).length = none := one_s2
    rw [e] at hu hO
    exact ⟨b, hu, hO.ints, hx⟩
theorem one_Least (rv bv ov : Value) (w : World) (hM : Mk w rv bv ov [2] [[9], [5]] [0, 1]) : Ct Try.prog 9 #[.agg #[rv, bv, ov]] w fun u w' => ∃ b, u = .tuple #[sv b 1 1, .int .i64 0] ∧ Ints w' (sv b 1 1) [5] ∧ Ex w w' :=
  (Least_ok rv bv ov [2] [[9], [5]] [0, 1] [[2], [5]] w hM one_chk one_run).mono fun u w' ⟨b, hu, hO, _, hx⟩ => ⟨b, hu, hO.ints, hx⟩
theorem two_Least (rv bv ov : Value) (w : World) (hM : Mk w rv bv ov [0, 0] [[4, 4], [4, 4], [3, 0]] [0, 1, 2]) : Ct Try.prog 9 #[.agg #[rv, bv, ov]] w fun u w' => ∃ b, u = .tuple #[sv b 2 2, .int .i64 0] ∧ Ints w' (sv b 2 2) [3, 3] ∧ Ex w w' :=
  (Least_ok rv bv ov [0, 0] [[4, 4], [4, 4], [3, 0]] [0, 1, 2] [[0, 0], [3, 3]] w hM two_chk two_run).mono fun u w' ⟨b, hu, hO, _, hx⟩ => ⟨b, hu, hO.ints, hx⟩
set_option maxHeartbeats 4000000 in
theorem lives_ct (w : World) : Ct Try.prog 11 #[] w fun u w' => u = .bool true ∧ Ex w w' := by
  refine Exists.elim in_mkt fun ti hti => ?_
  refine enter (N := 98) (vs := []) Try.func11 rfl rfl rfl ?_
  repeat (first | (refine isO ?_; refine s_assign ?_) | (refine isC ?_; refine c_sr ?_) | (refine l_th ?_))
  refine s_bs2 sl_ints in_int rfl rfl rfl rfl ?_
  intro b1 w1 hb1 hA1 hx1 hs1
  refine s_bs2 sl_ints in_int rfl rfl rfl rfl ?_
  intro b2 w2 hb2 hA2 hx2 hs2
  refine s_bs2 sl_ints in_int rfl rfl rfl rfl ?_
  intro b3 w3 hb3 hA3 hx3 hs3
  refine s_bs2 sl_ints in_int rfl rfl rfl rfl ?_
  intro b4 w4 hb4 hA4 hx4 hs4
  refine s_bs3 sl_rows in_ints rfl rfl rfl rfl rfl rfl ?_
  intro b5 w5 hb5 hA5 hx5 hs5
  refine s_bs3 sl_ints in_int rfl rfl rfl rfl rfl rfl ?_
  intro b6 w6 hb6 hA6 hx6 hs6
  refine s_bldW (cells := [sv b1 2 2, sv b5 3 3, sv b6 3 3]) (built_mk _ _ _ _ _ _ _ _ _) ?_
  refine s_alloc (cs := [.slice none 0 0, .slice none 0 0, .slice none 0 0]) hti.1 hti.2 rfl ?_
  intro b7 w7 hb7 hA7 hx7 hs7
  refine s_stV (cs := [sv b1 2 2, sv b5 3 3, sv b6 3 3]) (sz_mk _ _ _) rfl rfl hA7 rfl rfl ?_
  intro w8 hA8 hg8 hs8
  have hx06 := hx1.trans (hx2.trans (hx3.trans (hx4.trans (hx5.trans hx6))))
  have hx08 : Ex w w8 := (hx06.trans hx7).store hg8 (by have := hx06.size; omega)
  have hx68 : Ex w6 w8 := hx7.store hg8 (by omega)
  have hR5 : Rows w5 (sv b5 3 3) [[4, 4], [4, 4], [3, 0]] := rows3 (l1 := [4, 4]) (l2 := [4, 4]) (l3 := [3, 0]) hA5 (hA2.two.ex (hx3.trans (hx4.trans hx5))) (hA3.two.ex (hx4.trans hx5)) (hA4.two.ex hx5)
  have hM8 : Mk w8 (sv b1 2 2) (sv b5 3 3) (sv b6 3 3) [0, 0] [[4, 4], [4, 4], [3, 0]] [0, 1, 2] := ⟨hA1.two.ex ((hx2.trans (hx3.trans (hx4.trans (hx5.trans hx6)))).trans hx68), hR5.ex (hx6.trans hx68), hA6.three.ex hx68⟩
  repeat (first | (refine isC ?_; refine c_sr ?_) | (refine l_th ?_))
  refine s_call ok_one rfl (one_ct w8) ?_
  rintro u w9 ⟨r1, v1, o1, rfl, hM9, hx9⟩
  refine s_bs1 sl_ints in_int rfl rfl ?_
  intro ba wa hba hAa hxa hsa
  refine s_call ok_Step rfl (one_Step1 r1 v1 o1 _ wa (hM9.ex hxa) hAa.one) ?_
  rintro u wb ⟨bb, rfl, hI1, hxb⟩
  repeat (first | (refine isO ?_; first | refine s_move ?_ | refine s_assign ?_ | refine s_extract rfl rfl ?_) | (refine isC ?_; refine c_sr ?_) | (refine l_th ?_))
  refine s_call ok_one rfl (one_ct wb) ?_
  rintro u wc ⟨r2, v2, o2, rfl, hMc, hxc⟩
  refine s_bs1 sl_ints in_int rfl rfl ?_
  intro bd wd hbd hAd hxd hsd
  refine s_call ok_Step rfl (one_Step2 r2 v2 o2 _ wd (hMc.ex hxd) hAd.one) ?_
  rintro u we ⟨be, rfl, hI2, hxe⟩
  repeat (first | (refine isO ?_; first | refine s_move ?_ | refine s_assign ?_ | refine s_extract rfl rfl ?_) | (refine isC ?_; refine c_sr ?_) | (refine l_th ?_))
  refine s_call ok_one rfl (one_ct we) ?_
  rintro u wf ⟨r3, v3, o3, rfl, hMf, hxf⟩
  refine s_call ok_rLeast rfl (one_Least r3 v3 o3 wf hMf) ?_
  rintro u wg ⟨bg, rfl, hI3, hxg⟩
  have hx8g : Ex w8 wg := hx9.trans (hxa.trans (hxb.trans (hxc.trans (hxd.trans (hxe.trans (hxf.trans hxg))))))
  repeat (first | (refine isO ?_; first | refine s_move ?_ | refine s_assign ?_ | refine s_extract rfl rfl ?_) | (refine isC ?_; refine c_sr ?_) | (refine l_th ?_))
  refine s_ldV Try.underlying25 rfl (sz_mk _ _ _) rfl (hA8.ex hx8g) ?_
  refine s_call ok_rLeast rfl (two_Least _ _ _ wg (hM8.ex hx8g)) ?_
  rintro u wh ⟨bh, rfl, hI4, hxh⟩
  repeat (first | (refine isO ?_; first | refine s_move ?_ | refine s_assign ?_ | refine s_extract rfl rfl ?_) | (refine isC ?_; refine c_sr ?_) | (refine l_th ?_))
  refine s_call ok_one rfl (one_ct wh) ?_
  rintro u wi ⟨r4, v4, o4, rfl, hMi, hxi⟩
  refine s_bs1 sl_ints in_int rfl rfl ?_
  intro bj wj hbj hAj hxj hsj
  refine s_call ok_Step rfl (Step_bad r4 v4 o4 _ [2] [[9], [5]] [0, 1] [1] wj (hMi.ex hxj) hAj.one (by decide +kernel)) ?_
  rintro u wk ⟨rfl, hxk⟩
  have hxbk : Ex wb wk := hxc.trans (hxd.trans (hxe.trans (hxf.trans (hxg.trans (hxh.trans (hxi.trans (hxj.trans hxk)))))))
  have hxek : Ex we wk := hxf.trans (hxg.trans (hxh.trans (hxi.trans (hxj.trans hxk))))
  have hxhk : Ex wh wk := hxi.trans (hxj.trans hxk)
  have hx0k : Ex w wk := hx08.trans ((hx9.trans (hxa.trans hxb)).trans hxbk)
  repeat (first | (refine isO ?_; first | refine s_move ?_ | refine s_assign ?_ | (refine isG ?_; refine g_yes rfl rfl ?_) | (refine isBin ?_; refine s_eqlT rfl rfl (by omega) ?_) | (refine isPick ?_; refine s_pickt rfl rfl ?_) | refine s_extract rfl rfl ?_) | (refine isC ?_; refine c_sr ?_) | (refine l_th ?_))
  refine s_bs1 sl_ints in_int rfl rfl ?_
  intro bl wl hbl hAl hxl hsl
  repeat ((refine isO ?_; (refine isG ?_; refine g_yes rfl rfl ?_)))
  refine s_call ok_SameInts rfl (SameInts_ct _ _ [5] [5] wl (hI1.ex (hxbk.trans hxl)) hAl.one) ?_
  rintro u wm ⟨rfl, hxm⟩
  refine s_re (v' := .bool true) rfl ?_
  repeat ((refine isO ?_; first | refine s_move ?_ | (refine isG ?_; refine g_yes rfl rfl ?_) | (refine isBin ?_; refine s_eqlT rfl rfl (by omega) ?_) | (refine isPick ?_; refine s_pickt rfl rfl ?_) | refine s_not rfl ?_))
  refine s_bs1 sl_ints in_int rfl rfl ?_
  intro bn wn hbn hAn hxn hsn
  have hxkn := hxl.trans (hxm.trans hxn)
  repeat ((refine isO ?_; (refine isG ?_; refine g_yes rfl rfl ?_)))
  refine s_call ok_SameInts rfl (SameInts_ct _ _ [5] [5] wn (hI2.ex (hxek.trans hxkn)) hAn.one) ?_
  rintro u wo ⟨rfl, hxo⟩
  refine s_re (v' := .bool true) rfl ?_
  repeat ((refine isO ?_; first | refine s_move ?_ | (refine isG ?_; refine g_yes rfl rfl ?_) | (refine isBin ?_; refine s_eqlT rfl rfl (by omega) ?_) | (refine isPick ?_; refine s_pickt rfl rfl ?_)))
  refine s_bs1 sl_ints in_int rfl rfl ?_
  intro bp wp hbp hAp hxp hsp
  have hxkp := hxkn.trans (hxo.trans hxp)
  repeat ((refine isO ?_; (refine isG ?_; refine g_yes rfl rfl ?_)))
  refine s_call ok_SameInts rfl (SameInts_ct _ _ [5] [5] wp (hI3.ex ((hxh.trans hxhk).trans hxkp)) hAp.one) ?_
  rintro u wq ⟨rfl, hxq⟩
  refine s_re (v' := .bool true) rfl ?_
  repeat ((refine isO ?_; first | refine s_move ?_ | (refine isG ?_; refine g_yes rfl rfl ?_) | (refine isBin ?_; refine s_eqlT rfl rfl (by omega) ?_) | (refine isPick ?_; refine s_pickt rfl rfl ?_)))
  refine s_bs2 sl_ints in_int rfl rfl rfl rfl ?_
  intro br wr hbr hAr hxr hsr
  have hxkr := hxkp.trans (hxq.trans hxr)
  repeat ((refine isO ?_; (refine isG ?_; refine g_yes rfl rfl ?_)))
  refine s_call ok_SameInts rfl (SameInts_ct _ _ [3, 3] [3, 3] wr (hI4.ex (hxhk.trans hxkr)) hAr.two) ?_
  rintro u ws ⟨rfl, hxs⟩
  refine s_re (v' := .bool true) rfl ?_
  repeat (first | (refine isO ?_; first | refine s_move ?_ | refine s_assign ?_ | (refine isG ?_; refine g_yes rfl rfl ?_) | (refine isBin ?_; refine s_eqlT rfl rfl (by omega) ?_) | (refine isPick ?_; refine s_pickt rfl rfl ?_)) | (refine isC ?_; refine c_ret ?_) | (refine l_th ?_))
  exact ret1 rfl rfl ⟨rfl, hx0k.trans (hxkr.trans hxs)⟩
end Go.Proofs.Ytifbgpkjbciblaa.Sal
end
section
/- TW3: twins, and the room behind them. -/
set_option maxRecDepth 100000
namespace Go.Proofs.Ytifbgpkjbciblaa.Sal
open Go.RowKit
set_option linter.all false
theorem Rw.posL {w : World} {E : TypeId} {v : Value} {vs : List Value} (h : Rw w E v vs) (hn : 0 < vs.length) : ∃ b c sp, v = sv b vs.length c ∧ At w b E (vs ++ sp) ∧ vs.length ≤ c ∧ c = vs.length + sp.length ∧ c ≤ 9223372036854775807 := by
  obtain ⟨h1, h2⟩ := h
  rcases h2 with ⟨hv, h0⟩ | ⟨g, cap, cur, hv, _, hh, hc, hm, hcs, ht⟩
  · omega
  · rw [Nat.mul_one] at ht hcs
    have e : vs ++ cur.toList.drop vs.length = cur.toList := by
      conv => lhs; lhs; rw [← ht]
      exact List.take_append_drop _ _
    refine ⟨g, cap, cur.toList.drop vs.length, hv, ?_, hc, ?_, by simpa [maxLen] using hm⟩
    · unfold At; rw [hh, e]
    · have h3 : (vs ++ cur.toList.drop vs.length).length = cur.toList.length := congrArg List.length e
      rw [List.length_append] at h3
      have h4 : cur.toList.length = cur.size := Array.length_toList
      omega
/-- A twin: one number more stands behind it, in its room. -/
def TwI (w : World) (b c : Nat) (l : List Int) : Prop := ∃ sp, At w b 3 (l.map (Value.int .i64) ++ .int .i64 77 :: sp) ∧ l.length < c ∧ c = l.length + 1 + sp.length ∧ c ≤ 9223372036854775807 ∧ l.length ≤ 10000
theorem TwI.ex {w w' : World} {b c : Nat} {l : List Int} (h : TwI w b c l) (hx : Ex w w') : TwI w' b c l := let ⟨sp, h1, h2⟩ := h; ⟨sp, h1.ex hx, h2⟩
theorem TwI.grown {w w' : World} {b c : Nat} {l : List Int} {o : Option Nat} (h : TwI w b c l) (hg : w.grownBy w' o) (hne : o ≠ some b) : TwI w' b c l := let ⟨sp, h1, h2⟩ := h; ⟨sp, h1.grown hg hne, h2⟩
theorem TwI.lt {w : World} {b c : Nat} {l : List Int} (h : TwI w b c l) : b < w.heap.size := let ⟨sp, h1, h2⟩ := h; h1.lt
theorem TwI.ints {w : World} {b c : Nat} {l : List Int} (h : TwI w b c l) : Ints w (sv b l.length c) l := by
  obtain ⟨sp, hA, hc, _, _, hm⟩ := h
  have := hA.sl (n := l.length) (c := c) (by simp) (by omega) (by omega)
  rwa [List.take_left' (by simp)] at this
theorem TwI.wd {w : World} {b c : Nat} {l : List Int} (h : TwI w b c l) : Wd w 3 1 (sv b l.length c) l.length (l.map (Value.int .i64)) := by
  obtain ⟨sp, hA, hc, he, h63, hm⟩ := h
  exact ⟨by simp, .inr ⟨b, c, .int .i64 77 :: sp, rfl, hA, by omega, h63, by simp; omega⟩⟩
/-- A twin of lists. -/
def TwL (w : World) (b c : Nat) (rb rc : Nat → Nat) (g : List (List Int)) : Prop :=
  (∃ eb sp, At w b 22 ((List.range g.length).map (fun i => sv (rb i) (g.getD i []).length (rc i)) ++ sv eb 1 1 :: sp) ∧ At w eb 3 [.int .i64 77] ∧ c = g.length + 1 + sp.length) ∧ g.length < c ∧ c ≤ 9223372036854775807 ∧ g.length ≤ 10000 ∧ (∀ i, i < g.length → TwI w (rb i) (rc i) (g.getD i []) ∧ rb i ≠ b) ∧ ∀ i j, i < j → j < g.length → rb i < rb j
theorem TwL.ex {w w' : World} {b c : Nat} {rb rc : Nat → Nat} {g : List (List Int)} (h : TwL w b c rb rc g) (hx : Ex w w') : TwL w' b c rb rc g := by
  obtain ⟨⟨eb, sp, h1, h2, h3⟩, h4, h5, h6, h7, h8⟩ := h
  exact ⟨⟨eb, sp, h1.ex hx, h2.ex hx, h3⟩, h4, h5, h6, fun i hi => ⟨(h7 i hi).1.ex hx, (h7 i hi).2⟩, h8⟩
theorem TwL.sl {w : World} {b c : Nat} {rb rc : Nat → Nat} {g : List (List Int)} (h : TwL w b c rb rc g) : Sl w (sv b g.length c) ((List.range g.length).map (fun i => sv (rb i) (g.getD i []).length (rc i))) := by
  obtain ⟨⟨eb, sp, h1, _⟩, h2, _, h3, _⟩ := h
  have := h1.sl (n := g.length) (c := c) (by simp) (by omega) (by omega)
  rwa [List.take_left' (by simp)] at this
theorem TwL.wd {w : World} {b c : Nat} {rb rc : Nat → Nat} {g : List (List Int)} (h : TwL w b c rb rc g) : Wd w 22 1 (sv b g.length c) g.length ((List.range g.length).map (fun i => sv (rb i) (g.getD i []).length (rc i))) := by
  obtain ⟨⟨eb, sp, h1, _, h2⟩, h3, h4, _⟩ := h
  exact ⟨by simp, .inr ⟨b, c, sv eb 1 1 :: sp, rfl, h1, by omega, h4, by simp; omega⟩⟩
theorem TwL.rows {w : World} {b c : Nat} {rb rc : Nat → Nat} {g : List (List Int)} (h : TwL w b c rb rc g) : Rows w (sv b g.length c) g := by
  refine ⟨_, h.sl, by simp, fun i u l hu hl => ?_⟩
  have hi := (List.getElem?_eq_some_iff.1 hl).1
  obtain ⟨_, _, _, _, h7, _⟩ := h
  have e1 : u = sv (rb i) (g.getD i []).length (rc i) := by simp [hi] at hu; simp [hi, hu]
  have e2 : g.getD i [] = l := by simp [List.getD_eq_getElem?_getD, hl]
  rw [e1]
  have := (h7 i hi).1.ints
  rwa [e2] at this ⊢
attribute [local irreducible] Go.Code.wpIn Go.wpListIn Ct Ints Rows Sl At Rw WJ
attribute [local irreducible] Wd
theorem TwinIntsW_ct (u : Value) (l : List Int) (w : World) (hl : Ints w u l) (hm : l.length ≤ 10000) :
    Ct Try.prog 12 #[u] w fun x w' => ∃ b c, x = sv b l.length c ∧ w.heap.size ≤ b ∧ TwI w' b c l ∧ Ex w w' := by
  obtain ⟨ti, hi1, hi2, hi3, hi4⟩ := in_int'
  refine enter (N := 28) (vs := [u]) Try.func12 rfl rfl rfl ?_
  repeat (first | (refine isO ?_; first | refine s_move ?_ | refine s_assign ?_ | (refine isBin ?_; refine s_inc rfl (by omega) ?_) | (refine isCall ?_; refine s_lenI sl_ints rfl (by assumption) ?_)) | (refine isC ?_; refine c_sr ?_) | (refine l_th ?_))
  refine s_mk0 (n := l.length + 1) sl_ints hi1 hi2 hi3 rfl hi4 rfl rfl (by omega) ?_
  intro b0 w1 hb0 hR hx1 hs1
  repeat (first | (refine isO ?_; refine s_assign ?_) | (refine isC ?_; first | refine c_sr ?_ | refine c_seq ?_ | refine c_block ?_) | (refine l_th ?_))
  refine c_loop (γ := Nat × Value) 4193816 (fun x => [(4, .int .i64 (x.1 : Int)), (3, x.2)])
    (fun x w' => x.1 ≤ l.length ∧ Rw w' 3 x.2 ((l.take x.1).map (Value.int .i64)) ∧ Ex w w' ∧ ∀ b, x.2.ownBlock = some b → w.heap.size ≤ b) (fun x => l.length - x.1) (0, sv b0 0 (l.length + 1)) ⟨rfl, rfl, trivial⟩
    ⟨Nat.zero_le _, hR, hx1, fun b h => by have h : b0 = b := Option.some.inj h; omega⟩ ?_
  rintro ⟨k, v⟩ ρ w2 ⟨hk, hv, hx, hb⟩
  dsimp only at hk hv hx hb ⊢
  have hl2 := hl.ex hx
  repeat (first | (refine isO ?_; first | refine s_move ?_ | (refine isBin ?_; refine s_lss rfl rfl ?_) | (refine isCall ?_; refine s_lenI sl_ints rfl (by assumption) ?_)) | (refine isC ?_; first | refine c_sr ?_ | refine c_seq ?_) | (refine l_th ?_))
  refine c_ifd rfl (fun h => ?_) (fun h => ?_)
  · have hk' : k < l.length := by omega
    repeat (first | (refine isO ?_; first | refine s_move ?_ | (refine isIA ?_; refine s_ixI sl_ints ty_int rfl rfl rfl (by assumption) (by omega) ?_; intro _)) | (refine isC ?_; first | refine c_th ?_ | refine c_seq ?_ | refine c_region ?_ | refine c_block ?_))
    refine s_bs1 (u := .int .i64 (l.getD k 0)) sl_ints in_int rfl rfl ?_
    intro b1 w3 hb1 hA hx3 hs3
    refine s_app (news := [.int .i64 (l.getD k 0)]) sl_ints in_int (hv.ex hx3) (hA.sl (Nat.le_refl _) (by simp) (by simp)) rfl rfl (one_int _) (by simp; omega) ?_
    intro v' w4 hv' hg hown
    repeat (first | (refine isO ?_; first | refine s_move ?_ | refine s_assign ?_ | (refine isBin ?_; refine s_inc rfl (by omega) ?_)) | (refine isC ?_; refine c_region ?_) | (first | refine l_th ?_ | refine l_nil ?_))
    refine loop_end (k + 1, v') (by (repeat (first | exact agree_refl _ _ | refine agree_upd rfl ?_ | refine agree_ext rfl ?_ | refine agree_mask rfl ?_))) ⟨rfl, rfl, trivial⟩ ⟨hk', ?_, (hx.trans hx3).storeo hg hb, ?_⟩ (by dsimp only; omega)
    · dsimp only; rw [take_map_succ hk']; exact hv'
    · intro b hb'
      rcases hown with h1 | h1
      · exact hb b (h1.symm.trans hb')
      · have := h1 b hb'; have := hx.size; have := hx3.size; omega
  · have hkn : k = l.length := by omega
    subst hkn
    rw [List.take_length] at hv
    repeat (first | (refine isO ?_; refine s_move ?_) | (refine isC ?_; first | refine c_sr ?_ | refine c_exit ?_))
    refine s_bs1 (u := .int .i64 77) sl_ints in_int rfl rfl ?_
    intro b1 w3 hb1 hA hx3 hs3
    refine s_app (news := [.int .i64 77]) sl_ints in_int (hv.ex hx3) (hA.sl (Nat.le_refl _) (by simp) (by simp)) rfl rfl (one_int _) (by simp; omega) ?_
    intro v' w4 hv' hg hown
    obtain ⟨b2, c2, sp, rfl, hA4, hc, hcl, hcm⟩ := hv'.posL (by simp)
    have hfr : w.heap.size ≤ b2 := by
      rcases hown with h1 | h1
      · exact hb b2 h1.symm
      · have := h1 b2 rfl; have := hx.size; have := hx3.size; omega
    simp only [List.length_append, List.length_map, List.length_singleton] at hc hcl
    have hx4 := (hx.trans hx3).storeo hg hb
    have hl4 := hl.ex hx4
    repeat ((refine isO ?_; first | refine s_move ?_ | (refine isCall ?_; refine s_lenI sl_ints rfl (by assumption) ?_)))
    refine s_head (hi := l.length) sl_ints ty_int rfl rfl (by omega) ?_
    repeat (first | (refine isO ?_; refine s_assign ?_) | (refine isC ?_; refine c_ret ?_) | (refine l_th ?_))
    refine ret1 rfl rfl ⟨b2, c2, rfl, hfr, ⟨sp, by rw [List.append_assoc] at hA4; exact hA4, by omega, by omega, hcm, hm⟩, hx4⟩

end Go.Proofs.Ytifbgpkjbciblaa.Sal
end
section
/- salesroomlaw01.TwinMarket. -/
set_option maxRecDepth 100000
namespace Go.Proofs.Ytifbgpkjbciblaa.Sal
open Go.RowKit
/-- A market of the call's own. -/
structure MkO (w0 w : World) (b1 c1 b2 c2 : Nat) (rb rc : Nat → Nat) (b3 c3 : Nat) (res : List Int) (bids : List (List Int)) (ord : List Int) : Prop where
  r : OwnI w 3 b1 c1 res
  b : Mat w 22 3 b2 c2 rb rc bids
  o : OwnI w 3 b3 c3 ord
  n12 : b1 ≠ b2
  n13 : b1 ≠ b3
  n23 : b2 ≠ b3
  nr : ∀ i, i < bids.length → rb i ≠ b1 ∧ rb i ≠ b3
  l1 : w0.heap.size ≤ b1
  l2 : w0.heap.size ≤ b2
  l3 : w0.heap.size ≤ b3
  lr : ∀ i, i < bids.length → w0.heap.size ≤ rb i
theorem MkO.mk' {w0 w : World} {b1 c1 b2 c2 : Nat} {rb rc : Nat → Nat} {b3 c3 : Nat} {res : List Int} {bids : List (List Int)} {ord : List Int} (h : MkO w0 w b1 c1 b2 c2 rb rc b3 c3 res bids ord) : Mk w (sv b1 res.length c1) (sv b2 bids.length c2) (sv b3 ord.length c3) res bids ord := ⟨h.r.ints, h.b.rows, h.o.ints⟩
theorem MkO.ex {w0 w w' : World} {b1 c1 b2 c2 : Nat} {rb rc : Nat → Nat} {b3 c3 : Nat} {res : List Int} {bids : List (List Int)} {ord : List Int} (h : MkO w0 w b1 c1 b2 c2 rb rc b3 c3 res bids ord) (hx : Ex w w') : MkO w0 w' b1 c1 b2 c2 rb rc b3 c3 res bids ord :=
  { h with r := h.r.ex hx, b := h.b.ex hx, o := h.o.ex hx }
attribute [local irreducible] Go.Code.wpIn Go.wpListIn Ct Ints Rows Sl At Rw WJ
attribute [local irreducible] Wd
set_option linter.all false
end Go.Proofs.Ytifbgpkjbciblaa.Sal
end
section
/- V21: stores into lists with room; bids in another order. -/
set_option maxRecDepth 100000
namespace Go.Proofs.Ytifbgpkjbciblaa.Sal
open Go.RowKit
theorem in_wd {P : Program} {E : TypeId} {s B : Nat} {z : Value} (h : (P.info? E).map (fun i => (i.zero, i.size, i.bytes)) = some (some z, s, B)) (hz : z.cells.size = s) : InfoW P E s z B := by
  cases hi : P.info? E with
  | none => rw [hi] at h; cases h
  | some ti =>
    rw [hi] at h
    simp only [Option.map_some, Option.some.injEq, Prod.mk.injEq] at h
    exact ⟨⟨ti, hi, h.1, h.2.1, by omega⟩, hz⟩
theorem wd_int : InfoW Try.prog 3 1 (.int .i64 0) 8 := in_wd inf_int rfl
theorem Wd.ints {w : World} {E : TypeId} {v : Value} {n : Nat} {l : List Int} (h : Wd w E 1 v n (l.map (Value.int .i64))) (hm : n ≤ 1000000) : Ints w v l := h.sl (by omega)
theorem Wd.rows {w : World} {E : TypeId} {v : Value} {n : Nat} {us : Nat → Value} {g : List (List Int)} (h : Wd w E 1 v n ((List.range n).map us)) (hl : g.length = n) (hm : n ≤ 1000000) (hr : ∀ i, i < n → Ints w (us i) (g.getD i [])) : Rows w v g := by
  refine ⟨_, h.sl (by omega), by simp [hl], fun i u l hu hl2 => ?_⟩
  have hi := (List.getElem?_eq_some_iff.1 hl2).1
  have e1 : u = us i := by simp [show i < n by omega] at hu; exact hu.symm
  have e2 : g.getD i [] = l := by simp [List.getD_eq_getElem?_getD, hl2]
  rw [e1, ← e2]
  exact hr i (by omega)
theorem mfs {us : Nat → Value} {n k : Nat} {u : Value} (hk : k < n) : ((List.range n).map us).set k u = (List.range n).map (fs us k u) := map_fs us u hk
end Go.Proofs.Ytifbgpkjbciblaa.Sal
end
section
/- V23: one bids alone; all bid the same. -/
set_option maxRecDepth 100000
namespace Go.Proofs.Ytifbgpkjbciblaa.Sal
open Go.RowKit
set_option linter.all false
/-- What all bid. -/
def wq (r : Int) (x : Nat) : Int := if r + (x : Int) < 1000000 then r + (x : Int) else 1000000
def wL (res : List Int) (x k : Nat) : List Int := (List.range k).map fun j => wq (res.getD j 0) x
def wB (res : List Int) (m x : Nat) : List (List Int) := (List.range m).map fun _ => wL res x res.length
end Go.Proofs.Ytifbgpkjbciblaa.Sal
end
section
/- markets.Without. -/
set_option maxRecDepth 100000
namespace Go.Proofs.Ytifbgpkjbciblaa.Sal
open Go.RowKit
/-- Numbers in a block of numbers, or none. -/
def IB (w : World) (v : Value) (l : List Int) : Prop := (∃ a c, v = .slice a l.length c) ∧ Ints w v l ∧ ∀ b, v.ownBlock = some b → ∃ cs, At w b 3 cs
theorem IB.ex {w w' : World} {v : Value} {l : List Int} (h : IB w v l) (hx : Ex w w') : IB w' v l := ⟨h.1, h.2.1.ex hx, fun b hb => let ⟨cs, hc⟩ := h.2.2 b hb; ⟨cs, hc.ex hx⟩⟩
theorem ty_ne {w : World} {b : Nat} {E T : TypeId} {cs ds : List Value} (h1 : At w b E cs) (h2 : At w b T ds) : E = T := by
  unfold At at h1 h2
  rw [h1] at h2
  have h3 := Option.some.inj h2
  rw [Obj.cells.injEq] at h3
  exact h3.2.1
theorem IB.kept {w w' : World} {v : Value} {l : List Int} {b : Nat} {T : TypeId} {cs : List Value} (h : IB w v l) (hA : At w b T cs) (hT : (T == 3) = false) (hg : w.grownBy w' (some b)) : IB w' v l := by
  have hne : v.ownBlock ≠ some b := fun e => by
    obtain ⟨ds, hd⟩ := h.2.2 b e
    have := ty_ne hA hd
    rw [this] at hT; simp at hT
  refine ⟨h.1, h.2.1.kept hg (.inr hne), fun b' hb' => ?_⟩
  obtain ⟨ds, hd⟩ := h.2.2 b' hb'
  exact ⟨ds, hd.grown hg (fun e => hne (by rw [hb', ← e]))⟩
theorem IB.nil (w : World) : IB w (.slice none 0 0) [] := ⟨⟨none, 0, rfl⟩, Ints.nil w, fun b hb => by cases hb⟩
theorem IB.ints {w : World} {v : Value} {l : List Int} (h : IB w v l) : Ints w v l := h.2.1
theorem IB.one {w : World} {v : Value} {l : List Int} (h : IB w v l) : v.oneCell' = true := by obtain ⟨a, c, rfl⟩ := h.1; rfl
/-- What stands in the temporaries as Without lays its answer. -/
def FWo (b0 W0 : Nat) (rv bv ov : Value) (res : List Int) (bids : List (List Int)) (ord : List Int) : Nat → Nat → Nat → Value → World → Prop
  | 0, _, _, v, _ => v = .pointer (some ⟨b0, 0, none⟩)
  | 1, _, _, v, _ => v = rv
  | 2, _, _, v, w => IB w v res
  | 3, _, _, v, w => IB w v res
  | 4, _, _, v, _ => v = .pointer (some ⟨b0, 1, none⟩)
  | 5, _, _, v, _ => v = bv
  | 6, _, _, v, _ => v = .int .i64 (bids.length : Int)
  | 7, _, _, v, w => ∃ bM, v = sv bM bids.length bids.length ∧ At w bM 22 (List.replicate bids.length (.slice none 0 0)) ∧ W0 ≤ bM
  | 8, _, _, v, _ => v = .pointer (some ⟨b0, 2, none⟩)
  | 9, _, _, v, _ => v = ov
  | 10, _, _, v, w => IB w v ord
  | 11, _, _, v, w => IB w v ord
  | 12, _, _, v, w => ∃ rv' bM ov', v = .agg #[rv', sv bM bids.length bids.length, ov'] ∧ IB w rv' res ∧ (At w bM 22 (List.replicate bids.length (.slice none 0 0)) ∧ W0 ≤ bM) ∧ IB w ov' ord
  | 13, _, _, v, w => ∃ bX, v = .pointer (some ⟨bX, 0, none⟩) ∧ At w bX 25 [.slice none 0 0, .slice none 0 0, .slice none 0 0] ∧ W0 ≤ bX
  | _, _, _, _, _ => True
theorem FWo.ex {b0 W0 : Nat} {rv bv ov : Value} {res : List Int} {bids : List (List Int)} {ord : List Int} : ∀ (i lo hi : Nat) (v : Value) (w w' : World), FWo b0 W0 rv bv ov res bids ord i lo hi v w → Ex w w' → FWo b0 W0 rv bv ov res bids ord i lo hi v w'
  | 0, _, _, _, _, _, h, _ => h
  | 1, _, _, _, _, _, h, _ => h
  | 2, _, _, _, _, _, h, hx => IB.ex h hx
  | 3, _, _, _, _, _, h, hx => IB.ex h hx
  | 4, _, _, _, _, _, h, _ => h
  | 5, _, _, _, _, _, h, _ => h
  | 6, _, _, _, _, _, h, _ => h
  | 7, _, _, _, _, _, h, hx => let ⟨bM, h1, h2, h3⟩ := h; ⟨bM, h1, h2.ex hx, h3⟩
  | 8, _, _, _, _, _, h, _ => h
  | 9, _, _, _, _, _, h, _ => h
  | 10, _, _, _, _, _, h, hx => IB.ex h hx
  | 11, _, _, _, _, _, h, hx => IB.ex h hx
  | 12, _, _, _, _, _, h, hx => let ⟨a, b, c, h1, h2, h3, h4⟩ := h; ⟨a, b, c, h1, h2.ex hx, ⟨h3.1.ex hx, h3.2⟩, h4.ex hx⟩
  | 13, _, _, _, _, _, h, hx => let ⟨bM, h1, h2, h3⟩ := h; ⟨bM, h1, h2.ex hx, h3⟩
  | (_ + 14), _, _, _, _, _, _, _ => trivial
attribute [local irreducible] Go.Code.wpIn Go.wpListIn Ct Ints Rows Sl At Rw WJ
attribute [local irreducible] IB
set_option linter.all false
end Go.Proofs.Ytifbgpkjbciblaa.Sal
end
