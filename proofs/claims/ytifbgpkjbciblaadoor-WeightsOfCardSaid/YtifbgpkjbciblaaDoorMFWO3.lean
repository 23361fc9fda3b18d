/- Texts that YtifbgpkjbciblaaDoorFWO leans on, laid together: W5 W7 W8 WF M1 M2 M3 RM10 M5 Core11 Core13 Core14. -/
import Derived.Test.YtifbgpkjbciblaaDoorMFWO2
import Derived.RangeFuncNested
import Derived.RangeFuncMany
import Derived.Laws.CopyRow
section
/- weights.Best, weights.Proved. -/
set_option maxRecDepth 100000
namespace Go.Proofs.YtifbgpkjbciblaaDoor.Sal
open Go.RowKit
attribute [local irreducible] Go.Code.wpIn Go.wpListIn Ct Ints Rows Sl At Rw WJ
set_option linter.all false

theorem check_good {g : List (List Int)} {items : Int} (h : checkG g items = true) : ∃ n : Nat, items = (n : Int) ∧ 1 ≤ n ∧ n ≤ 8 ∧ Good g n := by
  simp only [checkG, Bool.and_eq_true, decide_eq_true_eq, Bool.not_eq_true'] at h
  obtain ⟨⟨⟨h1, h2⟩, h3⟩, h4⟩ := h
  refine ⟨items.toNat, by omega, by omega, by omega, by omega, fun i hi => ?_, fun i k => ?_⟩
  · rw [List.any_eq_false] at h4
    have := h4 (g.getD i []) (by simp [hi])
    simp only [badL, Bool.or_eq_true, decide_eq_true_eq, not_or] at this
    omega
  · rw [List.any_eq_false] at h4
    unfold gain
    by_cases hi : i < g.length
    · have := h4 (g.getD i []) (by simp [hi])
      simp only [badL, Bool.or_eq_true, decide_eq_true_eq, not_or] at this
      have h5 := this.2
      rw [Bool.not_eq_true, List.any_eq_false] at h5
      by_cases hk : k < (g.getD i []).length
      · have := h5 ((g.getD i []).getD k 0) (by
          generalize g.getD i [] = l at hk
          simp [hk])
        simp only [badN, Bool.or_eq_true, decide_eq_true_eq, not_or] at this
        omega
      · have : (g.getD i []).getD k 0 = 0 := by
          generalize g.getD i [] = l at hk
          simp [hk]
        omega
    · have : (g.getD i []) = [] := by simp [hi]
      rw [this]; simp
def VV (g : List (List Int)) (n : Nat) : Int := bestF g (List.range n)
def pk (g : List (List Int)) (n k : Nat) : Int := bestF g (List.range n ++ [k]) - VV g n
def uu (g : List (List Int)) (n i : Nat) : Nat → Int
  | 0 => 0
  | k + 1 => max' (uu g n i k) (gain g i k - pk g n k)
theorem maxL_bnd {M : Int} : ∀ (l : List Int) (m : Int), 0 ≤ m ∧ m ≤ M → (∀ x ∈ l, x ≤ M) → 0 ≤ maxL m l ∧ maxL m l ≤ M
  | [], m, h, _ => h
  | x :: l, m, h, hl => by
    have hx := hl x (by simp)
    exact maxL_bnd l _ (by split <;> omega) (fun y hy => hl y (by simp [hy]))
theorem bestF_bnd {g : List (List Int)} {n : Nat} (hG : Good g n) (ks : List Nat) : 0 ≤ bestF g ks ∧ bestF g ks ≤ 1000000 * ks.length := by
  have hb := bestH_bnd (fun i k => (hG.bnd i k).2) ks zeroF 0 zero_bnd
  refine maxL_bnd _ _ (by omega) (fun x hx => ?_)
  obtain ⟨y, _, rfl⟩ := List.mem_map.1 hx
  have := hb y; omega
theorem pk_bnd {g : List (List Int)} {n : Nat} (hG : Good g n) (k : Nat) : -(1000000 * (n : Int)) ≤ pk g n k ∧ pk g n k ≤ 1000000 * (n + 1) := by
  have h1 := bestF_bnd hG (List.range n)
  have h2 := bestF_bnd hG (List.range n ++ [k])
  simp at h1 h2
  unfold pk VV; omega
theorem upto_natl (n : Nat) : upto n = natl (List.range n) := rfl
theorem upto_natl1 (n k : Nat) : upto n ++ [(k : Int)] = natl (List.range n ++ [k]) := by simp [upto, natl]

theorem ok_Best : CallOK Tryd.prog 6 := callOK Tryd.func6 (by kernel_rfl) rfl
theorem ok_Proved : CallOK Tryd.prog 8 := callOK Tryd.func8 (by kernel_rfl) rfl
theorem Best_bad (gv : Value) (g : List (List Int)) (items : Int) (w : World) (hg : Rows w gv g) (hc : checkG g items = false) :
    Ct Tryd.prog 6 #[gv, .int .i64 items] w fun u w' => u = .tuple #[.int .i64 0, .int .i64 1] ∧ Ex w w' := by
  refine enter (N := 14) (vs := [gv, .int .i64 items]) Tryd.func6 rfl rfl rfl ?_
  repeat (first | (refine isO ?_; first | refine s_move ?_ | refine s_assign ?_) | (refine isC ?_; first | refine c_sr ?_ | refine c_seq ?_) | (refine l_th ?_))
  refine s_call ok_check rfl (check_ct gv g items w hg) ?_
  rw [hc]
  rintro u w1 ⟨rfl, hx⟩
  repeat (first | (refine isO ?_; first | refine s_assign ?_ | refine s_not rfl ?_) | (refine isC ?_; first | refine c_sr ?_ | refine c_ift rfl ?_ | refine c_ret ?_) | (first | refine l_th ?_ | refine th_ret ?_))
  exact ret2 rfl rfl rfl ⟨rfl, hx⟩
theorem Best_ok (gv : Value) (g : List (List Int)) (n : Nat) (w : World) (hg : Rows w gv g) (hc : checkG g (n : Int) = true) :
    Ct Tryd.prog 6 #[gv, .int .i64 (n : Int)] w fun u w' => u = .tuple #[.int .i64 (VV g n), .int .i64 0] ∧ Ex w w' := by
  obtain ⟨m, hm, h1, h8, hG⟩ := check_good hc
  obtain rfl : n = m := by omega
  refine enter (N := 14) (vs := [gv, .int .i64 (n : Int)]) Tryd.func6 rfl rfl rfl ?_
  repeat (first | (refine isO ?_; first | refine s_move ?_ | refine s_assign ?_) | (refine isC ?_; first | refine c_sr ?_ | refine c_seq ?_) | (refine l_th ?_))
  refine s_call ok_check rfl (check_ct gv g (n : Int) w hg) ?_
  rw [hc]
  rintro u w1 ⟨rfl, hx⟩
  repeat (first | (refine isO ?_; first | refine s_move ?_ | refine s_not rfl ?_) | (refine isC ?_; first | refine c_sr ?_ | refine c_th ?_ | refine c_iff rfl ?_) | (refine l_th ?_))
  refine s_call ok_each rfl (each_ct n _ [] w1 (Ints.nil _) (by omega) (by simp)) ?_
  rintro u w2 ⟨hI, hx2⟩
  rw [List.append_nil, upto_natl] at hI
  refine s_call ok_best rfl (best_ct gv u g n (List.range n) w2 ((hg.ex hx).ex hx2) hI hG (fun j hj => by simp at hj; simp [hj]) (by simp; omega)) ?_
  rintro v w3 ⟨rfl, hx3⟩
  repeat (first | (refine isO ?_; refine s_assign ?_) | (refine isC ?_; refine c_ret ?_) | (refine l_th ?_))
  exact ret2 rfl rfl rfl ⟨rfl, (hx.trans hx2).trans hx3⟩
theorem Proved_bad (gv : Value) (g : List (List Int)) (items : Int) (w : World) (hg : Rows w gv g) (hc : checkG g items = false) :
    Ct Tryd.prog 8 #[gv, .int .i64 items] w fun u w' => u = .tuple #[.slice none 0 0, .slice none 0 0, .int .i64 1] ∧ Ex w w' := by
  refine enter (N := 77) (vs := [gv, .int .i64 items]) Tryd.func8 rfl rfl rfl ?_
  repeat (first | (refine isO ?_; first | refine s_move ?_ | refine s_assign ?_) | (refine isC ?_; refine c_sr ?_) | (refine l_th ?_))
  refine s_call ok_Best rfl (Best_bad gv g items w hg hc) ?_
  rintro u w1 ⟨rfl, hx⟩
  repeat (first | (refine isO ?_; first | refine s_move ?_ | refine s_assign ?_ | (refine isBin ?_; refine s_neqT rfl rfl (by omega) ?_) | refine s_extract rfl rfl ?_) | (refine isC ?_; first | refine c_sr ?_ | refine c_seq ?_ | refine c_ift rfl ?_ | refine c_ret ?_) | (first | refine l_th ?_ | refine th_ret ?_))
  exact ret3 rfl rfl rfl rfl ⟨rfl, hx⟩

/-- A table of n numbers. -/
def tabn (n : Nat) (f : Nat → Int) : List Value := (List.range n).map (fun x => Value.int .i64 (f x))
theorem tabn_len (n : Nat) (f : Nat → Int) : (tabn n f).length = n := by simp [tabn]
theorem tabn_get {n : Nat} (f : Nat → Int) {x : Nat} (h : x < n) : (tabn n f)[x]? = some (.int .i64 (f x)) := by simp [tabn, h]
theorem tabn_set {n : Nat} (f : Nat → Int) {x : Nat} (y : Int) (h : x < n) : (tabn n f).set x (.int .i64 y) = tabn n (updF f x y) := by
  apply List.ext_getElem
  · simp [tabn]
  · intro i h1 h2
    rw [List.getElem_set]
    simp only [tabn, List.getElem_map, List.getElem_range, updF]
    by_cases hi : i = x
    · subst hi; simp
    · have : ¬ x = i := fun e => hi e.symm
      simp [this, hi]
theorem tabn_zero (n : Nat) : List.replicate n (Value.int .i64 0) = tabn n zeroF := rep_tab n
theorem tabn_congr {n : Nat} {f g : Nat → Int} (h : ∀ x, x < n → f x = g x) : tabn n f = tabn n g := by
  unfold tabn; apply List.map_congr_left; intro x hx; rw [h x (List.mem_range.1 hx)]
theorem at_tabn {w : World} {b n : Nat} {E : TypeId} {f g : Nat → Int} (h : ∀ x, x < n → f x = g x) (hA : At w b E (tabn n f)) : At w b E (tabn n g) := by rw [← tabn_congr h]; exact hA
theorem tabn_ints (n : Nat) (f : Nat → Int) : tabn n f = ((List.range n).map f).map (Value.int .i64) := by simp [tabn]

set_option maxHeartbeats 1000000 in
theorem Proved_ok (gv : Value) (g : List (List Int)) (n : Nat) (w : World) (hg : Rows w gv g) (hc : checkG g (n : Int) = true) :
    Ct Tryd.prog 8 #[gv, .int .i64 (n : Int)] w fun u w' => ∃ b1 b2, u = .tuple #[.slice (some ⟨b2, 0, none⟩) g.length g.length, .slice (some ⟨b1, 0, none⟩) n n, .int .i64 0] ∧ w.heap.size ≤ b1 ∧ b1 < b2 ∧
      At w' b1 3 (tabn n (pk g n)) ∧ At w' b2 3 (tabn g.length (fun i => uu g n i n)) ∧ Ex w w' := by
  obtain ⟨m, hm, h1, h8, hG⟩ := check_good hc
  obtain rfl : n = m := by omega
  have hfew := hG.few
  have hlen := hG.len
  have hbnd := hG.bnd
  obtain ⟨ti, hi1, hi2, hi3, hi4⟩ := in_int'
  have hV := bestF_bnd hG (List.range n)
  simp only [List.length_range] at hV
  refine enter (N := 77) (vs := [gv, .int .i64 (n : Int)]) Tryd.func8 rfl rfl rfl ?_
  repeat (first | (refine isO ?_; first | refine s_move ?_ | refine s_assign ?_) | (refine isC ?_; refine c_sr ?_) | (refine l_th ?_))
  refine s_call ok_Best rfl (Best_ok gv g n w hg hc) ?_
  rintro u w1 ⟨rfl, hx1⟩
  repeat (first | (refine isO ?_; first | refine s_move ?_ | refine s_assign ?_ | (refine isBin ?_; refine s_neqF rfl rfl (by omega) ?_) | refine s_extract rfl rfl ?_) | (refine isC ?_; first | refine c_sr ?_ | refine c_th ?_ | refine c_seq ?_ | refine c_iff rfl ?_) | (refine l_th ?_))
  refine s_make (n := n) sl_ints hi1 hi2 hi3 rfl hi4 rfl (by omega) ?_
  intro b1 w2 hb1e hA hx2 hs2
  rw [tabn_zero] at hA
  repeat (first | (refine isO ?_; first | refine s_move ?_ | refine s_assign ?_ | (refine isCall ?_; refine s_len sl_ints rfl ?_)) | (refine isC ?_; first | refine c_sr ?_ | refine c_seq ?_ | refine c_block ?_) | (refine l_th ?_))
  have hxx := hx1.trans hx2
  have hb1 := hx1.size
  rw [← hb1e] at hb1
  refine c_loop (γ := Nat) 2198956146944 (fun k => [(26, .int .i64 (k : Int))]) (fun k w' => k ≤ n ∧ At w' b1 3 (tabn n (fun x => if x < k then pk g n x else 0)) ∧ Ex w w') (fun k => n - k) 0
    ⟨rfl, trivial⟩ ⟨Nat.zero_le _, at_tabn (fun x _ => rfl) hA, hxx⟩ ?_
  rintro k ρ w3 ⟨hk, hA3, hx3⟩
  repeat (first | (refine isO ?_; (refine isBin ?_; refine s_lss rfl rfl ?_)) | (refine isC ?_; first | refine c_sr ?_ | refine c_seq ?_) | (refine l_th ?_))
  refine c_ifd rfl (fun h => ?_) (fun h => ?_)
  · have hk' : k < n := by omega
    repeat (first | (refine isO ?_; first | refine s_move ?_ | refine s_assign ?_) | (refine isC ?_; first | refine c_sr ?_ | refine c_th ?_ | refine c_seq ?_ | refine c_region ?_ | refine c_block ?_) | (refine l_th ?_))
    refine s_bs1 (u := .int .i64 (k : Int)) sl_ints in_int rfl rfl ?_
    intro bC w4 hbC hC hx4 hs4
    have hC' : Ints w4 (.slice (some ⟨bC, 0, none⟩) 1 1) [(k : Int)] := hC.ints (l := [(k : Int)]) (by simp) (by simp)
    refine s_call ok_each rfl (each_ct n _ _ w4 hC' (by omega) (by simp)) ?_
    rintro u w5 ⟨hI, hx5⟩
    rw [upto_natl1] at hI
    have hx35 := (hx3.trans hx4).trans hx5
    refine s_call ok_best rfl (best_ct gv u g n (List.range n ++ [k]) w5 (hg.ex hx35) hI hG ?_ (by simp; omega)) ?_
    · intro j hj
      simp at hj
      by_cases hjn : j < n
      · rw [List.getD_eq_getElem?_getD, List.getElem?_append_left (by simp; omega)]; simp [hjn]
      · obtain rfl : j = n := by omega
        rw [List.getD_eq_getElem?_getD, List.getElem?_append_right (by simp)]; simp; omega
    rintro v w6 ⟨rfl, hx6⟩
    have hA6 := ((hA3.ex hx4).ex hx5).ex hx6
    have hB := bestF_bnd hG (List.range n ++ [k])
    simp only [List.length_append, List.length_range, List.length_singleton] at hB
    refine s_move ?_
    refine s_sub (a := bestF g (List.range n ++ [k])) (b := VV g n) rfl rfl ⟨by unfold VV; omega, by unfold VV; omega⟩ ?_
    refine s_iaA (n := k) sl_ints ty_int rfl rfl hk' ?_
    refine s_stA (n := k) (u := .int .i64 (pk g n k)) ty_int rfl rfl rfl hA6 (by rw [tabn_len]; exact hk') ?_
    intro w7 hA7 hg7
    have hx7 : Ex w w7 := (hx35.trans hx6).store hg7 hb1
    rw [tabn_set _ _ hk'] at hA7
    repeat (first | (refine isO ?_; first | refine s_move ?_ | (refine isBin ?_; refine s_inc rfl (by omega) ?_)) | (refine isC ?_; refine c_region ?_) | (first | refine l_th ?_ | refine l_nil ?_))
    refine loop_end (k + 1) (by (repeat (first | exact agree_refl _ _ | refine agree_upd rfl ?_ | refine agree_ext rfl ?_ | refine agree_mask rfl ?_))) ⟨rfl, trivial⟩ ⟨hk', ?_, hx7⟩ (by omega)
    rw [tabn_congr] at hA7
    · exact hA7
    · intro x _
      unfold updF
      by_cases h5 : x = k
      · simp [h5]
      · simp only [h5, if_false]
        by_cases h6 : x < k
        · simp [h6, Nat.lt_succ_of_lt h6]
        · have : ¬ x < k + 1 := by omega
          simp [h6, this]
  · have hkn : k = n := by omega
    subst hkn
    have hA4 : At w3 b1 3 (tabn k (pk g k)) := by
      rw [tabn_congr (g := pk g k) (fun x hx => by simp [hx])] at hA3; exact hA3
    have hg3 := hg.ex hx3
    repeat (first | (refine isO ?_; first | refine s_move ?_ | (refine isCall ?_; refine s_lenR sl_rows rfl (by assumption) ?_)) | (refine isC ?_; first | refine c_sr ?_ | refine c_exit ?_))
    refine s_make (n := g.length) sl_ints hi1 hi2 hi3 rfl hi4 rfl (by omega) ?_
    intro b2 w4 hb2e hB hx4 hs4
    rw [tabn_zero] at hB
    have hb12 : b1 < b2 := by rw [hb2e]; exact hA4.lt
    have hxw4 := hx3.trans hx4
    have hg4 := hg.ex hxw4
    have hA4' := hA4.ex hx4
    have hb2w : w.heap.size ≤ b2 := by omega
    repeat (first | (refine isO ?_; first | refine s_move ?_ | refine s_assign ?_ | (refine isCall ?_; refine s_lenR sl_rows rfl (by assumption) ?_)) | (refine isC ?_; first | refine c_sr ?_ | refine c_seq ?_ | refine c_block ?_) | (refine l_th ?_))
    refine c_loop (γ := Nat) 37778931792588417539584 (fun i => [(46, .int .i64 (i : Int))]) (fun i w' => i ≤ g.length ∧ At w' b1 3 (tabn k (pk g k)) ∧ At w' b2 3 (tabn g.length (fun x => if x < i then uu g k x k else 0)) ∧ Ex w w') (fun i => g.length - i) 0
      ⟨rfl, trivial⟩ ⟨Nat.zero_le _, hA4', at_tabn (fun x _ => rfl) hB, hxw4⟩ ?_
    rintro i ρ2 w5 ⟨hi, hA5, hB5, hx5⟩
    have hg5 := hg.ex hx5
    repeat (first | (refine isO ?_; (refine isBin ?_; refine s_lss rfl rfl ?_)) | (refine isC ?_; first | refine c_sr ?_ | refine c_seq ?_) | (refine l_th ?_))
    refine c_ifd rfl (fun h2 => ?_) (fun h2 => ?_)
    · have hi' : i < g.length := by omega
      have hli := hlen i hi'
      repeat (first | (refine isO ?_; refine s_move ?_) | (refine isC ?_; first | refine c_sr ?_ | refine c_th ?_ | refine c_seq ?_ | refine c_block ?_))
      refine s_ixR0 sl_rows ty_ints hg hx5 rfl rfl rfl hi' ?_
      intro _ lu hlu
      repeat (first | (refine isO ?_; first | refine s_move ?_ | refine s_assign ?_) | (refine isC ?_; refine c_sr ?_) | (refine l_th ?_))
      refine s_lenI sl_ints rfl (hlu.ex hx5) ?_
      repeat (first | (refine isO ?_; refine s_move ?_) | (refine isC ?_; refine c_block ?_) | (refine l_th ?_))
      refine c_loop (γ := Nat) 18889456924279326119936 (fun j => [(53, .int .i64 (j : Int))]) (fun j w' => j ≤ k ∧ At w' b1 3 (tabn k (pk g k)) ∧ At w' b2 3 (tabn g.length (fun x => if x < i then uu g k x k else if x = i then uu g k i j else 0)) ∧ Ex w w') (fun j => k - j) 0
        ⟨rfl, trivial⟩ ⟨Nat.zero_le _, hA5, ?_, hx5⟩ ?_
      · rw [tabn_congr] at hB5
        · exact hB5
        · intro x _
          by_cases h5 : x < i
          · simp [h5]
          · by_cases h6 : x = i
            · simp [h6, uu]
            · simp [h5, h6]
      rintro j ρ3 w6 ⟨hj, hA6, hB6, hx6⟩
      have hlu6 := hlu.ex hx6
      repeat (first | (refine isO ?_; (refine isBin ?_; refine s_lss rfl rfl ?_)) | (refine isC ?_; first | refine c_sr ?_ | refine c_seq ?_) | (refine l_th ?_))
      refine c_ifd rfl (fun h3 => ?_) (fun h3 => ?_)
      · have hj' : j < k := by omega
        repeat (first | (refine isO ?_; first | refine s_move ?_ | refine s_assign ?_ | (refine isIA ?_; refine s_ixI sl_ints ty_int rfl rfl rfl (by assumption) (by omega) ?_; intro _)) | (refine isC ?_; first | refine c_sr ?_ | refine c_th ?_ | refine c_seq ?_ | refine c_block ?_) | (refine l_th ?_))
        refine c_draw 15 8 [(0, true), (1, true), (2, true), (3, true), (4, true), (5, true), (6, true), (7, true), (8, true), (9, true), (10, true), (11, true), (12, false), (13, false), (14, true), (15, false)] mixed (by kernel_rfl) ?_
        have hA6d := hA6.ex (Ex.drew w6)
        have hB6d := hB6.ex (Ex.drew w6)
        have hgj := hbnd i j
        have hpj := pk_bnd hG j
        refine d_move rfl ?_
        refine d_move rfl ?_
        refine d_move rfl ?_
        refine d_move rfl ?_
        refine d_iaA (n := i) rfl sl_ints ty_int rfl rfl hi' ?_
        refine d_ldA (cs := tabn g.length _) (u := .int .i64 (uu g k i j)) rfl ty_int rfl hB6d (by rw [tabn_get _ hi']; simp) ?_
        refine d_move rfl ?_
        refine d_move rfl ?_
        refine d_move rfl ?_
        refine d_iaA (n := j) rfl sl_ints ty_int rfl rfl hj' ?_
        refine d_ldA (cs := tabn k (pk g k)) (u := .int .i64 (pk g k j)) rfl ty_int rfl hA6d (tabn_get _ hj') ?_
        refine d_sub (a := gain g i j) (b := pk g k j) rfl rfl rfl ⟨by omega, by omega⟩ ?_
        refine d_chain rfl ?_
        refine s_bs1 (u := .int .i64 (gain g i j - pk g k j)) sl_ints in_int rfl rfl ?_
        intro bC w7 hbC hC hx7 hs7
        refine l_nil ⟨rfl, .inr hx7, ?_⟩
        refine d_chain rfl ?_
        have hC' : Ints w7 (.slice (some ⟨bC, 0, none⟩) 1 1) [gain g i j - pk g k j] := hC.ints (l := [gain g i j - pk g k j]) (by simp) (by simp)
        refine s_call ok_most rfl (most_ct (uu g k i j) _ _ w7 hC') ?_
        rintro u w8 ⟨rfl, rfl⟩
        refine l_nil ⟨rfl, .inr hx7, ?_⟩
        refine d_iaA (n := i) rfl sl_ints ty_int rfl rfl hi' ?_
        refine d_chain rfl ?_
        refine s_stA (n := i) (u := .int .i64 (uu g k i (j + 1))) ty_int rfl rfl rfl (hB6d.ex hx7) (by rw [tabn_len]; exact hi') ?_
        intro w9 hB9 hg9
        refine l_nil ⟨rfl, .inl rfl, ?_⟩
        refine d_nil ?_
        have hx69 : Ex w w9 := ((hx6.trans (Ex.drew w6)).trans hx7).store hg9 hb2w
        have hA9 : At w9 b1 3 (tabn k (pk g k)) := (hA6d.ex hx7).grown hg9 (fun e => by have := Option.some.inj e; omega)
        rw [tabn_set _ _ hi'] at hB9
        repeat (first | (refine isO ?_; first | refine s_move ?_ | (refine isBin ?_; refine s_inc rfl (by omega) ?_)) | (refine isC ?_; refine c_region ?_) | (refine l_th ?_))
        refine loop_end (j + 1) (by (repeat (first | exact agree_refl _ _ | refine agree_upd rfl ?_ | refine agree_ext rfl ?_ | refine agree_mask rfl ?_))) ⟨rfl, trivial⟩ ⟨hj', hA9, ?_, hx69⟩ (by omega)
        rw [tabn_congr] at hB9
        · exact hB9
        · intro x _
          unfold updF
          by_cases h5 : x = i
          · simp [h5]
          · simp [h5]
      · have hjk : j = k := by omega
        subst hjk
        repeat (first | (refine isO ?_; first | refine s_move ?_ | (refine isBin ?_; refine s_inc rfl (by omega) ?_)) | (refine isC ?_; first | refine c_region ?_ | refine c_exit ?_) | (refine l_th ?_))
        refine loop_end (i + 1) (by (repeat (first | exact agree_refl _ _ | refine agree_upd rfl ?_ | refine agree_ext rfl ?_ | refine agree_mask rfl ?_))) ⟨rfl, trivial⟩ ⟨hi', hA6, ?_, hx6⟩ (by omega)
        rw [tabn_congr] at hB6
        · exact hB6
        · intro x _
          by_cases h5 : x < i
          · simp [h5, Nat.lt_succ_of_lt h5]
          · by_cases h6 : x = i
            · simp [h6]
            · have : ¬ x < i + 1 := by omega
              simp [h5, h6, this]
    · have hin : i = g.length := by omega
      repeat (first | (refine isO ?_; first | refine s_move ?_ | refine s_assign ?_) | (refine isC ?_; first | refine c_sr ?_ | refine c_ret ?_ | refine c_exit ?_) | (refine l_th ?_))
      refine ret3 rfl rfl rfl rfl ⟨b1, b2, rfl, hb1, hb12, hA5, ?_, hx5⟩
      rw [tabn_congr (g := fun x => uu g k x k) (fun x hx => by rw [hin]; simp [hx])] at hB5
      exact hB5
end Go.Proofs.YtifbgpkjbciblaaDoor.Sal
end
section
/- salesroomlaw10: may, without, alive. -/
set_option maxRecDepth 100000
namespace Go.Proofs.YtifbgpkjbciblaaDoor.Sal
open Go.RowKit
attribute [local irreducible] Go.Code.wpIn Go.wpListIn Ct Ints Rows Sl At Rw WJ
set_option linter.all false

def inr (x : Int) : Bool := decide (-1000000 ≤ x) && decide (x ≤ 1000000)
/-- The first j numbers of a list are -1. -/
def low (l : List Int) (j : Nat) : List Int := (List.range l.length).map (fun k => if k < j then -1 else l.getD k 0)
def without (g : List (List Int)) (i : Nat) : List (List Int) := g.set i (low (g.getD i []) (g.getD i []).length)
end Go.Proofs.YtifbgpkjbciblaaDoor.Sal
end
section
/- salesroomlaw10.alive. -/
set_option maxRecDepth 100000
namespace Go.Proofs.YtifbgpkjbciblaaDoor.Sal
open Go.RowKit
attribute [local irreducible] Go.Code.wpIn Go.wpListIn Ct Ints Rows Sl At Rw WJ
set_option linter.all false

abbrev gA : List (List Int) := [[5, 2], [4, 0]]
abbrev gB : List (List Int) := [[-1]]
/-! ### What laws use of all these -/
def pL (g : List (List Int)) (n : Nat) : List Int := (List.range n).map (pk g n)
def uL (g : List (List Int)) (n : Nat) : List Int := (List.range g.length).map (fun i => uu g n i n)
theorem pL_len (g : List (List Int)) (n : Nat) : (pL g n).length = n := by simp [pL]
theorem uL_len (g : List (List Int)) (n : Nat) : (uL g n).length = g.length := by simp [uL]
end Go.Proofs.YtifbgpkjbciblaaDoor.Sal
end
section
/- How the arguments of the laws of the weights read. -/
set_option maxRecDepth 100000
namespace Go.Proofs.YtifbgpkjbciblaaDoor.Sal
open Go.RowKit Go.Deep Go.ChangeShapes Go.WideShapes Go.ChangeAt Go.Joins
set_option linter.all false
theorem own : ownKnob Tryd.prog.godebug = none := by kernel_rfl
theorem laidOut : laidOutB Tryd.prog = true := by kernel_rfl
section
variable {H : Type} {enc : TypeId × Value → H} {w : World} {base : Nat} {spare : Nat → Bool} {held : Bool} {r : Reach} {b0 : Nat} {v : Value} {d : DataW H} {p : List MemPlace}
theorem open_gains (hv : Value.okWide Tryd.prog w r b0 24 v) (h : DataW.Trod enc Tryd.prog w base spare held 24 v d p) (hw : ∀ n ∈ d.weights Tryd.prog 24, n ≤ reachBytes) :
    ∃ (u : Value) (g : List (List Int)) (n : Int), v = .agg #[u, .int .i64 n] ∧ Rows w u g ∧ In64 n ∧ ∀ l ∈ g, ∀ x ∈ l, In64 x := by
  obtain ⟨v0, v1, y0, y1, m, rfl, rfl, rfl, h0, h1⟩ := open_agg2 Tryd.underlying24 (by kernel_rfl) (by kernel_rfl) hv h
  have hw0 : ∀ n ∈ y0.1.weights Tryd.prog 22, n ≤ reachBytes := fun n hn => hw n (by
    simp only [DataW.weights, Tryd.underlying24, List.map, DataW.weightsEach, List.mem_append]
    exact .inl hn)
  obtain ⟨g, hg, hgi⟩ := read_rows Tryd.underlying22 Tryd.underlying30 Tryd.underlying3 (by kernel_rfl) (by kernel_rfl) (of_decide_eq_true (by kernel_rfl)) (of_decide_eq_true (by kernel_rfl)) h0 hw0
  obtain ⟨k, hk, _, hwf⟩ := DataW.trod_int Tryd.underlying3 h1
  simp only [List.cons.injEq, and_true] at hk
  subst hk
  exact ⟨v0, g, k, rfl, hg, in64_of_wf hwf, hgi⟩
end
end Go.Proofs.YtifbgpkjbciblaaDoor.Sal
end
section
/- Plain: counts, Hall's theorem (by Rado's proof), the duality of the best matching. -/
set_option maxRecDepth 100000
namespace Go.Proofs.YtifbgpkjbciblaaDoor.Sal
set_option linter.all false

/-! ### Counts -/
def cnt (s : Nat → Bool) : Nat → Nat
  | 0 => 0
  | n + 1 => cnt s n + (if s n = true then 1 else 0)
theorem cnt_le {s t : Nat → Bool} : ∀ (n : Nat), (∀ i, i < n → s i = true → t i = true) → cnt s n ≤ cnt t n
  | 0, _ => Nat.le_refl _
  | n + 1, h => by
    have h1 := cnt_le n (fun i hi => h i (by omega))
    have h2 := h n (by omega)
    unfold cnt
    by_cases hs : s n = true
    · simp [hs, h2 hs]; omega
    · simp [hs]; omega
theorem cnt_congr {s t : Nat → Bool} (n : Nat) (h : ∀ i, i < n → s i = t i) : cnt s n = cnt t n :=
  Nat.le_antisymm (cnt_le n fun i hi hs => by rw [← h i hi]; exact hs) (cnt_le n fun i hi hs => by rw [h i hi]; exact hs)
theorem cnt_modular (s t : Nat → Bool) : ∀ n, cnt (fun i => s i || t i) n + cnt (fun i => s i && t i) n = cnt s n + cnt t n
  | 0 => rfl
  | n + 1 => by
    have := cnt_modular s t n
    unfold cnt
    cases s n <;> cases t n <;> simp <;> omega
theorem cnt_bound (s : Nat → Bool) : ∀ n, cnt s n ≤ n
  | 0 => Nat.le_refl _
  | n + 1 => by have := cnt_bound s n; unfold cnt; split <;> omega
theorem cnt_drop {s : Nat → Bool} {i : Nat} : ∀ {n : Nat}, i < n → s i = true → cnt (fun j => s j && !(j == i)) n + 1 = cnt s n
  | n + 1, hi, hs => by
    by_cases h : i = n
    · subst h
      have e : cnt (fun j => s j && !(j == i)) i = cnt s i := cnt_congr i fun j hj => by
        have : (j == i) = false := by simp; omega
        simp [this]
      simp [cnt, hs, e]
    · have ih := cnt_drop (n := n) (by omega) hs
      have : (n == i) = false := by simp; omega
      simp only [cnt, this]
      simp
      omega
theorem cnt_pos {s : Nat → Bool} : ∀ {n : Nat}, 0 < cnt s n → ∃ i, i < n ∧ s i = true
  | n + 1, h => by
    by_cases hs : s n = true
    · exact ⟨n, by omega, hs⟩
    · simp [cnt, hs] at h
      obtain ⟨i, hi, h2⟩ := cnt_pos h
      exact ⟨i, by omega, h2⟩
theorem cnt_zero {s : Nat → Bool} : ∀ (n : Nat), (∀ i, i < n → s i = false) → cnt s n = 0
  | 0, _ => rfl
  | n + 1, h => by
    have := cnt_zero n (fun i hi => h i (by omega))
    have h2 := h n (by omega)
    simp [cnt, h2, this]
/-! ### Hall's theorem -/
noncomputable def nb (R : Nat → Nat → Bool) (N : Nat) (s : Nat → Bool) (k : Nat) : Bool := @decide (∃ i, i < N ∧ s i = true ∧ R i k = true) (Classical.propDecidable _)
theorem nb_iff {R : Nat → Nat → Bool} {N : Nat} {s : Nat → Bool} {k : Nat} : nb R N s k = true ↔ ∃ i, i < N ∧ s i = true ∧ R i k = true := by
  unfold nb; exact @decide_eq_true_iff _ (Classical.propDecidable _)
def Hall (R : Nat → Nat → Bool) (N M : Nat) : Prop := ∀ s, cnt s N ≤ cnt (nb R N s) M
def edges (R : Nat → Nat → Bool) (M : Nat) : Nat → Nat
  | 0 => 0
  | n + 1 => edges R M n + cnt (R n) M
def cut (R : Nat → Nat → Bool) (i k : Nat) : Nat → Nat → Bool := fun i' k' => R i' k' && !(i' == i && k' == k)
theorem cut_other {R : Nat → Nat → Bool} {i k i' : Nat} (h : i' ≠ i) : cut R i k i' = R i' := by
  funext k'; have : (i' == i) = false := by simp [h]
  simp [cut, this]
theorem cut_same {R : Nat → Nat → Bool} {i k : Nat} : cut R i k i = fun k' => R i k' && !(k' == k) := by
  funext k'; simp [cut]
theorem edges_cut {R : Nat → Nat → Bool} {M i k : Nat} (hk : k < M) (hR : R i k = true) : ∀ {N : Nat}, i < N → edges (cut R i k) M N < edges R M N
  | N + 1, hi => by
    have same : ∀ N', N' ≤ i → edges (cut R i k) M N' = edges R M N' := by
      intro N' hN'
      induction N' with
      | zero => rfl
      | succ n ih =>
        simp only [edges]
        rw [ih (by omega), cut_other (by omega)]
    by_cases h : i = N
    · subst h
      simp only [edges]
      rw [same i (Nat.le_refl _), cut_same]
      have := cnt_drop (s := R i) hk hR
      omega
    · have ih := edges_cut (N := N) hk hR (by omega)
      simp only [edges]
      rw [cut_other (by omega)]
      omega
theorem cut_hall {R : Nat → Nat → Bool} {N M i k1 k2 : Nat} (hH : Hall R N M) (hi : i < N) (hne : k1 ≠ k2) (h1 : ¬ Hall (cut R i k1) N M) (h2 : ¬ Hall (cut R i k2) N M) : False := by
  have pick : ∀ k, ¬ Hall (cut R i k) N M → ∃ s, cnt (nb (cut R i k) N s) M < cnt s N ∧ s i = true := by
    intro k hk
    unfold Hall at hk
    obtain ⟨s, hs⟩ := Classical.not_forall.1 hk
    refine ⟨s, by omega, ?_⟩
    cases hsi : s i with
    | true => rfl
    | false =>
      exfalso
      apply hs
      refine Nat.le_trans (hH s) (cnt_le M fun x _ hx => ?_)
      rw [nb_iff] at hx ⊢
      obtain ⟨j, hj, hsj, hR⟩ := hx
      refine ⟨j, hj, hsj, ?_⟩
      rw [cut_other (fun e => by rw [e, hsi] at hsj; cases hsj)]
      exact hR
  obtain ⟨s1, c1, i1⟩ := pick k1 h1
  obtain ⟨s2, c2, i2⟩ := pick k2 h2
  have a1 := hH (fun j => s1 j || s2 j)
  have a2 := hH (fun j => (s1 j && s2 j) && !(j == i))
  have m1 := cnt_modular s1 s2 N
  have m2 := cnt_modular (nb (cut R i k1) N s1) (nb (cut R i k2) N s2) M
  have d := cnt_drop (s := fun j => s1 j && s2 j) hi (by simp [i1, i2])
  have b1 : cnt (nb R N fun j => s1 j || s2 j) M ≤ cnt (fun x => nb (cut R i k1) N s1 x || nb (cut R i k2) N s2 x) M := by
    refine cnt_le M fun x _ hx => ?_
    obtain ⟨j, hj, hsj, hR⟩ := nb_iff.1 hx
    simp only [Bool.or_eq_true] at hsj ⊢
    by_cases hji : j = i
    · subst hji
      by_cases hx1 : x = k1
      · right
        refine nb_iff.2 ⟨j, hj, i2, ?_⟩
        have : (x == k2) = false := by simp; omega
        simp [cut, hR, this]
      · left
        refine nb_iff.2 ⟨j, hj, i1, ?_⟩
        have : (x == k1) = false := by simp; omega
        simp [cut, hR, this]
    · rcases hsj with h | h
      · exact .inl (nb_iff.2 ⟨j, hj, h, by rw [cut_other hji]; exact hR⟩)
      · exact .inr (nb_iff.2 ⟨j, hj, h, by rw [cut_other hji]; exact hR⟩)
  have b2 : cnt (nb R N fun j => (s1 j && s2 j) && !(j == i)) M ≤ cnt (fun x => nb (cut R i k1) N s1 x && nb (cut R i k2) N s2 x) M := by
    refine cnt_le M fun x _ hx => ?_
    obtain ⟨j, hj, hsj, hR⟩ := nb_iff.1 hx
    simp only [Bool.and_eq_true, Bool.not_eq_true', beq_eq_false_iff_ne] at hsj ⊢
    exact ⟨nb_iff.2 ⟨j, hj, hsj.1.1, by rw [cut_other hsj.2]; exact hR⟩, nb_iff.2 ⟨j, hj, hsj.1.2, by rw [cut_other hsj.2]; exact hR⟩⟩
  omega
theorem cnt_one (i n : Nat) (h : i < n) : cnt (fun j => j == i) n = 1 := by
  have h1 := cnt_drop (s := fun j => j == i) h (by simp)
  have h2 : cnt (fun j => (j == i) && !(j == i)) n = 0 := cnt_zero n fun j _ => by simp
  omega
theorem hall_match : ∀ (e : Nat) (R : Nat → Nat → Bool) (N M : Nat), edges R M N = e → Hall R N M → ∃ f : Nat → Nat, (∀ i, i < N → f i < M ∧ R i (f i) = true) ∧ ∀ i j, i < N → j < N → f i = f j → i = j := by
  intro e
  induction e using Nat.strongRecOn with
  | _ e ih =>
    intro R N M he hH
    by_cases hex : ∃ i k1 k2, i < N ∧ k1 < M ∧ k2 < M ∧ k1 ≠ k2 ∧ R i k1 = true ∧ R i k2 = true
    · obtain ⟨i, k1, k2, hi, h1, h2, hne, r1, r2⟩ := hex
      have step : ∀ k, k < M → R i k = true → Hall (cut R i k) N M → ∃ f : Nat → Nat, (∀ i, i < N → f i < M ∧ R i (f i) = true) ∧ ∀ i j, i < N → j < N → f i = f j → i = j := by
        intro k hk hR hc
        obtain ⟨f, hf, hinj⟩ := ih _ (by have := edges_cut hk hR hi; omega) (cut R i k) N M rfl hc
        exact ⟨f, fun j hj => ⟨(hf j hj).1, by have := (hf j hj).2; simp only [cut, Bool.and_eq_true] at this; exact this.1⟩, hinj⟩
      by_cases c1 : Hall (cut R i k1) N M
      · exact step k1 h1 r1 c1
      · by_cases c2 : Hall (cut R i k2) N M
        · exact step k2 h2 r2 c2
        · exact absurd (cut_hall hH hi hne c1 c2) id
    · have one : ∀ i, i < N → ∃ k, k < M ∧ R i k = true := by
        intro i hi
        have := hH (fun j => j == i)
        rw [cnt_one i N hi] at this
        obtain ⟨k, hk, hn⟩ := cnt_pos this
        obtain ⟨j, _, hj, hR⟩ := nb_iff.1 hn
        simp at hj; subst hj
        exact ⟨k, hk, hR⟩
      have hch : ∀ i, ∃ k, i < N → k < M ∧ R i k = true := fun i => by
        by_cases hi : i < N
        · obtain ⟨k, h⟩ := one i hi; exact ⟨k, fun _ => h⟩
        · exact ⟨0, fun h => absurd h hi⟩
      refine ⟨fun i => Classical.choose (hch i), fun i hi => Classical.choose_spec (hch i) hi, fun i j hi hj hij => ?_⟩
      have hi2 := Classical.choose_spec (hch i) hi
      have hj2 := Classical.choose_spec (hch j) hj
      dsimp only at hij
      rw [← hij] at hj2
      generalize Classical.choose (hch i) = k at *
      apply Classical.byContradiction
      intro hne
      have hh := hH (fun x => (x == i) || (x == j))
      have m := cnt_modular (fun x => x == i) (fun x => x == j) N
      rw [cnt_one i N hi, cnt_one j N hj] at m
      have z : cnt (fun x => (x == i) && (x == j)) N = 0 := cnt_zero N fun x _ => by
        by_cases hx : x = i
        · have : (x == j) = false := by simp; omega
          simp [this]
        · have : (x == i) = false := by simp [hx]
          simp [this]
      have up : cnt (nb R N fun x => (x == i) || (x == j)) M ≤ cnt (fun x => x == k) M := by
        refine cnt_le M fun x hx hn => ?_
        obtain ⟨y, hy, hyy, hR⟩ := nb_iff.1 hn
        simp only [Bool.or_eq_true, beq_iff_eq] at hyy
        simp only [beq_iff_eq]
        apply Classical.byContradiction
        intro hxk
        refine hex ⟨y, x, k, hy, hx, hi2.1, hxk, hR, ?_⟩
        rcases hyy with h | h
        · rw [h]; exact hi2.2
        · rw [h]; exact hj2.2
      rw [cnt_one k M hi2.1] at up
      omega

/-! ### Sums -/
def sm (f : Nat → Int) : Nat → Int
  | 0 => 0
  | n + 1 => sm f n + f n
theorem sm_congr {f g : Nat → Int} : ∀ (n : Nat), (∀ i, i < n → f i = g i) → sm f n = sm g n
  | 0, _ => rfl
  | n + 1, h => by simp only [sm]; rw [sm_congr n (fun i hi => h i (by omega)), h n (by omega)]
theorem sm_le {f g : Nat → Int} : ∀ (n : Nat), (∀ i, i < n → f i ≤ g i) → sm f n ≤ sm g n
  | 0, _ => Int.le_refl _
  | n + 1, h => by
    have h1 := sm_le n (fun i hi => h i (by omega))
    have h2 := h n (by omega)
    simp only [sm]; omega
theorem sm_add (f g : Nat → Int) : ∀ n, sm (fun i => f i + g i) n = sm f n + sm g n
  | 0 => rfl
  | n + 1 => by simp only [sm]; rw [sm_add f g n]; omega
theorem sm_const (c : Int) : ∀ n, sm (fun _ => c) n = c * (n : Int)
  | 0 => by simp [sm]
  | n + 1 => by
    simp only [sm]; rw [sm_const c n]
    have : c * ((n + 1 : Nat) : Int) = c * n + c := by rw [Int.natCast_add, Int.mul_add]; simp
    omega
theorem sm_nonneg {f : Nat → Int} (n : Nat) (h : ∀ i, i < n → 0 ≤ f i) : 0 ≤ sm f n := by
  have := sm_le (f := fun _ => 0) n h
  rw [sm_const] at this; omega
theorem sm_sub (f g : Nat → Int) (n : Nat) : sm (fun i => f i - g i) n = sm f n - sm g n := by
  have := sm_add (fun i => f i - g i) g n
  rw [sm_congr (g := f) n (fun i _ => by omega)] at this
  omega
theorem sm_cnt (s : Nat → Bool) : ∀ n, sm (fun i => if s i = true then 1 else 0) n = (cnt s n : Int)
  | 0 => rfl
  | n + 1 => by simp only [sm, cnt]; rw [sm_cnt s n]; split <;> omega
theorem sm_mem_le {f : Nat → Int} {n i : Nat} (hi : i < n) (h : ∀ i, i < n → 0 ≤ f i) : f i ≤ sm f n := by
  induction n with
  | zero => omega
  | succ n ih =>
    simp only [sm]
    by_cases hin : i = n
    · subst hin
      have := sm_nonneg i (fun j hj => h j (by omega)); omega
    · have := ih (by omega) (fun j hj => h j (by omega))
      have := h n (by omega); omega
/-- The sum with one place let out. -/
theorem sm_out (f : Nat → Int) {i : Nat} : ∀ {n : Nat}, i < n → sm (fun j => if j = i then 0 else f j) n + f i = sm f n
  | n + 1, hi => by
    by_cases h : i = n
    · subst h
      have e : sm (fun j => if j = i then 0 else f j) i = sm f i := sm_congr i fun j hj => by
        have : ¬ j = i := by omega
        simp [this]
      simp only [sm, e]; simp
    · have ih := sm_out f (n := n) (i := i) (by omega)
      have : ¬ n = i := by omega
      simp only [sm, this, if_false]; omega
theorem sm_mono_len {f : Nat → Int} {m n : Nat} (h : m ≤ n) (h0 : ∀ i, i < n → 0 ≤ f i) : sm f m ≤ sm f n := by
  induction n with
  | zero => obtain rfl : m = 0 := by omega
            exact Int.le_refl _
  | succ n ih =>
    by_cases hm : m = n + 1
    · subst hm; exact Int.le_refl _
    · have := ih (by omega) (fun i hi => h0 i (by omega))
      have := h0 n (by omega)
      simp only [sm]; omega

/-! ### Matchings of columns to rows; duals -/
def Inj (τ : Nat → Nat) (L : Nat) : Prop := ∀ j k, j < L → k < L → τ j = τ k → j = k
theorem inj_sum : ∀ (L : Nat) (τ : Nat → Nat) (u : Nat → Int) (m : Nat), Inj τ L → (∀ i, i < m → 0 ≤ u i) → sm (fun j => if τ j < m then u (τ j) else 0) L ≤ sm u m
  | 0, _, u, m, _, h0 => sm_nonneg m h0
  | L + 1, τ, u, m, hi, h0 => by
    simp only [sm]
    by_cases hm : τ L < m
    · have ih := inj_sum L τ (fun j => if j = τ L then 0 else u j) m (fun j k hj hk e => hi j k (by omega) (by omega) e) (fun i him => by
        by_cases h : i = τ L
        · simp [h]
        · simp [h]; exact h0 i him)
      have e : sm (fun j => if τ j < m then (fun j => if j = τ L then 0 else u j) (τ j) else 0) L = sm (fun j => if τ j < m then u (τ j) else 0) L := sm_congr L fun j hj => by
        have : ¬ τ j = τ L := fun e => by have := hi j L (by omega) (by omega) e; omega
        simp [this]
      rw [e] at ih
      have o := sm_out u hm
      simp only [hm, if_true]; omega
    · have ih := inj_sum L τ u m (fun j k hj hk e => hi j k (by omega) (by omega) e) h0
      simp only [hm, if_false]; omega
/-- A map of a square onto itself keeps a sum. -/
theorem perm_sum {N : Nat} {τ : Nat → Nat} (hi : Inj τ N) (hr : ∀ j, j < N → τ j < N) (u : Nat → Int) (h0 : ∀ i, i < N → 0 ≤ u i) : sm (fun j => u (τ j)) N = sm u N := by
  have a := inj_sum N τ u N hi h0
  rw [sm_congr (g := fun j => u (τ j)) N (fun j hj => by simp [hr j hj])] at a
  have b := inj_sum N τ (fun i => sm u N - u i) N hi (fun i hi' => by have := sm_mem_le hi' h0; omega)
  rw [sm_congr (g := fun j => sm u N - u (τ j)) N (fun j hj => by simp [hr j hj])] at b
  rw [sm_sub (fun _ => sm u N) (fun j => u (τ j)) N, sm_sub (fun _ => sm u N) u N] at b
  omega
structure Dual (G : Nat → Nat → Int) (m L : Nat) (u p : Nat → Int) : Prop where
  u0 : ∀ i, i < m → 0 ≤ u i
  p0 : ∀ j, j < L → 0 ≤ p j
  cov : ∀ i j, i < m → j < L → G i j ≤ u i + p j
/-- What a map of columns to rows gains: where the row is none, or nothing is gained, 0. -/
def wt (G : Nat → Nat → Int) (m : Nat) (τ : Nat → Nat) (j : Nat) : Int := if τ j < m then (if 0 ≤ G (τ j) j then G (τ j) j else 0) else 0
def val (G : Nat → Nat → Int) (m L : Nat) (τ : Nat → Nat) : Int := sm (wt G m τ) L
theorem weak {G : Nat → Nat → Int} {m L : Nat} {u p : Nat → Int} {τ : Nat → Nat} (hi : Inj τ L) (hd : Dual G m L u p) : val G m L τ ≤ sm u m + sm p L := by
  have a := inj_sum L τ u m hi hd.u0
  have b : val G m L τ ≤ sm (fun j => (if τ j < m then u (τ j) else 0) + p j) L := sm_le L fun j hj => by
    unfold wt
    have := hd.p0 j hj
    by_cases h : τ j < m
    · have := hd.cov (τ j) j h hj
      have := hd.u0 (τ j) h
      simp only [h, if_true]
      split <;> omega
    · simp only [h, if_false]; omega
  rw [sm_add] at b
  omega
/-- The square: from any numbers that cover, by lowering, to numbers with a map along which they are just reached. -/
theorem square {N : Nat} {G : Nat → Nat → Int} (hG : ∀ i j, i < N → j < N → 0 ≤ G i j) : ∀ (s : Nat) (u p : Nat → Int), Dual G N N u p → sm u N + sm p N = (s : Int) →
    ∃ (u' p' : Nat → Int) (τ : Nat → Nat), Dual G N N u' p' ∧ Inj τ N ∧ ∀ j, j < N → τ j < N ∧ u' (τ j) + p' j = G (τ j) j := by
  intro s
  induction s using Nat.strongRecOn with
  | _ s ih =>
    intro u p hd hs
    by_cases hH : Hall (fun j i => decide (u i + p j = G i j)) N N
    · obtain ⟨τ, hτ, hinj⟩ := hall_match _ _ _ _ rfl hH
      exact ⟨u, p, τ, hd, fun j k hj hk e => hinj j k hj hk e, fun j hj => ⟨(hτ j hj).1, of_decide_eq_true (hτ j hj).2⟩⟩
    · unfold Hall at hH
      obtain ⟨S, hS⟩ := Classical.not_forall.1 hH
      obtain ⟨T, hT⟩ : ∃ T, T = nb (fun j i => decide (u i + p j = G i j)) N S := ⟨_, rfl⟩
      rw [← hT] at hS
      -- columns of S one down, rows of T one up
      have cov' : ∀ i j, i < N → j < N → G i j ≤ (u i + (if T i = true then 1 else 0)) + (p j - (if S j = true then 1 else 0)) := by
        intro i j hi hj
        have h1 := hd.cov i j hi hj
        by_cases hSj : S j = true
        · by_cases hTi : T i = true
          · simp only [hSj, hTi, if_true]; omega
          · have hne : ¬ (u i + p j = G i j) := fun e => hTi (by rw [hT]; exact nb_iff.2 ⟨j, hj, hSj, decide_eq_true e⟩)
            simp only [hSj, hTi, if_true]; simp; omega
        · simp only [hSj]; split <;> simp <;> omega
      have e1 := sm_add u (fun i => if T i = true then 1 else 0) N
      have e2 := sm_sub p (fun j => if S j = true then 1 else 0) N
      rw [sm_cnt] at e1 e2
      have u0' : ∀ i, i < N → 0 ≤ u i + (if T i = true then 1 else 0) := fun i hi => by have := hd.u0 i hi; split <;> omega
      by_cases hneg : ∃ j, j < N ∧ p j - (if S j = true then 1 else 0) < 0
      · obtain ⟨j0, hj0, hlt⟩ := hneg
        have hp0 := hd.p0 j0 hj0
        have u1 : ∀ i, i < N → 1 ≤ u i + (if T i = true then 1 else 0) := by
          intro i hi
          have h1 := cov' i j0 hi hj0
          have h2 := hG i j0 hi hj0
          omega
        have d1 : Dual G N N (fun i => (u i + (if T i = true then 1 else 0)) - 1) (fun j => (p j - (if S j = true then 1 else 0)) + 1) := by
          refine ⟨fun i hi => ?_, fun j hj => ?_, fun i j hi hj => ?_⟩
          · have := u1 i hi; omega
          · have := hd.p0 j hj; split <;> omega
          · have := cov' i j hi hj; omega
        have e3 := sm_sub (fun i => u i + (if T i = true then 1 else 0)) (fun _ => 1) N
        have e4 := sm_add (fun j => p j - (if S j = true then 1 else 0)) (fun _ => 1) N
        have hsum : sm (fun i => (u i + (if T i = true then 1 else 0)) - 1) N + sm (fun j => (p j - (if S j = true then 1 else 0)) + 1) N = (s : Int) + cnt T N - cnt S N := by omega
        have hnn : 0 ≤ sm (fun i => (u i + (if T i = true then 1 else 0)) - 1) N + sm (fun j => (p j - (if S j = true then 1 else 0)) + 1) N := Int.add_nonneg (sm_nonneg N d1.u0) (sm_nonneg N d1.p0)
        exact ih (s + cnt T N - cnt S N) (by omega) _ _ d1 (by omega)
      · have p0' : ∀ j, j < N → 0 ≤ p j - (if S j = true then 1 else 0) := fun j hj => by
          apply Classical.byContradiction
          intro h
          exact hneg ⟨j, hj, by omega⟩
        have d1 : Dual G N N (fun i => u i + (if T i = true then 1 else 0)) (fun j => p j - (if S j = true then 1 else 0)) := ⟨u0', p0', cov'⟩
        have hnn : 0 ≤ sm (fun i => u i + (if T i = true then 1 else 0)) N + sm (fun j => p j - (if S j = true then 1 else 0)) N := Int.add_nonneg (sm_nonneg N d1.u0) (sm_nonneg N d1.p0)
        exact ih (s + cnt T N - cnt S N) (by omega) _ _ d1 (by omega)
theorem max_ex (G : Nat → Nat → Int) (m L : Nat) : ∃ c : Int, 0 ≤ c ∧ ∀ i j, i < m → j < L → G i j ≤ c := by
  induction m with
  | zero => exact ⟨0, Int.le_refl _, fun i j h => absurd h (Nat.not_lt_zero _)⟩
  | succ m ih =>
    obtain ⟨c, hc, h⟩ := ih
    have row : ∀ L, ∃ c' : Int, c ≤ c' ∧ ∀ j, j < L → G m j ≤ c' := by
      intro L
      induction L with
      | zero => exact ⟨c, Int.le_refl _, fun j h => absurd h (Nat.not_lt_zero _)⟩
      | succ L ih2 =>
        obtain ⟨c', h1, h2⟩ := ih2
        by_cases hL : G m L ≤ c'
        · exact ⟨c', h1, fun j hj => by
            by_cases e : j = L
            · rw [e]; exact hL
            · exact h2 j (by omega)⟩
        · exact ⟨G m L, by omega, fun j hj => by
            by_cases e : j = L
            · rw [e]; exact Int.le_refl _
            · have := h2 j (by omega); omega⟩
    obtain ⟨c', h1, h2⟩ := row L
    exact ⟨c', by omega, fun i j hi hj => by
      by_cases e : i = m
      · rw [e]; exact h2 j hj
      · have := h i j (by omega) hj; omega⟩
/-- THE DUALITY: some map of columns to rows gains just what some numbers that cover all are together. -/
theorem strong (G : Nat → Nat → Int) (m L : Nat) : ∃ (u p : Nat → Int) (τ : Nat → Nat), Dual G m L u p ∧ Inj τ L ∧ val G m L τ = sm u m + sm p L := by
  obtain ⟨c, hc, hmax⟩ := max_ex G m L
  let H : Nat → Nat → Int := fun i j => if i < m ∧ j < L ∧ 0 ≤ G i j then G i j else 0
  have hH : ∀ i j, i < m + L → j < m + L → 0 ≤ H i j := fun i j _ _ => by
    show 0 ≤ (if i < m ∧ j < L ∧ 0 ≤ G i j then G i j else 0)
    split
    · rename_i h; exact h.2.2
    · exact Int.le_refl _
  have d0 : Dual H (m + L) (m + L) (fun _ => c) (fun _ => 0) := ⟨fun _ _ => hc, fun _ _ => Int.le_refl _, fun i j _ _ => by
    show (if i < m ∧ j < L ∧ 0 ≤ G i j then G i j else 0) ≤ c + 0
    split
    · rename_i h; have := hmax i j h.1 h.2.1; omega
    · omega⟩
  have hnn := Int.add_nonneg (sm_nonneg (m + L) d0.u0) (sm_nonneg (m + L) d0.p0)
  obtain ⟨u, p, τ, hd, hinj, ht⟩ := square hH (sm (fun _ => c) (m + L) + sm (fun _ => 0) (m + L)).toNat _ _ d0 (by omega)
  have dd : Dual G m L u p := ⟨fun i hi => hd.u0 i (by omega), fun j hj => hd.p0 j (by omega), fun i j hi hj => by
    have h1 := hd.cov i j (by omega) (by omega)
    have hu := hd.u0 i (by omega)
    have hp := hd.p0 j (by omega)
    by_cases h0 : 0 ≤ G i j
    · have e : H i j = G i j := if_pos ⟨hi, hj, h0⟩
      rw [e] at h1; exact h1
    · omega⟩
  have hinjL : Inj τ L := fun j k hj hk e => hinj j k (by omega) (by omega) e
  refine ⟨u, p, τ, dd, hinjL, ?_⟩
  have a := weak hinjL dd
  have b1 : sm (fun j => H (τ j) j) (m + L) = sm (fun j => u (τ j) + p j) (m + L) := sm_congr _ fun j hj => (ht j hj).2.symm
  rw [sm_add, perm_sum hinj (fun j hj => (ht j hj).1) u hd.u0] at b1
  have b2 : ∀ n, n ≤ m → sm (fun j => H (τ j) j) (L + n) = val G m L τ := by
    intro n
    induction n with
    | zero =>
      intro _
      refine sm_congr L fun j hj => ?_
      show (if τ j < m ∧ j < L ∧ 0 ≤ G (τ j) j then G (τ j) j else 0) = if τ j < m then (if 0 ≤ G (τ j) j then G (τ j) j else 0) else 0
      by_cases h1 : τ j < m <;> by_cases h2 : 0 ≤ G (τ j) j <;> simp [h1, h2, hj]
    | succ n ihn =>
      intro hn
      show sm (fun j => H (τ j) j) (L + n) + H (τ (L + n)) (L + n) = _
      rw [ihn (by omega)]
      have : H (τ (L + n)) (L + n) = 0 := if_neg (fun h => by omega)
      omega
  have b3 := b2 m (Nat.le_refl _)
  rw [Nat.add_comm L m] at b3
  have c1 := sm_mono_len (f := u) (show m ≤ m + L by omega) hd.u0
  have c2 := sm_mono_len (f := p) (show L ≤ m + L by omega) hd.p0
  omega
end Go.Proofs.YtifbgpkjbciblaaDoor.Sal
end
section
/- Plain: what weights.best works out is the best of all matchings. -/
set_option maxRecDepth 100000
namespace Go.Proofs.YtifbgpkjbciblaaDoor.Sal
set_option linter.all false

/-- v is the best value, and numbers prove it. -/
structure Opt (G : Nat → Nat → Int) (m L : Nat) (v : Int) : Prop where
  le : ∀ τ, Inj τ L → val G m L τ ≤ v
  ge : ∀ u p, Dual G m L u p → v ≤ sm u m + sm p L
  has : ∃ τ, Inj τ L ∧ val G m L τ = v
  dual : ∃ u p, Dual G m L u p ∧ sm u m + sm p L = v
theorem opt_ex (G : Nat → Nat → Int) (m L : Nat) : ∃ v, Opt G m L v := by
  obtain ⟨u, p, τ, hd, hi, hv⟩ := strong G m L
  exact ⟨val G m L τ, fun τ' h' => by rw [hv]; exact weak h' hd, fun u' p' hd' => weak hi hd', ⟨τ, hi, rfl⟩, ⟨u, p, hd, hv.symm⟩⟩
theorem opt_uniq {G : Nat → Nat → Int} {m L : Nat} {v w : Int} (h1 : Opt G m L v) (h2 : Opt G m L w) : v = w := by
  obtain ⟨τ, hi, e⟩ := h1.has
  obtain ⟨τ', hi', e'⟩ := h2.has
  have := h1.le τ' hi'
  have := h2.le τ hi
  omega
theorem opt_of_bounds {G : Nat → Nat → Int} {m L : Nat} {v : Int} (h1 : ∀ τ, Inj τ L → val G m L τ ≤ v) (h2 : ∀ u p, Dual G m L u p → v ≤ sm u m + sm p L) : Opt G m L v := by
  obtain ⟨w, hw⟩ := opt_ex G m L
  obtain ⟨τ, hi, e⟩ := hw.has
  obtain ⟨u, p, hd, e'⟩ := hw.dual
  have := h1 τ hi
  have := h2 u p hd
  have : v = w := by omega
  rw [this]; exact hw

/-! ### The table of the program -/
theorem bit_sub {who i : Nat} (h : who.testBit i = true) (j : Nat) : (who - 2 ^ i).testBit j = (who.testBit j && !decide (i = j)) := by
  have := clr_two h
  rw [Nat.one_mul] at this
  rw [← this, clr_bit, Nat.testBit_two_pow]
theorem or_sub {who i : Nat} (h : who.testBit i = false) : (who ||| 2 ^ i) - 2 ^ i = who := by
  have hb : (who ||| 2 ^ i).testBit i = true := by rw [Nat.testBit_or, Nat.testBit_two_pow_self]; simp
  apply Nat.eq_of_testBit_eq
  intro j
  rw [bit_sub hb, Nat.testBit_or, Nat.testBit_two_pow]
  by_cases hij : i = j
  · subst hij; simp [h]
  · simp [hij]
theorem max'_ge1 (a b : Int) : a ≤ max' a b := by unfold max'; split <;> omega
theorem max'_ge2 (a b : Int) : b ≤ max' a b := by unfold max'; split <;> omega
theorem max'_le' {a b c : Int} (h1 : a ≤ c) (h2 : b ≤ c) : max' a b ≤ c := by unfold max'; split <;> omega
theorem inner_ge (g : List (List Int)) (k : Nat) (f : Nat → Int) (who : Nat) : ∀ n, f who ≤ inner g k f who n
  | 0 => Int.le_refl _
  | n + 1 => by
    have := inner_ge g k f who n
    unfold inner
    split
    · exact Int.le_trans this (max'_ge1 _ _)
    · exact this
theorem inner_has {g : List (List Int)} {k : Nat} {f : Nat → Int} {who i : Nat} (hb : who.testBit i = true) (h0 : 0 ≤ gain g i k) : ∀ n, i < n → f (who - 2 ^ i) + gain g i k ≤ inner g k f who n
  | n + 1, hi => by
    unfold inner
    by_cases h : i = n
    · subst h
      rw [if_pos ⟨hb, h0⟩]
      exact max'_ge2 _ _
    · have ih := inner_has (f := f) hb h0 n (by omega)
      split
      · exact Int.le_trans ih (max'_ge1 _ _)
      · exact ih
def bits (u : Nat → Int) (who : Nat) : Nat → Int := fun i => if who.testBit i = true then u i else 0
theorem bits_sub {u : Nat → Int} {who i m : Nat} (hb : who.testBit i = true) (hi : i < m) : sm (bits u (who - 2 ^ i)) m + u i = sm (bits u who) m := by
  have := sm_out (bits u who) hi
  rw [← this]
  have e1 : bits u who i = u i := by simp [bits, hb]
  rw [e1]
  have e2 : sm (bits u (who - 2 ^ i)) m = sm (fun j => if j = i then 0 else bits u who j) m := sm_congr m fun j _ => by
    unfold bits
    rw [bit_sub hb]
    by_cases hj : j = i
    · subst hj; simp
    · have : ¬ i = j := fun e => hj e.symm
      simp [hj, this]
  rw [e2]
theorem inner_le {g : List (List Int)} {k : Nat} {f : Nat → Int} {who m : Nat} {u : Nat → Int} {P q : Int} (hf : ∀ x, f x ≤ sm (bits u x) m + P) (hq : 0 ≤ q) (hc : ∀ i, i < m → gain g i k ≤ u i + q) :
    ∀ n, n ≤ m → inner g k f who n ≤ sm (bits u who) m + P + q
  | 0, _ => by have := hf who; unfold inner; omega
  | n + 1, hn => by
    have ih := inner_le (who := who) hf hq hc n (by omega)
    unfold inner
    split
    · rename_i h
      refine max'_le' ih ?_
      have h1 := hf (who - 2 ^ n)
      have h2 := bits_sub (u := u) (m := m) h.1 (by omega)
      have h3 := hc n (by omega)
      omega
    · exact ih
theorem best_upper {g : List (List Int)} {ks : List Nat} {u p : Nat → Int} (hd : Dual (fun i j => gain g i (ks.getD j 0)) g.length ks.length u p) : ∀ j, j ≤ ks.length → ∀ who, bestH g (ks.take j) zeroF who ≤ sm (bits u who) g.length + sm p j
  | 0, _, who => by
    have : 0 ≤ sm (bits u who) g.length := sm_nonneg _ fun i hi => by unfold bits; have := hd.u0 i hi; split <;> omega
    simp only [List.take_zero, bestH, zeroF, sm]; omega
  | j + 1, hj, who => by
    have ih := best_upper hd j (by omega)
    rw [take_snocN ks j (by omega), bestH_snoc]
    unfold stepH
    have hp := hd.p0 j (by omega)
    split
    · have := inner_le (who := who) (P := sm p j) (q := p j) ih hp (fun i hi => hd.cov i j hi (by omega)) g.length (Nat.le_refl _)
      simp only [sm]; omega
    · have := ih who
      simp only [sm]; omega
theorem best_lower {g : List (List Int)} {ks : List Nat} {τ : Nat → Nat} (hi : Inj τ ks.length) : ∀ j, j ≤ ks.length → ∃ who, who < 2 ^ g.length ∧ (∀ i, who.testBit i = true → ∃ j', j' < j ∧ τ j' = i) ∧ sm (wt (fun i j => gain g i (ks.getD j 0)) g.length τ) j ≤ bestH g (ks.take j) zeroF who
  | 0, _ => ⟨0, Nat.two_pow_pos _, fun i h => by simp at h, Int.le_refl _⟩
  | j + 1, hj => by
    obtain ⟨who, h1, h2, h3⟩ := best_lower hi j (by omega)
    rw [take_snocN ks j (by omega)]
    simp only [bestH_snoc, sm]
    by_cases hc : τ j < g.length ∧ 0 ≤ gain g (τ j) (ks.getD j 0)
    · have hbit : who.testBit (τ j) = false := by
        cases hb : who.testBit (τ j) with
        | false => rfl
        | true =>
          obtain ⟨j', hj', e⟩ := h2 _ hb
          have := hi j' j (by omega) (by omega) e
          omega
      have hlt : (who ||| 2 ^ τ j) < 2 ^ g.length := Nat.or_lt_two_pow h1 (Nat.pow_lt_pow_right (by omega) hc.1)
      refine ⟨who ||| 2 ^ τ j, hlt, fun i hb => ?_, ?_⟩
      · rw [Nat.testBit_or, Nat.testBit_two_pow] at hb
        by_cases e : τ j = i
        · exact ⟨j, by omega, e⟩
        · simp [e] at hb
          obtain ⟨j', hj', e'⟩ := h2 i hb
          exact ⟨j', by omega, e'⟩
      · have hb : (who ||| 2 ^ τ j).testBit (τ j) = true := by rw [Nat.testBit_or, Nat.testBit_two_pow_self]; simp
        have h4 := inner_has (f := bestH g (ks.take j) zeroF) hb hc.2 g.length hc.1
        rw [or_sub hbit] at h4
        unfold stepH
        rw [if_pos hlt]
        have e : wt (fun i j => gain g i (ks.getD j 0)) g.length τ j = gain g (τ j) (ks.getD j 0) := by unfold wt; rw [if_pos hc.1, if_pos hc.2]
        rw [e]; omega
    · refine ⟨who, h1, fun i hb => ?_, ?_⟩
      · obtain ⟨j', hj', e'⟩ := h2 i hb
        exact ⟨j', by omega, e'⟩
      · unfold stepH
        rw [if_pos h1]
        have h4 := inner_ge g (ks.getD j 0) (bestH g (ks.take j) zeroF) who g.length
        have e : wt (fun i j => gain g i (ks.getD j 0)) g.length τ j = 0 := by
          unfold wt
          by_cases h5 : τ j < g.length
          · rw [if_pos h5, if_neg (fun h6 => hc ⟨h5, h6⟩)]
          · rw [if_neg h5]
        rw [e]; omega
theorem maxL_ge : ∀ (l : List Int) (m : Int), m ≤ maxL m l ∧ ∀ x ∈ l, x ≤ maxL m l
  | [], m => ⟨Int.le_refl _, fun x h => by cases h⟩
  | y :: l, m => by
    have h := maxL_ge l (if m < y then y else m)
    have h1 : m ≤ (if m < y then y else m) ∧ y ≤ (if m < y then y else m) := by split <;> omega
    refine ⟨Int.le_trans h1.1 h.1, fun x hx => ?_⟩
    rcases List.mem_cons.1 hx with rfl | hx
    · exact Int.le_trans h1.2 h.1
    · exact h.2 x hx
theorem maxL_le {c : Int} : ∀ (l : List Int) (m : Int), m ≤ c → (∀ x ∈ l, x ≤ c) → maxL m l ≤ c
  | [], m, h, _ => h
  | y :: l, m, h, hl => maxL_le l _ (by have := hl y (by simp); split <;> omega) (fun x hx => hl x (by simp [hx]))
theorem bestF_opt {g : List (List Int)} (hm : g.length ≤ 8) (ks : List Nat) : Opt (fun i j => gain g i (ks.getD j 0)) g.length ks.length (bestF g ks) := by
  refine opt_of_bounds (fun τ hi => ?_) (fun u p hd => ?_)
  · obtain ⟨who, h1, _, h3⟩ := best_lower (g := g) hi ks.length (Nat.le_refl _)
    rw [List.take_length] at h3
    refine Int.le_trans h3 ((maxL_ge _ _).2 _ (List.mem_map.2 ⟨who, List.mem_range.2 (Nat.lt_of_lt_of_le h1 (pow_le_256 hm)), rfl⟩))
  · refine maxL_le _ _ (Int.add_nonneg (sm_nonneg _ hd.u0) (sm_nonneg _ hd.p0)) (fun x hx => ?_)
    obtain ⟨who, _, rfl⟩ := List.mem_map.1 hx
    have h1 := best_upper hd ks.length (Nat.le_refl _) who
    rw [List.take_length] at h1
    have h2 : sm (bits u who) g.length ≤ sm u g.length := sm_le _ fun i hi => by unfold bits; have := hd.u0 i hi; split <;> omega
    omega
end Go.Proofs.YtifbgpkjbciblaaDoor.Sal
end
section
/- Plain: the numbers of weights.Proved are the least that prove the best. -/
set_option maxRecDepth 100000
namespace Go.Proofs.YtifbgpkjbciblaaDoor.Sal
set_option linter.all false

theorem dual_congr {G G' : Nat → Nat → Int} {m L : Nat} {u u' p p' : Nat → Int} (hG : ∀ i j, i < m → j < L → G i j = G' i j) (hu : ∀ i, i < m → u i = u' i) (hp : ∀ j, j < L → p j = p' j) (h : Dual G m L u p) : Dual G' m L u' p' :=
  ⟨fun i hi => by rw [← hu i hi]; exact h.u0 i hi, fun j hj => by rw [← hp j hj]; exact h.p0 j hj, fun i j hi hj => by rw [← hG i j hi hj, ← hu i hi, ← hp j hj]; exact h.cov i j hi hj⟩
theorem val_congr {G G' : Nat → Nat → Int} {m L : Nat} {τ : Nat → Nat} (hG : ∀ i j, i < m → j < L → G i j = G' i j) : val G m L τ = val G' m L τ := sm_congr L fun j hj => by
  unfold wt
  by_cases h : τ j < m
  · simp only [h, if_true, hG _ _ h hj]
  · simp only [h, if_false]
theorem opt_congr {G G' : Nat → Nat → Int} {m L : Nat} {v : Int} (hG : ∀ i j, i < m → j < L → G i j = G' i j) (h : Opt G m L v) : Opt G' m L v :=
  opt_of_bounds (fun τ hi => by rw [← val_congr hG]; exact h.le τ hi) (fun u p hd => h.ge u p (dual_congr (fun i j hi hj => (hG i j hi hj).symm) (fun _ _ => rfl) (fun _ _ => rfl) hd))
/-- One more of column k, as the last. -/
def addc (G : Nat → Nat → Int) (n k : Nat) : Nat → Nat → Int := fun i j => if j < n then G i j else G i k
/-! ### Of the program's numbers -/
theorem VV_opt {g : List (List Int)} (hm : g.length ≤ 8) (n : Nat) : Opt (gain g) g.length n (VV g n) := by
  have h := bestF_opt hm (List.range n)
  rw [List.length_range] at h
  exact opt_congr (fun i j _ hj => by simp [hj]) h
theorem WW_opt {g : List (List Int)} (hm : g.length ≤ 8) (n k : Nat) : Opt (addc (gain g) n k) g.length (n + 1) (bestF g (List.range n ++ [k])) := by
  have h := bestF_opt hm (List.range n ++ [k])
  rw [List.length_append, List.length_range, List.length_singleton] at h
  refine opt_congr (fun i j _ hj => ?_) h
  unfold addc
  by_cases hjn : j < n
  · rw [if_pos hjn, List.getD_eq_getElem?_getD, List.getElem?_append_left (by simpa using hjn)]; simp [hjn]
  · obtain rfl : j = n := by omega
    rw [if_neg hjn, List.getD_eq_getElem?_getD, List.getElem?_append_right (by simp)]; simp
end Go.Proofs.YtifbgpkjbciblaaDoor.Sal
end
section
/- Plain: the document's table over sets of items works out the best of all matchings. -/
set_option maxRecDepth 100000
namespace Go.Proofs.YtifbgpkjbciblaaDoor.Sal
set_option linter.all false
def innS (G : Nat → Nat → Int) (i : Nat) (f : Nat → Int) (set : Nat) : Nat → Int
  | 0 => f set
  | k + 1 => if set.testBit k = true ∧ 0 ≤ G i k then max' (innS G i f set k) (f (set - 2 ^ k) + G i k) else innS G i f set k
def dpS (G : Nat → Nat → Int) (N : Nat) : Nat → Nat → Int
  | 0 => fun _ => 0
  | i + 1 => fun set => innS G i (dpS G N i) set N
section
variable {G : Nat → Nat → Int} {i : Nat} {f : Nat → Int} {set : Nat}
theorem innS_ge : ∀ k, f set ≤ innS G i f set k
  | 0 => Int.le_refl _
  | k + 1 => by
    have := innS_ge k
    unfold innS
    split
    · exact Int.le_trans this (max'_ge1 _ _)
    · exact this
theorem innS_has {j : Nat} (hb : set.testBit j = true) (h0 : 0 ≤ G i j) : ∀ k, j < k → f (set - 2 ^ j) + G i j ≤ innS G i f set k
  | k + 1, hj => by
    unfold innS
    by_cases e : j = k
    · subst e
      rw [if_pos ⟨hb, h0⟩]
      exact max'_ge2 _ _
    · have := innS_has hb h0 k (by omega)
      split
      · exact Int.le_trans this (max'_ge1 _ _)
      · exact this
theorem innS_le {p : Nat → Int} {S q : Int} {N : Nat} (hf : ∀ x, f x ≤ S + sm (bits p x) N) (hq : 0 ≤ q) (hc : ∀ k, k < N → G i k ≤ q + p k) : ∀ k, k ≤ N → innS G i f set k ≤ S + q + sm (bits p set) N
  | 0, _ => by have := hf set; unfold innS; omega
  | k + 1, hk => by
    have ih := innS_le hf hq hc k (by omega)
    unfold innS
    split
    · rename_i h
      refine max'_le' ih ?_
      have h1 := hf (set - 2 ^ k)
      have h2 := bits_sub (u := p) (m := N) h.1 (by omega)
      have h3 := hc k (by omega)
      omega
    · exact ih
theorem innS_bnd {M : Int} (hf : Bnd f M) (hg : ∀ k, G i k ≤ 1000000) : ∀ k, 0 ≤ innS G i f set k ∧ innS G i f set k ≤ M + 1000000
  | 0 => by have := hf set; unfold innS; omega
  | k + 1 => by
    unfold innS
    split
    · rename_i h
      have := hf (set - 2 ^ k)
      have := hg k
      exact max'_bnd (innS_bnd hf hg k) (by omega)
    · exact innS_bnd hf hg k
end
theorem dp_bnd {G : Nat → Nat → Int} (hg : ∀ i k, G i k ≤ 1000000) (N : Nat) : ∀ i, Bnd (dpS G N i) (1000000 * i)
  | 0 => fun x => ⟨Int.le_refl _, by simp [dpS]⟩
  | i + 1 => fun x => by
    have h := innS_bnd (G := G) (i := i) (set := x) (dp_bnd hg N i) (hg i) N
    have e : (1000000 : Int) * ((i + 1 : Nat) : Int) = 1000000 * (i : Int) + 1000000 := by omega
    rw [e]; exact h
theorem dp_upper {G : Nat → Nat → Int} {m N : Nat} {u p : Nat → Int} (hd : Dual G m N u p) : ∀ i, i ≤ m → ∀ set, dpS G N i set ≤ sm u i + sm (bits p set) N
  | 0, _, set => by
    have : 0 ≤ sm (bits p set) N := sm_nonneg _ fun j hj => by unfold bits; have := hd.p0 j hj; split <;> omega
    simp only [dpS, sm]; omega
  | i + 1, hi, set => by
    have h := innS_le (G := G) (i := i) (set := set) (q := u i) (dp_upper hd i (by omega)) (hd.u0 i (by omega)) (fun k hk => hd.cov i k (by omega) hk) N (Nat.le_refl _)
    simp only [dpS, sm]; exact h
theorem dp_lower {G : Nat → Nat → Int} {N : Nat} {τ : Nat → Nat} (hi : Inj τ N) : ∀ i set, (∀ j, j < N → τ j < i → set.testBit j = true) → sm (wt G i τ) N ≤ dpS G N i set
  | 0, set, _ => by
    have : sm (wt G 0 τ) N = sm (fun _ => 0) N := sm_congr N fun j _ => by unfold wt; simp
    rw [this, sm_const]; simp [dpS]
  | i + 1, set, h => by
    by_cases hj : ∃ j, j < N ∧ τ j = i ∧ 0 ≤ G i j
    · obtain ⟨j, hjN, hji, h0⟩ := hj
      have hb := h j hjN (by omega)
      have ih := dp_lower (G := G) hi i (set - 2 ^ j) (fun j' hj' ht => by
        rw [bit_sub hb, h j' hj' (by omega)]
        have : j ≠ j' := fun e => by subst e; omega
        simp [this])
      have h1 := innS_has (G := G) (i := i) (f := dpS G N i) hb h0 N hjN
      have h2 := sm_out (wt G (i + 1) τ) hjN
      have e1 : wt G (i + 1) τ j = G i j := by unfold wt; rw [if_pos (by omega), hji, if_pos h0]
      have e2 : sm (fun x => if x = j then 0 else wt G (i + 1) τ x) N = sm (wt G i τ) N := sm_congr N fun x hx => by
        by_cases e : x = j
        · rw [if_pos e]; subst e; unfold wt; rw [if_neg (by omega)]
        · rw [if_neg e]
          have hne : τ x ≠ i := fun ht => e (hi x j hx hjN (by omega))
          unfold wt
          by_cases h3 : τ x < i
          · rw [if_pos h3, if_pos (by omega)]
          · rw [if_neg h3, if_neg (by omega)]
      rw [e1, e2] at h2
      show sm (wt G (i + 1) τ) N ≤ innS G i (dpS G N i) set N
      omega
    · have e2 : sm (wt G (i + 1) τ) N = sm (wt G i τ) N := sm_congr N fun x hx => by
        unfold wt
        by_cases h3 : τ x < i
        · rw [if_pos h3, if_pos (by omega)]
        · rw [if_neg h3]
          by_cases h4 : τ x = i
          · rw [if_pos (by omega), if_neg (fun h0 => hj ⟨x, hx, h4, by rw [← h4]; exact h0⟩)]
          · rw [if_neg (by omega)]
      have ih := dp_lower (G := G) hi i set (fun j' hj' ht => h j' hj' (by omega))
      have h1 := innS_ge (G := G) (i := i) (f := dpS G N i) (set := set) N
      rw [e2]
      exact Int.le_trans ih h1
theorem dp_opt (G : Nat → Nat → Int) (m N : Nat) : Opt G m N (dpS G N m (2 ^ N - 1)) := by
  have hbit : ∀ j, j < N → (2 ^ N - 1).testBit j = true := fun j hj => by rw [Nat.testBit_two_pow_sub_one]; simpa using hj
  refine opt_of_bounds (fun τ hi => dp_lower hi m _ (fun j hj _ => hbit j hj)) (fun u p hd => ?_)
  have h := dp_upper hd m (Nat.le_refl _) (2 ^ N - 1)
  have e : sm (bits p (2 ^ N - 1)) N = sm p N := sm_congr N fun j hj => by unfold bits; rw [if_pos (hbit j hj)]
  rw [e] at h; exact h
theorem dp_VV {g : List (List Int)} (hm : g.length ≤ 8) (n : Nat) : dpS (gain g) n g.length (2 ^ n - 1) = VV g n := opt_uniq (dp_opt _ _ _) (VV_opt hm n)
/-- The gains with one more of an item. -/
def addG (k : Nat) (g : List (List Int)) : List (List Int) := g.map fun l => l ++ [l.getD k 0]
theorem addG_len (k : Nat) (g : List (List Int)) : (addG k g).length = g.length := by simp [addG]
theorem addG_row {k : Nat} {g : List (List Int)} {i : Nat} (hi : i < g.length) : (addG k g).getD i [] = g.getD i [] ++ [(g.getD i []).getD k 0] := by simp [addG, hi]
theorem addG_gain {k n : Nat} {g : List (List Int)} {i j : Nat} (hi : i < g.length) (hl : (g.getD i []).length = n) (hj : j < n + 1) : gain (addG k g) i j = addc (gain g) n k i j := by
  unfold gain addc
  rw [addG_row hi]
  by_cases h : j < n
  · rw [if_pos h]
    rw [List.getD_eq_getElem?_getD, List.getElem?_append_left (by omega), ← List.getD_eq_getElem?_getD]
  · have : j = n := by omega
    subst this
    rw [if_neg h, List.getD_eq_getElem?_getD, List.getElem?_append_right (by omega), hl]
    simp
theorem dp_WW {g : List (List Int)} {n k : Nat} (hm : g.length ≤ 8) (hl : ∀ i, i < g.length → (g.getD i []).length = n) : dpS (gain (addG k g)) (n + 1) g.length (2 ^ (n + 1) - 1) = bestF g (List.range n ++ [k]) :=
  opt_uniq (dp_opt _ _ _) (opt_congr (fun i j hi hj => (addG_gain hi (hl i hi) hj).symm) (WW_opt hm n k))
/-- Half way through a table: the set of numbers that a list holds. -/
def tabI (n : Nat) (f : Nat → Int) : List Int := (List.range n).map f
theorem tabI_len (n : Nat) (f : Nat → Int) : (tabI n f).length = n := by simp [tabI]
theorem tabI_get {n x : Nat} (f : Nat → Int) (h : x < n) : (tabI n f).getD x 0 = f x := by simp [tabI, h]
theorem tabI_set {n x : Nat} (f : Nat → Int) (y : Int) (h : x < n) : (tabI n f).set x y = tabI n (updF f x y) := by
  apply List.ext_getElem
  · simp [tabI]
  · intro j h1 h2
    simp only [tabI, List.getElem_set, List.getElem_map, List.getElem_range, updF]
    by_cases e : x = j
    · subst e; simp
    · rw [if_neg e, if_neg (fun e2 => e e2.symm)]
theorem tabI_congr {n : Nat} {f g : Nat → Int} (h : ∀ x, x < n → f x = g x) : tabI n f = tabI n g := by
  unfold tabI; apply List.map_congr_left; intro x hx; exact h x (List.mem_range.1 hx)
theorem half_set (f h : Nat → Int) (who : Nat) (v v' : Int) : updF (half f h who v) who v' = half f h who v' := by
  funext x
  unfold updF half
  by_cases e : x = who
  · subst e; simp
  · simp [e]
theorem half_zero (f h : Nat → Int) : half f h 0 (f 0) = f := by
  funext x; unfold half
  by_cases e : x = 0
  · subst e; simp
  · simp [e]
theorem half_next (f h : Nat → Int) (who : Nat) : half f h who (h who) = half f h (who + 1) (f (who + 1)) := by
  funext x; unfold half
  by_cases h1 : x < who
  · rw [if_pos h1, if_pos (by omega)]
  · rw [if_neg h1]
    by_cases h2 : x = who
    · subst h2; rw [if_pos rfl, if_pos (by omega)]
    · rw [if_neg h2, if_neg (by omega)]
      by_cases h3 : x = who + 1
      · rw [if_pos h3, h3]
      · rw [if_neg h3]
theorem half_self (f h : Nat → Int) (who : Nat) (v : Int) : half f h who v who = v := by unfold half; simp
end Go.Proofs.YtifbgpkjbciblaaDoor.Sal
end
section
/- Plain: idle items and bidders, scaling, turning, one more bidder, one gain more. -/
set_option maxRecDepth 100000
namespace Go.Proofs.YtifbgpkjbciblaaDoor.Sal
set_option linter.all false

/-! ### Turned -/
structure Turn (ρ ρ' : Nat → Nat) (m : Nat) : Prop where
  lt : ∀ i, i < m → ρ i < m
  lt' : ∀ i, i < m → ρ' i < m
  back : ∀ i, i < m → ρ (ρ' i) = i
  forth : ∀ i, i < m → ρ' (ρ i) = i
theorem Turn.inj {ρ ρ' : Nat → Nat} {m : Nat} (h : Turn ρ ρ' m) : Inj ρ m := fun i j hi hj e => by rw [← h.forth i hi, ← h.forth j hj, e]
theorem Turn.symm {ρ ρ' : Nat → Nat} {m : Nat} (h : Turn ρ ρ' m) : Turn ρ' ρ m := ⟨h.lt', h.lt, h.forth, h.back⟩
end Go.Proofs.YtifbgpkjbciblaaDoor.Sal
end
section
/- Core11: a range over a function, outermost, whose body does not leave it. -/
set_option maxRecDepth 100000
namespace Go.Proofs.YtifbgpkjbciblaaDoor.Sal
set_option linter.all false
open Go.RowKit
abbrev mark (D : Nat) : Deferred := { target := .collected D, args := #[] }
/-- A function without results runs off its end. -/
theorem end0 {P : Program} {fn : Func} {w : World} {R : Value → World → Prop} {N : Nat} {σ : Nat → Value} (hres : fn.results = #[]) (hR : R (.tuple #[]) w) : Post P fn R .normal (mk N σ []) w := leave_nil (results_none hres _ P w) hR
/-! ### Returns behind such a loop -/
section rets
variable {P : Program} {fn : Func} {w : World} {R : Value → World → Prop} {N : Nat} {σ : Nat → Value}
end rets
/-- The turn of a block that is no cells leaves all lists as they were. -/
def KC (w w' : World) : Prop := (∀ (a : Addr) (v : Value), w.cell? a = some v → w'.cell? a = some v) ∧ ∀ (b : Nat) (o : Obj), w.heap[b]? = some o → o.isCells = true → w'.heap[b]? = some o
theorem KC.sl {w w' : World} {v : Value} {vs : List Value} (hk : KC w w') (h : Sl w v vs) : Sl w' v vs := by
  obtain ⟨hm, a, n, c, hv, hn, hnc, hc⟩ := h
  exact ⟨hm, a, n, c, hv, hn, hnc, fun i u hi => let ⟨ad, ha, hcell⟩ := hc i u hi; ⟨ad, ha, hk.1 _ _ hcell⟩⟩
theorem Rows.parts {w : World} {v : Value} {g : List (List Int)} (h : Rows w v g) : ∃ vs, Sl w v vs ∧ vs.length = g.length ∧ ∀ (i : Nat) (u : Value) (l : List Int), vs[i]? = some u → g[i]? = some l → Ints w u l := h
theorem Ints.parts {w : World} {v : Value} {l : List Int} (h : Ints w v l) : (l.map (Value.int .i64)).length ≤ 140737488355328 ∧ ∃ a n c, v = .slice a n c ∧ (l.map (Value.int .i64)).length = n ∧ n ≤ c ∧ ∀ (i : Nat) (u : Value), (l.map (Value.int .i64))[i]? = some u → ∃ ad, a = some ad ∧ w.cell? (ad.add i) = some u := h
theorem KC.ints {w w' : World} {v : Value} {l : List Int} (hk : KC w w') (h : Ints w v l) : Ints w' v l := KC.sl hk h
theorem KC.rows {w w' : World} {v : Value} {g : List (List Int)} (hk : KC w w') (h : Rows w v g) : Rows w' v g := by
  obtain ⟨vs, hs, hl, hr⟩ := h
  exact ⟨vs, hk.sl hs, hl, fun i u l hi hg => hk.ints (hr i u l hi hg)⟩
theorem KC.turn {w w' : World} {row : Option Nat} (hg : w.grownBy w' row) (hrow : ∀ r, row = some r → ∃ o : Obj, w.heap[r]? = some o ∧ o.isCells = false) : KC w w' :=
  ⟨fun a v h => cell_kept h hg hrow, fun b o ho hc => by
    have hl := (Array.getElem?_eq_some_iff.1 ho).1
    refine (hg.block b hl fun e => ?_).trans ho
    obtain ⟨o2, h2, h3⟩ := hrow b e.symm
    rw [ho] at h2
    cases h2
    rw [hc] at h3; cases h3⟩
theorem KC.put {W : World} {l : Nat} {o o' : Obj} (h : W.heap[l]? = some o) (hc : o.isCells = false) : KC W (W.putObj l o') := KC.turn (grownBy_putObj' W l o') (fun r e => by cases e; exact ⟨o, h, hc⟩)
theorem KC.ex {w w' : World} (h : Ex w w') : KC w w' := ⟨fun a v hc => h.cell hc, fun b o ho _ => (h.block b (Array.getElem?_eq_some_iff.1 ho).1).trans ho⟩
theorem KC.trans {a b c : World} (h : KC a b) (k : KC b c) : KC a c := ⟨fun x v hc => k.1 x v (h.1 x v hc), fun x o ho hc => k.2 x o (h.2 x o ho hc) hc⟩
theorem KC.at {w w' : World} {b : Nat} {E : TypeId} {cs : List Value} (hk : KC w w') (h : At w b E cs) : At w' b E cs := hk.2 b _ h rfl
end Go.Proofs.YtifbgpkjbciblaaDoor.Sal
end
section
/- Core13: slices with three indexes, elements of arrays as values, marks. -/
set_option maxRecDepth 100000
namespace Go.Proofs.YtifbgpkjbciblaaDoor.Sal
set_option linter.all false
open Go.RowKit
section
variable {r : Option Nat} {P : Program} {ops : Array Oper} {Q : Exit → Act → World → Prop} {N : Nat} {σ : Nat → Value} {ds : List Deferred} {w : World} {rest : List Oper}
variable {d : Nat} {ty : TypeId} {pos : String} {after : Array Edge} {T E : TypeId} {x i y z : Operand}
end
/-- A region whose order Go leaves open, walked with what is known all through it. -/
theorem c_drawJ {r : Option Nat} {P : Program} {Q : Exit → Act → World → Prop} {N : Nat} {σ : Nat → Value} {ds : List Deferred} {w : World} {id : Nat} {l : List Oper} (J : World → Prop) (hJ : J w.drew) (z k : Nat) (π : List (Nat × Bool)) (hm : P.follows .mixedOrders = true) (hok : regionOK l.toArray z k π = true)
    (h : WJ r P l.toArray J z Q π (mk N σ ds) w.drew) : CW r P (.region id l.toArray true) Q (mk N σ ds) w := by
  simp only [regionOK, Bool.and_eq_true] at hok
  obtain ⟨⟨⟨h1, h2⟩, h3⟩, h4⟩ := hok
  refine wpIn_region_any hm (wpAny_of_RAJ _ _ _ _ (raj_of_wj (J := J) (fun j o ho => ?_) h2 π _ _ _ _ h3 ?_ (.inr hJ) (Nat.le_of_ble_eq_true h4) h))
  · exact (Array.all_eq_true_iff_forall_mem.1 h1) o (Array.mem_of_getElem? ho)
  · intro k hk
    exfalso
    by_cases hlt : k < l.toArray.size
    · simp at hlt; simp [hlt] at hk
    · simp at hlt; simp [Nat.not_lt.2 hlt] at hk
theorem d_ldJ {r : Option Nat} {P : Program} {J : World → Prop} {z : Nat} {Q : Exit → Act → World → Prop} {N : Nat} {σ : Nat → Value} {ds : List Deferred} {w : World} {gd : Option (Nat × Bool)} {ops : Array Oper} {i d : Nat} {π : List (Nat × Bool)} {ty : TypeId} {pos : String} {after : Array Edge}
    {E B : TypeId} {x : Operand} {b n : Nat} {cs : List Value} {u : Value} (hop : ops[i]? = some ⟨some d, .load E x, ty, pos, after, gd⟩) (hE : Ty1 P E) (hx : ev N σ x = .pointer (some ⟨b, n, none⟩)) (hA : ∀ w', J w' → At w' b B cs) (hc : cs[n]? = some u)
    (h : WJ r P ops J z Q π (mk N (upd σ d u) ds) w) (hgd : GOK ops (ev N σ) gd := by first | exact trivial | exact ⟨_, rfl, rfl⟩) : WJ r P ops J z Q ((i, true) :: π) (mk N σ ds) w :=
  d_val hop (fun w' hw => by simp [execOp, hx, Instr.loadAt, Instr.sureAddr, run_loadVar1 hE (show w'.cell? ⟨b, n, none⟩ = some u by rw [(hA w' hw).cell]; exact hc)]) h hgd
theorem KeepsFrom.ex {B : Nat} {w w' : World} (h : Ex w w') : KeepsFrom B w w' := KeepsFrom.of_grownBy h.grown (fun j e => by cases e)
theorem At.own {β : Type} {b : Nat} {E : TypeId} (f : β → List Value) : Own (fun (s : β) W => At W b E (f s)) := by
  intro s W W' row hs hg hr
  refine hs.grown hg (fun e => ?_)
  obtain ⟨o, ho, hc⟩ := hr b e
  unfold At at hs
  rw [ho] at hs; cases hs; cases hc
theorem Rw.own {β : Type} {E : TypeId} {v : Value} {vs : List Value} : Own (fun (_ : β) W => Rw W E v vs) := by
  intro s W W' row hs hg hr
  refine hs.kept hg ?_
  rcases hs.form with ⟨rfl, _⟩ | ⟨b, cap, sp, rfl, hA, _⟩
  · exact .inl rfl
  · refine .inr (fun e => ?_)
    obtain ⟨o, ho, hc⟩ := hr b e.symm
    unfold At at hA
    rw [ho] at hA; cases hA; cases hc
/-- Lists that are built side by side, their values in one block. -/
structure MBv (W : World) (T E : TypeId) (bo base n : Nat) (f : Nat → List Int) (vs : Nat → Value) : Prop where
  at' : At W bo T ((List.range n).map vs)
  rw' : ∀ k, k < n → Rw W E (vs k) ((f k).map (Value.int .i64))
  low : ∀ k, k < n → ∀ b, (vs k).ownBlock = some b → base ≤ b
  dis : ∀ k j, k < n → j < n → k ≠ j → ∀ b, (vs k).ownBlock = some b → (vs j).ownBlock ≠ some b
def fs {α : Type} (f : Nat → α) (k : Nat) (x : α) : Nat → α := fun j => if j = k then x else f j
theorem map_fs {α : Type} (f : Nat → α) {n k : Nat} (x : α) (hk : k < n) : ((List.range n).map f).set k x = (List.range n).map (fs f k x) := by
  apply List.ext_getElem?
  intro i
  rw [List.getElem?_set]
  simp only [List.length_map, List.length_range]
  by_cases hi : k = i
  · subst hi; simp [hk, fs]
  · have : ¬ i = k := fun e => hi e.symm
    simp only [if_neg hi]
    by_cases h8 : i < n <;> simp [h8, this, fs]
theorem MBv.put {W W1 W2 W3 : World} {T E : TypeId} {bo base n k : Nat} {f : Nat → List Int} {vs : Nat → Value} {l : List Int} {v' : Value} (h : MBv W T E bo base n f vs) (hk : k < n) (hx : Ex W W1) (hR : Rw W2 E v' (l.map (Value.int .i64))) (hg : W1.grownBy W2 (vs k).ownBlock)
    (hf : v'.ownBlock = (vs k).ownBlock ∨ ∀ b, v'.ownBlock = some b → W1.heap.size ≤ b) (hA : At W3 bo T (((List.range n).map vs).set k v')) (hg3 : W2.grownBy W3 (some bo)) (hbase : base ≤ W.heap.size) (hbo : bo < base) : MBv W3 T E bo base n (fs f k l) (fs vs k v') := by
  have hv' : ∀ b, v'.ownBlock = some b → base ≤ b := fun b hb => by
    rcases hf with he | hf
    · exact h.low k hk b (he ▸ hb)
    · have := hf b hb; have := hx.size; omega
  have hlt : ∀ j, j < n → ∀ b, (vs j).ownBlock = some b → b < W1.heap.size := fun j hj b hb => by
    have := (h.rw' j hj).lt b hb; have := hx.size; omega
  refine ⟨by rw [← map_fs _ _ hk]; exact hA, fun j hj => ?_, fun j hj b hb => ?_, fun i j hi hj hij b hb => ?_⟩
  · by_cases e : j = k
    · subst e
      simp only [fs, if_true]
      refine hR.kept hg3 ?_
      cases hb : v'.ownBlock with
      | none => exact .inl rfl
      | some b => exact .inr (fun e => by have e' := Option.some.inj e; have := hv' b hb; omega)
    · simp only [fs, if_neg e]
      have hne : (vs j).ownBlock = none ∨ (vs j).ownBlock ≠ (vs k).ownBlock := by
        cases hb : (vs j).ownBlock with
        | none => exact .inl rfl
        | some b => exact .inr (fun e2 => h.dis j k hj hk e b hb e2.symm)
      have h1 := ((h.rw' j hj).ex hx).kept hg hne
      refine h1.kept hg3 ?_
      cases hb : (vs j).ownBlock with
      | none => exact .inl rfl
      | some b => exact .inr (fun e => by have e' := Option.some.inj e; have := h.low j hj b hb; omega)
  · by_cases e : j = k
    · subst e
      simp only [fs, if_true] at hb
      exact hv' b hb
    · simp only [fs, if_neg e] at hb
      exact h.low j hj b hb
  · by_cases e : i = k
    · subst e
      have e2 : ¬ j = i := fun e2 => hij e2.symm
      simp only [fs, if_true] at hb
      simp only [fs, if_neg e2]
      rcases hf with he | hf
      · exact h.dis i j hi hj hij b (he ▸ hb)
      · intro hb2
        have := hf b hb; have := hlt j hj b hb2; omega
    · simp only [fs, if_neg e] at hb
      by_cases e2 : j = k
      · subst e2
        simp only [fs, if_true]
        rcases hf with he | hf
        · rw [he]; exact h.dis i j hi hj hij b hb
        · intro hb2
          have := hf b hb2; have := hlt i hi b hb; omega
      · simp only [fs, if_neg e2]
        exact h.dis i j hi hj hij b hb
theorem MBv.own {β : Type} {T E : TypeId} {bo base n : Nat} (f : β → Nat → List Int) : Own (fun (s : β) W => ∃ vs, MBv W T E bo base n (f s) vs) := by
  intro s W W' row hs hg hr
  obtain ⟨vs, h⟩ := hs
  exact ⟨vs, At.own (fun _ : Unit => (List.range n).map vs) () W W' row h.at' hg hr, fun k hk => Rw.own () W W' row (h.rw' k hk) hg hr, h.low, h.dis⟩
theorem MBv.nil {W : World} {T E : TypeId} {bo base n : Nat} (hA : At W bo T (List.replicate n (.slice none 0 0))) : MBv W T E bo base n (fun _ => []) (fun _ => .slice none 0 0) := by
  refine ⟨?_, fun k _ => Rw.nil W E, fun k _ b h => (by cases h), fun k j _ _ _ b h => (by cases h)⟩
  have e : (List.range n).map (fun _ => Value.slice none 0 0) = List.replicate n (.slice none 0 0) := by
    apply List.ext_getElem
    · simp
    · intro i h1 h2; simp
  rw [e]; exact hA
end Go.Proofs.YtifbgpkjbciblaaDoor.Sal
end
section
/- Core14: structs with arrays in them, copy, jumps within a scope, natural numbers of any kind. -/
set_option maxRecDepth 100000
namespace Go.Proofs.YtifbgpkjbciblaaDoor.Sal
set_option linter.all false
open Go.RowKit
section ends
variable {r : Option Nat} {P : Program} {Q : Exit → Act → World → Prop} {a : Act} {w : World} {rest : Code} {l : Nat}
end ends

section ops
variable {r : Option Nat} {P : Program} {ops : Array Oper} {Q : Exit → Act → World → Prop} {N : Nat} {σ : Nat → Value} {ds : List Deferred} {w : World} {rest : List Oper}
variable {d d1 d2 : Nat} {ty ty2 : TypeId} {pos pos2 : String} {after after2 : Array Edge} {T E T' t t' : TypeId} {x i y : Operand} {k : IntKind} {m n : Nat}
theorem s_nil {p : Addr} (hx : ev N σ x = .pointer (some p)) (h : WL r P ops Q rest (mk N (upd σ d (.pointer (some p))) ds) w) : WL r P ops Q (⟨some d, .nilCheck x, ty, pos, after, none⟩ :: rest) (mk N σ ds) w :=
  l_val (by intro c e; cases e) (by simp [execOp, hx, go_sem]) h
def TyN (P : Program) (E : TypeId) : Prop := ∃ i, P.info? E = some i ∧ i.size ≠ 0
theorem run_sizeOfN (h : TyN P E) (w : World) : ∃ s, s ≠ 0 ∧ (sizeOf E).run P w = .ok s w := by
  obtain ⟨i, hi, hs⟩ := h
  exact ⟨i.size, hs, by simp [sizeOf, typeInfo, hi]⟩
/-- The address of a field of any size but 0. -/
theorem s_faN {b o : Nat} {fs : Array Field} {f : Nat} {fl : Field} (hT : P.underlying T = some (.struct fs)) (hf : fs[f]? = some fl) (hE : TyN P fl.type) (hx : ev N σ x = .pointer (some ⟨b, o, none⟩))
    (h : WL r P ops Q rest (mk N (upd σ d (.pointer (some ⟨b, o + fl.offset, none⟩))) ds) w) : WL r P ops Q (⟨some d, .fieldAddr T x f, ty, pos, after, none⟩ :: rest) (mk N σ ds) w := by
  refine l_val (v := .pointer (some ⟨b, o + fl.offset, none⟩)) (by intro c e; cases e) ?_ h
  obtain ⟨s, hs, hr⟩ := run_sizeOfN hE w
  simp [execOp, hx, Instr.fieldAt, run_underlying hT, hf, Instr.sureAddr, fieldPlace, hr, hs, add_at]
end ops
section draw
variable {r : Option Nat} {P : Program} {J : World → Prop} {z : Nat} {Q : Exit → Act → World → Prop} {N : Nat} {σ : Nat → Value} {ds : List Deferred} {w : World}
variable {gd : Option (Nat × Bool)} {ops : Array Oper} {i d : Nat} {π : List (Nat × Bool)} {ty : TypeId} {pos : String} {after : Array Edge} {T E : TypeId} {x y : Operand} {k : IntKind} {n : Nat}
theorem d_nilc {p : Addr} (hop : ops[i]? = some ⟨some d, .nilCheck x, ty, pos, after, gd⟩) (hx : ev N σ x = .pointer (some p)) (h : WJ r P ops J z Q π (mk N (upd σ d (.pointer (some p))) ds) w) (hgd : GOK ops (ev N σ) gd := by first | exact trivial | exact ⟨_, rfl, rfl⟩) : WJ r P ops J z Q ((i, true) :: π) (mk N σ ds) w :=
  d_val hop (fun w' _ => by simp [execOp, hx, go_sem]) h hgd
theorem d_faN {b o : Nat} {fs : Array Field} {f : Nat} {fl : Field} (hop : ops[i]? = some ⟨some d, .fieldAddr T x f, ty, pos, after, gd⟩) (hT : P.underlying T = some (.struct fs)) (hf : fs[f]? = some fl) (hE : TyN P fl.type) (hx : ev N σ x = .pointer (some ⟨b, o, none⟩))
    (h : WJ r P ops J z Q π (mk N (upd σ d (.pointer (some ⟨b, o + fl.offset, none⟩))) ds) w) (hgd : GOK ops (ev N σ) gd := by first | exact trivial | exact ⟨_, rfl, rfl⟩) : WJ r P ops J z Q ((i, true) :: π) (mk N σ ds) w :=
  d_val (v := .pointer (some ⟨b, o + fl.offset, none⟩)) hop (fun w' _ => by
    obtain ⟨s, hs, hr⟩ := run_sizeOfN hE w'
    simp [execOp, hx, Instr.fieldAt, run_underlying hT, hf, Instr.sureAddr, fieldPlace, hr, hs, add_at]) h hgd
end draw
theorem Ty1.n {P : Program} {E : TypeId} (h : Ty1 P E) : TyN P E := let ⟨⟨i, hi, hs⟩, _⟩ := h; ⟨i, hi, by omega⟩
end Go.Proofs.YtifbgpkjbciblaaDoor.Sal
end
